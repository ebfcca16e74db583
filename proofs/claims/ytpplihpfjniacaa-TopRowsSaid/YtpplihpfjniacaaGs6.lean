/- Walks: guesses: Least, without lies. -/
import Derived.Test.YtpplihpfjniacaaGs5
namespace Go.Proofs.Ytpplihpfjniacaa
open Go.RowKit Go.Maps

/-- How many questions. -/
def IsLog (n q : Nat) : Prop := n ≤ 2 ^ q ∧ ∀ q', q' < q → 2 ^ q' < n
set_option maxRecDepth 100000 in
set_option maxHeartbeats 2000000 in
theorem Least_any (n q0 : Nat) (w : World) (h1 : 1 ≤ n) (hn : n ≤ 40) (hq : IsLog n q0) :
    Calls Try.prog 7 #[.int .i64 (n : Int), .int .i64 0] w (Ret (.tuple #[.int .i64 (q0 : Int), .int .i64 0]) w) := by
  obtain ⟨i0, hi, hz0, hz1, hz2⟩ := info_parts infoInt
  have hmm := @run_makeMap Try.prog
  have hq6 : q0 ≤ 6 := Nat.le_of_not_lt fun h => by have := hq.2 6 h; omega
  have HQ := hide hq
  have d1 : decide ((n : Int) < 1) = false := by simp; omega
  have d2 : decide ((n : Int) > 40) = false := by simp; omega
  have d2' : decide ((40 : Int) < (n : Int)) = false := by simp; omega
  have d2n : decide (40 < n) = false := by simp; omega
  clear hq
  go_enter Try.func7, Try.ntmps7
  go_wp2_with (at_make; refine wpList_make_full _ rfl _ _ 43 rfl w.heap.size 3 i0 (.int .i64 0) 1 Try.underlying43 hi hz0 hz1 _ _ _ _ 1 rfl rfl rfl rfl (by rw [hz2]; omega) (by unfold maxLen; omega) (Nat.le_refl _) ?_; intro w5 hown hgrow; have T5 := hide (IntTab.made (by simpa using hown)); have C5 : Hid (Chg [] w w5) := hide ((Chg.refl _ _).grown hgrow (fun k hk => by cases hk)); have q0' := T5.out.cell (show 0 < 1 by decide); have qf := T5.out.free 0; have ql := T5.out.lt; clear hown hgrow)
  have T6 := T5.out.set 0 (n : Int) (g := fun _ => (n : Int)) (fun j hj => by rw [if_pos (by omega)])
  have C6 : Chg [] w (w5.setCell ⟨w.heap.size, 0, none⟩ (.int .i64 (n : Int))) := C5.out.setCell (.inr (Nat.le_refl _)) _
  have hsz6 : (w5.setCell ⟨w.heap.size, 0, none⟩ (.int .i64 (n : Int))).heap.size = w5.heap.size := by simp [World.setCell]
  generalize w5.setCell ⟨w.heap.size, 0, none⟩ (.int .i64 (n : Int)) = w6 at *
  rw [← hsz6]
  have hkn := (PM.KnownM.new w6).keep ((Chg.refl [] (w6.alloc (.map #[] 0))).alloc (.cells #[.map (some w6.heap.size)] 47)) List.not_mem_nil
  have hbx := Box.at (w6.alloc (.map #[] 0)) #[.map (some w6.heap.size)] 47 (n := w6.heap.size + 1) (by simp)
  have cW := (C6.alloc (.map #[] 0)).alloc (.cells #[.map (some w6.heap.size)] 47)
  have cT := ((Chg.refl [] w6).alloc (.map #[] 0)).alloc (.cells #[.map (some w6.heap.size)] 47)
  have hSe : See ((w6.alloc (.map #[] 0)).alloc (.cells #[.map (some w6.heap.size)] 47)) (.slice (some ⟨w.heap.size, 0, none⟩) 1 1) [(n : Int)] := (T6.keep cT List.not_mem_nil).see rfl (fun i hi => by cases (show i = 0 by omega); rfl)
  have hlow : w.heap.size ≤ w6.heap.size := C6.size
  generalize (w6.alloc (.map #[] 0)).alloc (.cells #[.map (some w6.heap.size)] 47) = W at *
  generalize w6.heap.size = bk at *
  have HI := hide (show Iv (bk + 1) bk W (fun _ _ => none) from ⟨hbx, hkn, by omega, fun _ _ _ _ _ h => by cases h⟩)
  have HSe := hide hSe
  have HW := hide cW
  have HL := hide hlow
  clear T6 C6 hsz6 hkn hbx cW cT hSe hlow q0' qf ql T5
  go_loopw [8] (fun qv ws => ∃ q : Nat, q ≤ q0 ∧ qv = .int .i64 (q : Int) ∧ Hid (∃ fk, Iv (bk + 1) bk ws fk ∧ Chg [bk] W ws)) (fun qv _ => q0 - (intOf qv).toNat)
  case atStart => exact ⟨0, Nat.zero_le _, rfl, hide ⟨_, HI.out, Chg.refl _ _⟩⟩
  case round =>
    obtain ⟨q, hqq, rfl, hJ⟩ := hrel
    have HCall := hide (show ∃ fk, Iv (bk + 1) bk wr fk ∧ Chg [bk] W wr ∧ Calls Try.prog 18 #[.pointer (some ⟨bk + 1, 0, none⟩), .slice (some ⟨w.heap.size, 0, none⟩) 1 1, .int .i64 (q : Int)] wr (WinsIs (bk + 1) bk (.bool (decide (n ≤ 2 ^ q))) wr) from by
      obtain ⟨fk, h2, h3⟩ := hJ.out
      exact ⟨fk, h2, h3, winsC_all (bk + 1) bk q (by omega) n _ wr fk hn (HSe.out.keepM HI.out.2.1 h3) h2⟩)
    obtain ⟨fk, hIv, hcw, hcall⟩ := HCall.out
    have HCw := hide hcw
    have HCl := hide hcall
    clear hIv hcw hcall HCall hJ
    by_cases hlt : q < q0
    · have hf := HQ.out.2 q hlt
      rw [decide_eq_false (show ¬ n ≤ 2 ^ q by omega)] at HCl
      clear hf
      go_wp2_with fail
      refine HCl.out.mono ?_
      rintro e w2 ⟨rfl, fk2, hI2, hc2⟩
      have HH := hide (⟨fk2, hI2, HCw.out.trans hc2⟩ : ∃ fk, Iv (bk + 1) bk w2 fk ∧ Chg [bk] W w2)
      clear hI2 hc2
      go_wp2
      go_roundw
      case rel => exact ⟨q + 1, by omega, by go_num, HH⟩
      case measure => simp [intOf]; omega
    · obtain rfl : q = q0 := by omega
      rw [decide_eq_true HQ.out.1] at HCl
      go_wp2_with fail
      refine HCl.out.mono ?_
      rintro e w2 ⟨rfl, fk2, hI2, hc2⟩
      have HF : Hid (Chg [] w w2) := hide (HW.out.trans' (HCw.out.trans hc2) (fun y hy => .inr (by rw [List.mem_singleton.1 hy]; exact HL.out)))
      clear hI2 hc2
      go_wp2
      go_ret2
      exact ⟨rfl, HF.out⟩
end Go.Proofs.Ytpplihpfjniacaa
