/- Walks: Need. -/
import Derived.Test.YtohdjlgghkcaoaaW12
namespace Go.Proofs.Ytohdjlgghkcaoaa
open Go.RowKit

theorem wins_any : ∀ n, n ≤ 6 → WinsOk n
  | 0, h => wins_step 0 h (fun m hm => by omega)
  | n + 1, h => wins_step (n + 1) h (fun m hm => by
    obtain rfl : m = n := by omega
    exact wins_any m (by omega))

/-- The need, as it is handed back. -/
def needR : Option Nat → Value
  | some n => .tuple #[.int .i64 (n : Int), .bool true]
  | none => .tuple #[.int .i64 0, .bool false]
def NeedsIs (k : W.K) (bm : Nat) (w : World) (e : Ending) (w' : World) : Prop := e = .returned (needR (W.need 6 k)) ∧ Chg [bm] w w' ∧ MemoIs w' bm

set_option maxRecDepth 100000 in
set_option maxHeartbeats 1000000 in
theorem need_any (k : W.K) (hk : okK k) (bb bm : Nat) (w : World) (hbb : At w bb (.map (some bm))) (hM : MemoIs w bm) (hne : bb ≠ bm) :
    Calls Try.prog 51 #[.pointer (some ⟨bb, 0, none⟩), .agg #[.int .i64 (k.b : Int), .int .i64 (k.h : Int), .int .i64 (k.l : Int), .int .i64 (k.g : Int), .bool k.n]] w (NeedsIs k bm w) := by
  have HB := hide hbb
  have HM := hide hM
  have HK := hide hk
  have lb := hbb.lt
  have lM := hM.lt
  clear hbb hM hk
  go_enter Try.func51, Try.ntmps51
  go_wp2
  have bk := Box.new w #[.int .i64 (k.b : Int), .int .i64 (k.h : Int), .int .i64 (k.l : Int), .int .i64 (k.g : Int), .bool k.n] 27
  have c0 : Chg [] w (w.alloc (.cells #[.int .i64 (k.b : Int), .int .i64 (k.h : Int), .int .i64 (k.l : Int), .int .i64 (k.g : Int), .bool k.n] 27)) := (Chg.refl _ _).alloc _
  generalize (w.alloc (.cells #[.int .i64 (k.b : Int), .int .i64 (k.h : Int), .int .i64 (k.l : Int), .int .i64 (k.g : Int), .bool k.n] 27)) = W0 at bk c0 ⊢
  have BK := hide bk
  have C0 := hide c0
  have n8 : w.heap.size ≠ bm := by omega
  clear bk c0
  go_loopw [7] (fun i wr => ∃ j : Nat, j ≤ 6 ∧ i = .int .i64 (j : Int) ∧ Hid ((∀ j', j' < j → W.wins j' k = false) ∧ Chg [bm] W0 wr ∧ MemoIs wr bm)) (fun i _ => 6 - (intOf i).toNat)
  case atStart => exact ⟨0, by omega, rfl, hide ⟨fun j' h => by omega, Chg.refl _ _, HM.out.keep C0.out (by simp)⟩⟩
  case round =>
    obtain ⟨j, hj, rfl, hI⟩ := hrel
    have bk := BK.out.keep hI.out.2.1 (by simpa using n8)
    have f2 := fun o => bk.cell o
    have l2 := bk.lt
    by_cases hlt : j < 6
    · have d1 : decide ((j : Int) < 6) = true := by simp; omega
      go_wp2_with fail
      refine (wins_any j (by omega) k bb bm wr HK.out (HB.out.keep (C0.out.toAny.trans hI.out.2.1) (by simpa using hne)) hI.out.2.2 hne).mono ?_
      rintro e w2 ⟨rfl, hc2, hm2⟩
      have HC2 := hide hc2
      have HM2 := hide hm2
      clear hc2 hm2 bk f2
      by_cases hw : W.wins j k = true
      · have E : Hid (W.need 6 k = some j) := hide (W.need_some.2 ⟨hlt, hw, hI.out.1⟩)
        go_wp2
        go_ret2
        exact ⟨by rw [E.out]; rfl, C0.out.toAny.trans (hI.out.2.1.trans HC2.out), HM2.out⟩
      · rw [Bool.not_eq_true] at hw
        have E : Hid (∀ j', j' < j + 1 → W.wins j' k = false) := hide (fun j' h => by
          rcases (show j' < j ∨ j' = j by omega) with h | rfl
          · exact hI.out.1 j' h
          · exact hw)
        go_wp2
        go_roundw
        case rel => exact ⟨j + 1, by omega, by go_num, hide ⟨E.out, hI.out.2.1.trans HC2.out, HM2.out⟩⟩
        case measure => simp [intOf]; omega
    · obtain rfl : j = 6 := by omega
      have E : Hid (W.need 6 k = none) := hide (W.need_none.2 hI.out.1)
      go_wp2
      go_ret2
      exact ⟨by rw [E.out]; rfl, C0.out.toAny.trans hI.out.2.1, hI.out.2.2⟩

/-- What Need hands back. -/
def needE : Option Nat → Value
  | some n => .tuple #[.int .i64 (n : Int), .int .i64 0]
  | none => .tuple #[.int .i64 0, .int .i64 4]

set_option maxRecDepth 100000 in
set_option maxHeartbeats 1000000 in
theorem Need_yes (k : W.K) (hk : okK k) (w : World) :
    Calls Try.prog 16 #[.agg #[.int .i64 (k.b : Int), .int .i64 (k.h : Int), .int .i64 (k.l : Int), .int .i64 (k.g : Int), .bool k.n]] w (Ret (needE (W.need 6 k)) w) := by
  have hmm := @run_makeMap Try.prog
  have hv := hk.vld
  have HK := hide hk
  clear hk
  go_enter Try.func16, Try.ntmps16
  go_wp2_with (go_at_call 50; refine (valid_any _ _ _ _ _ _).mono ?_; rintro e w1 ⟨rfl, hw1⟩; (first | (replace hw0 := Chg.trans hw0 hw1; clear hw1 hc0 hf0 hz0) | (have hw0 := hw1; clear hw1)); obtain ⟨hc0, hf0⟩ := hw0.reads; have hzz := hw0.size; simp at hzz; have hz0 : w.heap.size < w1.heap.size := (by omega); clear hzz)
  have HMp := MemoIs.new w1
  have hbbN : At ((w1.alloc (Obj.map #[] 0)).alloc (Obj.cells #[Value.map (some w1.heap.size)] 79)) (w1.heap.size + 1) (.map (some w1.heap.size)) := At.of_box (Box.at _ _ _ (by simp))
  have c1 : Chg [] w1 ((w1.alloc (Obj.map #[] 0)).alloc (Obj.cells #[Value.map (some w1.heap.size)] 79)) := ((Chg.refl _ _).alloc _).alloc _
  refine (need_any k HK.out (w1.heap.size + 1) w1.heap.size _ hbbN (HMp.keep ((Chg.refl [] _).alloc _) (by simp)) (by omega)).mono ?_
  rintro e w2 ⟨rfl, hc2, _⟩
  have cw : Hid (Chg [] w w1) := by clear hc0 hf0; exact hide (((Chg.refl _ _).alloc _).trans hw0)
  have hfin : Hid (Chg [] w w2) := hide ((cw.out.trans c1).trans' hc2 (by simp; omega))
  clear hc2 c1 HMp hbbN hc0 hf0 hw0
  cases hn : W.need 6 k with
  | none =>
    have HN := hide hn
    clear hn
    rw [needR]
    go_wp2
    go_ret2
    exact ⟨by rw [HN.out]; rfl, hfin.out⟩
  | some n =>
    have HN := hide hn
    clear hn
    rw [needR]
    go_wp2
    go_ret2
    exact ⟨by rw [HN.out]; rfl, hfin.out⟩

set_option maxRecDepth 100000 in
set_option maxHeartbeats 1000000 in
theorem Need_no (b h l g : Int) (n : Bool) (hv : W.vld b h l g n = false) (w : World) :
    Calls Try.prog 16 #[.agg #[.int .i64 b, .int .i64 h, .int .i64 l, .int .i64 g, .bool n]] w (Ret (.tuple #[.int .i64 0, .int .i64 2]) w) := by
  go_enter Try.func16, Try.ntmps16
  go_wp2_with (go_at_call 50; refine (valid_any _ _ _ _ _ _).mono ?_; rintro e w1 ⟨rfl, hw1⟩; (first | (replace hw0 := Chg.trans hw0 hw1; clear hw1 hc0 hf0 hz0) | (have hw0 := hw1; clear hw1)); obtain ⟨hc0, hf0⟩ := hw0.reads; have hzz := hw0.size; simp at hzz; have hz0 : w.heap.size < w1.heap.size := (by omega); clear hzz)
  go_ret2
  clear hc0 hf0
  exact ⟨rfl, by (repeat' (first | with_reducible exact Chg.refl _ _ | with_reducible assumption | with_reducible apply Chg.drewN | with_reducible apply Chg.drew | with_reducible apply Chg.alloc | (with_reducible refine Chg.setCell ?_ (Or.inr ?_) _) | (with_reducible refine Chg.trans ?_ (by assumption)) | (simp; done) | (simp; omega)))⟩

theorem need2 (w : World) : Calls Try.prog 16 #[.agg #[.int .i64 0, .int .i64 2, .int .i64 0, .int .i64 0, .bool false]] w (Ret (.tuple #[.int .i64 1, .int .i64 0]) w) := by
  have h := Need_yes ⟨0, 2, 0, 0, false⟩ ⟨by decide, by decide, by decide⟩ w
  rw [W.need_awake] at h
  exact h

set_option maxRecDepth 100000 in
set_option maxHeartbeats 1000000 in
theorem awake_any (w : World) : Calls Try.prog 17 #[] w (Ret (.bool true) w) := by
  go_enter Try.func17, Try.ntmps17
  go_wp2_with (go_at_call 16; refine (need2 _).mono ?_; rintro e w1 ⟨rfl, hw1⟩)
  go_ret
  exact ⟨rfl, hw1⟩

end Go.Proofs.Ytohdjlgghkcaoaa
