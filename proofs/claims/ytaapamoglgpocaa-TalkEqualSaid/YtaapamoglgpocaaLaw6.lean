/- Walk: the statement TalkEqual. -/
import Derived.Test.YtaapamoglgpocaaEqPlain
import Derived.Test.YtaapamoglgpocaaPlan1
import Derived.Test.YtaapamoglgpocaaRDepth
namespace Go.Proofs.Ytaapamoglgpocaa
open Go.RowKit

/-- A row of zeros with a one in it. -/
theorem one_row {w : World} {base g n i : Nat} (h : w.ownsRow base 3 1 (.slice (some ⟨g, 0, none⟩) n n) n (List.replicate n (.int .i64 0))) : Ints (w.setCell ⟨g, i, none⟩ (.int .i64 1)) (.slice (some ⟨g, 0, none⟩) n n) ((List.replicate n (0 : Int)).set i 1) := by
  have h1 := row_low (row_put h (o := i) (.int .i64 1)) (Nat.zero_le _)
  unfold Ints
  rw [List.length_set, List.length_replicate, List.map_set, List.map_replicate]
  exact h1
theorem made_row {w : World} {base g n : Nat} (h : w.ownsRow base 3 1 (.slice (some ⟨g, 0, none⟩) n n) n (madeCells (Value.int .i64 0).cells (n * 1)).toList) : w.ownsRow base 3 1 (.slice (some ⟨g, 0, none⟩) n n) n (List.replicate n (.int .i64 0)) := by
  have e : (Value.int .i64 0).cells = #[.int .i64 0] := rfl
  rw [e, toList_madeCells_one, Nat.mul_one] at h
  exact h
theorem idT_small (n : Nat) (h : T.isTab (idT n) = true) : (∀ r ∈ idT n, r.length ≤ 1000000) ∧ (idT n).length ≤ 1000000 := by
  have h1 := T.isTab_iff.1 h
  exact ⟨fun r hr => by have := (T.rowOk_iff.1 (h1.2 r hr)).1; omega, by omega⟩

set_option maxRecDepth 100000 in
set_option maxHeartbeats 4000000 in
theorem equal_n (a1 : Int) (G N K : Nat) (w : World) (hA : wrap64 ((IntKind.u64.wrap a1).tmod 3) = (G : Int)) (hG : N = 2 + G) (hN : (N = 2 ∧ K = 1) ∨ (N = 3 ∧ K = 2) ∨ (N = 4 ∧ K = 2)) (htab : T.isTab (idT N) = true) (hlt0 : lenT (idT N) = K + 1) (hfl : (foolM (idT N) 1).length = N) :
    Calls Try.prog 6 #[.int .i64 a1] w (Ret (.bool true) w) := by
  obtain ⟨i0, hi, hz0, hz1, hz2⟩ := info_parts infoInt
  obtain ⟨i1, hj, hy0, hy1, hy2⟩ := info_parts infoInts
  have HT1 := hide fun v ws (h : See2 ws v (idT N)) => table_any v (idT N) ws h (by rw [idT_len]; omega)
  rw [T.cut_of_isTab htab] at HT1
  have HFo := hide fun v ws (h : See2 ws v (idT N)) => Fool_good v (idT N) 1 ws h (idT_small _ htab).1 (idT_small _ htab).2 htab (.inr rfl)
  have HLe := hide fun v ws (h : See2 ws v (idT N)) => Length_any v (idT N) ws h (idT_small _ htab).1 (idT_small _ htab).2
  have hlv : lenV (idT N) = .tuple #[.int .i64 ((K + 1 : Nat) : Int), .int .i64 0] := by unfold lenV; rw [if_pos htab, hlt0]
  rw [hlv] at HLe
  have HFl := hide hfl
  have HAw := hide fun ws => awake_any ws
  have hw : IntKind.i64.wrap (2 + (G : Int)) = (N : Int) := by rw [show (2 : Int) + (G : Int) = (N : Int) by omega]; exact wraps_i64 _ (by omega) (by omega)
  have hN4 : N ≤ 4 := by omega
  have HN := hide hN
  clear hlv htab hlt0 hfl hG hN
  go_enter Try.func6, Try.ntmps6
  go_wp2
  try rw [hA]
  clear hA hw
  go_loopw [3, 17] (fun ov iv wr => ∃ i : Nat, i ≤ N ∧ iv = .int .i64 (i : Int) ∧ Hid (Rows2 wr w.heap.size ov ((idT N).take i) ∧ Chg [] w wr)) (fun _ iv _ => N - (intOf iv).toNat)
  case atStart => exact ⟨0, Nat.zero_le _, rfl, hide ⟨Rows2.nil _ _, Chg.refl _ _⟩⟩
  case round =>
    obtain ⟨i, hin, rfl, hI⟩ := hrel
    by_cases hlt : i < N
    · have d1 : decide ((i : Int) < (N : Int)) = true := by simpa using hlt
      obtain ⟨us, hus, ho, hr⟩ := hI.out.1
      have hlen : ((idT N).take i).length = i := by rw [List.length_take, idT_len]; omega
      rw [hlen] at ho hus
      obtain ⟨oo, oc, rfl, hoc⟩ := row_shape ho
      have HO := hide ho
      have HUs := hide (And.intro hus hr)
      have C1 := hide hI.out.2
      have HLen := hide hlen
      have ii0 : (0 : Int) ≤ (i : Int) := by omega
      have ii1 : (i : Int) < (N : Int) := by omega
      have ii2 : i < N := hlt
      have hsz1 := C1.out.size
      clear hus ho hr hI hlen hlt
      go_wp2_with (first | (at_make; refine wpList_make_full _ rfl _ _ 38 rfl 0 3 i0 (.int .i64 0) 1 Try.underlying38 hi hz0 hz1 _ _ _ _ N rfl rfl rfl rfl (by rw [hz2]; omega) (by unfold maxLen; omega) (Nat.zero_le _) ?_; intro w5 hown hgrow; have HRow := hide (made_row (by simpa using hown)); have T5 := hide (IntTab.made (by simpa using hown)); have C5 : Hid (Chg [] wr w5) := hide ((Chg.refl _ _).grown hgrow (fun k hk => by cases hk)); have ff := T5.out.free i; have fc := T5.out.cell ii2; have lt5 := T5.out.lt; have hz5 := C5.out.size; have HI1 := hide (one_row (i := i) HRow.out); have HC6 : Hid (Chg [] wr (w5.setCell ⟨wr.heap.size, i, none⟩ (.int .i64 1))) := hide (C5.out.setCell (.inr (Nat.le_refl _)) _); have HO6 := hide (HC6.out.row HO.out (fun _ _ => List.not_mem_nil)); have HR6 := hide (fun i u h => (HUs.out.2 i u h).keep HC6.out); have C6 : Hid (Chg [] w (w5.setCell ⟨wr.heap.size, i, none⟩ (.int .i64 1))) := hide (C1.out.trans HC6.out); have HZ6 : Hid (w.heap.size ≤ (w5.setCell ⟨wr.heap.size, i, none⟩ (.int .i64 1)).heap.size) := hide C6.out.size; clear hown hgrow) | (at_builtin; refine wpList_append_own _ rfl _ _ 22 rfl w.heap.size 38 i1 (.slice none 0 0) 1 24 Try.underlying22 hj hy0 hy1 hy2 rfl (by decide) (.slice oo i oc) i us rfl (HO6.out.alloc _) ⟨w5.heap.size, 0, none⟩ 1 1 [.slice (some ⟨wr.heap.size, 0, none⟩) N N] rfl rfl (by intro j u hj; have hb := (Box.at (w5.setCell ⟨wr.heap.size, i, none⟩ (.int .i64 1)) #[.slice (some ⟨wr.heap.size, 0, none⟩) N N] 38 (n := w5.heap.size) (by simp [World.setCell])).cell j; rw [add_zero_row]; refine Eq.trans hb ?_; simpa using hj) (by intro x hx; rw [List.mem_singleton] at hx; subst hx; rfl) (by unfold maxLen; omega) (by omega) (by have := HZ6.out; simp at this ⊢; omega) ?_; intro v1 w7 hown1 hgrow1 _))
      go_roundw
      case rel =>
        refine ⟨i + 1, by omega, by go_num, hide ⟨?_, chg_grown (C6.out.alloc _) (HO6.out.alloc _) (Nat.le_refl _) hgrow1⟩⟩
        rw [idT_take ii2]
        exact Rows2.push (us := us) (u := .slice (some ⟨wr.heap.size, 0, none⟩) N N) (by rw [HLen.out]; exact HUs.out.1) (by rw [HLen.out]; exact HO6.out.alloc _) (fun i u h => (HR6.out i u h).keep ((Chg.refl _ _).alloc _)) (HI1.out.keep ((Chg.refl _ _).alloc _)) hgrow1 (by rw [HLen.out]; exact hown1)
      case measure => simp [intOf]; omega
    · have d1 : decide ((i : Int) < (N : Int)) = false := by simpa using hlt
      obtain rfl : i = N := by omega
      have hR := hI.out.1
      rw [show (idT i).take i = idT i from List.take_of_length_le (by rw [idT_len]; exact Nat.le_refl _)] at hR
      have HR := hide hR
      have C1 := hide hI.out.2
      clear hI hR hlt hin
      go_wp2
      go_loop [6] (fun bv => ∃ b : Nat, b ≤ K ∧ bv = .int .i64 (b : Int)) (fun bv => K - (intOf bv).toNat)
      case atStart => exact ⟨0, Nat.zero_le _, rfl⟩
      case round =>
        obtain ⟨b, hb, rfl⟩ := hrel
        by_cases hbk : b < K
        · rcases HN.out with ⟨rfl, rfl⟩ | ⟨rfl, rfl⟩ | ⟨rfl, rfl⟩
          · obtain rfl : b = 0 := by omega
            go_wp2
            go_round
            case rel => exact ⟨1, by omega, by go_num⟩
            case measure => simp [intOf]
          · rcases (show b = 0 ∨ b = 1 by omega) with rfl | rfl
            · go_wp2
              go_round
              case rel => exact ⟨1, by omega, by go_num⟩
              case measure => simp [intOf]
            · go_wp2
              go_round
              case rel => exact ⟨2, by omega, by go_num⟩
              case measure => simp [intOf]
          · rcases (show b = 0 ∨ b = 1 by omega) with rfl | rfl
            · go_wp2
              go_round
              case rel => exact ⟨1, by omega, by go_num⟩
              case measure => simp [intOf]
            · go_wp2
              go_round
              case rel => exact ⟨2, by omega, by go_num⟩
              case measure => simp [intOf]
        · obtain rfl : b = K := by omega
          have S1 := hide HR.out.toSee2
          rcases HN.out with ⟨rfl, rfl⟩ | ⟨rfl, rfl⟩ | ⟨rfl, rfl⟩
          all_goals (
            go_wp2_with fail
            refine (HT1.out _ _ S1.out).mono ?_
            rintro e w2 ⟨v2, rfl, hI, hw⟩
            have HI := hide hI
            have C2 : Hid (Chg [] w w2) := hide (C1.out.trans hw)
            have S2 := hide (S1.out.keep hw)
            clear hI hw
            go_wp2_with fail
            refine (HFo.out _ _ HI.out).mono ?_
            rintro e w3 ⟨v3, rfl, hS, hw⟩
            obtain ⟨fo, fc, rfl, _⟩ := hS.shape
            rw [HFl.out]
            have C3 : Hid (Chg [] w w3) := hide (C2.out.trans hw)
            have S3 := hide (S2.out.keep hw)
            clear hS hw
            go_wp2_with fail
            refine (HLe.out _ _ S3.out).mono ?_
            rintro e w4 ⟨rfl, hw⟩
            have C4 : Hid (Chg [] w w4) := hide (C3.out.trans hw)
            clear hw
            go_wp2_with fail
            refine (HAw.out _).mono ?_
            rintro e w5 ⟨rfl, hw⟩
            have C5 : Hid (Chg [] w w5) := hide (C4.out.trans hw)
            clear hw
            go_wp2
            go_ret
            exact ⟨rfl, C5.out⟩)
theorem talkEqual_walk (v : Value) (w : World) (hv : IsInt v) : Calls Try.prog 6 #[v] w (Ret (.bool true) w) := by
  obtain ⟨a1, rfl, _⟩ := hv
  obtain ⟨G, hG, hG3⟩ := mod_small a1 3 (by decide) (by decide)
  rw [show ((3 : Nat) : Int) = 3 from rfl] at hG
  rcases (show G = 0 ∨ G = 1 ∨ G = 2 by omega) with rfl | rfl | rfl
  · exact equal_n a1 0 2 1 w hG rfl (.inl ⟨rfl, rfl⟩) tabT2 lenT2 foolT2
  · exact equal_n a1 1 3 2 w hG rfl (.inr (.inl ⟨rfl, rfl⟩)) tabT3 lenT3 foolT3
  · exact equal_n a1 2 4 2 w hG rfl (.inr (.inr ⟨rfl, rfl⟩)) tabT4 lenT4 foolT4
end Go.Proofs.Ytaapamoglgpocaa
