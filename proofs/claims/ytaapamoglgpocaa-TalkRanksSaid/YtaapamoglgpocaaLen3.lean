/- Walks: Length, awake. -/
import Derived.Test.YtaapamoglgpocaaLen2
namespace Go.Proofs.Ytaapamoglgpocaa
open Go.RowKit Go.Maps

theorem length_all (w1 : World) (Bd bk bf : Nat) (vt : Value) (t : List (List Int)) (hv : See2 w1 vt t) (ht : T.isTab t = true) (n1 : Bd ≠ bk) (n2 : Bd ≠ bf) (n3 : bk ≠ bf) (hB : w1.heap.size ≤ Bd ∧ w1.heap.size ≤ bk ∧ w1.heap.size ≤ bf) : ∀ F, LenOk w1 Bd bk bf vt t F
  | 0 => fun r c w fk ff _ _ _ _ h => by omega
  | F + 1 => length_more w1 Bd bk bf vt t F hv ht n1 n2 n3 hB (length_all w1 Bd bk bf vt t hv ht n1 n2 n3 hB F)
/-- The least talk about a whole table. -/
def lenT (t : List (List Int)) : Nat := T.len t (2 ^ t.length - 1) (2 ^ T.cols t - 1)
def lenV (t : List (List Int)) : Value := if T.isTab t = true then .tuple #[.int .i64 (lenT t : Int), .int .i64 0] else .tuple #[.int .i64 0, .int .i64 2]
theorem whole_lt {n : Nat} (h1 : 1 ≤ n) (h4 : n ≤ 4) : 2 ^ n - 1 < 16 ∧ 2 ^ n - 1 ≠ 0 := by
  rcases (show n = 1 ∨ n = 2 ∨ n = 3 ∨ n = 4 by omega) with rfl | rfl | rfl | rfl <;> decide

set_option maxRecDepth 100000 in
set_option maxHeartbeats 1000000 in
theorem Length_any (v : Value) (t : List (List Int)) (w : World) (hv : See2 w v t) (hl : ∀ r ∈ t, r.length ≤ 1000000) (htl : t.length ≤ 1000000) : Calls Try.prog 35 #[v] w (Ret (lenV t) w) := by
  have HVa := hide (valid_any v t w hv hl htl)
  obtain ⟨ao, cap, rfl⟩ := hv.shape
  cases ht : T.isTab t with
  | false =>
    rw [ht] at HVa
    have E : Hid (lenV t = .tuple #[.int .i64 0, .int .i64 2]) := hide (by unfold lenV; rw [ht]; rfl)
    clear hv hl htl ht
    generalize t.length = n at *
    go_enter Try.func35, Try.ntmps35
    go_wp2_with fail
    refine HVa.out.mono ?_
    rintro e w1 ⟨rfl, hw1⟩
    go_wp2
    go_ret2
    exact ⟨by rw [E.out]; rfl, hw1⟩
  | true =>
    rw [ht] at HVa
    have E : Hid (lenV t = .tuple #[.int .i64 (T.len t (2 ^ t.length - 1) (2 ^ T.cols t - 1) : Int), .int .i64 0]) := hide (by unfold lenV; rw [if_pos ht]; rfl)
    have HDb := hide fun ws (hw : Chg [] w ws) => debate_any _ t ws (hv.keep hw)
    have HWh := hide fun ws (hw : Chg [] w ws) => whole_any _ t ws (hv.keep hw) ht
    have HLn := hide fun w2 Bd bk bf (hw : Chg [] w w2) (n1 : Bd ≠ bk) (n2 : Bd ≠ bf) (n3 : bk ≠ bf) (hB : w2.heap.size ≤ Bd ∧ w2.heap.size ≤ bk ∧ w2.heap.size ≤ bf) => length_all w2 Bd bk bf _ t (hv.keep hw) ht n1 n2 n3 hB (2 ^ t.length - 1 + (2 ^ T.cols t - 1) + 1)
    obtain ⟨⟨t1, t2, t3, t4⟩, _⟩ := T.isTab_iff.1 ht
    have r1 := hide (whole_lt t1 t2)
    have r2 := hide (whole_lt t3 t4)
    clear hv hl htl ht t1 t2 t3 t4
    generalize 2 ^ T.cols t - 1 = c at *
    generalize 2 ^ t.length - 1 = r at *
    generalize t.length = n at *
    go_enter Try.func35, Try.ntmps35
    go_wp2_with fail
    refine HVa.out.mono ?_
    rintro e w1 ⟨rfl, hw1⟩
    go_wp2_with fail
    refine (HDb.out _ hw1).mono ?_
    rintro e w2 ⟨Bd, bk, bf, rfl, hD, hB1, hB2, hB3, n1, n2, n3⟩
    have HD := hide hD
    have HN := hide (And.intro n1 (And.intro n2 n3))
    have HB := hide (And.intro hB1 (And.intro hB2 hB3))
    have HW1 := hide hw1
    clear hD hB1 hB2 hB3 n1 n2 n3 hw1
    go_wp2_with fail
    refine (HWh.out _ (HW1.out.trans HD.out.2.2.2)).mono ?_
    rintro e w3 ⟨rfl, hw3⟩
    unfold rectV
    have HW3 := hide hw3
    clear hw3
    go_wp2_with fail
    refine (HLn.out w1 Bd bk bf HW1.out HN.out.1 HN.out.2.1 HN.out.2.2 HB.out r c w3 _ _ r1.out.1 r2.out.1 r1.out.2 r2.out.2 (Nat.lt_succ_self _) (HD.out.keep HW3.out) (fun _ _ _ _ _ h => by cases h)).mono ?_
    rintro e w4 ⟨rfl, fk, ff, hD4, _⟩
    have HW4 := hide (HW1.out.trans hD4.2.2.2)
    clear hD4
    go_wp2
    go_ret2
    exact ⟨by rw [E.out]; rfl, HW4.out⟩

theorem see2_ex (w : World) : See2 ((w.alloc (.cells #[.int .i64 0, .int .i64 1] 3)).alloc (.cells #[.slice (some ⟨w.heap.size, 0, none⟩) 2 2] 38)) (.slice (some ⟨w.heap.size + 1, 0, none⟩) 1 1) [[0, 1]] := by
  refine ⟨some ⟨w.heap.size + 1, 0, none⟩, 1, rfl, Nat.le_refl _, fun _ => ⟨_, rfl, by simp, fun i hi => ?_⟩⟩
  obtain rfl : i = 0 := by simpa using hi
  refine ⟨.slice (some ⟨w.heap.size, 0, none⟩) 2 2, ?_, .inr ⟨⟨w.heap.size, 0, none⟩, 2, rfl, Nat.le_refl _, by simp; omega, fun j hj => ?_⟩⟩
  · rw [add_zero_row]
    have := (Box.at (w.alloc (.cells #[.int .i64 0, .int .i64 1] 3)) #[.slice (some ⟨w.heap.size, 0, none⟩) 2 2] 38 (n := w.heap.size + 1) (by simp)).cell 0
    exact this
  · rw [add_zero_row]
    have := ((Box.new w #[.int .i64 0, .int .i64 1] 3).old (.cells #[.slice (some ⟨w.heap.size, 0, none⟩) 2 2] 38)).cell j
    rw [this]
    match j, hj with
    | 0, _ => rfl
    | 1, _ => rfl
theorem lenV_ex : lenV [[0, 1]] = .tuple #[.int .i64 1, .int .i64 0] := by
  unfold lenV
  rw [if_pos (by decide), show lenT [[0, 1]] = 1 by decide +kernel]
  rfl
theorem awake_any (w : World) : Calls Try.prog 20 #[] w (Ret (.bool true) w) := by
  have HL := hide fun v ws (h : See2 ws v [[0, 1]]) => Length_any v [[0, 1]] ws h (by simp) (by simp)
  rw [lenV_ex] at HL
  go_enter Try.func20, Try.ntmps20
  go_wp2_with fail
  have hs := see2_ex w
  refine (HL.out _ _ hs).mono ?_
  rintro e w2 ⟨rfl, hw2⟩
  have C2 : Hid (Chg [] w w2) := hide ((((Chg.refl [] w).alloc _).alloc _).trans hw2)
  clear hw2 hs
  go_wp2
  go_ret
  exact ⟨rfl, C2.out⟩
end Go.Proofs.Ytaapamoglgpocaa
