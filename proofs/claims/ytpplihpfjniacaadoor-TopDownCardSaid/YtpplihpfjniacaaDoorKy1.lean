/- Walks: comparisons; the least of a list by a comparison. -/
import Derived.Test.YtpplihpfjniacaaDoorLr5
namespace Go.Proofs.YtpplihpfjniacaaDoor
open Go.RowKit Go.Maps

set_option maxRecDepth 100000 in
theorem nan_s (x : Int) (w : World) : Calls Tryd.prog 85 #[.int .i64 x] w (Ret (.bool false) w) := by
  have e : (x != x) = false := by simp
  go_enter Tryd.func85, Tryd.ntmps85
  go_wp2
  go_ret
  exact ⟨rfl, Chg.refl _ _⟩
set_option maxRecDepth 100000 in
theorem nan_c (x : Int) (w : World) : Calls Tryd.prog 102 #[.int .i64 x] w (Ret (.bool false) w) := by
  have e : (x != x) = false := by simp
  go_enter Tryd.func102, Tryd.ntmps102
  go_wp2
  go_ret
  exact ⟨rfl, Chg.refl _ _⟩
set_option maxRecDepth 100000 in
theorem less_any (x y : Int) (w : World) : Calls Tryd.prog 84 #[.int .i64 x, .int .i64 y] w (Ret (.bool (decide (x < y))) w) := by
  have HN := hide fun x ws => nan_c x ws
  go_enter Tryd.func84, Tryd.ntmps84
  go_wp2_with fail
  refine (HN.out x _).mono ?_
  rintro e w1 ⟨rfl, hw⟩
  go_wp2
  go_ret
  exact ⟨rfl, hw⟩
def cmpI (x y : Int) : Int := if x < y then -1 else if y < x then 1 else 0
set_option maxRecDepth 100000 in
theorem compare_any (x y : Int) (w : World) : Calls Tryd.prog 89 #[.int .i64 x, .int .i64 y] w (Ret (.int .i64 (cmpI x y)) w) := by
  have HN := hide fun x ws => nan_c x ws
  have HR : Hid (cmpI x y = if x < y then -1 else if y < x then 1 else 0) := hide rfl
  generalize cmpI x y = R at *
  by_cases h1 : x < y
  · have d1 : decide (x < y) = true := by simpa using h1
    rw [if_pos h1] at HR
    clear h1
    go_enter Tryd.func89, Tryd.ntmps89
    go_wp2_with fail
    refine (HN.out x _).mono ?_
    rintro e w1 ⟨rfl, hw⟩
    go_wp2_with fail
    refine (HN.out y _).mono ?_
    rintro e w2 ⟨rfl, hw2⟩
    go_wp2
    go_ret
    exact ⟨by rw [HR.out]; rfl, hw.trans hw2⟩
  · have d1 : decide (x < y) = false := by simpa using h1
    rw [if_neg h1] at HR
    by_cases h2 : y < x
    · have d2 : decide (x > y) = true := by simpa using h2
      have d2' : decide (y < x) = true := by simpa using h2
      rw [if_pos h2] at HR
      clear h1 h2
      go_enter Tryd.func89, Tryd.ntmps89
      go_wp2_with fail
      refine (HN.out x _).mono ?_
      rintro e w1 ⟨rfl, hw⟩
      go_wp2_with fail
      refine (HN.out y _).mono ?_
      rintro e w2 ⟨rfl, hw2⟩
      go_wp2
      go_ret
      exact ⟨by rw [HR.out]; rfl, hw.trans hw2⟩
    · have d2 : decide (x > y) = false := by simpa using h2
      have d2' : decide (y < x) = false := by simpa using h2
      rw [if_neg h2] at HR
      clear h1 h2
      go_enter Tryd.func89, Tryd.ntmps89
      go_wp2_with fail
      refine (HN.out x _).mono ?_
      rintro e w1 ⟨rfl, hw⟩
      go_wp2_with fail
      refine (HN.out y _).mono ?_
      rintro e w2 ⟨rfl, hw2⟩
      go_wp2
      go_ret
      exact ⟨by rw [HR.out]; rfl, hw.trans hw2⟩
def orV : List Int → Int
  | [] => 0
  | x :: xs => if x = 0 then orV xs else x
theorem orV_drop {xs : List Int} {i : Nat} (h : i < xs.length) : orV (xs.drop i) = if xs.getD i 0 = 0 then orV (xs.drop (i + 1)) else xs.getD i 0 := by
  rw [List.drop_eq_getElem_cons h, orV, List.getD_eq_getElem?_getD, List.getElem?_eq_getElem h]
  rfl
set_option maxRecDepth 100000 in
set_option maxHeartbeats 1000000 in
theorem or_any (v : Value) (xs : List Int) (w : World) (hv : See w v xs) (hl : xs.length ≤ 1000) : Calls Tryd.prog 88 #[v] w (Ret (.int .i64 (orV xs)) w) := by
  have HV := hide hv
  obtain ⟨ao, cap, rfl⟩ := hv.shape
  have HD := hide fun i (h : i < xs.length) => orV_drop h
  have HR : Hid (orV xs = orV (xs.drop 0)) := hide rfl
  have HZ : Hid (orV (xs.drop xs.length) = 0) := hide (by rw [List.drop_length]; rfl)
  generalize orV xs = R at *
  obtain ⟨m, hm⟩ : ∃ m, m = xs.length := ⟨_, rfl⟩
  rw [← hm] at HV HD HZ hl ⊢
  have HM := hide hm
  clear hv hm
  go_enter Tryd.func88, Tryd.ntmps88
  go_wp2
  go_loopw [8] (fun kv ws => ∃ i : Nat, i ≤ m ∧ kv = .int .i64 (i : Int) ∧ Hid (R = orV (xs.drop i) ∧ Chg [] w ws)) (fun kv _ => m - (intOf kv).toNat)
  case atStart => exact ⟨0, Nat.zero_le _, rfl, hide ⟨HR.out, Chg.refl _ _⟩⟩
  case round =>
    obtain ⟨i, hi, rfl, hI⟩ := hrel
    by_cases hlt : i < m
    · have d1 : decide ((i : Int) < (m : Int)) = true := by simp; omega
      have i0 : (0 : Int) ≤ (i : Int) := by omega
      have nl : xs ≠ [] := fun e => by have := HM.out; rw [e] at this; simp at this; omega
      obtain ⟨a, cap', e, hcell⟩ := HV.out.open nl
      obtain ⟨rfl, hx1, rfl⟩ : ao = some a ∧ m = xs.length ∧ cap = cap' := by simpa using e
      have fx := hcell wr hI.out.2 i (by rw [← HM.out]; exact hlt)
      have HDi := hide (HD.out i hlt)
      generalize xs.getD i 0 = y at *
      clear nl e hx1 hcell
      by_cases hy : y = 0
      · have d2 : (y != 0) = false := by simp [hy]
        rw [if_pos hy] at HDi
        clear hy
        go_wp2
        go_roundw
        case rel => exact ⟨i + 1, by omega, by go_num, hide ⟨hI.out.1.trans HDi.out, hI.out.2⟩⟩
        case measure => simp [intOf]; omega
      · have d2 : (y != 0) = true := by simp [hy]
        rw [if_neg hy] at HDi
        clear hy
        go_wp2
        go_ret
        exact ⟨by rw [hI.out.1, HDi.out]; rfl, hI.out.2⟩
    · have d1 : decide ((i : Int) < (m : Int)) = false := by simp; omega
      have him : i = m := by omega
      have HX := hide hI.out
      rw [him] at HX
      clear hI him
      go_wp2
      go_ret
      exact ⟨by rw [HX.out.1, HZ.out]; rfl, HX.out.2⟩
/-- Fewer ones, or as many and a lesser number. -/
def ltK (a b : Nat) : Bool := decide (orV [cmpI (Lr.cnt a 16) (Lr.cnt b 16), cmpI a b] < 0)
theorem ltK_iff (a b : Nat) : ltK a b = true ↔ Lr.cnt a 16 < Lr.cnt b 16 ∨ (Lr.cnt a 16 = Lr.cnt b 16 ∧ a < b) := by
  unfold ltK
  rw [decide_eq_true_eq]
  unfold orV orV orV cmpI
  by_cases h1 : Lr.cnt a 16 < Lr.cnt b 16
  · rw [if_pos (show ((Lr.cnt a 16 : Nat) : Int) < (Lr.cnt b 16 : Nat) by omega)]
    simp [h1]
  · rw [if_neg (show ¬ ((Lr.cnt a 16 : Nat) : Int) < (Lr.cnt b 16 : Nat) by omega)]
    by_cases h2 : Lr.cnt b 16 < Lr.cnt a 16
    · rw [if_pos (show ((Lr.cnt b 16 : Nat) : Int) < (Lr.cnt a 16 : Nat) by omega)]
      simp
      omega
    · rw [if_neg (show ¬ ((Lr.cnt b 16 : Nat) : Int) < (Lr.cnt a 16 : Nat) by omega)]
      rw [if_pos rfl]
      by_cases h3 : a < b
      · rw [if_pos (show (a : Int) < (b : Int) by omega)]
        simp
        omega
      · rw [if_neg (show ¬ (a : Int) < (b : Int) by omega)]
        split
        · split <;> omega
        · split <;> omega
set_option maxRecDepth 100000 in
set_option maxHeartbeats 1000000 in
theorem key1_any (a b : Nat) (w : World) (ha : a < 65536) (hb : b < 65536) : Calls Tryd.prog 87 #[.int .i64 (a : Int), .int .i64 (b : Int)] w (Ret (.int .i64 (orV [cmpI (Lr.cnt a 16) (Lr.cnt b 16), cmpI a b])) w) := by
  have H1 := hide fun ws => count_any a ws ha
  have H2 := hide fun ws => count_any b ws hb
  have H3 := hide fun x y ws => compare_any x y ws
  have H4 := hide fun u xs ws (h : See ws u xs) (hl : xs.length ≤ 1000) => or_any u xs ws h hl
  generalize Lr.cnt a 16 = ca at *
  generalize Lr.cnt b 16 = cb at *
  clear ha hb
  go_enter Tryd.func87, Tryd.ntmps87
  go_wp2_with fail
  refine (H1.out _).mono ?_
  rintro e w1 ⟨rfl, hw1⟩
  go_wp2_with fail
  refine (H2.out _).mono ?_
  rintro e w2 ⟨rfl, hw2⟩
  go_wp2_with fail
  refine (H3.out (ca : Int) (cb : Int) _).mono ?_
  rintro e w3 ⟨rfl, hw3⟩
  go_wp2_with fail
  refine (H3.out (a : Int) (b : Int) _).mono ?_
  rintro e w4 ⟨rfl, hw4⟩
  have HW := hide (((hw1.trans hw2).trans hw3).trans hw4)
  clear hw1 hw2 hw3 hw4
  generalize cmpI (ca : Int) (cb : Int) = u1 at *
  generalize cmpI (a : Int) (b : Int) = u2 at *
  go_wp2_with fail
  have hs : See (w4.alloc (.cells #[.int .i64 u1, .int .i64 u2] 3)) (.slice (some ⟨w4.heap.size, 0, none⟩) 2 2) [u1, u2] := by
    refine .inr ⟨⟨w4.heap.size, 0, none⟩, 2, rfl, Nat.le_refl _, by simp, fun i hi => ?_⟩
    rw [add_zero_row]
    refine ((Box.new w4 #[.int .i64 u1, .int .i64 u2] 3).cell i).trans ?_
    match i, hi with
    | 0, _ => rfl
    | 1, _ => rfl
  refine (H4.out _ _ _ hs (by simp)).mono ?_
  rintro e w5 ⟨rfl, hw5⟩
  have HW5 := hide ((HW.out.alloc _).trans hw5)
  clear hw5 hs
  go_wp2
  go_ret
  exact ⟨rfl, HW5.out⟩
/-- The least up to an index. -/
def minTo (xs : List Nat) : Nat → Nat
  | 0 => xs.getD 0 0
  | i + 1 => if ltK (xs.getD (i + 1) 0) (minTo xs i) = true then xs.getD (i + 1) 0 else minTo xs i
theorem minTo_mem {xs : List Nat} (hn : xs ≠ []) : ∀ i, i < xs.length → minTo xs i ∈ xs
  | 0, h => by
    rw [minTo, List.getD_eq_getElem?_getD, List.getElem?_eq_getElem h]
    exact List.getElem_mem h
  | i + 1, h => by
    unfold minTo
    split
    · rw [List.getD_eq_getElem?_getD, List.getElem?_eq_getElem h]
      exact List.getElem_mem h
    · exact minTo_mem hn i (by omega)
theorem minTo_least {xs : List Nat} {u : Nat} (hn : xs ≠ []) (h : ∀ k ∈ xs, k ≠ u → ltK u k = true ∧ ltK k u = false) : ∀ i, i < xs.length → (∃ j, j ≤ i ∧ xs.getD j 0 = u) → minTo xs i = u
  | 0, _, ⟨j, hj, e⟩ => by
    obtain rfl : j = 0 := by omega
    exact e
  | i + 1, hi, ⟨j, hj, e⟩ => by
    have hx : xs.getD (i + 1) 0 ∈ xs := by
      rw [List.getD_eq_getElem?_getD, List.getElem?_eq_getElem hi]
      exact List.getElem_mem hi
    have hm := minTo_mem hn i (by omega)
    unfold minTo
    by_cases e1 : xs.getD (i + 1) 0 = u
    · rw [e1]
      by_cases e2 : minTo xs i = u
      · rw [e2]; split <;> rfl
      · rw [if_pos (h _ hm e2).1]
    · have hj2 : j ≤ i := by
        rcases (show j ≤ i ∨ j = i + 1 by omega) with h' | rfl
        · exact h'
        · exact absurd e e1
      have ih := minTo_least hn h i (by omega) ⟨j, hj2, e⟩
      rw [ih, if_neg (by rw [(h _ hx e1).2]; decide)]
end Go.Proofs.YtpplihpfjniacaaDoor
