/- Walk: the statement WeighPans. -/
import Derived.Test.YtohdjlgghkcaoaaPans2
import Derived.Test.YtohdjlgghkcaoaaEq
import Derived.Test.YtohdjlgghkcaoaaOpen
namespace Go.Proofs.Ytohdjlgghkcaoaa
open Go.RowKit

theorem val_drop {xs : List Int} {k : Nat} (h : k < xs.length) : W.val (xs.drop k) = xs.getD k 0 + 3 * W.val (xs.drop (k + 1)) := by
  rw [List.drop_eq_getElem_cons h, List.getD_eq_getElem?_getD, List.getElem?_eq_getElem h]
  rfl

/-- So far: the sum, the place, and what is left. -/
def PansAt (n : Int) (xs : List Int) (k : Nat) (S P : Int) : Prop := n = S + P * W.val (xs.drop k) ∧ P = (pw k : Int) ∧ -(pw k : Int) ≤ S ∧ S ≤ (pw k : Int)
theorem PansAt.start (n : Int) (h0 : -1000 ≤ n) (h1 : n ≤ 1000) : PansAt n (W.digs 7 n) 0 0 1 := by
  refine ⟨?_, rfl, by decide, by decide⟩
  rw [List.drop_zero, W.digs_val 7 n (by rw [W.qf7]; omega) (by rw [W.qf7]; omega)]
  omega
theorem PansAt.succ {n : Int} {xs : List Int} {k : Nat} {S P : Int} (h : PansAt n xs k S P) (hk : k < xs.length) (h7 : k < 7) (hx : -1 ≤ xs.getD k 0) (hx' : xs.getD k 0 ≤ 1) :
    PansAt n xs (k + 1) (S + xs.getD k 0 * P) (P * 3) ∧ -729 ≤ S ∧ S ≤ 729 ∧ 1 ≤ P ∧ P ≤ 729 ∧ -729 ≤ xs.getD k 0 * P ∧ xs.getD k 0 * P ≤ 729 := by
  obtain ⟨h1, h2, h3, h4⟩ := h
  have hp : pw (k + 1) = 3 * pw k := by unfold pw; rw [Nat.pow_succ]; omega
  have hp6 : pw k ≤ 729 := pow6 (by omega)
  have hp1 : 1 ≤ pw k := by unfold pw; exact W.pow_pos3 k
  rw [val_drop hk] at h1
  generalize xs.getD k 0 = x at *
  rcases (show x = -1 ∨ x = 0 ∨ x = 1 by omega) with rfl | rfl | rfl
  · refine ⟨⟨?_, by rw [hp]; omega, by rw [hp]; omega, by rw [hp]; omega⟩, by omega, by omega, by omega, by omega, by omega, by omega⟩
    show n = S + _ * P + P * 3 * W.val (xs.drop (k + 1))
    rw [h1, Int.mul_add, Int.mul_assoc]; omega
  · refine ⟨⟨?_, by rw [hp]; omega, by rw [hp]; omega, by rw [hp]; omega⟩, by omega, by omega, by omega, by omega, by omega, by omega⟩
    show n = S + _ * P + P * 3 * W.val (xs.drop (k + 1))
    rw [h1, Int.mul_add, Int.mul_assoc]; omega
  · refine ⟨⟨?_, by rw [hp]; omega, by rw [hp]; omega, by rw [hp]; omega⟩, by omega, by omega, by omega, by omega, by omega, by omega⟩
    show n = S + _ * P + P * 3 * W.val (xs.drop (k + 1))
    rw [h1, Int.mul_add, Int.mul_assoc]; omega

set_option maxRecDepth 100000 in
set_option maxHeartbeats 1000000 in
theorem walk_pans_no (n : Int) (w : World) (h : n < -1000 ∨ 1000 < n) :
    Calls Try.prog 9 #[.int .i64 n] w (Ret (.bool true) w) := by
  have HP := hide fun w => Pans_no n w h
  by_cases h1 : n < -1000
  · have d1 : decide (n < -1000) = true := by simpa using h1
    clear h
    go_enter Try.func9, Try.ntmps9
    go_wp2_with fail
    refine (HP.out _).mono ?_
    rintro e1 w1 ⟨rfl, hw1⟩
    go_wp2_with fail
    refine (awake_any _).mono ?_
    rintro e1 w2 ⟨rfl, hw2⟩
    go_wp2
    go_ret
    exact ⟨rfl, hw1.trans hw2⟩
  · have d1 : decide (n < -1000) = false := by simpa using h1
    have d2 : decide (1000 < n) = true := by simp; omega
    clear h
    go_enter Try.func9, Try.ntmps9
    go_wp2_with fail
    refine (HP.out _).mono ?_
    rintro e1 w1 ⟨rfl, hw1⟩
    go_wp2_with fail
    refine (awake_any _).mono ?_
    rintro e1 w2 ⟨rfl, hw2⟩
    go_wp2
    go_ret
    exact ⟨rfl, hw1.trans hw2⟩

set_option maxRecDepth 100000 in
set_option maxHeartbeats 1000000 in
theorem walk_pans_yes (n : Int) (w : World) (h0 : -1000 ≤ n) (h1 : n ≤ 1000) :
    Calls Try.prog 9 #[.int .i64 n] w (Ret (.bool true) w) := by
  have d1 : decide (n < -1000) = false := by simpa using h0
  have d2 : decide (1000 < n) = false := by simpa using h1
  have hl : (W.digs 7 n).length ≤ 7 := W.digs_len 7 n
  have hneg : (W.digs 7 (-n)).length = (W.digs 7 n).length := by rw [W.digs_neg, List.length_map]
  go_enter Try.func9, Try.ntmps9
  go_wp2_with fail
  refine (Pans_any n _ h0 h1).mono ?_
  rintro e1 w1 ⟨v1, rfl, I1, c1⟩
  obtain ⟨ao, cap, rfl, hA⟩ := I1.toSee.len
  have J1 := hide I1.toSee
  have HA := hide hA
  have C1 := hide c1
  clear I1 c1 hA
  go_wp2_with fail
  refine (Pans_any (-n) _ (by omega) (by omega)).mono ?_
  rintro e1 w2 ⟨v2, rfl, I2, c2⟩
  obtain ⟨bo, cap2, rfl, hB⟩ := I2.toSee.len
  rw [hneg]
  have HB := hide hB
  have C2 := hide c2
  clear I2 c2 hB
  go_wp2_with fail
  refine (RPans_any n _ h0 h1).mono ?_
  rintro e1 w3 ⟨v3, rfl, I3, c3⟩
  have J3 := hide I3.toSee
  have C3 := hide c3
  clear I3 c3
  go_wp2_with fail
  refine (Equal_any _ _ (W.digs 7 n) (W.digs 7 n) _ (J1.out.keep (C2.out.trans C3.out)) J3.out (by omega)).mono ?_
  rw [decide_eq_true rfl]
  rintro e1 w4 ⟨rfl, hw4⟩
  have C4 := hide hw4
  clear hw4
  have HL := hide hl
  have HNeg := hide hneg
  have h5 : Hid (-1000 ≤ n ∧ n ≤ 1000) := hide ⟨h0, h1⟩
  clear hneg
  generalize hm : (W.digs 7 n).length = m at *
  have HM := hide hm
  clear hm
  go_wp2
  go_loopw [7, 8, 60] (fun s p i wr => ∃ (k : Nat) (S P : Int), k ≤ m ∧ s = .int .i64 S ∧ p = .int .i64 P ∧ i = .int .i64 (k : Int) ∧ Hid (PansAt n (W.digs 7 n) k S P ∧ Chg [] w4 wr)) (fun _ _ i _ => (m - (intOf i).toNat))
  case atStart => exact ⟨0, 0, 1, Nat.zero_le _, rfl, rfl, rfl, hide ⟨PansAt.start n h5.out.1 h5.out.2, Chg.refl _ _⟩⟩
  case round =>
    obtain ⟨k, S, P, hk, rfl, rfl, rfl, hI⟩ := hrel
    by_cases hlt : k < m
    · have d3 : decide ((k : Int) < (m : Int)) = true := by simpa using hlt
      have nx : W.digs 7 n ≠ [] := fun h => by have := HM.out; rw [h] at this; simp at this; omega
      have ny : W.digs 7 (-n) ≠ [] := fun h => by have := HNeg.out; rw [h] at this; simp at this; omega
      obtain ⟨a, rfl, ba, ca⟩ := HA.out nx
      obtain ⟨b, rfl, bb, cb⟩ := HB.out ny
      have c2r : Chg [] w2 wr := C3.out.trans (C4.out.trans hI.out.2)
      have fx := (((C2.out.trans c2r).cellA (by rw [add_block]; exact ba) List.not_mem_nil).trans (ca k hlt))
      have fy := ((c2r.cellA (by rw [add_block]; exact bb) List.not_mem_nil).trans (cb k (by rw [HNeg.out]; exact hlt)))
      obtain ⟨sm1, sm2⟩ : -1 ≤ (W.digs 7 n).getD k 0 ∧ (W.digs 7 n).getD k 0 ≤ 1 := by
        rw [List.getD_eq_getElem?_getD, List.getElem?_eq_getElem (by rw [HM.out]; exact hlt)]
        exact W.digs_small 7 n _ (List.getElem_mem _)
      obtain ⟨hP, q1, q2, q3, q4, q5, q6⟩ := hI.out.1.succ (by rw [HM.out]; exact hlt) (by omega) sm1 sm2
      have hyx : (W.digs 7 (-n)).getD k 0 = -(W.digs 7 n).getD k 0 := by
        rw [W.digs_neg, List.getD_eq_getElem?_getD, List.getD_eq_getElem?_getD, List.getElem?_map, List.getElem?_eq_getElem (by rw [HM.out]; exact hlt)]
        rfl
      rw [hyx] at fy
      have HPP := hide hP
      clear hP hyx c2r nx ny ca cb
      generalize (W.digs 7 n).getD k 0 = x at *
      have hx0 : - -x = x := by omega
      have hxx : (x == x) = true := by simp
      go_wp2
      go_roundw
      case rel => exact ⟨k + 1, _, _, by omega, rfl, rfl, by go_num, hide ⟨HPP.out, hI.out.2⟩⟩
      case measure => simp [intOf]; omega
    · have d3 : decide ((k : Int) < (m : Int)) = false := by simpa using hlt
      have hSn : S = n := by
        have := hI.out.1.1
        rw [List.drop_eq_nil_of_le (by rw [HM.out]; omega)] at this
        simp only [W.val] at this
        omega
      subst hSn
      clear hl
      go_wp2_with fail
      refine (awake_any _).mono ?_
      rintro e1 w5 ⟨rfl, hw5⟩
      go_wp2
      go_ret
      exact ⟨rfl, C1.out.trans (C2.out.trans (C3.out.trans (C4.out.trans (hI.out.2.trans hw5))))⟩

theorem weighPans_walk (v0 : Value) (w : World) (h0 : IsInt v0) : Calls Try.prog 9 #[v0] w (Ret (.bool true) w) := by
  obtain ⟨n, rfl, _⟩ := h0
  by_cases h : n < -1000 ∨ 1000 < n
  · exact walk_pans_no n w h
  · exact walk_pans_yes n w (by omega) (by omega)
end Go.Proofs.Ytohdjlgghkcaoaa
