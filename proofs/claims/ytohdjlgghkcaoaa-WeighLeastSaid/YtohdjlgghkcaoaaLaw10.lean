/- Walk: the statement WeighWeights. -/
import Derived.Test.YtohdjlgghkcaoaaWt9
import Derived.Test.YtohdjlgghkcaoaaOpen2
namespace Go.Proofs.Ytohdjlgghkcaoaa
open Go.RowKit Go.Maps

theorem isW_take (xs : List Int) (m : Int) : W.isW (xs.take 16) m = W.isW xs m := by
  by_cases h : xs.length ≤ 16
  · rw [List.take_of_length_le h]
  · rw [isW_len (xs := xs) (by omega), isW_len (xs := xs.take 16) (by rw [List.length_take]; omega)]
theorem weighsV_take (xs : List Int) : weighsV (xs.take 16) = weighsV xs := by
  unfold weighsV
  rw [isW_take]
  by_cases h : W.isW xs 200 = true
  · rw [if_pos h, if_pos h, List.take_of_length_le (by have := (W.isW_iff.1 h).2.1; omega)]
  · rw [if_neg h, if_neg h]

set_option maxRecDepth 100000 in
set_option maxHeartbeats 4000000 in
theorem wts_no_bad (v : Value) (xs : List Int) (n : Int) (w : World) (hv : See w v xs) (hlm : xs.length ≤ 9223372036854775807) (hW : W.isW xs 200 = false) (h : n < 1 ∨ 40 < n) :
    Calls Try.prog 10 #[v, .int .i64 n] w (Ret (.bool true) w) := by
  have HP := hide fun ws => Weights_no n ws h
  have HL := hide fun ws (hw : Chg [] w ws) => list_any v xs ws (hv.keep hw)
  have HWs := hide fun v' ws (h : See ws v' (xs.take 16)) => Weighs_any v' (xs.take 16) ws h (by rw [List.length_take]; omega)
  have HRW := hide fun ws (hw : Chg [] w ws) => RWeights_any v xs 200 ws (hv.keep hw) hlm
  rw [weighsV_take] at HWs
  unfold weighsV at HWs
  rw [hW] at HWs HRW
  simp only [Bool.false_eq_true, if_false] at HWs
  clear hW hv hlm
  by_cases h1 : n < 1
  · have d1 : decide (n < 1) = true := by simpa using h1
    clear h
    go_enter Try.func10, Try.ntmps10
    go_wp2_with fail
    refine (HL.out _ (Chg.refl _ _)).mono ?_
    rintro e w1 ⟨v1, rfl, hI1, hw1⟩
    have HI1 := hide hI1.toSee
    have C1 : Hid (Chg [] w w1) := hide hw1
    clear hI1 hw1
    go_wp2_with fail
    refine (HWs.out _ _ HI1.out).mono ?_
    rintro e w2 ⟨rfl, hw2⟩
    have C2 : Hid (Chg [] w w2) := hide (C1.out.trans hw2)
    clear hw2
    go_wp2_with fail
    refine (HP.out _).mono ?_
    rintro e w3 ⟨rfl, hw3⟩
    have C3 : Hid (Chg [] w w3) := hide (C2.out.trans hw3)
    clear hw3
    go_wp2_with fail
    refine (HRW.out _ C3.out).mono ?_
    rintro e w4 ⟨rfl, hw4⟩
    have C4 : Hid (Chg [] w w4) := hide (C3.out.trans hw4)
    clear hw4
    go_wp2_with fail
    refine (awake_any _).mono ?_
    rintro e w5 ⟨rfl, hw5⟩
    have C5 : Hid (Chg [] w w5) := hide (C4.out.trans hw5)
    clear hw5
    go_wp2
    go_ret
    exact ⟨rfl, C5.out⟩
  · have d1 : decide (n < 1) = false := by simpa using h1
    have d2 : decide (40 < n) = true := by simp; omega
    clear h
    go_enter Try.func10, Try.ntmps10
    go_wp2_with fail
    refine (HL.out _ (Chg.refl _ _)).mono ?_
    rintro e w1 ⟨v1, rfl, hI1, hw1⟩
    have HI1 := hide hI1.toSee
    have C1 : Hid (Chg [] w w1) := hide hw1
    clear hI1 hw1
    go_wp2_with fail
    refine (HWs.out _ _ HI1.out).mono ?_
    rintro e w2 ⟨rfl, hw2⟩
    have C2 : Hid (Chg [] w w2) := hide (C1.out.trans hw2)
    clear hw2
    go_wp2_with fail
    refine (HP.out _).mono ?_
    rintro e w3 ⟨rfl, hw3⟩
    have C3 : Hid (Chg [] w w3) := hide (C2.out.trans hw3)
    clear hw3
    go_wp2_with fail
    refine (HRW.out _ C3.out).mono ?_
    rintro e w4 ⟨rfl, hw4⟩
    have C4 : Hid (Chg [] w w4) := hide (C3.out.trans hw4)
    clear hw4
    go_wp2_with fail
    refine (awake_any _).mono ?_
    rintro e w5 ⟨rfl, hw5⟩
    have C5 : Hid (Chg [] w w5) := hide (C4.out.trans hw5)
    clear hw5
    go_wp2
    go_ret
    exact ⟨rfl, C5.out⟩

set_option maxRecDepth 100000 in
set_option maxHeartbeats 4000000 in
theorem wts_yes_bad (v : Value) (xs : List Int) (n : Nat) (w : World) (hv : See w v xs) (hlm : xs.length ≤ 9223372036854775807) (hW : W.isW xs 200 = false) (h1 : 1 ≤ n) (h40 : n ≤ 40) :
    Calls Try.prog 10 #[v, .int .i64 (n : Int)] w (Ret (.bool true) w) := by
  have HP := hide fun ws => Weights_yes n h1 h40 ws
  have HFw := hide fun ws => Fewest_any n h40 ws
  have HLf : Hid ((W.fewW n).length < 1000000) := hide (by rw [(W.fewW_len h40).1]; have := (sizeW_pos n).2; omega)
  have d1 : decide ((n : Int) < 1) = false := by simp; omega
  have d2 : decide ((40 : Int) < (n : Int)) = false := by simp; omega
  have HL := hide fun ws (hw : Chg [] w ws) => list_any v xs ws (hv.keep hw)
  have HWs := hide fun v' ws (h : See ws v' (xs.take 16)) => Weighs_any v' (xs.take 16) ws h (by rw [List.length_take]; omega)
  have HRW := hide fun ws (hw : Chg [] w ws) => RWeights_any v xs 200 ws (hv.keep hw) hlm
  rw [weighsV_take] at HWs
  unfold weighsV at HWs
  rw [hW] at HWs HRW
  simp only [Bool.false_eq_true, if_false] at HWs
  clear hW hv hlm
  go_enter Try.func10, Try.ntmps10
  go_wp2_with fail
  refine (HL.out _ (Chg.refl _ _)).mono ?_
  rintro e w1 ⟨v1, rfl, hI1, hw1⟩
  have HI1 := hide hI1.toSee
  have C1 : Hid (Chg [] w w1) := hide hw1
  clear hI1 hw1
  go_wp2_with fail
  refine (HWs.out _ _ HI1.out).mono ?_
  rintro e w2 ⟨rfl, hw2⟩
  have C2 : Hid (Chg [] w w2) := hide (C1.out.trans hw2)
  clear hw2
  go_wp2_with fail
  refine (HP.out _).mono ?_
  rintro e w3 ⟨a3, l3, p3, rfl, hs3, hw3⟩
  have C3 : Hid (Chg [] w w3) := hide (C2.out.trans hw3)
  have HS3 := hide hs3
  clear hs3 hw3
  go_wp2_with fail
  refine (HFw.out _).mono ?_
  rintro e w4 ⟨a4, l4, p4, rfl, hs4, hw4⟩
  have C4 : Hid (Chg [] w w4) := hide (C3.out.trans hw4)
  have HS34 := hide (HS3.out.keep hw4)
  have HS4 := hide hs4
  clear hs4 hw4
  go_wp2_with fail
  refine (Equal_any _ _ _ _ _ HS34.out HS4.out HLf.out).mono ?_
  rw [decide_eq_true rfl]
  rintro e w5 ⟨rfl, hw5⟩
  have C5 : Hid (Chg [] w w5) := hide (C4.out.trans hw5)
  clear hw5
  go_wp2_with fail
  refine (HRW.out _ C5.out).mono ?_
  rintro e w6 ⟨rfl, hw6⟩
  have C6 : Hid (Chg [] w w6) := hide (C5.out.trans hw6)
  clear hw6
  go_wp2_with fail
  refine (awake_any _).mono ?_
  rintro e w7 ⟨rfl, hw7⟩
  have C7 : Hid (Chg [] w w7) := hide (C6.out.trans hw7)
  clear hw7
  go_wp2
  go_ret
  exact ⟨rfl, C7.out⟩

set_option maxRecDepth 100000 in
set_option maxHeartbeats 4000000 in
theorem wts_no_good (v : Value) (xs : List Int) (n : Int) (w : World) (hv : See w v xs) (hlm : xs.length ≤ 9223372036854775807) (hW : W.isW xs 200 = true) (h : n < 1 ∨ 40 < n) :
    Calls Try.prog 10 #[v, .int .i64 n] w (Ret (.bool true) w) := by
  have HP := hide fun ws => Weights_no n ws h
  have HL := hide fun ws (hw : Chg [] w ws) => list_any v xs ws (hv.keep hw)
  have HWs := hide fun v' ws (h : See ws v' (xs.take 16)) => Weighs_any v' (xs.take 16) ws h (by rw [List.length_take]; omega)
  have HRW := hide fun ws (hw : Chg [] w ws) => RWeights_any v xs 200 ws (hv.keep hw) hlm
  rw [weighsV_take] at HWs
  unfold weighsV at HWs
  rw [hW] at HWs HRW
  simp only [if_true] at HWs
  have HRR := hide fun ws (hw : Chg [] w ws) => RWeighs_W v xs ws (hv.keep hw) hW
  generalize W.far xs = FF at HWs HRR
  have ff : ((FF : Int) == (FF : Int)) = true := by simp
  clear hW hv hlm
  by_cases h1 : n < 1
  · have d1 : decide (n < 1) = true := by simpa using h1
    clear h
    go_enter Try.func10, Try.ntmps10
    go_wp2_with fail
    refine (HL.out _ (Chg.refl _ _)).mono ?_
    rintro e w1 ⟨v1, rfl, hI1, hw1⟩
    have HI1 := hide hI1.toSee
    have C1 : Hid (Chg [] w w1) := hide hw1
    clear hI1 hw1
    go_wp2_with fail
    refine (HWs.out _ _ HI1.out).mono ?_
    rintro e w2 ⟨rfl, hw2⟩
    have C2 : Hid (Chg [] w w2) := hide (C1.out.trans hw2)
    clear hw2
    go_wp2_with fail
    refine (HP.out _).mono ?_
    rintro e w3 ⟨rfl, hw3⟩
    have C3 : Hid (Chg [] w w3) := hide (C2.out.trans hw3)
    clear hw3
    go_wp2_with fail
    refine (HRW.out _ C3.out).mono ?_
    rintro e w4 ⟨rfl, hw4⟩
    have C4 : Hid (Chg [] w w4) := hide (C3.out.trans hw4)
    clear hw4
    go_wp2_with fail
    refine (HRR.out _ C4.out).mono ?_
    rintro e w5 ⟨rfl, hw5⟩
    have C5 : Hid (Chg [] w w5) := hide (C4.out.trans hw5)
    clear hw5
    go_wp2_with fail
    refine (awake_any _).mono ?_
    rintro e w6 ⟨rfl, hw6⟩
    have C6 : Hid (Chg [] w w6) := hide (C5.out.trans hw6)
    clear hw6
    go_wp2
    go_ret
    exact ⟨rfl, C6.out⟩
  · have d1 : decide (n < 1) = false := by simpa using h1
    have d2 : decide (40 < n) = true := by simp; omega
    clear h
    go_enter Try.func10, Try.ntmps10
    go_wp2_with fail
    refine (HL.out _ (Chg.refl _ _)).mono ?_
    rintro e w1 ⟨v1, rfl, hI1, hw1⟩
    have HI1 := hide hI1.toSee
    have C1 : Hid (Chg [] w w1) := hide hw1
    clear hI1 hw1
    go_wp2_with fail
    refine (HWs.out _ _ HI1.out).mono ?_
    rintro e w2 ⟨rfl, hw2⟩
    have C2 : Hid (Chg [] w w2) := hide (C1.out.trans hw2)
    clear hw2
    go_wp2_with fail
    refine (HP.out _).mono ?_
    rintro e w3 ⟨rfl, hw3⟩
    have C3 : Hid (Chg [] w w3) := hide (C2.out.trans hw3)
    clear hw3
    go_wp2_with fail
    refine (HRW.out _ C3.out).mono ?_
    rintro e w4 ⟨rfl, hw4⟩
    have C4 : Hid (Chg [] w w4) := hide (C3.out.trans hw4)
    clear hw4
    go_wp2_with fail
    refine (HRR.out _ C4.out).mono ?_
    rintro e w5 ⟨rfl, hw5⟩
    have C5 : Hid (Chg [] w w5) := hide (C4.out.trans hw5)
    clear hw5
    go_wp2_with fail
    refine (awake_any _).mono ?_
    rintro e w6 ⟨rfl, hw6⟩
    have C6 : Hid (Chg [] w w6) := hide (C5.out.trans hw6)
    clear hw6
    go_wp2
    go_ret
    exact ⟨rfl, C6.out⟩

set_option maxRecDepth 100000 in
set_option maxHeartbeats 4000000 in
theorem wts_yes_good (v : Value) (xs : List Int) (n : Nat) (w : World) (hv : See w v xs) (hlm : xs.length ≤ 9223372036854775807) (hW : W.isW xs 200 = true) (h1 : 1 ≤ n) (h40 : n ≤ 40) :
    Calls Try.prog 10 #[v, .int .i64 (n : Int)] w (Ret (.bool true) w) := by
  have HP := hide fun ws => Weights_yes n h1 h40 ws
  have HFw := hide fun ws => Fewest_any n h40 ws
  have HLf : Hid ((W.fewW n).length < 1000000) := hide (by rw [(W.fewW_len h40).1]; have := (sizeW_pos n).2; omega)
  have d1 : decide ((n : Int) < 1) = false := by simp; omega
  have d2 : decide ((40 : Int) < (n : Int)) = false := by simp; omega
  have HL := hide fun ws (hw : Chg [] w ws) => list_any v xs ws (hv.keep hw)
  have HWs := hide fun v' ws (h : See ws v' (xs.take 16)) => Weighs_any v' (xs.take 16) ws h (by rw [List.length_take]; omega)
  have HRW := hide fun ws (hw : Chg [] w ws) => RWeights_any v xs 200 ws (hv.keep hw) hlm
  rw [weighsV_take] at HWs
  unfold weighsV at HWs
  rw [hW] at HWs HRW
  simp only [if_true] at HWs
  have HRR := hide fun ws (hw : Chg [] w ws) => RWeighs_W v xs ws (hv.keep hw) hW
  generalize W.far xs = FF at HWs HRR
  have ff : ((FF : Int) == (FF : Int)) = true := by simp
  clear hW hv hlm
  go_enter Try.func10, Try.ntmps10
  go_wp2_with fail
  refine (HL.out _ (Chg.refl _ _)).mono ?_
  rintro e w1 ⟨v1, rfl, hI1, hw1⟩
  have HI1 := hide hI1.toSee
  have C1 : Hid (Chg [] w w1) := hide hw1
  clear hI1 hw1
  go_wp2_with fail
  refine (HWs.out _ _ HI1.out).mono ?_
  rintro e w2 ⟨rfl, hw2⟩
  have C2 : Hid (Chg [] w w2) := hide (C1.out.trans hw2)
  clear hw2
  go_wp2_with fail
  refine (HP.out _).mono ?_
  rintro e w3 ⟨a3, l3, p3, rfl, hs3, hw3⟩
  have C3 : Hid (Chg [] w w3) := hide (C2.out.trans hw3)
  have HS3 := hide hs3
  clear hs3 hw3
  go_wp2_with fail
  refine (HFw.out _).mono ?_
  rintro e w4 ⟨a4, l4, p4, rfl, hs4, hw4⟩
  have C4 : Hid (Chg [] w w4) := hide (C3.out.trans hw4)
  have HS34 := hide (HS3.out.keep hw4)
  have HS4 := hide hs4
  clear hs4 hw4
  go_wp2_with fail
  refine (Equal_any _ _ _ _ _ HS34.out HS4.out HLf.out).mono ?_
  rw [decide_eq_true rfl]
  rintro e w5 ⟨rfl, hw5⟩
  have C5 : Hid (Chg [] w w5) := hide (C4.out.trans hw5)
  clear hw5
  go_wp2_with fail
  refine (HRW.out _ C5.out).mono ?_
  rintro e w6 ⟨rfl, hw6⟩
  have C6 : Hid (Chg [] w w6) := hide (C5.out.trans hw6)
  clear hw6
  go_wp2_with fail
  refine (HRR.out _ C6.out).mono ?_
  rintro e w7 ⟨rfl, hw7⟩
  have C7 : Hid (Chg [] w w7) := hide (C6.out.trans hw7)
  clear hw7
  go_wp2_with fail
  refine (awake_any _).mono ?_
  rintro e w8 ⟨rfl, hw8⟩
  have C8 : Hid (Chg [] w w8) := hide (C7.out.trans hw8)
  clear hw8
  go_wp2
  go_ret
  exact ⟨rfl, C8.out⟩

theorem weighWeights_walk (v0 v1 : Value) (w : World) (h0 : IsInts w v0) (h1 : IsInt v1) : Calls Try.prog 10 #[v0, v1] w (Ret (.bool true) w) := by
  obtain ⟨xs, hv, hl⟩ := h0
  obtain ⟨x, rfl, _⟩ := h1
  by_cases h : x < 1 ∨ 40 < x
  · cases hW : W.isW xs 200 with
    | false => exact wts_no_bad v0 xs x w hv hl hW h
    | true => exact wts_no_good v0 xs x w hv hl hW h
  · rw [show x = (x.toNat : Int) by omega]
    cases hW : W.isW xs 200 with
    | false => exact wts_yes_bad v0 xs x.toNat w hv hl hW (by omega) (by omega)
    | true => exact wts_yes_good v0 xs x.toNat w hv hl hW (by omega) (by omega)
end Go.Proofs.Ytohdjlgghkcaoaa
