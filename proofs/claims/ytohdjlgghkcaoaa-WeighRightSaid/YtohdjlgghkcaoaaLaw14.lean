/- Walk: the statement WeighRight. -/
import Derived.Test.YtohdjlgghkcaoaaPo3
namespace Go.Proofs.Ytohdjlgghkcaoaa
open Go.RowKit

set_option maxRecDepth 100000 in
set_option maxHeartbeats 4000000 in
theorem right_no_bad (v : Value) (t : List (List Int)) (coins k : Int) (w : World) (hv : See2 w v t) (ht : t.length ≤ 9223372036854775807) (hr : ∀ r ∈ t, r.length ≤ 9223372036854775807) (htab : W.isTab t = false) (h : coins < 1 ∨ 13 < coins ∨ k < 1 ∨ 3 < k) :
    Calls Try.prog 14 #[v, .int .i64 coins, .int .i64 k] w (Ret (.bool true) w) := by
  have HP := hide (fun ws => Plan_no coins k ws h)
  have HT1 := hide fun ws (hw : Chg [] w ws) => table_any v t ws (hv.keep hw) ht
  have HTb := hide fun ws (hw : Chg [] w ws) => Table_any v t ws (hv.keep hw) hr
  have hcs := cutR (t := t)
  have HRi := hide fun v' ws (h1 : See2 ws v' (W.cut t)) => Right_any v' (W.cut t) ws h1 hcs.1 hcs.2
  rw [rightV_cut] at HRi
  rw [htab] at HRi HTb
  simp only [Bool.false_eq_true, if_false] at HRi
  clear hr hcs ht hv htab
  by_cases h1 : coins < 1
  · have d1 : decide (coins < 1) = true := by simpa using h1
    clear h
    go_enter Try.func14, Try.ntmps14
    go_wp2_with fail
    refine (HT1.out _ (Chg.refl _ _)).mono ?_
    rintro e w1 ⟨v1, rfl, hI1, hw1⟩
    have HI1 := hide hI1
    have C1 : Hid (Chg [] w w1) := hide hw1
    clear hI1 hw1
    go_wp2_with fail
    refine (HRi.out _ _ HI1.out).mono ?_
    rintro e w2 ⟨rfl, hw2⟩
    have C2 : Hid (Chg [] w w2) := hide (C1.out.trans hw2)
    clear hw2
    go_wp2_with fail
    refine (HP.out _).mono ?_
    rintro e w3 ⟨rfl, hw3⟩
    have C3 : Hid (Chg [] w w3) := hide (C2.out.trans hw3)
    clear hw3
    go_wp2_with fail
    refine (HTb.out _ C3.out).mono ?_
    rintro e w4 ⟨rfl, hw4⟩
    have C4 : Hid (Chg [] w w4) := hide (C3.out.trans hw4)
    clear hw4
    go_wp2_with fail
    refine (awake_any _).mono ?_
    rintro e w5 ⟨rfl, hw5⟩
    have C5 : Hid (Chg [] w w5) := hide (C4.out.trans hw5)
    clear hw5
    go_wp2
    go_ret
    exact ⟨rfl, C5.out⟩
  · have d1 : decide (coins < 1) = false := by simpa using h1
    by_cases h2 : 13 < coins
    · have d2 : decide (13 < coins) = true := by simpa using h2
      clear h
      go_enter Try.func14, Try.ntmps14
      go_wp2_with fail
      refine (HT1.out _ (Chg.refl _ _)).mono ?_
      rintro e w1 ⟨v1, rfl, hI1, hw1⟩
      have HI1 := hide hI1
      have C1 : Hid (Chg [] w w1) := hide hw1
      clear hI1 hw1
      go_wp2_with fail
      refine (HRi.out _ _ HI1.out).mono ?_
      rintro e w2 ⟨rfl, hw2⟩
      have C2 : Hid (Chg [] w w2) := hide (C1.out.trans hw2)
      clear hw2
      go_wp2_with fail
      refine (HP.out _).mono ?_
      rintro e w3 ⟨rfl, hw3⟩
      have C3 : Hid (Chg [] w w3) := hide (C2.out.trans hw3)
      clear hw3
      go_wp2_with fail
      refine (HTb.out _ C3.out).mono ?_
      rintro e w4 ⟨rfl, hw4⟩
      have C4 : Hid (Chg [] w w4) := hide (C3.out.trans hw4)
      clear hw4
      go_wp2_with fail
      refine (awake_any _).mono ?_
      rintro e w5 ⟨rfl, hw5⟩
      have C5 : Hid (Chg [] w w5) := hide (C4.out.trans hw5)
      clear hw5
      go_wp2
      go_ret
      exact ⟨rfl, C5.out⟩
    · have d2 : decide (13 < coins) = false := by simpa using h2
      by_cases h3 : k < 1
      · have d3 : decide (k < 1) = true := by simpa using h3
        clear h
        go_enter Try.func14, Try.ntmps14
        go_wp2_with fail
        refine (HT1.out _ (Chg.refl _ _)).mono ?_
        rintro e w1 ⟨v1, rfl, hI1, hw1⟩
        have HI1 := hide hI1
        have C1 : Hid (Chg [] w w1) := hide hw1
        clear hI1 hw1
        go_wp2_with fail
        refine (HRi.out _ _ HI1.out).mono ?_
        rintro e w2 ⟨rfl, hw2⟩
        have C2 : Hid (Chg [] w w2) := hide (C1.out.trans hw2)
        clear hw2
        go_wp2_with fail
        refine (HP.out _).mono ?_
        rintro e w3 ⟨rfl, hw3⟩
        have C3 : Hid (Chg [] w w3) := hide (C2.out.trans hw3)
        clear hw3
        go_wp2_with fail
        refine (HTb.out _ C3.out).mono ?_
        rintro e w4 ⟨rfl, hw4⟩
        have C4 : Hid (Chg [] w w4) := hide (C3.out.trans hw4)
        clear hw4
        go_wp2_with fail
        refine (awake_any _).mono ?_
        rintro e w5 ⟨rfl, hw5⟩
        have C5 : Hid (Chg [] w w5) := hide (C4.out.trans hw5)
        clear hw5
        go_wp2
        go_ret
        exact ⟨rfl, C5.out⟩
      · have d3 : decide (k < 1) = false := by simpa using h3
        have d4 : decide (3 < k) = true := by simp; omega
        clear h
        go_enter Try.func14, Try.ntmps14
        go_wp2_with fail
        refine (HT1.out _ (Chg.refl _ _)).mono ?_
        rintro e w1 ⟨v1, rfl, hI1, hw1⟩
        have HI1 := hide hI1
        have C1 : Hid (Chg [] w w1) := hide hw1
        clear hI1 hw1
        go_wp2_with fail
        refine (HRi.out _ _ HI1.out).mono ?_
        rintro e w2 ⟨rfl, hw2⟩
        have C2 : Hid (Chg [] w w2) := hide (C1.out.trans hw2)
        clear hw2
        go_wp2_with fail
        refine (HP.out _).mono ?_
        rintro e w3 ⟨rfl, hw3⟩
        have C3 : Hid (Chg [] w w3) := hide (C2.out.trans hw3)
        clear hw3
        go_wp2_with fail
        refine (HTb.out _ C3.out).mono ?_
        rintro e w4 ⟨rfl, hw4⟩
        have C4 : Hid (Chg [] w w4) := hide (C3.out.trans hw4)
        clear hw4
        go_wp2_with fail
        refine (awake_any _).mono ?_
        rintro e w5 ⟨rfl, hw5⟩
        have C5 : Hid (Chg [] w w5) := hide (C4.out.trans hw5)
        clear hw5
        go_wp2
        go_ret
        exact ⟨rfl, C5.out⟩

set_option maxRecDepth 100000 in
set_option maxHeartbeats 4000000 in
theorem right_yes_bad (v : Value) (t : List (List Int)) (coins k : Nat) (w : World) (hv : See2 w v t) (ht : t.length ≤ 9223372036854775807) (hr : ∀ r ∈ t, r.length ≤ 9223372036854775807) (htab : W.isTab t = false) (hc1 : 1 ≤ coins) (hc13 : coins ≤ 13) (hk1 : 1 ≤ k) (hk3 : k ≤ 3) :
    Calls Try.prog 14 #[v, .int .i64 (coins : Int), .int .i64 (k : Int)] w (Ret (.bool true) w) := by
  have hch' := hide (plan_check coins k hc1 hc13 hk1 hk3)
  have HP := hide (fun ws => Plan_yes coins k ws hc1 hc13 hk1 hk3)
  have d1 : decide ((coins : Int) < 1) = false := by simp; omega
  have d2 : decide ((13 : Int) < (coins : Int)) = false := by simp; omega
  have d3 : decide ((k : Int) < 1) = false := by simp; omega
  have d4 : decide ((3 : Int) < (k : Int)) = false := by simp; omega
  have HT1 := hide fun ws (hw : Chg [] w ws) => table_any v t ws (hv.keep hw) ht
  have HTb := hide fun ws (hw : Chg [] w ws) => Table_any v t ws (hv.keep hw) hr
  have hcs := cutR (t := t)
  have HRi := hide fun v' ws (h1 : See2 ws v' (W.cut t)) => Right_any v' (W.cut t) ws h1 hcs.1 hcs.2
  rw [rightV_cut] at HRi
  rw [htab] at HRi HTb
  simp only [Bool.false_eq_true, if_false] at HRi
  clear hr hcs ht hv htab
  go_enter Try.func14, Try.ntmps14
  go_wp2_with fail
  refine (HT1.out _ (Chg.refl _ _)).mono ?_
  rintro e w1 ⟨v1, rfl, hI1, hw1⟩
  have HI1 := hide hI1
  have C1 : Hid (Chg [] w w1) := hide hw1
  clear hI1 hw1
  go_wp2_with fail
  refine (HRi.out _ _ HI1.out).mono ?_
  rintro e w2 ⟨rfl, hw2⟩
  have C2 : Hid (Chg [] w w2) := hide (C1.out.trans hw2)
  clear hw2
  go_wp2_with fail
  refine (HP.out _).mono ?_
  rintro e w3 ⟨pv, pc, rfl, hw3, ⟨p, hp, rfl, hs⟩ | ⟨hp, rfl, rfl⟩⟩
  · have C3 : Hid (Chg [] w w3) := hide (C2.out.trans hw3)
    obtain ⟨⟨p1, p2⟩, p3, p4, p5, p6⟩ := plan_some hch'.out hp
    have HPo : Hid (∀ ws, Calls Try.prog 48 #[.int .i64 (coins : Int), .int .i64 (k : Int)] ws (Ret (.bool true) ws)) := hide fun ws => by
      have := Possible_any coins k ws hc1 hc13 hk1 hk3
      rw [hp] at this
      exact this
    have hrl : ∀ r ∈ p, r.length ≤ 9223372036854775807 := fun r hr => by
      have := (W.rowOk_iff.1 ((W.isTab_iff.1 p3).2 r hr)).1
      rw [p6] at this
      omega
    have HPT := hide fun pv ws (hw : See2 ws pv p) => Table_any pv p ws hw hrl
    have HPR := hide fun pv ws (hw : See2 ws pv p) => RRight_any pv p ws hw p3
    rw [p3] at HPT
    rw [p4] at HPR
    have hne : p ≠ [] := by rintro rfl; simp at p5; omega
    have HS := hide hs
    obtain ⟨a, cap, rfl, _, hcell⟩ := hs.open hne
    obtain ⟨bo, bc, h0⟩ := hcell 0 (by omega)
    rw [add_nought, row0, p6] at h0
    have H0 := hide h0
    rw [p5] at ⊢
    have HP5 := hide p5
    have e3 : ((coins : Int) == (coins : Int)) = true := by simp
    have e4 : ((k : Int) == (k : Int)) = true := by simp
    clear hw3 hs hp p1 p2 p3 p4 p6 hcell h0 hrl hne
    go_wp2_with fail
    refine (HPo.out _).mono ?_
    rintro e w4 ⟨rfl, hw4⟩
    have K4 := hide hw4
    have C4 : Hid (Chg [] w w4) := hide (C3.out.trans hw4)
    clear hw4
    go_wp2_with fail
    rw [← HP5.out]
    refine (HPT.out _ _ (HS.out.keep K4.out)).mono ?_
    rw [HP5.out]
    rintro e w5 ⟨rfl, hw5⟩
    have C5 : Hid (Chg [] w w5) := hide (C4.out.trans hw5)
    have K5 : Hid (Chg [] w3 w5) := hide (K4.out.trans hw5)
    have f0 := (H0.out _ K5.out).1
    clear hw5
    go_wp2_with fail
    rw [← HP5.out]
    refine (HPR.out _ _ (HS.out.keep K5.out)).mono ?_
    rw [HP5.out]
    rintro e w6 ⟨rfl, hw6⟩
    have C6 : Hid (Chg [] w w6) := hide (C5.out.trans hw6)
    clear hw6
    go_wp2_with fail
    refine (HTb.out _ C6.out).mono ?_
    rintro e w7 ⟨rfl, hw7⟩
    have C7 : Hid (Chg [] w w7) := hide (C6.out.trans hw7)
    clear hw7
    go_wp2_with fail
    refine (awake_any _).mono ?_
    rintro e w8 ⟨rfl, hw8⟩
    have C8 : Hid (Chg [] w w8) := hide (C7.out.trans hw8)
    clear hw8
    go_wp2
    go_ret
    exact ⟨rfl, C8.out⟩
  · have C3 : Hid (Chg [] w w3) := hide (C2.out.trans hw3)
    have HPo : Hid (∀ ws, Calls Try.prog 48 #[.int .i64 (coins : Int), .int .i64 (k : Int)] ws (Ret (.bool false) ws)) := hide fun ws => by
      have := Possible_any coins k ws hc1 hc13 hk1 hk3
      rw [hp] at this
      exact this
    clear hw3 hp
    go_wp2_with fail
    refine (HPo.out _).mono ?_
    rintro e w4 ⟨rfl, hw4⟩
    have C4 : Hid (Chg [] w w4) := hide (C3.out.trans hw4)
    clear hw4
    go_wp2_with fail
    refine (HTb.out _ C4.out).mono ?_
    rintro e w5 ⟨rfl, hw5⟩
    have C5 : Hid (Chg [] w w5) := hide (C4.out.trans hw5)
    clear hw5
    go_wp2_with fail
    refine (awake_any _).mono ?_
    rintro e w6 ⟨rfl, hw6⟩
    have C6 : Hid (Chg [] w w6) := hide (C5.out.trans hw6)
    clear hw6
    go_wp2
    go_ret
    exact ⟨rfl, C6.out⟩

set_option maxRecDepth 100000 in
set_option maxHeartbeats 4000000 in
theorem right_no_tab (v : Value) (t : List (List Int)) (coins k : Int) (w : World) (hv : See2 w v t) (ht : t.length ≤ 9223372036854775807) (hr : ∀ r ∈ t, r.length ≤ 9223372036854775807) (htab : W.isTab t = true) (h : coins < 1 ∨ 13 < coins ∨ k < 1 ∨ 3 < k) :
    Calls Try.prog 14 #[v, .int .i64 coins, .int .i64 k] w (Ret (.bool true) w) := by
  have HP := hide (fun ws => Plan_no coins k ws h)
  have HT1 := hide fun ws (hw : Chg [] w ws) => table_any v t ws (hv.keep hw) ht
  have HTb := hide fun ws (hw : Chg [] w ws) => Table_any v t ws (hv.keep hw) hr
  have hcs := cutR (t := t)
  have HRi := hide fun v' ws (h1 : See2 ws v' (W.cut t)) => Right_any v' (W.cut t) ws h1 hcs.1 hcs.2
  rw [rightV_cut] at HRi
  have HRR := hide fun ws (hw : Chg [] w ws) => RRight_any v t ws (hv.keep hw) htab
  rw [htab] at HRi HTb
  simp only [if_true] at HRi
  clear hr hcs ht hv htab
  obtain ⟨B, hB⟩ : ∃ B, B = W.fairT t := ⟨_, rfl⟩
  rw [← hB] at HRi HRR
  have hbb : (B == B) = true := by simp
  clear hB
  by_cases h1 : coins < 1
  · have d1 : decide (coins < 1) = true := by simpa using h1
    clear h
    go_enter Try.func14, Try.ntmps14
    go_wp2_with fail
    refine (HT1.out _ (Chg.refl _ _)).mono ?_
    rintro e w1 ⟨v1, rfl, hI1, hw1⟩
    have HI1 := hide hI1
    have C1 : Hid (Chg [] w w1) := hide hw1
    clear hI1 hw1
    go_wp2_with fail
    refine (HRi.out _ _ HI1.out).mono ?_
    rintro e w2 ⟨rfl, hw2⟩
    have C2 : Hid (Chg [] w w2) := hide (C1.out.trans hw2)
    clear hw2
    go_wp2_with fail
    refine (HP.out _).mono ?_
    rintro e w3 ⟨rfl, hw3⟩
    have C3 : Hid (Chg [] w w3) := hide (C2.out.trans hw3)
    clear hw3
    go_wp2_with fail
    refine (HTb.out _ C3.out).mono ?_
    rintro e w4 ⟨rfl, hw4⟩
    have C4 : Hid (Chg [] w w4) := hide (C3.out.trans hw4)
    clear hw4
    go_wp2_with fail
    refine (HRR.out _ C4.out).mono ?_
    rintro e w5 ⟨rfl, hw5⟩
    have C5 : Hid (Chg [] w w5) := hide (C4.out.trans hw5)
    clear hw5
    go_wp2_with fail
    refine (awake_any _).mono ?_
    rintro e w6 ⟨rfl, hw6⟩
    have C6 : Hid (Chg [] w w6) := hide (C5.out.trans hw6)
    clear hw6
    go_wp2
    go_ret
    exact ⟨rfl, C6.out⟩
  · have d1 : decide (coins < 1) = false := by simpa using h1
    by_cases h2 : 13 < coins
    · have d2 : decide (13 < coins) = true := by simpa using h2
      clear h
      go_enter Try.func14, Try.ntmps14
      go_wp2_with fail
      refine (HT1.out _ (Chg.refl _ _)).mono ?_
      rintro e w1 ⟨v1, rfl, hI1, hw1⟩
      have HI1 := hide hI1
      have C1 : Hid (Chg [] w w1) := hide hw1
      clear hI1 hw1
      go_wp2_with fail
      refine (HRi.out _ _ HI1.out).mono ?_
      rintro e w2 ⟨rfl, hw2⟩
      have C2 : Hid (Chg [] w w2) := hide (C1.out.trans hw2)
      clear hw2
      go_wp2_with fail
      refine (HP.out _).mono ?_
      rintro e w3 ⟨rfl, hw3⟩
      have C3 : Hid (Chg [] w w3) := hide (C2.out.trans hw3)
      clear hw3
      go_wp2_with fail
      refine (HTb.out _ C3.out).mono ?_
      rintro e w4 ⟨rfl, hw4⟩
      have C4 : Hid (Chg [] w w4) := hide (C3.out.trans hw4)
      clear hw4
      go_wp2_with fail
      refine (HRR.out _ C4.out).mono ?_
      rintro e w5 ⟨rfl, hw5⟩
      have C5 : Hid (Chg [] w w5) := hide (C4.out.trans hw5)
      clear hw5
      go_wp2_with fail
      refine (awake_any _).mono ?_
      rintro e w6 ⟨rfl, hw6⟩
      have C6 : Hid (Chg [] w w6) := hide (C5.out.trans hw6)
      clear hw6
      go_wp2
      go_ret
      exact ⟨rfl, C6.out⟩
    · have d2 : decide (13 < coins) = false := by simpa using h2
      by_cases h3 : k < 1
      · have d3 : decide (k < 1) = true := by simpa using h3
        clear h
        go_enter Try.func14, Try.ntmps14
        go_wp2_with fail
        refine (HT1.out _ (Chg.refl _ _)).mono ?_
        rintro e w1 ⟨v1, rfl, hI1, hw1⟩
        have HI1 := hide hI1
        have C1 : Hid (Chg [] w w1) := hide hw1
        clear hI1 hw1
        go_wp2_with fail
        refine (HRi.out _ _ HI1.out).mono ?_
        rintro e w2 ⟨rfl, hw2⟩
        have C2 : Hid (Chg [] w w2) := hide (C1.out.trans hw2)
        clear hw2
        go_wp2_with fail
        refine (HP.out _).mono ?_
        rintro e w3 ⟨rfl, hw3⟩
        have C3 : Hid (Chg [] w w3) := hide (C2.out.trans hw3)
        clear hw3
        go_wp2_with fail
        refine (HTb.out _ C3.out).mono ?_
        rintro e w4 ⟨rfl, hw4⟩
        have C4 : Hid (Chg [] w w4) := hide (C3.out.trans hw4)
        clear hw4
        go_wp2_with fail
        refine (HRR.out _ C4.out).mono ?_
        rintro e w5 ⟨rfl, hw5⟩
        have C5 : Hid (Chg [] w w5) := hide (C4.out.trans hw5)
        clear hw5
        go_wp2_with fail
        refine (awake_any _).mono ?_
        rintro e w6 ⟨rfl, hw6⟩
        have C6 : Hid (Chg [] w w6) := hide (C5.out.trans hw6)
        clear hw6
        go_wp2
        go_ret
        exact ⟨rfl, C6.out⟩
      · have d3 : decide (k < 1) = false := by simpa using h3
        have d4 : decide (3 < k) = true := by simp; omega
        clear h
        go_enter Try.func14, Try.ntmps14
        go_wp2_with fail
        refine (HT1.out _ (Chg.refl _ _)).mono ?_
        rintro e w1 ⟨v1, rfl, hI1, hw1⟩
        have HI1 := hide hI1
        have C1 : Hid (Chg [] w w1) := hide hw1
        clear hI1 hw1
        go_wp2_with fail
        refine (HRi.out _ _ HI1.out).mono ?_
        rintro e w2 ⟨rfl, hw2⟩
        have C2 : Hid (Chg [] w w2) := hide (C1.out.trans hw2)
        clear hw2
        go_wp2_with fail
        refine (HP.out _).mono ?_
        rintro e w3 ⟨rfl, hw3⟩
        have C3 : Hid (Chg [] w w3) := hide (C2.out.trans hw3)
        clear hw3
        go_wp2_with fail
        refine (HTb.out _ C3.out).mono ?_
        rintro e w4 ⟨rfl, hw4⟩
        have C4 : Hid (Chg [] w w4) := hide (C3.out.trans hw4)
        clear hw4
        go_wp2_with fail
        refine (HRR.out _ C4.out).mono ?_
        rintro e w5 ⟨rfl, hw5⟩
        have C5 : Hid (Chg [] w w5) := hide (C4.out.trans hw5)
        clear hw5
        go_wp2_with fail
        refine (awake_any _).mono ?_
        rintro e w6 ⟨rfl, hw6⟩
        have C6 : Hid (Chg [] w w6) := hide (C5.out.trans hw6)
        clear hw6
        go_wp2
        go_ret
        exact ⟨rfl, C6.out⟩

set_option maxRecDepth 100000 in
set_option maxHeartbeats 4000000 in
theorem right_yes_tab (v : Value) (t : List (List Int)) (coins k : Nat) (w : World) (hv : See2 w v t) (ht : t.length ≤ 9223372036854775807) (hr : ∀ r ∈ t, r.length ≤ 9223372036854775807) (htab : W.isTab t = true) (hc1 : 1 ≤ coins) (hc13 : coins ≤ 13) (hk1 : 1 ≤ k) (hk3 : k ≤ 3) :
    Calls Try.prog 14 #[v, .int .i64 (coins : Int), .int .i64 (k : Int)] w (Ret (.bool true) w) := by
  have hch' := hide (plan_check coins k hc1 hc13 hk1 hk3)
  have HP := hide (fun ws => Plan_yes coins k ws hc1 hc13 hk1 hk3)
  have d1 : decide ((coins : Int) < 1) = false := by simp; omega
  have d2 : decide ((13 : Int) < (coins : Int)) = false := by simp; omega
  have d3 : decide ((k : Int) < 1) = false := by simp; omega
  have d4 : decide ((3 : Int) < (k : Int)) = false := by simp; omega
  have HT1 := hide fun ws (hw : Chg [] w ws) => table_any v t ws (hv.keep hw) ht
  have HTb := hide fun ws (hw : Chg [] w ws) => Table_any v t ws (hv.keep hw) hr
  have hcs := cutR (t := t)
  have HRi := hide fun v' ws (h1 : See2 ws v' (W.cut t)) => Right_any v' (W.cut t) ws h1 hcs.1 hcs.2
  rw [rightV_cut] at HRi
  have HRR := hide fun ws (hw : Chg [] w ws) => RRight_any v t ws (hv.keep hw) htab
  rw [htab] at HRi HTb
  simp only [if_true] at HRi
  clear hr hcs ht hv htab
  obtain ⟨B, hB⟩ : ∃ B, B = W.fairT t := ⟨_, rfl⟩
  rw [← hB] at HRi HRR
  have hbb : (B == B) = true := by simp
  clear hB
  go_enter Try.func14, Try.ntmps14
  go_wp2_with fail
  refine (HT1.out _ (Chg.refl _ _)).mono ?_
  rintro e w1 ⟨v1, rfl, hI1, hw1⟩
  have HI1 := hide hI1
  have C1 : Hid (Chg [] w w1) := hide hw1
  clear hI1 hw1
  go_wp2_with fail
  refine (HRi.out _ _ HI1.out).mono ?_
  rintro e w2 ⟨rfl, hw2⟩
  have C2 : Hid (Chg [] w w2) := hide (C1.out.trans hw2)
  clear hw2
  go_wp2_with fail
  refine (HP.out _).mono ?_
  rintro e w3 ⟨pv, pc, rfl, hw3, ⟨p, hp, rfl, hs⟩ | ⟨hp, rfl, rfl⟩⟩
  · have C3 : Hid (Chg [] w w3) := hide (C2.out.trans hw3)
    obtain ⟨⟨p1, p2⟩, p3, p4, p5, p6⟩ := plan_some hch'.out hp
    have HPo : Hid (∀ ws, Calls Try.prog 48 #[.int .i64 (coins : Int), .int .i64 (k : Int)] ws (Ret (.bool true) ws)) := hide fun ws => by
      have := Possible_any coins k ws hc1 hc13 hk1 hk3
      rw [hp] at this
      exact this
    have hrl : ∀ r ∈ p, r.length ≤ 9223372036854775807 := fun r hr => by
      have := (W.rowOk_iff.1 ((W.isTab_iff.1 p3).2 r hr)).1
      rw [p6] at this
      omega
    have HPT := hide fun pv ws (hw : See2 ws pv p) => Table_any pv p ws hw hrl
    have HPR := hide fun pv ws (hw : See2 ws pv p) => RRight_any pv p ws hw p3
    rw [p3] at HPT
    rw [p4] at HPR
    have hne : p ≠ [] := by rintro rfl; simp at p5; omega
    have HS := hide hs
    obtain ⟨a, cap, rfl, _, hcell⟩ := hs.open hne
    obtain ⟨bo, bc, h0⟩ := hcell 0 (by omega)
    rw [add_nought, row0, p6] at h0
    have H0 := hide h0
    rw [p5] at ⊢
    have HP5 := hide p5
    have e3 : ((coins : Int) == (coins : Int)) = true := by simp
    have e4 : ((k : Int) == (k : Int)) = true := by simp
    clear hw3 hs hp p1 p2 p3 p4 p6 hcell h0 hrl hne
    go_wp2_with fail
    refine (HPo.out _).mono ?_
    rintro e w4 ⟨rfl, hw4⟩
    have K4 := hide hw4
    have C4 : Hid (Chg [] w w4) := hide (C3.out.trans hw4)
    clear hw4
    go_wp2_with fail
    rw [← HP5.out]
    refine (HPT.out _ _ (HS.out.keep K4.out)).mono ?_
    rw [HP5.out]
    rintro e w5 ⟨rfl, hw5⟩
    have C5 : Hid (Chg [] w w5) := hide (C4.out.trans hw5)
    have K5 : Hid (Chg [] w3 w5) := hide (K4.out.trans hw5)
    have f0 := (H0.out _ K5.out).1
    clear hw5
    go_wp2_with fail
    rw [← HP5.out]
    refine (HPR.out _ _ (HS.out.keep K5.out)).mono ?_
    rw [HP5.out]
    rintro e w6 ⟨rfl, hw6⟩
    have C6 : Hid (Chg [] w w6) := hide (C5.out.trans hw6)
    clear hw6
    go_wp2_with fail
    refine (HTb.out _ C6.out).mono ?_
    rintro e w7 ⟨rfl, hw7⟩
    have C7 : Hid (Chg [] w w7) := hide (C6.out.trans hw7)
    clear hw7
    go_wp2_with fail
    refine (HRR.out _ C7.out).mono ?_
    rintro e w8 ⟨rfl, hw8⟩
    have C8 : Hid (Chg [] w w8) := hide (C7.out.trans hw8)
    clear hw8
    go_wp2_with fail
    refine (awake_any _).mono ?_
    rintro e w9 ⟨rfl, hw9⟩
    have C9 : Hid (Chg [] w w9) := hide (C8.out.trans hw9)
    clear hw9
    go_wp2
    go_ret
    exact ⟨rfl, C9.out⟩
  · have C3 : Hid (Chg [] w w3) := hide (C2.out.trans hw3)
    have HPo : Hid (∀ ws, Calls Try.prog 48 #[.int .i64 (coins : Int), .int .i64 (k : Int)] ws (Ret (.bool false) ws)) := hide fun ws => by
      have := Possible_any coins k ws hc1 hc13 hk1 hk3
      rw [hp] at this
      exact this
    clear hw3 hp
    go_wp2_with fail
    refine (HPo.out _).mono ?_
    rintro e w4 ⟨rfl, hw4⟩
    have C4 : Hid (Chg [] w w4) := hide (C3.out.trans hw4)
    clear hw4
    go_wp2_with fail
    refine (HTb.out _ C4.out).mono ?_
    rintro e w5 ⟨rfl, hw5⟩
    have C5 : Hid (Chg [] w w5) := hide (C4.out.trans hw5)
    clear hw5
    go_wp2_with fail
    refine (HRR.out _ C5.out).mono ?_
    rintro e w6 ⟨rfl, hw6⟩
    have C6 : Hid (Chg [] w w6) := hide (C5.out.trans hw6)
    clear hw6
    go_wp2_with fail
    refine (awake_any _).mono ?_
    rintro e w7 ⟨rfl, hw7⟩
    have C7 : Hid (Chg [] w w7) := hide (C6.out.trans hw7)
    clear hw7
    go_wp2
    go_ret
    exact ⟨rfl, C7.out⟩

theorem weighRight_walk (v0 v1 v2 : Value) (w : World) (h0 : IsRows w v0) (h1 : IsInt v1) (h2 : IsInt v2) : Calls Try.prog 14 #[v0, v1, v2] w (Ret (.bool true) w) := by
  obtain ⟨t, ht, hl, hr⟩ := h0
  obtain ⟨x, rfl, _⟩ := h1
  obtain ⟨y, rfl, _⟩ := h2
  by_cases h : x < 1 ∨ 13 < x ∨ y < 1 ∨ 3 < y
  · cases htab : W.isTab t with
    | false => exact right_no_bad v0 t x y w ht hl hr htab h
    | true => exact right_no_tab v0 t x y w ht hl hr htab h
  · have e1 : x = (x.toNat : Int) := by omega
    have e2 : y = (y.toNat : Int) := by omega
    rw [e1, e2]
    cases htab : W.isTab t with
    | false => exact right_yes_bad v0 t x.toNat y.toNat w ht hl hr htab (by omega) (by omega) (by omega) (by omega)
    | true => exact right_yes_tab v0 t x.toNat y.toNat w ht hl hr htab (by omega) (by omega) (by omega) (by omega)
end Go.Proofs.Ytohdjlgghkcaoaa
