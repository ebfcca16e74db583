/- Walk: the statement TalkRuns. -/
import Derived.Test.YtaapamoglgpocaaRun4
import Derived.Test.YtaapamoglgpocaaLen3
import Derived.Test.YtaapamoglgpocaaOpen
namespace Go.Proofs.Ytaapamoglgpocaa
open Go.RowKit

set_option maxRecDepth 100000 in
set_option maxHeartbeats 1000000 in
theorem runs_bad (v : Value) (ps : List Nd) (row col : Int) (w : World) (hv : SeeN w v ps) (hl : ps.length ≤ 9223372036854775807) (hb : ¬ (isPl ps = true ∧ 0 ≤ row ∧ 0 ≤ col ∧ row < 4 ∧ col < 4)) :
    Calls Try.prog 5 #[v, .int .i64 row, .int .i64 col] w (Ret (.bool true) w) := by
  have HC := hide (plan_copy v ps w hv hl)
  have HRn := hide fun v' ws (h : SeeN ws v' (ps.take 110)) => Run_bad v' _ row col ws h (by rw [List.length_take]; omega) (by rw [isPl_take]; exact hb)
  have HRP := hide fun ws (hw : Chg [] w ws) => RPlan_any v ps ws (hv.keep hw) hl
  obtain ⟨ao, cap, rfl⟩ := hv.shape
  clear hv hl
  go_enter Try.func5, Try.ntmps5
  go_wp2_with fail
  refine HC.out.mono ?_
  rintro e w1 ⟨v1, rfl, hI, hw1⟩
  have HI := hide hI
  have C1 := hide hw1
  clear hI hw1
  go_wp2_with fail
  refine (HRn.out _ _ HI.out).mono ?_
  rintro e w2 ⟨rfl, hw2⟩
  have C2 : Hid (Chg [] w w2) := hide (C1.out.trans hw2)
  clear hw2
  go_wp2_with fail
  refine (HRP.out _ C2.out).mono ?_
  rintro e w3 ⟨rfl, hw3⟩
  have C3 : Hid (Chg [] w w3) := hide (C2.out.trans hw3)
  clear hw3
  generalize isPl ps = b at *
  have HAw := hide fun ws (hw : Chg [] w ws) => show Calls Try.prog 20 #[] ws (Ret (.bool true) w) from (awake_any ws).mono (by rintro e w4 ⟨rfl, hw4⟩; exact ⟨rfl, hw.trans hw4⟩)
  cases b with
  | false =>
    clear hb
    go_wp2_with fail
    refine (HAw.out _ C3.out).mono ?_
    rintro e w4 ⟨rfl, hw4⟩
    go_wp2
    go_ret
    exact ⟨rfl, hw4⟩
  | true =>
    by_cases h1 : row < 0
    · have d1 : decide (row < 0) = true := by simpa using h1
      clear hb
      go_wp2_with fail
      refine (HAw.out _ C3.out).mono ?_
      rintro e w4 ⟨rfl, hw4⟩
      go_wp2
      go_ret
      exact ⟨rfl, hw4⟩
    have d1 : decide (row < 0) = false := by simpa using h1
    by_cases h2 : 3 < row
    · have d2 : decide (3 < row) = true := by simpa using h2
      clear hb
      go_wp2_with fail
      refine (HAw.out _ C3.out).mono ?_
      rintro e w4 ⟨rfl, hw4⟩
      go_wp2
      go_ret
      exact ⟨rfl, hw4⟩
    have d2 : decide (3 < row) = false := by simpa using h2
    by_cases h3 : col < 0
    · have d3 : decide (col < 0) = true := by simpa using h3
      clear hb
      go_wp2_with fail
      refine (HAw.out _ C3.out).mono ?_
      rintro e w4 ⟨rfl, hw4⟩
      go_wp2
      go_ret
      exact ⟨rfl, hw4⟩
    have d3 : decide (col < 0) = false := by simpa using h3
    have h4 : 3 < col := Classical.byContradiction fun h => hb ⟨rfl, by omega⟩
    have d4 : decide (3 < col) = true := by simpa using h4
    clear hb
    go_wp2_with fail
    refine (HAw.out _ C3.out).mono ?_
    rintro e w4 ⟨rfl, hw4⟩
    go_wp2
    go_ret
    exact ⟨rfl, hw4⟩

set_option maxRecDepth 100000 in
set_option maxHeartbeats 1000000 in
theorem runs_good (v : Value) (ps : List Nd) (row col : Nat) (w : World) (hv : SeeN w v ps) (hp : isPl ps = true) (hr : row < 4) (hc : col < 4) :
    Calls Try.prog 5 #[v, .int .i64 (row : Int), .int .i64 (col : Int)] w (Ret (.bool true) w) := by
  have hln := (isPl_iff.1 hp).2.1
  have HC := hide (plan_copy v ps w hv (by omega))
  rw [take_plan hp] at HC
  have HRn := hide fun v' ws (h : SeeN ws v' ps) => Run_good v' ps row col ws h hp hr hc
  have HRR := hide fun ws (hw : Chg [] w ws) => RRun_any v ps row col ws (hv.keep hw) hp hr hc
  have HRP := hide fun ws (hw : Chg [] w ws) => RPlan_any v ps ws (hv.keep hw) (by omega)
  rw [hp] at HRP
  obtain ⟨ao, cap, rfl⟩ := hv.shape
  have HLe := hide (show (runM ps row col).length < 1000000 by have := runM_len (ps := ps) row col; omega)
  have d1 : decide ((row : Int) < 0) = false := by simp
  have d2 : decide ((3 : Int) < (row : Int)) = false := by simp; omega
  have d3 : decide ((col : Int) < 0) = false := by simp
  have d4 : decide ((3 : Int) < (col : Int)) = false := by simp; omega
  generalize runM ps row col = xs at *
  clear hv hp
  go_enter Try.func5, Try.ntmps5
  go_wp2_with fail
  refine HC.out.mono ?_
  rintro e w1 ⟨v1, rfl, hI, hw1⟩
  have HI := hide hI
  have C1 := hide hw1
  clear hI hw1
  go_wp2_with fail
  refine (HRn.out _ _ HI.out).mono ?_
  rintro e w2 ⟨v2, rfl, hI2, hw2⟩
  have HI2 := hide hI2
  have C2 : Hid (Chg [] w w2) := hide (C1.out.trans hw2)
  clear hw2 hI2
  go_wp2_with fail
  refine (HRP.out _ C2.out).mono ?_
  rintro e w3 ⟨rfl, hw3⟩
  have HI3 := hide (HI2.out.keep hw3)
  have C3 : Hid (Chg [] w w3) := hide (C2.out.trans hw3)
  clear hw3
  go_wp2_with fail
  refine (HRR.out _ C3.out).mono ?_
  rintro e w4 ⟨v4, rfl, hI4, hw4⟩
  have HI4 := hide hI4
  have HI3' := hide (HI3.out.keep hw4)
  have C4 : Hid (Chg [] w w4) := hide (C3.out.trans hw4)
  clear hw4 hI4
  go_wp2_with fail
  refine (Equal_any _ _ xs xs _ HI3'.out.toSee HI4.out.toSee HLe.out).mono ?_
  rintro e w5 ⟨rfl, hw5⟩
  have C5 : Hid (Chg [] w w5) := hide (C4.out.trans hw5)
  clear hw5
  have dd : decide (xs = xs) = true := by simp
  rw [dd]
  go_wp2_with fail
  refine (awake_any _).mono ?_
  rintro e w6 ⟨rfl, hw6⟩
  have C6 : Hid (Chg [] w w6) := hide (C5.out.trans hw6)
  clear hw6
  go_wp2
  go_ret
  exact ⟨rfl, C6.out⟩

theorem talkRuns_walk (v r c : Value) (w : World) (hv : IsNodes w v) (hr : IsInt r) (hc : IsInt c) : Calls Try.prog 5 #[v, r, c] w (Ret (.bool true) w) := by
  obtain ⟨ps, hs, hl⟩ := hv
  obtain ⟨row, rfl, _⟩ := hr
  obtain ⟨col, rfl, _⟩ := hc
  by_cases h : isPl ps = true ∧ 0 ≤ row ∧ 0 ≤ col ∧ row < 4 ∧ col < 4
  · obtain ⟨hp, h1, h2, h3, h4⟩ := h
    obtain ⟨r, rfl⟩ := Int.eq_ofNat_of_zero_le h1
    obtain ⟨c, rfl⟩ := Int.eq_ofNat_of_zero_le h2
    exact runs_good v ps r c w hs hp (by omega) (by omega)
  · exact runs_bad v ps row col w hs hl h
end Go.Proofs.Ytaapamoglgpocaa
