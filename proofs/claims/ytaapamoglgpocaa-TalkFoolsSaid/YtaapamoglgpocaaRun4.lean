/- Walk: Run, the program's. -/
import Derived.Test.YtaapamoglgpocaaRun3
namespace Go.Proofs.Ytaapamoglgpocaa
open Go.RowKit

theorem runF_len {ps : List Nd} (row col : Nat) : ∀ f i, (runF ps row col f i).length ≤ f
  | 0, _ => Nat.le_refl _
  | f + 1, i => by
    unfold runF
    split
    · simp
    · rw [List.length_cons]; exact Nat.succ_le_succ (runF_len row col f _)
theorem runM_len {ps : List Nd} (row col : Nat) : (runM ps row col).length ≤ ps.length := runF_len _ _ _ _

set_option maxRecDepth 100000 in
set_option maxHeartbeats 1000000 in
theorem Run_bad (v : Value) (ps : List Nd) (row col : Int) (w : World) (hv : SeeN w v ps) (hl : ps.length ≤ 1000000) (hb : ¬ (isPl ps = true ∧ 0 ≤ row ∧ 0 ≤ col ∧ row < 4 ∧ col < 4)) :
    Calls Try.prog 30 #[v, .int .i64 row, .int .i64 col] w (Ret (.tuple #[.slice none 0 0, .int .i64 2]) w) := by
  have kmin := fun w ts t x y => @run_min_2 Try.prog w ts t x y
  have kmax := fun w ts t x y => @run_max_2 Try.prog w ts t x y
  have HP := hide (isPlan_any v ps w hv hl)
  obtain ⟨ao, cap, rfl⟩ := hv.shape
  obtain ⟨mi, hmi⟩ : ∃ mi, imin row col = mi := ⟨_, rfl⟩
  obtain ⟨ma, hma⟩ : ∃ ma, imax row col = ma := ⟨_, rfl⟩
  obtain ⟨p1, p2, p3⟩ := imin_pick row col
  obtain ⟨q1, q2, q3⟩ := imax_pick row col
  rw [hmi] at p1 p2 p3
  rw [hma] at q1 q2 q3
  clear hv hl
  cases hp : isPl ps with
  | false =>
    rw [hp] at HP
    clear hb hp p1 p2 p3 q1 q2 q3 hmi hma
    go_enter Try.func30, Try.ntmps30
    go_wp2_with fail
    refine HP.out.mono ?_
    rintro e w1 ⟨rfl, hw1⟩
    go_wp2
    go_ret2
    exact ⟨rfl, hw1⟩
  | true =>
    rw [hp] at HP hb
    by_cases h1 : mi < 0
    · have d1 : decide (mi < 0) = true := by simpa using h1
      clear hb hp p1 p2 p3 q1 q2 q3 hma
      go_enter Try.func30, Try.ntmps30
      go_wp2_with fail
      refine HP.out.mono ?_
      rintro e w1 ⟨rfl, hw1⟩
      go_wp2
      go_ret2
      exact ⟨rfl, hw1⟩
    · have d1 : decide (mi < 0) = false := by simpa using h1
      have h2 : 4 ≤ ma := by
        refine Classical.byContradiction fun h => hb ⟨rfl, ?_⟩
        omega
      have d2 : decide (4 ≤ ma) = true := by simpa using h2
      clear hb hp p1 p2 p3 q1 q2 q3
      go_enter Try.func30, Try.ntmps30
      go_wp2_with fail
      refine HP.out.mono ?_
      rintro e w1 ⟨rfl, hw1⟩
      go_wp2
      go_ret2
      exact ⟨rfl, hw1⟩

set_option maxRecDepth 100000 in
set_option maxHeartbeats 1000000 in
theorem Run_good (v : Value) (ps : List Nd) (row col : Nat) (w : World) (hv : SeeN w v ps) (hp : isPl ps = true) (hr : row < 4) (hc : col < 4) :
    Calls Try.prog 30 #[v, .int .i64 (row : Int), .int .i64 (col : Int)] w fun e w' => ∃ v', e = .returned (.tuple #[v', .int .i64 0]) ∧ Ints w' v' (runM ps row col) ∧ Chg [] w w' := by
  have kmin := fun w ts t x y => @run_min_2 Try.prog w ts t x y
  have kmax := fun w ts t x y => @run_max_2 Try.prog w ts t x y
  have HP := hide (isPlan_any v ps w hv (by have := (isPl_iff.1 hp).2.1; omega))
  have HR := hide fun ws (hw : Chg [] w ws) => run_any v ps row col ws (hv.keep hw) hp hr hc
  obtain ⟨ao, cap, rfl⟩ := hv.shape
  obtain ⟨mi, hmi⟩ : ∃ mi, imin (row : Int) (col : Int) = mi := ⟨_, rfl⟩
  obtain ⟨ma, hma⟩ : ∃ ma, imax (row : Int) (col : Int) = ma := ⟨_, rfl⟩
  obtain ⟨p1, p2, p3⟩ := imin_pick (row : Int) (col : Int)
  obtain ⟨q1, q2, q3⟩ := imax_pick (row : Int) (col : Int)
  rw [hmi] at p1 p2 p3
  rw [hma] at q1 q2 q3
  have d1 : decide (mi < 0) = false := by simp; omega
  have d2 : decide (4 ≤ ma) = false := by simp; omega
  rw [hp] at HP
  clear hv hp p1 p2 p3 q1 q2 q3
  go_enter Try.func30, Try.ntmps30
  go_wp2_with fail
  refine HP.out.mono ?_
  rintro e w1 ⟨rfl, hw1⟩
  have C1 := hide hw1
  clear hw1
  go_wp2_with fail
  refine (HR.out _ C1.out).mono ?_
  rintro e w2 ⟨v', rfl, hI, hw2⟩
  have HI := hide hI
  have C2 : Hid (Chg [] w w2) := hide (C1.out.trans hw2)
  clear hI hw2
  go_wp2
  go_ret2
  exact ⟨_, rfl, HI.out, C2.out⟩
end Go.Proofs.Ytaapamoglgpocaa
