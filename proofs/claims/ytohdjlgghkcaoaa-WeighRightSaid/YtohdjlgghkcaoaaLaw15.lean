/- Walk: the statement WeighPlans. -/
import Derived.Test.YtohdjlgghkcaoaaPl7
import Derived.Test.YtohdjlgghkcaoaaPlanPlain2
import Derived.Test.YtohdjlgghkcaoaaLaw13
namespace Go.Proofs.Ytohdjlgghkcaoaa
open Go.RowKit

@[go_sem] theorem most_at1 (w : World) : (Instr.index 74 (.agg #[.int .i64 0, .int .i64 0, .int .i64 3, .int .i64 12]) (.int .i64 1)).run Try.prog w = .ok (.int .i64 0) w := by kernel_rfl
@[go_sem] theorem most_at2 (w : World) : (Instr.index 74 (.agg #[.int .i64 0, .int .i64 0, .int .i64 3, .int .i64 12]) (.int .i64 2)).run Try.prog w = .ok (.int .i64 3) w := by kernel_rfl
@[go_sem] theorem most_at3 (w : World) : (Instr.index 74 (.agg #[.int .i64 0, .int .i64 0, .int .i64 3, .int .i64 12]) (.int .i64 3)).run Try.prog w = .ok (.int .i64 12) w := by kernel_rfl
theorem plan_check (coins k : Nat) (hc1 : 1 ≤ coins) (hc13 : coins ≤ 13) (hk1 : 1 ≤ k) (hk3 : k ≤ 3) : W.checkP coins k = true := by
  rcases (show k = 1 ∨ k = 2 ∨ k = 3 by omega) with rfl | rfl | rfl
  · have := List.all_eq_true.1 W.checks1 (coins - 1) (List.mem_range.2 (by omega))
    rwa [show coins - 1 + 1 = coins by omega] at this
  · have := List.all_eq_true.1 W.checks2 (coins - 1) (List.mem_range.2 (by omega))
    rwa [show coins - 1 + 1 = coins by omega] at this
  · by_cases h : coins ≤ 8
    · have := List.all_eq_true.1 W.checks3a (coins - 1) (List.mem_range.2 (by omega))
      rwa [show coins - 1 + 1 = coins by omega] at this
    · exact List.all_eq_true.1 W.checks3b coins (List.mem_range'_1.2 (by omega))
theorem plan_some {coins k : Nat} {p : List (List Int)} (hc : W.checkP coins k = true) (h : W.planM coins k = some p) : (3 ≤ coins ∧ coins ≤ W.most k) ∧ W.isTab p = true ∧ W.fairT p = true ∧ p.length = coins ∧ W.cols p = k := by
  unfold W.checkP at hc
  rw [h] at hc
  simp only [Bool.and_eq_true, decide_eq_true_eq] at hc
  obtain ⟨⟨⟨⟨h1, h2⟩, h3⟩, h4⟩, h5⟩ := hc
  exact ⟨h1, h2, h3, h4, h5⟩
theorem plan_none {coins k : Nat} (hc : W.checkP coins k = true) (h : W.planM coins k = none) : ¬ (3 ≤ coins ∧ coins ≤ W.most k) := by
  unfold W.checkP at hc
  rw [h] at hc
  simpa only [Bool.not_eq_true', decide_eq_false_iff_not] using hc

set_option maxRecDepth 100000 in
set_option maxHeartbeats 2000000 in
theorem walk_plans_no (coins k : Int) (w : World) (h : coins < 1 ∨ 13 < coins ∨ k < 1 ∨ 3 < k) : Calls Try.prog 15 #[.int .i64 coins, .int .i64 k] w (Ret (.bool true) w) := by
  have HP := hide (Plan_no coins k w h)
  by_cases h1 : coins < 1
  · have d1 : decide (coins < 1) = true := by simpa using h1
    clear h
    go_enter Try.func15, Try.ntmps15
    go_wp2_with fail
    refine HP.out.mono ?_
    rintro e w1 ⟨rfl, hw1⟩
    go_wp2_with fail
    refine (awake_any _).mono ?_
    rintro e w2 ⟨rfl, hw2⟩
    go_wp2
    go_ret
    exact ⟨rfl, hw1.trans hw2⟩
  · have d1 : decide (coins < 1) = false := by simpa using h1
    by_cases h2 : 13 < coins
    · have d2 : decide (13 < coins) = true := by simpa using h2
      clear h
      go_enter Try.func15, Try.ntmps15
      go_wp2_with fail
      refine HP.out.mono ?_
      rintro e w1 ⟨rfl, hw1⟩
      go_wp2_with fail
      refine (awake_any _).mono ?_
      rintro e w2 ⟨rfl, hw2⟩
      go_wp2
      go_ret
      exact ⟨rfl, hw1.trans hw2⟩
    · have d2 : decide (13 < coins) = false := by simpa using h2
      by_cases h3 : k < 1
      · have d3 : decide (k < 1) = true := by simpa using h3
        clear h
        go_enter Try.func15, Try.ntmps15
        go_wp2_with fail
        refine HP.out.mono ?_
        rintro e w1 ⟨rfl, hw1⟩
        go_wp2_with fail
        refine (awake_any _).mono ?_
        rintro e w2 ⟨rfl, hw2⟩
        go_wp2
        go_ret
        exact ⟨rfl, hw1.trans hw2⟩
      · have d3 : decide (k < 1) = false := by simpa using h3
        have d4 : decide (3 < k) = true := by simp; omega
        clear h
        go_enter Try.func15, Try.ntmps15
        go_wp2_with fail
        refine HP.out.mono ?_
        rintro e w1 ⟨rfl, hw1⟩
        go_wp2_with fail
        refine (awake_any _).mono ?_
        rintro e w2 ⟨rfl, hw2⟩
        go_wp2
        go_ret
        exact ⟨rfl, hw1.trans hw2⟩

set_option maxRecDepth 100000 in
set_option maxHeartbeats 4000000 in
theorem walk_plans_k (coins k : Nat) (mo : Int) (w : World) (hc1 : 1 ≤ coins) (hc13 : coins ≤ 13) (hk : (k = 1 ∧ mo = 0) ∨ (k = 2 ∧ mo = 3) ∨ (k = 3 ∧ mo = 12)) : Calls Try.prog 15 #[.int .i64 (coins : Int), .int .i64 (k : Int)] w (Ret (.bool true) w) := by
  have hk1 : 1 ≤ k := by omega
  have hk3 : k ≤ 3 := by omega
  have hch := plan_check coins k hc1 hc13 hk1 hk3
  have hmost : (W.most k : Int) = mo := by rcases hk with ⟨rfl, rfl⟩ | ⟨rfl, rfl⟩ | ⟨rfl, rfl⟩ <;> rfl
  have HP := hide (Plan_yes coins k w hc1 hc13 hk1 hk3)
  have hch' := hide hch
  have hmo := hide hmost
  have d3 : decide ((k : Int) < 1) = false := by simp; omega
  have d4 : decide ((3 : Int) < (k : Int)) = false := by simp; omega
  have hkk := hide hk
  clear hch hmost
  go_enter Try.func15, Try.ntmps15
  go_wp2_with fail
  refine HP.out.mono ?_
  rintro e w1 ⟨v, c, rfl, hw1, ⟨p, hp, rfl, hs⟩ | ⟨hp, rfl, rfl⟩⟩
  · obtain ⟨⟨p1, p2⟩, p3, p4, p5, p6⟩ := plan_some hch'.out hp
    have HW1 := hide hw1
    have HS := hide hs
    obtain ⟨so, scap, rfl⟩ := hs.shape
    have e1 : decide ((3 : Int) ≤ (coins : Int)) = true := by simp; omega
    have e2 : decide ((coins : Int) ≤ mo) = true := by have := hmo.out; simp; omega
    have HT := hide fun ws (hw : Chg [] w1 ws) => table_any _ p ws (HS.out.keep hw) (by omega)
    have hcs := cutR (t := p)
    have HRi := hide fun v' ws (h1 : See2 ws v' (W.cut p)) => Right_any v' (W.cut p) ws h1 hcs.1 hcs.2
    rw [rightV_cut, if_pos p3, p4] at HRi
    rw [p5] at HT ⊢
    have e3 : ((coins : Int) == (coins : Int)) = true := by simp
    have hne1 : k ≠ 1 := by
      rintro rfl
      have : W.most 1 = 0 := rfl
      omega
    clear hw1 hs hp p1 p2 p3 p4 p5 p6 hcs
    rcases hkk.out with ⟨h1, _⟩ | ⟨rfl, rfl⟩ | ⟨rfl, rfl⟩
    · exact absurd h1 hne1
    all_goals (
      clear hne1
      clear hkk hk
      go_wp2_with fail
      refine (HT.out _ (Chg.refl _ _)).mono ?_
      rintro e w2 ⟨v2, rfl, hI2, hw2⟩
      have hI2 : See2 w2 v2 (W.cut p) := hI2
      have HI2 := hide hI2
      clear hI2
      go_wp2_with fail
      refine (HRi.out _ _ HI2.out).mono ?_
      rintro e w3 ⟨rfl, hw3⟩
      go_wp2_with fail
      refine (awake_any _).mono ?_
      rintro e w4 ⟨rfl, hw4⟩
      go_wp2
      go_ret
      exact ⟨rfl, ((HW1.out.trans hw2).trans hw3).trans hw4⟩)
  · have hn := plan_none hch'.out hp
    have HW1 := hide hw1
    have hmo' := hmo.out
    clear hw1 hp
    by_cases h3 : 3 ≤ coins
    · have e1 : decide ((3 : Int) ≤ (coins : Int)) = true := by simp; omega
      have e2 : decide ((coins : Int) ≤ mo) = false := by simp; omega
      clear hn hmo'
      rcases hkk.out with ⟨rfl, rfl⟩ | ⟨rfl, rfl⟩ | ⟨rfl, rfl⟩
      all_goals (
        clear hkk hk
        go_wp2_with fail
        refine (awake_any _).mono ?_
        rintro e w4 ⟨rfl, hw4⟩
        go_wp2
        go_ret
        exact ⟨rfl, HW1.out.trans hw4⟩)
    · have e1 : decide ((3 : Int) ≤ (coins : Int)) = false := by simp; omega
      clear hn hmo'
      rcases hkk.out with ⟨rfl, rfl⟩ | ⟨rfl, rfl⟩ | ⟨rfl, rfl⟩
      all_goals (
        clear hkk hk
        go_wp2_with fail
        refine (awake_any _).mono ?_
        rintro e w4 ⟨rfl, hw4⟩
        go_wp2
        go_ret
        exact ⟨rfl, HW1.out.trans hw4⟩)

theorem weighPlans_walk (v0 v1 : Value) (w : World) (h0 : IsInt v0) (h1 : IsInt v1) : Calls Try.prog 15 #[v0, v1] w (Ret (.bool true) w) := by
  obtain ⟨x, rfl, _⟩ := h0
  obtain ⟨y, rfl, _⟩ := h1
  by_cases h : x < 1 ∨ 13 < x ∨ y < 1 ∨ 3 < y
  · exact walk_plans_no x y w h
  · have e1 : x = (x.toNat : Int) := by omega
    have e2 : y = (y.toNat : Int) := by omega
    rw [e1, e2]
    refine walk_plans_k x.toNat y.toNat (if y = 1 then 0 else if y = 2 then 3 else 12) w (by omega) (by omega) ?_
    rcases (show y = 1 ∨ y = 2 ∨ y = 3 by omega) with rfl | rfl | rfl
    · exact .inl ⟨rfl, rfl⟩
    · exact .inr (.inl ⟨rfl, rfl⟩)
    · exact .inr (.inr ⟨rfl, rfl⟩)
end Go.Proofs.Ytohdjlgghkcaoaa
