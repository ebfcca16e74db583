/- Walk: whether there is a right plan, the reference's. -/
import Derived.Test.YtohdjlgghkcaoaaPo2
import Derived.Test.YtohdjlgghkcaoaaLaw15
namespace Go.Proofs.Ytohdjlgghkcaoaa
open Go.RowKit

theorem poss_all (k : Nat) (hk1 : 1 ≤ k) (hk3 : k ≤ 3) : ∀ c, c ≤ 13 → PossOk k c
  | 0, _ => poss_end k
  | c + 1, h => poss_more k c hk1 hk3 h (poss_all k hk1 hk3 c (by omega))

theorem poss_plan {coins k : Nat} (hc1 : 1 ≤ coins) (hc13 : coins ≤ 13) (hk1 : 1 ≤ k) (hk3 : k ≤ 3) : W.possM k coins 1 (fun _ => 0) = (W.planM coins k).isSome := by
  have hch := plan_check coins k hc1 hc13 hk1 hk3
  have hq : W.possM k coins 1 (fun _ => 0) = decide (3 ≤ coins ∧ coins ≤ W.most k) := by
    rcases (show k = 1 ∨ k = 2 ∨ k = 3 by omega) with rfl | rfl | rfl
    · have := List.all_eq_true.1 W.checkq1 (coins - 1) (List.mem_range.2 (by omega))
      rw [show coins - 1 + 1 = coins by omega] at this
      exact eq_of_beq this
    · have := List.all_eq_true.1 W.checkq2 (coins - 1) (List.mem_range.2 (by omega))
      rw [show coins - 1 + 1 = coins by omega] at this
      exact eq_of_beq this
    · by_cases h : coins ≤ 12
      · have := List.all_eq_true.1 W.checkq3 (coins - 1) (List.mem_range.2 (by omega))
        rw [show coins - 1 + 1 = coins by omega] at this
        exact eq_of_beq this
      · obtain rfl : coins = 13 := by omega
        rw [W.poss13]
        exact (decide_eq_false (by decide)).symm
  rw [hq]
  cases hp : W.planM coins k with
  | none => exact decide_eq_false (plan_none hch hp)
  | some p => exact decide_eq_true (plan_some hch hp).1

set_option maxRecDepth 100000 in
set_option maxHeartbeats 1000000 in
theorem Possible_any (coins k : Nat) (w : World) (hc1 : 1 ≤ coins) (hc13 : coins ≤ 13) (hk1 : 1 ≤ k) (hk3 : k ≤ 3) :
    Calls Try.prog 48 #[.int .i64 (coins : Int), .int .i64 (k : Int)] w (Ret (.bool (W.planM coins k).isSome) w) := by
  have hP : ∀ w, Calls Try.prog 74 #[.int .i64 (coins : Int), .int .i64 (k : Int), .int .i64 1, .int .i64 (pw k : Int), .agg #[.int .i64 0, .int .i64 0, .int .i64 0]] w (Ret (.bool (W.planM coins k).isSome) w) := fun w => by
    have := poss_all k hk1 hk3 coins hc13 1 (fun _ => 0) w (by omega) (fun j _ => by omega)
    rw [poss_plan hc1 hc13 hk1 hk3] at this
    exact this
  have HP := hide hP
  clear hP
  go_enter Try.func48, Try.ntmps48
  go_wp2
  go_loop [5, 7] (fun r i => ∃ j : Nat, j ≤ k ∧ i = .int .i64 (j : Int) ∧ r = .int .i64 (pw j : Int)) (fun _ i => k - (intOf i).toNat)
  case atStart => exact ⟨0, Nat.zero_le _, rfl, rfl⟩
  case round =>
    obtain ⟨j, hj, rfl, rfl⟩ := hrel
    have hp6 : pw j ≤ 729 := pow6 (by omega)
    by_cases hlt : j < k
    · have dl : decide ((j : Int) < (k : Int)) = true := by simpa using hlt
      go_wp2
      go_round
      case rel => exact ⟨j + 1, by omega, by go_num, by rw [pw_succ]; go_num⟩
      case measure => simp [intOf]; omega
    · obtain rfl : j = k := by omega
      have dl : decide ((j : Int) < (j : Int)) = false := by simp
      go_wp2_with fail
      refine (HP.out _).mono ?_
      rintro e w1 ⟨rfl, hw1⟩
      go_wp2
      go_ret
      exact ⟨rfl, hw1⟩
end Go.Proofs.Ytohdjlgghkcaoaa
