/- Walk: the statement WeighTwelve. -/
import Derived.Test.YtohdjlgghkcaoaaW13
import Derived.Test.YtohdjlgghkcaoaaOpen
namespace Go.Proofs.Ytohdjlgghkcaoaa
open Go.RowKit

/-- A number brought below a bound by way of uint. -/
theorem mod_small (a : Int) (m : Nat) (h0 : 0 < m) (h1 : m ≤ 1000000) : ∃ G : Nat, wrap64 ((IntKind.u64.wrap a).tmod (m : Int)) = (G : Int) ∧ G < m := by
  have hu : 0 ≤ IntKind.u64.wrap a := by simp only [IntKind.wrap, IntKind.bits, IntKind.signed]; simp; omega
  have h2 : (IntKind.u64.wrap a).tmod (m : Int) = IntKind.u64.wrap a % (m : Int) := Int.tmod_eq_emod_of_nonneg hu
  have h3 : 0 ≤ IntKind.u64.wrap a % (m : Int) := Int.emod_nonneg _ (by omega)
  have h4 : IntKind.u64.wrap a % (m : Int) < (m : Int) := Int.emod_lt_of_pos _ (by omega)
  rw [h2, IntWalk.wrap64_in _ ⟨by omega, by omega⟩]
  exact ⟨(IntKind.u64.wrap a % (m : Int)).toNat, by omega, by omega⟩

theorem need12 (n : Bool) (w : World) : Calls Try.prog 16 #[.agg #[.int .i64 12, .int .i64 0, .int .i64 0, .int .i64 0, .bool n]] w (Ret (.tuple #[.int .i64 3, .int .i64 0]) w) := by
  have h := Need_yes ⟨12, 0, 0, 0, n⟩ ⟨by simp, by simp, by cases n <;> decide⟩ w
  rw [W.need_twelve] at h
  exact h
theorem need13 (n : Bool) (w : World) : Calls Try.prog 16 #[.agg #[.int .i64 13, .int .i64 0, .int .i64 0, .int .i64 0, .bool n]] w (Ret (.tuple #[.int .i64 4, .int .i64 0]) w) := by
  have h := Need_yes ⟨13, 0, 0, 0, n⟩ ⟨by simp, by simp, by cases n <;> decide⟩ w
  rw [W.need_thirteen] at h
  exact h
theorem need13g (n : Bool) (g : Nat) (h1 : 1 ≤ g) (h2 : g ≤ 13) (w : World) : Calls Try.prog 16 #[.agg #[.int .i64 13, .int .i64 0, .int .i64 0, .int .i64 (g : Int), .bool n]] w (Ret (.tuple #[.int .i64 3, .int .i64 0]) w) := by
  have h := Need_yes ⟨13, 0, 0, g, n⟩ ⟨by simp, h2, by unfold W.K.poss; simp only []; omega⟩ w
  rw [W.need_thirteen_good n g h1] at h
  exact h
theorem needTwo (w : World) : Calls Try.prog 16 #[.agg #[.int .i64 2, .int .i64 0, .int .i64 0, .int .i64 0, .bool false]] w (Ret (.tuple #[.int .i64 0, .int .i64 4]) w) := by
  have h := Need_yes ⟨2, 0, 0, 0, false⟩ ⟨by decide, by decide, by decide⟩ w
  rw [W.need_two] at h
  exact h

set_option maxRecDepth 100000 in
set_option maxHeartbeats 1000000 in
theorem walk_twelve (a0 : Bool) (a1 : Int) (w : World) : Calls Try.prog 3 #[.bool a0, .int .i64 a1] w (Ret (.bool true) w) := by
  obtain ⟨G, hG, hG13⟩ := mod_small a1 14 (by decide) (by decide)
  rw [show ((14 : Nat) : Int) = 14 from rfl] at hG
  by_cases h0 : G = 0
  · subst h0
    rw [show ((0 : Nat) : Int) = 0 from rfl] at hG
    go_enter Try.func3, Try.ntmps3
    go_wp2_with fail
    refine (need12 _ _).mono ?_
    rintro e w1 ⟨rfl, hw1⟩
    go_wp2_with fail
    refine (need13 _ _).mono ?_
    rintro e w2 ⟨rfl, hw2⟩
    go_wp2_with fail
    refine (needTwo _).mono ?_
    rintro e w3 ⟨rfl, hw3⟩
    go_wp2_with fail
    refine (awake_any _).mono ?_
    rintro e w4 ⟨rfl, hw4⟩
    go_wp2
    go_ret
    exact ⟨rfl, ((hw1.trans hw2).trans hw3).trans hw4⟩
  · have d0 : ((G : Int) == 0) = false := by simp; omega
    go_enter Try.func3, Try.ntmps3
    go_wp2_with fail
    refine (need12 _ _).mono ?_
    rintro e w1 ⟨rfl, hw1⟩
    go_wp2_with fail
    refine (need13g _ _ (by omega) (by omega) _).mono ?_
    rintro e w2 ⟨rfl, hw2⟩
    go_wp2_with fail
    refine (needTwo _).mono ?_
    rintro e w3 ⟨rfl, hw3⟩
    go_wp2_with fail
    refine (awake_any _).mono ?_
    rintro e w4 ⟨rfl, hw4⟩
    go_wp2
    go_ret
    exact ⟨rfl, ((hw1.trans hw2).trans hw3).trans hw4⟩

theorem weighTwelve_walk (v0 v1 : Value) (w : World) (h0 : IsBool v0) (h1 : IsInt v1) : Calls Try.prog 3 #[v0, v1] w (Ret (.bool true) w) := by
  obtain ⟨a0, rfl⟩ := h0
  obtain ⟨a1, rfl, _⟩ := h1
  exact walk_twelve a0 a1 w
end Go.Proofs.Ytohdjlgghkcaoaa
