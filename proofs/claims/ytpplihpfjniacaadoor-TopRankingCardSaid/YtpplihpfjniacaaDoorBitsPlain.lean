/- Plain: the lowest bit of a number, and what is left without it. -/
import Derived.Lib.TrailingZeros
import Derived.Test.YtpplihpfjniacaaDoorFamPlain
namespace Go.Proofs.YtpplihpfjniacaaDoor
namespace Fam

theorem low_split {X : Nat} (h0 : X ≠ 0) (h : X < 2 ^ 64) : ∃ m, X = 2 ^ Lib.ctz 64 X * (2 * m + 1) ∧ Lib.ctz 64 X < 64 := by
  have := Lib.ctzFrom_spec 64 X (by omega) h
  unfold Lib.ctz
  rw [if_neg h0]
  exact this
theorem low_test {X : Nat} (h0 : X ≠ 0) (h : X < 2 ^ 64) (j : Nat) : (j < Lib.ctz 64 X → X.testBit j = false) ∧ X.testBit (Lib.ctz 64 X) = true ∧ (X &&& (X - 1)).testBit j = (X.testBit j && !decide (j = Lib.ctz 64 X)) := by
  obtain ⟨m, e, hk⟩ := low_split h0 h
  generalize Lib.ctz 64 X = k at e hk
  have hp := Nat.two_pow_pos k
  have e1 : X = 2 ^ k * (2 * m + 1) + 0 := by omega
  have e2 : X - 1 = 2 ^ k * (2 * m) + (2 ^ k - 1) := by rw [e, Nat.mul_add]; omega
  have t1 : ∀ j, X.testBit j = if j < k then false else (2 * m + 1).testBit (j - k) := fun j => by
    rw [e1, Nat.testBit_two_pow_mul_add _ hp, Nat.zero_testBit]
  have t2 : ∀ j, (X - 1).testBit j = if j < k then (2 ^ k - 1).testBit j else (2 * m).testBit (j - k) := fun j => by
    rw [e2, Nat.testBit_two_pow_mul_add _ (by omega)]
  refine ⟨fun hj => by rw [t1, if_pos hj], by rw [t1, if_neg (Nat.lt_irrefl _), Nat.sub_self]; simp [Nat.testBit_zero], ?_⟩
  rw [Nat.testBit_and, t1, t2]
  by_cases hj : j < k
  · simp [hj]
  · rw [if_neg hj, if_neg hj]
    by_cases hjk : j = k
    · subst hjk
      rw [Nat.sub_self]
      simp [Nat.testBit_zero]
    · obtain ⟨i, hi⟩ : ∃ i, j - k = i + 1 := ⟨j - k - 1, by omega⟩
      rw [hi, Nat.testBit_succ, Nat.testBit_succ, show (2 * m + 1) / 2 = m by omega, show 2 * m / 2 = m by omega]
      simp [hjk]
theorem bits_zero : bitsList 0 = [] := by
  unfold bitsList
  rw [List.filter_eq_nil_iff.2 (fun k _ => by simp)]
  rfl
theorem and_pred_lt {X : Nat} (h0 : X ≠ 0) : X &&& (X - 1) < X := by
  have := Nat.and_le_right (n := X) (m := X - 1)
  omega
theorem bits_low {X : Nat} (h0 : X ≠ 0) (h : X < 2 ^ 64) : bitsList X = ((Lib.ctz 64 X : Nat) : Int) :: bitsList (X &&& (X - 1)) := by
  obtain ⟨m, _, hk⟩ := low_split h0 h
  refine sorted_ext (bits_sorted X) (List.pairwise_cons.2 ⟨fun y hy => ?_, bits_sorted _⟩) fun y => ?_
  · obtain ⟨j, _, hj, rfl⟩ := mem_bits.1 hy
    have hl := low_test h0 h j
    rw [hl.2.2, Bool.and_eq_true] at hj
    have h1 : ¬ j < Lib.ctz 64 X := fun hlt => by rw [hl.1 hlt] at hj; exact absurd hj.1 (by decide)
    have h2 : j ≠ Lib.ctz 64 X := by simpa using hj.2
    omega
  · rw [List.mem_cons, mem_bits, mem_bits]
    constructor
    · rintro ⟨j, a, b, rfl⟩
      by_cases hj : j = Lib.ctz 64 X
      · left; rw [hj]
      · right
        exact ⟨j, a, by rw [(low_test h0 h j).2.2, b]; simp [hj], rfl⟩
    · rintro (e | ⟨j, a, b, rfl⟩)
      · exact ⟨Lib.ctz 64 X, hk, (low_test h0 h 0).2.1, e⟩
      · rw [(low_test h0 h j).2.2, Bool.and_eq_true] at b
        exact ⟨j, a, b.1, rfl⟩
theorem bits_len (X : Nat) : (bitsList X).length ≤ 64 := by
  unfold bitsList
  rw [List.length_map]
  have := List.length_filter_le (fun k => X.testBit k) (List.range 64)
  rwa [List.length_range] at this
end Fam
end Go.Proofs.YtpplihpfjniacaaDoor
