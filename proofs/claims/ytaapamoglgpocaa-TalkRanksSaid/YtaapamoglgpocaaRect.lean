/- Walks: rectangles. -/
import Derived.Test.YtaapamoglgpocaaValid
import Derived.Laws.BitsLemmas
namespace Go.Proofs.Ytaapamoglgpocaa
open Go.RowKit

theorem wraps_i64 (n : Int) (h0 : 0 ≤ n) (h1 : n < 2 ^ 63) : IntKind.i64.wrap n = n := by rw [IntKind.wrap_i64]; omega
theorem and_nat (a b : Nat) (ha : a < 2 ^ 63) (hb : b < 2 ^ 63) : bits .and .i64 (a : Int) (b : Int) = ((a &&& b : Nat) : Int) := (bits_nat .i64 63 (by decide) wraps_i64 a b ha hb).1
theorem or_nat (a b : Nat) (ha : a < 2 ^ 63) (hb : b < 2 ^ 63) : bits .or .i64 (a : Int) (b : Int) = ((a ||| b : Nat) : Int) := (bits_nat .i64 63 (by decide) wraps_i64 a b ha hb).2
theorem and_one (a : Nat) (ha : a < 2 ^ 63) : bits .and .i64 (a : Int) 1 = ((a % 2 : Nat) : Int) := by
  have := and_nat a 1 ha (by decide)
  rw [Nat.and_one_is_mod] at this
  exact this
theorem shr_int (r i : Nat) : (r : Int) / 2 ^ i = ((r / 2 ^ i : Nat) : Int) := by simp
def bitv (a i : Nat) : Bool := decide (a / 2 ^ i % 2 = 1)
theorem bit_eq (a i : Nat) : (((a / 2 ^ i % 2 : Nat) : Int) == 1) = bitv a i := by
  unfold bitv
  generalize a / 2 ^ i % 2 = m
  rw [Bool.eq_iff_iff, beq_iff_eq, decide_eq_true_iff]
  omega

set_option maxRecDepth 100000 in
theorem has_any (r c i j : Nat) (w : World) (hr : r < 65536) (hc : c < 65536) (hi : i ≤ 62) (hj : j ≤ 62) :
    Calls Try.prog 88 #[.agg #[.int .i64 (r : Int), .int .i64 (c : Int)], .int .i64 (i : Int), .int .i64 (j : Int)] w (Ret (.bool (T.has r c i j)) w) := by
  have h1 := shr_int r i
  have h2 := shr_int c j
  have l1 : r / 2 ^ i < 2 ^ 63 := Nat.lt_of_le_of_lt (Nat.div_le_self _ _) (by omega)
  have l2 : c / 2 ^ j < 2 ^ 63 := Nat.lt_of_le_of_lt (Nat.div_le_self _ _) (by omega)
  have a1 := and_one _ l1
  have a2 := and_one _ l2
  have b1 := bit_eq r i
  have b2 := bit_eq c j
  have HE : Hid (T.has r c i j = (bitv r i && bitv c j)) := hide rfl
  generalize T.has r c i j = b at HE ⊢
  generalize bitv r i = x at b1 HE
  generalize bitv c j = y at b2 HE
  generalize r / 2 ^ i % 2 = m1 at a1 b1
  generalize c / 2 ^ j % 2 = m2 at a2 b2
  generalize r / 2 ^ i = q1 at h1 a1
  generalize c / 2 ^ j = q2 at h2 a2
  clear l1 l2
  cases x with
  | false =>
    go_enter Try.func88, Try.ntmps88
    go_wp2
    go_ret
    exact ⟨by rw [HE.out]; rfl, (Chg.refl _ _).alloc _⟩
  | true =>
    go_enter Try.func88, Try.ntmps88
    go_wp2
    go_ret
    exact ⟨by rw [HE.out]; cases y <;> rfl, (Chg.refl _ _).alloc _⟩
end Go.Proofs.Ytaapamoglgpocaa
