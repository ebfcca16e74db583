/- Walks: families: has. -/
import Derived.Test.YtpplihpfjniacaaDoorEv1
namespace Go.Proofs.YtpplihpfjniacaaDoor
open Go.RowKit

theorem fbit (F s : Nat) (hF : F < 18446744073709551616) : (bits BinOp.and IntKind.u64 ((F : Int) / 2 ^ s) 1 == 1) = F.testBit s := by
  have e1 : (F : Int) / 2 ^ s = ((F / 2 ^ s : Nat) : Int) := by
    rw [Int.natCast_ediv, Int.natCast_pow]; rfl
  have h1 : F / 2 ^ s < 18446744073709551616 := Nat.lt_of_le_of_lt (Nat.div_le_self _ _) hF
  have e2 := bits_and_u64_nat (F / 2 ^ s) 1 h1 (by decide)
  rw [e1, show (1 : Int) = ((1 : Nat) : Int) from rfl, e2, Nat.and_one_is_mod, Nat.testBit_eq_decide_div_mod_eq]
  generalize F / 2 ^ s % 2 = m
  rw [Bool.eq_iff_iff, beq_iff_eq, decide_eq_true_eq]
  omega
def famV (n F : Nat) : Value := .agg #[.int .i64 (n : Int), .int .u64 (F : Int)]
set_option maxRecDepth 100000 in
theorem fhas_any (n F s : Nat) (w : World) (hF : F < 18446744073709551616) (hs : s < 64) :
    Calls Tryd.prog 94 #[famV n F, .int .i64 (s : Int)] w (Ret (.bool (F.testBit s)) w) := by
  unfold famV
  have s0 : (0 : Int) ≤ (s : Int) := by omega
  have s1 : (s : Int) < 64 := by omega
  go_enter Tryd.func94, Tryd.ntmps94
  go_wp2
  rw [fbit F s hF]
  go_ret
  exact ⟨rfl, (Chg.refl _ _).alloc _⟩
end Go.Proofs.YtpplihpfjniacaaDoor
