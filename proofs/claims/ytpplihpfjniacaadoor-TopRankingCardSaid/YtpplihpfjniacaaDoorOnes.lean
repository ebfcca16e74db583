/- Walks: the number of ones of a number. -/
import Derived.Test.YtpplihpfjniacaaDoorLr1
namespace Go.Proofs.YtpplihpfjniacaaDoor
open Go.RowKit
namespace Lr
def pcA (x : Nat) : Nat := Nat.add (Nat.land (Nat.div x 2) 6148914691236517205) (Nat.land x 6148914691236517205)
def pcB (s : Nat) : Nat := Nat.add (Nat.land (Nat.div s 4) 3689348814741910323) (Nat.land s 3689348814741910323)
def pcC (s : Nat) : Nat := Nat.land (Nat.add (Nat.div s 16) s) 1085102592571150095
def pcD (s : Nat) : Nat := Nat.add s (Nat.div s 256)
def pcE (s : Nat) : Nat := Nat.add s (Nat.div s 65536)
def pcF (s : Nat) : Nat := Nat.add s (Nat.div s 4294967296)
def pc (x : Nat) : Nat := Nat.land (pcF (pcE (pcD (pcC (pcB (pcA x)))))) 127
def ckx (x : Nat) : Bool := Nat.beq (pc (Nat.mul 2 x)) (pc x) && Nat.beq (pc (Nat.succ (Nat.mul 2 x))) (Nat.succ (pc x))
def ck : Nat → Nat → Bool
  | 0, _ => true
  | k + 1, x => ckx x && ck k (Nat.succ x)
def blk (a : Nat) : Bool := ck 256 (Nat.mul 256 a)
theorem pc_rec' : (List.range 128).all blk = true := by decide +kernel
theorem ck_at : ∀ k x y, ck k x = true → x ≤ y → y < x + k → ckx y = true
  | 0, x, y, _, h1, h2 => by omega
  | k + 1, x, y, h, h1, h2 => by
    rw [ck, Bool.and_eq_true] at h
    rcases (show x = y ∨ x + 1 ≤ y by omega) with rfl | h'
    · exact h.1
    · exact ck_at k (x + 1) y h.2 h' (by omega)
theorem pc_rec {x : Nat} (h : x < 32768) : pc (2 * x) = pc x ∧ pc (2 * x + 1) = pc x + 1 := by
  have h1 := List.all_eq_true.1 pc_rec' (x / 256) (List.mem_range.2 (by omega))
  have h2 := ck_at 256 (256 * (x / 256)) x h1 (by omega) (by omega)
  unfold ckx at h2
  rw [Bool.and_eq_true] at h2
  exact ⟨Nat.eq_of_beq_eq_true h2.1, Nat.eq_of_beq_eq_true h2.2⟩
theorem cnt_shift (s : Nat) : ∀ n, cnt s (n + 1) = cnt (s / 2) n + if s.testBit 0 = true then 1 else 0
  | 0 => by simp [cnt]
  | n + 1 => by
    rw [cnt, cnt_shift s n, cnt, Nat.testBit_succ]
    omega
theorem pc_cnt : ∀ n x, n ≤ 16 → x < 2 ^ n → pc x = cnt x n
  | 0, x, _, h => by
    obtain rfl : x = 0 := by simpa using h
    decide +kernel
  | n + 1, x, hn, h => by
    have hp : (2 : Nat) ^ n ≤ 2 ^ 15 := Nat.pow_le_pow_right (by decide) (by omega)
    rw [Nat.pow_succ] at h
    have ih := pc_cnt n (x / 2) (by omega) (by omega)
    obtain ⟨h1, h2⟩ := pc_rec (x := x / 2) (by omega)
    rw [cnt_shift, ← ih, Nat.testBit_zero]
    rcases (show x = 2 * (x / 2) ∨ x = 2 * (x / 2) + 1 by omega) with e | e
    · rw [if_neg (by simp; omega), ← h1, ← e]
      rfl
    · rw [if_pos (by simp; omega), ← h2, ← e]
theorem land_le_left (a b : Nat) : Nat.land a b ≤ a := Nat.and_le_left
end Lr

theorem ones_parts (x : Nat) (hx : x < 65536) : ∃ a b s1 c d s2 t s3 s4 s5 s6 : Nat,
    bits BinOp.and IntKind.u64 ((x : Int) / 2) 6148914691236517205 = (a : Int) ∧ bits BinOp.and IntKind.u64 (x : Int) 6148914691236517205 = (b : Int) ∧ IntKind.u64.wrap ((a : Int) + (b : Int)) = (s1 : Int) ∧
    bits BinOp.and IntKind.u64 ((s1 : Int) / 4) 3689348814741910323 = (c : Int) ∧ bits BinOp.and IntKind.u64 (s1 : Int) 3689348814741910323 = (d : Int) ∧ IntKind.u64.wrap ((c : Int) + (d : Int)) = (s2 : Int) ∧
    IntKind.u64.wrap ((s2 : Int) / 16 + (s2 : Int)) = (t : Int) ∧ bits BinOp.and IntKind.u64 (t : Int) 1085102592571150095 = (s3 : Int) ∧ IntKind.u64.wrap ((s3 : Int) + (s3 : Int) / 256) = (s4 : Int) ∧
    IntKind.u64.wrap ((s4 : Int) + (s4 : Int) / 65536) = (s5 : Int) ∧ IntKind.u64.wrap ((s5 : Int) + (s5 : Int) / 4294967296) = (s6 : Int) ∧ s6 < 2 ^ 63 ∧ bits BinOp.and IntKind.i64 (s6 : Int) 127 = (Lr.cnt x 16 : Int) := by
  have land (a b : Nat) (ha : a < 18446744073709551616) (hb : b < 18446744073709551616) : bits BinOp.and IntKind.u64 (a : Int) (b : Int) = ((Nat.land a b : Nat) : Int) := bits_and_u64_nat a b ha hb
  have wr (a : Nat) (ha : a < 18446744073709551616) : IntKind.u64.wrap (a : Int) = (a : Int) := by rw [IntKind.wrap_u64]; omega
  have dv (a k : Nat) : (a : Int) / (k : Int) = ((Nat.div a k : Nat) : Int) := (Int.natCast_ediv a k).symm
  obtain ⟨a, ea⟩ : ∃ a, a = Nat.land (Nat.div x 2) 6148914691236517205 := ⟨_, rfl⟩
  obtain ⟨b, eb⟩ : ∃ b, b = Nat.land x 6148914691236517205 := ⟨_, rfl⟩
  have ha : a ≤ x := by rw [ea]; exact Nat.le_trans (Lr.land_le_left _ _) (Nat.div_le_self x 2)
  have hb : b ≤ x := by rw [eb]; exact Lr.land_le_left _ _
  obtain ⟨s1, e1⟩ : ∃ s, s = a + b := ⟨_, rfl⟩
  obtain ⟨c, ec⟩ : ∃ c, c = Nat.land (Nat.div s1 4) 3689348814741910323 := ⟨_, rfl⟩
  obtain ⟨d, ed⟩ : ∃ d, d = Nat.land s1 3689348814741910323 := ⟨_, rfl⟩
  have hc : c ≤ s1 := by rw [ec]; exact Nat.le_trans (Lr.land_le_left _ _) (Nat.div_le_self s1 4)
  have hd : d ≤ s1 := by rw [ed]; exact Lr.land_le_left _ _
  obtain ⟨s2, e2⟩ : ∃ s, s = c + d := ⟨_, rfl⟩
  obtain ⟨t, et⟩ : ∃ t, t = Nat.div s2 16 + s2 := ⟨_, rfl⟩
  have ht : t ≤ 2 * s2 := by rw [et]; have := Nat.div_le_self s2 16; show s2 / 16 + s2 ≤ _; omega
  obtain ⟨s3, e3⟩ : ∃ s, s = Nat.land t 1085102592571150095 := ⟨_, rfl⟩
  have h3 : s3 ≤ t := by rw [e3]; exact Lr.land_le_left _ _
  obtain ⟨s4, e4⟩ : ∃ s, s = s3 + Nat.div s3 256 := ⟨_, rfl⟩
  have h4 : s4 ≤ 2 * s3 := by rw [e4]; have := Nat.div_le_self s3 256; show s3 + s3 / 256 ≤ _; omega
  obtain ⟨s5, e5⟩ : ∃ s, s = s4 + Nat.div s4 65536 := ⟨_, rfl⟩
  have h5 : s5 ≤ 2 * s4 := by rw [e5]; have := Nat.div_le_self s4 65536; show s4 + s4 / 65536 ≤ _; omega
  obtain ⟨s6, e6⟩ : ∃ s, s = s5 + Nat.div s5 4294967296 := ⟨_, rfl⟩
  have h6 : s6 ≤ 2 * s5 := by rw [e6]; have := Nat.div_le_self s5 4294967296; show s5 + s5 / 4294967296 ≤ _; omega
  have hpc : Nat.land s6 127 = Lr.cnt x 16 := by
    rw [← Lr.pc_cnt 16 x (Nat.le_refl _) hx]
    unfold Lr.pc Lr.pcF Lr.pcE Lr.pcD Lr.pcC Lr.pcB Lr.pcA
    rw [e6, e5, e4, e3, et, e2, ec, ed, e1, ea, eb]
    rfl
  refine ⟨a, b, s1, c, d, s2, t, s3, s4, s5, s6, ?_, ?_, ?_, ?_, ?_, ?_, ?_, ?_, ?_, ?_, ?_, by omega, ?_⟩
  · rw [ea, show (2 : Int) = ((2 : Nat) : Int) from rfl, dv, show (6148914691236517205 : Int) = ((6148914691236517205 : Nat) : Int) from rfl]
    exact land _ _ (Nat.lt_of_le_of_lt (Nat.div_le_self x 2) (by omega)) (by omega)
  · rw [eb, show (6148914691236517205 : Int) = ((6148914691236517205 : Nat) : Int) from rfl]
    exact land _ _ (by omega) (by omega)
  · rw [← Int.natCast_add, ← e1]; exact wr _ (by omega)
  · rw [ec, show (4 : Int) = ((4 : Nat) : Int) from rfl, dv, show (3689348814741910323 : Int) = ((3689348814741910323 : Nat) : Int) from rfl]
    exact land _ _ (Nat.lt_of_le_of_lt (Nat.div_le_self s1 4) (by omega)) (by omega)
  · rw [ed, show (3689348814741910323 : Int) = ((3689348814741910323 : Nat) : Int) from rfl]
    exact land _ _ (by omega) (by omega)
  · rw [← Int.natCast_add, ← e2]; exact wr _ (by omega)
  · rw [show (16 : Int) = ((16 : Nat) : Int) from rfl, dv, ← Int.natCast_add, ← et]; exact wr _ (by omega)
  · rw [e3, show (1085102592571150095 : Int) = ((1085102592571150095 : Nat) : Int) from rfl]
    exact land _ _ (by omega) (by omega)
  · rw [show (256 : Int) = ((256 : Nat) : Int) from rfl, dv, ← Int.natCast_add, ← e4]; exact wr _ (by omega)
  · rw [show (65536 : Int) = ((65536 : Nat) : Int) from rfl, dv, ← Int.natCast_add, ← e5]; exact wr _ (by omega)
  · rw [show (4294967296 : Int) = ((4294967296 : Nat) : Int) from rfl, dv, ← Int.natCast_add, ← e6]; exact wr _ (by omega)
  · rw [← hpc, show (127 : Int) = ((127 : Nat) : Int) from rfl]
    exact land_nat s6 127 (by omega) (by omega)

set_option maxRecDepth 100000 in
set_option maxHeartbeats 1000000 in
theorem ones64_any (x : Nat) (w : World) (hx : x < 65536) : Calls Tryd.prog 101 #[.int .u64 (x : Int)] w (Ret (.int .i64 (Lr.cnt x 16 : Int)) w) := by
  obtain ⟨a, b, s1, c, d, s2, t, s3, s4, s5, s6, h1, h2, h3, h4, h5, h6, h7, h8, h9, h10, h11, h12, h13⟩ := ones_parts x hx
  have hw : wrap64 (s6 : Int) = (s6 : Int) := by unfold wrap64; omega
  generalize Lr.cnt x 16 = R at *
  clear h12 hx
  go_enter Tryd.func101, Tryd.ntmps101
  go_wp2
  go_ret
  exact ⟨by rfl, Chg.refl _ _⟩
set_option maxRecDepth 100000 in
theorem ones_any (x : Nat) (w : World) (hx : x < 65536) : Calls Tryd.prog 79 #[.int .u64 (x : Int)] w (Ret (.int .i64 (Lr.cnt x 16 : Int)) w) := by
  have H := hide (ones64_any x w hx)
  generalize Lr.cnt x 16 = R at *
  clear hx
  go_enter Tryd.func79, Tryd.ntmps79
  go_wp2_with fail
  refine H.out.mono ?_
  rintro e w2 ⟨rfl, hw⟩
  go_wp2
  go_ret
  exact ⟨rfl, hw⟩
set_option maxRecDepth 100000 in
theorem count_any (x : Nat) (w : World) (hx : x < 65536) : Calls Tryd.prog 90 #[.int .i64 (x : Int)] w (Ret (.int .i64 (Lr.cnt x 16 : Int)) w) := by
  have H := hide (ones_any x w hx)
  have ew : IntKind.u64.wrap (x : Int) = (x : Int) := by rw [IntKind.wrap_u64]; omega
  generalize Lr.cnt x 16 = R at *
  clear hx
  go_enter Tryd.func90, Tryd.ntmps90
  go_wp2_with fail
  refine H.out.mono ?_
  rintro e w2 ⟨rfl, hw⟩
  go_wp2
  go_ret
  exact ⟨rfl, hw⟩
end Go.Proofs.YtpplihpfjniacaaDoor
