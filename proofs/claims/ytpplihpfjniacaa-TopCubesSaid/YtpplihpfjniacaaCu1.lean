/- TopCubes: all concepts of some points. -/
import Derived.Test.YtpplihpfjniacaaLr6
import Derived.Test.YtpplihpfjniacaaGs6
import Derived.Test.YtpplihpfjniacaaGm4
import Derived.Test.YtpplihpfjniacaaGl1
import Derived.Test.YtpplihpfjniacaaOpen
namespace Go.Proofs.Ytpplihpfjniacaa
open Go.RowKit

theorem upto_get {n i : Nat} (h : i < n) : (upto n).getD i 0 = (i : Int) := by
  unfold upto
  rw [List.getD_eq_getElem?_getD, List.getElem?_map, List.getElem?_range h]
  rfl
theorem cf_upto {n i : Nat} (h : i < n) : cf (upto n) i = i := by unfold cf; rw [upto_get h]; rfl
theorem okC_upto {p : Nat} (hp : 1 ≤ p ∧ p ≤ 4) : okC p (upto (2 ^ p)) := by
  have h1 := Nat.two_pow_pos p
  have h2 : (2 : Nat) ^ p ≤ 2 ^ 4 := Nat.pow_le_pow_right (by decide) hp.2
  refine ⟨hp.1, by omega, by rw [upto_len]; omega, by rw [upto_len]; omega, fun s hs => ?_, ?_⟩
  · unfold upto at hs
    obtain ⟨k, hk, rfl⟩ := List.mem_map.1 hs
    rw [List.mem_range] at hk
    have e : ((2 ^ p : Nat) : Int) = 2 ^ p := by simp
    omega
  · unfold upto
    rw [List.pairwise_map]
    refine List.Pairwise.imp ?_ List.pairwise_lt_range
    intro a b h
    omega
theorem cnt_ones (m : Nat) : ∀ n, n ≤ m → Lr.cnt (2 ^ m - 1) n = n
  | 0, _ => rfl
  | n + 1, h => by
    unfold Lr.cnt
    rw [cnt_ones m n (by omega), Nat.testBit_two_pow_sub_one, if_pos (by simp; omega)]
theorem ones_and {p U : Nat} (h : U &&& (2 ^ p - 1) = U) : U < 2 ^ p := by
  rw [Nat.and_two_pow_sub_one_eq_mod] at h
  rw [← h]
  exact Nat.mod_lt _ (Nat.two_pow_pos p)
theorem cube_upto (p : Nat) : Lr.Cube (cf (upto (2 ^ p))) (2 ^ p) (allC (upto (2 ^ p))) (2 ^ p - 1) 0 := by
  refine ⟨Nat.and_zero _, fun U hU => ?_⟩
  have hl := ones_and hU
  refine ⟨U, hl, ?_, ?_⟩
  · unfold allC
    rw [upto_len, Nat.testBit_two_pow_sub_one]
    simpa using hl
  · rw [cf_upto hl, Nat.or_zero]
theorem ask_upto {p : Nat} (hp : 1 ≤ p ∧ p ≤ 4) : Lr.askN (cf (upto (2 ^ p))) (upto (2 ^ p)).length p (allC (upto (2 ^ p))) = p := by
  have hk := okC_upto hp
  obtain ⟨a1, a2⟩ := allC_ok hk
  have h2 : (2 : Nat) ^ p ≤ 2 ^ 4 := Nat.pow_le_pow_right (by decide) hp.2
  have hm : (upto (2 ^ p)).length ≤ 16 := hk.2.2.2.1
  have h3 := Lr.askN_le (c := cf (upto (2 ^ p))) (p := p) hm a1
  have h4 := Lr.cnt_ask (c := cf (upto (2 ^ p))) (p := p) hm (by rw [upto_len]; exact Nat.le_refl _) _ _ (Nat.lt_succ_self _) a1
  have h5 : Lr.cnt (allC (upto (2 ^ p))) (upto (2 ^ p)).length = 2 ^ p := by
    unfold allC
    rw [cnt_ones _ _ (Nat.le_refl _), upto_len]
  rw [h5] at h4
  exact Nat.le_antisymm h3 ((Nat.pow_le_pow_iff_right (by decide)).1 h4)
theorem dim_upto {p : Nat} (hp : 1 ≤ p ∧ p ≤ 4) : Lr.dimN (cf (upto (2 ^ p))) (upto (2 ^ p)).length p (allC (upto (2 ^ p))) = p := by
  have hk := okC_upto hp
  obtain ⟨a1, a2⟩ := allC_ok hk
  have hm : (upto (2 ^ p)).length ≤ 16 := hk.2.2.2.1
  have h3 := Lr.cnt_dim (c := cf (upto (2 ^ p))) (p := p) hm _ _ (Nat.lt_succ_self _) a1 a2
  have h4 := Lr.cnt_le (allC (upto (2 ^ p))) (upto (2 ^ p)).length
  rw [upto_len] at h4
  rw [upto_len] at h3
  have h5 := (Nat.pow_le_pow_iff_right (show 1 < 2 by decide)).1 (Nat.le_trans h3 h4)
  have hpos := Nat.two_pow_pos p
  have hm2 : (2 : Nat) ^ p ≤ 16 := by rw [upto_len] at hm; exact hm
  rw [upto_len] at a1 ⊢
  have h6 := Lr.cube_dim (c := cf (upto (2 ^ p))) (p := p) hm2 p (2 ^ p - 1) 0 _ a1 (by omega) (cnt_ones p p (Nat.le_refl _)) (cube_upto p)
  exact Nat.le_antisymm h5 h6
theorem ints_upto {w : World} {base : Nat} {v : Value} {k : Nat} (h : w.ownsRow base 3 1 v k ((upto k).map (Value.int .i64))) : Ints w v (upto k) := by
  have h := row_low (base' := 0) h (Nat.zero_le _)
  have e2 := upto_len k
  unfold Ints
  rw [e2]
  exact h
theorem log_pow (p : Nat) : IsLog (2 ^ p) p := ⟨Nat.le_refl _, fun q' h => Nat.pow_lt_pow_right (by decide) h⟩
theorem mod_small (a : Int) (m : Nat) (h0 : 0 < m) (h1 : m ≤ 1000000) : ∃ G : Nat, wrap64 ((IntKind.u64.wrap a).tmod (m : Int)) = (G : Int) ∧ G < m := by
  have hu : 0 ≤ IntKind.u64.wrap a := by simp only [IntKind.wrap, IntKind.bits, IntKind.signed]; simp; omega
  have h2 : (IntKind.u64.wrap a).tmod (m : Int) = IntKind.u64.wrap a % (m : Int) := Int.tmod_eq_emod_of_nonneg hu
  have h3 : 0 ≤ IntKind.u64.wrap a % (m : Int) := Int.emod_nonneg _ (by omega)
  have h4 : IntKind.u64.wrap a % (m : Int) < (m : Int) := Int.emod_lt_of_pos _ (by omega)
  rw [h2, IntWalk.wrap64_in _ ⟨by omega, by omega⟩]
  exact ⟨(IntKind.u64.wrap a % (m : Int)).toNat, by omega, by omega⟩
set_option maxRecDepth 100000 in
set_option maxHeartbeats 2000000 in
theorem cubes_p (a : Int) (G p : Nat) (w : World) (hG : wrap64 ((IntKind.u64.wrap a).tmod 4) = (G : Int)) (hp : p = 1 + G) (hG4 : G < 4) : Calls Try.prog 3 #[.int .i64 a] w (Ret (.bool true) w) := by
  obtain ⟨i0, hi, hz0, hz1, hz2⟩ := info_parts infoInt
  have hp4 : 1 ≤ p ∧ p ≤ 4 := by omega
  have hk := okC_upto hp4
  have hp16 : (2 : Nat) ^ p ≤ 2 ^ 4 := Nat.pow_le_pow_right (by decide) hp4.2
  have HCl := hide fun u ws (h : See ws u (upto (2 ^ p))) => Clone_any u (upto (2 ^ p)) ws h (by rw [upto_len]; omega)
  have HAs := hide fun u ws (h : See ws u (upto (2 ^ p))) => LAsk_good p u (upto (2 ^ p)) ws h hk
  rw [ask_upto hp4] at HAs
  have HWo := hide fun u ws (h : See ws u (upto (2 ^ p))) => Worst_good p u (upto (2 ^ p)) ws h hk
  rw [dim_upto hp4] at HWo
  have HLe := hide fun ws => Least_any (2 ^ p) p ws (Nat.two_pow_pos p) (by omega) (log_pow p)
  have HLf := hide fun ws => LeftG_any p ws hp4
  have HLn := hide (upto_len (2 ^ p))
  have HA := hide fun ws => asks_any ws
  have ew : wrap64 (2 ^ p) = ((2 ^ p : Nat) : Int) := by
    have e : ((2 : Int) ^ p) = ((2 ^ p : Nat) : Int) := by rw [Int.natCast_pow]; rfl
    rw [e]
    generalize 2 ^ p = q at hp16
    unfold wrap64; omega
  have hpos := Nat.two_pow_pos p
  have p0 : (0 : Int) ≤ (p : Int) := by omega
  have p1 : (p : Int) < 64 := by omega
  have eG : 1 + (G : Int) = (p : Int) := by omega
  generalize 2 ^ p = P at *
  clear hk hp4 hp
  go_enter Try.func3, Try.ntmps3
  go_wp2
  rw [ew, hG]
  go_loopw [3, 20] (fun v iv wr => ∃ k : Nat, k ≤ P ∧ iv = .int .i64 (k : Int) ∧ Hid (wr.ownsRow w.heap.size 3 1 v k ((upto k).map (Value.int .i64)) ∧ Chg [] w wr)) (fun _ iv _ => P - (intOf iv).toNat)
  case atStart => exact ⟨0, Nat.zero_le _, rfl, hide ⟨World.ownsRow_nil _ _ _ _, Chg.refl _ _⟩⟩
  case round =>
    obtain ⟨k, hk, rfl, hI⟩ := hrel
    by_cases hlt : k < P
    · have d1 : decide ((k : Int) < (P : Int)) = true := by simp; omega
      have hown := hI.out.1
      have hch1 := hI.out.2
      have hsz := hch1.size
      go_wp2_with (at_builtin; refine wpList_append_own _ rfl _ _ 23 rfl w.heap.size 3 i0 (.int .i64 0) 1 8 Try.underlying23 hi hz0 hz1 hz2 rfl (by decide) _ _ _ rfl (hown.alloc _) ⟨wr.heap.size, 0, none⟩ 1 1 [.int .i64 (k : Int)] rfl rfl (by intro j u hj; match j, hj with | 0, hj => simp at hj; subst hj; simp [Addr.add]) (by intro u hu; simp at hu; subst hu; rfl) (by unfold maxLen; omega) (by omega) (by simp; omega) ?_; intro v1 w3 hown1 hgrow1 _)
      go_roundw
      case rel => exact ⟨k + 1, by omega, by go_num, hide ⟨by rw [← upto_succ, List.map_append]; exact hown1, (hch1.alloc _).grew (hown.alloc _) (Nat.le_refl _) hgrow1⟩⟩
      case measure => simp [intOf]; omega
    · have d1 : decide ((k : Int) < (P : Int)) = false := by simp; omega
      have e : k = P := by omega
      subst e
      have hI1 := ints_upto hI.out.1
      have HS := hide hI1.toSee
      have C1 := hide hI.out.2
      clear hI hI1
      go_wp2_with fail
      refine (HCl.out _ _ HS.out).mono ?_
      rintro e w2 ⟨v2, rfl, hI, hw⟩
      have HS2 := hide hI.toSee
      have HSv := hide (HS.out.keep hw)
      have C2 := hide (C1.out.trans hw)
      clear hI hw
      go_wp2_with fail
      refine (HAs.out _ _ HS2.out).mono ?_
      rintro e w3 ⟨rfl, hw⟩
      have HS3 := hide (HSv.out.keep hw)
      have C3 := hide (C2.out.trans hw)
      clear hw
      go_wp2_with fail
      refine (HLe.out _).mono ?_
      rintro e w4 ⟨rfl, hw⟩
      have HS4 := hide (HS3.out.keep hw)
      have C4 := hide (C3.out.trans hw)
      clear hw
      go_wp2_with fail
      refine (HWo.out _ _ HS4.out).mono ?_
      rintro e w5 ⟨rfl, hw⟩
      have C5 := hide (C4.out.trans hw)
      clear hw
      go_wp2_with fail
      refine (HLf.out _).mono ?_
      rintro e w6 ⟨v6, rfl, hI, hw⟩
      obtain ⟨ao6, c6, rfl⟩ := hI.toSee.shape
      rw [HLn.out]
      have C6 := hide (C5.out.trans hw)
      clear hw hI
      go_wp2_with fail
      refine (HA.out _).mono ?_
      rintro e w7 ⟨rfl, hw⟩
      have C7 := hide (C6.out.trans hw)
      clear hw
      go_wp2
      go_ret
      exact ⟨by rfl, C7.out⟩
theorem topCubes_walk (v : Value) (w : World) (hv : IsInt v) : Calls Try.prog 3 #[v] w (Ret (.bool true) w) := by
  obtain ⟨a1, rfl, _⟩ := hv
  obtain ⟨G, hG, hG4⟩ := mod_small a1 4 (by decide) (by decide)
  exact cubes_p a1 G (1 + G) w hG rfl hG4
end Go.Proofs.Ytpplihpfjniacaa
