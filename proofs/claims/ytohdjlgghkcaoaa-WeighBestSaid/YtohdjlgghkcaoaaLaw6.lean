/- Walk: the statement WeighBounds. -/
import Derived.Test.YtohdjlgghkcaoaaW14
import Derived.Test.YtohdjlgghkcaoaaLaw3
namespace Go.Proofs.Ytohdjlgghkcaoaa
open Go.RowKit

/-- What is known, read off valid integers. -/
theorem vld_K {b h l g : Int} {n : Bool} (hv : W.vld b h l g n = true) : ∃ k : W.K, okK k ∧ b = (k.b : Int) ∧ h = (k.h : Int) ∧ l = (k.l : Int) ∧ g = (k.g : Int) ∧ n = k.n := by
  obtain ⟨a1, a2, a3, a4, a5, a6, a7, a8, a9, a10⟩ := W.vld_iff.1 hv
  refine ⟨⟨b.toNat, h.toNat, l.toNat, g.toNat, n⟩, ⟨by simp only []; omega, by simp only []; omega, ?_⟩, by simp only []; omega, by simp only []; omega, by simp only []; omega, by simp only []; omega, rfl⟩
  have e := poss_cast ⟨b.toNat, h.toNat, l.toNat, g.toNat, n⟩
  simp only [] at e
  rw [show ((b.toNat : Nat) : Int) = b by omega, show ((h.toNat : Nat) : Int) = h by omega, show ((l.toNat : Nat) : Int) = l by omega] at e
  omega

/-- What Need and Bound say of any numbers. -/
theorem need_bound_any (b h l g : Int) (n : Bool) :
    (W.vld b h l g n = false ∧ (∀ w, Calls Try.prog 16 #[.agg #[.int .i64 b, .int .i64 h, .int .i64 l, .int .i64 g, .bool n]] w (Ret (.tuple #[.int .i64 0, .int .i64 2]) w)) ∧ (∀ w, Calls Try.prog 25 #[.agg #[.int .i64 b, .int .i64 h, .int .i64 l, .int .i64 g, .bool n]] w (Ret (.tuple #[.int .i64 0, .int .i64 2]) w))) ∨
    (W.vld b h l g n = true ∧ ∃ m : Nat, m ≤ 3 ∧ (∀ w, Calls Try.prog 25 #[.agg #[.int .i64 b, .int .i64 h, .int .i64 l, .int .i64 g, .bool n]] w (Ret (.tuple #[.int .i64 (m : Int), .int .i64 0]) w)) ∧
      ((∀ w, Calls Try.prog 16 #[.agg #[.int .i64 b, .int .i64 h, .int .i64 l, .int .i64 g, .bool n]] w (Ret (.tuple #[.int .i64 0, .int .i64 4]) w)) ∨
       ∃ x : Nat, m ≤ x ∧ x ≤ 5 ∧ ∀ w, Calls Try.prog 16 #[.agg #[.int .i64 b, .int .i64 h, .int .i64 l, .int .i64 g, .bool n]] w (Ret (.tuple #[.int .i64 (x : Int), .int .i64 0]) w))) := by
  cases hv : W.vld b h l g n with
  | false => exact .inl ⟨rfl, fun w => Need_no b h l g n hv w, fun w => Bound_no b h l g n hv w⟩
  | true =>
    obtain ⟨k, hk, rfl, rfl, rfl, rfl, rfl⟩ := vld_K hv
    refine .inr ⟨rfl, W.bound k, ?_, fun w => Bound_yes k hk w, ?_⟩
    · have := (W.bound_lt4 (k := k) hk.1).1; omega
    · have hN := fun w => Need_yes k hk w
      cases hn : W.need 6 k with
      | none => rw [hn] at hN; exact .inl hN
      | some x =>
        rw [hn] at hN
        refine .inr ⟨x, W.need_bound (k := k) hk.1 hn, ?_, hN⟩
        have := (W.need_some.1 hn).1; omega

theorem need_hl (h l : Nat) (h1 : 1 ≤ h + l) (h13 : h + l ≤ 13) : ∃ m : Nat, m ≤ 3 ∧
    (∀ w, Calls Try.prog 16 #[.agg #[.int .i64 0, .int .i64 (h : Int), .int .i64 (l : Int), .int .i64 1, .bool false]] w (Ret (.tuple #[.int .i64 (m : Int), .int .i64 0]) w)) ∧
    (∀ w, Calls Try.prog 25 #[.agg #[.int .i64 0, .int .i64 (h : Int), .int .i64 (l : Int), .int .i64 1, .bool false]] w (Ret (.tuple #[.int .i64 (m : Int), .int .i64 0]) w)) := by
  have hk : okK ⟨0, h, l, 1, false⟩ := ⟨by simp only []; omega, by simp only []; omega, by unfold W.K.poss; simp only []; omega⟩
  refine ⟨W.bound ⟨0, h, l, 1, false⟩, ?_, fun w => ?_, fun w => Bound_yes ⟨0, h, l, 1, false⟩ hk w⟩
  · have := (W.bound_lt4 (k := ⟨0, h, l, 1, false⟩) hk.1).1; omega
  · have hN := Need_yes ⟨0, h, l, 1, false⟩ hk w
    rw [W.need_hl h13 h1 (Nat.le_refl _)] at hN
    exact hN
theorem none_hl (w : World) : Calls Try.prog 16 #[.agg #[.int .i64 0, .int .i64 0, .int .i64 0, .int .i64 1, .bool false]] w (Ret (.tuple #[.int .i64 0, .int .i64 2]) w) := Need_no 0 0 0 1 false (by decide) w
theorem none_hlb (w : World) : Calls Try.prog 25 #[.agg #[.int .i64 0, .int .i64 0, .int .i64 0, .int .i64 1, .bool false]] w (Ret (.tuple #[.int .i64 0, .int .i64 2]) w) := Bound_no 0 0 0 1 false (by decide) w

set_option maxRecDepth 100000 in
set_option maxHeartbeats 2000000 in
theorem walk_bounds (b h l g : Int) (n : Bool) (a1 a2 : Int) (w : World) : Calls Try.prog 6 #[.agg #[.int .i64 b, .int .i64 h, .int .i64 l, .int .i64 g, .bool n], .int .i64 a1, .int .i64 a2] w (Ret (.bool true) w) := by
  obtain ⟨G, hG, hG13⟩ := mod_small a1 14 (by decide) (by decide)
  rw [show ((14 : Nat) : Int) = 14 from rfl] at hG
  obtain ⟨L, hL, hL13⟩ := mod_small a2 (14 - G) (by omega) (by omega)
  rw [show ((14 - G : Nat) : Int) = 14 - (G : Int) from by omega] at hL
  have dz : ((14 : Int) - (G : Int) == 0) = false := by simp; omega
  have hA := need_bound_any b h l g n
  have hB : (G = 0 ∧ L = 0) ∨ 1 ≤ G + L := by omega
  rcases hA with ⟨_, h1, h2⟩ | ⟨_, m, hm, h2, h1 | ⟨x, hx, hx5, h1⟩⟩
  · have H1 := hide h1
    have H2 := hide h2
    clear h1 h2
    rcases hB with ⟨rfl, rfl⟩ | hB
    · rw [show ((0 : Nat) : Int) = 0 from rfl] at hG hL
      rw [Int.sub_zero] at hL
      clear dz
      go_enter Try.func6, Try.ntmps6
      go_wp2_with fail
      refine (Of_any _ _ _ _ _ _).mono ?_
      rintro e w1 ⟨rfl, hw1⟩; (first | (replace hw0 := Chg.trans hw0 hw1; clear hw1 hc0 hf0 hz0) | (have hw0 := hw1; clear hw1)); obtain ⟨hc0, hf0⟩ := hw0.reads; have hzz := hw0.size; simp at hzz; have hz0 : w.heap.size < w1.heap.size := (by omega); clear hzz
      go_wp2_with fail
      refine (H1.out _).mono ?_
      rintro e w1 ⟨rfl, hw1⟩; (first | (replace hw0 := Chg.trans hw0 hw1; clear hw1 hc0 hf0 hz0) | (have hw0 := hw1; clear hw1)); obtain ⟨hc0, hf0⟩ := hw0.reads; have hzz := hw0.size; simp at hzz; have hz0 : w.heap.size < w1.heap.size := (by omega); clear hzz
      go_wp2_with fail
      refine (Of_any _ _ _ _ _ _).mono ?_
      rintro e w1 ⟨rfl, hw1⟩; (first | (replace hw0 := Chg.trans hw0 hw1; clear hw1 hc0 hf0 hz0) | (have hw0 := hw1; clear hw1)); obtain ⟨hc0, hf0⟩ := hw0.reads; have hzz := hw0.size; simp at hzz; have hz0 : w.heap.size < w1.heap.size := (by omega); clear hzz
      go_wp2_with fail
      refine (H2.out _).mono ?_
      rintro e w1 ⟨rfl, hw1⟩; (first | (replace hw0 := Chg.trans hw0 hw1; clear hw1 hc0 hf0 hz0) | (have hw0 := hw1; clear hw1)); obtain ⟨hc0, hf0⟩ := hw0.reads; have hzz := hw0.size; simp at hzz; have hz0 : w.heap.size < w1.heap.size := (by omega); clear hzz
      go_wp2_with fail
      refine (none_hl _).mono ?_
      rintro e w2 ⟨rfl, hw2⟩
      have hz2 := hw2.size
      obtain ⟨hc2, hf2⟩ := hw2.reads
      go_wp2_with fail
      refine (none_hlb _).mono ?_
      rintro e w3 ⟨rfl, hw3⟩
      go_wp2_with fail
      refine (awake_any _).mono ?_
      rintro e w4 ⟨rfl, hw4⟩
      go_wp2
      go_ret
      exact ⟨rfl, by clear hc0 hf0 hc2 hf2; (repeat' (first | with_reducible exact Chg.refl _ _ | with_reducible assumption | with_reducible apply Chg.drewN | with_reducible apply Chg.drew | with_reducible apply Chg.alloc | (with_reducible refine Chg.setCell ?_ (Or.inr ?_) _) | (with_reducible refine Chg.trans ?_ (by assumption)) | (simp; done) | (simp; omega)))⟩
    · obtain ⟨y, hy, h3, h4⟩ := need_hl G L hB (by omega)
      have H3 := hide h3
      have H4 := hide h4
      have dg : ((G : Int) + (L : Int) == 0) = false := by simp; omega
      clear h3 h4
      go_enter Try.func6, Try.ntmps6
      go_wp2_with fail
      refine (Of_any _ _ _ _ _ _).mono ?_
      rintro e w1 ⟨rfl, hw1⟩; (first | (replace hw0 := Chg.trans hw0 hw1; clear hw1 hc0 hf0 hz0) | (have hw0 := hw1; clear hw1)); obtain ⟨hc0, hf0⟩ := hw0.reads; have hzz := hw0.size; simp at hzz; have hz0 : w.heap.size < w1.heap.size := (by omega); clear hzz
      go_wp2_with fail
      refine (H1.out _).mono ?_
      rintro e w1 ⟨rfl, hw1⟩; (first | (replace hw0 := Chg.trans hw0 hw1; clear hw1 hc0 hf0 hz0) | (have hw0 := hw1; clear hw1)); obtain ⟨hc0, hf0⟩ := hw0.reads; have hzz := hw0.size; simp at hzz; have hz0 : w.heap.size < w1.heap.size := (by omega); clear hzz
      go_wp2_with fail
      refine (Of_any _ _ _ _ _ _).mono ?_
      rintro e w1 ⟨rfl, hw1⟩; (first | (replace hw0 := Chg.trans hw0 hw1; clear hw1 hc0 hf0 hz0) | (have hw0 := hw1; clear hw1)); obtain ⟨hc0, hf0⟩ := hw0.reads; have hzz := hw0.size; simp at hzz; have hz0 : w.heap.size < w1.heap.size := (by omega); clear hzz
      go_wp2_with fail
      refine (H2.out _).mono ?_
      rintro e w1 ⟨rfl, hw1⟩; (first | (replace hw0 := Chg.trans hw0 hw1; clear hw1 hc0 hf0 hz0) | (have hw0 := hw1; clear hw1)); obtain ⟨hc0, hf0⟩ := hw0.reads; have hzz := hw0.size; simp at hzz; have hz0 : w.heap.size < w1.heap.size := (by omega); clear hzz
      go_wp2_with fail
      refine (H3.out _).mono ?_
      rintro e w2 ⟨rfl, hw2⟩
      have hz2 := hw2.size
      obtain ⟨hc2, hf2⟩ := hw2.reads
      go_wp2_with fail
      refine (H4.out _).mono ?_
      rintro e w3 ⟨rfl, hw3⟩
      go_wp2_with fail
      refine (awake_any _).mono ?_
      rintro e w4 ⟨rfl, hw4⟩
      go_wp2
      go_ret
      exact ⟨rfl, by clear hc0 hf0 hc2 hf2; (repeat' (first | with_reducible exact Chg.refl _ _ | with_reducible assumption | with_reducible apply Chg.drewN | with_reducible apply Chg.drew | with_reducible apply Chg.alloc | (with_reducible refine Chg.setCell ?_ (Or.inr ?_) _) | (with_reducible refine Chg.trans ?_ (by assumption)) | (simp; done) | (simp; omega)))⟩
  · have H1 := hide h1
    have H2 := hide h2
    clear h1 h2
    rcases hB with ⟨rfl, rfl⟩ | hB
    · rw [show ((0 : Nat) : Int) = 0 from rfl] at hG hL
      rw [Int.sub_zero] at hL
      clear dz
      go_enter Try.func6, Try.ntmps6
      go_wp2_with fail
      refine (Of_any _ _ _ _ _ _).mono ?_
      rintro e w1 ⟨rfl, hw1⟩; (first | (replace hw0 := Chg.trans hw0 hw1; clear hw1 hc0 hf0 hz0) | (have hw0 := hw1; clear hw1)); obtain ⟨hc0, hf0⟩ := hw0.reads; have hzz := hw0.size; simp at hzz; have hz0 : w.heap.size < w1.heap.size := (by omega); clear hzz
      go_wp2_with fail
      refine (H1.out _).mono ?_
      rintro e w1 ⟨rfl, hw1⟩; (first | (replace hw0 := Chg.trans hw0 hw1; clear hw1 hc0 hf0 hz0) | (have hw0 := hw1; clear hw1)); obtain ⟨hc0, hf0⟩ := hw0.reads; have hzz := hw0.size; simp at hzz; have hz0 : w.heap.size < w1.heap.size := (by omega); clear hzz
      go_wp2_with fail
      refine (Of_any _ _ _ _ _ _).mono ?_
      rintro e w1 ⟨rfl, hw1⟩; (first | (replace hw0 := Chg.trans hw0 hw1; clear hw1 hc0 hf0 hz0) | (have hw0 := hw1; clear hw1)); obtain ⟨hc0, hf0⟩ := hw0.reads; have hzz := hw0.size; simp at hzz; have hz0 : w.heap.size < w1.heap.size := (by omega); clear hzz
      go_wp2_with fail
      refine (H2.out _).mono ?_
      rintro e w1 ⟨rfl, hw1⟩; (first | (replace hw0 := Chg.trans hw0 hw1; clear hw1 hc0 hf0 hz0) | (have hw0 := hw1; clear hw1)); obtain ⟨hc0, hf0⟩ := hw0.reads; have hzz := hw0.size; simp at hzz; have hz0 : w.heap.size < w1.heap.size := (by omega); clear hzz
      go_wp2_with fail
      refine (none_hl _).mono ?_
      rintro e w2 ⟨rfl, hw2⟩
      have hz2 := hw2.size
      obtain ⟨hc2, hf2⟩ := hw2.reads
      go_wp2_with fail
      refine (none_hlb _).mono ?_
      rintro e w3 ⟨rfl, hw3⟩
      go_wp2_with fail
      refine (awake_any _).mono ?_
      rintro e w4 ⟨rfl, hw4⟩
      go_wp2
      go_ret
      exact ⟨rfl, by clear hc0 hf0 hc2 hf2; (repeat' (first | with_reducible exact Chg.refl _ _ | with_reducible assumption | with_reducible apply Chg.drewN | with_reducible apply Chg.drew | with_reducible apply Chg.alloc | (with_reducible refine Chg.setCell ?_ (Or.inr ?_) _) | (with_reducible refine Chg.trans ?_ (by assumption)) | (simp; done) | (simp; omega)))⟩
    · obtain ⟨y, hy, h3, h4⟩ := need_hl G L hB (by omega)
      have H3 := hide h3
      have H4 := hide h4
      have dg : ((G : Int) + (L : Int) == 0) = false := by simp; omega
      clear h3 h4
      go_enter Try.func6, Try.ntmps6
      go_wp2_with fail
      refine (Of_any _ _ _ _ _ _).mono ?_
      rintro e w1 ⟨rfl, hw1⟩; (first | (replace hw0 := Chg.trans hw0 hw1; clear hw1 hc0 hf0 hz0) | (have hw0 := hw1; clear hw1)); obtain ⟨hc0, hf0⟩ := hw0.reads; have hzz := hw0.size; simp at hzz; have hz0 : w.heap.size < w1.heap.size := (by omega); clear hzz
      go_wp2_with fail
      refine (H1.out _).mono ?_
      rintro e w1 ⟨rfl, hw1⟩; (first | (replace hw0 := Chg.trans hw0 hw1; clear hw1 hc0 hf0 hz0) | (have hw0 := hw1; clear hw1)); obtain ⟨hc0, hf0⟩ := hw0.reads; have hzz := hw0.size; simp at hzz; have hz0 : w.heap.size < w1.heap.size := (by omega); clear hzz
      go_wp2_with fail
      refine (Of_any _ _ _ _ _ _).mono ?_
      rintro e w1 ⟨rfl, hw1⟩; (first | (replace hw0 := Chg.trans hw0 hw1; clear hw1 hc0 hf0 hz0) | (have hw0 := hw1; clear hw1)); obtain ⟨hc0, hf0⟩ := hw0.reads; have hzz := hw0.size; simp at hzz; have hz0 : w.heap.size < w1.heap.size := (by omega); clear hzz
      go_wp2_with fail
      refine (H2.out _).mono ?_
      rintro e w1 ⟨rfl, hw1⟩; (first | (replace hw0 := Chg.trans hw0 hw1; clear hw1 hc0 hf0 hz0) | (have hw0 := hw1; clear hw1)); obtain ⟨hc0, hf0⟩ := hw0.reads; have hzz := hw0.size; simp at hzz; have hz0 : w.heap.size < w1.heap.size := (by omega); clear hzz
      go_wp2_with fail
      refine (H3.out _).mono ?_
      rintro e w2 ⟨rfl, hw2⟩
      have hz2 := hw2.size
      obtain ⟨hc2, hf2⟩ := hw2.reads
      go_wp2_with fail
      refine (H4.out _).mono ?_
      rintro e w3 ⟨rfl, hw3⟩
      go_wp2_with fail
      refine (awake_any _).mono ?_
      rintro e w4 ⟨rfl, hw4⟩
      go_wp2
      go_ret
      exact ⟨rfl, by clear hc0 hf0 hc2 hf2; (repeat' (first | with_reducible exact Chg.refl _ _ | with_reducible assumption | with_reducible apply Chg.drewN | with_reducible apply Chg.drew | with_reducible apply Chg.alloc | (with_reducible refine Chg.setCell ?_ (Or.inr ?_) _) | (with_reducible refine Chg.trans ?_ (by assumption)) | (simp; done) | (simp; omega)))⟩
  · have H1 := hide h1
    have H2 := hide h2
    clear h1 h2
    have dx : decide ((x : Int) < (m : Int)) = false := by simp; omega
    rcases hB with ⟨rfl, rfl⟩ | hB
    · rw [show ((0 : Nat) : Int) = 0 from rfl] at hG hL
      rw [Int.sub_zero] at hL
      clear dz
      go_enter Try.func6, Try.ntmps6
      go_wp2_with fail
      refine (Of_any _ _ _ _ _ _).mono ?_
      rintro e w1 ⟨rfl, hw1⟩; (first | (replace hw0 := Chg.trans hw0 hw1; clear hw1 hc0 hf0 hz0) | (have hw0 := hw1; clear hw1)); obtain ⟨hc0, hf0⟩ := hw0.reads; have hzz := hw0.size; simp at hzz; have hz0 : w.heap.size < w1.heap.size := (by omega); clear hzz
      go_wp2_with fail
      refine (H1.out _).mono ?_
      rintro e w1 ⟨rfl, hw1⟩; (first | (replace hw0 := Chg.trans hw0 hw1; clear hw1 hc0 hf0 hz0) | (have hw0 := hw1; clear hw1)); obtain ⟨hc0, hf0⟩ := hw0.reads; have hzz := hw0.size; simp at hzz; have hz0 : w.heap.size < w1.heap.size := (by omega); clear hzz
      go_wp2_with fail
      refine (Of_any _ _ _ _ _ _).mono ?_
      rintro e w1 ⟨rfl, hw1⟩; (first | (replace hw0 := Chg.trans hw0 hw1; clear hw1 hc0 hf0 hz0) | (have hw0 := hw1; clear hw1)); obtain ⟨hc0, hf0⟩ := hw0.reads; have hzz := hw0.size; simp at hzz; have hz0 : w.heap.size < w1.heap.size := (by omega); clear hzz
      go_wp2_with fail
      refine (H2.out _).mono ?_
      rintro e w1 ⟨rfl, hw1⟩; (first | (replace hw0 := Chg.trans hw0 hw1; clear hw1 hc0 hf0 hz0) | (have hw0 := hw1; clear hw1)); obtain ⟨hc0, hf0⟩ := hw0.reads; have hzz := hw0.size; simp at hzz; have hz0 : w.heap.size < w1.heap.size := (by omega); clear hzz
      go_wp2_with fail
      refine (none_hl _).mono ?_
      rintro e w2 ⟨rfl, hw2⟩
      have hz2 := hw2.size
      obtain ⟨hc2, hf2⟩ := hw2.reads
      go_wp2_with fail
      refine (none_hlb _).mono ?_
      rintro e w3 ⟨rfl, hw3⟩
      go_wp2_with fail
      refine (awake_any _).mono ?_
      rintro e w4 ⟨rfl, hw4⟩
      go_wp2
      go_ret
      exact ⟨rfl, by clear hc0 hf0 hc2 hf2; (repeat' (first | with_reducible exact Chg.refl _ _ | with_reducible assumption | with_reducible apply Chg.drewN | with_reducible apply Chg.drew | with_reducible apply Chg.alloc | (with_reducible refine Chg.setCell ?_ (Or.inr ?_) _) | (with_reducible refine Chg.trans ?_ (by assumption)) | (simp; done) | (simp; omega)))⟩
    · obtain ⟨y, hy, h3, h4⟩ := need_hl G L hB (by omega)
      have H3 := hide h3
      have H4 := hide h4
      have dg : ((G : Int) + (L : Int) == 0) = false := by simp; omega
      clear h3 h4
      go_enter Try.func6, Try.ntmps6
      go_wp2_with fail
      refine (Of_any _ _ _ _ _ _).mono ?_
      rintro e w1 ⟨rfl, hw1⟩; (first | (replace hw0 := Chg.trans hw0 hw1; clear hw1 hc0 hf0 hz0) | (have hw0 := hw1; clear hw1)); obtain ⟨hc0, hf0⟩ := hw0.reads; have hzz := hw0.size; simp at hzz; have hz0 : w.heap.size < w1.heap.size := (by omega); clear hzz
      go_wp2_with fail
      refine (H1.out _).mono ?_
      rintro e w1 ⟨rfl, hw1⟩; (first | (replace hw0 := Chg.trans hw0 hw1; clear hw1 hc0 hf0 hz0) | (have hw0 := hw1; clear hw1)); obtain ⟨hc0, hf0⟩ := hw0.reads; have hzz := hw0.size; simp at hzz; have hz0 : w.heap.size < w1.heap.size := (by omega); clear hzz
      go_wp2_with fail
      refine (Of_any _ _ _ _ _ _).mono ?_
      rintro e w1 ⟨rfl, hw1⟩; (first | (replace hw0 := Chg.trans hw0 hw1; clear hw1 hc0 hf0 hz0) | (have hw0 := hw1; clear hw1)); obtain ⟨hc0, hf0⟩ := hw0.reads; have hzz := hw0.size; simp at hzz; have hz0 : w.heap.size < w1.heap.size := (by omega); clear hzz
      go_wp2_with fail
      refine (H2.out _).mono ?_
      rintro e w1 ⟨rfl, hw1⟩; (first | (replace hw0 := Chg.trans hw0 hw1; clear hw1 hc0 hf0 hz0) | (have hw0 := hw1; clear hw1)); obtain ⟨hc0, hf0⟩ := hw0.reads; have hzz := hw0.size; simp at hzz; have hz0 : w.heap.size < w1.heap.size := (by omega); clear hzz
      go_wp2_with fail
      refine (H3.out _).mono ?_
      rintro e w2 ⟨rfl, hw2⟩
      have hz2 := hw2.size
      obtain ⟨hc2, hf2⟩ := hw2.reads
      go_wp2_with fail
      refine (H4.out _).mono ?_
      rintro e w3 ⟨rfl, hw3⟩
      go_wp2_with fail
      refine (awake_any _).mono ?_
      rintro e w4 ⟨rfl, hw4⟩
      go_wp2
      go_ret
      exact ⟨rfl, by clear hc0 hf0 hc2 hf2; (repeat' (first | with_reducible exact Chg.refl _ _ | with_reducible assumption | with_reducible apply Chg.drewN | with_reducible apply Chg.drew | with_reducible apply Chg.alloc | (with_reducible refine Chg.setCell ?_ (Or.inr ?_) _) | (with_reducible refine Chg.trans ?_ (by assumption)) | (simp; done) | (simp; omega)))⟩

theorem weighBounds_walk (v0 v1 v2 : Value) (w : World) (h0 : IsKnown v0) (h1 : IsInt v1) (h2 : IsInt v2) : Calls Try.prog 6 #[v0, v1, v2] w (Ret (.bool true) w) := by
  obtain ⟨b, h, l, g, n, rfl, _⟩ := h0
  obtain ⟨a1, rfl, _⟩ := h1
  obtain ⟨a2, rfl, _⟩ := h2
  exact walk_bounds b h l g n a1 a2 w
end Go.Proofs.Ytohdjlgghkcaoaa
