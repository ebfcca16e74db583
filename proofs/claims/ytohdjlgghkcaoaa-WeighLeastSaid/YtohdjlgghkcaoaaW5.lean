/- Walks: what is known after a weighing: the reference, and After. -/
import Derived.Test.YtohdjlgghkcaoaaW4
namespace Go.Proofs.Ytohdjlgghkcaoaa
open Go.RowKit

/-- The outcome of After: a state and OK, or none. -/
def afterE (k : W.KI) : Value := if 0 < k.poss then .tuple #[vKI k, .int .i64 0] else .tuple #[vKI ⟨0, 0, 0, 0, false⟩, .int .i64 4]
theorem afterE_yes {k : W.KI} (h : 0 < k.poss) : .tuple #[vKI k, .int .i64 0] = afterE k := by rw [afterE, if_pos h]
theorem afterE_no {k : W.KI} (h : ¬ 0 < k.poss) : .tuple #[vKI ⟨0, 0, 0, 0, false⟩, .int .i64 4] = afterE k := by rw [afterE, if_neg h]

theorem after_any (b h l g b0 b1 h0 h1 l0 l1 g0 g1 r : Int) (n : Bool) (w : World) (hv : W.vld b h l g n = true) (hl : W.isLd b h l g b0 b1 h0 h1 l0 l1 g0 g1 = true) (hr : r = -1 ∨ r = 0 ∨ r = 1) :
    Calls Try.prog 53 #[.agg #[.int .i64 b, .int .i64 h, .int .i64 l, .int .i64 g, .bool n], .agg #[.int .i64 b0, .int .i64 b1, .int .i64 h0, .int .i64 h1, .int .i64 l0, .int .i64 l1, .int .i64 g0, .int .i64 g1], .int .i64 r] w (Ret (afterV (W.aftI b h l g n b0 b1 h0 h1 l0 l1 r)) w) := by
  rcases hr with rfl | rfl | rfl
  · exact afterL _ _ _ _ _ _ _ _ _ _ _ _ _ _ hv hl
  · exact after0 _ _ _ _ _ _ _ _ _ _ _ _ _ _ hv hl
  · exact afterR _ _ _ _ _ _ _ _ _ _ _ _ _ _ hv hl

/-- What After is asked is valid. -/
def W.askd (b h l g : Int) (n : Bool) (b0 b1 h0 h1 l0 l1 g0 g1 r : Int) : Bool := W.vld b h l g n && W.isLd b h l g b0 b1 h0 h1 l0 l1 g0 g1 && decide (-1 ≤ r ∧ r ≤ 1)
def errK (c : Int) : Value := .tuple #[vKI ⟨0, 0, 0, 0, false⟩, .int .i64 c]

set_option maxRecDepth 100000 in
set_option maxHeartbeats 2000000 in
theorem After_yes (b h l g b0 b1 h0 h1 l0 l1 g0 g1 r : Int) (n : Bool) (w : World) (hv : W.vld b h l g n = true) (hl : W.isLd b h l g b0 b1 h0 h1 l0 l1 g0 g1 = true) (r0 : -1 ≤ r) (r1 : r ≤ 1) :
    Calls Try.prog 18 #[.agg #[.int .i64 b, .int .i64 h, .int .i64 l, .int .i64 g, .bool n], .agg #[.int .i64 b0, .int .i64 b1, .int .i64 h0, .int .i64 h1, .int .i64 l0, .int .i64 l1, .int .i64 g0, .int .i64 g1], .int .i64 r] w (Ret (afterE (W.aftI b h l g n b0 b1 h0 h1 l0 l1 r)) w) := by
  obtain ⟨a1, a2, a3, a4, a5, a6, a7, a8, a9, a10⟩ := W.vld_iff.1 hv
  have hr : r = -1 ∨ r = 0 ∨ r = 1 := by omega
  have HR := hide hr
  clear hr a10
  have hA := fun w => after_any b h l g b0 b1 h0 h1 l0 l1 g0 g1 r n w hv hl HR.out
  generalize hk : W.aftI b h l g n b0 b1 h0 h1 l0 l1 r = k at hA ⊢
  have HA := hide hA
  clear hk hA
  obtain ⟨kb, kh, kl, kg, kn⟩ := k
  by_cases hp : 0 < (W.KI.mk kb kh kl kg kn).poss
  · have hd : decide (0 < (W.KI.mk kb kh kl kg kn).poss) = true := by simpa using hp
    have E := hide (afterE_yes hp)
    clear hp
    go_enter Try.func18, Try.ntmps18
    go_wp2_with (first | (go_at_call 50; refine (valid_any _ _ _ _ _ _).mono ?_; rintro e w1 ⟨rfl, hw1⟩; (first | (replace hw0 := Chg.trans hw0 hw1; clear hw1 hc0 hf0 hz0 hz1 hz2) | (have hw0 := hw1; clear hw1)); obtain ⟨hc0, hf0⟩ := hw0.reads; have hzz := hw0.size; simp at hzz; have hz0 : w.heap.size < w1.heap.size := (by omega); have hz1 : w.heap.size + 1 < w1.heap.size := (by omega); have hz2 : w.heap.size + 2 < w1.heap.size := (by omega); clear hzz) | (go_at_call 52; refine (isload_any _ _ _ _ _ _ _ _ _ _ _ _ _ _ ⟨a1, a2⟩ ⟨a3, a4⟩ ⟨a5, a6⟩ ⟨a7, a8⟩).mono ?_; rintro e w1 ⟨rfl, hw1⟩; (first | (replace hw0 := Chg.trans hw0 hw1; clear hw1 hc0 hf0 hz0 hz1 hz2) | (have hw0 := hw1; clear hw1)); obtain ⟨hc0, hf0⟩ := hw0.reads; have hzz := hw0.size; simp at hzz; have hz0 : w.heap.size < w1.heap.size := (by omega); have hz1 : w.heap.size + 1 < w1.heap.size := (by omega); have hz2 : w.heap.size + 2 < w1.heap.size := (by omega); clear hzz) | (go_at_call 53; refine (HA.out _).mono ?_; rw [afterV, vKI]; rintro e w1 ⟨rfl, hw1⟩; (first | (replace hw0 := Chg.trans hw0 hw1; clear hw1 hc0 hf0 hz0 hz1 hz2) | (have hw0 := hw1; clear hw1)); obtain ⟨hc0, hf0⟩ := hw0.reads; have hzz := hw0.size; simp at hzz; have hz0 : w.heap.size < w1.heap.size := (by omega); have hz1 : w.heap.size + 1 < w1.heap.size := (by omega); have hz2 : w.heap.size + 2 < w1.heap.size := (by omega); clear hzz))
    rw [← E.out]
    refine bodyPost_ret (v := .tuple #[vKI ⟨kb, kh, kl, kg, kn⟩, .int .i64 0]) ?_ rfl (Ret.mk rfl ?_)
    · simp [results, Try.results18, go_sem, hc0, hz2, vKI]
    · clear hc0 hf0; (repeat' (first | with_reducible exact Chg.refl _ _ | with_reducible assumption | with_reducible apply Chg.drewN | with_reducible apply Chg.drew | with_reducible apply Chg.alloc | (with_reducible refine Chg.setCell ?_ (Or.inr ?_) _) | (with_reducible refine Chg.trans ?_ (by assumption)) | (simp; done) | (simp; omega)))
  · have hd : decide (0 < (W.KI.mk kb kh kl kg kn).poss) = false := by simpa using hp
    have E := hide (afterE_no hp)
    clear hp
    go_enter Try.func18, Try.ntmps18
    go_wp2_with (first | (go_at_call 50; refine (valid_any _ _ _ _ _ _).mono ?_; rintro e w1 ⟨rfl, hw1⟩; (first | (replace hw0 := Chg.trans hw0 hw1; clear hw1 hc0 hf0 hz0 hz1 hz2) | (have hw0 := hw1; clear hw1)); obtain ⟨hc0, hf0⟩ := hw0.reads; have hzz := hw0.size; simp at hzz; have hz0 : w.heap.size < w1.heap.size := (by omega); have hz1 : w.heap.size + 1 < w1.heap.size := (by omega); have hz2 : w.heap.size + 2 < w1.heap.size := (by omega); clear hzz) | (go_at_call 52; refine (isload_any _ _ _ _ _ _ _ _ _ _ _ _ _ _ ⟨a1, a2⟩ ⟨a3, a4⟩ ⟨a5, a6⟩ ⟨a7, a8⟩).mono ?_; rintro e w1 ⟨rfl, hw1⟩; (first | (replace hw0 := Chg.trans hw0 hw1; clear hw1 hc0 hf0 hz0 hz1 hz2) | (have hw0 := hw1; clear hw1)); obtain ⟨hc0, hf0⟩ := hw0.reads; have hzz := hw0.size; simp at hzz; have hz0 : w.heap.size < w1.heap.size := (by omega); have hz1 : w.heap.size + 1 < w1.heap.size := (by omega); have hz2 : w.heap.size + 2 < w1.heap.size := (by omega); clear hzz) | (go_at_call 53; refine (HA.out _).mono ?_; rw [afterV, vKI]; rintro e w1 ⟨rfl, hw1⟩; (first | (replace hw0 := Chg.trans hw0 hw1; clear hw1 hc0 hf0 hz0 hz1 hz2) | (have hw0 := hw1; clear hw1)); obtain ⟨hc0, hf0⟩ := hw0.reads; have hzz := hw0.size; simp at hzz; have hz0 : w.heap.size < w1.heap.size := (by omega); have hz1 : w.heap.size + 1 < w1.heap.size := (by omega); have hz2 : w.heap.size + 2 < w1.heap.size := (by omega); clear hzz))
    rw [← E.out]
    refine bodyPost_ret (v := .tuple #[vKI ⟨0, 0, 0, 0, false⟩, .int .i64 4]) ?_ rfl (Ret.mk rfl ?_)
    · simp [results, Try.results18, go_sem, hc0, hz2, vKI]
    · clear hc0 hf0; (repeat' (first | with_reducible exact Chg.refl _ _ | with_reducible assumption | with_reducible apply Chg.drewN | with_reducible apply Chg.drew | with_reducible apply Chg.alloc | (with_reducible refine Chg.setCell ?_ (Or.inr ?_) _) | (with_reducible refine Chg.trans ?_ (by assumption)) | (simp; done) | (simp; omega)))

set_option maxRecDepth 100000 in
set_option maxHeartbeats 2000000 in
theorem After_no (b h l g b0 b1 h0 h1 l0 l1 g0 g1 r : Int) (n : Bool) (w : World) (hno : W.vld b h l g n = false ∨ (W.vld b h l g n = true ∧ (W.isLd b h l g b0 b1 h0 h1 l0 l1 g0 g1 = false ∨ r < -1 ∨ 1 < r))) :
    Calls Try.prog 18 #[.agg #[.int .i64 b, .int .i64 h, .int .i64 l, .int .i64 g, .bool n], .agg #[.int .i64 b0, .int .i64 b1, .int .i64 h0, .int .i64 h1, .int .i64 l0, .int .i64 l1, .int .i64 g0, .int .i64 g1], .int .i64 r] w (Ret (errK 2) w) := by
  rcases hno with hv | ⟨hv, hno⟩
  · go_enter Try.func18, Try.ntmps18
    go_wp2_with (go_at_call 50; refine (valid_any _ _ _ _ _ _).mono ?_; rintro e w1 ⟨rfl, hw1⟩; (first | (replace hw0 := Chg.trans hw0 hw1; clear hw1 hc0 hf0 hz0 hz1 hz2) | (have hw0 := hw1; clear hw1)); obtain ⟨hc0, hf0⟩ := hw0.reads; have hzz := hw0.size; simp at hzz; have hz0 : w.heap.size < w1.heap.size := (by omega); have hz1 : w.heap.size + 1 < w1.heap.size := (by omega); have hz2 : w.heap.size + 2 < w1.heap.size := (by omega); clear hzz)
    refine bodyPost_ret (v := .tuple #[vKI ⟨0, 0, 0, 0, false⟩, .int .i64 2]) ?_ rfl (Ret.mk rfl ?_)
    · simp [results, Try.results18, go_sem, hc0, vKI]
    · clear hc0 hf0; (repeat' (first | with_reducible exact Chg.refl _ _ | with_reducible assumption | with_reducible apply Chg.drewN | with_reducible apply Chg.drew | with_reducible apply Chg.alloc | (with_reducible refine Chg.setCell ?_ (Or.inr ?_) _) | (with_reducible refine Chg.trans ?_ (by assumption)) | (simp; done) | (simp; omega)))
  · obtain ⟨a1, a2, a3, a4, a5, a6, a7, a8, a9, a10⟩ := W.vld_iff.1 hv
    clear a10
    by_cases hl : W.isLd b h l g b0 b1 h0 h1 l0 l1 g0 g1 = false
    · clear hno
      go_enter Try.func18, Try.ntmps18
      go_wp2_with (first | (go_at_call 50; refine (valid_any _ _ _ _ _ _).mono ?_; rintro e w1 ⟨rfl, hw1⟩; (first | (replace hw0 := Chg.trans hw0 hw1; clear hw1 hc0 hf0 hz0 hz1 hz2) | (have hw0 := hw1; clear hw1)); obtain ⟨hc0, hf0⟩ := hw0.reads; have hzz := hw0.size; simp at hzz; have hz0 : w.heap.size < w1.heap.size := (by omega); have hz1 : w.heap.size + 1 < w1.heap.size := (by omega); have hz2 : w.heap.size + 2 < w1.heap.size := (by omega); clear hzz) | (go_at_call 52; refine (isload_any _ _ _ _ _ _ _ _ _ _ _ _ _ _ ⟨a1, a2⟩ ⟨a3, a4⟩ ⟨a5, a6⟩ ⟨a7, a8⟩).mono ?_; rintro e w1 ⟨rfl, hw1⟩; (first | (replace hw0 := Chg.trans hw0 hw1; clear hw1 hc0 hf0 hz0 hz1 hz2) | (have hw0 := hw1; clear hw1)); obtain ⟨hc0, hf0⟩ := hw0.reads; have hzz := hw0.size; simp at hzz; have hz0 : w.heap.size < w1.heap.size := (by omega); have hz1 : w.heap.size + 1 < w1.heap.size := (by omega); have hz2 : w.heap.size + 2 < w1.heap.size := (by omega); clear hzz) | (go_at_call 53; refine (HA.out _).mono ?_; rw [afterV, vKI]; rintro e w1 ⟨rfl, hw1⟩; (first | (replace hw0 := Chg.trans hw0 hw1; clear hw1 hc0 hf0 hz0 hz1 hz2) | (have hw0 := hw1; clear hw1)); obtain ⟨hc0, hf0⟩ := hw0.reads; have hzz := hw0.size; simp at hzz; have hz0 : w.heap.size < w1.heap.size := (by omega); have hz1 : w.heap.size + 1 < w1.heap.size := (by omega); have hz2 : w.heap.size + 2 < w1.heap.size := (by omega); clear hzz))
      refine bodyPost_ret (v := .tuple #[vKI ⟨0, 0, 0, 0, false⟩, .int .i64 2]) ?_ rfl (Ret.mk rfl ?_)
      · simp [results, Try.results18, go_sem, hc0, vKI]
      · clear hc0 hf0; (repeat' (first | with_reducible exact Chg.refl _ _ | with_reducible assumption | with_reducible apply Chg.drewN | with_reducible apply Chg.drew | with_reducible apply Chg.alloc | (with_reducible refine Chg.setCell ?_ (Or.inr ?_) _) | (with_reducible refine Chg.trans ?_ (by assumption)) | (simp; done) | (simp; omega)))
    · have hr := hno.resolve_left hl
      rw [Bool.not_eq_false] at hl
      clear hno
      rcases hr with hr | hr
      · go_enter Try.func18, Try.ntmps18
        go_wp2_with (first | (go_at_call 50; refine (valid_any _ _ _ _ _ _).mono ?_; rintro e w1 ⟨rfl, hw1⟩; (first | (replace hw0 := Chg.trans hw0 hw1; clear hw1 hc0 hf0 hz0 hz1 hz2) | (have hw0 := hw1; clear hw1)); obtain ⟨hc0, hf0⟩ := hw0.reads; have hzz := hw0.size; simp at hzz; have hz0 : w.heap.size < w1.heap.size := (by omega); have hz1 : w.heap.size + 1 < w1.heap.size := (by omega); have hz2 : w.heap.size + 2 < w1.heap.size := (by omega); clear hzz) | (go_at_call 52; refine (isload_any _ _ _ _ _ _ _ _ _ _ _ _ _ _ ⟨a1, a2⟩ ⟨a3, a4⟩ ⟨a5, a6⟩ ⟨a7, a8⟩).mono ?_; rintro e w1 ⟨rfl, hw1⟩; (first | (replace hw0 := Chg.trans hw0 hw1; clear hw1 hc0 hf0 hz0 hz1 hz2) | (have hw0 := hw1; clear hw1)); obtain ⟨hc0, hf0⟩ := hw0.reads; have hzz := hw0.size; simp at hzz; have hz0 : w.heap.size < w1.heap.size := (by omega); have hz1 : w.heap.size + 1 < w1.heap.size := (by omega); have hz2 : w.heap.size + 2 < w1.heap.size := (by omega); clear hzz) | (go_at_call 53; refine (HA.out _).mono ?_; rw [afterV, vKI]; rintro e w1 ⟨rfl, hw1⟩; (first | (replace hw0 := Chg.trans hw0 hw1; clear hw1 hc0 hf0 hz0 hz1 hz2) | (have hw0 := hw1; clear hw1)); obtain ⟨hc0, hf0⟩ := hw0.reads; have hzz := hw0.size; simp at hzz; have hz0 : w.heap.size < w1.heap.size := (by omega); have hz1 : w.heap.size + 1 < w1.heap.size := (by omega); have hz2 : w.heap.size + 2 < w1.heap.size := (by omega); clear hzz))
        refine bodyPost_ret (v := .tuple #[vKI ⟨0, 0, 0, 0, false⟩, .int .i64 2]) ?_ rfl (Ret.mk rfl ?_)
        · simp [results, Try.results18, go_sem, hc0, vKI]
        · clear hc0 hf0; (repeat' (first | with_reducible exact Chg.refl _ _ | with_reducible assumption | with_reducible apply Chg.drewN | with_reducible apply Chg.drew | with_reducible apply Chg.alloc | (with_reducible refine Chg.setCell ?_ (Or.inr ?_) _) | (with_reducible refine Chg.trans ?_ (by assumption)) | (simp; done) | (simp; omega)))
      · go_enter Try.func18, Try.ntmps18
        go_wp2_with (first | (go_at_call 50; refine (valid_any _ _ _ _ _ _).mono ?_; rintro e w1 ⟨rfl, hw1⟩; (first | (replace hw0 := Chg.trans hw0 hw1; clear hw1 hc0 hf0 hz0 hz1 hz2) | (have hw0 := hw1; clear hw1)); obtain ⟨hc0, hf0⟩ := hw0.reads; have hzz := hw0.size; simp at hzz; have hz0 : w.heap.size < w1.heap.size := (by omega); have hz1 : w.heap.size + 1 < w1.heap.size := (by omega); have hz2 : w.heap.size + 2 < w1.heap.size := (by omega); clear hzz) | (go_at_call 52; refine (isload_any _ _ _ _ _ _ _ _ _ _ _ _ _ _ ⟨a1, a2⟩ ⟨a3, a4⟩ ⟨a5, a6⟩ ⟨a7, a8⟩).mono ?_; rintro e w1 ⟨rfl, hw1⟩; (first | (replace hw0 := Chg.trans hw0 hw1; clear hw1 hc0 hf0 hz0 hz1 hz2) | (have hw0 := hw1; clear hw1)); obtain ⟨hc0, hf0⟩ := hw0.reads; have hzz := hw0.size; simp at hzz; have hz0 : w.heap.size < w1.heap.size := (by omega); have hz1 : w.heap.size + 1 < w1.heap.size := (by omega); have hz2 : w.heap.size + 2 < w1.heap.size := (by omega); clear hzz) | (go_at_call 53; refine (HA.out _).mono ?_; rw [afterV, vKI]; rintro e w1 ⟨rfl, hw1⟩; (first | (replace hw0 := Chg.trans hw0 hw1; clear hw1 hc0 hf0 hz0 hz1 hz2) | (have hw0 := hw1; clear hw1)); obtain ⟨hc0, hf0⟩ := hw0.reads; have hzz := hw0.size; simp at hzz; have hz0 : w.heap.size < w1.heap.size := (by omega); have hz1 : w.heap.size + 1 < w1.heap.size := (by omega); have hz2 : w.heap.size + 2 < w1.heap.size := (by omega); clear hzz))
        refine bodyPost_ret (v := .tuple #[vKI ⟨0, 0, 0, 0, false⟩, .int .i64 2]) ?_ rfl (Ret.mk rfl ?_)
        · simp [results, Try.results18, go_sem, hc0, vKI]
        · clear hc0 hf0; (repeat' (first | with_reducible exact Chg.refl _ _ | with_reducible assumption | with_reducible apply Chg.drewN | with_reducible apply Chg.drew | with_reducible apply Chg.alloc | (with_reducible refine Chg.setCell ?_ (Or.inr ?_) _) | (with_reducible refine Chg.trans ?_ (by assumption)) | (simp; done) | (simp; omega)))

end Go.Proofs.Ytohdjlgghkcaoaa
