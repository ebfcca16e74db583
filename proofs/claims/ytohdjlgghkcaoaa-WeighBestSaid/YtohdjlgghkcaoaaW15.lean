/- Walks: what is known after a weighing, the reference's. -/
import Derived.Test.YtohdjlgghkcaoaaW14
namespace Go.Proofs.Ytohdjlgghkcaoaa
open Go.RowKit

set_option maxRecDepth 100000 in
set_option maxHeartbeats 1000000 in
theorem rafter0_yes (b h l g b0 b1 h0 h1 l0 l1 g0 g1 : Int) (n : Bool) (w : World) (hv : W.vld b h l g n = true) (hl : W.isLd b h l g b0 b1 h0 h1 l0 l1 g0 g1 = true)
    (hp : ((W.possI (b - b0 - b1) (h - h0 - h1) (l - l0 - l1) n) == 0) = false) :
    Calls Try.prog 24 #[.agg #[.int .i64 b, .int .i64 h, .int .i64 l, .int .i64 g, .bool n], .agg #[.int .i64 b0, .int .i64 b1, .int .i64 h0, .int .i64 h1, .int .i64 l0, .int .i64 l1, .int .i64 g0, .int .i64 g1], .int .i64 0] w (Ret (.tuple #[vKI (W.aftI b h l g n b0 b1 h0 h1 l0 l1 0), .int .i64 0]) w) := by
  have k1 := fun w ts t x => @run_min_2 Try.prog w ts t 13 x
  obtain ⟨a1, a2, a3, a4, a5, a6, a7, a8, a9, a10⟩ := W.vld_iff.1 hv
  obtain ⟨⟨x1, x2, x3⟩, ⟨x4, x5, x6⟩, ⟨x7, x8, x9⟩, ⟨y1, y2, y3⟩, y4, y5⟩ := W.isLd_iff.1 hl
  clear hv hl a10 y4
  go_enter Try.func24, Try.ntmps24
  go_wp2_with (go_at_call 28; refine (rposs_any _ _ _ _ _ _ (by omega) (by omega) (by omega) (by omega) (by omega) (by omega)).mono ?_; rintro e w1 ⟨rfl, hw1⟩; (first | (replace hw0 := Chg.trans hw0 hw1; clear hw1 hc0 hf0 hz0 hz1 hz2 hz3) | (have hw0 := hw1; clear hw1)); obtain ⟨hc0, hf0⟩ := hw0.reads; have hzz := hw0.size; simp at hzz; have hz0 : w.heap.size < w1.heap.size := (by omega); have hz1 : w.heap.size + 1 < w1.heap.size := (by omega); have hz2 : w.heap.size + 2 < w1.heap.size := (by omega); have hz3 : w.heap.size + 3 < w1.heap.size := (by omega); clear hzz)
  refine bodyPost_ret (v := .tuple #[vKI (W.aftI b h l g n b0 b1 h0 h1 l0 l1 0), .int .i64 0]) ?_ rfl (Ret.mk rfl ?_)
  · have eg : b + h + l + g = g + (b + h + l) := Int.add_comm _ _
    simp [results, Try.results24, go_sem, hc0, vKI, W.aftI, eg]
  · clear hc0 hf0; (repeat' (first | with_reducible exact Chg.refl _ _ | with_reducible assumption | with_reducible apply Chg.drewN | with_reducible apply Chg.drew | with_reducible apply Chg.alloc | (with_reducible refine Chg.setCell ?_ (Or.inr ?_) _) | (with_reducible refine Chg.trans ?_ (by assumption)) | (simp; done) | (simp; omega)))

set_option maxRecDepth 100000 in
set_option maxHeartbeats 1000000 in
theorem rafter0_no (b h l g b0 b1 h0 h1 l0 l1 g0 g1 : Int) (n : Bool) (w : World) (hv : W.vld b h l g n = true) (hl : W.isLd b h l g b0 b1 h0 h1 l0 l1 g0 g1 = true)
    (hp : ((W.possI (b - b0 - b1) (h - h0 - h1) (l - l0 - l1) n) == 0) = true) :
    Calls Try.prog 24 #[.agg #[.int .i64 b, .int .i64 h, .int .i64 l, .int .i64 g, .bool n], .agg #[.int .i64 b0, .int .i64 b1, .int .i64 h0, .int .i64 h1, .int .i64 l0, .int .i64 l1, .int .i64 g0, .int .i64 g1], .int .i64 0] w (Ret (errK 4) w) := by
  have k1 := fun w ts t x => @run_min_2 Try.prog w ts t 13 x
  obtain ⟨a1, a2, a3, a4, a5, a6, a7, a8, a9, a10⟩ := W.vld_iff.1 hv
  obtain ⟨⟨x1, x2, x3⟩, ⟨x4, x5, x6⟩, ⟨x7, x8, x9⟩, ⟨y1, y2, y3⟩, y4, y5⟩ := W.isLd_iff.1 hl
  clear hv hl a10 y4
  go_enter Try.func24, Try.ntmps24
  go_wp2_with (go_at_call 28; refine (rposs_any _ _ _ _ _ _ (by omega) (by omega) (by omega) (by omega) (by omega) (by omega)).mono ?_; rintro e w1 ⟨rfl, hw1⟩; (first | (replace hw0 := Chg.trans hw0 hw1; clear hw1 hc0 hf0 hz0 hz1 hz2 hz3) | (have hw0 := hw1; clear hw1)); obtain ⟨hc0, hf0⟩ := hw0.reads; have hzz := hw0.size; simp at hzz; have hz0 : w.heap.size < w1.heap.size := (by omega); have hz1 : w.heap.size + 1 < w1.heap.size := (by omega); have hz2 : w.heap.size + 2 < w1.heap.size := (by omega); have hz3 : w.heap.size + 3 < w1.heap.size := (by omega); clear hzz)
  refine bodyPost_ret (v := .tuple #[vKI ⟨0, 0, 0, 0, false⟩, .int .i64 4]) ?_ rfl (Ret.mk rfl ?_)
  · skip
    simp [results, Try.results24, go_sem, hc0, vKI]
  · clear hc0 hf0; (repeat' (first | with_reducible exact Chg.refl _ _ | with_reducible assumption | with_reducible apply Chg.drewN | with_reducible apply Chg.drew | with_reducible apply Chg.alloc | (with_reducible refine Chg.setCell ?_ (Or.inr ?_) _) | (with_reducible refine Chg.trans ?_ (by assumption)) | (simp; done) | (simp; omega)))

set_option maxRecDepth 100000 in
set_option maxHeartbeats 1000000 in
theorem rafterL_yes (b h l g b0 b1 h0 h1 l0 l1 g0 g1 : Int) (n : Bool) (w : World) (hv : W.vld b h l g n = true) (hl : W.isLd b h l g b0 b1 h0 h1 l0 l1 g0 g1 = true)
    (hp : ((W.possI 0 (b0 + h0) (b1 + l1) false) == 0) = false) :
    Calls Try.prog 24 #[.agg #[.int .i64 b, .int .i64 h, .int .i64 l, .int .i64 g, .bool n], .agg #[.int .i64 b0, .int .i64 b1, .int .i64 h0, .int .i64 h1, .int .i64 l0, .int .i64 l1, .int .i64 g0, .int .i64 g1], .int .i64 (-1)] w (Ret (.tuple #[vKI (W.aftI b h l g n b0 b1 h0 h1 l0 l1 (-1)), .int .i64 0]) w) := by
  have k1 := fun w ts t x => @run_min_2 Try.prog w ts t 13 x
  obtain ⟨a1, a2, a3, a4, a5, a6, a7, a8, a9, a10⟩ := W.vld_iff.1 hv
  obtain ⟨⟨x1, x2, x3⟩, ⟨x4, x5, x6⟩, ⟨x7, x8, x9⟩, ⟨y1, y2, y3⟩, y4, y5⟩ := W.isLd_iff.1 hl
  clear hv hl a10 y4
  go_enter Try.func24, Try.ntmps24
  go_wp2_with (go_at_call 28; refine (rposs_any _ _ _ _ _ _ (by omega) (by omega) (by omega) (by omega) (by omega) (by omega)).mono ?_; rintro e w1 ⟨rfl, hw1⟩; (first | (replace hw0 := Chg.trans hw0 hw1; clear hw1 hc0 hf0 hz0 hz1 hz2 hz3) | (have hw0 := hw1; clear hw1)); obtain ⟨hc0, hf0⟩ := hw0.reads; have hzz := hw0.size; simp at hzz; have hz0 : w.heap.size < w1.heap.size := (by omega); have hz1 : w.heap.size + 1 < w1.heap.size := (by omega); have hz2 : w.heap.size + 2 < w1.heap.size := (by omega); have hz3 : w.heap.size + 3 < w1.heap.size := (by omega); clear hzz)
  refine bodyPost_ret (v := .tuple #[vKI (W.aftI b h l g n b0 b1 h0 h1 l0 l1 (-1)), .int .i64 0]) ?_ rfl (Ret.mk rfl ?_)
  · have eg : b + h + l + g = g + (b + h + l) := Int.add_comm _ _
    simp [results, Try.results24, go_sem, hc0, vKI, W.aftI, eg]
  · clear hc0 hf0; (repeat' (first | with_reducible exact Chg.refl _ _ | with_reducible assumption | with_reducible apply Chg.drewN | with_reducible apply Chg.drew | with_reducible apply Chg.alloc | (with_reducible refine Chg.setCell ?_ (Or.inr ?_) _) | (with_reducible refine Chg.trans ?_ (by assumption)) | (simp; done) | (simp; omega)))

set_option maxRecDepth 100000 in
set_option maxHeartbeats 1000000 in
theorem rafterL_no (b h l g b0 b1 h0 h1 l0 l1 g0 g1 : Int) (n : Bool) (w : World) (hv : W.vld b h l g n = true) (hl : W.isLd b h l g b0 b1 h0 h1 l0 l1 g0 g1 = true)
    (hp : ((W.possI 0 (b0 + h0) (b1 + l1) false) == 0) = true) :
    Calls Try.prog 24 #[.agg #[.int .i64 b, .int .i64 h, .int .i64 l, .int .i64 g, .bool n], .agg #[.int .i64 b0, .int .i64 b1, .int .i64 h0, .int .i64 h1, .int .i64 l0, .int .i64 l1, .int .i64 g0, .int .i64 g1], .int .i64 (-1)] w (Ret (errK 4) w) := by
  have k1 := fun w ts t x => @run_min_2 Try.prog w ts t 13 x
  obtain ⟨a1, a2, a3, a4, a5, a6, a7, a8, a9, a10⟩ := W.vld_iff.1 hv
  obtain ⟨⟨x1, x2, x3⟩, ⟨x4, x5, x6⟩, ⟨x7, x8, x9⟩, ⟨y1, y2, y3⟩, y4, y5⟩ := W.isLd_iff.1 hl
  clear hv hl a10 y4
  go_enter Try.func24, Try.ntmps24
  go_wp2_with (go_at_call 28; refine (rposs_any _ _ _ _ _ _ (by omega) (by omega) (by omega) (by omega) (by omega) (by omega)).mono ?_; rintro e w1 ⟨rfl, hw1⟩; (first | (replace hw0 := Chg.trans hw0 hw1; clear hw1 hc0 hf0 hz0 hz1 hz2 hz3) | (have hw0 := hw1; clear hw1)); obtain ⟨hc0, hf0⟩ := hw0.reads; have hzz := hw0.size; simp at hzz; have hz0 : w.heap.size < w1.heap.size := (by omega); have hz1 : w.heap.size + 1 < w1.heap.size := (by omega); have hz2 : w.heap.size + 2 < w1.heap.size := (by omega); have hz3 : w.heap.size + 3 < w1.heap.size := (by omega); clear hzz)
  refine bodyPost_ret (v := .tuple #[vKI ⟨0, 0, 0, 0, false⟩, .int .i64 4]) ?_ rfl (Ret.mk rfl ?_)
  · skip
    simp [results, Try.results24, go_sem, hc0, vKI]
  · clear hc0 hf0; (repeat' (first | with_reducible exact Chg.refl _ _ | with_reducible assumption | with_reducible apply Chg.drewN | with_reducible apply Chg.drew | with_reducible apply Chg.alloc | (with_reducible refine Chg.setCell ?_ (Or.inr ?_) _) | (with_reducible refine Chg.trans ?_ (by assumption)) | (simp; done) | (simp; omega)))

set_option maxRecDepth 100000 in
set_option maxHeartbeats 1000000 in
theorem rafterR_yes (b h l g b0 b1 h0 h1 l0 l1 g0 g1 : Int) (n : Bool) (w : World) (hv : W.vld b h l g n = true) (hl : W.isLd b h l g b0 b1 h0 h1 l0 l1 g0 g1 = true)
    (hp : ((W.possI 0 (b1 + h1) (b0 + l0) false) == 0) = false) :
    Calls Try.prog 24 #[.agg #[.int .i64 b, .int .i64 h, .int .i64 l, .int .i64 g, .bool n], .agg #[.int .i64 b0, .int .i64 b1, .int .i64 h0, .int .i64 h1, .int .i64 l0, .int .i64 l1, .int .i64 g0, .int .i64 g1], .int .i64 1] w (Ret (.tuple #[vKI (W.aftI b h l g n b0 b1 h0 h1 l0 l1 1), .int .i64 0]) w) := by
  have k1 := fun w ts t x => @run_min_2 Try.prog w ts t 13 x
  obtain ⟨a1, a2, a3, a4, a5, a6, a7, a8, a9, a10⟩ := W.vld_iff.1 hv
  obtain ⟨⟨x1, x2, x3⟩, ⟨x4, x5, x6⟩, ⟨x7, x8, x9⟩, ⟨y1, y2, y3⟩, y4, y5⟩ := W.isLd_iff.1 hl
  clear hv hl a10 y4
  go_enter Try.func24, Try.ntmps24
  go_wp2_with (go_at_call 28; refine (rposs_any _ _ _ _ _ _ (by omega) (by omega) (by omega) (by omega) (by omega) (by omega)).mono ?_; rintro e w1 ⟨rfl, hw1⟩; (first | (replace hw0 := Chg.trans hw0 hw1; clear hw1 hc0 hf0 hz0 hz1 hz2 hz3) | (have hw0 := hw1; clear hw1)); obtain ⟨hc0, hf0⟩ := hw0.reads; have hzz := hw0.size; simp at hzz; have hz0 : w.heap.size < w1.heap.size := (by omega); have hz1 : w.heap.size + 1 < w1.heap.size := (by omega); have hz2 : w.heap.size + 2 < w1.heap.size := (by omega); have hz3 : w.heap.size + 3 < w1.heap.size := (by omega); clear hzz)
  refine bodyPost_ret (v := .tuple #[vKI (W.aftI b h l g n b0 b1 h0 h1 l0 l1 1), .int .i64 0]) ?_ rfl (Ret.mk rfl ?_)
  · have eg : b + h + l + g = g + (b + h + l) := Int.add_comm _ _
    simp [results, Try.results24, go_sem, hc0, vKI, W.aftI, eg]
  · clear hc0 hf0; (repeat' (first | with_reducible exact Chg.refl _ _ | with_reducible assumption | with_reducible apply Chg.drewN | with_reducible apply Chg.drew | with_reducible apply Chg.alloc | (with_reducible refine Chg.setCell ?_ (Or.inr ?_) _) | (with_reducible refine Chg.trans ?_ (by assumption)) | (simp; done) | (simp; omega)))

set_option maxRecDepth 100000 in
set_option maxHeartbeats 1000000 in
theorem rafterR_no (b h l g b0 b1 h0 h1 l0 l1 g0 g1 : Int) (n : Bool) (w : World) (hv : W.vld b h l g n = true) (hl : W.isLd b h l g b0 b1 h0 h1 l0 l1 g0 g1 = true)
    (hp : ((W.possI 0 (b1 + h1) (b0 + l0) false) == 0) = true) :
    Calls Try.prog 24 #[.agg #[.int .i64 b, .int .i64 h, .int .i64 l, .int .i64 g, .bool n], .agg #[.int .i64 b0, .int .i64 b1, .int .i64 h0, .int .i64 h1, .int .i64 l0, .int .i64 l1, .int .i64 g0, .int .i64 g1], .int .i64 1] w (Ret (errK 4) w) := by
  have k1 := fun w ts t x => @run_min_2 Try.prog w ts t 13 x
  obtain ⟨a1, a2, a3, a4, a5, a6, a7, a8, a9, a10⟩ := W.vld_iff.1 hv
  obtain ⟨⟨x1, x2, x3⟩, ⟨x4, x5, x6⟩, ⟨x7, x8, x9⟩, ⟨y1, y2, y3⟩, y4, y5⟩ := W.isLd_iff.1 hl
  clear hv hl a10 y4
  go_enter Try.func24, Try.ntmps24
  go_wp2_with (go_at_call 28; refine (rposs_any _ _ _ _ _ _ (by omega) (by omega) (by omega) (by omega) (by omega) (by omega)).mono ?_; rintro e w1 ⟨rfl, hw1⟩; (first | (replace hw0 := Chg.trans hw0 hw1; clear hw1 hc0 hf0 hz0 hz1 hz2 hz3) | (have hw0 := hw1; clear hw1)); obtain ⟨hc0, hf0⟩ := hw0.reads; have hzz := hw0.size; simp at hzz; have hz0 : w.heap.size < w1.heap.size := (by omega); have hz1 : w.heap.size + 1 < w1.heap.size := (by omega); have hz2 : w.heap.size + 2 < w1.heap.size := (by omega); have hz3 : w.heap.size + 3 < w1.heap.size := (by omega); clear hzz)
  refine bodyPost_ret (v := .tuple #[vKI ⟨0, 0, 0, 0, false⟩, .int .i64 4]) ?_ rfl (Ret.mk rfl ?_)
  · skip
    simp [results, Try.results24, go_sem, hc0, vKI]
  · clear hc0 hf0; (repeat' (first | with_reducible exact Chg.refl _ _ | with_reducible assumption | with_reducible apply Chg.drewN | with_reducible apply Chg.drew | with_reducible apply Chg.alloc | (with_reducible refine Chg.setCell ?_ (Or.inr ?_) _) | (with_reducible refine Chg.trans ?_ (by assumption)) | (simp; done) | (simp; omega)))


theorem RAfter_any (b h l g b0 b1 h0 h1 l0 l1 g0 g1 r : Int) (n : Bool) (w : World) (hv : W.vld b h l g n = true) (hl : W.isLd b h l g b0 b1 h0 h1 l0 l1 g0 g1 = true) (r0 : -1 ≤ r) (r1 : r ≤ 1) :
    Calls Try.prog 24 #[.agg #[.int .i64 b, .int .i64 h, .int .i64 l, .int .i64 g, .bool n], .agg #[.int .i64 b0, .int .i64 b1, .int .i64 h0, .int .i64 h1, .int .i64 l0, .int .i64 l1, .int .i64 g0, .int .i64 g1], .int .i64 r] w (Ret (afterE (W.aftI b h l g n b0 b1 h0 h1 l0 l1 r)) w) := by
  obtain ⟨a1, a2, a3, a4, a5, a6, a7, a8, a9, a10⟩ := W.vld_iff.1 hv
  obtain ⟨⟨x1, x2, x3⟩, ⟨x4, x5, x6⟩, ⟨x7, x8, x9⟩, ⟨y1, y2, y3⟩, y4, y5⟩ := W.isLd_iff.1 hl
  have nonneg : ∀ x y z (m : Bool), 0 ≤ x → 0 ≤ y → 0 ≤ z → 0 ≤ W.possI x y z m := fun x y z m h1 h2 h3 => by unfold W.possI; split <;> omega
  rcases (show r = -1 ∨ r = 0 ∨ r = 1 by omega) with rfl | rfl | rfl
  · have e : (W.aftI b h l g n b0 b1 h0 h1 l0 l1 (-1)).poss = W.possI 0 (b0 + h0) (b1 + l1) false := by simp [W.aftI, W.KI.poss]
    have := nonneg 0 (b0 + h0) (b1 + l1) false (by omega) (by omega) (by omega)
    unfold afterE
    rw [e]
    split
    · exact rafterL_yes _ _ _ _ _ _ _ _ _ _ _ _ _ _ hv hl (by simp; omega)
    · exact rafterL_no _ _ _ _ _ _ _ _ _ _ _ _ _ _ hv hl (by simp; omega)
  · have e : (W.aftI b h l g n b0 b1 h0 h1 l0 l1 0).poss = W.possI (b - b0 - b1) (h - h0 - h1) (l - l0 - l1) n := by simp [W.aftI, W.KI.poss]
    have := nonneg (b - b0 - b1) (h - h0 - h1) (l - l0 - l1) n (by omega) (by omega) (by omega)
    unfold afterE
    rw [e]
    split
    · exact rafter0_yes _ _ _ _ _ _ _ _ _ _ _ _ _ _ hv hl (by simp; omega)
    · exact rafter0_no _ _ _ _ _ _ _ _ _ _ _ _ _ _ hv hl (by simp; omega)
  · have e : (W.aftI b h l g n b0 b1 h0 h1 l0 l1 1).poss = W.possI 0 (b1 + h1) (b0 + l0) false := by simp [W.aftI, W.KI.poss]
    have := nonneg 0 (b1 + h1) (b0 + l0) false (by omega) (by omega) (by omega)
    unfold afterE
    rw [e]
    split
    · exact rafterR_yes _ _ _ _ _ _ _ _ _ _ _ _ _ _ hv hl (by simp; omega)
    · exact rafterR_no _ _ _ _ _ _ _ _ _ _ _ _ _ _ hv hl (by simp; omega)
end Go.Proofs.Ytohdjlgghkcaoaa
