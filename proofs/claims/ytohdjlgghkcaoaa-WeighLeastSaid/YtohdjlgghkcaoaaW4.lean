/- Walks: what is known after a weighing. -/
import Derived.Test.YtohdjlgghkcaoaaW3
import Derived.Deep.RegionWith
namespace Go.Proofs.Ytohdjlgghkcaoaa
open Go.RowKit

def vKI (k : W.KI) : Value := .agg #[.int .i64 k.b, .int .i64 k.h, .int .i64 k.l, .int .i64 k.g, .bool k.n]
def afterV (k : W.KI) : Value := .tuple #[vKI k, .bool (decide (0 < k.poss))]

set_option maxRecDepth 100000 in
set_option maxHeartbeats 2000000 in
theorem after0 (b h l g b0 b1 h0 h1 l0 l1 g0 g1 : Int) (n : Bool) (w : World) (hv : W.vld b h l g n = true) (hl : W.isLd b h l g b0 b1 h0 h1 l0 l1 g0 g1 = true) :
    Calls Try.prog 53 #[.agg #[.int .i64 b, .int .i64 h, .int .i64 l, .int .i64 g, .bool n], .agg #[.int .i64 b0, .int .i64 b1, .int .i64 h0, .int .i64 h1, .int .i64 l0, .int .i64 l1, .int .i64 g0, .int .i64 g1], .int .i64 0] w (Ret (afterV (W.aftI b h l g n b0 b1 h0 h1 l0 l1 0)) w) := by
  have k1 := fun w ts t x => @run_min_2 Try.prog w ts t 13 x
  obtain ⟨a1, a2, a3, a4, a5, a6, a7, a8, a9, a10⟩ := W.vld_iff.1 hv
  obtain ⟨⟨x1, x2, x3⟩, ⟨x4, x5, x6⟩, ⟨x7, x8, x9⟩, ⟨y1, y2, y3⟩, y4, y5⟩ := W.isLd_iff.1 hl
  clear hv hl a10 y4
  go_enter Try.func53, Try.ntmps53
  go_wp2
  go_region_with (go_at_call 56; refine (poss_any _ _ _ _ _ _ (by omega) (by omega) (by omega) (by omega) (by omega) (by omega)).mono ?_; rintro e w1 ⟨rfl, hw1⟩; obtain ⟨hc1, hf1⟩ := hw1.reads)
  all_goals
    go_wp2
    refine bodyPost_ret (v := afterV (W.aftI b h l g n b0 b1 h0 h1 l0 l1 0)) ?_ rfl (Ret.mk rfl ?_)
    · simp [results, Try.results53, go_sem, hc1, afterV, vKI, W.aftI, W.KI.poss]
    · clear hc1 hf1; (repeat' (first | with_reducible exact Chg.refl _ _ | with_reducible assumption | with_reducible apply Chg.drewN | with_reducible apply Chg.drew | with_reducible apply Chg.alloc | (with_reducible refine Chg.setCell ?_ (Or.inr ?_) _) | (with_reducible refine Chg.trans ?_ (by assumption)) | (simp; done) | (simp; omega)))

set_option maxRecDepth 100000 in
set_option maxHeartbeats 2000000 in
theorem afterL (b h l g b0 b1 h0 h1 l0 l1 g0 g1 : Int) (n : Bool) (w : World) (hv : W.vld b h l g n = true) (hl : W.isLd b h l g b0 b1 h0 h1 l0 l1 g0 g1 = true) :
    Calls Try.prog 53 #[.agg #[.int .i64 b, .int .i64 h, .int .i64 l, .int .i64 g, .bool n], .agg #[.int .i64 b0, .int .i64 b1, .int .i64 h0, .int .i64 h1, .int .i64 l0, .int .i64 l1, .int .i64 g0, .int .i64 g1], .int .i64 (-1)] w (Ret (afterV (W.aftI b h l g n b0 b1 h0 h1 l0 l1 (-1))) w) := by
  have k1 := fun w ts t x => @run_min_2 Try.prog w ts t 13 x
  obtain ⟨a1, a2, a3, a4, a5, a6, a7, a8, a9, a10⟩ := W.vld_iff.1 hv
  obtain ⟨⟨x1, x2, x3⟩, ⟨x4, x5, x6⟩, ⟨x7, x8, x9⟩, ⟨y1, y2, y3⟩, y4, y5⟩ := W.isLd_iff.1 hl
  clear hv hl a10 y4
  go_enter Try.func53, Try.ntmps53
  go_wp2
  go_region_with (go_at_call 56; refine (poss_any _ _ _ _ _ _ (by omega) (by omega) (by omega) (by omega) (by omega) (by omega)).mono ?_; rintro e w1 ⟨rfl, hw1⟩; obtain ⟨hc1, hf1⟩ := hw1.reads)
  all_goals
    go_wp2
    refine bodyPost_ret (v := afterV (W.aftI b h l g n b0 b1 h0 h1 l0 l1 (-1))) ?_ rfl (Ret.mk rfl ?_)
    · simp [results, Try.results53, go_sem, hc1, afterV, vKI, W.aftI, W.KI.poss]
    · clear hc1 hf1; (repeat' (first | with_reducible exact Chg.refl _ _ | with_reducible assumption | with_reducible apply Chg.drewN | with_reducible apply Chg.drew | with_reducible apply Chg.alloc | (with_reducible refine Chg.setCell ?_ (Or.inr ?_) _) | (with_reducible refine Chg.trans ?_ (by assumption)) | (simp; done) | (simp; omega)))

set_option maxRecDepth 100000 in
set_option maxHeartbeats 2000000 in
theorem afterR (b h l g b0 b1 h0 h1 l0 l1 g0 g1 : Int) (n : Bool) (w : World) (hv : W.vld b h l g n = true) (hl : W.isLd b h l g b0 b1 h0 h1 l0 l1 g0 g1 = true) :
    Calls Try.prog 53 #[.agg #[.int .i64 b, .int .i64 h, .int .i64 l, .int .i64 g, .bool n], .agg #[.int .i64 b0, .int .i64 b1, .int .i64 h0, .int .i64 h1, .int .i64 l0, .int .i64 l1, .int .i64 g0, .int .i64 g1], .int .i64 1] w (Ret (afterV (W.aftI b h l g n b0 b1 h0 h1 l0 l1 1)) w) := by
  have k1 := fun w ts t x => @run_min_2 Try.prog w ts t 13 x
  obtain ⟨a1, a2, a3, a4, a5, a6, a7, a8, a9, a10⟩ := W.vld_iff.1 hv
  obtain ⟨⟨x1, x2, x3⟩, ⟨x4, x5, x6⟩, ⟨x7, x8, x9⟩, ⟨y1, y2, y3⟩, y4, y5⟩ := W.isLd_iff.1 hl
  clear hv hl a10 y4
  go_enter Try.func53, Try.ntmps53
  go_wp2
  go_region_with (go_at_call 56; refine (poss_any _ _ _ _ _ _ (by omega) (by omega) (by omega) (by omega) (by omega) (by omega)).mono ?_; rintro e w1 ⟨rfl, hw1⟩; obtain ⟨hc1, hf1⟩ := hw1.reads)
  all_goals
    go_wp2
    refine bodyPost_ret (v := afterV (W.aftI b h l g n b0 b1 h0 h1 l0 l1 1)) ?_ rfl (Ret.mk rfl ?_)
    · simp [results, Try.results53, go_sem, hc1, afterV, vKI, W.aftI, W.KI.poss]
    · clear hc1 hf1; (repeat' (first | with_reducible exact Chg.refl _ _ | with_reducible assumption | with_reducible apply Chg.drewN | with_reducible apply Chg.drew | with_reducible apply Chg.alloc | (with_reducible refine Chg.setCell ?_ (Or.inr ?_) _) | (with_reducible refine Chg.trans ?_ (by assumption)) | (simp; done) | (simp; omega)))

end Go.Proofs.Ytohdjlgghkcaoaa
