/- Walks: possibilities, validity, what fits on the pans. -/
import Derived.Test.YtohdjlgghkcaoaaBase
import Derived.Test.YtohdjlgghkcaoaaDefs
namespace Go.Proofs.Ytohdjlgghkcaoaa
open Go.RowKit

set_option maxHeartbeats 400000 in
theorem poss_any (b h l g : Int) (n : Bool) (w : World) (hb0 : 0 ≤ b) (hb1 : b ≤ 13) (hh0 : 0 ≤ h) (hh1 : h ≤ 13) (hl0 : 0 ≤ l) (hl1 : l ≤ 13) :
    Calls Try.prog 56 #[.agg #[.int .i64 b, .int .i64 h, .int .i64 l, .int .i64 g, .bool n]] w (Ret (.int .i64 (W.possI b h l n)) w) := by
  cases n
  all_goals
    go_enter Try.func56, Try.ntmps56
    go_wp2
    go_ret
    refine Ret.mk (congrArg (Value.int .i64) ?_) ?_
    · first | exact (W.possI_true _ _ _).symm | exact (W.possI_false _ _ _).symm
    · (repeat' (first | with_reducible exact Chg.refl _ _ | with_reducible assumption | with_reducible apply Chg.drewN | with_reducible apply Chg.drew | with_reducible apply Chg.alloc | (with_reducible refine Chg.setCell ?_ (Or.inr ?_) _) | (with_reducible refine Chg.trans ?_ (by assumption)) | (simp; done) | (simp; omega)))

set_option maxHeartbeats 400000 in
theorem rposs_any (b h l g : Int) (n : Bool) (w : World) (hb0 : 0 ≤ b) (hb1 : b ≤ 13) (hh0 : 0 ≤ h) (hh1 : h ≤ 13) (hl0 : 0 ≤ l) (hl1 : l ≤ 13) :
    Calls Try.prog 28 #[.agg #[.int .i64 b, .int .i64 h, .int .i64 l, .int .i64 g, .bool n]] w (Ret (.int .i64 (W.possI b h l n)) w) := by
  cases n
  all_goals
    go_enter Try.func28, Try.ntmps28
    go_wp2
    go_ret
    refine Ret.mk (congrArg (Value.int .i64) ?_) ?_
    · first | exact (W.possI_true _ _ _).symm | exact (W.possI_false _ _ _).symm
    · (repeat' (first | with_reducible exact Chg.refl _ _ | with_reducible assumption | with_reducible apply Chg.drewN | with_reducible apply Chg.drew | with_reducible apply Chg.alloc | (with_reducible refine Chg.setCell ?_ (Or.inr ?_) _) | (with_reducible refine Chg.trans ?_ (by assumption)) | (simp; done) | (simp; omega)))

set_option maxHeartbeats 400000 in
theorem valid_any (b h l g : Int) (n : Bool) (w : World) :
    Calls Try.prog 50 #[.agg #[.int .i64 b, .int .i64 h, .int .i64 l, .int .i64 g, .bool n]] w (Ret (.bool (W.vld b h l g n)) w) := by
  have k1 := fun w ts t => @run_min_4 Try.prog w ts t b h l g
  have k2 := fun w ts t => @run_max_4 Try.prog w ts t b h l g
  by_cases hr : (0 ≤ b ∧ 0 ≤ h ∧ 0 ≤ l ∧ 0 ≤ g) ∧ (b ≤ 13 ∧ h ≤ 13 ∧ l ≤ 13 ∧ g ≤ 13)
  · obtain ⟨⟨b0, h0, l0, g0⟩, b1, h1, l1, g1⟩ := hr
    have m1 : decide (imin (imin (imin b h) l) g < 0) = false := by rw [decide_eq_false_iff_not]; simp only [imin_lt]; omega
    have m2 : decide (13 < imax (imax (imax b h) l) g) = false := by rw [decide_eq_false_iff_not]; simp only [lt_imax]; omega
    by_cases hs : b + h + l ≤ 13
    · go_enter Try.func50, Try.ntmps50
      go_wp2_with (go_at_call 56; refine (poss_any _ _ _ _ _ _ b0 b1 h0 h1 l0 l1).mono ?_; rintro e w1 ⟨rfl, hw1⟩)
      go_ret
      refine Ret.mk (congrArg Value.bool (W.bool_eq ?_)) ?_
      · rw [W.vld_iff]; simp only [decide_eq_true_eq]; omega
      · (repeat' (first | with_reducible exact Chg.refl _ _ | with_reducible assumption | with_reducible apply Chg.drewN | with_reducible apply Chg.drew | with_reducible apply Chg.alloc | (with_reducible refine Chg.setCell ?_ (Or.inr ?_) _) | (with_reducible refine Chg.trans ?_ (by assumption)) | (simp; done) | (simp; omega)))
    · go_enter Try.func50, Try.ntmps50
      go_wp2
      go_ret
      refine Ret.mk (congrArg Value.bool (W.bool_eq ?_)) ?_
      · rw [W.vld_iff]; simp; omega
      · (repeat' (first | with_reducible exact Chg.refl _ _ | with_reducible assumption | with_reducible apply Chg.drewN | with_reducible apply Chg.drew | with_reducible apply Chg.alloc | (with_reducible refine Chg.setCell ?_ (Or.inr ?_) _) | (with_reducible refine Chg.trans ?_ (by assumption)) | (simp; done) | (simp; omega)))
  · by_cases hm : imin (imin (imin b h) l) g < 0
    · have m1 : decide (imin (imin (imin b h) l) g < 0) = true := by simpa using hm
      have hv : W.vld b h l g n = false := by
        refine Bool.eq_false_iff.2 fun hv => hr ?_
        have := W.vld_iff.1 hv; omega
      have HV := hide hv
      clear hr hm hv
      go_enter Try.func50, Try.ntmps50
      go_wp2
      go_ret
      exact Ret.mk (congrArg Value.bool HV.out.symm) (by (repeat' (first | with_reducible exact Chg.refl _ _ | with_reducible assumption | with_reducible apply Chg.drewN | with_reducible apply Chg.drew | with_reducible apply Chg.alloc | (with_reducible refine Chg.setCell ?_ (Or.inr ?_) _) | (with_reducible refine Chg.trans ?_ (by assumption)) | (simp; done) | (simp; omega))))
    · have m1 : decide (imin (imin (imin b h) l) g < 0) = false := by simpa using hm
      have m2 : decide (13 < imax (imax (imax b h) l) g) = true := by
        rw [decide_eq_true_eq]
        simp only [imin_lt, lt_imax] at hm ⊢
        omega
      have hv : W.vld b h l g n = false := by
        refine Bool.eq_false_iff.2 fun hv => hr ?_
        have := W.vld_iff.1 hv; omega
      have HV := hide hv
      clear hr hm hv
      go_enter Try.func50, Try.ntmps50
      go_wp2
      go_ret
      exact Ret.mk (congrArg Value.bool HV.out.symm) (by (repeat' (first | with_reducible exact Chg.refl _ _ | with_reducible assumption | with_reducible apply Chg.drewN | with_reducible apply Chg.drew | with_reducible apply Chg.alloc | (with_reducible refine Chg.setCell ?_ (Or.inr ?_) _) | (with_reducible refine Chg.trans ?_ (by assumption)) | (simp; done) | (simp; omega))))

end Go.Proofs.Ytohdjlgghkcaoaa
