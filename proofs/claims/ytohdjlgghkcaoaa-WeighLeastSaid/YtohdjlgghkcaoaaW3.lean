/- Walks: what fits on the pans, the program's own. -/
import Derived.Test.YtohdjlgghkcaoaaW2
namespace Go.Proofs.Ytohdjlgghkcaoaa
open Go.RowKit

set_option maxRecDepth 100000 in
set_option maxHeartbeats 2000000 in
theorem isload_any (b h l g b0 b1 h0 h1 l0 l1 g0 g1 : Int) (n : Bool) (w : World) (hb : 0 ≤ b ∧ b ≤ 13) (hh : 0 ≤ h ∧ h ≤ 13) (hl : 0 ≤ l ∧ l ≤ 13) (hg : 0 ≤ g ∧ g ≤ 13) :
    Calls Try.prog 52 #[.agg #[.int .i64 b0, .int .i64 b1, .int .i64 h0, .int .i64 h1, .int .i64 l0, .int .i64 l1, .int .i64 g0, .int .i64 g1], .agg #[.int .i64 b, .int .i64 h, .int .i64 l, .int .i64 g, .bool n]] w (Ret (.bool (W.isLd b h l g b0 b1 h0 h1 l0 l1 g0 g1)) w) := by
  obtain ⟨hb2, hb3⟩ := hb
  obtain ⟨hh2, hh3⟩ := hh
  obtain ⟨hl2, hl3⟩ := hl
  obtain ⟨hg2, hg3⟩ := hg
  have fail : W.fitI b0 b1 b = false ∨ W.fitI h0 h1 h = false ∨ W.fitI l0 l1 l = false ∨ W.fitI g0 g1 g = false → W.isLd b h l g b0 b1 h0 h1 l0 l1 g0 g1 = false := by
    unfold W.isLd
    rintro (e | e | e | e) <;> simp [e]
  have F := hide fail
  clear fail
  by_cases f1 : W.fitI b0 b1 b = true
  · skip
    by_cases f2 : W.fitI h0 h1 h = true
    · skip
      by_cases f3 : W.fitI l0 l1 l = true
      · skip
        by_cases f4 : W.fitI g0 g1 g = true
        · skip
          obtain ⟨x1, x2, x3⟩ := W.fitI_iff.1 f1
          obtain ⟨x4, x5, x6⟩ := W.fitI_iff.1 f2
          obtain ⟨x7, x8, x9⟩ := W.fitI_iff.1 f3
          obtain ⟨y1, y2, y3⟩ := W.fitI_iff.1 f4
          clear F
          have q0 := W.panI_zero b0 b1 h0 h1 l0 l1 g0 g1
          have q1 := W.panI_one b0 b1 h0 h1 l0 l1 g0 g1
          by_cases e1 : b0 + h0 + l0 + g0 = b1 + h1 + l1 + g1
          · have d1 : (b0 + h0 + l0 + g0 == b1 + h1 + l1 + g1) = true := by simpa using e1
            have E : Hid (decide (1 ≤ b0 + h0 + l0 + g0) = W.isLd b h l g b0 b1 h0 h1 l0 l1 g0 g1) := W.bool_eq (by rw [W.isLd_iff]; simp; omega)
            have e2 := hide e1
            clear e1
            go_enter Try.func52, Try.ntmps52
            go_wp2
            refine wp_region_ext (by kernel_rfl) (by kernel_rfl) ?_
            repeat (first | go_big_quiet_step ((first | (go_at_call 76; exact calls_of_ret (fits_any _ _ _ _ (by assumption) (by assumption))) | (go_at_call 77; (refine calls_of_ret (pan_any _ _ _ _ _ _ _ _ _ _ ?_ ?_ ?_ ?_ ?_ ?_ ?_ ?_ ?_ ?_ ?_ ?_ ?_ ?_ ?_ ?_ ?_) <;> omega)))) | quiet_step ((first | (go_at_call 76; exact calls_of_ret (fits_any _ _ _ _ (by assumption) (by assumption))) | (go_at_call 77; (refine calls_of_ret (pan_any _ _ _ _ _ _ _ _ _ _ ?_ ?_ ?_ ?_ ?_ ?_ ?_ ?_ ?_ ?_ ?_ ?_ ?_ ?_ ?_ ?_ ?_) <;> omega)))))
            refine wpQuiet_nil ?_
            intro wx hx
            go_wp2
            go_ret
            exact Ret.mk (congrArg Value.bool E.out) (by (repeat' (first | with_reducible exact Chg.refl _ _ | with_reducible assumption | with_reducible apply Chg.drewN | with_reducible apply Chg.drew | with_reducible apply Chg.alloc | (with_reducible refine Chg.setCell ?_ (Or.inr ?_) _) | (with_reducible refine Chg.trans ?_ (by assumption)) | (simp; done) | (simp; omega))))
          · have d1 : (b0 + h0 + l0 + g0 == b1 + h1 + l1 + g1) = false := by simpa using e1
            have E : Hid (false = W.isLd b h l g b0 b1 h0 h1 l0 l1 g0 g1) := W.bool_eq (by rw [W.isLd_iff]; simp; omega)
            clear e1
            go_enter Try.func52, Try.ntmps52
            go_wp2
            refine wp_region_ext (by kernel_rfl) (by kernel_rfl) ?_
            repeat (first | go_big_quiet_step ((first | (go_at_call 76; exact calls_of_ret (fits_any _ _ _ _ (by assumption) (by assumption))) | (go_at_call 77; (refine calls_of_ret (pan_any _ _ _ _ _ _ _ _ _ _ ?_ ?_ ?_ ?_ ?_ ?_ ?_ ?_ ?_ ?_ ?_ ?_ ?_ ?_ ?_ ?_ ?_) <;> omega)))) | quiet_step ((first | (go_at_call 76; exact calls_of_ret (fits_any _ _ _ _ (by assumption) (by assumption))) | (go_at_call 77; (refine calls_of_ret (pan_any _ _ _ _ _ _ _ _ _ _ ?_ ?_ ?_ ?_ ?_ ?_ ?_ ?_ ?_ ?_ ?_ ?_ ?_ ?_ ?_ ?_ ?_) <;> omega)))))
            refine wpQuiet_nil ?_
            intro wx hx
            go_wp2
            go_ret
            exact Ret.mk (congrArg Value.bool E.out) (by (repeat' (first | with_reducible exact Chg.refl _ _ | with_reducible assumption | with_reducible apply Chg.drewN | with_reducible apply Chg.drew | with_reducible apply Chg.alloc | (with_reducible refine Chg.setCell ?_ (Or.inr ?_) _) | (with_reducible refine Chg.trans ?_ (by assumption)) | (simp; done) | (simp; omega))))
        · rw [Bool.not_eq_true] at f4
          have F2 := hide (F.out (.inr (.inr (.inr f4))))
          clear F
          go_enter Try.func52, Try.ntmps52
          go_wp2
          refine wp_region_ext (by kernel_rfl) (by kernel_rfl) ?_
          repeat (first | go_big_quiet_step ((first | (go_at_call 76; exact calls_of_ret (fits_any _ _ _ _ (by assumption) (by assumption))) | (go_at_call 77; (refine calls_of_ret (pan_any _ _ _ _ _ _ _ _ _ _ ?_ ?_ ?_ ?_ ?_ ?_ ?_ ?_ ?_ ?_ ?_ ?_ ?_ ?_ ?_ ?_ ?_) <;> omega)))) | quiet_step ((first | (go_at_call 76; exact calls_of_ret (fits_any _ _ _ _ (by assumption) (by assumption))) | (go_at_call 77; (refine calls_of_ret (pan_any _ _ _ _ _ _ _ _ _ _ ?_ ?_ ?_ ?_ ?_ ?_ ?_ ?_ ?_ ?_ ?_ ?_ ?_ ?_ ?_ ?_ ?_) <;> omega)))))
          refine wpQuiet_nil ?_
          intro wx hx
          go_wp2
          go_ret
          exact Ret.mk (congrArg Value.bool F2.out.symm) (by (repeat' (first | with_reducible exact Chg.refl _ _ | with_reducible assumption | with_reducible apply Chg.drewN | with_reducible apply Chg.drew | with_reducible apply Chg.alloc | (with_reducible refine Chg.setCell ?_ (Or.inr ?_) _) | (with_reducible refine Chg.trans ?_ (by assumption)) | (simp; done) | (simp; omega))))
      · rw [Bool.not_eq_true] at f3
        have F2 := hide (F.out (.inr (.inr (.inl f3))))
        clear F
        go_enter Try.func52, Try.ntmps52
        go_wp2
        refine wp_region_ext (by kernel_rfl) (by kernel_rfl) ?_
        repeat (first | go_big_quiet_step ((first | (go_at_call 76; exact calls_of_ret (fits_any _ _ _ _ (by assumption) (by assumption))) | (go_at_call 77; (refine calls_of_ret (pan_any _ _ _ _ _ _ _ _ _ _ ?_ ?_ ?_ ?_ ?_ ?_ ?_ ?_ ?_ ?_ ?_ ?_ ?_ ?_ ?_ ?_ ?_) <;> omega)))) | quiet_step ((first | (go_at_call 76; exact calls_of_ret (fits_any _ _ _ _ (by assumption) (by assumption))) | (go_at_call 77; (refine calls_of_ret (pan_any _ _ _ _ _ _ _ _ _ _ ?_ ?_ ?_ ?_ ?_ ?_ ?_ ?_ ?_ ?_ ?_ ?_ ?_ ?_ ?_ ?_ ?_) <;> omega)))))
        refine wpQuiet_nil ?_
        intro wx hx
        go_wp2
        go_ret
        exact Ret.mk (congrArg Value.bool F2.out.symm) (by (repeat' (first | with_reducible exact Chg.refl _ _ | with_reducible assumption | with_reducible apply Chg.drewN | with_reducible apply Chg.drew | with_reducible apply Chg.alloc | (with_reducible refine Chg.setCell ?_ (Or.inr ?_) _) | (with_reducible refine Chg.trans ?_ (by assumption)) | (simp; done) | (simp; omega))))
    · rw [Bool.not_eq_true] at f2
      have F2 := hide (F.out (.inr (.inl f2)))
      clear F
      go_enter Try.func52, Try.ntmps52
      go_wp2
      refine wp_region_ext (by kernel_rfl) (by kernel_rfl) ?_
      repeat (first | go_big_quiet_step ((first | (go_at_call 76; exact calls_of_ret (fits_any _ _ _ _ (by assumption) (by assumption))) | (go_at_call 77; (refine calls_of_ret (pan_any _ _ _ _ _ _ _ _ _ _ ?_ ?_ ?_ ?_ ?_ ?_ ?_ ?_ ?_ ?_ ?_ ?_ ?_ ?_ ?_ ?_ ?_) <;> omega)))) | quiet_step ((first | (go_at_call 76; exact calls_of_ret (fits_any _ _ _ _ (by assumption) (by assumption))) | (go_at_call 77; (refine calls_of_ret (pan_any _ _ _ _ _ _ _ _ _ _ ?_ ?_ ?_ ?_ ?_ ?_ ?_ ?_ ?_ ?_ ?_ ?_ ?_ ?_ ?_ ?_ ?_) <;> omega)))))
      refine wpQuiet_nil ?_
      intro wx hx
      go_wp2
      go_ret
      exact Ret.mk (congrArg Value.bool F2.out.symm) (by (repeat' (first | with_reducible exact Chg.refl _ _ | with_reducible assumption | with_reducible apply Chg.drewN | with_reducible apply Chg.drew | with_reducible apply Chg.alloc | (with_reducible refine Chg.setCell ?_ (Or.inr ?_) _) | (with_reducible refine Chg.trans ?_ (by assumption)) | (simp; done) | (simp; omega))))
  · rw [Bool.not_eq_true] at f1
    have F2 := hide (F.out (.inl f1))
    clear F
    go_enter Try.func52, Try.ntmps52
    go_wp2
    refine wp_region_ext (by kernel_rfl) (by kernel_rfl) ?_
    repeat (first | go_big_quiet_step ((first | (go_at_call 76; exact calls_of_ret (fits_any _ _ _ _ (by assumption) (by assumption))) | (go_at_call 77; (refine calls_of_ret (pan_any _ _ _ _ _ _ _ _ _ _ ?_ ?_ ?_ ?_ ?_ ?_ ?_ ?_ ?_ ?_ ?_ ?_ ?_ ?_ ?_ ?_ ?_) <;> omega)))) | quiet_step ((first | (go_at_call 76; exact calls_of_ret (fits_any _ _ _ _ (by assumption) (by assumption))) | (go_at_call 77; (refine calls_of_ret (pan_any _ _ _ _ _ _ _ _ _ _ ?_ ?_ ?_ ?_ ?_ ?_ ?_ ?_ ?_ ?_ ?_ ?_ ?_ ?_ ?_ ?_ ?_) <;> omega)))))
    refine wpQuiet_nil ?_
    intro wx hx
    go_wp2
    go_ret
    exact Ret.mk (congrArg Value.bool F2.out.symm) (by (repeat' (first | with_reducible exact Chg.refl _ _ | with_reducible assumption | with_reducible apply Chg.drewN | with_reducible apply Chg.drew | with_reducible apply Chg.alloc | (with_reducible refine Chg.setCell ?_ (Or.inr ?_) _) | (with_reducible refine Chg.trans ?_ (by assumption)) | (simp; done) | (simp; omega))))
end Go.Proofs.Ytohdjlgghkcaoaa
