/- Walks: what fits on the pans; the reference's validity. -/
import Derived.Test.YtohdjlgghkcaoaaW1
namespace Go.Proofs.Ytohdjlgghkcaoaa
open Go.RowKit

set_option maxHeartbeats 400000 in
theorem count_any (x : Int) (w : World) : Calls Try.prog 54 #[.int .i64 x] w (Ret (.bool (W.cnt x)) w) := by
  go_enter Try.func54, Try.ntmps54
  go_wp2
  all_goals
    go_ret
    refine Ret.mk (congrArg Value.bool (W.bool_eq ?_)) (by (repeat' (first | with_reducible exact Chg.refl _ _ | with_reducible assumption | with_reducible apply Chg.drewN | with_reducible apply Chg.drew | with_reducible apply Chg.alloc | (with_reducible refine Chg.setCell ?_ (Or.inr ?_) _) | (with_reducible refine Chg.trans ?_ (by assumption)) | (simp; done) | (simp; omega))))
    simp [W.cnt_iff]; omega

set_option maxHeartbeats 400000 in
theorem sort_any (a b n : Int) (w : World) (hn0 : 0 ≤ n) (hn1 : n ≤ 13) : Calls Try.prog 55 #[.agg #[.int .i64 a, .int .i64 b], .int .i64 n] w (Ret (.bool (W.fitI a b n)) w) := by
  go_enter Try.func55, Try.ntmps55
  go_wp2
  all_goals
    go_ret
    refine Ret.mk (congrArg Value.bool (W.bool_eq ?_)) (by (repeat' (first | with_reducible exact Chg.refl _ _ | with_reducible assumption | with_reducible apply Chg.drewN | with_reducible apply Chg.drew | with_reducible apply Chg.alloc | (with_reducible refine Chg.setCell ?_ (Or.inr ?_) _) | (with_reducible refine Chg.trans ?_ (by assumption)) | (simp; done) | (simp; omega))))
    simp [W.fitI_iff]; omega

set_option maxHeartbeats 400000 in
theorem fits_any (a b n : Int) (w : World) (hn0 : 0 ≤ n) (hn1 : n ≤ 13) : Calls Try.prog 76 #[.agg #[.int .i64 a, .int .i64 b], .int .i64 n] w (Ret (.bool (W.fitI a b n)) w) := by
  have k1 := fun w ts t => @run_min_2 Try.prog w ts t a b
  have k2 := fun w ts t => @run_max_2 Try.prog w ts t a b
  have c1 : ∀ c, c ≤ imin a b ↔ c ≤ a ∧ c ≤ b := fun c => le_imin
  have c2 : ∀ c, imax a b ≤ c ↔ a ≤ c ∧ b ≤ c := fun c => imax_le
  go_enter Try.func76, Try.ntmps76
  go_wp2
  all_goals
    go_ret
    refine Ret.mk (congrArg Value.bool (W.bool_eq ?_)) (by (repeat' (first | with_reducible exact Chg.refl _ _ | with_reducible assumption | with_reducible apply Chg.drewN | with_reducible apply Chg.drew | with_reducible apply Chg.alloc | (with_reducible refine Chg.setCell ?_ (Or.inr ?_) _) | (with_reducible refine Chg.trans ?_ (by assumption)) | (simp; done) | (simp; omega))))
    simp [W.fitI_iff]; omega

set_option maxHeartbeats 400000 in
theorem pan_any (b0 b1 h0 h1 l0 l1 g0 g1 i : Int) (w : World) (hb0 : 0 ≤ b0) (hb1 : b0 ≤ 13) (hh0 : 0 ≤ h0) (hh1 : h0 ≤ 13) (hl0 : 0 ≤ l0) (hl1 : l0 ≤ 13) (hg0 : 0 ≤ g0) (hg1 : g0 ≤ 39)
    (hb2 : 0 ≤ b1) (hb3 : b1 ≤ 13) (hh2 : 0 ≤ h1) (hh3 : h1 ≤ 13) (hl2 : 0 ≤ l1) (hl3 : l1 ≤ 13) (hg2 : 0 ≤ g1) (hg3 : g1 ≤ 39) (hi : i = 0 ∨ i = 1) :
    Calls Try.prog 77 #[.agg #[.int .i64 b0, .int .i64 b1, .int .i64 h0, .int .i64 h1, .int .i64 l0, .int .i64 l1, .int .i64 g0, .int .i64 g1], .int .i64 i] w (Ret (.int .i64 (W.panI b0 b1 h0 h1 l0 l1 g0 g1 i)) w) := by
  rcases hi with rfl | rfl
  all_goals
    go_enter Try.func77, Try.ntmps77
    go_wp2
    go_quiet (fail)
    go_wp2
    go_ret
    exact Ret.mk rfl (by (repeat' (first | with_reducible exact Chg.refl _ _ | with_reducible assumption | with_reducible apply Chg.drewN | with_reducible apply Chg.drew | with_reducible apply Chg.alloc | (with_reducible refine Chg.setCell ?_ (Or.inr ?_) _) | (with_reducible refine Chg.trans ?_ (by assumption)) | (simp; done) | (simp; omega))))

theorem wrap_sum3 {b h l : Int} (hb : W.cnt b = true) (hh : W.cnt h = true) (hl : W.cnt l = true) : wrap64 (wrap64 (b + h) + l) = b + h + l := by
  rw [W.cnt_iff] at *
  rw [IntWalk.wrap64_in (b + h) (by omega), IntWalk.wrap64_in _ (by omega)]

set_option maxHeartbeats 1000000 in
theorem rvalid_any (b h l g : Int) (n : Bool) (w : World) :
    Calls Try.prog 21 #[.agg #[.int .i64 b, .int .i64 h, .int .i64 l, .int .i64 g, .bool n]] w (Ret (.bool (W.vld b h l g n)) w) := by
  go_enter Try.func21, Try.ntmps21
  go_wp2_with (first | (go_at_call 54; refine (count_any _ _).mono ?_; rintro e w1 ⟨rfl, hw1⟩; (first | (replace hw0 := Chg.trans hw0 hw1; clear hw1 hc0 hf0) | (have hw0 := hw1; clear hw1)); obtain ⟨hc0, hf0⟩ := hw0.reads) | (go_at_call 28; refine (rposs_any _ _ _ _ _ _ (W.cnt_lo (by assumption)) (W.cnt_hi (by assumption)) (W.cnt_lo (by assumption)) (W.cnt_hi (by assumption)) (W.cnt_lo (by assumption)) (W.cnt_hi (by assumption))).mono ?_; rintro e w1 ⟨rfl, hw1⟩; (first | (replace hw0 := Chg.trans hw0 hw1; clear hw1 hc0 hf0) | (have hw0 := hw1; clear hw1)); obtain ⟨hc0, hf0⟩ := hw0.reads))
  all_goals
    go_ret
    clear hc0 hf0
    refine Ret.mk (congrArg Value.bool (W.bool_eq ?_)) (by (repeat' (first | with_reducible exact Chg.refl _ _ | with_reducible assumption | with_reducible apply Chg.drewN | with_reducible apply Chg.drew | with_reducible apply Chg.alloc | (with_reducible refine Chg.setCell ?_ (Or.inr ?_) _) | (with_reducible refine Chg.trans ?_ (by assumption)) | (simp; done) | (simp; omega))))
    try simp only [wrap_sum3 ‹W.cnt b = true› ‹W.cnt h = true› ‹W.cnt l = true›] at *
    simp only [W.cnt_iff, W.vld_iff, decide_eq_true_eq, Bool.false_eq_true, false_iff] at *
    omega

set_option maxHeartbeats 2000000 in
theorem risload_any (b h l g b0 b1 h0 h1 l0 l1 g0 g1 : Int) (n : Bool) (w : World) (hb : 0 ≤ b ∧ b ≤ 13) (hh : 0 ≤ h ∧ h ≤ 13) (hl : 0 ≤ l ∧ l ≤ 13) (hg : 0 ≤ g ∧ g ≤ 13) :
    Calls Try.prog 22 #[.agg #[.int .i64 b, .int .i64 h, .int .i64 l, .int .i64 g, .bool n], .agg #[.int .i64 b0, .int .i64 b1, .int .i64 h0, .int .i64 h1, .int .i64 l0, .int .i64 l1, .int .i64 g0, .int .i64 g1]] w (Ret (.bool (W.isLd b h l g b0 b1 h0 h1 l0 l1 g0 g1)) w) := by
  obtain ⟨hb2, hb3⟩ := hb
  obtain ⟨hh2, hh3⟩ := hh
  obtain ⟨hl2, hl3⟩ := hl
  obtain ⟨hg2, hg3⟩ := hg
  have fail : W.fitI b0 b1 b = false ∨ W.fitI h0 h1 h = false ∨ W.fitI l0 l1 l = false ∨ W.fitI g0 g1 g = false → W.isLd b h l g b0 b1 h0 h1 l0 l1 g0 g1 = false := by
    unfold W.isLd
    rintro (e | e | e | e) <;> simp [e]
  have F := hide fail
  clear fail
  by_cases f1 : W.fitI b0 b1 b = true
  · by_cases f2 : W.fitI h0 h1 h = true
    · by_cases f3 : W.fitI l0 l1 l = true
      · by_cases f4 : W.fitI g0 g1 g = true
        · obtain ⟨x1, x2, x3⟩ := W.fitI_iff.1 f1
          obtain ⟨x4, x5, x6⟩ := W.fitI_iff.1 f2
          obtain ⟨x7, x8, x9⟩ := W.fitI_iff.1 f3
          obtain ⟨y1, y2, y3⟩ := W.fitI_iff.1 f4
          clear F
          go_enter Try.func22, Try.ntmps22
          go_wp2_with (go_at_call 55; refine (sort_any _ _ _ _ (by assumption) (by assumption)).mono ?_; rintro e w1 ⟨rfl, hw1⟩; (first | (replace hw0 := Chg.trans hw0 hw1; clear hw1 hc0 hf0) | (have hw0 := hw1; clear hw1)); obtain ⟨hc0, hf0⟩ := hw0.reads)
          all_goals
            go_ret
            clear hc0 hf0
            refine Ret.mk (congrArg Value.bool (W.bool_eq ?_)) (by (repeat' (first | with_reducible exact Chg.refl _ _ | with_reducible assumption | with_reducible apply Chg.drewN | with_reducible apply Chg.drew | with_reducible apply Chg.alloc | (with_reducible refine Chg.setCell ?_ (Or.inr ?_) _) | (with_reducible refine Chg.trans ?_ (by assumption)) | (simp; done) | (simp; omega))))
            rw [W.isLd_iff]; simp; omega
        · rw [Bool.not_eq_true] at f4
          have F2 := hide (F.out (.inr (.inr (.inr f4))))
          clear F
          go_enter Try.func22, Try.ntmps22
          go_wp2_with (go_at_call 55; refine (sort_any _ _ _ _ (by assumption) (by assumption)).mono ?_; rintro e w1 ⟨rfl, hw1⟩; (first | (replace hw0 := Chg.trans hw0 hw1; clear hw1 hc0 hf0) | (have hw0 := hw1; clear hw1)); obtain ⟨hc0, hf0⟩ := hw0.reads)
          go_ret
          exact Ret.mk (congrArg Value.bool F2.out.symm) (by (repeat' (first | with_reducible exact Chg.refl _ _ | with_reducible assumption | with_reducible apply Chg.drewN | with_reducible apply Chg.drew | with_reducible apply Chg.alloc | (with_reducible refine Chg.setCell ?_ (Or.inr ?_) _) | (with_reducible refine Chg.trans ?_ (by assumption)) | (simp; done) | (simp; omega))))
      · rw [Bool.not_eq_true] at f3
        have F2 := hide (F.out (.inr (.inr (.inl f3))))
        clear F
        go_enter Try.func22, Try.ntmps22
        go_wp2_with (go_at_call 55; refine (sort_any _ _ _ _ (by assumption) (by assumption)).mono ?_; rintro e w1 ⟨rfl, hw1⟩; (first | (replace hw0 := Chg.trans hw0 hw1; clear hw1 hc0 hf0) | (have hw0 := hw1; clear hw1)); obtain ⟨hc0, hf0⟩ := hw0.reads)
        go_ret
        exact Ret.mk (congrArg Value.bool F2.out.symm) (by (repeat' (first | with_reducible exact Chg.refl _ _ | with_reducible assumption | with_reducible apply Chg.drewN | with_reducible apply Chg.drew | with_reducible apply Chg.alloc | (with_reducible refine Chg.setCell ?_ (Or.inr ?_) _) | (with_reducible refine Chg.trans ?_ (by assumption)) | (simp; done) | (simp; omega))))
    · rw [Bool.not_eq_true] at f2
      have F2 := hide (F.out (.inr (.inl f2)))
      clear F
      go_enter Try.func22, Try.ntmps22
      go_wp2_with (go_at_call 55; refine (sort_any _ _ _ _ (by assumption) (by assumption)).mono ?_; rintro e w1 ⟨rfl, hw1⟩; (first | (replace hw0 := Chg.trans hw0 hw1; clear hw1 hc0 hf0) | (have hw0 := hw1; clear hw1)); obtain ⟨hc0, hf0⟩ := hw0.reads)
      go_ret
      exact Ret.mk (congrArg Value.bool F2.out.symm) (by (repeat' (first | with_reducible exact Chg.refl _ _ | with_reducible assumption | with_reducible apply Chg.drewN | with_reducible apply Chg.drew | with_reducible apply Chg.alloc | (with_reducible refine Chg.setCell ?_ (Or.inr ?_) _) | (with_reducible refine Chg.trans ?_ (by assumption)) | (simp; done) | (simp; omega))))
  · rw [Bool.not_eq_true] at f1
    have F2 := hide (F.out (.inl f1))
    clear F
    go_enter Try.func22, Try.ntmps22
    go_wp2_with (go_at_call 55; refine (sort_any _ _ _ _ (by assumption) (by assumption)).mono ?_; rintro e w1 ⟨rfl, hw1⟩; (first | (replace hw0 := Chg.trans hw0 hw1; clear hw1 hc0 hf0) | (have hw0 := hw1; clear hw1)); obtain ⟨hc0, hf0⟩ := hw0.reads)
    go_ret
    exact Ret.mk (congrArg Value.bool F2.out.symm) (by (repeat' (first | with_reducible exact Chg.refl _ _ | with_reducible assumption | with_reducible apply Chg.drewN | with_reducible apply Chg.drew | with_reducible apply Chg.alloc | (with_reducible refine Chg.setCell ?_ (Or.inr ?_) _) | (with_reducible refine Chg.trans ?_ (by assumption)) | (simp; done) | (simp; omega))))
end Go.Proofs.Ytohdjlgghkcaoaa
