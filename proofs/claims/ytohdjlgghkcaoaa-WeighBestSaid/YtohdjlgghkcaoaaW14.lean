/- Walks: Bound, and the copies between the program's types and the reference's. -/
import Derived.Test.YtohdjlgghkcaoaaW13
namespace Go.Proofs.Ytohdjlgghkcaoaa
open Go.RowKit

theorem bound_eq {k : W.K} (hk : okK k) {j : Nat} (h1 : ¬ pw j < k.poss) (h2 : ∀ i, i < j → pw i < k.poss) : W.bound k = j := by
  obtain ⟨b1, b2, b3⟩ := W.bound_lt4 (k := k) hk.1
  rcases Nat.lt_trichotomy (W.bound k) j with h | h | h
  · have := h2 _ h; unfold pw at this; omega
  · exact h
  · have := b3 _ h; exact absurd this h1

set_option maxRecDepth 100000 in
set_option maxHeartbeats 1000000 in
theorem Bound_yes (k : W.K) (hk : okK k) (w : World) :
    Calls Try.prog 25 #[.agg #[.int .i64 (k.b : Int), .int .i64 (k.h : Int), .int .i64 (k.l : Int), .int .i64 (k.g : Int), .bool k.n]] w (Ret (.tuple #[.int .i64 (W.bound k : Int), .int .i64 0]) w) := by
  have hv := hk.vld
  have hP := fun w1 => poss_K k hk.small w1
  have HP := hide hP
  have HK := hide hk
  have hp28 : k.poss ≤ 27 := by
    have h1 := hk.1
    unfold W.K.poss
    split <;> omega
  clear hk hP
  go_enter Try.func25, Try.ntmps25
  go_wp2_with (go_at_call 50; refine (valid_any _ _ _ _ _ _).mono ?_; rintro e w1 ⟨rfl, hw1⟩)
  have bk := (Box.new w #[.int .i64 (k.b : Int), .int .i64 (k.h : Int), .int .i64 (k.l : Int), .int .i64 (k.g : Int), .bool k.n] 27).keep hw1 (by simp)
  have cw : Hid (Chg [] w w1) := hide (((Chg.refl _ _).alloc _).trans hw1)
  have BK := hide bk
  clear bk hw1
  generalize w.heap.size = A at BK ⊢
  go_loopw [4, 5] (fun n r wr => ∃ j : Nat, j ≤ 3 ∧ n = .int .i64 (j : Int) ∧ r = .int .i64 (pw j : Int) ∧ Hid ((∀ i, i < j → pw i < k.poss) ∧ Chg [] w1 wr)) (fun n _ _ => 3 - (intOf n).toNat)
  case atStart => exact ⟨0, by omega, rfl, rfl, hide ⟨fun i h => by omega, Chg.refl _ _⟩⟩
  case round =>
    obtain ⟨j, hj, rfl, rfl, hI⟩ := hrel
    have bk := BK.out.keep hI.out.2 (by simp)
    have f2 := fun o => bk.cell o
    have hp6 : pw j ≤ 729 := pow6 (by omega)
    by_cases hlt : pw j < k.poss
    · have d1 : decide ((pw j : Int) < (k.poss : Int)) = true := by simpa using hlt
      have hj3 : Hid (j < 3) := hide (by
        rcases Nat.lt_or_ge j 3 with h | h
        · exact h
        · obtain rfl : j = 3 := by omega
          have : pw 3 = 27 := rfl
          omega)
      go_wp2_with (go_at_call 56; refine (HP.out _).mono ?_; rintro e w2 ⟨rfl, hw2⟩)
      go_roundw
      case rel => exact ⟨j + 1, by have := hj3.out; omega, by go_num, by rw [pw_succ]; go_num, hide ⟨fun i h => by
        rcases (show i < j ∨ i = j by omega) with h | rfl
        · exact hI.out.1 i h
        · exact hlt, hI.out.2.trans hw2⟩⟩
      case measure => have := hj3.out; simp [intOf]; omega
    · have d1 : decide ((pw j : Int) < (k.poss : Int)) = false := by simpa using hlt
      have E : Hid (W.bound k = j) := hide (bound_eq HK.out hlt hI.out.1)
      go_wp2_with (go_at_call 56; refine (HP.out _).mono ?_; rintro e w2 ⟨rfl, hw2⟩)
      go_ret2
      exact ⟨by rw [E.out]; rfl, (cw.out.trans hI.out.2).trans hw2⟩

set_option maxRecDepth 100000 in
set_option maxHeartbeats 1000000 in
theorem Bound_no (b h l g : Int) (n : Bool) (hv : W.vld b h l g n = false) (w : World) :
    Calls Try.prog 25 #[.agg #[.int .i64 b, .int .i64 h, .int .i64 l, .int .i64 g, .bool n]] w (Ret (.tuple #[.int .i64 0, .int .i64 2]) w) := by
  go_enter Try.func25, Try.ntmps25
  go_wp2_with (go_at_call 50; refine (valid_any _ _ _ _ _ _).mono ?_; rintro e w1 ⟨rfl, hw1⟩)
  go_ret2
  exact ⟨rfl, by (repeat' (first | with_reducible exact Chg.refl _ _ | with_reducible assumption | with_reducible apply Chg.drewN | with_reducible apply Chg.drew | with_reducible apply Chg.alloc | (with_reducible refine Chg.setCell ?_ (Or.inr ?_) _) | (with_reducible refine Chg.trans ?_ (by assumption)) | (simp; done) | (simp; omega)))⟩

set_option maxRecDepth 100000 in
set_option maxHeartbeats 1000000 in
theorem Of_any (b h l g : Int) (n : Bool) (w : World) : Calls Try.prog 19 #[.agg #[.int .i64 b, .int .i64 h, .int .i64 l, .int .i64 g, .bool n]] w (Ret (.agg #[.int .i64 b, .int .i64 h, .int .i64 l, .int .i64 g, .bool n]) w) := by
  go_enter Try.func19, Try.ntmps19
  go_wp2
  refine bodyPost_ret (v := .agg #[.int .i64 b, .int .i64 h, .int .i64 l, .int .i64 g, .bool n]) ?_ rfl (Ret.mk rfl ?_)
  · simp [results, Try.results19, go_sem]
  · (repeat' (first | with_reducible exact Chg.refl _ _ | with_reducible assumption | with_reducible apply Chg.drewN | with_reducible apply Chg.drew | with_reducible apply Chg.alloc | (with_reducible refine Chg.setCell ?_ (Or.inr ?_) _) | (with_reducible refine Chg.trans ?_ (by assumption)) | (simp; done) | (simp; omega)))

set_option maxRecDepth 100000 in
set_option maxHeartbeats 1000000 in
theorem own_any (b h l g : Int) (n : Bool) (w : World) : Calls Try.prog 23 #[.agg #[.int .i64 b, .int .i64 h, .int .i64 l, .int .i64 g, .bool n]] w (Ret (.agg #[.int .i64 b, .int .i64 h, .int .i64 l, .int .i64 g, .bool n]) w) := by
  go_enter Try.func23, Try.ntmps23
  go_wp2
  refine bodyPost_ret (v := .agg #[.int .i64 b, .int .i64 h, .int .i64 l, .int .i64 g, .bool n]) ?_ rfl (Ret.mk rfl ?_)
  · simp [results, Try.results23, go_sem]
  · (repeat' (first | with_reducible exact Chg.refl _ _ | with_reducible assumption | with_reducible apply Chg.drewN | with_reducible apply Chg.drew | with_reducible apply Chg.alloc | (with_reducible refine Chg.setCell ?_ (Or.inr ?_) _) | (with_reducible refine Chg.trans ?_ (by assumption)) | (simp; done) | (simp; omega)))

set_option maxRecDepth 100000 in
set_option maxHeartbeats 1000000 in
theorem load_copy (b0 b1 h0 h1 l0 l1 g0 g1 : Int) (w : World) : Calls Try.prog 20 #[.agg #[.int .i64 b0, .int .i64 b1, .int .i64 h0, .int .i64 h1, .int .i64 l0, .int .i64 l1, .int .i64 g0, .int .i64 g1]] w (Ret (.agg #[.int .i64 b0, .int .i64 b1, .int .i64 h0, .int .i64 h1, .int .i64 l0, .int .i64 l1, .int .i64 g0, .int .i64 g1]) w) := by
  go_enter Try.func20, Try.ntmps20
  go_wp2
  refine bodyPost_ret (v := .agg #[.int .i64 b0, .int .i64 b1, .int .i64 h0, .int .i64 h1, .int .i64 l0, .int .i64 l1, .int .i64 g0, .int .i64 g1]) ?_ rfl (Ret.mk rfl ?_)
  · simp [results, Try.results20, go_sem]
  · (repeat' (first | with_reducible exact Chg.refl _ _ | with_reducible assumption | with_reducible apply Chg.drewN | with_reducible apply Chg.drew | with_reducible apply Chg.alloc | (with_reducible refine Chg.setCell ?_ (Or.inr ?_) _) | (with_reducible refine Chg.trans ?_ (by assumption)) | (simp; done) | (simp; omega)))

set_option maxRecDepth 100000 in
set_option maxHeartbeats 1000000 in
theorem back_any (b0 b1 h0 h1 l0 l1 g0 g1 : Int) (w : World) : Calls Try.prog 30 #[.agg #[.int .i64 b0, .int .i64 b1, .int .i64 h0, .int .i64 h1, .int .i64 l0, .int .i64 l1, .int .i64 g0, .int .i64 g1]] w (Ret (.agg #[.int .i64 b0, .int .i64 b1, .int .i64 h0, .int .i64 h1, .int .i64 l0, .int .i64 l1, .int .i64 g0, .int .i64 g1]) w) := by
  go_enter Try.func30, Try.ntmps30
  go_wp2
  refine bodyPost_ret (v := .agg #[.int .i64 b0, .int .i64 b1, .int .i64 h0, .int .i64 h1, .int .i64 l0, .int .i64 l1, .int .i64 g0, .int .i64 g1]) ?_ rfl (Ret.mk rfl ?_)
  · simp [results, Try.results30, go_sem]
  · (repeat' (first | with_reducible exact Chg.refl _ _ | with_reducible assumption | with_reducible apply Chg.drewN | with_reducible apply Chg.drew | with_reducible apply Chg.alloc | (with_reducible refine Chg.setCell ?_ (Or.inr ?_) _) | (with_reducible refine Chg.trans ?_ (by assumption)) | (simp; done) | (simp; omega)))
end Go.Proofs.Ytohdjlgghkcaoaa
