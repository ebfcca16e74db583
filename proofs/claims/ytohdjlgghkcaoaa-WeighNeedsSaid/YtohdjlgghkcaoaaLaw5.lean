/- Walk: the statement WeighNeeds. -/
import Derived.Test.YtohdjlgghkcaoaaNd5
import Derived.Test.YtohdjlgghkcaoaaLaw6
import Derived.Test.YtohdjlgghkcaoaaOpen
namespace Go.Proofs.Ytohdjlgghkcaoaa
open Go.RowKit

/-- What the four say of any numbers. -/
theorem needs_facts (b h l g : Int) (n : Bool) :
    (W.vld b h l g n = false ∧ (∀ w, Calls Try.prog 16 #[.agg #[.int .i64 b, .int .i64 h, .int .i64 l, .int .i64 g, .bool n]] w (Ret (.tuple #[.int .i64 0, .int .i64 2]) w)) ∧ (∀ w, Calls Try.prog 25 #[.agg #[.int .i64 b, .int .i64 h, .int .i64 l, .int .i64 g, .bool n]] w (Ret (.tuple #[.int .i64 0, .int .i64 2]) w))) ∨
    (W.vld b h l g n = true ∧ ∃ x e m : Int, (∀ w, Calls Try.prog 16 #[.agg #[.int .i64 b, .int .i64 h, .int .i64 l, .int .i64 g, .bool n]] w (Ret (.tuple #[.int .i64 x, .int .i64 e]) w)) ∧ (∀ w, Calls Try.prog 25 #[.agg #[.int .i64 b, .int .i64 h, .int .i64 l, .int .i64 g, .bool n]] w (Ret (.tuple #[.int .i64 m, .int .i64 0]) w)) ∧
      (∀ w, Calls Try.prog 26 #[.agg #[.int .i64 b, .int .i64 h, .int .i64 l, .int .i64 g, .bool n]] w (Ret (.tuple #[.int .i64 x, .int .i64 e]) w)) ∧ (∀ w, Calls Try.prog 27 #[.agg #[.int .i64 b, .int .i64 h, .int .i64 l, .int .i64 g, .bool n]] w (Ret (.int .i64 m) w))) := by
  cases hv : W.vld b h l g n with
  | false => exact .inl ⟨rfl, fun w => Need_no b h l g n hv w, fun w => Bound_no b h l g n hv w⟩
  | true =>
    obtain ⟨k, hk, rfl, rfl, rfl, rfl, rfl⟩ := vld_K hv
    have hN := fun w => Need_yes k hk w
    have hR := fun w => RNeed_K k hk w
    cases hn : W.need 6 k with
    | none => rw [hn] at hN; rw [needV_none hn] at hR; exact .inr ⟨rfl, 0, 4, _, hN, fun w => Bound_yes k hk w, hR, fun w => RBound_K k hk w⟩
    | some x => rw [hn] at hN; rw [needV_some hn] at hR; exact .inr ⟨rfl, x, 0, _, hN, fun w => Bound_yes k hk w, hR, fun w => RBound_K k hk w⟩

set_option maxRecDepth 100000 in
set_option maxHeartbeats 2000000 in
theorem walk_needs (b h l g : Int) (n : Bool) (w : World) : Calls Try.prog 5 #[.agg #[.int .i64 b, .int .i64 h, .int .i64 l, .int .i64 g, .bool n]] w (Ret (.bool true) w) := by
  have HV := hide fun w => rvalid_any b h l g n w
  rcases needs_facts b h l g n with ⟨hv, h1, h2⟩ | ⟨hv, x, e, m, h1, h2, h3, h4⟩
  · rw [hv] at HV
    have H1 := hide h1
    have H2 := hide h2
    clear h1 h2 hv
    go_enter Try.func5, Try.ntmps5
    go_wp2_with fail
    refine (Of_any _ _ _ _ _ _).mono ?_
    rintro e w1 ⟨rfl, hw1⟩; (first | (replace hw0 := Chg.trans hw0 hw1; clear hw1 hc0 hf0 hz0) | (have hw0 := hw1; clear hw1)); obtain ⟨hc0, hf0⟩ := hw0.reads; have hzz := hw0.size; simp at hzz; have hz0 : w.heap.size < w1.heap.size := (by omega); clear hzz
    go_wp2_with fail
    refine (H1.out _).mono ?_
    rintro e w1 ⟨rfl, hw1⟩; (first | (replace hw0 := Chg.trans hw0 hw1; clear hw1 hc0 hf0 hz0) | (have hw0 := hw1; clear hw1)); obtain ⟨hc0, hf0⟩ := hw0.reads; have hzz := hw0.size; simp at hzz; have hz0 : w.heap.size < w1.heap.size := (by omega); clear hzz
    go_wp2_with fail
    refine (Of_any _ _ _ _ _ _).mono ?_
    rintro e w1 ⟨rfl, hw1⟩; (first | (replace hw0 := Chg.trans hw0 hw1; clear hw1 hc0 hf0 hz0) | (have hw0 := hw1; clear hw1)); obtain ⟨hc0, hf0⟩ := hw0.reads; have hzz := hw0.size; simp at hzz; have hz0 : w.heap.size < w1.heap.size := (by omega); clear hzz
    go_wp2_with fail
    refine (H2.out _).mono ?_
    rintro e w1 ⟨rfl, hw1⟩; (first | (replace hw0 := Chg.trans hw0 hw1; clear hw1 hc0 hf0 hz0) | (have hw0 := hw1; clear hw1)); obtain ⟨hc0, hf0⟩ := hw0.reads; have hzz := hw0.size; simp at hzz; have hz0 : w.heap.size < w1.heap.size := (by omega); clear hzz
    go_wp2_with fail
    refine (HV.out _).mono ?_
    rintro e w1 ⟨rfl, hw1⟩; (first | (replace hw0 := Chg.trans hw0 hw1; clear hw1 hc0 hf0 hz0) | (have hw0 := hw1; clear hw1)); obtain ⟨hc0, hf0⟩ := hw0.reads; have hzz := hw0.size; simp at hzz; have hz0 : w.heap.size < w1.heap.size := (by omega); clear hzz
    go_wp2_with fail
    refine (awake_any _).mono ?_
    rintro e w4 ⟨rfl, hw4⟩
    go_wp2
    go_ret
    exact ⟨rfl, by clear hc0 hf0; (repeat' (first | with_reducible exact Chg.refl _ _ | with_reducible assumption | with_reducible apply Chg.drewN | with_reducible apply Chg.drew | with_reducible apply Chg.alloc | (with_reducible refine Chg.setCell ?_ (Or.inr ?_) _) | (with_reducible refine Chg.trans ?_ (by assumption)) | (simp; done) | (simp; omega)))⟩
  · rw [hv] at HV
    have H1 := hide h1
    have H2 := hide h2
    have H3 := hide h3
    have H4 := hide h4
    have dx : (x == x) = true := by simp
    have de : (e == e) = true := by simp
    have dm : (m == m) = true := by simp
    clear h1 h2 h3 h4 hv
    go_enter Try.func5, Try.ntmps5
    go_wp2_with fail
    refine (Of_any _ _ _ _ _ _).mono ?_
    rintro e w1 ⟨rfl, hw1⟩; (first | (replace hw0 := Chg.trans hw0 hw1; clear hw1 hc0 hf0 hz0) | (have hw0 := hw1; clear hw1)); obtain ⟨hc0, hf0⟩ := hw0.reads; have hzz := hw0.size; simp at hzz; have hz0 : w.heap.size < w1.heap.size := (by omega); clear hzz
    go_wp2_with fail
    refine (H1.out _).mono ?_
    rintro e w1 ⟨rfl, hw1⟩; (first | (replace hw0 := Chg.trans hw0 hw1; clear hw1 hc0 hf0 hz0) | (have hw0 := hw1; clear hw1)); obtain ⟨hc0, hf0⟩ := hw0.reads; have hzz := hw0.size; simp at hzz; have hz0 : w.heap.size < w1.heap.size := (by omega); clear hzz
    go_wp2_with fail
    refine (Of_any _ _ _ _ _ _).mono ?_
    rintro e w1 ⟨rfl, hw1⟩; (first | (replace hw0 := Chg.trans hw0 hw1; clear hw1 hc0 hf0 hz0) | (have hw0 := hw1; clear hw1)); obtain ⟨hc0, hf0⟩ := hw0.reads; have hzz := hw0.size; simp at hzz; have hz0 : w.heap.size < w1.heap.size := (by omega); clear hzz
    go_wp2_with fail
    refine (H2.out _).mono ?_
    rintro e w1 ⟨rfl, hw1⟩; (first | (replace hw0 := Chg.trans hw0 hw1; clear hw1 hc0 hf0 hz0) | (have hw0 := hw1; clear hw1)); obtain ⟨hc0, hf0⟩ := hw0.reads; have hzz := hw0.size; simp at hzz; have hz0 : w.heap.size < w1.heap.size := (by omega); clear hzz
    go_wp2_with fail
    refine (HV.out _).mono ?_
    rintro e w1 ⟨rfl, hw1⟩; (first | (replace hw0 := Chg.trans hw0 hw1; clear hw1 hc0 hf0 hz0) | (have hw0 := hw1; clear hw1)); obtain ⟨hc0, hf0⟩ := hw0.reads; have hzz := hw0.size; simp at hzz; have hz0 : w.heap.size < w1.heap.size := (by omega); clear hzz
    go_wp2_with fail
    refine (H3.out _).mono ?_
    rintro e w1 ⟨rfl, hw1⟩; (first | (replace hw0 := Chg.trans hw0 hw1; clear hw1 hc0 hf0 hz0) | (have hw0 := hw1; clear hw1)); obtain ⟨hc0, hf0⟩ := hw0.reads; have hzz := hw0.size; simp at hzz; have hz0 : w.heap.size < w1.heap.size := (by omega); clear hzz
    go_wp2_with fail
    refine (H4.out _).mono ?_
    rintro e w1 ⟨rfl, hw1⟩; (first | (replace hw0 := Chg.trans hw0 hw1; clear hw1 hc0 hf0 hz0) | (have hw0 := hw1; clear hw1)); obtain ⟨hc0, hf0⟩ := hw0.reads; have hzz := hw0.size; simp at hzz; have hz0 : w.heap.size < w1.heap.size := (by omega); clear hzz
    go_wp2_with fail
    refine (awake_any _).mono ?_
    rintro e w4 ⟨rfl, hw4⟩
    go_wp2
    go_ret
    exact ⟨rfl, by clear hc0 hf0; (repeat' (first | with_reducible exact Chg.refl _ _ | with_reducible assumption | with_reducible apply Chg.drewN | with_reducible apply Chg.drew | with_reducible apply Chg.alloc | (with_reducible refine Chg.setCell ?_ (Or.inr ?_) _) | (with_reducible refine Chg.trans ?_ (by assumption)) | (simp; done) | (simp; omega)))⟩

theorem weighNeeds_walk (v0 : Value) (w : World) (h0 : IsKnown v0) : Calls Try.prog 5 #[v0] w (Ret (.bool true) w) := by
  obtain ⟨b, h, l, g, n, rfl, _⟩ := h0
  exact walk_needs b h l g n w
end Go.Proofs.Ytohdjlgghkcaoaa
