/- Walk: the statement WeighAfter. -/
import Derived.Test.YtohdjlgghkcaoaaLaw6
import Derived.Deep.RegionHeld3
import Derived.Laws.StructEq
import Derived.Test.YtohdjlgghkcaoaaW15
namespace Go.Proofs.Ytohdjlgghkcaoaa
open Go.RowKit

theorem Box.set5 {w : World} {A : Nat} {v0 v1 v2 v3 v4 : Value} {T : TypeId} (h : Box w A #[v0, v1, v2, v3, v4] T) (u0 u1 u2 u3 u4 : Value) :
    Box (((((w.setCell ⟨A, 0, none⟩ u0).setCell ⟨A, 1, none⟩ u1).setCell ⟨A, 2, none⟩ u2).setCell ⟨A, 3, none⟩ u3).setCell ⟨A, 4, none⟩ u4) A #[u0, u1, u2, u3, u4] T := by
  have := ((((h.set 0 u0).set 1 u1).set 2 u2).set 3 u3).set 4 u4
  simpa using this
theorem Box.drew {w : World} {A : Nat} {cs : Array Value} {T : TypeId} (h : Box w A cs T) : Box w.drew A cs T := h
/-- The law goes on from a world of which only this is told. -/
theorem step5 {Q : World → Prop} {W0 X : World} {u0 u1 u2 u3 u4 : Value} {T : TypeId} (q : Nat) (_ : W0.heap.size ≤ q) (hC : Chg [] W0 X) (hB : Box X q #[u0, u1, u2, u3, u4] T)
    (h : ∀ Y, Hid (Chg [] W0 Y) → Hid (Box Y q #[u0, u1, u2, u3, u4] T) → q < Y.heap.size → Q Y) : Q X := h X hC hB hB.lt

set_option maxRecDepth 100000 in
set_option maxHeartbeats 400000 in
theorem walk_after_no (b h l g b0 b1 h0 h1 l0 l1 g0 g1 r : Int) (n : Bool) (w : World) (hno : W.vld b h l g n = false ∨ (W.vld b h l g n = true ∧ (W.isLd b h l g b0 b1 h0 h1 l0 l1 g0 g1 = false ∨ r < -1 ∨ 1 < r))) :
    Calls Try.prog 4 #[.agg #[.int .i64 b, .int .i64 h, .int .i64 l, .int .i64 g, .bool n], .agg #[.int .i64 b0, .int .i64 b1, .int .i64 h0, .int .i64 h1, .int .i64 l0, .int .i64 l1, .int .i64 g0, .int .i64 g1], .int .i64 r] w (Ret (.bool true) w) := by
  have hA := fun w => After_no b h l g b0 b1 h0 h1 l0 l1 g0 g1 r n w hno
  have HA := hide hA
  have HNo := hide hno
  clear hA hno
  go_enter Try.func4, Try.ntmps4
  go_wp2
  have c0 : Chg [] w ((w.alloc (.cells #[.int .i64 b, .int .i64 h, .int .i64 l, .int .i64 g, .bool n] 30)).alloc (.cells #[.int .i64 b0, .int .i64 b1, .int .i64 h0, .int .i64 h1, .int .i64 l0, .int .i64 l1, .int .i64 g0, .int .i64 g1] 33)) := by (repeat' (first | with_reducible exact Chg.refl _ _ | with_reducible assumption | with_reducible apply Chg.drewN | with_reducible apply Chg.drew | with_reducible apply Chg.alloc | (with_reducible refine Chg.setCell ?_ (Or.inr ?_) _) | (with_reducible refine Chg.trans ?_ (by assumption)) | (simp; done) | (simp; omega)))
  have x0 := (Box.new w #[.int .i64 b, .int .i64 h, .int .i64 l, .int .i64 g, .bool n] 30).old (.cells #[.int .i64 b0, .int .i64 b1, .int .i64 h0, .int .i64 h1, .int .i64 l0, .int .i64 l1, .int .i64 g0, .int .i64 g1] 33)
  have x1 := Box.at (w.alloc (.cells #[.int .i64 b, .int .i64 h, .int .i64 l, .int .i64 g, .bool n] 30)) #[.int .i64 b0, .int .i64 b1, .int .i64 h0, .int .i64 h1, .int .i64 l0, .int .i64 l1, .int .i64 g0, .int .i64 g1] 33 (n := w.heap.size + 1) (by simp)
  generalize ((w.alloc (.cells #[.int .i64 b, .int .i64 h, .int .i64 l, .int .i64 g, .bool n] 30)).alloc (.cells #[.int .i64 b0, .int .i64 b1, .int .i64 h0, .int .i64 h1, .int .i64 l0, .int .i64 l1, .int .i64 g0, .int .i64 g1] 33)) = W0 at c0 x0 x1 ⊢
  have C0 := hide c0
  generalize w.heap.size = A0 at x0 x1 ⊢
  have keep : ∀ X, Chg [] W0 X → (X.cell? ⟨A0, 0, none⟩ = some (.int .i64 b) ∧ X.cell? ⟨A0, 1, none⟩ = some (.int .i64 h) ∧ X.cell? ⟨A0, 2, none⟩ = some (.int .i64 l) ∧ X.cell? ⟨A0, 3, none⟩ = some (.int .i64 g) ∧ X.cell? ⟨A0, 4, none⟩ = some (.bool n) ∧
      X.cell? ⟨A0 + 1, 0, none⟩ = some (.int .i64 b0) ∧ X.cell? ⟨A0 + 1, 1, none⟩ = some (.int .i64 b1) ∧ X.cell? ⟨A0 + 1, 2, none⟩ = some (.int .i64 h0) ∧ X.cell? ⟨A0 + 1, 3, none⟩ = some (.int .i64 h1) ∧ X.cell? ⟨A0 + 1, 4, none⟩ = some (.int .i64 l0) ∧ X.cell? ⟨A0 + 1, 5, none⟩ = some (.int .i64 l1) ∧ X.cell? ⟨A0 + 1, 6, none⟩ = some (.int .i64 g0) ∧ X.cell? ⟨A0 + 1, 7, none⟩ = some (.int .i64 g1)) := fun X hX => by
    have y0 := x0.keep hX (by simp)
    have y1 := x1.keep hX (by simp)
    exact ⟨y0.cell 0, y0.cell 1, y0.cell 2, y0.cell 3, y0.cell 4, y1.cell 0, y1.cell 1, y1.cell 2, y1.cell 3, y1.cell 4, y1.cell 5, y1.cell 6, y1.cell 7⟩
  have HK := hide keep
  have lA := x1.lt
  have X0 := hide x0
  have X1 := hide x1
  clear c0 x0 x1 keep
  go_region_held3 (fun X => X.cell? ⟨A0, 0, none⟩ = some (.int .i64 b) ∧ X.cell? ⟨A0, 1, none⟩ = some (.int .i64 h) ∧ X.cell? ⟨A0, 2, none⟩ = some (.int .i64 l) ∧ X.cell? ⟨A0, 3, none⟩ = some (.int .i64 g) ∧ X.cell? ⟨A0, 4, none⟩ = some (.bool n) ∧
      X.cell? ⟨A0 + 1, 0, none⟩ = some (.int .i64 b0) ∧ X.cell? ⟨A0 + 1, 1, none⟩ = some (.int .i64 b1) ∧ X.cell? ⟨A0 + 1, 2, none⟩ = some (.int .i64 h0) ∧ X.cell? ⟨A0 + 1, 3, none⟩ = some (.int .i64 h1) ∧ X.cell? ⟨A0 + 1, 4, none⟩ = some (.int .i64 l0) ∧ X.cell? ⟨A0 + 1, 5, none⟩ = some (.int .i64 l1) ∧ X.cell? ⟨A0 + 1, 6, none⟩ = some (.int .i64 g0) ∧ X.cell? ⟨A0 + 1, 7, none⟩ = some (.int .i64 g1))
    (first | (refine HK.out _ ?_; (repeat' (first | with_reducible exact Chg.refl _ _ | with_reducible assumption | with_reducible apply Chg.drewN | with_reducible apply Chg.drew | with_reducible apply Chg.alloc | (with_reducible refine Chg.setCell ?_ (Or.inr ?_) _) | (with_reducible refine Chg.trans ?_ (by assumption)) | (simp; done) | (simp; omega)))))
    ((first | (go_at_call 19; refine (Of_any _ _ _ _ _ _).mono ?_; rintro e w1 ⟨rfl, hw1⟩; have hz1 := hw1.size; (try simp at hz1); obtain ⟨hc1, hf1⟩ := hw1.reads; (try have hy1 : W0.heap.size < w1.heap.size := (by omega))) | (go_at_call 20; refine (load_copy _ _ _ _ _ _ _ _ _).mono ?_; rintro e w2 ⟨rfl, hw2⟩; have hz2 := hw2.size; (try simp at hz2); obtain ⟨hc2, hf2⟩ := hw2.reads; (try have hy2 : W0.heap.size < w2.heap.size := (by omega)); (try have hy3 : w1.heap.size < w2.heap.size := (by omega))) | (go_at_call 18; refine (HA.out _).mono ?_; rw [errK, vKI]; rintro e w3 ⟨rfl, hw3⟩; have hz3 := hw3.size; (try simp at hz3); obtain ⟨hc3, hf3⟩ := hw3.reads; (try have hy4 : W0.heap.size < w3.heap.size := (by omega)); (try have hy5 : w1.heap.size < w3.heap.size := (by omega)); (try have hy6 : w2.heap.size < w3.heap.size := (by omega)))))
  go_goals
  all_goals clear hc1 hf1 hc2 hf2 hc3 hf3
  all_goals first | (refine step5 (W0 := W0) (q := W0.heap.size) (u0 := .int .i64 0) (u1 := .int .i64 0) (u2 := .int .i64 0) (u3 := .int .i64 0) (u4 := .bool false) (T := 27) (by omega) ?_ ?_ ?_; (focus ((repeat' (first | with_reducible exact Chg.refl _ _ | with_reducible assumption | with_reducible apply Chg.drewN | with_reducible apply Chg.drew | with_reducible apply Chg.alloc | (with_reducible refine Chg.setCell ?_ (Or.inr ?_) _) | (with_reducible refine Chg.trans ?_ (by assumption)) | (simp; done) | (simp; omega))); done)); (focus (with_reducible refine Box.set5 (v0 := .int .i64 0) (v1 := .int .i64 0) (v2 := .int .i64 0) (v3 := .int .i64 0) (v4 := .bool false) ?_ _ _ _ _ _; (repeat (first | (with_reducible refine Box.keep (S := []) ?_ hw3 List.not_mem_nil) | (with_reducible refine Box.keep (S := []) ?_ hw2 List.not_mem_nil) | (with_reducible refine Box.keep (S := []) ?_ hw1 List.not_mem_nil))); first | (with_reducible exact Box.new _ _ _) | (with_reducible refine Box.drew ?_; with_reducible exact Box.new _ _ _) | (with_reducible refine Box.drew ?_; with_reducible refine Box.keep (S := []) ?_ hw1 List.not_mem_nil; with_reducible exact Box.new _ _ _) | (with_reducible refine Box.drew ?_; with_reducible refine Box.keep (S := []) ?_ hw2 List.not_mem_nil; with_reducible exact Box.new _ _ _); done))) | (refine step5 (W0 := W0) (q := w1.heap.size) (u0 := .int .i64 0) (u1 := .int .i64 0) (u2 := .int .i64 0) (u3 := .int .i64 0) (u4 := .bool false) (T := 27) (by omega) ?_ ?_ ?_; (focus ((repeat' (first | with_reducible exact Chg.refl _ _ | with_reducible assumption | with_reducible apply Chg.drewN | with_reducible apply Chg.drew | with_reducible apply Chg.alloc | (with_reducible refine Chg.setCell ?_ (Or.inr ?_) _) | (with_reducible refine Chg.trans ?_ (by assumption)) | (simp; done) | (simp; omega))); done)); (focus (with_reducible refine Box.set5 (v0 := .int .i64 0) (v1 := .int .i64 0) (v2 := .int .i64 0) (v3 := .int .i64 0) (v4 := .bool false) ?_ _ _ _ _ _; (repeat (first | (with_reducible refine Box.keep (S := []) ?_ hw3 List.not_mem_nil) | (with_reducible refine Box.keep (S := []) ?_ hw2 List.not_mem_nil) | (with_reducible refine Box.keep (S := []) ?_ hw1 List.not_mem_nil))); first | (with_reducible exact Box.new _ _ _) | (with_reducible refine Box.drew ?_; with_reducible exact Box.new _ _ _) | (with_reducible refine Box.drew ?_; with_reducible refine Box.keep (S := []) ?_ hw1 List.not_mem_nil; with_reducible exact Box.new _ _ _) | (with_reducible refine Box.drew ?_; with_reducible refine Box.keep (S := []) ?_ hw2 List.not_mem_nil; with_reducible exact Box.new _ _ _); done))) | (refine step5 (W0 := W0) (q := w2.heap.size) (u0 := .int .i64 0) (u1 := .int .i64 0) (u2 := .int .i64 0) (u3 := .int .i64 0) (u4 := .bool false) (T := 27) (by omega) ?_ ?_ ?_; (focus ((repeat' (first | with_reducible exact Chg.refl _ _ | with_reducible assumption | with_reducible apply Chg.drewN | with_reducible apply Chg.drew | with_reducible apply Chg.alloc | (with_reducible refine Chg.setCell ?_ (Or.inr ?_) _) | (with_reducible refine Chg.trans ?_ (by assumption)) | (simp; done) | (simp; omega))); done)); (focus (with_reducible refine Box.set5 (v0 := .int .i64 0) (v1 := .int .i64 0) (v2 := .int .i64 0) (v3 := .int .i64 0) (v4 := .bool false) ?_ _ _ _ _ _; (repeat (first | (with_reducible refine Box.keep (S := []) ?_ hw3 List.not_mem_nil) | (with_reducible refine Box.keep (S := []) ?_ hw2 List.not_mem_nil) | (with_reducible refine Box.keep (S := []) ?_ hw1 List.not_mem_nil))); first | (with_reducible exact Box.new _ _ _) | (with_reducible refine Box.drew ?_; with_reducible exact Box.new _ _ _) | (with_reducible refine Box.drew ?_; with_reducible refine Box.keep (S := []) ?_ hw1 List.not_mem_nil; with_reducible exact Box.new _ _ _) | (with_reducible refine Box.drew ?_; with_reducible refine Box.keep (S := []) ?_ hw2 List.not_mem_nil; with_reducible exact Box.new _ _ _); done))) | skip
  all_goals try ((refine step5 (W0 := W0) (q := w3.heap.size) (u0 := .int .i64 0) (u1 := .int .i64 0) (u2 := .int .i64 0) (u3 := .int .i64 0) (u4 := .bool false) (T := 27) (by omega) ?_ ?_ ?_; (focus ((repeat' (first | with_reducible exact Chg.refl _ _ | with_reducible assumption | with_reducible apply Chg.drewN | with_reducible apply Chg.drew | with_reducible apply Chg.alloc | (with_reducible refine Chg.setCell ?_ (Or.inr ?_) _) | (with_reducible refine Chg.trans ?_ (by assumption)) | (simp; done) | (simp; omega))); done)); (focus (with_reducible exact Box.new _ _ _; done))))
  all_goals clear hz1 hz2 hz3 hw1 hw2 hw3
  all_goals (
    intro Y hY hB lB
    have lY := hY.out.size
    have lA1 : A0 < Y.heap.size := by omega
    have lA2 : A0 + 1 < Y.heap.size := by omega
    obtain ⟨y0, y1, y2, y3, y4, y5, y6, y7, y8, y9, y10, y11, y12⟩ := HK.out Y hY.out
    have z0 := hB.out.cell 0
    have z1 := hB.out.cell 1
    have z2 := hB.out.cell 2
    have z3 := hB.out.cell 3
    have z4 := hB.out.cell 4
    simp at z0 z1 z2 z3 z4
    have k0 : Chg [] W0 Y := hY.out
    rcases HNo.out with hv | ⟨hv, h2⟩
    · have HV := hide fun w => rvalid_any b h l g n w
      rw [hv] at HV
      clear hv
      go_wp2_with (first | (go_at_call 21; refine (HV.out _).mono ?_; rintro e w1 ⟨rfl, hw1⟩; (first | (replace hw0 := Chg.trans hw0 hw1; clear hw1 hc0 hf0) | (have hw0 := hw1; clear hw1)); obtain ⟨hc0, hf0⟩ := hw0.reads) | (go_at_call 22; refine (HL.out _).mono ?_; rintro e w1 ⟨rfl, hw1⟩; (first | (replace hw0 := Chg.trans hw0 hw1; clear hw1 hc0 hf0) | (have hw0 := hw1; clear hw1)); obtain ⟨hc0, hf0⟩ := hw0.reads) | (go_at_call 23; refine (own_any _ _ _ _ _ _).mono ?_; rintro e w1 ⟨rfl, hw1⟩; (first | (replace hw0 := Chg.trans hw0 hw1; clear hw1 hc0 hf0) | (have hw0 := hw1; clear hw1)); obtain ⟨hc0, hf0⟩ := hw0.reads) | (go_at_call 17; refine (awake_any _).mono ?_; rintro e w1 ⟨rfl, hw1⟩; (first | (replace hw0 := Chg.trans hw0 hw1; clear hw1 hc0 hf0) | (have hw0 := hw1; clear hw1)); obtain ⟨hc0, hf0⟩ := hw0.reads))
      go_ret
      exact ⟨rfl, by have q0 := C0.out; have q1 := hY.out; clear hc0 hf0; exact q0.trans (q1.trans (by (repeat' (first | with_reducible exact Chg.refl _ _ | with_reducible assumption | with_reducible apply Chg.drewN | with_reducible apply Chg.drew | with_reducible apply Chg.alloc | (with_reducible refine Chg.setCell ?_ (Or.inr ?_) _) | (with_reducible refine Chg.trans ?_ (by assumption)) | (simp; done) | (simp; omega)))))⟩
    · have HV := hide fun w => rvalid_any b h l g n w
      rw [hv] at HV
      have aa := W.vld_iff.1 hv
      have a1 : 0 ≤ b ∧ b ≤ 13 := by omega
      have a2 : 0 ≤ h ∧ h ≤ 13 := by omega
      have a3 : 0 ≤ l ∧ l ≤ 13 := by omega
      have a4 : 0 ≤ g ∧ g ≤ 13 := by omega
      clear aa hv
      cases hL : W.isLd b h l g b0 b1 h0 h1 l0 l1 g0 g1 with
      | false =>
        clear h2
        have HL := hide fun w => risload_any b h l g b0 b1 h0 h1 l0 l1 g0 g1 n w a1 a2 a3 a4
        rw [hL] at HL
        clear hL a1 a2 a3 a4
        go_wp2_with (first | (go_at_call 21; refine (HV.out _).mono ?_; rintro e w1 ⟨rfl, hw1⟩; (first | (replace hw0 := Chg.trans hw0 hw1; clear hw1 hc0 hf0) | (have hw0 := hw1; clear hw1)); obtain ⟨hc0, hf0⟩ := hw0.reads) | (go_at_call 22; refine (HL.out _).mono ?_; rintro e w1 ⟨rfl, hw1⟩; (first | (replace hw0 := Chg.trans hw0 hw1; clear hw1 hc0 hf0) | (have hw0 := hw1; clear hw1)); obtain ⟨hc0, hf0⟩ := hw0.reads) | (go_at_call 23; refine (own_any _ _ _ _ _ _).mono ?_; rintro e w1 ⟨rfl, hw1⟩; (first | (replace hw0 := Chg.trans hw0 hw1; clear hw1 hc0 hf0) | (have hw0 := hw1; clear hw1)); obtain ⟨hc0, hf0⟩ := hw0.reads) | (go_at_call 17; refine (awake_any _).mono ?_; rintro e w1 ⟨rfl, hw1⟩; (first | (replace hw0 := Chg.trans hw0 hw1; clear hw1 hc0 hf0) | (have hw0 := hw1; clear hw1)); obtain ⟨hc0, hf0⟩ := hw0.reads))
        go_ret
        exact ⟨rfl, by have q0 := C0.out; have q1 := hY.out; clear hc0 hf0; exact q0.trans (q1.trans (by (repeat' (first | with_reducible exact Chg.refl _ _ | with_reducible assumption | with_reducible apply Chg.drewN | with_reducible apply Chg.drew | with_reducible apply Chg.alloc | (with_reducible refine Chg.setCell ?_ (Or.inr ?_) _) | (with_reducible refine Chg.trans ?_ (by assumption)) | (simp; done) | (simp; omega)))))⟩
      | true =>
        by_cases hr : r < -1
        · have HL := hide fun w => risload_any b h l g b0 b1 h0 h1 l0 l1 g0 g1 n w a1 a2 a3 a4
          rw [hL] at HL
          have d1 : decide (r < -1) = true := by simpa using hr
          clear h2 hL a1 a2 a3 a4 hr
          go_wp2_with (first | (go_at_call 21; refine (HV.out _).mono ?_; rintro e w1 ⟨rfl, hw1⟩; (first | (replace hw0 := Chg.trans hw0 hw1; clear hw1 hc0 hf0) | (have hw0 := hw1; clear hw1)); obtain ⟨hc0, hf0⟩ := hw0.reads) | (go_at_call 22; refine (HL.out _).mono ?_; rintro e w1 ⟨rfl, hw1⟩; (first | (replace hw0 := Chg.trans hw0 hw1; clear hw1 hc0 hf0) | (have hw0 := hw1; clear hw1)); obtain ⟨hc0, hf0⟩ := hw0.reads) | (go_at_call 23; refine (own_any _ _ _ _ _ _).mono ?_; rintro e w1 ⟨rfl, hw1⟩; (first | (replace hw0 := Chg.trans hw0 hw1; clear hw1 hc0 hf0) | (have hw0 := hw1; clear hw1)); obtain ⟨hc0, hf0⟩ := hw0.reads) | (go_at_call 17; refine (awake_any _).mono ?_; rintro e w1 ⟨rfl, hw1⟩; (first | (replace hw0 := Chg.trans hw0 hw1; clear hw1 hc0 hf0) | (have hw0 := hw1; clear hw1)); obtain ⟨hc0, hf0⟩ := hw0.reads))
          go_ret
          exact ⟨rfl, by have q0 := C0.out; have q1 := hY.out; clear hc0 hf0; exact q0.trans (q1.trans (by (repeat' (first | with_reducible exact Chg.refl _ _ | with_reducible assumption | with_reducible apply Chg.drewN | with_reducible apply Chg.drew | with_reducible apply Chg.alloc | (with_reducible refine Chg.setCell ?_ (Or.inr ?_) _) | (with_reducible refine Chg.trans ?_ (by assumption)) | (simp; done) | (simp; omega)))))⟩
        · have HL := hide fun w => risload_any b h l g b0 b1 h0 h1 l0 l1 g0 g1 n w a1 a2 a3 a4
          rw [hL] at HL
          have d1 : decide (r < -1) = false := by simpa using hr
          have d2 : decide (1 < r) = true := by simp; rcases h2 with h2 | h2 | h2 <;> simp_all
          clear h2 hL a1 a2 a3 a4 hr
          go_wp2_with (first | (go_at_call 21; refine (HV.out _).mono ?_; rintro e w1 ⟨rfl, hw1⟩; (first | (replace hw0 := Chg.trans hw0 hw1; clear hw1 hc0 hf0) | (have hw0 := hw1; clear hw1)); obtain ⟨hc0, hf0⟩ := hw0.reads) | (go_at_call 22; refine (HL.out _).mono ?_; rintro e w1 ⟨rfl, hw1⟩; (first | (replace hw0 := Chg.trans hw0 hw1; clear hw1 hc0 hf0) | (have hw0 := hw1; clear hw1)); obtain ⟨hc0, hf0⟩ := hw0.reads) | (go_at_call 23; refine (own_any _ _ _ _ _ _).mono ?_; rintro e w1 ⟨rfl, hw1⟩; (first | (replace hw0 := Chg.trans hw0 hw1; clear hw1 hc0 hf0) | (have hw0 := hw1; clear hw1)); obtain ⟨hc0, hf0⟩ := hw0.reads) | (go_at_call 17; refine (awake_any _).mono ?_; rintro e w1 ⟨rfl, hw1⟩; (first | (replace hw0 := Chg.trans hw0 hw1; clear hw1 hc0 hf0) | (have hw0 := hw1; clear hw1)); obtain ⟨hc0, hf0⟩ := hw0.reads))
          go_ret
          exact ⟨rfl, by have q0 := C0.out; have q1 := hY.out; clear hc0 hf0; exact q0.trans (q1.trans (by (repeat' (first | with_reducible exact Chg.refl _ _ | with_reducible assumption | with_reducible apply Chg.drewN | with_reducible apply Chg.drew | with_reducible apply Chg.alloc | (with_reducible refine Chg.setCell ?_ (Or.inr ?_) _) | (with_reducible refine Chg.trans ?_ (by assumption)) | (simp; done) | (simp; omega)))))⟩)
end Go.Proofs.Ytohdjlgghkcaoaa
