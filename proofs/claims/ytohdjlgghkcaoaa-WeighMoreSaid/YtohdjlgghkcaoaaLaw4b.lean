/- Walk: the statement WeighAfter, what is a load. -/
import Derived.Test.YtohdjlgghkcaoaaLaw4
import Derived.Test.YtohdjlgghkcaoaaOpen
namespace Go.Proofs.Ytohdjlgghkcaoaa
open Go.RowKit

theorem step55 {Q : World → Prop} {Y X : World} {us us' : Array Value} {T T' : TypeId} {q p : Nat} (hC : Chg [] Y X) (hb : Box Y q us T) (hB : Box X p us' T')
    (h : ∀ Z, Hid (Chg [] Y Z) → Box Z q us T → Box Z p us' T' → Q Z) : Q X := h X hC (hb.keep hC List.not_mem_nil) hB

set_option maxRecDepth 100000 in
set_option maxHeartbeats 400000 in
theorem walk_after_yes (b h l g b0 b1 h0 h1 l0 l1 g0 g1 r : Int) (n : Bool) (w : World) (hv : W.vld b h l g n = true) (hL : W.isLd b h l g b0 b1 h0 h1 l0 l1 g0 g1 = true) (r0 : -1 ≤ r) (r1 : r ≤ 1) :
    Calls Try.prog 4 #[.agg #[.int .i64 b, .int .i64 h, .int .i64 l, .int .i64 g, .bool n], .agg #[.int .i64 b0, .int .i64 b1, .int .i64 h0, .int .i64 h1, .int .i64 l0, .int .i64 l1, .int .i64 g0, .int .i64 g1], .int .i64 r] w (Ret (.bool true) w) := by
  obtain ⟨b', h', l', g', n', e', he⟩ : ∃ b' h' l' g' : Int, ∃ n' : Bool, ∃ e' : Int, afterE (W.aftI b h l g n b0 b1 h0 h1 l0 l1 r) = .tuple #[.agg #[.int .i64 b', .int .i64 h', .int .i64 l', .int .i64 g', .bool n'], .int .i64 e'] := by
    unfold afterE
    split
    · exact ⟨_, _, _, _, _, _, rfl⟩
    · exact ⟨0, 0, 0, 0, false, 4, rfl⟩
  have hA := fun w => After_yes b h l g b0 b1 h0 h1 l0 l1 g0 g1 r n w hv hL r0 r1
  have hR := fun w => RAfter_any b h l g b0 b1 h0 h1 l0 l1 g0 g1 r n w hv hL r0 r1
  rw [he] at hA hR
  have HA := hide hA
  have HR := hide hR
  have aa := W.vld_iff.1 hv
  have a1 : 0 ≤ b ∧ b ≤ 13 := by omega
  have a2 : 0 ≤ h ∧ h ≤ 13 := by omega
  have a3 : 0 ≤ l ∧ l ≤ 13 := by omega
  have a4 : 0 ≤ g ∧ g ≤ 13 := by omega
  have HV := hide fun w => rvalid_any b h l g n w
  rw [hv] at HV
  have HL := hide fun w => risload_any b h l g b0 b1 h0 h1 l0 l1 g0 g1 n w a1 a2 a3 a4
  rw [hL] at HL
  have d1 : decide (r < -1) = false := by simp; omega
  have d2 : decide (1 < r) = false := by simp; omega
  clear hA hR aa a1 a2 a3 a4 hv hL he r0 r1
  go_enter Try.func4, Try.ntmps4
  go_wp2
  have c0 : Chg [] w ((w.alloc (.cells #[.int .i64 b, .int .i64 h, .int .i64 l, .int .i64 g, .bool n] 30)).alloc (.cells #[.int .i64 b0, .int .i64 b1, .int .i64 h0, .int .i64 h1, .int .i64 l0, .int .i64 l1, .int .i64 g0, .int .i64 g1] 33)) := by (repeat' (first | with_reducible exact Chg.refl _ _ | with_reducible assumption | with_reducible apply Chg.drewN | with_reducible apply Chg.drew | with_reducible apply Chg.alloc | (with_reducible refine Chg.setCell ?_ (Or.inr ?_) _) | (with_reducible refine Chg.trans ?_ (by assumption)) | (simp; done) | (simp; omega)))
  have x0 := (Box.new w #[.int .i64 b, .int .i64 h, .int .i64 l, .int .i64 g, .bool n] 30).old (.cells #[.int .i64 b0, .int .i64 b1, .int .i64 h0, .int .i64 h1, .int .i64 l0, .int .i64 l1, .int .i64 g0, .int .i64 g1] 33)
  have x1 := Box.at (w.alloc (.cells #[.int .i64 b, .int .i64 h, .int .i64 l, .int .i64 g, .bool n] 30)) #[.int .i64 b0, .int .i64 b1, .int .i64 h0, .int .i64 h1, .int .i64 l0, .int .i64 l1, .int .i64 g0, .int .i64 g1] 33 (n := w.heap.size + 1) (by simp)
  generalize ((w.alloc (.cells #[.int .i64 b, .int .i64 h, .int .i64 l, .int .i64 g, .bool n] 30)).alloc (.cells #[.int .i64 b0, .int .i64 b1, .int .i64 h0, .int .i64 h1, .int .i64 l0, .int .i64 l1, .int .i64 g0, .int .i64 g1] 33)) = W0 at c0 x0 x1 ⊢
  have C0 := hide c0
  generalize w.heap.size = A0 at x0 x1 ⊢
  have keep : ∀ X, Chg [] W0 X → (X.cell? ⟨A0, 0, none⟩ = some (.int .i64 b) ∧ X.cell? ⟨A0, 1, none⟩ = some (.int .i64 h) ∧ X.cell? ⟨A0, 2, none⟩ = some (.int .i64 l) ∧ X.cell? ⟨A0, 3, none⟩ = some (.int .i64 g) ∧ X.cell? ⟨A0, 4, none⟩ = some (.bool n) ∧
      X.cell? ⟨A0 + 1, 0, none⟩ = some (.int .i64 b0) ∧ X.cell? ⟨A0 + 1, 1, none⟩ = some (.int .i64 b1) ∧ X.cell? ⟨A0 + 1, 2, none⟩ = some (.int .i64 h0) ∧ X.cell? ⟨A0 + 1, 3, none⟩ = some (.int .i64 h1) ∧ X.cell? ⟨A0 + 1, 4, none⟩ = some (.int .i64 l0) ∧ X.cell? ⟨A0 + 1, 5, none⟩ = some (.int .i64 l1) ∧ X.cell? ⟨A0 + 1, 6, none⟩ = some (.int .i64 g0) ∧ X.cell? ⟨A0 + 1, 7, none⟩ = some (.int .i64 g1)) := fun X hX => by
    have y0 := x0.keep hX (by simp)
    have y1 := x1.keep hX (by simp)
    exact ⟨y0.cell 0, y0.cell 1, y0.cell 2, y0.cell 3, y0.cell 4, y1.cell 0, y1.cell 1, y1.cell 2, y1.cell 3, y1.cell 4, y1.cell 5, y1.cell 6, y1.cell 7⟩
  have HK := hide keep
  have lA := x1.lt
  have X0 := hide x0
  have X1 := hide x1
  clear c0 x0 x1 keep
  go_region_held3 (fun X => X.cell? ⟨A0, 0, none⟩ = some (.int .i64 b) ∧ X.cell? ⟨A0, 1, none⟩ = some (.int .i64 h) ∧ X.cell? ⟨A0, 2, none⟩ = some (.int .i64 l) ∧ X.cell? ⟨A0, 3, none⟩ = some (.int .i64 g) ∧ X.cell? ⟨A0, 4, none⟩ = some (.bool n) ∧
      X.cell? ⟨A0 + 1, 0, none⟩ = some (.int .i64 b0) ∧ X.cell? ⟨A0 + 1, 1, none⟩ = some (.int .i64 b1) ∧ X.cell? ⟨A0 + 1, 2, none⟩ = some (.int .i64 h0) ∧ X.cell? ⟨A0 + 1, 3, none⟩ = some (.int .i64 h1) ∧ X.cell? ⟨A0 + 1, 4, none⟩ = some (.int .i64 l0) ∧ X.cell? ⟨A0 + 1, 5, none⟩ = some (.int .i64 l1) ∧ X.cell? ⟨A0 + 1, 6, none⟩ = some (.int .i64 g0) ∧ X.cell? ⟨A0 + 1, 7, none⟩ = some (.int .i64 g1))
    (first | (refine HK.out _ ?_; (repeat' (first | with_reducible exact Chg.refl _ _ | with_reducible assumption | with_reducible apply Chg.drewN | with_reducible apply Chg.drew | with_reducible apply Chg.alloc | (with_reducible refine Chg.setCell ?_ (Or.inr ?_) _) | (with_reducible refine Chg.trans ?_ (by assumption)) | (simp; done) | (simp; omega)))))
    ((first | (go_at_call 19; refine (Of_any _ _ _ _ _ _).mono ?_; rintro e w1 ⟨rfl, hw1⟩; have hz1 := hw1.size; (try simp at hz1); obtain ⟨hc1, hf1⟩ := hw1.reads; (try have hy1 : W0.heap.size < w1.heap.size := (by omega))) | (go_at_call 20; refine (load_copy _ _ _ _ _ _ _ _ _).mono ?_; rintro e w2 ⟨rfl, hw2⟩; have hz2 := hw2.size; (try simp at hz2); obtain ⟨hc2, hf2⟩ := hw2.reads; (try have hy2 : W0.heap.size < w2.heap.size := (by omega)); (try have hy3 : w1.heap.size < w2.heap.size := (by omega))) | (go_at_call 18; refine (HA.out _).mono ?_; rintro e w3 ⟨rfl, hw3⟩; have hz3 := hw3.size; (try simp at hz3); obtain ⟨hc3, hf3⟩ := hw3.reads; (try have hy4 : W0.heap.size < w3.heap.size := (by omega)); (try have hy5 : w1.heap.size < w3.heap.size := (by omega)); (try have hy6 : w2.heap.size < w3.heap.size := (by omega)))))
  go_goals
  all_goals clear hc1 hf1 hc2 hf2 hc3 hf3
  all_goals first | (refine step5 (W0 := W0) (q := W0.heap.size) (u0 := .int .i64 b') (u1 := .int .i64 h') (u2 := .int .i64 l') (u3 := .int .i64 g') (u4 := .bool n') (T := 27) (by omega) ?_ ?_ ?_; (focus ((repeat' (first | with_reducible exact Chg.refl _ _ | with_reducible assumption | with_reducible apply Chg.drewN | with_reducible apply Chg.drew | with_reducible apply Chg.alloc | (with_reducible refine Chg.setCell ?_ (Or.inr ?_) _) | (with_reducible refine Chg.trans ?_ (by assumption)) | (simp; done) | (simp; omega))); done)); (focus (with_reducible refine Box.set5 (v0 := .int .i64 0) (v1 := .int .i64 0) (v2 := .int .i64 0) (v3 := .int .i64 0) (v4 := .bool false) ?_ _ _ _ _ _; (repeat (first | (with_reducible refine Box.keep (S := []) ?_ hw3 List.not_mem_nil) | (with_reducible refine Box.keep (S := []) ?_ hw2 List.not_mem_nil) | (with_reducible refine Box.keep (S := []) ?_ hw1 List.not_mem_nil))); first | (with_reducible exact Box.new _ _ _) | (with_reducible refine Box.drew ?_; with_reducible exact Box.new _ _ _) | (with_reducible refine Box.drew ?_; with_reducible refine Box.keep (S := []) ?_ hw1 List.not_mem_nil; with_reducible exact Box.new _ _ _) | (with_reducible refine Box.drew ?_; with_reducible refine Box.keep (S := []) ?_ hw2 List.not_mem_nil; with_reducible exact Box.new _ _ _); done))) | (refine step5 (W0 := W0) (q := w1.heap.size) (u0 := .int .i64 b') (u1 := .int .i64 h') (u2 := .int .i64 l') (u3 := .int .i64 g') (u4 := .bool n') (T := 27) (by omega) ?_ ?_ ?_; (focus ((repeat' (first | with_reducible exact Chg.refl _ _ | with_reducible assumption | with_reducible apply Chg.drewN | with_reducible apply Chg.drew | with_reducible apply Chg.alloc | (with_reducible refine Chg.setCell ?_ (Or.inr ?_) _) | (with_reducible refine Chg.trans ?_ (by assumption)) | (simp; done) | (simp; omega))); done)); (focus (with_reducible refine Box.set5 (v0 := .int .i64 0) (v1 := .int .i64 0) (v2 := .int .i64 0) (v3 := .int .i64 0) (v4 := .bool false) ?_ _ _ _ _ _; (repeat (first | (with_reducible refine Box.keep (S := []) ?_ hw3 List.not_mem_nil) | (with_reducible refine Box.keep (S := []) ?_ hw2 List.not_mem_nil) | (with_reducible refine Box.keep (S := []) ?_ hw1 List.not_mem_nil))); first | (with_reducible exact Box.new _ _ _) | (with_reducible refine Box.drew ?_; with_reducible exact Box.new _ _ _) | (with_reducible refine Box.drew ?_; with_reducible refine Box.keep (S := []) ?_ hw1 List.not_mem_nil; with_reducible exact Box.new _ _ _) | (with_reducible refine Box.drew ?_; with_reducible refine Box.keep (S := []) ?_ hw2 List.not_mem_nil; with_reducible exact Box.new _ _ _); done))) | (refine step5 (W0 := W0) (q := w2.heap.size) (u0 := .int .i64 b') (u1 := .int .i64 h') (u2 := .int .i64 l') (u3 := .int .i64 g') (u4 := .bool n') (T := 27) (by omega) ?_ ?_ ?_; (focus ((repeat' (first | with_reducible exact Chg.refl _ _ | with_reducible assumption | with_reducible apply Chg.drewN | with_reducible apply Chg.drew | with_reducible apply Chg.alloc | (with_reducible refine Chg.setCell ?_ (Or.inr ?_) _) | (with_reducible refine Chg.trans ?_ (by assumption)) | (simp; done) | (simp; omega))); done)); (focus (with_reducible refine Box.set5 (v0 := .int .i64 0) (v1 := .int .i64 0) (v2 := .int .i64 0) (v3 := .int .i64 0) (v4 := .bool false) ?_ _ _ _ _ _; (repeat (first | (with_reducible refine Box.keep (S := []) ?_ hw3 List.not_mem_nil) | (with_reducible refine Box.keep (S := []) ?_ hw2 List.not_mem_nil) | (with_reducible refine Box.keep (S := []) ?_ hw1 List.not_mem_nil))); first | (with_reducible exact Box.new _ _ _) | (with_reducible refine Box.drew ?_; with_reducible exact Box.new _ _ _) | (with_reducible refine Box.drew ?_; with_reducible refine Box.keep (S := []) ?_ hw1 List.not_mem_nil; with_reducible exact Box.new _ _ _) | (with_reducible refine Box.drew ?_; with_reducible refine Box.keep (S := []) ?_ hw2 List.not_mem_nil; with_reducible exact Box.new _ _ _); done))) | skip
  all_goals try ((refine step5 (W0 := W0) (q := w3.heap.size) (u0 := .int .i64 b') (u1 := .int .i64 h') (u2 := .int .i64 l') (u3 := .int .i64 g') (u4 := .bool n') (T := 27) (by omega) ?_ ?_ ?_; (focus ((repeat' (first | with_reducible exact Chg.refl _ _ | with_reducible assumption | with_reducible apply Chg.drewN | with_reducible apply Chg.drew | with_reducible apply Chg.alloc | (with_reducible refine Chg.setCell ?_ (Or.inr ?_) _) | (with_reducible refine Chg.trans ?_ (by assumption)) | (simp; done) | (simp; omega))); done)); (focus (with_reducible exact Box.new _ _ _; done))))
  all_goals clear hz1 hz2 hz3 hw1 hw2 hw3
  all_goals (
    intro Y hY hB lB
    have lY := hY.out.size
    have lA1 : A0 < Y.heap.size := by omega
    have lA2 : A0 + 1 < Y.heap.size := by omega
    obtain ⟨y0, y1, y2, y3, y4, y5, y6, y7, y8, y9, y10, y11, y12⟩ := HK.out Y hY.out
    have z0 := hB.out.cell 0
    have z1 := hB.out.cell 1
    have z2 := hB.out.cell 2
    have z3 := hB.out.cell 3
    have z4 := hB.out.cell 4
    simp at z0 z1 z2 z3 z4
    have k0 : Chg [] W0 Y := hY.out
    go_wp2_with (first | (go_at_call 24; refine (HR.out _).mono ?_; rintro e w1 ⟨rfl, hw1⟩; (first | (replace hw0 := Chg.trans hw0 hw1; clear hw1 hc0 hf0) | (have hw0 := hw1; clear hw1)); obtain ⟨hc0, hf0⟩ := hw0.reads) | (go_at_call 21; refine (HV.out _).mono ?_; rintro e w1 ⟨rfl, hw1⟩; (first | (replace hw0 := Chg.trans hw0 hw1; clear hw1 hc0 hf0) | (have hw0 := hw1; clear hw1)); obtain ⟨hc0, hf0⟩ := hw0.reads) | (go_at_call 22; refine (HL.out _).mono ?_; rintro e w1 ⟨rfl, hw1⟩; (first | (replace hw0 := Chg.trans hw0 hw1; clear hw1 hc0 hf0) | (have hw0 := hw1; clear hw1)); obtain ⟨hc0, hf0⟩ := hw0.reads) | (go_at_call 23; refine (own_any _ _ _ _ _ _).mono ?_; rintro e w1 ⟨rfl, hw1⟩; (first | (replace hw0 := Chg.trans hw0 hw1; clear hw1 hc0 hf0) | (have hw0 := hw1; clear hw1)); obtain ⟨hc0, hf0⟩ := hw0.reads) | (go_at_call 17; refine (awake_any _).mono ?_; rintro e w1 ⟨rfl, hw1⟩; (first | (replace hw0 := Chg.trans hw0 hw1; clear hw1 hc0 hf0) | (have hw0 := hw1; clear hw1)); obtain ⟨hc0, hf0⟩ := hw0.reads))
    refine step55 (Y := Y) (p := w1.heap.size) (us' := #[.int .i64 b', .int .i64 h', .int .i64 l', .int .i64 g', .bool n']) (T' := 30) ?_ hB.out ?_ ?_
    · clear hc0 hf0
      (repeat' (first | with_reducible exact Chg.refl _ _ | with_reducible assumption | with_reducible apply Chg.drewN | with_reducible apply Chg.drew | with_reducible apply Chg.alloc | (with_reducible refine Chg.setCell ?_ (Or.inr ?_) _) | (with_reducible refine Chg.trans ?_ (by assumption)) | (simp; done) | (simp; omega)))
    · clear hc0 hf0
      first
        | (with_reducible refine Box.set5 (v0 := .int .i64 0) (v1 := .int .i64 0) (v2 := .int .i64 0) (v3 := .int .i64 0) (v4 := .bool false) ?_ _ _ _ _ _; with_reducible exact Box.new _ _ _)
        | (with_reducible exact Box.new _ _ _)
    intro Z hZ zq zp
    clear y0 y1 y2 y3 y4 y5 y6 y7 y8 y9 y10 y11 y12 z0 z1 z2 z3 z4 hc0 hf0
    have z0 := zq.cell 0
    have z1 := zq.cell 1
    have z2 := zq.cell 2
    have z3 := zq.cell 3
    have z4 := zq.cell 4
    have x0 := zp.cell 0
    have x1 := zp.cell 1
    have x2 := zp.cell 2
    have x3 := zp.cell 3
    have x4 := zp.cell 4
    have lq := zq.lt
    have lp := zp.lt
    simp at z0 z1 z2 z3 z4 x0 x1 x2 x3 x4
    have Zq := hide zq
    have Zp := hide zp
    clear zq zp
    refine wp_region_ext (by kernel_rfl) (by kernel_rfl) ?_
    repeat (first | go_big_quiet_step ((first | (go_at_call 23; exact calls_of_ret (own_any _ _ _ _ _ _)) | (go_at_call 17; exact calls_of_ret (awake_any _)))) | quiet_step ((first | (go_at_call 23; exact calls_of_ret (own_any _ _ _ _ _ _)) | (go_at_call 17; exact calls_of_ret (awake_any _)))))
    refine wpQuiet_nil ?_
    intro wx hx
    go_wp2
    go_ret
    exact ⟨rfl, by have q0 := C0.out; have q1 := hY.out; have q2 := hZ.out; exact q0.trans (q1.trans (q2.trans (by (repeat' (first | with_reducible exact Chg.refl _ _ | with_reducible assumption | with_reducible apply Chg.drewN | with_reducible apply Chg.drew | with_reducible apply Chg.alloc | (with_reducible refine Chg.setCell ?_ (Or.inr ?_) _) | (with_reducible refine Chg.trans ?_ (by assumption)) | (simp; done) | (simp; omega))))))⟩)

theorem walk_after (b h l g b0 b1 h0 h1 l0 l1 g0 g1 r : Int) (n : Bool) (w : World) :
    Calls Try.prog 4 #[.agg #[.int .i64 b, .int .i64 h, .int .i64 l, .int .i64 g, .bool n], .agg #[.int .i64 b0, .int .i64 b1, .int .i64 h0, .int .i64 h1, .int .i64 l0, .int .i64 l1, .int .i64 g0, .int .i64 g1], .int .i64 r] w (Ret (.bool true) w) := by
  cases hv : W.vld b h l g n with
  | false => exact walk_after_no _ _ _ _ _ _ _ _ _ _ _ _ _ _ _ (.inl hv)
  | true =>
    cases hL : W.isLd b h l g b0 b1 h0 h1 l0 l1 g0 g1 with
    | false => exact walk_after_no _ _ _ _ _ _ _ _ _ _ _ _ _ _ _ (.inr ⟨hv, .inl hL⟩)
    | true =>
      by_cases h1 : r < -1
      · exact walk_after_no _ _ _ _ _ _ _ _ _ _ _ _ _ _ _ (.inr ⟨hv, .inr (.inl h1)⟩)
      · by_cases h2 : 1 < r
        · exact walk_after_no _ _ _ _ _ _ _ _ _ _ _ _ _ _ _ (.inr ⟨hv, .inr (.inr h2)⟩)
        · exact walk_after_yes _ _ _ _ _ _ _ _ _ _ _ _ _ _ _ hv hL (by omega) (by omega)

theorem weighAfter_walk (v0 v1 v2 : Value) (w : World) (h0 : IsKnown v0) (h1 : IsLoadV v1) (h2 : IsInt v2) : Calls Try.prog 4 #[v0, v1, v2] w (Ret (.bool true) w) := by
  obtain ⟨b, h, l, g, n, rfl, _⟩ := h0
  obtain ⟨b0, b1, h0, h1, l0, l1, g0, g1, rfl, _⟩ := h1
  obtain ⟨r, rfl, _⟩ := h2
  exact walk_after b h l g b0 b1 h0 h1 l0 l1 g0 g1 r n w
end Go.Proofs.Ytohdjlgghkcaoaa
