/- Walk: the statement WeighMore. -/
import Derived.Test.YtohdjlgghkcaoaaMore
import Derived.Test.YtohdjlgghkcaoaaLaw4
import Derived.Test.YtohdjlgghkcaoaaHalt
import Derived.Test.YtohdjlgghkcaoaaOpen
import Derived.Test.YtohdjlgghkcaoaaLaw4b
namespace Go.Proofs.Ytohdjlgghkcaoaa
open Go.RowKit

set_option maxRecDepth 100000 in
set_option maxHeartbeats 400000 in
theorem walk_more_no (b h l g b0 b1 h0 h1 l0 l1 g0 g1 : Int) (n : Bool) (w : World) (hv : W.vld b h l g n = false) :
    Calls Try.prog 7 #[.agg #[.int .i64 b, .int .i64 h, .int .i64 l, .int .i64 g, .bool n], .agg #[.int .i64 b0, .int .i64 b1, .int .i64 h0, .int .i64 h1, .int .i64 l0, .int .i64 l1, .int .i64 g0, .int .i64 g1]] w (Ret (.bool true) w) := by
  have hN := fun w => Need_no b h l g n hv w
  have HN := hide hN
  have HV := hide fun w => rvalid_any b h l g n w
  rw [hv] at HV
  clear hN hv
  go_enter Try.func7, Try.ntmps7
  go_wp2_with fail
  refine (Of_any _ _ _ _ _ _).mono ?_
  rintro e w1 ⟨rfl, hw1⟩; (first | (replace hw0 := Chg.trans hw0 hw1; clear hw1 hc0 hf0 hz0 hz1) | (have hw0 := hw1; clear hw1)); obtain ⟨hc0, hf0⟩ := hw0.reads; have hzz := hw0.size; simp at hzz; have hz0 : w.heap.size < w1.heap.size := (by omega); have hz1 : w.heap.size + 1 < w1.heap.size := (by omega); clear hzz
  go_wp2_with fail
  refine (HN.out _).mono ?_
  rintro e w1 ⟨rfl, hw1⟩; (first | (replace hw0 := Chg.trans hw0 hw1; clear hw1 hc0 hf0 hz0 hz1) | (have hw0 := hw1; clear hw1)); obtain ⟨hc0, hf0⟩ := hw0.reads; have hzz := hw0.size; simp at hzz; have hz0 : w.heap.size < w1.heap.size := (by omega); have hz1 : w.heap.size + 1 < w1.heap.size := (by omega); clear hzz
  go_wp2_with fail
  refine (HV.out _).mono ?_
  rintro e w1 ⟨rfl, hw1⟩; (first | (replace hw0 := Chg.trans hw0 hw1; clear hw1 hc0 hf0 hz0 hz1) | (have hw0 := hw1; clear hw1)); obtain ⟨hc0, hf0⟩ := hw0.reads; have hzz := hw0.size; simp at hzz; have hz0 : w.heap.size < w1.heap.size := (by omega); have hz1 : w.heap.size + 1 < w1.heap.size := (by omega); clear hzz
  go_wp2_with fail
  refine (awake_any _).mono ?_
  rintro e w4 ⟨rfl, hw4⟩
  go_wp2
  go_ret
  exact ⟨rfl, by clear hc0 hf0; (repeat' (first | with_reducible exact Chg.refl _ _ | with_reducible assumption | with_reducible apply Chg.drewN | with_reducible apply Chg.drew | with_reducible apply Chg.alloc | (with_reducible refine Chg.setCell ?_ (Or.inr ?_) _) | (with_reducible refine Chg.trans ?_ (by assumption)) | (simp; done) | (simp; omega)))⟩

set_option maxRecDepth 100000 in
set_option maxHeartbeats 1000000 in
theorem walk_more_yes (b h l g b0 b1 h0 h1 l0 l1 g0 g1 : Int) (n : Bool) (w : World) (hv : W.vld b h l g n = true) :
    Calls Try.prog 7 #[.agg #[.int .i64 b, .int .i64 h, .int .i64 l, .int .i64 g, .bool n], .agg #[.int .i64 b0, .int .i64 b1, .int .i64 h0, .int .i64 h1, .int .i64 l0, .int .i64 l1, .int .i64 g0, .int .i64 g1]] w (Ret (.bool true) w) := by
  obtain ⟨x, e, he, hN, hS, hG⟩ := need_facts b h l g n hv
  obtain ⟨p, hp, hsum, hA⟩ := more_after b h l g b0 b1 h0 h1 l0 l1 g0 g1 n hv
  have aa := W.vld_iff.1 hv
  have HN := hide hN
  have HS := hide hS
  have HG := hide hG
  have HP := hide hp
  have HSum := hide hsum
  have HA := hide hA
  have HAA := hide aa
  have HV := hide fun w => rvalid_any b h l g n w
  rw [hv] at HV
  have d1 : (e == 2) = false := by rcases he with rfl | rfl <;> rfl
  have HE := hide he
  clear hN hS hG hp hsum hA aa hv he
  go_enter Try.func7, Try.ntmps7
  go_wp2_with fail
  have c0 : Chg [] w ((w.alloc (.cells #[.int .i64 b, .int .i64 h, .int .i64 l, .int .i64 g, .bool n] 30)).alloc (.cells #[.int .i64 b0, .int .i64 b1, .int .i64 h0, .int .i64 h1, .int .i64 l0, .int .i64 l1, .int .i64 g0, .int .i64 g1] 33)) := by (repeat' (first | with_reducible exact Chg.refl _ _ | with_reducible assumption | with_reducible apply Chg.drewN | with_reducible apply Chg.drew | with_reducible apply Chg.alloc | (with_reducible refine Chg.setCell ?_ (Or.inr ?_) _) | (with_reducible refine Chg.trans ?_ (by assumption)) | (simp; done) | (simp; omega)))
  have x0 := (Box.new w #[.int .i64 b, .int .i64 h, .int .i64 l, .int .i64 g, .bool n] 30).old (.cells #[.int .i64 b0, .int .i64 b1, .int .i64 h0, .int .i64 h1, .int .i64 l0, .int .i64 l1, .int .i64 g0, .int .i64 g1] 33)
  have x1 := Box.at (w.alloc (.cells #[.int .i64 b, .int .i64 h, .int .i64 l, .int .i64 g, .bool n] 30)) #[.int .i64 b0, .int .i64 b1, .int .i64 h0, .int .i64 h1, .int .i64 l0, .int .i64 l1, .int .i64 g0, .int .i64 g1] 33 (n := w.heap.size + 1) (by simp)
  generalize ((w.alloc (.cells #[.int .i64 b, .int .i64 h, .int .i64 l, .int .i64 g, .bool n] 30)).alloc (.cells #[.int .i64 b0, .int .i64 b1, .int .i64 h0, .int .i64 h1, .int .i64 l0, .int .i64 l1, .int .i64 g0, .int .i64 g1] 33)) = W0 at c0 x0 x1 ⊢
  have C0 := hide c0
  generalize w.heap.size = A0 at x0 x1 ⊢
  have keep : ∀ X, Chg [] W0 X → (X.cell? ⟨A0, 0, none⟩ = some (.int .i64 b) ∧ X.cell? ⟨A0, 1, none⟩ = some (.int .i64 h) ∧ X.cell? ⟨A0, 2, none⟩ = some (.int .i64 l) ∧ X.cell? ⟨A0, 3, none⟩ = some (.int .i64 g) ∧ X.cell? ⟨A0, 4, none⟩ = some (.bool n) ∧
      X.cell? ⟨A0 + 1, 0, none⟩ = some (.int .i64 b0) ∧ X.cell? ⟨A0 + 1, 1, none⟩ = some (.int .i64 b1) ∧ X.cell? ⟨A0 + 1, 2, none⟩ = some (.int .i64 h0) ∧ X.cell? ⟨A0 + 1, 3, none⟩ = some (.int .i64 h1) ∧ X.cell? ⟨A0 + 1, 4, none⟩ = some (.int .i64 l0) ∧ X.cell? ⟨A0 + 1, 5, none⟩ = some (.int .i64 l1) ∧ X.cell? ⟨A0 + 1, 6, none⟩ = some (.int .i64 g0) ∧ X.cell? ⟨A0 + 1, 7, none⟩ = some (.int .i64 g1)) := fun X hX => by
    have y0 := x0.keep hX (by simp)
    have y1 := x1.keep hX (by simp)
    exact ⟨y0.cell 0, y0.cell 1, y0.cell 2, y0.cell 3, y0.cell 4, y1.cell 0, y1.cell 1, y1.cell 2, y1.cell 3, y1.cell 4, y1.cell 5, y1.cell 6, y1.cell 7⟩
  have HK := hide keep
  have lA := x1.lt
  clear c0 x0 x1 keep
  refine (Of_any _ _ _ _ _ _).mono ?_
  rintro e1 w1 ⟨rfl, hw1⟩
  go_wp2_with fail
  refine (HN.out _).mono ?_
  rintro e1 w2 ⟨rfl, hw2⟩
  have k2 : Hid (Chg [] W0 w2) := hide (hw1.trans hw2)
  have z2 := k2.out.size
  have l2 : A0 + 1 < w2.heap.size := by omega
  clear hw1 hw2
  obtain ⟨y0, y1, y2, y3, y4, -⟩ := HK.out _ k2.out
  go_wp2_with fail
  refine (HV.out _).mono ?_
  rintro e1 w3 ⟨rfl, hw3⟩
  have k3 : Hid (Chg [] W0 w3) := hide (k2.out.trans hw3)
  have z3 := k3.out.size
  have l3 : A0 + 1 < w3.heap.size := by omega
  clear hw3 y0 y1 y2 y3 y4 k2 z2 l2
  obtain ⟨y0, y1, y2, y3, y4, -⟩ := HK.out _ k3.out
  go_wp2
  have b4 := Box.new w3 #[.int .i64 b, .int .i64 h, .int .i64 l, .int .i64 g, .bool n] 30
  have k4 : Hid (Chg [] W0 (w3.alloc (.cells #[.int .i64 b, .int .i64 h, .int .i64 l, .int .i64 g, .bool n] 30))) := hide (k3.out.alloc _)
  clear y0 y1 y2 y3 y4
  generalize hA2 : w3.heap.size = A2 at b4 z3 l3 ⊢
  generalize w3.alloc (.cells #[.int .i64 b, .int .i64 h, .int .i64 l, .int .i64 g, .bool n] 30) = W4 at b4 k4 ⊢
  obtain ⟨y0, y1, y2, y3, y4, -⟩ := HK.out _ k4.out
  have x1 := b4.cell 1
  have x2 := b4.cell 2
  have f1 := b4.free 1
  have f2 := b4.free 2
  simp at x1 x2
  have B4 := hide b4
  have lb := b4.lt
  clear b4
  go_region
  refine step5 (W0 := W0) (q := A2) (u0 := .int .i64 b) (u1 := .int .i64 l) (u2 := .int .i64 h) (u3 := .int .i64 g) (u4 := .bool n) (T := 30) (by omega) ?_ ?_ ?_
  · have kk := k4.out
    (repeat' (first | with_reducible exact Chg.refl _ _ | with_reducible assumption | with_reducible apply Chg.drewN | with_reducible apply Chg.drew | with_reducible apply Chg.alloc | (with_reducible refine Chg.setCell ?_ (Or.inr ?_) _) | (with_reducible refine Chg.trans ?_ (by assumption)) | (simp; done) | (simp; omega)))
  · have := ((B4.out.set 1 (.int .i64 l)).set 2 (.int .i64 h))
    refine Box.drew ?_
    simpa using this
  have zA := z3
  clear y0 y1 y2 y3 y4 x1 x2 f1 f2 k4 k3 B4 lb l3 z3
  intro Y hY hB lB
  have zY := hY.out.size
  have lY : A0 + 1 < Y.heap.size := by omega
  have x0 := hB.out.cell 0
  have x1 := hB.out.cell 1
  have x2 := hB.out.cell 2
  have x3 := hB.out.cell 3
  have x4 := hB.out.cell 4
  simp at x0 x1 x2 x3 x4
  go_wp2_with fail
  refine (Of_any _ _ _ _ _ _).mono ?_
  rintro e1 w5 ⟨rfl, hw5⟩
  go_wp2_with fail
  refine (HS.out _).mono ?_
  rintro e1 w6 ⟨rfl, hw6⟩
  have k6 : Hid (Chg [] W0 w6) := hide (hY.out.trans (hw5.trans hw6))
  have B6 : Hid (Box w6 A2 #[.int .i64 b, .int .i64 l, .int .i64 h, .int .i64 g, .bool n] 30) := hide (hB.out.keep (hw5.trans hw6) (by simp))
  clear x0 x1 x2 x3 x4 hw5 hw6 hY hB lB zY lY
  have z6 := k6.out.size
  have l6 : A0 + 1 < w6.heap.size := by omega
  have lA2 := B6.out.lt
  obtain ⟨y0, y1, y2, y3, y4, -⟩ := HK.out _ k6.out
  have nA : A2 ≠ A0 := by omega
  by_cases hg : g < 13
  rotate_left
  focus (
    have dg : decide (g < 13) = false := by simpa using hg
    go_wp2)
  rotate_left
  focus (
    have dg : decide (g < 13) = true := by simpa using hg
    obtain ⟨y, f, hyf, hM⟩ := HG.out hg
    have HM := hide hM
    have HYF := hide hyf
    clear hyf hM
    have x0 := B6.out.cell 0
    have x1 := B6.out.cell 1
    have x2 := B6.out.cell 2
    have x3 := B6.out.cell 3
    have x4 := B6.out.cell 4
    have f0 := B6.out.free 0
    have f1 := B6.out.free 1
    have f2 := B6.out.free 2
    have f3 := B6.out.free 3
    have f4 := B6.out.free 4
    simp at x0 x1 x2 x3 x4
    have ga := HAA.out
    have ga1 : 0 ≤ g := by omega
    clear ga
    go_wp2_with (with_reducible refine halt_at 65 ?_)
    refine Halt.go ?_
    refine step5 (W0 := W0) (q := A2) (u0 := .int .i64 b) (u1 := .int .i64 h) (u2 := .int .i64 l) (u3 := .int .i64 g) (u4 := .bool n) (T := 30) (by omega) ?_ ?_ ?_
    · have kk := k6.out
      (repeat' (first | with_reducible exact Chg.refl _ _ | with_reducible assumption | with_reducible apply Chg.drewN | with_reducible apply Chg.drew | with_reducible apply Chg.alloc | (with_reducible refine Chg.setCell ?_ (Or.inr ?_) _) | (with_reducible refine Chg.trans ?_ (by assumption)) | (simp; done) | (simp; omega)))
    · exact B6.out.set5 _ _ _ _ _
    clear x0 x1 x2 x3 x4 f0 f1 f2 f3 f4 y0 y1 y2 y3 y4 k6 B6 z6 l6 lA2
    intro Y hY hB lB
    have x3 := hB.out.cell 3
    have f3 := hB.out.free 3
    simp at x3
    go_wp2_with (with_reducible refine halt_at 70 ?_)
    refine Halt.go ?_
    refine step5 (W0 := W0) (q := A2) (u0 := .int .i64 b) (u1 := .int .i64 h) (u2 := .int .i64 l) (u3 := .int .i64 (g + 1)) (u4 := .bool n) (T := 30) (by omega) ?_ ?_ ?_
    · have kk := hY.out
      (repeat' (first | with_reducible exact Chg.refl _ _ | with_reducible assumption | with_reducible apply Chg.drewN | with_reducible apply Chg.drew | with_reducible apply Chg.alloc | (with_reducible refine Chg.setCell ?_ (Or.inr ?_) _) | (with_reducible refine Chg.trans ?_ (by assumption)) | (simp; done) | (simp; omega)))
    · have := hB.out.set 3 (.int .i64 (g + 1))
      simpa using this
    clear x3 f3 hY hB lB Y
    intro Y hY hB lB
    have zY := hY.out.size
    have lY : A0 + 1 < Y.heap.size := by omega
    have x0 := hB.out.cell 0
    have x1 := hB.out.cell 1
    have x2 := hB.out.cell 2
    have x3 := hB.out.cell 3
    have x4 := hB.out.cell 4
    simp at x0 x1 x2 x3 x4
    go_wp2_with fail
    refine (Of_any _ _ _ _ _ _).mono ?_
    rintro e1 w7 ⟨rfl, hw7⟩
    go_wp2_with fail
    refine (HM.out _).mono ?_
    rintro e1 w8 ⟨rfl, hw8⟩
    have k6 : Hid (Chg [] W0 w8) := hide (hY.out.trans (hw7.trans hw8))
    clear x0 x1 x2 x3 x4 hw7 hw8 hY hB lB zY lY
    rcases HE.out with rfl | rfl
    focus (
      obtain ⟨rfl, hle⟩ := HYF.out rfl
      have dd : decide (x < y) = false := by simpa using hle
      go_wp2)
    rotate_left
    focus go_wp2
    rotate_left)
  all_goals (
    have HK0 := hide k6.out
    clear k6
    try clear y0 y1 y2 y3 y4
    go_loopw [12, 13, 14] (fun s m i wr => ∃ r : Int, -1 ≤ r ∧ r ≤ 2 ∧ s = .int .i64 (upPs p r) ∧ m = .bool (decide (0 < upPs p r)) ∧ i = .int .i64 r ∧ Hid (Chg [] W0 wr)) (fun _ _ i _ => (2 - intOf i).toNat)
    case atStart => exact ⟨-1, by omega, by omega, rfl, rfl, rfl, HK0⟩
    case round =>
      obtain ⟨r, hr0, hr1, rfl, rfl, rfl, hI⟩ := hrel
      have hu := upPs_le HP.out r
      have zr := hI.out.size
      have lr : A0 + 1 < wr.heap.size := by omega
      obtain ⟨y0, y1, y2, y3, y4, y5, y6, y7, y8, y9, y10, y11, y12⟩ := HK.out _ hI.out
      by_cases hlt : r ≤ 1
      · have d2 : decide (r ≤ 1) = true := by simpa using hlt
        obtain ⟨b', h', l', g', n', e', hcase, hA⟩ := HA.out r hr0 hlt
        have HAr := hide hA
        have HC := hide hcase
        have HKr := hide (fun X (hX : Chg [] wr X) => HK.out X (hI.out.trans hX))
        clear hA hcase
        go_wp2
        go_region_held3 (fun X => X.cell? ⟨A0, 0, none⟩ = some (.int .i64 b) ∧ X.cell? ⟨A0, 1, none⟩ = some (.int .i64 h) ∧ X.cell? ⟨A0, 2, none⟩ = some (.int .i64 l) ∧ X.cell? ⟨A0, 3, none⟩ = some (.int .i64 g) ∧ X.cell? ⟨A0, 4, none⟩ = some (.bool n) ∧
            X.cell? ⟨A0 + 1, 0, none⟩ = some (.int .i64 b0) ∧ X.cell? ⟨A0 + 1, 1, none⟩ = some (.int .i64 b1) ∧ X.cell? ⟨A0 + 1, 2, none⟩ = some (.int .i64 h0) ∧ X.cell? ⟨A0 + 1, 3, none⟩ = some (.int .i64 h1) ∧ X.cell? ⟨A0 + 1, 4, none⟩ = some (.int .i64 l0) ∧ X.cell? ⟨A0 + 1, 5, none⟩ = some (.int .i64 l1) ∧ X.cell? ⟨A0 + 1, 6, none⟩ = some (.int .i64 g0) ∧ X.cell? ⟨A0 + 1, 7, none⟩ = some (.int .i64 g1))
          (first | (refine HKr.out _ ?_; (repeat' (first | with_reducible exact Chg.refl _ _ | with_reducible assumption | with_reducible apply Chg.drewN | with_reducible apply Chg.drew | with_reducible apply Chg.alloc | (with_reducible refine Chg.setCell ?_ (Or.inr ?_) _) | (with_reducible refine Chg.trans ?_ (by assumption)) | (simp; done) | (simp; omega)))))
          ((first | (go_at_call 19; refine (Of_any _ _ _ _ _ _).mono ?_; rintro e w1 ⟨rfl, hw1⟩; have hz1 := hw1.size; (try simp at hz1); obtain ⟨hc1, hf1⟩ := hw1.reads; (try have hy1 : wr.heap.size < w1.heap.size := (by omega))) | (go_at_call 20; refine (load_copy _ _ _ _ _ _ _ _ _).mono ?_; rintro e w2 ⟨rfl, hw2⟩; have hz2 := hw2.size; (try simp at hz2); obtain ⟨hc2, hf2⟩ := hw2.reads; (try have hy2 : wr.heap.size < w2.heap.size := (by omega)); (try have hy3 : w1.heap.size < w2.heap.size := (by omega))) | (go_at_call 18; refine (HAr.out _).mono ?_; rintro e w3 ⟨rfl, hw3⟩; have hz3 := hw3.size; (try simp at hz3); obtain ⟨hc3, hf3⟩ := hw3.reads; (try have hy4 : wr.heap.size < w3.heap.size := (by omega)); (try have hy5 : w1.heap.size < w3.heap.size := (by omega)); (try have hy6 : w2.heap.size < w3.heap.size := (by omega)))))
        all_goals clear hc1 hf1 hc2 hf2 hc3 hf3
        all_goals first | (refine step5 (W0 := wr) (q := wr.heap.size) (u0 := .int .i64 b') (u1 := .int .i64 h') (u2 := .int .i64 l') (u3 := .int .i64 g') (u4 := .bool n') (T := 27) (by omega) ?_ ?_ ?_; (focus ((repeat' (first | with_reducible exact Chg.refl _ _ | with_reducible assumption | with_reducible apply Chg.drewN | with_reducible apply Chg.drew | with_reducible apply Chg.alloc | (with_reducible refine Chg.setCell ?_ (Or.inr ?_) _) | (with_reducible refine Chg.trans ?_ (by assumption)) | (simp; done) | (simp; omega))); done)); (focus (with_reducible refine Box.set5 (v0 := .int .i64 0) (v1 := .int .i64 0) (v2 := .int .i64 0) (v3 := .int .i64 0) (v4 := .bool false) ?_ _ _ _ _ _; (repeat (first | (with_reducible refine Box.keep (S := []) ?_ hw3 List.not_mem_nil) | (with_reducible refine Box.keep (S := []) ?_ hw2 List.not_mem_nil) | (with_reducible refine Box.keep (S := []) ?_ hw1 List.not_mem_nil))); first | (with_reducible exact Box.new _ _ _) | (with_reducible refine Box.drew ?_; with_reducible exact Box.new _ _ _) | (with_reducible refine Box.drew ?_; with_reducible refine Box.keep (S := []) ?_ hw1 List.not_mem_nil; with_reducible exact Box.new _ _ _) | (with_reducible refine Box.drew ?_; with_reducible refine Box.keep (S := []) ?_ hw2 List.not_mem_nil; with_reducible exact Box.new _ _ _); done))) | (refine step5 (W0 := wr) (q := w1.heap.size) (u0 := .int .i64 b') (u1 := .int .i64 h') (u2 := .int .i64 l') (u3 := .int .i64 g') (u4 := .bool n') (T := 27) (by omega) ?_ ?_ ?_; (focus ((repeat' (first | with_reducible exact Chg.refl _ _ | with_reducible assumption | with_reducible apply Chg.drewN | with_reducible apply Chg.drew | with_reducible apply Chg.alloc | (with_reducible refine Chg.setCell ?_ (Or.inr ?_) _) | (with_reducible refine Chg.trans ?_ (by assumption)) | (simp; done) | (simp; omega))); done)); (focus (with_reducible refine Box.set5 (v0 := .int .i64 0) (v1 := .int .i64 0) (v2 := .int .i64 0) (v3 := .int .i64 0) (v4 := .bool false) ?_ _ _ _ _ _; (repeat (first | (with_reducible refine Box.keep (S := []) ?_ hw3 List.not_mem_nil) | (with_reducible refine Box.keep (S := []) ?_ hw2 List.not_mem_nil) | (with_reducible refine Box.keep (S := []) ?_ hw1 List.not_mem_nil))); first | (with_reducible exact Box.new _ _ _) | (with_reducible refine Box.drew ?_; with_reducible exact Box.new _ _ _) | (with_reducible refine Box.drew ?_; with_reducible refine Box.keep (S := []) ?_ hw1 List.not_mem_nil; with_reducible exact Box.new _ _ _) | (with_reducible refine Box.drew ?_; with_reducible refine Box.keep (S := []) ?_ hw2 List.not_mem_nil; with_reducible exact Box.new _ _ _); done))) | (refine step5 (W0 := wr) (q := w2.heap.size) (u0 := .int .i64 b') (u1 := .int .i64 h') (u2 := .int .i64 l') (u3 := .int .i64 g') (u4 := .bool n') (T := 27) (by omega) ?_ ?_ ?_; (focus ((repeat' (first | with_reducible exact Chg.refl _ _ | with_reducible assumption | with_reducible apply Chg.drewN | with_reducible apply Chg.drew | with_reducible apply Chg.alloc | (with_reducible refine Chg.setCell ?_ (Or.inr ?_) _) | (with_reducible refine Chg.trans ?_ (by assumption)) | (simp; done) | (simp; omega))); done)); (focus (with_reducible refine Box.set5 (v0 := .int .i64 0) (v1 := .int .i64 0) (v2 := .int .i64 0) (v3 := .int .i64 0) (v4 := .bool false) ?_ _ _ _ _ _; (repeat (first | (with_reducible refine Box.keep (S := []) ?_ hw3 List.not_mem_nil) | (with_reducible refine Box.keep (S := []) ?_ hw2 List.not_mem_nil) | (with_reducible refine Box.keep (S := []) ?_ hw1 List.not_mem_nil))); first | (with_reducible exact Box.new _ _ _) | (with_reducible refine Box.drew ?_; with_reducible exact Box.new _ _ _) | (with_reducible refine Box.drew ?_; with_reducible refine Box.keep (S := []) ?_ hw1 List.not_mem_nil; with_reducible exact Box.new _ _ _) | (with_reducible refine Box.drew ?_; with_reducible refine Box.keep (S := []) ?_ hw2 List.not_mem_nil; with_reducible exact Box.new _ _ _); done))) | skip
        all_goals try ((refine step5 (W0 := wr) (q := w3.heap.size) (u0 := .int .i64 b') (u1 := .int .i64 h') (u2 := .int .i64 l') (u3 := .int .i64 g') (u4 := .bool n') (T := 27) (by omega) ?_ ?_ ?_; (focus ((repeat' (first | with_reducible exact Chg.refl _ _ | with_reducible assumption | with_reducible apply Chg.drewN | with_reducible apply Chg.drew | with_reducible apply Chg.alloc | (with_reducible refine Chg.setCell ?_ (Or.inr ?_) _) | (with_reducible refine Chg.trans ?_ (by assumption)) | (simp; done) | (simp; omega))); done)); (focus (with_reducible exact Box.new _ _ _; done))))
        all_goals clear hz1 hz2 hz3 hw1 hw2 hw3
        all_goals (
          intro Y hY hB lB
          have lY := hY.out.size
          have lA1 : A0 < Y.heap.size := by omega
          have lA2 : A0 + 1 < Y.heap.size := by omega
          have z0 := hB.out.cell 0
          have z1 := hB.out.cell 1
          have z2 := hB.out.cell 2
          have z3 := hB.out.cell 3
          have z4 := hB.out.cell 4
          simp at z0 z1 z2 z3 z4
          clear y0 y1 y2 y3 y4 y5 y6 y7 y8 y9 y10 y11 y12
          rcases HC.out with rfl | ⟨rfl, hp0⟩ | ⟨rfl, hp1, hp2, q1, q2, q3, q4, q5, q6⟩
          · go_wp2_with fail
            refine (awake_any _).mono ?_
            rintro e1 w4 ⟨rfl, hw4⟩
            go_wp2
            go_ret
            exact ⟨rfl, C0.out.trans (hI.out.trans (hY.out.trans hw4))⟩
          · have HP0 := hide hp0
            clear hp0
            go_wp2
            go_roundw
            case rel => exact ⟨r + 1, by omega, by omega, by rw [upPs_succ p hr0 hlt, HP0.out, Int.add_zero], by rw [upPs_succ p hr0 hlt, HP0.out, Int.add_zero], rfl, hide (hI.out.trans hY.out)⟩
            case measure => simp [intOf]; omega
          · have HP1 := hide (And.intro hp1 hp2)
            have hq := HP.out r
            have hq1 : 0 ≤ W.possI b' h' l' n' ∧ W.possI b' h' l' n' ≤ 27 := by omega
            clear hp1 hp2 hq
            go_wp2_with fail
            refine (own_any _ _ _ _ _ _).mono ?_
            rintro e1 w4 ⟨rfl, hw4⟩
            go_wp2_with fail
            refine (rposs_any _ _ _ _ _ _ (by omega) (by omega) (by omega) (by omega) (by omega) (by omega)).mono ?_
            rintro e1 w5 ⟨rfl, hw5⟩
            go_wp2
            go_roundw
            case rel =>
              obtain ⟨e2, e3⟩ := HP1.out
              exact ⟨r + 1, by omega, by omega, by rw [upPs_succ p hr0 hlt, e3], by rw [upPs_succ p hr0 hlt]; simp; omega, rfl, hide (hI.out.trans (hY.out.trans (hw4.trans hw5)))⟩
            case measure => simp [intOf]; omega)
      · have d2 : decide (r ≤ 1) = false := by simpa using hlt
        have hs : upPs p r = W.possI b h l n := (upPs_end p (by omega)).trans HSum.out
        rw [hs]
        have ga := HAA.out
        have d3 : decide (0 < W.possI b h l n) = true := by simp; omega
        have q1 : 0 ≤ b := by omega
        have q2 : b ≤ 13 := by omega
        have q3 : 0 ≤ h := by omega
        have q4 : h ≤ 13 := by omega
        have q5 : 0 ≤ l := by omega
        have q6 : l ≤ 13 := by omega
        clear ga hs hu y5 y6 y7 y8 y9 y10 y11 y12
        go_wp2_with fail
        refine (rposs_any _ _ _ _ _ _ q1 q2 q3 q4 q5 q6).mono ?_
        rintro e1 w4 ⟨rfl, hw4⟩
        go_wp2_with fail
        refine (awake_any _).mono ?_
        rintro e1 w5 ⟨rfl, hw5⟩
        go_wp2
        go_ret
        exact ⟨rfl, C0.out.trans (hI.out.trans (hw4.trans hw5))⟩)

theorem weighMore_walk (v0 v1 : Value) (w : World) (h0 : IsKnown v0) (h1 : IsLoadV v1) : Calls Try.prog 7 #[v0, v1] w (Ret (.bool true) w) := by
  obtain ⟨b, h, l, g, n, rfl, _⟩ := h0
  obtain ⟨b0, b1, h0, h1, l0, l1, g0, g1, rfl, _⟩ := h1
  cases hv : W.vld b h l g n with
  | false => exact walk_more_no _ _ _ _ _ _ _ _ _ _ _ _ _ _ hv
  | true => exact walk_more_yes _ _ _ _ _ _ _ _ _ _ _ _ _ _ hv
end Go.Proofs.Ytohdjlgghkcaoaa
