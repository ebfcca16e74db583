/- Walk: the statement WeighBest. -/
import Derived.Test.YtohdjlgghkcaoaaBest
import Derived.Test.YtohdjlgghkcaoaaNd5
import Derived.Test.YtohdjlgghkcaoaaLaw4
import Derived.Test.YtohdjlgghkcaoaaOpen
namespace Go.Proofs.Ytohdjlgghkcaoaa
open Go.RowKit

@[go_sem] theorem eqArr0 (w : World) : (Op.equalIn 9999 31 (.agg #[.int .i64 0, .int .i64 0]) (.agg #[.int .i64 0, .int .i64 0])).run Try.prog w = .ok true w := by kernel_rfl

/-- After the best Load the need is less. -/
theorem best_next {k : W.K} {x : W.L} {m : Nat} {i : Int} (hg : W.good (W.wins m) k x = true) (h0 : -1 ≤ i) (h1 : i ≤ 1) (hp : 0 < (aftOf k x i).poss) (hm : m < 6) : ∃ j : Nat, j ≤ m ∧ needV (aftOf k x i) = .tuple #[.int .i64 (j : Int), .int .i64 0] := by
  obtain ⟨g1, g2, g3⟩ := W.good_iff.1 hg
  have hfine : W.fine (W.wins m) (aftOf k x i) = true := by
    rcases (show i = -1 ∨ i = 0 ∨ i = 1 by omega) with rfl | rfl | rfl
    · rw [aftOf_L]; exact g1
    · rw [aftOf_E]; exact g2
    · rw [aftOf_R]; exact g3
  have hw : W.wins m (aftOf k x i) = true := by
    rcases W.fine_iff.1 hfine with h | h
    · omega
    · exact h
  cases hn : W.need 6 (aftOf k x i) with
  | none => have := W.need_none.1 hn m hm; rw [hw] at this; cases this
  | some j =>
    refine ⟨j, ?_, needV_some hn⟩
    rcases Nat.lt_or_ge m j with h | h
    · have := (W.need_some.1 hn).2.2 m h; rw [hw] at this; cases this
    · exact h

set_option maxRecDepth 100000 in
set_option maxHeartbeats 1000000 in
theorem walk_best_no (b h l g : Int) (n : Bool) (w : World) (hv : W.vld b h l g n = false) : Calls Try.prog 8 #[.agg #[.int .i64 b, .int .i64 h, .int .i64 l, .int .i64 g, .bool n]] w (Ret (.bool true) w) := by
  have HB := hide fun w => Best_no b h l g n hv w
  have HV := hide fun w => rvalid_any b h l g n w
  rw [hv] at HV
  clear hv
  go_enter Try.func8, Try.ntmps8
  go_wp2_with fail
  refine (Of_any _ _ _ _ _ _).mono ?_
  rintro e w1 ⟨rfl, hw1⟩; (first | (replace hw0 := Chg.trans hw0 hw1; clear hw1 hc0 hf0 hz0) | (have hw0 := hw1; clear hw1)); obtain ⟨hc0, hf0⟩ := hw0.reads; have hzz := hw0.size; simp at hzz; have hz0 : w.heap.size < w1.heap.size := (by omega); clear hzz
  go_wp2_with fail
  refine (HB.out _).mono ?_
  unfold vL0
  rintro e w1 ⟨rfl, hw1⟩; (first | (replace hw0 := Chg.trans hw0 hw1; clear hw1 hc0 hf0 hz0) | (have hw0 := hw1; clear hw1)); obtain ⟨hc0, hf0⟩ := hw0.reads; have hzz := hw0.size; simp at hzz; have hz0 : w.heap.size < w1.heap.size := (by omega); clear hzz
  go_wp2_with fail
  refine (HV.out _).mono ?_
  rintro e w1 ⟨rfl, hw1⟩; (first | (replace hw0 := Chg.trans hw0 hw1; clear hw1 hc0 hf0 hz0) | (have hw0 := hw1; clear hw1)); obtain ⟨hc0, hf0⟩ := hw0.reads; have hzz := hw0.size; simp at hzz; have hz0 : w.heap.size < w1.heap.size := (by omega); clear hzz
  go_wp2_with fail
  refine (back_any _ _ _ _ _ _ _ _ _).mono ?_
  rintro e w1 ⟨rfl, hw1⟩; (first | (replace hw0 := Chg.trans hw0 hw1; clear hw1 hc0 hf0 hz0) | (have hw0 := hw1; clear hw1)); obtain ⟨hc0, hf0⟩ := hw0.reads; have hzz := hw0.size; simp at hzz; have hz0 : w.heap.size < w1.heap.size := (by omega); clear hzz
  go_wp2_with fail
  refine (awake_any _).mono ?_
  rintro e w4 ⟨rfl, hw4⟩
  go_wp2
  go_ret
  exact ⟨rfl, by clear hc0 hf0; (repeat' (first | with_reducible exact Chg.refl _ _ | with_reducible assumption | with_reducible apply Chg.drewN | with_reducible apply Chg.drew | with_reducible apply Chg.alloc | (with_reducible refine Chg.setCell ?_ (Or.inr ?_) _) | (with_reducible refine Chg.trans ?_ (by assumption)) | (simp; done) | (simp; omega)))⟩

set_option maxRecDepth 100000 in
set_option maxHeartbeats 4000000 in
theorem walk_best_yes (k : W.K) (hk : okK k) (w : World) : Calls Try.prog 8 #[.agg #[.int .i64 (k.b : Int), .int .i64 (k.h : Int), .int .i64 (k.l : Int), .int .i64 (k.g : Int), .bool k.n]] w (Ret (.bool true) w) := by
  have hV := fun w => rvalid_any (k.b : Int) (k.h : Int) (k.l : Int) (k.g : Int) k.n w
  rw [hk.vld] at hV
  have HV := hide hV
  have HK0 := hide hk
  have HN := hide fun w => RNeed_K k hk w
  clear hV hk
  go_enter Try.func8, Try.ntmps8
  go_wp2_with fail
  have b0 := Box.new w #[.int .i64 (k.b : Int), .int .i64 (k.h : Int), .int .i64 (k.l : Int), .int .i64 (k.g : Int), .bool k.n] 30
  have C0 : Hid (Chg [] w (w.alloc (.cells #[.int .i64 (k.b : Int), .int .i64 (k.h : Int), .int .i64 (k.l : Int), .int .i64 (k.g : Int), .bool k.n] 30))) := hide ((Chg.refl _ _).alloc _)
  generalize w.alloc (.cells #[.int .i64 (k.b : Int), .int .i64 (k.h : Int), .int .i64 (k.l : Int), .int .i64 (k.g : Int), .bool k.n] 30) = W0 at b0 C0 ⊢
  generalize w.heap.size = A0 at b0 ⊢
  refine (Of_any _ _ _ _ _ _).mono ?_
  rintro e w1 ⟨rfl, hw1⟩
  have b1 := b0.keep hw1 (by simp)
  have C1 : Hid (Chg [] w w1) := hide (C0.out.trans hw1)
  clear b0 hw1
  go_wp2_with fail
  refine (Best_yes k HK0.out _).mono ?_
  rintro e w2 ⟨v, rfl, hb, hw2⟩
  have b2 := b1.keep hw2 (by simp)
  have C2 : Hid (Chg [] w w2) := hide (C1.out.trans hw2)
  have f := fun o => b2.cell o
  have lk := b2.lt
  clear b1 hw2
  rcases hb with ⟨rfl, hn⟩ | ⟨m, x, rfl, hn, hf, hg⟩
  · unfold vL0
    have C3 : Hid (Chg [] w (w2.alloc (.cells #[.int .i64 0, .int .i64 0, .int .i64 0, .int .i64 0, .int .i64 0, .int .i64 0, .int .i64 0, .int .i64 0] 37))) := hide (C2.out.alloc _)
    have HN2 := hide hn
    go_wp2_with fail
    refine (HV.out _).mono ?_
    rintro e w3 ⟨rfl, hw3⟩
    have b3 := (b2.old (.cells #[.int .i64 0, .int .i64 0, .int .i64 0, .int .i64 0, .int .i64 0, .int .i64 0, .int .i64 0, .int .i64 0] 37)).keep hw3 (by simp)
    have x3 := (Box.new w2 #[.int .i64 0, .int .i64 0, .int .i64 0, .int .i64 0, .int .i64 0, .int .i64 0, .int .i64 0, .int .i64 0] 37).keep hw3 (by simp)
    have C4 : Hid (Chg [] w w3) := hide (C3.out.trans hw3)
    clear f lk hw3 b2
    have f := fun o => b3.cell o
    have lk := b3.lt
    have X3 := hide x3
    clear x3 b3
    generalize w2.heap.size = A1 at X3 ⊢
    go_wp2_with fail
    refine (HN.out _).mono ?_
    rintro e w4 ⟨rfl, hw4⟩
    have x4 := X3.out.keep hw4 (by simp)
    have C5 : Hid (Chg [] w w4) := hide (C4.out.trans hw4)
    have h := fun o => x4.cell o
    have lx := x4.lt
    clear f lk hw4 x4 hn
    rcases HN2.out with hn | hn
    · rw [needV_none hn]
      clear hn
      go_wp2_with fail
      refine (back_any _ _ _ _ _ _ _ _ _).mono ?_
      rintro e w5 ⟨rfl, hw5⟩
      have C6 : Hid (Chg [] w w5) := hide (C5.out.trans hw5)
      clear hw5 h lx
      go_wp2_with fail
      refine (awake_any _).mono ?_
      rintro e w6 ⟨rfl, hw6⟩
      go_wp2
      go_ret
      exact ⟨rfl, C6.out.trans hw6⟩
    · rw [needV_some hn]
      clear hn
      go_wp2_with fail
      refine (back_any _ _ _ _ _ _ _ _ _).mono ?_
      rintro e w5 ⟨rfl, hw5⟩
      have C6 : Hid (Chg [] w w5) := hide (C5.out.trans hw5)
      clear hw5 h lx
      go_wp2_with fail
      refine (awake_any _).mono ?_
      rintro e w6 ⟨rfl, hw6⟩
      go_wp2
      go_ret
      exact ⟨rfl, C6.out.trans hw6⟩
  · unfold vLx
    have C3 : Hid (Chg [] w (w2.alloc (.cells #[.int .i64 (x.b0 : Int), .int .i64 (x.b1 : Int), .int .i64 (x.h0 : Int), .int .i64 (x.h1 : Int), .int .i64 (x.l0 : Int), .int .i64 (x.l1 : Int), .int .i64 (x.g0 : Int), .int .i64 (x.g1 : Int)] 37))) := hide (C2.out.alloc _)
    go_wp2_with fail
    refine (HV.out _).mono ?_
    rintro e w3 ⟨rfl, hw3⟩
    have b3 := (b2.old (.cells #[.int .i64 (x.b0 : Int), .int .i64 (x.b1 : Int), .int .i64 (x.h0 : Int), .int .i64 (x.h1 : Int), .int .i64 (x.l0 : Int), .int .i64 (x.l1 : Int), .int .i64 (x.g0 : Int), .int .i64 (x.g1 : Int)] 37)).keep hw3 (by simp)
    have x3 := (Box.new w2 #[.int .i64 (x.b0 : Int), .int .i64 (x.b1 : Int), .int .i64 (x.h0 : Int), .int .i64 (x.h1 : Int), .int .i64 (x.l0 : Int), .int .i64 (x.l1 : Int), .int .i64 (x.g0 : Int), .int .i64 (x.g1 : Int)] 37).keep hw3 (by simp)
    have C4 : Hid (Chg [] w w3) := hide (C3.out.trans hw3)
    clear f lk hw3 b2
    generalize w2.heap.size = A1 at x3 ⊢
    have f := fun o => b3.cell o
    have lk := b3.lt
    have HKk : Hid (∀ X, Chg [] w3 X → X.cell? ⟨A0, 0, none⟩ = some (.int .i64 (k.b : Int)) ∧ X.cell? ⟨A0, 1, none⟩ = some (.int .i64 (k.h : Int)) ∧ X.cell? ⟨A0, 2, none⟩ = some (.int .i64 (k.l : Int)) ∧ X.cell? ⟨A0, 3, none⟩ = some (.int .i64 (k.g : Int)) ∧ X.cell? ⟨A0, 4, none⟩ = some (.bool k.n) ∧ X.cell? ⟨A1, 0, none⟩ = some (.int .i64 (x.b0 : Int)) ∧ X.cell? ⟨A1, 1, none⟩ = some (.int .i64 (x.b1 : Int)) ∧ X.cell? ⟨A1, 2, none⟩ = some (.int .i64 (x.h0 : Int)) ∧ X.cell? ⟨A1, 3, none⟩ = some (.int .i64 (x.h1 : Int)) ∧ X.cell? ⟨A1, 4, none⟩ = some (.int .i64 (x.l0 : Int)) ∧ X.cell? ⟨A1, 5, none⟩ = some (.int .i64 (x.l1 : Int)) ∧ X.cell? ⟨A1, 6, none⟩ = some (.int .i64 (x.g0 : Int)) ∧ X.cell? ⟨A1, 7, none⟩ = some (.int .i64 (x.g1 : Int))) := hide fun X hX => by
      have y0 := b3.keep hX (by simp)
      have y1 := x3.keep hX (by simp)
      exact ⟨y0.cell 0, y0.cell 1, y0.cell 2, y0.cell 3, y0.cell 4, y1.cell 0, y1.cell 1, y1.cell 2, y1.cell 3, y1.cell 4, y1.cell 5, y1.cell 6, y1.cell 7⟩
    have la : Hid (A0 < w3.heap.size ∧ A1 < w3.heap.size) := hide ⟨b3.lt, x3.lt⟩
    clear x3 b3
    have HND := hide hn
    have HFG := hide (And.intro hf hg)
    have hm6 := (W.need_some.1 hn).1
    have dn : ((m : Int) + 1 == 0) = false := by simp; omega
    clear hn hf hg
    go_wp2_with fail
    refine (HN.out _).mono ?_
    rw [needV_some HND.out, show ((m + 1 : Nat) : Int) = (m : Int) + 1 from by omega]
    rintro e w4 ⟨rfl, hw4⟩
    have C5 : Hid (Chg [] w w4) := hide (C4.out.trans hw4)
    have K4 := hide hw4
    obtain ⟨y0, y1, y2, y3, y4, y5, y6, y7, y8, y9, y10, y11, y12⟩ := HKk.out _ hw4
    obtain ⟨la0, la1⟩ : A0 < w4.heap.size ∧ A1 < w4.heap.size := by have := hw4.size; have := la.out; omega
    clear f lk hw4
    have HL : Hid (∀ w, Calls Try.prog 22 #[.agg #[.int .i64 (k.b : Int), .int .i64 (k.h : Int), .int .i64 (k.l : Int), .int .i64 (k.g : Int), .bool k.n], .agg #[.int .i64 (x.b0 : Int), .int .i64 (x.b1 : Int), .int .i64 (x.h0 : Int), .int .i64 (x.h1 : Int), .int .i64 (x.l0 : Int), .int .i64 (x.l1 : Int), .int .i64 (x.g0 : Int), .int .i64 (x.g1 : Int)]] w (Ret (.bool true) w)) := hide fun w => by
      have h := HK0.out
      have h1 := h.1
      have h2 := h.2.1
      have := risload_any (k.b : Int) (k.h : Int) (k.l : Int) (k.g : Int) (x.b0 : Int) (x.b1 : Int) (x.h0 : Int) (x.h1 : Int) (x.l0 : Int) (x.l1 : Int) (x.g0 : Int) (x.g1 : Int) k.n w (by omega) (by omega) (by omega) (by omega)
      rw [W.isLd_fits (k := k) (x := x) rfl rfl, HFG.out.1] at this
      exact this
    go_wp2
    refine wp_region_ext (by kernel_rfl) (by kernel_rfl) ?_
    repeat (first | go_big_quiet_step ((first | (go_at_call 30; exact calls_of_ret (back_any _ _ _ _ _ _ _ _ _)) | (go_at_call 22; exact calls_of_ret (HL.out _)))) | quiet_step ((first | (go_at_call 30; exact calls_of_ret (back_any _ _ _ _ _ _ _ _ _)) | (go_at_call 22; exact calls_of_ret (HL.out _)))))
    refine wpQuiet_nil ?_
    intro wx hx
    have C6 : Hid (Chg [] w wx) := hide (C5.out.trans hx)
    have HKx : Hid (∀ X, Chg [] wx X → X.cell? ⟨A0, 0, none⟩ = some (.int .i64 (k.b : Int)) ∧ X.cell? ⟨A0, 1, none⟩ = some (.int .i64 (k.h : Int)) ∧ X.cell? ⟨A0, 2, none⟩ = some (.int .i64 (k.l : Int)) ∧ X.cell? ⟨A0, 3, none⟩ = some (.int .i64 (k.g : Int)) ∧ X.cell? ⟨A0, 4, none⟩ = some (.bool k.n) ∧ X.cell? ⟨A1, 0, none⟩ = some (.int .i64 (x.b0 : Int)) ∧ X.cell? ⟨A1, 1, none⟩ = some (.int .i64 (x.b1 : Int)) ∧ X.cell? ⟨A1, 2, none⟩ = some (.int .i64 (x.h0 : Int)) ∧ X.cell? ⟨A1, 3, none⟩ = some (.int .i64 (x.h1 : Int)) ∧ X.cell? ⟨A1, 4, none⟩ = some (.int .i64 (x.l0 : Int)) ∧ X.cell? ⟨A1, 5, none⟩ = some (.int .i64 (x.l1 : Int)) ∧ X.cell? ⟨A1, 6, none⟩ = some (.int .i64 (x.g0 : Int)) ∧ X.cell? ⟨A1, 7, none⟩ = some (.int .i64 (x.g1 : Int))) := hide fun X hX => HKk.out X (K4.out.trans (hx.trans hX))
    have lax : Hid (A0 < wx.heap.size ∧ A1 < wx.heap.size) := hide (by have := hx.size; omega)
    clear y0 y1 y2 y3 y4 y5 y6 y7 y8 y9 y10 y11 y12 la0 la1 hx
    go_wp2
    go_loopw [7] (fun r wr => ∃ i : Int, -1 ≤ i ∧ i ≤ 2 ∧ r = .int .i64 i ∧ Hid (Chg [] wx wr)) (fun r _ => (2 - intOf r).toNat)
    case atStart => exact ⟨-1, by omega, by omega, rfl, hide (Chg.refl _ _)⟩
    case round =>
      obtain ⟨i, hi0, hi1, rfl, hI⟩ := hrel
      have zr := hI.out.size
      obtain ⟨lr0, lr1⟩ : A0 < wr.heap.size ∧ A1 < wr.heap.size := by have := lax.out; omega
      by_cases hlt : i ≤ 1
      · have d2 : decide (i ≤ 1) = true := by simpa using hlt
        obtain ⟨y0, y1, y2, y3, y4, y5, y6, y7, y8, y9, y10, y11, y12⟩ := HKx.out _ hI.out
        have HKr := hide (fun X (hX : Chg [] wr X) => HKx.out X (hI.out.trans hX))
        by_cases hp : 0 < (aftOf k x i).poss
        · have HA := hide fun w => by
            have := RAfter_K k x i w HK0.out HFG.out.1 hi0 hlt
            rw [if_pos hp] at this
            exact this
          obtain ⟨j, hj, hnx⟩ := best_next HFG.out.2 hi0 hlt hp (by omega)
          have HNx := hide fun w => RNeed_K (aftOf k x i) (aftOf_ok HK0.out HFG.out.1 i hp) w
          rw [hnx] at HNx
          have dj : decide ((m : Int) + 1 ≤ (j : Int)) = false := by simp; omega
          clear hp hnx hj
          go_wp2
          go_region_held3 (fun X => X.cell? ⟨A0, 0, none⟩ = some (.int .i64 (k.b : Int)) ∧ X.cell? ⟨A0, 1, none⟩ = some (.int .i64 (k.h : Int)) ∧ X.cell? ⟨A0, 2, none⟩ = some (.int .i64 (k.l : Int)) ∧ X.cell? ⟨A0, 3, none⟩ = some (.int .i64 (k.g : Int)) ∧ X.cell? ⟨A0, 4, none⟩ = some (.bool k.n) ∧ X.cell? ⟨A1, 0, none⟩ = some (.int .i64 (x.b0 : Int)) ∧ X.cell? ⟨A1, 1, none⟩ = some (.int .i64 (x.b1 : Int)) ∧ X.cell? ⟨A1, 2, none⟩ = some (.int .i64 (x.h0 : Int)) ∧ X.cell? ⟨A1, 3, none⟩ = some (.int .i64 (x.h1 : Int)) ∧ X.cell? ⟨A1, 4, none⟩ = some (.int .i64 (x.l0 : Int)) ∧ X.cell? ⟨A1, 5, none⟩ = some (.int .i64 (x.l1 : Int)) ∧ X.cell? ⟨A1, 6, none⟩ = some (.int .i64 (x.g0 : Int)) ∧ X.cell? ⟨A1, 7, none⟩ = some (.int .i64 (x.g1 : Int)))
            (first | (refine HKr.out _ ?_; (repeat' (first | with_reducible exact Chg.refl _ _ | with_reducible assumption | with_reducible apply Chg.drewN | with_reducible apply Chg.drew | with_reducible apply Chg.alloc | (with_reducible refine Chg.setCell ?_ (Or.inr ?_) _) | (with_reducible refine Chg.trans ?_ (by assumption)) | (simp; done) | (simp; omega)))))
            ((first | (go_at_call 30; refine (back_any _ _ _ _ _ _ _ _ _).mono ?_; rintro e w1 ⟨rfl, hw1⟩; have hz1 := hw1.size; (try simp at hz1); obtain ⟨hc1, hf1⟩ := hw1.reads; (try have hy1 : wr.heap.size < w1.heap.size := (by omega))) | (go_at_call 24; refine (HA.out _).mono ?_; rintro e w2 ⟨rfl, hw2⟩; have hz2 := hw2.size; (try simp at hz2); obtain ⟨hc2, hf2⟩ := hw2.reads; (try have hy2 : wr.heap.size < w2.heap.size := (by omega)); (try have hy3 : w1.heap.size < w2.heap.size := (by omega)))))
          all_goals clear hc1 hf1 hc2 hf2
          all_goals first | (refine step5 (W0 := wr) (q := wr.heap.size) (u0 := .int .i64 ((aftOf k x i).b : Int)) (u1 := .int .i64 ((aftOf k x i).h : Int)) (u2 := .int .i64 ((aftOf k x i).l : Int)) (u3 := .int .i64 ((aftOf k x i).g : Int)) (u4 := .bool (aftOf k x i).n) (T := 30) (by omega) ?_ ?_ ?_; (focus ((repeat' (first | with_reducible exact Chg.refl _ _ | with_reducible assumption | with_reducible apply Chg.drewN | with_reducible apply Chg.drew | with_reducible apply Chg.alloc | (with_reducible refine Chg.setCell ?_ (Or.inr ?_) _) | (with_reducible refine Chg.trans ?_ (by assumption)) | (simp; done) | (simp; omega))); done)); (focus (first | (with_reducible exact Box.new _ _ _; done) | (with_reducible refine Box.set5 (v0 := .int .i64 0) (v1 := .int .i64 0) (v2 := .int .i64 0) (v3 := .int .i64 0) (v4 := .bool false) ?_ _ _ _ _ _; (repeat (first | (with_reducible refine Box.keep (S := []) ?_ hw2 List.not_mem_nil) | (with_reducible refine Box.keep (S := []) ?_ hw1 List.not_mem_nil))); first | (with_reducible exact Box.new _ _ _) | (with_reducible refine Box.drew ?_; with_reducible exact Box.new _ _ _) | (with_reducible refine Box.drew ?_; with_reducible refine Box.keep (S := []) ?_ hw1 List.not_mem_nil; with_reducible exact Box.new _ _ _); done)))) | (refine step5 (W0 := wr) (q := w1.heap.size) (u0 := .int .i64 ((aftOf k x i).b : Int)) (u1 := .int .i64 ((aftOf k x i).h : Int)) (u2 := .int .i64 ((aftOf k x i).l : Int)) (u3 := .int .i64 ((aftOf k x i).g : Int)) (u4 := .bool (aftOf k x i).n) (T := 30) (by omega) ?_ ?_ ?_; (focus ((repeat' (first | with_reducible exact Chg.refl _ _ | with_reducible assumption | with_reducible apply Chg.drewN | with_reducible apply Chg.drew | with_reducible apply Chg.alloc | (with_reducible refine Chg.setCell ?_ (Or.inr ?_) _) | (with_reducible refine Chg.trans ?_ (by assumption)) | (simp; done) | (simp; omega))); done)); (focus (first | (with_reducible exact Box.new _ _ _; done) | (with_reducible refine Box.set5 (v0 := .int .i64 0) (v1 := .int .i64 0) (v2 := .int .i64 0) (v3 := .int .i64 0) (v4 := .bool false) ?_ _ _ _ _ _; (repeat (first | (with_reducible refine Box.keep (S := []) ?_ hw2 List.not_mem_nil) | (with_reducible refine Box.keep (S := []) ?_ hw1 List.not_mem_nil))); first | (with_reducible exact Box.new _ _ _) | (with_reducible refine Box.drew ?_; with_reducible exact Box.new _ _ _) | (with_reducible refine Box.drew ?_; with_reducible refine Box.keep (S := []) ?_ hw1 List.not_mem_nil; with_reducible exact Box.new _ _ _); done)))) | skip
          all_goals try (refine step5 (W0 := wr) (q := w2.heap.size) (u0 := .int .i64 ((aftOf k x i).b : Int)) (u1 := .int .i64 ((aftOf k x i).h : Int)) (u2 := .int .i64 ((aftOf k x i).l : Int)) (u3 := .int .i64 ((aftOf k x i).g : Int)) (u4 := .bool (aftOf k x i).n) (T := 30) (by omega) ?_ ?_ ?_; (focus ((repeat' (first | with_reducible exact Chg.refl _ _ | with_reducible assumption | with_reducible apply Chg.drewN | with_reducible apply Chg.drew | with_reducible apply Chg.alloc | (with_reducible refine Chg.setCell ?_ (Or.inr ?_) _) | (with_reducible refine Chg.trans ?_ (by assumption)) | (simp; done) | (simp; omega))); done)); (focus (first | (with_reducible exact Box.new _ _ _; done) | (with_reducible refine Box.set5 (v0 := .int .i64 0) (v1 := .int .i64 0) (v2 := .int .i64 0) (v3 := .int .i64 0) (v4 := .bool false) ?_ _ _ _ _ _; (repeat (first | (with_reducible refine Box.keep (S := []) ?_ hw2 List.not_mem_nil) | (with_reducible refine Box.keep (S := []) ?_ hw1 List.not_mem_nil))); first | (with_reducible exact Box.new _ _ _) | (with_reducible refine Box.drew ?_; with_reducible exact Box.new _ _ _) | (with_reducible refine Box.drew ?_; with_reducible refine Box.keep (S := []) ?_ hw1 List.not_mem_nil; with_reducible exact Box.new _ _ _); done))))
          all_goals clear hz1 hz2 hw1 hw2
          all_goals (
            intro Y hY hB lB
            have lY := hY.out.size
            have z0 := hB.out.cell 0
            have z1 := hB.out.cell 1
            have z2 := hB.out.cell 2
            have z3 := hB.out.cell 3
            have z4 := hB.out.cell 4
            simp at z0 z1 z2 z3 z4
            clear y0 y1 y2 y3 y4 y5 y6 y7 y8 y9 y10 y11 y12
            go_wp2_with fail
            refine (HNx.out _).mono ?_
            rintro e w4 ⟨rfl, hw4⟩
            go_wp2
            go_roundw
            case rel => exact ⟨i + 1, by omega, by omega, rfl, hide (hI.out.trans (hY.out.trans hw4))⟩
            case measure => simp [intOf]; omega)
        · have HA := hide fun w => by
            have := RAfter_K k x i w HK0.out HFG.out.1 hi0 hlt
            rw [if_neg hp] at this
            exact this
          clear hp
          go_wp2
          go_region_held3 (fun X => X.cell? ⟨A0, 0, none⟩ = some (.int .i64 (k.b : Int)) ∧ X.cell? ⟨A0, 1, none⟩ = some (.int .i64 (k.h : Int)) ∧ X.cell? ⟨A0, 2, none⟩ = some (.int .i64 (k.l : Int)) ∧ X.cell? ⟨A0, 3, none⟩ = some (.int .i64 (k.g : Int)) ∧ X.cell? ⟨A0, 4, none⟩ = some (.bool k.n) ∧ X.cell? ⟨A1, 0, none⟩ = some (.int .i64 (x.b0 : Int)) ∧ X.cell? ⟨A1, 1, none⟩ = some (.int .i64 (x.b1 : Int)) ∧ X.cell? ⟨A1, 2, none⟩ = some (.int .i64 (x.h0 : Int)) ∧ X.cell? ⟨A1, 3, none⟩ = some (.int .i64 (x.h1 : Int)) ∧ X.cell? ⟨A1, 4, none⟩ = some (.int .i64 (x.l0 : Int)) ∧ X.cell? ⟨A1, 5, none⟩ = some (.int .i64 (x.l1 : Int)) ∧ X.cell? ⟨A1, 6, none⟩ = some (.int .i64 (x.g0 : Int)) ∧ X.cell? ⟨A1, 7, none⟩ = some (.int .i64 (x.g1 : Int)))
            (first | (refine HKr.out _ ?_; (repeat' (first | with_reducible exact Chg.refl _ _ | with_reducible assumption | with_reducible apply Chg.drewN | with_reducible apply Chg.drew | with_reducible apply Chg.alloc | (with_reducible refine Chg.setCell ?_ (Or.inr ?_) _) | (with_reducible refine Chg.trans ?_ (by assumption)) | (simp; done) | (simp; omega)))))
            ((first | (go_at_call 30; refine (back_any _ _ _ _ _ _ _ _ _).mono ?_; rintro e w1 ⟨rfl, hw1⟩; have hz1 := hw1.size; (try simp at hz1); obtain ⟨hc1, hf1⟩ := hw1.reads; (try have hy1 : wr.heap.size < w1.heap.size := (by omega))) | (go_at_call 24; refine (HA.out _).mono ?_; rintro e w2 ⟨rfl, hw2⟩; have hz2 := hw2.size; (try simp at hz2); obtain ⟨hc2, hf2⟩ := hw2.reads; (try have hy2 : wr.heap.size < w2.heap.size := (by omega)); (try have hy3 : w1.heap.size < w2.heap.size := (by omega)))))
          all_goals clear hc1 hf1 hc2 hf2
          all_goals first | (refine step5 (W0 := wr) (q := wr.heap.size) (u0 := .int .i64 0) (u1 := .int .i64 0) (u2 := .int .i64 0) (u3 := .int .i64 0) (u4 := .bool false) (T := 30) (by omega) ?_ ?_ ?_; (focus ((repeat' (first | with_reducible exact Chg.refl _ _ | with_reducible assumption | with_reducible apply Chg.drewN | with_reducible apply Chg.drew | with_reducible apply Chg.alloc | (with_reducible refine Chg.setCell ?_ (Or.inr ?_) _) | (with_reducible refine Chg.trans ?_ (by assumption)) | (simp; done) | (simp; omega))); done)); (focus (first | (with_reducible exact Box.new _ _ _; done) | (with_reducible refine Box.set5 (v0 := .int .i64 0) (v1 := .int .i64 0) (v2 := .int .i64 0) (v3 := .int .i64 0) (v4 := .bool false) ?_ _ _ _ _ _; (repeat (first | (with_reducible refine Box.keep (S := []) ?_ hw2 List.not_mem_nil) | (with_reducible refine Box.keep (S := []) ?_ hw1 List.not_mem_nil))); first | (with_reducible exact Box.new _ _ _) | (with_reducible refine Box.drew ?_; with_reducible exact Box.new _ _ _) | (with_reducible refine Box.drew ?_; with_reducible refine Box.keep (S := []) ?_ hw1 List.not_mem_nil; with_reducible exact Box.new _ _ _); done)))) | (refine step5 (W0 := wr) (q := w1.heap.size) (u0 := .int .i64 0) (u1 := .int .i64 0) (u2 := .int .i64 0) (u3 := .int .i64 0) (u4 := .bool false) (T := 30) (by omega) ?_ ?_ ?_; (focus ((repeat' (first | with_reducible exact Chg.refl _ _ | with_reducible assumption | with_reducible apply Chg.drewN | with_reducible apply Chg.drew | with_reducible apply Chg.alloc | (with_reducible refine Chg.setCell ?_ (Or.inr ?_) _) | (with_reducible refine Chg.trans ?_ (by assumption)) | (simp; done) | (simp; omega))); done)); (focus (first | (with_reducible exact Box.new _ _ _; done) | (with_reducible refine Box.set5 (v0 := .int .i64 0) (v1 := .int .i64 0) (v2 := .int .i64 0) (v3 := .int .i64 0) (v4 := .bool false) ?_ _ _ _ _ _; (repeat (first | (with_reducible refine Box.keep (S := []) ?_ hw2 List.not_mem_nil) | (with_reducible refine Box.keep (S := []) ?_ hw1 List.not_mem_nil))); first | (with_reducible exact Box.new _ _ _) | (with_reducible refine Box.drew ?_; with_reducible exact Box.new _ _ _) | (with_reducible refine Box.drew ?_; with_reducible refine Box.keep (S := []) ?_ hw1 List.not_mem_nil; with_reducible exact Box.new _ _ _); done)))) | skip
          all_goals try (refine step5 (W0 := wr) (q := w2.heap.size) (u0 := .int .i64 0) (u1 := .int .i64 0) (u2 := .int .i64 0) (u3 := .int .i64 0) (u4 := .bool false) (T := 30) (by omega) ?_ ?_ ?_; (focus ((repeat' (first | with_reducible exact Chg.refl _ _ | with_reducible assumption | with_reducible apply Chg.drewN | with_reducible apply Chg.drew | with_reducible apply Chg.alloc | (with_reducible refine Chg.setCell ?_ (Or.inr ?_) _) | (with_reducible refine Chg.trans ?_ (by assumption)) | (simp; done) | (simp; omega))); done)); (focus (first | (with_reducible exact Box.new _ _ _; done) | (with_reducible refine Box.set5 (v0 := .int .i64 0) (v1 := .int .i64 0) (v2 := .int .i64 0) (v3 := .int .i64 0) (v4 := .bool false) ?_ _ _ _ _ _; (repeat (first | (with_reducible refine Box.keep (S := []) ?_ hw2 List.not_mem_nil) | (with_reducible refine Box.keep (S := []) ?_ hw1 List.not_mem_nil))); first | (with_reducible exact Box.new _ _ _) | (with_reducible refine Box.drew ?_; with_reducible exact Box.new _ _ _) | (with_reducible refine Box.drew ?_; with_reducible refine Box.keep (S := []) ?_ hw1 List.not_mem_nil; with_reducible exact Box.new _ _ _); done))))
          all_goals clear hz1 hz2 hw1 hw2
          all_goals (
            intro Y hY hB lB
            clear y0 y1 y2 y3 y4 y5 y6 y7 y8 y9 y10 y11 y12
            go_wp2
            go_roundw
            case rel => exact ⟨i + 1, by omega, by omega, rfl, hide (hI.out.trans hY.out)⟩
            case measure => simp [intOf]; omega)
      · have d2 : decide (i ≤ 1) = false := by simpa using hlt
        go_wp2_with fail
        refine (awake_any _).mono ?_
        rintro e w5 ⟨rfl, hw5⟩
        go_wp2
        go_ret
        exact ⟨rfl, C6.out.trans (hI.out.trans hw5)⟩

theorem weighBest_walk (v0 : Value) (w : World) (h0 : IsKnown v0) : Calls Try.prog 8 #[v0] w (Ret (.bool true) w) := by
  obtain ⟨b, h, l, g, n, rfl, _⟩ := h0
  cases hv : W.vld b h l g n with
  | false => exact walk_best_no _ _ _ _ _ w hv
  | true =>
    obtain ⟨k, hk, rfl, rfl, rfl, rfl, rfl⟩ := vld_K hv
    exact walk_best_yes k hk w
end Go.Proofs.Ytohdjlgghkcaoaa
