/- Walk: the program's search for the fewest weights. -/
import Derived.Test.YtohdjlgghkcaoaaWt7
namespace Go.Proofs.Ytohdjlgghkcaoaa
open Go.RowKit Go.Maps

/-- The search's memory. -/
def WtSt (w1 W0 : World) (Bw Bn Bg n : Nat) (w : World) (v : Value) (us : List Int) : Prop :=
  Box w Bw #[v] 51 ∧ Box w Bn #[.int .i64 (n : Int)] 3 ∧ Box w Bg #[.func (.func 60) #[] #[.pointer (some ⟨Bw, 0, none⟩), .pointer (some ⟨Bn, 0, none⟩), .pointer (some ⟨Bg, 0, none⟩)]] 73 ∧ w.ownsRow W0.heap.size 3 1 v us.length (us.map (Value.int .i64)) ∧ Chg [] w1 w ∧ W0.heap.size ≤ w.heap.size
def WGrowOk (w1 W0 : World) (Bw Bn Bg n size m : Nat) : Prop := ∀ (us : List Int) (v : Value) (w : World), us.length + m = size → W.Asc us → WtSt w1 W0 Bw Bn Bg n w v us →
  Calls Try.prog 60 #[.int .i64 (size : Int), .int .i64 (W.total us), .pointer (some ⟨Bw, 0, none⟩), .pointer (some ⟨Bn, 0, none⟩), .pointer (some ⟨Bg, 0, none⟩)] w
    fun e w' => ∃ v', (e = .returned (.bool true) ∧ ∃ q, W.growW n m us = some q ∧ WtSt w1 W0 Bw Bn Bg n w' v' q) ∨ (e = .returned (.bool false) ∧ W.growW n m us = none ∧ WtSt w1 W0 Bw Bn Bg n w' v' us)
theorem WtSt.keep {w1 W0 w w' : World} {Bw Bn Bg n : Nat} {v : Value} {us : List Int} (h : WtSt w1 W0 Bw Bn Bg n w v us) (hc : Chg [] w w') : WtSt w1 W0 Bw Bn Bg n w' v us := by
  obtain ⟨b1, b2, b3, hro, hch, hbs⟩ := h
  exact ⟨b1.keep hc List.not_mem_nil, b2.keep hc List.not_mem_nil, b3.keep hc List.not_mem_nil, hc.row hro (fun _ _ => List.not_mem_nil), hch.trans hc, Nat.le_trans hbs hc.size⟩
theorem asc_total {us : List Int} (h : W.Asc us) (hl : us.length ≤ 5) : 0 ≤ W.total us ∧ W.total us ≤ 300 := by
  have := W.total_le (xs := us) (m := 60) (fun x hx => by
    obtain ⟨i, hi, he⟩ := List.getElem_of_mem hx
    have := h i hi
    rw [List.getD_eq_getElem?_getD, List.getElem?_eq_getElem hi] at this
    simp only [Option.getD_some, he] at this
    omega)
  omega

set_option maxRecDepth 100000 in
set_option maxHeartbeats 2000000 in
theorem wgrow_end (w1 W0 : World) (Bw Bn Bg n size : Nat) (hk1 : 1 ≤ size) (hk4 : size ≤ 4) : WGrowOk w1 W0 Bw Bn Bg n size 0 := by
  intro us v w hl ha h
  have hl : us.length = size := by omega
  have HST := hide h
  obtain ⟨b1, b2, b3, hro, hch, hbs⟩ := h
  obtain ⟨ao, cap, rfl, hlc⟩ := row_shape hro
  have c1 := b1.cell 0
  have c2 := b2.cell 0
  simp at c1 c2
  have lp := b1.lt
  have ln := b2.lt
  have hW : W.isW us 200 = true := W.isW_mono (ha.isW (by omega) (by omega)) (by omega)
  have hsee : See w (.slice ao us.length cap) us := Ints.toSee (row_low hro (Nat.zero_le _))
  have hcall : Hid (∀ ws, Chg [] w ws → Calls Try.prog 59 #[.slice ao us.length cap] ws (Ret (.int .i64 (W.far us : Int)) ws)) := hide fun ws (hw : Chg [] w ws) => weighs_W _ us ws (hsee.keep hw) hW
  have HF : Hid (W.growW n 0 us = if n ≤ W.far us then some us else none) := hide rfl
  have hft : (W.far us : Int) ≤ W.total us := (W.isW_far (Int.le_refl _) hW).le_total (fun x hx => by have := W.isW_mem hW x hx; omega) (asc_total ha (by omega)).1
  have HK := hide (fun X (hX : Chg [] w X) => (⟨(b2.keep hX List.not_mem_nil).cell 0, (b1.keep hX List.not_mem_nil).cell 0⟩ : X.cell? ⟨Bn, 0, none⟩ = some (.int .i64 (n : Int)) ∧ X.cell? ⟨Bw, 0, none⟩ = some (.slice ao us.length cap)))
  rw [hl] at c1 hcall HK HST
  have e1 : ((size : Int) == (size : Int)) = true := by simp
  clear b1 b2 b3 hro hch hW hsee ha
  generalize W.far us = FF at hcall HF hft
  obtain ⟨T, hT⟩ : ∃ T, T = W.total us := ⟨_, rfl⟩
  rw [← hT] at hft ⊢
  clear hT
  by_cases h1 : (n : Int) ≤ T
  · have d1 : decide ((n : Int) ≤ T) = true := by simpa using h1
    by_cases h2 : n ≤ FF
    · have d2 : decide ((n : Int) ≤ (FF : Int)) = true := by simp; omega
      have E : Hid (W.growW n 0 us = some us) := hide (by rw [HF.out, if_pos h2])
      go_enter Try.func60, Try.ntmps60
      go_wp2
      go_region_held3 (fun X => X.cell? ⟨Bn, 0, none⟩ = some (.int .i64 (n : Int)) ∧ X.cell? ⟨Bw, 0, none⟩ = some (.slice ao size cap))
        (first | (focus (refine HK.out _ ?_; (repeat' (first | with_reducible exact Chg.refl _ _ | with_reducible assumption | with_reducible apply Chg.drewN | with_reducible apply Chg.drew | with_reducible apply Chg.alloc | (with_reducible refine Chg.setCell ?_ (Or.inr ?_) _) | (with_reducible refine Chg.trans ?_ (by assumption)) | (simp; done) | (simp; omega))); done)))
        ((first | (go_at_call 59; refine (hcall.out _ (by (repeat' (first | with_reducible exact Chg.refl _ _ | with_reducible assumption | with_reducible apply Chg.drewN | with_reducible apply Chg.drew | with_reducible apply Chg.alloc | (with_reducible refine Chg.setCell ?_ (Or.inr ?_) _) | (with_reducible refine Chg.trans ?_ (by assumption)) | (simp; done) | (simp; omega))))).mono ?_; rintro e wA ⟨rfl, hwA⟩)))
      all_goals (
        have kW : Chg [] w wA := by (repeat' (first | with_reducible exact Chg.refl _ _ | with_reducible assumption | with_reducible apply Chg.drewN | with_reducible apply Chg.drew | with_reducible apply Chg.alloc | (with_reducible refine Chg.setCell ?_ (Or.inr ?_) _) | (with_reducible refine Chg.trans ?_ (by assumption)) | (simp; done) | (simp; omega)))
        have HW := hide (HST.out.keep kW)
        clear kW
        go_wp2
        go_ret
        exact ⟨_, .inl ⟨rfl, us, E.out, HW.out⟩⟩)
    · have d2 : decide ((n : Int) ≤ (FF : Int)) = false := by simp; omega
      have E : Hid (W.growW n 0 us = none) := hide (by rw [HF.out, if_neg h2])
      go_enter Try.func60, Try.ntmps60
      go_wp2
      go_region_held3 (fun X => X.cell? ⟨Bn, 0, none⟩ = some (.int .i64 (n : Int)) ∧ X.cell? ⟨Bw, 0, none⟩ = some (.slice ao size cap))
        (first | (focus (refine HK.out _ ?_; (repeat' (first | with_reducible exact Chg.refl _ _ | with_reducible assumption | with_reducible apply Chg.drewN | with_reducible apply Chg.drew | with_reducible apply Chg.alloc | (with_reducible refine Chg.setCell ?_ (Or.inr ?_) _) | (with_reducible refine Chg.trans ?_ (by assumption)) | (simp; done) | (simp; omega))); done)))
        ((first | (go_at_call 59; refine (hcall.out _ (by (repeat' (first | with_reducible exact Chg.refl _ _ | with_reducible assumption | with_reducible apply Chg.drewN | with_reducible apply Chg.drew | with_reducible apply Chg.alloc | (with_reducible refine Chg.setCell ?_ (Or.inr ?_) _) | (with_reducible refine Chg.trans ?_ (by assumption)) | (simp; done) | (simp; omega))))).mono ?_; rintro e wA ⟨rfl, hwA⟩)))
      all_goals (
        have kW : Chg [] w wA := by (repeat' (first | with_reducible exact Chg.refl _ _ | with_reducible assumption | with_reducible apply Chg.drewN | with_reducible apply Chg.drew | with_reducible apply Chg.alloc | (with_reducible refine Chg.setCell ?_ (Or.inr ?_) _) | (with_reducible refine Chg.trans ?_ (by assumption)) | (simp; done) | (simp; omega)))
        have HW := hide (HST.out.keep kW)
        clear kW
        go_wp2
        go_ret
        exact ⟨_, .inr ⟨rfl, E.out, HW.out⟩⟩)
  · have d1 : decide ((n : Int) ≤ T) = false := by simpa using h1
    have E : Hid (W.growW n 0 us = none) := hide (by rw [HF.out, if_neg (by omega)])
    go_enter Try.func60, Try.ntmps60
    go_wp2
    go_quiet (fail)
    go_wp2
    go_ret
    exact ⟨_, .inr ⟨rfl, E.out, HST.out.keep ((Chg.refl _ _).drewN _)⟩⟩

set_option maxRecDepth 100000 in
set_option maxHeartbeats 4000000 in
theorem wgrow_more (w1 W0 : World) (Bw Bn Bg n size m : Nat) (hB : Bw < W0.heap.size ∧ Bn < W0.heap.size ∧ Bg < W0.heap.size) (n1 : Bw ≠ Bn) (n2 : Bw ≠ Bg) (hw1 : w1.heap.size ≤ Bw) (hW01 : w1.heap.size ≤ W0.heap.size) (hk4 : size ≤ 4) (IH : WGrowOk w1 W0 Bw Bn Bg n size m) : WGrowOk w1 W0 Bw Bn Bg n size (m + 1) := by
  intro us v w hl ha h
  have HIH : Hid (∀ (us : List Int) (v : Value) (w : World) (T : Int) (x : Nat), us.length + m = size → W.Asc us → W.total us = T + (x : Int) → WtSt w1 W0 Bw Bn Bg n w v us →
      Calls Try.prog 60 #[.int .i64 (size : Int), .int .i64 (T + (x : Int)), .pointer (some ⟨Bw, 0, none⟩), .pointer (some ⟨Bn, 0, none⟩), .pointer (some ⟨Bg, 0, none⟩)] w
        fun e w' => ∃ v', (e = .returned (.bool true) ∧ ∃ q, W.growW n m us = some q ∧ WtSt w1 W0 Bw Bn Bg n w' v' q) ∨ (e = .returned (.bool false) ∧ W.growW n m us = none ∧ WtSt w1 W0 Bw Bn Bg n w' v' us)) := hide fun us v w T x h1 h2 h3 h4 => by
    have := IH us v w h1 h2 h4
    rwa [h3] at this
  have HST := hide h
  have HA := hide ha
  have hsm := fromW_max ha
  have htt := asc_total ha (by omega)
  obtain ⟨b1, b2, b3, hro, hch, hbs⟩ := h
  obtain ⟨ao, cap, rfl, hlc⟩ := row_shape hro
  have hsee : See w (.slice ao us.length cap) us := Ints.toSee (row_low hro (Nat.zero_le _))
  have c1 := b1.cell 0
  simp at c1
  obtain ⟨L, hL⟩ : ∃ L, L = us.length := ⟨_, rfl⟩
  have HL := hide hL
  obtain ⟨T, hT⟩ : ∃ T, T = W.total us := ⟨_, rfl⟩
  have HT := hide hT
  rw [← hT] at htt ⊢
  rw [← hL] at hl hlc c1 HST
  have e1 : ((L : Int) == (size : Int)) = false := by simp; omega
  obtain ⟨ht1, ht2⟩ := htt
  by_cases h0 : us = []
  · have hL0 : L = 0 := by rw [hL, h0]; rfl
    have HFr : Hid (W.fromW us ≤ 61 ∧ Value.int .i64 1 = Value.int .i64 (W.fromW us : Int)) := hide ⟨hsm, by rw [h0]; rfl⟩
    clear ha h0 hsm IH hsee b1 b2 b3 hro hch hT
    subst hL0
    have e2 : ((0 : Int) == (size : Int)) = false := by simp; omega
    clear hL e1
    go_enter Try.func60, Try.ntmps60
    go_wp2
    clear c1
    go_loopw [9] (fun xv wr => ∃ (x : Nat) (vq : Value), W.fromW us ≤ x ∧ x ≤ 61 ∧ xv = .int .i64 (x : Int) ∧ Hid (W.growW n (m + 1) us = (List.range' x (61 - x)).findSome? (fun y : Nat => W.growW n m (us ++ [(y : Int)])) ∧ WtSt w1 W0 Bw Bn Bg n wr vq us)) (fun xv _ => 61 - (intOf xv).toNat)
    case atStart => exact ⟨W.fromW us, _, Nat.le_refl _, HFr.out.1, HFr.out.2, hide ⟨rfl, HST.out⟩⟩
    case round =>
      obtain ⟨x, vq, hx1, hx2, rfl, hI⟩ := hrel
      have hst0 := hI.out.2
      obtain ⟨b1, b2, b3, hro, hch, hbs⟩ := hst0
      obtain ⟨ao2, cap2, rfl, hlc2⟩ := row_shape hro
      have c1 := b1.cell 0
      have c2 := b2.cell 0
      have c3 := b3.cell 0
      have f1 := b1.free 0
      have lp := b1.lt
      have ln := b2.lt
      have lg := b3.lt
      simp at c1 c2 c3
      have hszr := hch.size
      by_cases hlt : x ≤ 60
      · have d2 : decide ((x : Int) ≤ 60) = true := by simp; omega
        have hr : List.range' x (61 - x) = x :: List.range' (x + 1) (61 - (x + 1)) := by
          rw [show 61 - x = (61 - (x + 1)) + 1 by omega, List.range'_succ]
        have hst : (List.range' x (61 - x)).findSome? (fun y : Nat => W.growW n m (us ++ [(y : Int)])) = (W.growW n m (us ++ [(x : Int)])).or ((List.range' (x + 1) (61 - (x + 1))).findSome? (fun y : Nat => W.growW n m (us ++ [(y : Int)]))) := by
          rw [hr, List.findSome?_cons]
          cases W.growW n m (us ++ [(x : Int)]) <;> rfl
        have HSt := hide (hI.out.1.trans hst)
        have HIx := hide fun ws vs (h : WtSt w1 W0 Bw Bn Bg n ws vs (us ++ [(x : Int)])) => HIH.out (us ++ [(x : Int)]) vs ws T x (by have := HL.out; rw [List.length_append, List.length_singleton]; omega) (asc_snoc HA.out hx1 hlt) (by rw [W.total_snoc, ← HT.out]) h
        have e0 := HL.out
        rw [← e0] at hro
        have HU := hide hro
        clear e0
        have HBx := hide (And.intro b1 (And.intro b2 b3))
        have HCh := hide hch
        obtain ⟨i0, hi', hz0, hz1, hz2⟩ := info_parts infoInt
        rw [← HL.out] at c1
        clear hr hst b1 b2 b3 hro hch
        go_wp2_with (at_builtin; refine wpList_append_lies _ (by rfl) _ _ 51 (by rfl) W0.heap.size 3 i0 (.int .i64 0) 1 8 Try.underlying51 hi' hz0 hz1 hz2 (by rfl) (by decide) (.slice ao2 0 cap2) 0 (us.map (Value.int .i64)) (by rfl) (HU.out.alloc _) ⟨wr.heap.size, 0, none⟩ 1 1 [.int .i64 (x : Int)] (by rfl) (by rfl) (by intro j u hj; rw [add_zero_row, (Box.new wr _ _).cell j]; simpa using hj) (by intro u hu; rw [List.mem_singleton] at hu; subst hu; rfl) (by decide) (by unfold maxLen; omega) (by omega) (by simp; omega) (wr.heap.size + 1) (by simp) ?_; intro g2 cap3 wn hown hgrow hat hlt1; have q1 := box_grown (HBx.out.1.old _) (HU.out.alloc _) hgrow hB.1; have q2 := box_grown (HBx.out.2.1.old _) (HU.out.alloc _) hgrow hB.2.1; have q3 := box_grown (HBx.out.2.2.old _) (HU.out.alloc _) hgrow hB.2.2; have e1 := q1.cell 0; have g1 := q1.free 0; have k1 := q1.lt; have e2 := q2.cell 0; have k2 := q2.lt; have e3 := q3.cell 0; have k3 := q3.lt; (try simp at e1 e2 e3))
        have hpush : WtSt w1 W0 Bw Bn Bg n (wn.setCell ⟨Bw, 0, none⟩ (.slice (some ⟨g2, 0, none⟩) (0 + 1) cap3)) (.slice (some ⟨g2, 0, none⟩) (0 + 1) cap3) (us ++ [(x : Int)]) := by
          refine ⟨q1.set1 _, q2.set' (Ne.symm n1) _, q3.set' (Ne.symm n2) _, ?_, ?_, ?_⟩
          · have := row_set (p := ⟨Bw, 0, none⟩) hown hB.1 (.slice (some ⟨g2, 0, none⟩) (0 + 1) cap3)
            rw [List.length_append, List.length_singleton, List.map_append]
            have e := HL.out
            rw [← e]
            exact this
          · exact (chg_grown (HCh.out.alloc _) (HU.out.alloc _) hW01 hgrow).setCell (p := ⟨Bw, 0, none⟩) (.inr hw1) _
          · have := hgrow.size
            simp at this ⊢
            omega
        have HIx2 := hide (HIx.out _ _ hpush)
        clear hown hgrow hat hlt1 q1 q2 q3 e1 g1 k1 e2 k2 e3 k3 c1 c2 c3 f1 lp ln lg hpush hi' hz0 hz1 hz2
        refine HIx2.out.mono ?_
        rintro e w3 ⟨v3, ⟨rfl, q, hq, st3⟩ | ⟨rfl, hno, st3⟩⟩
        · have E : Hid (W.growW n (m + 1) us = some q) := hide (by rw [HSt.out, hq]; rfl)
          have HS3 := hide st3
          clear hq st3
          go_wp2
          go_ret
          exact ⟨v3, .inl ⟨rfl, q, E.out, HS3.out⟩⟩
        · have E : Hid (W.growW n (m + 1) us = (List.range' (x + 1) (61 - (x + 1))).findSome? (fun y : Nat => W.growW n m (us ++ [(y : Int)]))) := hide (by rw [HSt.out, hno]; rfl)
          obtain ⟨b1, b2, b3, hro, hch, hbs⟩ := st3
          rw [List.length_append, List.length_singleton, List.map_append] at hro
          obtain ⟨ao4, cap4, rfl, hlc4⟩ := row_shape hro
          have hsh := row_short hro (by rw [List.length_map])
          have c5 := b1.cell 0
          have f5 := b1.free 0
          have l5 := b1.lt
          simp at c5
          have hle4 : us.length ≤ cap4 := by omega
          have hro4 : ∃ g4, ao4 = some ⟨g4, 0, none⟩ := by
            rcases hro.2 with ⟨e0, h0⟩ | ⟨g4, _, _, e0, _⟩
            · omega
            · cases e0; exact ⟨_, rfl⟩
          obtain ⟨g4, rfl⟩ := hro4
          have hpop : WtSt w1 W0 Bw Bn Bg n (w3.setCell ⟨Bw, 0, none⟩ (.slice (some ⟨g4, 0, none⟩) us.length cap4)) (.slice (some ⟨g4, 0, none⟩) us.length cap4) us :=
            ⟨b1.set1 _, b2.set' (Ne.symm n1) _, b3.set' (Ne.symm n2) _, row_set hsh hB.1 _, hch.setCell (.inr hw1) _, by simp; omega⟩
          rw [← HL.out] at hpop c5 hle4
          have HPop := hide hpop
          clear hno b1 b2 b3 hro hch hsh hpop hlc4
          go_wp2
          go_roundw
          case rel => exact ⟨x + 1, _, by omega, by omega, by go_num, hide ⟨E.out, HPop.out⟩⟩
          case measure => simp [intOf]; omega
      · have d2 : decide ((x : Int) ≤ 60) = false := by simp; omega
        have E : Hid (W.growW n (m + 1) us = none) := hide (by rw [hI.out.1, show 61 - x = 0 by omega]; rfl)
        clear b1 b2 b3 hro hch c1 c2 c3 f1 lp ln lg
        go_wp2
        go_ret
        exact ⟨_, .inr ⟨rfl, E.out, hI.out.2⟩⟩
  · have hp : 0 < us.length := List.length_pos_iff.2 h0
    obtain ⟨a, cap', e, hx⟩ := hsee.open h0
    cases e
    have fl := hx w (Chg.refl _ _) (L - 1) (by omega)
    have eL : (L : Int) - 1 = ((L - 1 : Nat) : Int) := by omega
    have eL0 : (0 : Int) ≤ ((L - 1 : Nat) : Int) := by omega
    have eL1 : ((L - 1 : Nat) : Int) < (L : Int) := by omega
    have hb := ha (L - 1) (by omega)
    have hfr : W.fromW us = (us.getD (L - 1) 0).toNat + 1 := by unfold W.fromW; rw [if_neg h0, hL]
    obtain ⟨M, hM⟩ : ∃ M, M = L - 1 := ⟨_, rfl⟩
    rw [← hM] at fl eL eL0 eL1 hb hfr
    obtain ⟨xl, hxl⟩ : ∃ x, x = us.getD M 0 := ⟨_, rfl⟩
    rw [← hxl] at fl hb hfr
    obtain ⟨hb1, hb2, _⟩ := hb
    have HFr : Hid (W.fromW us ≤ 61 ∧ Value.int .i64 (xl + 1) = Value.int .i64 (W.fromW us : Int)) := hide ⟨hsm, by rw [hfr]; congr 1; omega⟩
    have hp0 : 0 < L := by omega
    clear hL ha h0 hsm hx hp hM hxl hfr IH hsee b1 b2 b3 hro hch hT
    go_enter Try.func60, Try.ntmps60
    go_wp2
    clear c1 fl
    go_loopw [9] (fun xv wr => ∃ (x : Nat) (vq : Value), W.fromW us ≤ x ∧ x ≤ 61 ∧ xv = .int .i64 (x : Int) ∧ Hid (W.growW n (m + 1) us = (List.range' x (61 - x)).findSome? (fun y : Nat => W.growW n m (us ++ [(y : Int)])) ∧ WtSt w1 W0 Bw Bn Bg n wr vq us)) (fun xv _ => 61 - (intOf xv).toNat)
    case atStart => exact ⟨W.fromW us, _, Nat.le_refl _, HFr.out.1, HFr.out.2, hide ⟨rfl, HST.out⟩⟩
    case round =>
      obtain ⟨x, vq, hx1, hx2, rfl, hI⟩ := hrel
      have hst0 := hI.out.2
      obtain ⟨b1, b2, b3, hro, hch, hbs⟩ := hst0
      obtain ⟨ao2, cap2, rfl, hlc2⟩ := row_shape hro
      have c1 := b1.cell 0
      have c2 := b2.cell 0
      have c3 := b3.cell 0
      have f1 := b1.free 0
      have lp := b1.lt
      have ln := b2.lt
      have lg := b3.lt
      simp at c1 c2 c3
      have hszr := hch.size
      by_cases hlt : x ≤ 60
      · have d2 : decide ((x : Int) ≤ 60) = true := by simp; omega
        have hr : List.range' x (61 - x) = x :: List.range' (x + 1) (61 - (x + 1)) := by
          rw [show 61 - x = (61 - (x + 1)) + 1 by omega, List.range'_succ]
        have hst : (List.range' x (61 - x)).findSome? (fun y : Nat => W.growW n m (us ++ [(y : Int)])) = (W.growW n m (us ++ [(x : Int)])).or ((List.range' (x + 1) (61 - (x + 1))).findSome? (fun y : Nat => W.growW n m (us ++ [(y : Int)]))) := by
          rw [hr, List.findSome?_cons]
          cases W.growW n m (us ++ [(x : Int)]) <;> rfl
        have HSt := hide (hI.out.1.trans hst)
        have HIx := hide fun ws vs (h : WtSt w1 W0 Bw Bn Bg n ws vs (us ++ [(x : Int)])) => HIH.out (us ++ [(x : Int)]) vs ws T x (by have := HL.out; rw [List.length_append, List.length_singleton]; omega) (asc_snoc HA.out hx1 hlt) (by rw [W.total_snoc, ← HT.out]) h
        have e0 := HL.out
        rw [← e0] at hro
        have HU := hide hro
        clear e0
        have HBx := hide (And.intro b1 (And.intro b2 b3))
        have HCh := hide hch
        obtain ⟨i0, hi', hz0, hz1, hz2⟩ := info_parts infoInt
        rw [← HL.out] at c1
        clear hr hst b1 b2 b3 hro hch
        go_wp2_with (at_builtin; refine wpList_append_lies _ (by rfl) _ _ 51 (by rfl) W0.heap.size 3 i0 (.int .i64 0) 1 8 Try.underlying51 hi' hz0 hz1 hz2 (by rfl) (by decide) (.slice ao2 L cap2) L (us.map (Value.int .i64)) (by rfl) (HU.out.alloc _) ⟨wr.heap.size, 0, none⟩ 1 1 [.int .i64 (x : Int)] (by rfl) (by rfl) (by intro j u hj; rw [add_zero_row, (Box.new wr _ _).cell j]; simpa using hj) (by intro u hu; rw [List.mem_singleton] at hu; subst hu; rfl) (by decide) (by unfold maxLen; omega) (by omega) (by simp; omega) (wr.heap.size + 1) (by simp) ?_; intro g2 cap3 wn hown hgrow hat hlt1; have q1 := box_grown (HBx.out.1.old _) (HU.out.alloc _) hgrow hB.1; have q2 := box_grown (HBx.out.2.1.old _) (HU.out.alloc _) hgrow hB.2.1; have q3 := box_grown (HBx.out.2.2.old _) (HU.out.alloc _) hgrow hB.2.2; have e1 := q1.cell 0; have g1 := q1.free 0; have k1 := q1.lt; have e2 := q2.cell 0; have k2 := q2.lt; have e3 := q3.cell 0; have k3 := q3.lt; (try simp at e1 e2 e3))
        have hpush : WtSt w1 W0 Bw Bn Bg n (wn.setCell ⟨Bw, 0, none⟩ (.slice (some ⟨g2, 0, none⟩) (L + 1) cap3)) (.slice (some ⟨g2, 0, none⟩) (L + 1) cap3) (us ++ [(x : Int)]) := by
          refine ⟨q1.set1 _, q2.set' (Ne.symm n1) _, q3.set' (Ne.symm n2) _, ?_, ?_, ?_⟩
          · have := row_set (p := ⟨Bw, 0, none⟩) hown hB.1 (.slice (some ⟨g2, 0, none⟩) (L + 1) cap3)
            rw [List.length_append, List.length_singleton, List.map_append]
            have e := HL.out
            rw [← e]
            exact this
          · exact (chg_grown (HCh.out.alloc _) (HU.out.alloc _) hW01 hgrow).setCell (p := ⟨Bw, 0, none⟩) (.inr hw1) _
          · have := hgrow.size
            simp at this ⊢
            omega
        have HIx2 := hide (HIx.out _ _ hpush)
        clear hown hgrow hat hlt1 q1 q2 q3 e1 g1 k1 e2 k2 e3 k3 c1 c2 c3 f1 lp ln lg hpush hi' hz0 hz1 hz2
        refine HIx2.out.mono ?_
        rintro e w3 ⟨v3, ⟨rfl, q, hq, st3⟩ | ⟨rfl, hno, st3⟩⟩
        · have E : Hid (W.growW n (m + 1) us = some q) := hide (by rw [HSt.out, hq]; rfl)
          have HS3 := hide st3
          clear hq st3
          go_wp2
          go_ret
          exact ⟨v3, .inl ⟨rfl, q, E.out, HS3.out⟩⟩
        · have E : Hid (W.growW n (m + 1) us = (List.range' (x + 1) (61 - (x + 1))).findSome? (fun y : Nat => W.growW n m (us ++ [(y : Int)]))) := hide (by rw [HSt.out, hno]; rfl)
          obtain ⟨b1, b2, b3, hro, hch, hbs⟩ := st3
          rw [List.length_append, List.length_singleton, List.map_append] at hro
          obtain ⟨ao4, cap4, rfl, hlc4⟩ := row_shape hro
          have hsh := row_short hro (by rw [List.length_map])
          have c5 := b1.cell 0
          have f5 := b1.free 0
          have l5 := b1.lt
          simp at c5
          have hle4 : us.length ≤ cap4 := by omega
          have hro4 : ∃ g4, ao4 = some ⟨g4, 0, none⟩ := by
            rcases hro.2 with ⟨e0, h0⟩ | ⟨g4, _, _, e0, _⟩
            · omega
            · cases e0; exact ⟨_, rfl⟩
          obtain ⟨g4, rfl⟩ := hro4
          have hpop : WtSt w1 W0 Bw Bn Bg n (w3.setCell ⟨Bw, 0, none⟩ (.slice (some ⟨g4, 0, none⟩) us.length cap4)) (.slice (some ⟨g4, 0, none⟩) us.length cap4) us :=
            ⟨b1.set1 _, b2.set' (Ne.symm n1) _, b3.set' (Ne.symm n2) _, row_set hsh hB.1 _, hch.setCell (.inr hw1) _, by simp; omega⟩
          rw [← HL.out] at hpop c5 hle4
          have HPop := hide hpop
          clear hno b1 b2 b3 hro hch hsh hpop hlc4
          go_wp2
          go_roundw
          case rel => exact ⟨x + 1, _, by omega, by omega, by go_num, hide ⟨E.out, HPop.out⟩⟩
          case measure => simp [intOf]; omega
      · have d2 : decide ((x : Int) ≤ 60) = false := by simp; omega
        have E : Hid (W.growW n (m + 1) us = none) := hide (by rw [hI.out.1, show 61 - x = 0 by omega]; rfl)
        clear b1 b2 b3 hro hch c1 c2 c3 f1 lp ln lg
        go_wp2
        go_ret
        exact ⟨_, .inr ⟨rfl, E.out, hI.out.2⟩⟩
end Go.Proofs.Ytohdjlgghkcaoaa
