/- Walks: the search for a plan: one slot more. -/
import Derived.Test.YtohdjlgghkcaoaaPl5
namespace Go.Proofs.Ytohdjlgghkcaoaa
open Go.RowKit

theorem PlanSt.keep {w1 W0 w w' : World} {Bp Bc Ba Bg coins k : Nat} {va vp : Value} {p : List (List Int)} (h : PlanSt w1 W0 Bp Bc Ba Bg coins k va w vp p) (hc : Chg [] w w') : PlanSt w1 W0 Bp Bc Ba Bg coins k va w' vp p := by
  obtain ⟨b1, b2, b3, b4, hx, hr, hch, hch1⟩ := h
  exact ⟨b1.keep hc List.not_mem_nil, b2.keep hc List.not_mem_nil, b3.keep hc List.not_mem_nil, b4.keep hc List.not_mem_nil, hx.keep hc, hr, hch.trans hc.toAny, hch1.trans hc⟩
/-- While the two forms of a slot are tried. -/
def Tries (w1 W0 : World) (Bp Bc Ba Bg coins k : Nat) (va : Value) (w : World) (vp0 : Value) (P b2 : Nat) (rv ov : Value) (row : List Int) (p : List (List Int)) (ws : World) (vp2 : Value) : Prop :=
  Chg (blks Bp vp0) w ws ∧ Near w vp0 vp2 ∧ PlanSt w1 W0 Bp Bc Ba Bg coins k va ws vp2 p ∧ Box ws b2 #[rv, ov] 51 ∧ Ints ws rv row ∧ Ints ws ov (W.neg row) ∧ vp2.ownBlock ≠ some b2 ∧ P = P
theorem ints_kept {ws w' : World} {Bp base n : Nat} {vp2 rv : Value} {row : List Int} {us : List Value} {cs : Array Value} (hB : Box ws Bp cs 62) (ho : ws.ownsRow base 51 1 vp2 n us) (h : Ints ws rv row) (hc : Chg (blks Bp vp2) ws w') : Ints w' rv row :=
  h.move hc (fun g hg hm => by
    rcases mem_blks.1 hm with rfl | hm
    · exact ints_box hB h ne62 g hg rfl
    · rcases row_apart h ho (Ne.symm ints_ne) with h' | h'
      · rw [hg] at h'; cases h'
      · rw [hg, hm] at h'; exact h' rfl)
theorem rowOk_neg {k : Nat} {r : List Int} (h : W.rowOk k r = true) : W.rowOk k (W.neg r) = true := by
  obtain ⟨h1, h2⟩ := W.rowOk_iff.1 h
  refine W.rowOk_iff.2 ⟨by rw [W.neg_len]; exact h1, fun x hx => ?_⟩
  obtain ⟨y, hy, rfl⟩ := List.mem_map.1 hx
  have := h2 y hy
  omega

set_option maxRecDepth 100000 in
set_option maxHeartbeats 4000000 in
theorem grow_more (w1 W0 : World) (Bp Bc Ba Bg coins k b1' : Nat) (va : Value) (all : List (List Int)) (m : Nat) (hB : Bp < W0.heap.size ∧ Bc < W0.heap.size ∧ Ba < W0.heap.size ∧ Bg < W0.heap.size) (n1 : Bp ≠ Bc) (n2 : Bp ≠ Ba) (n3 : Bp ≠ Bg) (hw1 : w1.heap.size ≤ Bp)
    (hc13 : coins ≤ 13) (hk3 : k ≤ 3) (hal : all.length ≤ 13) (hav : ∃ ao cap, va = .slice ao all.length cap) (hAll : Rows2 w1 b1' va all) (har : ∀ r ∈ all, W.rowOk k r = true) (IH : GrowOk w1 W0 Bp Bc Ba Bg coins k va all m) : GrowOk w1 W0 Bp Bc Ba Bg coins k va all (m + 1) := by
  intro i p w vp hl hi h
  obtain ⟨ga, capa, rfl⟩ := hav
  have hIH : ∀ (i : Nat) (p : List (List Int)) (w : World) (vp : Value), p.length + m = coins → i + 1 ≤ all.length → PlanSt w1 W0 Bp Bc Ba Bg coins k (.slice ga all.length capa) w vp p →
      Calls Try.prog 72 #[.int .i64 ((i : Int) + 1), .pointer (some ⟨Bp, 0, none⟩), .pointer (some ⟨Bc, 0, none⟩), .pointer (some ⟨Ba, 0, none⟩), .pointer (some ⟨Bg, 0, none⟩)] w
        fun e w' => ∃ vp', Chg (blks Bp vp) w w' ∧ Near w vp vp' ∧ ((e = .returned (.bool true) ∧ ∃ q, W.growM all m (i + 1) p = some q ∧ PlanSt w1 W0 Bp Bc Ba Bg coins k (.slice ga all.length capa) w' vp' q) ∨ (e = .returned (.bool false) ∧ W.growM all m (i + 1) p = none ∧ PlanSt w1 W0 Bp Bc Ba Bg coins k (.slice ga all.length capa) w' vp' p)) := fun i p w vp h1 h2 h3 => by
    have := IH (i + 1) p w vp h1 h2 h3
    rw [show ((i + 1 : Nat) : Int) = (i : Int) + 1 from by omega] at this
    exact this
  have HIH := hide hIH
  have HAll := hide hAll
  have HAr := hide har
  have hlp : p.length < coins := by omega
  have HL := hide hl
  have h0 := h
  obtain ⟨b1, b2, b3, b4, hx, hr, hch, hch1⟩ := h0
  obtain ⟨ao, cap, rfl⟩ := hx.toSee2.shape
  have c1 := b1.cell 0
  have c2 := b2.cell 0
  simp at c1 c2
  have d0 : ((p.length : Int) == (coins : Int)) = false := by simp; omega
  obtain ⟨vp0, hvp0⟩ : ∃ vp0 : Value, vp0 = .slice ao p.length cap := ⟨_, rfl⟩
  have HST : Hid (PlanSt w1 W0 Bp Bc Ba Bg coins k (.slice ga all.length capa) w vp0 p) := hide (by rw [hvp0]; exact h)
  rw [← hvp0]
  have HVP := hide hvp0
  clear b1 b2 b3 b4 hx hr hch hch1 h IH hIH hAll har hl hvp0
  obtain ⟨L, hL⟩ : ∃ L, L = p.length := ⟨_, rfl⟩
  obtain ⟨N, hN⟩ : ∃ N, N = all.length := ⟨_, rfl⟩
  rw [← hL] at c1 d0 hlp HL
  rw [← hN] at hal hi HIH HAll HST ⊢
  have HLe := hide hL
  have HN := hide hN
  clear hL hN
  go_enter Try.func72, Try.ntmps72
  go_wp2
  clear c1 c2
  go_loopw [7] (fun ii wr => ∃ (j : Nat) (vq : Value), j ≤ N ∧ ii = .int .i64 (j : Int) ∧ Hid (W.growM all (m + 1) i p = W.growM all (m + 1) j p ∧ Chg (blks Bp vp0) w wr ∧ Near w vp0 vq ∧ PlanSt w1 W0 Bp Bc Ba Bg coins k (.slice ga N capa) wr vq p)) (fun ii _ => N - (intOf ii).toNat)
  case atStart => exact ⟨i, vp0, hi, rfl, hide ⟨rfl, Chg.refl _ _, Near.refl _ _, HST.out⟩⟩
  case round =>
    obtain ⟨j, vq, hj, rfl, hI⟩ := hrel
    obtain ⟨_, _, _, hst⟩ := hI.out
    obtain ⟨b1, b2, b3, b4, hx, hr, hch, hch1⟩ := hst
    obtain ⟨ao', cap', rfl⟩ := hx.toSee2.shape
    rw [← HLe.out] at b1
    have c1 := b1.cell 0
    have c2 := b2.cell 0
    have c3 := b3.cell 0
    simp at c1 c2 c3
    by_cases hlt : j + m < N
    · have d1 : decide ((j : Int) ≤ (N : Int) - ((coins : Int) - (L : Int))) = true := by have := HL.out; simp; omega
      obtain ⟨g, capg, bo, bc, e, hbg, hgl, fcell, hrowI⟩ := (HAll.out.keep hch1).open (i := j) (by rw [← HN.out]; omega)
      rw [← HN.out] at e
      cases e
      obtain ⟨row, hrow⟩ : ∃ row, row = all.getD j [] := ⟨_, rfl⟩
      rw [← hrow] at fcell hrowI
      have hrk : W.rowOk k row = true := by rw [hrow]; exact HAr.out _ (W.row_mem (by rw [← HN.out]; omega))
      have hrl : row.length ≤ 3 := by have := (W.rowOk_iff.1 hrk).1; omega
      have HRow := hide hrow
      have HRk := hide hrk
      have HK := hide (fun X (hX : Chg [] wr X) => (⟨(b3.keep hX List.not_mem_nil).cell 0, (hX.cell hgl List.not_mem_nil j).trans fcell⟩ : X.cell? ⟨Ba, 0, none⟩ = some (.slice (some ⟨g, 0, none⟩) N capa) ∧ X.cell? ⟨g, j, none⟩ = some (.slice bo row.length bc)))
      have HInts := hide (fun X (hX : Chg [] wr X) => hrowI.keep hX)
      have jn : (j : Int) < (N : Int) := by omega
      have j0 : (0 : Int) ≤ (j : Int) := by omega
      have la := b3.lt
      clear b1 b2 b3 b4 hx hr hch hch1 hrow hrk hrowI
      obtain ⟨LR, hLR⟩ : ∃ LR, LR = row.length := ⟨_, rfl⟩
      rw [← hLR] at fcell hrl HK HInts
      have HLR := hide hLR
      clear hLR
      go_wp2
      go_region_held3 (fun X => X.cell? ⟨Ba, 0, none⟩ = some (.slice (some ⟨g, 0, none⟩) N capa) ∧ X.cell? ⟨g, j, none⟩ = some (.slice bo LR bc))
        (first | (focus (refine HK.out _ ?_; (repeat' (first | with_reducible exact Chg.refl _ _ | with_reducible assumption | with_reducible apply Chg.drewN | with_reducible apply Chg.drew | with_reducible apply Chg.alloc | (with_reducible refine Chg.setCell ?_ (Or.inr ?_) _) | (with_reducible refine Chg.trans ?_ (by assumption)) | (simp; done) | (simp; omega))); done)))
        ((first | (go_at_call 67; refine (opposite_any _ row _ (HInts.out _ (by (repeat' (first | with_reducible exact Chg.refl _ _ | with_reducible assumption | with_reducible apply Chg.drewN | with_reducible apply Chg.drew | with_reducible apply Chg.alloc | (with_reducible refine Chg.setCell ?_ (Or.inr ?_) _) | (with_reducible refine Chg.trans ?_ (by assumption)) | (simp; done) | (simp; omega))))).toSee (W.rowOk_iff.1 HRk.out).2 (by rw [← HLR.out]; omega)).mono ?_; rintro e wA ⟨uo, rfl, hIu, hwA⟩; obtain ⟨oo, on, oc, rfl⟩ := hIu.shape)))
      have kW : Chg [] wr wA := by (repeat' (first | with_reducible exact Chg.refl _ _ | with_reducible assumption | with_reducible apply Chg.drewN | with_reducible apply Chg.drew | with_reducible apply Chg.alloc | (with_reducible refine Chg.setCell ?_ (Or.inr ?_) _) | (with_reducible refine Chg.trans ?_ (by assumption)) | (simp; done) | (simp; omega)))
      have kP : Chg [] wr (wA.alloc (.cells #[.slice bo LR bc, .slice oo on oc] 51)) := kW.alloc _
      have hbx := Box.new wA #[.slice bo LR bc, .slice oo on oc] 51
      have hT : Hid (Tries w1 W0 Bp Bc Ba Bg coins k (.slice (some ⟨g, 0, none⟩) N capa) w vp0 0 wA.heap.size (.slice bo LR bc) (.slice oo on oc) row p (wA.alloc (.cells #[.slice bo LR bc, .slice oo on oc] 51)) (.slice ao' p.length cap')) := hide ⟨hI.out.2.1.trans kP.toAny, hI.out.2.2.1, hI.out.2.2.2.keep kP, hbx, HInts.out _ kP, hIu.keep ((Chg.refl _ _).alloc _), (fun e => by
        obtain ⟨us, _, u2, _⟩ := hI.out.2.2.2.2.2.2.2.1
        have := (u2.lt _ e).2
        have := kW.size
        omega), rfl⟩
      have hb2 : Hid (W0.heap.size ≤ wA.heap.size) := hide (by have h1 := hI.out.2.2.2.2.2.2.2.2.2.1.size; have := kW.size; omega)
      clear kW kP hbx hIu hwA fcell jn j0 la hgl hbg c1 c2 c3 d1
      generalize (wA.alloc (.cells #[.slice bo LR bc, .slice oo on oc] 51)) = wP at hT ⊢
      generalize wA.heap.size = b2 at hT hb2 ⊢
      go_wp2
      go_loopw [39] (fun qi ws => ∃ (qq : Nat) (vp2 : Value), qq ≤ 2 ∧ qi = .int .i64 (qq : Int) ∧ Hid ((1 ≤ qq → W.growM all m (j + 1) (p ++ [row]) = none) ∧ (2 ≤ qq → W.growM all m (j + 1) (p ++ [W.neg row]) = none) ∧ Tries w1 W0 Bp Bc Ba Bg coins k (.slice (some ⟨g, 0, none⟩) N capa) w vp0 0 b2 (.slice bo LR bc) (.slice oo on oc) row p ws vp2)) (fun qi _ => 2 - (intOf qi).toNat)
      case atStart => exact ⟨0, _, by omega, rfl, hide ⟨fun h => by omega, fun h => by omega, hT.out⟩⟩
      case round =>
        obtain ⟨qq, vp2, hq, rfl, hJ⟩ := hrel
        by_cases hq2 : qq < 2
        · have d2 : decide ((qq : Int) < 2) = true := by simp; omega
          obtain ⟨t1, t2, t3, t4, t5, t6, t7, _⟩ := hJ.out.2.2
          obtain ⟨xo, xl, xc, x, hxc, hxI, hxk, hsel⟩ : ∃ xo xl xc x, (∀ X, Chg [] wr X → X.cell? ⟨b2, qq, none⟩ = some (.slice xo xl xc)) ∧ Ints wr (.slice xo xl xc) x ∧ W.rowOk k x = true ∧ ((qq = 0 ∧ x = row) ∨ (qq = 1 ∧ x = W.neg row)) := by
            rcases (show qq = 0 ∨ qq = 1 by omega) with rfl | rfl
            · exact ⟨_, _, _, row, fun X hX => (t4.keep hX List.not_mem_nil).cell 0, t5, HRk.out, .inl ⟨rfl, rfl⟩⟩
            · exact ⟨_, _, _, W.neg row, fun X hX => (t4.keep hX List.not_mem_nil).cell 1, t6, rowOk_neg HRk.out, .inr ⟨rfl, rfl⟩⟩
          have fx := hxc wr (Chg.refl _ _)
          have st0 := t3
          obtain ⟨b1, _, _, b4, hx, _, hch, _⟩ := st0
          obtain ⟨us, u1, u2, u3⟩ := hx
          obtain ⟨ao2, cap2, rfl, _⟩ := row_shape u2
          have b1' := b1
          rw [← HLe.out] at b1'
          have c1 := b1'.cell 0
          have c4 := b4.cell 0
          have f1 := b1'.free 0
          simp at c1 c4
          have lp := b1.lt
          have lg := b4.lt
          have lb2 := t4.lt
          have hszr := hch.size
          obtain ⟨i0, hi', hz0, hz1, hz2⟩ := info_parts infoInts
          have HU := hide (And.intro u1 (And.intro u2 u3))
          have HBx := hide (And.intro b1 b4)
          have HX := hide (And.intro hxI (And.intro hxk hsel))
          have hT2 := hJ.out.2.2
          have HT2 := hide hT2
          clear t1 t2 t3 t4 t5 t6 t7 hxc hxI hxk hsel b1 b1' b4 hch u1 u2 u3 hT2
          go_wp2_with (at_builtin; refine wpList_append_lies _ (by rfl) _ _ 62 (by rfl) W0.heap.size 51 i0 (.slice none 0 0) 1 24 Try.underlying62 hi' hz0 hz1 hz2 (by rfl) (by decide) (.slice ao2 L cap2) L us (by rfl) (by rw [HLe.out]; exact HU.out.2.1.alloc _) ⟨wr.heap.size, 0, none⟩ 1 1 [.slice xo xl xc] (by rfl) (by rfl) (by intro j u hj; rw [add_zero_row, (Box.new wr _ _).cell j]; simpa using hj) (by intro u hu; rw [List.mem_singleton] at hu; subst hu; rfl) (by decide) (by unfold maxLen; omega) (by omega) (by simp; omega) (wr.heap.size + 1) (by simp) ?_; intro g2 cap3 wn hown hgrow hat hlt1; have q3 := box_grown (HBx.out.1.old _) (HU.out.2.1.alloc _) (by rw [← HLe.out]; exact hgrow) hB.1; have q2 := box_grown (HBx.out.2.old _) (HU.out.2.1.alloc _) (by rw [← HLe.out]; exact hgrow) hB.2.2.2; have e3 := q3.cell 0; have g3 := q3.free 0; have e2 := q2.cell 0; have k3 := q3.lt; have k2 := q2.lt; (try simp at e3 e2))
          have hpush := plan_push (o := .cells #[.slice xo xl xc] 51) hB n1 n2 n3 hw1 HT2.out.2.2.1 HX.out.1 HX.out.2.1 us HU.out.1 HU.out.2.1 HU.out.2.2 (by rw [← HLe.out]; exact hown) (by rw [← HLe.out]; exact hgrow) (by rw [← HLe.out]; exact hat)
          rw [← HLe.out] at hpush
          obtain ⟨pst, pch, pnear⟩ := hpush
          have HPush := hide pst
          have HPCh := hide pch
          have HPNear := hide pnear
          have hszn := pch.size
          have LB2 := hide lb2
          have HT2L : Hid (Tries w1 W0 Bp Bc Ba Bg coins k (.slice (some ⟨g, 0, none⟩) N capa) w vp0 0 b2 (.slice bo LR bc) (.slice oo on oc) row p wr (.slice ao2 L cap2)) := hide (by rw [HLe.out]; exact HT2.out)
          clear hown hgrow hat hlt1 q3 q2 e3 g3 e2 k3 k2 c1 c4 f1 lp lg lb2 fx pst pch pnear hi' hz0 hz1 hz2
          refine (HIH.out j (p ++ [x]) _ _ (by have := HL.out; rw [List.length_append, ← HLe.out]; simp; omega) (by omega) HPush.out).mono ?_
          rintro e w3 ⟨vp3, hc3, hn3, ⟨rfl, q, hq', st3⟩ | ⟨rfl, hno, st3⟩⟩
          · have hgm : W.growM all (m + 1) i p = some q := by
              rw [hI.out.1, grow_step (by rw [← HN.out]; exact hlt), ← HRow.out]
              rcases HX.out.2.2 with ⟨_, rfl⟩ | ⟨h1, rfl⟩
              · rw [hq']; rfl
              · rw [hJ.out.1 (by omega), hq']; rfl
            have hch3 : Chg (blks Bp vp0) w w3 := chg_near HT2L.out.1 HT2L.out.2.1 (chg_near HPCh.out HPNear.out hc3)
            have hnr3 : Near w vp0 vp3 := HT2L.out.2.1.trans (HPNear.out.trans hn3 hszn) HT2L.out.1.size
            have HH := hide (And.intro hch3 (And.intro hnr3 (And.intro hgm st3)))
            clear hch3 hnr3 hgm st3 hc3 hn3 hq'
            go_wp2
            go_ret
            exact ⟨vp3, HH.out.1, HH.out.2.1, .inl ⟨rfl, q, HH.out.2.2.1, HH.out.2.2.2⟩⟩
          · obtain ⟨g4, cap4, rfl, hle4, pst, pch, pnear⟩ := plan_pop hB n1 n2 n3 hw1 st3
            have c5 := st3.1.cell 0
            have f5 := st3.1.free 0
            have l5 := st3.1.lt
            simp at c5
            rw [← HLe.out] at c5 hle4
            have hle5 : L ≤ cap4 := by omega
            have hno' : (qq + 1 = 1 → W.growM all m (j + 1) (p ++ [row]) = none) ∧ (qq + 1 = 2 → W.growM all m (j + 1) (p ++ [W.neg row]) = none) := by
              rcases HX.out.2.2 with ⟨h1, rfl⟩ | ⟨h1, rfl⟩
              · exact ⟨fun _ => hno, fun h => by omega⟩
              · exact ⟨fun h => by omega, fun _ => hno⟩
            have hcW : Chg (blks Bp (.slice ao2 L cap2)) wr (w3.setCell ⟨Bp, 0, none⟩ (.slice (some ⟨g4, 0, none⟩) L cap4)) := by
              refine chg_near HPCh.out HPNear.out (chg_near hc3 hn3 ?_)
              rw [HLe.out]
              exact pch
            have hnW : Near wr (.slice ao2 L cap2) (.slice (some ⟨g4, 0, none⟩) L cap4) := by
              refine HPNear.out.trans (hn3.trans ?_ hc3.size) hszn
              rw [HLe.out]
              exact pnear
            have HT3 : Hid (Tries w1 W0 Bp Bc Ba Bg coins k (.slice (some ⟨g, 0, none⟩) N capa) w vp0 0 b2 (.slice bo LR bc) (.slice oo on oc) row p (w3.setCell ⟨Bp, 0, none⟩ (.slice (some ⟨g4, 0, none⟩) L cap4)) (.slice (some ⟨g4, 0, none⟩) L cap4)) := hide (by
              obtain ⟨t1, t2, t3, t4, t5, t6, t7, _⟩ := HT2L.out
              have hown2 := HU.out.2.1
              rw [← HLe.out] at hown2
              refine ⟨chg_near t1 t2 hcW, t2.trans hnW t1.size, by rw [HLe.out]; exact pst, t4.keep hcW (fun hm => ?_), ints_kept t3.1 hown2 t5 hcW, ints_kept t3.1 hown2 t6 hcW, fun e => ?_, rfl⟩
              · rcases mem_blks.1 hm with h | h
                · have := hb2.out; have := hB.1; omega
                · exact t7 h
              · rcases hnW _ e with h | h
                · exact t7 h
                · have := LB2.out; omega)
            have HNo := hide hno'
            clear hno hno' hcW hnW pst pch pnear st3 hc3 hn3 hle4
            go_wp2
            go_roundw
            case rel => exact ⟨qq + 1, _, by omega, by go_num, hide ⟨fun h => by
              rcases Nat.lt_or_ge qq 1 with h' | h'
              · exact HNo.out.1 (by omega)
              · exact hJ.out.1 h', fun h => HNo.out.2 (by omega), HT3.out⟩⟩
            case measure => simp [intOf]; omega
        · obtain rfl : qq = 2 := by omega
          have hnx : W.growM all (m + 1) j p = W.growM all (m + 1) (j + 1) p := by
            have h1 := hJ.out.1 (by omega)
            have h2 := hJ.out.2.1 (by omega)
            rw [HRow.out] at h1 h2
            rw [grow_step (by rw [← HN.out]; exact hlt), h1, h2]; rfl
          have HNx := hide hnx
          clear hnx
          go_wp2
          go_roundw
          case rel => exact ⟨j + 1, vp2, by omega, by go_num, hide ⟨hI.out.1.trans HNx.out, hJ.out.2.2.1, hJ.out.2.2.2.1, hJ.out.2.2.2.2.1⟩⟩
          case measure => simp [intOf]; omega
    · have d1 : decide ((j : Int) ≤ (N : Int) - ((coins : Int) - (L : Int))) = false := by have := HL.out; simp; omega
      have E : Hid (W.growM all (m + 1) i p = none) := hide (by rw [hI.out.1]; exact grow_over (by rw [← HN.out]; exact hlt))
      clear b1 b2 b3 b4 hx hr hch hch1
      go_wp2
      go_ret
      exact ⟨_, hI.out.2.1, hI.out.2.2.1, .inr ⟨rfl, E.out, hI.out.2.2.2⟩⟩
end Go.Proofs.Ytohdjlgghkcaoaa
