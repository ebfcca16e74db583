/- Walks: the slots, one step of their search. -/
import Derived.Test.YtohdjlgghkcaoaaPl1
import Derived.Deep.RegionLaw
namespace Go.Proofs.Ytohdjlgghkcaoaa
open Go.RowKit

theorem row_see {w : World} {base : Nat} {v : Value} {xs : List Int} (h : w.ownsRow base 3 1 v xs.length (xs.map (Value.int .i64))) : See w v xs := Ints.toSee (row_low h (Nat.zero_le _))

set_option maxRecDepth 100000 in
set_option maxHeartbeats 2000000 in
theorem slot_end (W0 : World) (Bk Bo Bv Bg k : Nat) (hB : Bk < W0.heap.size ∧ Bo < W0.heap.size ∧ Bv < W0.heap.size ∧ Bg < W0.heap.size) (n1 : Bv ≠ Bo) (_ : Bv ≠ Bk) (_ : Bv ≠ Bg) (n4 : Bo ≠ Bk) (n5 : Bo ≠ Bg) (hk : k ≤ 3)
    (b : Bool) (cur : List Int) (outs : List (List Int)) (w : World) (hc : cur.length = k) (ho : outs.length ≤ 100000) (h : SlotSt W0 Bk Bo Bv Bg k w cur outs) :
    Calls Try.prog 87 #[.bool b, .pointer (some ⟨Bv, 0, none⟩), .pointer (some ⟨Bk, 0, none⟩), .pointer (some ⟨Bo, 0, none⟩), .pointer (some ⟨Bg, 0, none⟩)] w
      fun e w' => e = .returned (.tuple #[]) ∧ SlotSt W0 Bk Bo Bv Bg k w' cur (outs ++ W.gs 0 b cur) := by
  obtain ⟨vv, vo, b1, b2, b3, b4, hv, hx, hch⟩ := h
  have hsee := row_see hv
  obtain ⟨ao, cap, rfl⟩ := hsee.shape
  obtain ⟨us, u1, u2, u3⟩ := hx
  obtain ⟨oo, ocap, rfl, _⟩ := row_shape u2
  obtain ⟨i0, hi, hz0, hz1, hz2⟩ := info_parts infoInts
  subst hc
  have c1 := b1.cell 0
  have c3 := b3.cell 0
  have c4 := b4.cell 0
  simp at c1 c3 c4
  have d0 : ((cur.length : Int) == (cur.length : Int)) = true := by simp
  cases b with
  | false =>
    have HH : Hid (SlotSt W0 Bk Bo Bv Bg cur.length w cur (outs ++ W.gs 0 false cur)) := hide ⟨_, _, b1, b2, b3, b4, hv, by unfold W.gs; simpa using ⟨us, u1, u2, u3⟩, hch⟩
    clear b1 b2 b3 b4 hv hsee u1 u2 u3 hch hi hz0 hz1 hz2
    go_enter Try.func87, Try.ntmps87
    go_wp2
    refine bodyPost_ret (v := .tuple #[]) ?_ rfl ⟨rfl, HH.out⟩
    simp [results, Try.results87]
  | true =>
    have HK := hide (fun X (hX : Chg [] w X) => (⟨(b3.keep hX List.not_mem_nil).cell 0, (b4.keep hX List.not_mem_nil).cell 0⟩ : X.cell? ⟨Bv, 0, none⟩ = some (.slice ao cur.length cap) ∧ X.cell? ⟨Bo, 0, none⟩ = some (.slice oo outs.length ocap)))
    have HSee := hide (fun X (hX : Chg [] w X) => hsee.keep hX)
    have HRow := hide (fun X (hX : Chg [] w X) => hX.row u2 (fun _ _ => List.not_mem_nil))
    have HBox := hide (And.intro b1 (And.intro b2 (And.intro b3 b4)))
    have HU := hide (And.intro u1 (And.intro u2 u3))
    have HV := hide (And.intro hv hch)
    have lo0 : Bo < w.heap.size := b4.lt
    have lv0 : Bv < w.heap.size := b3.lt
    have hsz := hch.size
    clear b1 b2 b3 b4 hv hsee u1 u2 u3 hch
    obtain ⟨no, hno⟩ : ∃ no, no = outs.length := ⟨_, rfl⟩
    rw [← hno] at HK HRow HBox HU ho c4
    have HNo : Hid (outs.length = no) := hide hno.symm
    clear hno
    go_enter Try.func87, Try.ntmps87
    go_wp2
    go_region_law ((first | (go_simp; go_at_call 40; refine (Clone_new _ cur _ (HSee.out _ (by (repeat' (first | with_reducible exact Chg.refl _ _ | with_reducible assumption | with_reducible apply Chg.drewN | with_reducible apply Chg.drew | with_reducible apply Chg.alloc | (with_reducible refine Chg.setCell ?_ (Or.inr ?_) _) | (with_reducible refine Chg.trans ?_ (by assumption)) | (simp; done) | (simp; omega))))) (by omega)).mono ?_; rintro e w1 ⟨u, rfl, hI1, hw1⟩; obtain ⟨bo, bc, rfl, _⟩ := row_shape hI1; have hy1 := hw1.size; (try simp at hy1); have k1 : Chg [] w w1 := (by (repeat' (first | with_reducible exact Chg.refl _ _ | with_reducible assumption | with_reducible apply Chg.drewN | with_reducible apply Chg.drew | with_reducible apply Chg.alloc | (with_reducible refine Chg.setCell ?_ (Or.inr ?_) _) | (with_reducible refine Chg.trans ?_ (by assumption)) | (simp; done) | (simp; omega)))); have fo := (HK.out w1 k1).2; have lo : Bo < w1.heap.size := (by omega)) | (refine step_append_lies _ (by rfl) _ _ 62 (by rfl) W0.heap.size 51 i0 (.slice none 0 0) 1 24 Try.underlying62 hi hz0 hz1 hz2 (by rfl) (by decide) (.slice oo no ocap) no us (by rfl) ((HRow.out w1 (by (repeat' (first | with_reducible exact Chg.refl _ _ | with_reducible assumption | with_reducible apply Chg.drewN | with_reducible apply Chg.drew | with_reducible apply Chg.alloc | (with_reducible refine Chg.setCell ?_ (Or.inr ?_) _) | (with_reducible refine Chg.trans ?_ (by assumption)) | (simp; done) | (simp; omega))))).alloc _) ⟨w1.heap.size, 0, none⟩ 1 1 [.slice bo cur.length bc] (by rfl) (by rfl) (by intro j u hj; rw [add_zero_row, (Box.new w1 _ _).cell j]; simpa using hj) (by intro x hx; rw [List.mem_singleton] at hx; subst hx; rfl) (by decide) (by unfold maxLen; omega) (by omega) (by simp; omega) (w1.heap.size + 1) (by simp) ?_; intro g cap' w2 hown2 hgrow2 hat hlt; have q3 := box_grown ((HBox.out.2.2.1.keep k1 List.not_mem_nil).old _) ((HRow.out w1 k1).alloc _) hgrow2 hB.2.2.1; have q4 := box_grown ((HBox.out.2.2.2.keep k1 List.not_mem_nil).old _) ((HRow.out w1 k1).alloc _) hgrow2 hB.2.1; have f4 := q4.free 0; have fo2 := q4.cell 0; (try simp at fo2); have q5 := q3.set' (p := ⟨Bo, 0, none⟩) n1 (.slice (some ⟨g, 0, none⟩) (no + 1) cap'))))
    all_goals (
      have kA : Chg [] w (w1.alloc (.cells #[.slice bo cur.length bc] 51)) := k1.alloc _
      have o2 := kA.row HU.out.2.1 (fun _ _ => List.not_mem_nil)
      have o3 := fun i u hu => And.intro (kA.row (HU.out.2.2 i u hu).1 (fun _ _ => List.not_mem_nil)) (HU.out.2.2 i u hu).2
      have ov := kA.row HV.out.1 (fun _ _ => List.not_mem_nil)
      have hub : (Value.slice bo cur.length bc).ownBlock = none ∨ (Value.slice bo cur.length bc).ownBlock ≠ (Value.slice ao cur.length cap).ownBlock := by
        cases hb : (Value.slice bo cur.length bc).ownBlock with
        | none => exact .inl rfl
        | some q =>
          refine .inr fun e => ?_
          have e1 := (hI1.lt q hb).1
          have e2 := (HV.out.1.lt q e.symm).2
          simp at e1
          omega
      have hI2 : w1.ownsRow W0.heap.size 3 1 (.slice bo cur.length bc) cur.length (cur.map (Value.int .i64)) := row_low hI1 (by simp; omega)
      have HH : Hid (SlotSt W0 Bk Bo Bv Bg cur.length (w2.setCell ⟨Bo, 0, none⟩ (.slice (some ⟨g, 0, none⟩) (no + 1) cap')) cur (outs ++ W.gs 0 true cur)) := hide ⟨_, _,
        (box_grown (HBox.out.1.keep kA List.not_mem_nil) o2 hgrow2 hB.1).set' (Ne.symm n4) _,
        (box_grown (HBox.out.2.1.keep kA List.not_mem_nil) o2 hgrow2 hB.2.2.2).set' (Ne.symm n5) _,
        q3.set' n1 _, q4.set1 _, row_set (ov.kept hgrow2 (row_apart ov o2 (Ne.symm ints_ne))) hB.2.1 _,
        (RowsX.add (by rw [HNo.out]; exact HU.out.1) (by rw [HNo.out]; exact o2) o3 (hI2.alloc _) hub hgrow2 (by rw [HNo.out]; exact hown2)).chg (Chg.set _ _ _) (fun s hs => by simp at hs; rw [hs]; exact hB.2.1),
        (chg_grown (HV.out.2.trans kA.toAny) o2 (Nat.le_refl _) hgrow2).setCell (.inl (by simp)) _⟩
      clear kA o2 o3 ov hub hI2 q3 q4 q5 hown2 hgrow2 hI1
      go_wp2
      refine bodyPost_ret (v := .tuple #[]) ?_ rfl ⟨rfl, HH.out⟩
      simp [results, Try.results87])
end Go.Proofs.Ytohdjlgghkcaoaa
