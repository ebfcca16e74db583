/- Walk: orders: the search of lines. -/
import Derived.Test.YtpplihpfjniacaaDoorLn1
import Derived.Deep.RegionLaw
namespace Go.Proofs.YtpplihpfjniacaaDoor
open Go.RowKit Go.Shelf
attribute [local go_sem] Oper.semAt_some

set_option maxRecDepth 100000 in
set_option maxHeartbeats 4000000 in
theorem growL_step (l : List Int) (w0 : World) (Z N : Nat) (T : Tr.Tour l) (hA : Tr.Acy l) (h6 : l.length ≤ 6) (hT : Tz w0) (ih : GrowL l w0 Z N) : GrowL l w0 Z (N + 1) := by
  intro left lv lst W hleft hl2 hcard hst
  obtain ⟨ao, cap, rfl, hcap⟩ := hst.shape
  have HIH := hide ih
  have HTr := hide T
  have HAc := hide hA
  have HT := hide (hT.keep hst.1.2.2.1)
  have HSt := hide hst
  have HN := hide (And.intro hleft (And.intro hl2 hcard))
  have l64 : left < 64 := Nat.lt_of_lt_of_le hl2 (Nat.pow_le_pow_right (n := 2) (by decide) h6)
  obtain ⟨n, hn⟩ : ∃ n, n = l.length := ⟨_, rfl⟩
  have hzW := hst.1.2.2.2.1
  have HB := hide (And.intro hn h6)
  have hT' := hide (And.intro hT.lt hst.1.2.2.2.2)
  clear ih T hA hT hst hleft hl2 hcard hn h6
  unfold lnCap
  refine calls_calm 9 Tryd.func80 rfl ?_
  simp only [Tryd.ntmps80, List.size_toArray, List.length_cons, List.length_nil, Nat.reduceAdd, Nat.reduceSub, Array.replicate_succ, Array.replicate_zero, List.push_toArray, List.append_toArray, List.nil_append, List.cons_append]
  by_cases h0 : left = 0
  · have d0 : ((left : Int) == 0) = true := by simp; omega
    have f1 := HSt.out.2.2.2.cell 0
    have l1 := HSt.out.2.2.2.lt
    have f2 := HSt.out.2.1.cell 0
    have l2 := HSt.out.2.1.lt
    simp only [List.getElem?_toArray, List.getElem?_cons_zero] at f1 f2
    have z1 := HSt.out.2.2.2.free 0
    obtain ⟨i0, hi, hz0, hz1, hz2⟩ := info_parts infoInts
    have hlen : lst.length ≤ 8 := by have := HN.out.2.2; omega
    have HSee := hide fun ws (hw : Chg [] W ws) => ((row_one (xs := natsI lst) (by rw [natsI_map]; exact HSt.out.2.2.1) (natsI_len lst).symm).toSee).keep hw
    have HBx := hide fun ws (hw : Chg [] W ws) => HSt.out.2.2.2.keep hw List.not_mem_nil
    have HW := hide (show W.heap.size = W.heap.size from rfl)
    go_wp2
    obtain ⟨B5, hB5⟩ : ∃ B5, W.heap.size = B5 := ⟨_, rfl⟩
    rw [hB5]
    obtain ⟨W1, e1, b1, c1, z1'⟩ := alloc_box hB5 #[.int .i64 0] 3
    rw [e1]
    have f1 := (HBx.out W1 c1).cell 0
    have l1 := (HBx.out W1 c1).lt
    have f2 := (HSt.out.2.1.keep c1 List.not_mem_nil).cell 0
    have l2 := (HSt.out.2.1.keep c1 List.not_mem_nil).lt
    simp only [List.getElem?_toArray, List.getElem?_cons_zero] at f1 f2
    have HB1 := hide b1
    have HC1 := hide c1
    clear b1 e1 c1
    go_region_law ((first | (go_simp; go_at_call 7; refine (Clone_new _ (natsI lst) _ (HSee.out _ (HC1.out.trans (by (repeat' (first | with_reducible exact Chg.refl _ _ | with_reducible assumption | with_reducible apply Chg.drewN | with_reducible apply Chg.drew | with_reducible apply Chg.alloc | (with_reducible refine Chg.setCell ?_ (Or.inr ?_) _) | (with_reducible refine Chg.trans ?_ (by assumption)) | (simp; done) | (simp; omega)))))) (by rw [natsI_len]; omega)).mono ?_; rintro e w1 ⟨u, rfl, hI1, hw1⟩; rw [natsI_len, natsI_map] at hI1; obtain ⟨bo, bc, rfl, _⟩ := row_shape hI1; have hy1 := hw1.size; (try simp at hy1); have k1 : Chg [] W1 w1 := (by (repeat' (first | with_reducible exact Chg.refl _ _ | with_reducible assumption | with_reducible apply Chg.drewN | with_reducible apply Chg.drew | with_reducible apply Chg.alloc | (with_reducible refine Chg.setCell ?_ (Or.inr ?_) _) | (with_reducible refine Chg.trans ?_ (by assumption)) | (simp; done) | (simp; omega)))); have k0 := HC1.out.trans k1; have fo := (HBx.out w1 k0).free 0; have fc1 := (HBx.out w1 k0).cell 0; (try simp only [List.getElem?_toArray, List.getElem?_cons_zero] at fc1); have lo : Z + 1 < w1.heap.size := (by omega)) | (refine step_append_lies _ (by rfl) _ _ 29 (by rfl) (Z + 1 + 1 + 1 + 1) 22 i0 (.slice none 0 0) 1 24 Tryd.underlying29 hi hz0 hz1 hz2 (by rfl) (by decide) (.slice none 0 0) 0 [] (by rfl) (World.ownsRow_nil _ _ _ _) ⟨w1.heap.size, 0, none⟩ 1 1 [.slice bo lst.length bc] (by rfl) (by rfl) (by intro j u hj; rw [add_zero_row, (Box.new w1 _ _).cell j]; simpa using hj) (by intro x hx; rw [List.mem_singleton] at hx; subst hx; rfl) (by decide) (by unfold maxLen; omega) (by omega) (by simp; omega) (w1.heap.size + 1) (by simp) ?_; intro g cap' w2 hown2 hgrow2 hat hlt; have q4 := box_grown ((HBx.out w1 k0).old _) (World.ownsRow_nil (w1.alloc (.cells #[.slice bo lst.length bc] 22)) (Z + 1 + 1 + 1 + 1) 22 1) hgrow2 (by omega); have f4 := q4.free 0; have fo2 := q4.cell 0; have lo2 := q4.lt; (try simp at fo2))))
    all_goals
      have hat' : (Value.slice none 0 0).ownBlock = some g ∨ g = (w1.alloc (.cells #[.slice bo lst.length bc] 22)).heap.size := hat.imp id (fun h => by rw [h]; simp)
      obtain ⟨p1, p2, p3, p4⟩ := push_row (HBx.out w1 k0) (World.ownsRow_nil _ _ _ _) (by omega) hgrow2 hown2 hat'
      have hgg : W.heap.size ≤ g := by
        rcases hat with h | h
        · cases h
        · omega
      have hbase := fun q hq => (hI1.lt q hq).1
      have hI4 := p3.row hI1 (fun q hq hm => by
        rcases List.mem_cons.1 hm with e | e
        · have := hbase q hq; have hz' : Z + 1 < W1.heap.size := l1; first | (simp at this; omega) | omega
        · cases e)
      have c4 : Chg [Z + 1] W _ := k0.toAny.trans p3
      have b4 := (HB1.out.keep k1 List.not_mem_nil).keep p3 (fun hm => by
        rcases List.mem_cons.1 hm with e | e
        · omega
        · cases e)
      simp only [Nat.zero_add, List.nil_append] at p1 p2 p3 c4 b4 hI4
      generalize w2.setCell ⟨Z + 1, 0, none⟩ (.slice (some ⟨g, 0, none⟩) 1 cap') = W4 at p1 p2 p3 c4 b4 hI4 ⊢
      have HL4 : Hid (Ln1 l w0 Z lst.length lst W.heap.size [] W4) := hide ⟨HSt.out.1.keep c4 (fun s hs => by rw [List.mem_singleton] at hs; exact .inl hs), ⟨ao, cap, hcap, HSt.out.2.1.keep c4 (fun hm => by rw [List.mem_singleton] at hm; omega)⟩, _, _, p1, p2, ⟨hI4.1, by
          rcases hI4.2 with h | ⟨g', c', cu, h1, h2, h3⟩
          · exact .inl h
          · exact .inr ⟨g', c', cu, h1, by have := HB1.out.lt; have : Z + 1 < W1.heap.size := l1; have hz : W1.drew.heap.size = W1.heap.size := rfl; omega, h3⟩⟩, fun q hq => ⟨by cases hq; exact hgg, by simp⟩, fun q hq => ⟨by have := hbase q hq; have hz : W1.drew.heap.size = W1.heap.size := rfl; omega, by simp⟩⟩
      have HC4 : Hid (Chg ((Z + 1) :: (Z + 1 + 1) :: (Value.slice ao lst.length cap).ownBlock.toList) W W4) := hide (c4.mono (fun x hx => by rw [List.mem_singleton] at hx; rw [hx]; exact List.mem_cons_self ..))
      have HK4 : Hid (KeepsFrom 0 W W4) := hide ((kf_chg (S := []) k0 (fun _ h => by cases h)).trans (kf_chg p3 (fun s hs => .inr (fun o ho => by
        rcases List.mem_cons.1 hs with e | e
        · subst e
          rw [show w1.heap[Z + 1]? = _ from HBx.out w1 k0] at ho
          cases ho; rfl
        · cases e))))
      have HT4 := hide (HT.out.keepS c4 (fun hm => by rw [List.mem_singleton] at hm; have := hT'.out.1; have := hT'.out.2; omega))
      have f5 := b4.cell 0
      have l5 := b4.lt
      simp only [List.getElem?_toArray, List.getElem?_cons_zero] at f5
      have hW4 := HC4.out.size
      clear p1 p2 p3 p4 c4 b4 hI4 hI1 hw1 k1 k0 fo fc1 lo hown2 hgrow2 hat hlt q4 f4 fo2 lo2 hat' hgg hbase hy1
      go_wp2_with fail
      have HE := hide (elements_any 0 W4)
      rw [Int.natCast_zero] at HE
      refine HE.out.mono ?_
      rintro e W5 ⟨rfl, rfl⟩
      obtain ⟨B6, hB6⟩ : ∃ B6, W4.heap.size = B6 := ⟨_, rfl⟩
      rw [hB6]
      obtain ⟨W5, e5, b5, c5, z5⟩ := alloc_box hB6 #[.int .i64 0] 3
      rw [e5]
      have hLB : Z + 1 + 1 + 1 + 1 ≤ B6 := by omega
      have HL5 : Hid (Ln1 l w0 Z lst.length lst W.heap.size [B6] W5) := hide ((show Ln1 l w0 Z lst.length lst W.heap.size [B6] W4 from by
        obtain ⟨h1, h2, ov, u, h4, h5, h6, h7, h8⟩ := HL4.out
        exact ⟨h1, h2, ov, u, h4, h5, h6, fun q hq => ⟨(h7 q hq).1, fun hm => by rw [List.mem_singleton] at hm; have := (h5.lt q hq).2; omega⟩, fun q hq => ⟨(h8 q hq).1, fun hm => by rw [List.mem_singleton] at hm; have := (h6.lt q hq).2; omega⟩⟩).keep c5)
      have HK5 : Hid (KeepsFrom 0 W W5) := hide (HK4.out.trans (kf_chg (S := []) c5 (fun _ h => by cases h)))
      have HC5 : Hid (Chg ((Z + 1) :: (Z + 1 + 1) :: (Value.slice ao lst.length cap).ownBlock.toList) W W5) := hide (HC4.out.trans c5.toAny)
      have HT5 := hide (HT4.out.keep c5)
      have HB5 : Hid (BoxI W5 B6 0) := hide b5
      clear b5 c5 e5 f5 l5 HE
      go_wp2
      refine (wpIn_wide (n := 9)).1 ?_
      refine bits_out (by decide) rfl (enters_of Tryd.func97 (by kernel_rfl) rfl) (elems_in 8 B6 (by decide)) rfl (X := 0) (by decide) HB5.out HT5.out
        (fun Y W' => Y = 0 ∧ Ln1 l w0 Z lst.length lst W.heap.size [B6] W' ∧ Chg ((Z + 1) :: (Z + 1 + 1) :: (Value.slice ao lst.length cap).ownBlock.toList) W W' ∧ KeepsFrom 0 W W')
        (fun Y W1 W2 row hs hg hr => ⟨hs.1, hs.2.1.row (by omega) hg hr, hs.2.2.1.row' (by omega) hg hr, kf_row hs.2.2.2 (by omega) hg hr⟩)
        (fun Y W' u hs => ⟨hs.1, hs.2.1.set hLB (by simp) u, hs.2.2.1.setCell (.inr (by show W.heap.size ≤ B6; omega)) _, kf_set hs.2.2.2 (by omega) u⟩)
        ⟨rfl, HL5.out, HC5.out, HK5.out⟩ ?_ ?_ ?_ ?_
      rotate_left
      · intro l' Y W K hK
        gi_wp2
        exact hK
      · rintro l' Y W' _ _ hY0 _ ⟨hY, _⟩ _ _
        exact absurd hY hY0
      · rintro D W' hD ⟨_, hs1, hs2, hs3⟩ hTW hK
        have H1 := hide hs1
        have H2 := hide hs2
        have H3 := hide hs3
        have H4 := hide hK
        clear hs1 hs2 hs3 hTW hK
        go_wp2
        refine leavesM (B := W5.heap.size) (U := D + 1) (K := fun W' => Ln1 l w0 Z lst.length lst W.heap.size [] W' ∧ Chg ((Z + 1) :: (Z + 1 + 1) :: (Value.slice ao lst.length cap).ownBlock.toList) W W' ∧ KeepsFrom 0 W W')
          (fun _ W1 W2 row hs hg hr => ⟨hs.1.row (by omega) hg hr, hs.2.1.row' (by omega) hg hr, kf_row hs.2.2 (by omega) hg hr⟩) (fun W' hs => ?_) _ _ ((Marks.nil _ D _).push hD (Nat.le_refl _) (Nat.lt_succ_self _) H4.out) ⟨H1.out.apart (Nat.le_refl _) (fun _ h => by cases h), H2.out, H3.out⟩
        exact ⟨_, results_none rfl _ _ _, ⟨_, rfl⟩, ⟨[], by first | exact .nil | (rw [h0]; exact .nil), by rw [List.append_nil, ← hB5]; exact hs.1⟩, hs.2⟩
  · have d0 : ((left : Int) == 0) = false := by simp; omega
    have hl2 := HN.out.2.1
    obtain ⟨mn, hmn, hmin⟩ := Tr.ex_min HTr.out HAc.out left left (Nat.le_refl _) h0 hl2
    have HMn := hide (And.intro hmn hmin)
    have hmnn := Tr.bit_ltn hl2 hmn
    go_wp2_with fail
    obtain ⟨B5, hB5⟩ : ∃ B5, W.heap.size = B5 := ⟨_, rfl⟩
    obtain ⟨W1, e1, b1, c1, z1'⟩ := alloc_box hB5 #[.int .i64 (left : Int)] 3
    rw [e1]
    refine (elements_any left W1).mono ?_
    rintro e W2 ⟨rfl, rfl⟩
    rw [z1']
    obtain ⟨W2, e2, b2, c2, z2'⟩ := alloc_box z1' #[.int .i64 (left : Int)] 3
    rw [e2, hB5]
    have c12 := c1.trans c2
    have HS2 := hide (HSt.out.keep c12)
    have HB52 := hide (b1.keep c2 List.not_mem_nil)
    have HC2 := hide c12
    have HB62 := hide b2
    have HT2 := hide (HT.out.keep c12)
    have HOwn : Hid (∀ g, (Value.slice ao lst.length cap).ownBlock = some g → g < B5) := hide fun g hg => by have := (HSt.out.2.2.1.lt g hg).2; omega
    have HK2 : Hid (KeepsFrom 0 W W2) := hide (kf_chg (S := []) c12 (fun _ h => by cases h))
    clear e1 b1 c1 z1' e2 b2 c2 c12 hmn hmin
    go_wp2
    refine (wpIn_wide (n := 9)).1 ?_
    refine bits_out (by decide) rfl (enters_of Tryd.func97 (by kernel_rfl) rfl) (elems_in 8 (B5 + 1) (by decide)) rfl (X := left) (by omega) HB62.out HT2.out
      (fun Y W' => ((Y.testBit mn = true ∧ Ln0 l w0 Z (.slice ao lst.length cap) lst W' ∧ Chg [] W W') ∨ (Y.testBit mn = false ∧ (∃ xs, Tr.Asc l left xs ∧ Ln1 l w0 Z lst.length (lst ++ xs) W.heap.size [B5 + 1] W') ∧ Chg ((Z + 1) :: (Z + 1 + 1) :: (Value.slice ao lst.length cap).ownBlock.toList) W W')) ∧ Box W' B5 #[.int .i64 (left : Int)] 3 ∧ KeepsFrom 0 W W' ∧ ∀ k, Y.testBit k = true → left.testBit k = true)
      (fun Y W1 W2 row hs hg hr => by
        obtain ⟨h, h1, h2, h3⟩ := hs
        refine ⟨?_, h1.row hg hr, kf_row h2 (by omega) hg hr, h3⟩
        rcases h with ⟨k1, k2, k3⟩ | ⟨k1, ⟨xs, k2, k3⟩, k4⟩
        · exact .inl ⟨k1, k2.row (by omega) hg hr, k3.row' (by omega) hg hr⟩
        · exact .inr ⟨k1, ⟨xs, k2, k3.row (by omega) hg hr⟩, k4.row' (by omega) hg hr⟩)
      (fun Y W' u hs => by
        obtain ⟨h, h1, h2, h3⟩ := hs
        refine ⟨?_, h1.set' (by show B5 ≠ B5 + 1; omega) _, kf_set h2 (by omega) u, h3⟩
        rcases h with ⟨k1, k2, k3⟩ | ⟨k1, ⟨xs, k2, k3⟩, k4⟩
        · exact .inl ⟨k1, k2.set (by omega) (fun g hg => by have := HOwn.out g hg; omega) u, k3.setCell (.inr (by show W.heap.size ≤ B5 + 1; omega)) _⟩
        · exact .inr ⟨k1, ⟨xs, k2, k3.set (by omega) (by simp) u⟩, k4.setCell (.inr (by show W.heap.size ≤ B5 + 1; omega)) _⟩)
      ⟨.inl ⟨HMn.out.1, HS2.out, HC2.out⟩, HB52.out, HK2.out, fun _ h => h⟩ ?_ ?_ ?_ ?_
    rotate_left
    · intro l' Y W K hK
      gi_wp2
      exact hK
    · rintro l' Y X hl' ⟨r, hr⟩ hY0 hY65 ⟨hph, hB5x, hKx, hsub⟩ hBY hTY
      have hLnC : LnC l w0 Z X := by
        rcases hph with ⟨_, k, _⟩ | ⟨_, ⟨_, _, k⟩, _⟩
        · exact k.1
        · exact k.1
      have hkl := hsub _ (ctz_low hY0 hY65)
      have hlow := fun j => (Fam.low_test hY0 (show Y < 2 ^ 64 by omega) j).2.2
      have hA64 : ∀ j, Tr.upA l j < 64 := fun j => Nat.lt_of_lt_of_le (Lr.wb_lt _ _ _) (Nat.pow_le_pow_right (n := 2) (by decide) HB.out.2)
      have hsub' : ∀ k, (Y &&& (Y - 1)).testBit k = true → left.testBit k = true := fun k hk => hsub k (by rw [Nat.testBit_and, Bool.and_eq_true] at hk; exact hk.1)
      have hkY := ctz_low hY0 hY65
      obtain ⟨k, hk⟩ : ∃ k, k = Lib.ctz 64 Y := ⟨_, rfl⟩
      rw [← hk] at hkl hkY ⊢
      have hkn : k < l.length := Tr.bit_ltn hl2 hkl
      have HBl := hide fun ws => below_any l.length (Tr.upA l) k ws HB.out.2 (by have := HB.out.2; omega) hA64
      rw [below_up HTr.out] at HBl
      have htk := tb_lt HTr.out k
      have eand := land_nat (tb l k) left (by omega) (by omega)
      obtain ⟨m, hm⟩ : ∃ m, m = tb l k &&& left := ⟨_, rfl⟩
      rw [← hm] at eand
      generalize htv : tb l k = tv at HBl eand
      have hm0 : m = 0 ↔ k = mn := by
        constructor
        · intro h
          refine Tr.least_one HTr.out hl2 hkl HMn.out.1 (fun z hz => ?_) HMn.out.2
          unfold Tr.bt
          cases hb : (tb l k).testBit z with
          | false => rfl
          | true =>
            have : m.testBit z = true := by rw [hm, Nat.testBit_and, hb, hz]; rfl
            rw [h] at this; simp at this
        · intro h
          rw [hm]
          refine Nat.eq_of_testBit_eq fun z => ?_
          rw [Nat.testBit_and, Nat.zero_testBit]
          cases hb : left.testBit z with
          | false => rw [Bool.and_false]
          | true => have := HMn.out.2 z hb; rw [← h] at this; unfold Tr.bt at this; rw [this]; rfl
      obtain ⟨⟨f0, f1, f2, f3, f4, f5, f6⟩, l3⟩ := ord_all hLnC.1
      unfold ordV ordC at HBl
      have fB := hB5x.cell 0
      have lB := hB5x.lt
      simp only [List.getElem?_toArray, List.getElem?_cons_zero] at fB
      have HPh := hide hph
      have HX := hide (And.intro hB5x (And.intro hKx (And.intro hBY hTY)))
      have HLow := hide hlow
      have HSub := hide hsub'
      have HKk := hide (And.intro hk (And.intro hkl hkY))
      have k6 : k < 6 := by have := HB.out.2; omega
      clear hph hB5x hKx hsub hLnC hkl hlow hA64 hsub' hkY hk htk hm htv hBY hTY
      by_cases hkm : k = mn
      · have hm00 : m = 0 := hm0.2 hkm
        subst hm00
        have HKm := hide hkm
        clear hm0 hkm
        gi_wp2
        refine region_round_ext (by kernel_rfl) (by kernel_rfl) (by kernel_rfl) ?_
        repeat (first | go_big_quiet_step ((go_at_call 75; exact calls_of_ret (HBl.out _))) | quiet_step ((go_at_call 75; exact calls_of_ret (HBl.out _))))
        refine wpQuiet_nil ?_
        intro wx hx
        obtain ⟨q2, q3⟩ : Ln0 l w0 Z (.slice ao lst.length cap) lst X ∧ Chg [] W X := by
          rcases HPh.out with ⟨_, q2, q3⟩ | ⟨q1, _⟩
          · exact ⟨q2, q3⟩
          · rw [← HKm.out, HKk.out.2.2] at q1; cases q1
        have HSx := hide (q2.keep hx)
        have HQ3 := hide q3
        have HX2 := hide hx
        obtain ⟨i0, hi, hz0, hz1, hz2⟩ := info_parts infoInt
        have HRow := hide HSx.out.2.2.1
        have HBl2 := hide HSx.out.2.1
        have fl := HBl2.out.cell 0
        have ll := HBl2.out.lt
        simp only [List.getElem?_toArray, List.getElem?_cons_zero] at fl
        have hzx := HSx.out.1.2.2.2.1
        have hlen8 : lst.length ≤ 8 := by have := HN.out.2.2; omega
        have hB5x : B5 + 1 < wx.heap.size := Nat.lt_of_lt_of_le HX.out.2.2.1.lt hx.size
        clear q2 q3 hx f0 f1 f2 f3 f4 f5 f6 l3 fB lB HBl eand
        gi_wp2_with (gi_at_builtin; refine wpListIn_append_lies _ rfl _ _ 22 rfl (Z + 1 + 1 + 1 + 1) 3 i0 (.int .i64 0) 1 8 Tryd.underlying22 hi hz0 hz1 hz2 rfl (by decide) _ _ _ rfl (HRow.out.alloc _) ⟨wx.heap.size, 0, none⟩ 1 1 [.int .i64 (k : Int)] rfl rfl (by intro j u hj; rw [add_zero_row, (Box.new wx _ _).cell j]; simpa using hj) (by intro x hx; rw [List.mem_singleton] at hx; subst hx; rfl) (by decide) (by unfold maxLen; omega) (by omega) (by simp; omega) _ rfl ?_; intro g1 cap1 w3 hown1 hgrow1 hat1 hlt1; have q5 := box_grown (HBl2.out.old _) (HRow.out.alloc _) hgrow1 (by omega); have q5c := q5.cell 0; have q5l := q5.lt; have q5f := q5.free 0; simp only [List.getElem?_toArray, List.getElem?_cons_zero] at q5c)
        obtain ⟨p1, p2, p3, p4⟩ := push_row HBl2.out HRow.out (by omega) hgrow1 hown1 hat1
        have hown : ∀ g, (Value.slice ao lst.length cap).ownBlock = some g → Z + 1 + 1 + 1 + 1 ≤ g := fun g hg => (HRow.out.lt g hg).1
        have hg1 : (Value.slice ao lst.length cap).ownBlock = some g1 ∨ W.heap.size ≤ g1 := hat1.imp id (fun h => by rw [h]; have := (HQ3.out.trans HX2.out).size; simp; omega)
        have hg14 : Z + 1 + 1 + 1 + 1 ≤ g1 := (hown1.lt g1 rfl).1
        have hg1B := p4 [B5, B5 + 1] (fun b hb => by simp at hb; omega) (fun g hg hm => by have := HOwn.out g hg; simp at hm; omega)
        rw [← natsV_snoc] at p2
        generalize w3.setCell ⟨Z + 1 + 1, 0, none⟩ (.slice (some ⟨g1, 0, none⟩) (lst.length + 1) cap1) = W9 at p1 p2 p3 ⊢
        have hS3 : ∀ s ∈ (Z + 1 + 1) :: (Value.slice ao lst.length cap).ownBlock.toList, s = Z + 1 + 1 ∨ (Z + 1 + 1 + 1 + 1 ≤ s ∧ s < B5) := fun s hs => by
          rcases List.mem_cons.1 hs with e | e
          · exact .inl e
          · have := hown s (Option.mem_toList.1 e); have := HOwn.out s (Option.mem_toList.1 e); exact .inr ⟨by omega, by omega⟩
        have HS9 : Hid (Ln0 l w0 Z (.slice (some ⟨g1, 0, none⟩) (lst.length + 1) cap1) (lst ++ [k]) W9) := hide ⟨HSx.out.1.keep p3 (fun s hs => by rcases hS3 s hs with h | h <;> omega), p1, by rw [List.length_append]; exact p2, HSx.out.2.2.2.keep p3 (fun hm => by rcases hS3 _ hm with h | h <;> omega)⟩
        have HB59 := hide ((HX.out.1.keep HX2.out List.not_mem_nil).keep p3 (fun hm => by rcases hS3 _ hm with h | h <;> omega))
        have HB69 : Hid (BoxI W9 (B5 + 1) Y) := hide ((HX.out.2.2.1.keep HX2.out List.not_mem_nil).keep p3 (fun hm => by rcases hS3 _ hm with h | h <;> omega))
        have HT9 := hide ((HX.out.2.2.2.keep HX2.out).keepS p3 (fun hm => by have := hT'.out.1; have := hT'.out.2; rcases hS3 _ hm with h | h <;> omega))
        have HK9 : Hid (KeepsFrom 0 X W9) := hide ((kf_chg (S := []) HX2.out (fun _ h => by cases h)).trans (kf_chg p3 (fun s hs => .inr (fun o ho => by
          rcases List.mem_cons.1 hs with e | e
          · subst e
            rw [show wx.heap[Z + 1 + 1]? = _ from HBl2.out] at ho
            cases ho; rfl
          · exact own_cells HRow.out (Option.mem_toList.1 e) o ho))))
        have HC9 : Hid (Chg ((Z + 1) :: (Z + 1 + 1) :: (Value.slice ao lst.length cap).ownBlock.toList) W W9) := hide ((HQ3.out.trans HX2.out).toAny.trans' p3 (fun x hx => .inl (List.mem_cons_of_mem _ hx)))
        have HG1 := hide (And.intro hg1 (And.intro hg14 hg1B))
        clear p1 p2 p3 p4 hown1 hgrow1 hat1 hlt1 q5 q5c q5l q5f fl ll hown hg1 hg14 hg1B hS3 HSx HRow HBl2 hi hz0 hz1 hz2
        have l16 : left < 65536 := by omega
        have hdl := Tr.del_lt l16 HKk.out.2.1
        have hcd := Tr.card_del l16 HKk.out.2.1
        have eargs : ∀ v : Value, #[v] ++ lnCap Z = #[v, .pointer (some ⟨Z + 1, 0, none⟩), .pointer (some ⟨Z + 1 + 1, 0, none⟩), .pointer (some ⟨Z, 0, none⟩), .pointer (some ⟨Z + 1 + 1 + 1, 0, none⟩)] := fun v => rfl
        have HRec := hide fun ws (hw : Chg [] W9 ws) => HIH.out (Tr.del left k) _ (lst ++ [k]) ws (by have := HN.out.1; omega) (by omega) (by rw [List.length_append]; have := HN.out.2.2; simp; omega) (HS9.out.keep hw)
        simp only [eargs] at HRec
        have ean := andn1 (a := left) (i := k) l16 (by omega)
        have es1 := shl1 (i := k) (by omega)
        have es2 := shl2 (i := k) (by omega)
        change bits BinOp.andNot IntKind.i64 (left : Int) ((2 : Int) ^ k) = ((Tr.del left k : Nat) : Int) at ean
        have HDl := hide (And.intro hdl hcd)
        obtain ⟨dl, hdle⟩ : ∃ dl, dl = Tr.del left k := ⟨_, rfl⟩
        rw [← hdle] at ean HDl
        simp only [← hdle] at HRec
        have HDe := hide hdle
        clear hdle
        have fg := HS9.out.1.2.1.cell 0
        have lg := HS9.out.1.2.1.lt
        have fB := HB59.out.cell 0
        have lB := HB59.out.lt
        simp only [List.getElem?_toArray, List.getElem?_cons_zero] at fg fB
        unfold lnCap at fg
        have q0 : (0 : Int) ≤ (k : Int) := by omega
        have q64 : (k : Int) < 64 := by omega
        clear hdl hcd eargs
        gi_wp2
        refine region_round_still 5 (by kernel_rfl) (by kernel_rfl) (by kernel_rfl) ?_
        simp only [List.take_succ_cons, List.take_zero, List.drop_succ_cons, List.drop_zero]
        repeat still_step
        try refine wpStill_nil ?_
        go_wp2_with fail
        refine (HRec.out _ (by (repeat' (first | with_reducible exact Chg.refl _ _ | with_reducible assumption | with_reducible apply Chg.drewN | with_reducible apply Chg.drew | with_reducible apply Chg.alloc | (with_reducible refine Chg.setCell ?_ (Or.inr ?_) _) | (with_reducible refine Chg.trans ?_ (by assumption)) | (simp; done) | (simp; omega))))).mono ?_
        rintro e w10 ⟨⟨v10, rfl⟩, ⟨xs', hasc, hL10⟩, hc10, hk10⟩
        rw [List.length_append, List.append_assoc] at hL10
        change Ln1 l w0 Z (lst.length + 1) (lst ++ (k :: xs')) W9.heap.size [] w10 at hL10
        change Chg ((Z + 1) :: (Z + 1 + 1) :: [g1]) W9.drew w10 at hc10
        have hzd := HB69.out.lt
        have CD := (Chg.refl [] W9).drew
        have HL10 : Hid (Ln1 l w0 Z (lst.length + 1) (lst ++ (k :: xs')) W.heap.size [B5 + 1] w10) := hide (hL10.apart (by have := HC9.out.size; omega) (fun b hb => by rw [List.mem_singleton] at hb; omega))
        have HAs : Hid (Tr.Asc l left (k :: xs')) := hide (.cons HKk.out.2.1 (fun y hy => by have := HMn.out.2 y hy; rw [← HKm.out] at this; exact this) (by rw [← HDe.out]; exact hasc))
        have hg3 := HG1.out
        have HB510 := hide ((HB59.out.keep CD List.not_mem_nil).keep hc10 (fun hm => by
          rcases List.mem_cons.1 hm with e | hm
          · omega
          · rcases List.mem_cons.1 hm with e | hm
            · omega
            · exact hg3.2.2 (by rw [List.mem_singleton] at hm; rw [← hm]; exact List.mem_cons_self ..)))
        have HB610 : Hid (BoxI w10 (B5 + 1) Y) := hide ((HB69.out.keep CD List.not_mem_nil).keep hc10 (fun hm => by
          rcases List.mem_cons.1 hm with e | hm
          · omega
          · rcases List.mem_cons.1 hm with e | hm
            · omega
            · exact hg3.2.2 (by rw [List.mem_singleton] at hm; rw [← hm]; exact List.mem_cons_of_mem _ (List.mem_cons_self ..))))
        have HT10 := hide ((HT9.out.keep CD).keepS hc10 (fun hm => by
          have := hT'.out.1
          have := hT'.out.2
          rcases List.mem_cons.1 hm with e | hm
          · omega
          · rcases List.mem_cons.1 hm with e | hm
            · omega
            · rw [List.mem_singleton] at hm; omega))
        have HC10 : Hid (Chg ((Z + 1) :: (Z + 1 + 1) :: (Value.slice ao lst.length cap).ownBlock.toList) W w10) := hide ((HC9.out.trans CD.toAny).trans' hc10 (fun x hx => by
          rcases List.mem_cons.1 hx with e | hx
          · rw [e]; exact .inl (List.mem_cons_self ..)
          · rcases List.mem_cons.1 hx with e | hx
            · rw [e]; exact .inl (List.mem_cons_of_mem _ (List.mem_cons_self ..))
            · rw [List.mem_singleton] at hx
              rw [hx]
              rcases hg3.1 with h | h
              · exact .inl (List.mem_cons_of_mem _ (List.mem_cons_of_mem _ (Option.mem_toList.2 h)))
              · exact .inr h))
        have HK10 : Hid (KeepsFrom 0 X w10) := hide ((HK9.out.trans (kf_chg (S := []) CD (fun _ h => by cases h))).trans hk10)
        obtain ⟨ao', cap', hcap', hbl⟩ := hL10.2.1
        have HBl := hide hbl
        have fl := hbl.cell 0
        have ll := hbl.lt
        have fz := hbl.free 0
        simp only [List.getElem?_toArray, List.getElem?_cons_zero] at fl
        have hw9 : IntKind.i64.wrap (((lst.length + 1 : Nat) : Int) - 1) = (lst.length : Int) := by rw [IntKind.wrap_i64]; omega
        have hw10 : IntKind.i64.wrap ((lst.length : Int) + 1 - 1) = (lst.length : Int) := by rw [IntKind.wrap_i64]; omega
        have hw11 : IntKind.i64.wrap (lst.length : Int) = (lst.length : Int) := by rw [IntKind.wrap_i64]; omega
        have g9 : (lst.length : Int) ≤ (cap' : Int) := by omega
        have g8 : (0 : Int) ≤ (lst.length : Int) := by omega
        have g7 : lst.length ≤ cap' := by omega
        clear hasc hL10 hc10 hk10 hbl CD hg3 fg lg fB lB ean es1 es2 HRec
        go_wp2
        simp only [goesOn]
        gi_wp2
        have cs := Chg.set w10 ⟨Z + 1 + 1, 0, none⟩ (.slice ao' lst.length cap')
        have hnz : ∀ y, y ≠ Z + 1 + 1 → y ∉ [(⟨Z + 1 + 1, 0, none⟩ : Addr).block] := fun y hy hm => hy (List.mem_singleton.1 hm)
        refine ⟨(kf_mono HK10.out (Nat.zero_le _)).trans (kf_chg cs (fun s hs => .inl (by rw [List.mem_singleton] at hs; have hs : s = Z + 1 + 1 := hs; omega))), HB610.out.keep cs (hnz _ (by omega)), HT10.out.keepS cs (hnz _ (by have := hT'.out; omega)), .inr ⟨?_, ⟨k :: xs', HAs.out, HL10.out.pop g7⟩, HC10.out.setCell (.inl (List.mem_cons_of_mem _ (List.mem_cons_self ..))) _⟩, HB510.out.keep cs (hnz _ (by omega)), ?_, HSub.out⟩
        · rw [HLow.out mn, ← HKk.out.1, HKm.out]; simp
        · exact (HX.out.2.1.trans HK10.out).trans (kf_chg cs (fun s hs => .inr (fun o ho => by
            rw [List.mem_singleton] at hs
            have hs : s = Z + 1 + 1 := hs
            subst hs
            rw [show w10.heap[Z + 1 + 1]? = _ from HBl.out] at ho
            cases ho; rfl)))
      · have em : ((m : Int) == 0) = false := by have : m ≠ 0 := fun h => hkm (hm0.1 h); simp; omega
        have HKm := hide hkm
        clear hm0 hkm
        gi_wp2
        refine region_round_ext (by kernel_rfl) (by kernel_rfl) (by kernel_rfl) ?_
        repeat (first | go_big_quiet_step ((go_at_call 75; exact calls_of_ret (HBl.out _))) | quiet_step ((go_at_call 75; exact calls_of_ret (HBl.out _))))
        refine wpQuiet_nil ?_
        intro wx hx
        have HX2 := hide hx
        clear hx
        gi_wp2
        have hx := HX2.out
        obtain ⟨k1, k2, k3, k4⟩ := HX.out
        have hmk : ∀ b, Y.testBit mn = b → (Y &&& (Y - 1)).testBit mn = b := fun b hb => by
          rw [HLow.out mn, hb, ← HKk.out.1, decide_eq_false (fun e => HKm.out e.symm)]
          cases b <;> rfl
        refine ⟨kf_chg (S := []) hx (fun _ h => by cases h), k3.keep hx List.not_mem_nil, k4.keep hx, ?_, k1.keep hx List.not_mem_nil, k2.trans (kf_chg (S := []) hx (fun _ h => by cases h)), HSub.out⟩
        rcases HPh.out with ⟨q1, q2, q3⟩ | ⟨q1, ⟨xs, q2, q3⟩, q4⟩
        · exact .inl ⟨hmk _ q1, q2.keep hx, q3.trans hx⟩
        · exact .inr ⟨hmk _ q1, ⟨xs, q2, q3.keep hx⟩, q4.trans hx.toAny⟩
    · rintro D W' hD ⟨hph, hs1, hs2, _⟩ hTW hK
      rcases hph with ⟨q1, _, _⟩ | ⟨_, ⟨xs, q2, q3⟩, q4⟩
      · simp at q1
      have H1 := hide q2
      have H2 := hide q3
      have H3 := hide (And.intro q4 hs2)
      have H4 := hide hK
      clear q2 q3 q4 hs1 hs2 hTW hK
      go_wp2
      refine leavesM (B := W2.heap.size) (U := D + 1) (K := fun W' => Ln1 l w0 Z lst.length (lst ++ xs) W.heap.size [] W' ∧ Chg ((Z + 1) :: (Z + 1 + 1) :: (Value.slice ao lst.length cap).ownBlock.toList) W W' ∧ KeepsFrom 0 W W')
        (fun _ W1 W2 row hs hg hr => ⟨hs.1.row (by omega) hg hr, hs.2.1.row' (by omega) hg hr, kf_row hs.2.2 (by omega) hg hr⟩) (fun W' hs => ?_) _ _ ((Marks.nil _ D _).push hD (Nat.le_refl _) (Nat.lt_succ_self _) H4.out) ⟨H2.out.apart (Nat.le_refl _) (fun _ h => by cases h), H3.out⟩
      exact ⟨_, results_none rfl _ _ _, ⟨_, rfl⟩, ⟨xs, H1.out, hs.1⟩, hs.2⟩
end Go.Proofs.YtpplihpfjniacaaDoor
