/- Walk: tournaments: the search of the first way. -/
import Derived.Test.YtpplihpfjniacaaDoorWy1
import Derived.Deep.RegionLaw
namespace Go.Proofs.YtpplihpfjniacaaDoor
open Go.RowKit Go.Shelf
attribute [local go_sem] Oper.semAt_some

theorem own_len (ao : Option Addr) (n m c d : Nat) : (Value.slice ao n c).ownBlock = (Value.slice ao m d).ownBlock := by cases ao <;> rfl
theorem row_last {w : World} {base m : Nat} {v : Value} {pre : List Nat} {z : Nat} (h : w.ownsRow base 3 1 v (m + 1) (natsV (pre ++ [z]))) (hm : pre.length = m) : ∃ g c, v = .slice (some ⟨g, 0, none⟩) (m + 1) c ∧ g < w.heap.size ∧ w.cell? ⟨g, m, none⟩ = some (.int .i64 (z : Int)) := by
  rcases h.2 with ⟨_, h0⟩ | ⟨g, c, cur, e0, hb, hg, hle, hcap, hsz, ht⟩
  · omega
  · refine ⟨g, c, e0, (Array.getElem?_eq_some_iff.1 hg).1, ?_⟩
    rw [cell_of_row w g m cur 3 (0, 0) hg]
    have e : (natsV (pre ++ [z]))[m]? = some (.int .i64 (z : Int)) := by
      rw [natsV_snoc, List.getElem?_append_right (by unfold natsV; rw [List.length_map]; omega)]
      unfold natsV
      rw [List.length_map, hm, Nat.sub_self]
      rfl
    rw [← ht, List.getElem?_take, if_pos (by omega)] at e
    simpa using e

set_option maxRecDepth 100000 in
set_option maxHeartbeats 4000000 in
theorem growW_step (l : List Int) (w0 : World) (Z : Nat) (a : Addr) (cap N : Nat) (T : Tr.Tour l) (hA : Tr.Acy l) (hT : Tz w0) (hTA : TourAt w0 (.slice (some a) l.length cap) l a cap) (ih : GrowW l w0 Z a cap N) : GrowW l w0 Z a cap (N + 1) := by
  intro left lv lst W hleft hl2 hcard hlst hst
  obtain ⟨ao, lc, rfl, hcap⟩ := hst.shape
  have HIH := hide ih
  have HTr := hide T
  have HAc := hide hA
  have HT := hide (hT.keep hst.1.2.2.2.2.1)
  have HTA := hide hTA
  have HSt := hide hst
  have HN := hide (And.intro hleft (And.intro hl2 (And.intro hcard hlst)))
  have hn8 := T.len.2
  have l256 : left < 256 := Nat.lt_of_lt_of_le hl2 (Nat.pow_le_pow_right (n := 2) (by decide) hn8)
  have hzW := hst.1.2.2.2.2.2.1
  have hT' := hide (And.intro hT.lt hst.1.2.2.2.2.2.2)
  have hlen8 : lst.length ≤ 8 := by omega
  obtain ⟨n, hn⟩ : ∃ n, n = l.length := ⟨_, rfl⟩
  have HNn := hide hn
  have fl := hst.2.1.cell 0
  have ll := hst.2.1.lt
  have fs := hst.1.2.1.cell 0
  have ls := hst.1.2.1.lt
  have fi := hst.1.2.2.1.cell 0
  have li := hst.1.2.2.1.lt
  have lz := hst.1.1.lt
  simp only [List.getElem?_toArray, List.getElem?_cons_zero] at fl fs fi
  rw [← hn] at fs hcard
  clear ih T hA hT hTA hst hleft hl2 hlst hn
  unfold wyCap
  refine calls_calm 9 Tryd.func82 rfl ?_
  simp only [Tryd.ntmps82, List.size_toArray, List.length_cons, List.length_nil, Nat.reduceAdd, Nat.reduceSub, Array.replicate_succ, Array.replicate_zero, List.push_toArray, List.append_toArray, List.nil_append, List.cons_append]
  by_cases h0 : left = 0
  · have e0 : lst.length = n := by rw [h0, Tr.card_zero] at hcard; omega
    have d0 : ((lst.length : Int) == (n : Int)) = true := by simp; omega
    have HH0 := hide h0
    clear h0 e0 hcard
    go_wp2_with fail
    obtain ⟨B6, hB6⟩ : ∃ B6, W.heap.size = B6 := ⟨_, rfl⟩
    rw [hB6]
    obtain ⟨W1, e1, b1, c1, z1⟩ := alloc_box hB6 #[.int .i64 (left : Int)] 3
    rw [e1]
    obtain ⟨W2, e2, b2, c2, z2⟩ := alloc_box z1 #[.bool false] 4
    rw [e2]
    have HS2 := hide (HSt.out.keep (c1.trans c2))
    have HC2 := hide (c1.trans c2)
    have HB2 := hide b2
    clear e1 b1 c1 e2 b2 c2
    refine (isYes_any _ W2).mono ?_
    rintro e W3 ⟨rfl, h3⟩
    have HS3 := hide (HS2.out.keep h3)
    have HC3 := hide (HC2.out.trans h3)
    have HB3 := hide (HB2.out.keep h3 List.not_mem_nil)
    have f7 := HB3.out.cell 0
    have l7 := HB3.out.lt
    have z7 := HB3.out.free 0
    simp only [List.getElem?_toArray, List.getElem?_cons_zero] at f7
    have HOw : Hid (∀ g, (Value.slice ao lst.length lc).ownBlock = some g → g ≠ B6 + 1) := hide fun g hg => by have := (HSt.out.2.2.lt g hg).2; omega
    clear h3 HS2 HC2 HB2 fl fs fi
    go_wp2
    have cs := Chg.set W3 ⟨B6 + 1, 0, none⟩ (.bool true)
    have q8 := (HB3.out.set1 (.bool true)).cell 0
    simp only [List.getElem?_toArray, List.getElem?_cons_zero] at q8
    refine ⟨.bool true, ?_, true, _, lst, rfl, HS3.out.set (by omega) HOw.out _, fun _ => ⟨rfl, [], by rw [HH0.out]; exact .nil, by rw [List.append_nil]⟩, fun h => absurd (fun z _ y hy => by rw [HH0.out] at hy; simp at hy) h, HC3.out.toAny.setCell (.inr (by show W.heap.size ≤ B6 + 1; omega)) _, fun g hg => .inl hg, (kf_chg (S := []) HC3.out (fun _ h => by cases h)).trans (kf_chg cs (fun s hs => .inr (fun o ho => by
      rw [List.mem_singleton] at hs
      have hs : s = B6 + 1 := hs
      subst hs
      rw [show W3.heap[B6 + 1]? = _ from HB3.out] at ho
      cases ho; rfl)))⟩
    simp [results, Tryd.results82, go_sem, q8]
  · have hcp := Tr.card_pos h0 (by omega)
    have d0 : ((lst.length : Int) == (n : Int)) = false := by simp; omega
    have hl2 := HN.out.2.1
    obtain ⟨mx, hmx, hmax⟩ := Tr.ex_max HTr.out HAc.out left left (Nat.le_refl _) h0 hl2
    have HMx := hide (And.intro hmx hmax)
    clear h0 hcp hcard hmx hmax
    go_wp2_with fail
    obtain ⟨B6, hB6⟩ : ∃ B6, W.heap.size = B6 := ⟨_, rfl⟩
    rw [hB6]
    obtain ⟨W1, e1, b1, c1, z1⟩ := alloc_box hB6 #[.int .i64 (left : Int)] 3
    rw [e1]
    obtain ⟨W2, e2, b2, c2, z2⟩ := alloc_box z1 #[.bool false] 4
    rw [e2]
    refine (players_any left W2).mono ?_
    rintro e W3 ⟨rfl, rfl⟩
    rw [z2]
    obtain ⟨W3, e3, b3, c3, z3⟩ := alloc_box z2 #[.int .i64 (left : Int)] 3
    rw [e3]
    have c13 := c1.trans (c2.trans c3)
    have HS3 := hide (HSt.out.keep c13)
    have HB63 := hide (b1.keep (c2.trans c3) List.not_mem_nil)
    have HB73 := hide (b2.keep c3 List.not_mem_nil)
    have HC3 := hide c13
    have HBX3 := hide b3
    have HT3 := hide (HT.out.keep c13)
    have HOw : Hid (∀ g, (Value.slice ao lst.length lc).ownBlock = some g → g < B6) := hide fun g hg => by have := (HSt.out.2.2.lt g hg).2; omega
    have HK3 : Hid (KeepsFrom 0 W W3) := hide (kf_chg (S := []) c13 (fun _ h => by cases h))
    clear e1 b1 c1 z1 e2 b2 c2 z2 e3 b3 c3 c13 fl fs fi
    go_wp2
    refine (wpIn_wide (n := 9)).1 ?_
    refine bits_ret (by decide) rfl (enters_of Tryd.func99 (by kernel_rfl) rfl) (players_in 8 (B6 + 1 + 1) (by decide)) rfl (X := left) (by omega) HBX3.out HT3.out
      (fun Y X => ∃ lv', WyS l w0 Z a cap lv' lst X ∧ (∀ g, lv'.ownBlock = some g → g ∉ [B6, B6 + 1, B6 + 1 + 1]) ∧ (∀ g, lv'.ownBlock = some g → (Value.slice ao lst.length lc).ownBlock = some g ∨ W.heap.size ≤ g) ∧ Chg ((Z + 1 + 1 + 1) :: (Value.slice ao lst.length lc).ownBlock.toList) W X ∧ Box X B6 #[.int .i64 (left : Int)] 3 ∧ Box X (B6 + 1) #[.bool false] 4 ∧ KeepsFrom 0 W X ∧ (Good l lst left → Y.testBit mx = true) ∧ ∀ k, Y.testBit k = true → left.testBit k = true)
      (fun X => ∃ lv' xs, WyS l w0 Z a cap lv' (lst ++ xs) X ∧ Tr.Desc l left xs ∧ Good l lst left ∧ (∀ g, lv'.ownBlock = some g → (Value.slice ao lst.length lc).ownBlock = some g ∨ W.heap.size ≤ g) ∧ Chg ((Z + 1 + 1 + 1) :: (Value.slice ao lst.length lc).ownBlock.toList) W X ∧ Box X (B6 + 1) #[.bool true] 4 ∧ KeepsFrom 0 W X)
      (fun Y X1 X2 row hs hg hr => by
        obtain ⟨lv', k1, k2, k3, k4, k5, k6, k7, k8⟩ := hs
        exact ⟨lv', k1.row (by omega) hg hr, k2, k3, k4.row' (by omega) hg hr, k5.row hg hr, k6.row hg hr, kf_row k7 (by omega) hg hr, k8⟩)
      (fun _ X1 X2 row hs hg hr => by
        obtain ⟨lv', xs, k1, k2, k3, k4, k5, k6, k7⟩ := hs
        exact ⟨lv', xs, k1.row (by omega) hg hr, k2, k3, k4, k5.row' (by omega) hg hr, k6.row hg hr, kf_row k7 (by omega) hg hr⟩)
      (fun Y X u hs => by
        obtain ⟨lv', k1, k2, k3, k4, k5, k6, k7, k8⟩ := hs
        exact ⟨lv', k1.set (by omega) (fun g hg e => k2 g hg (by rw [e]; simp)) u, k2, k3, k4.setCell (.inr (by show W.heap.size ≤ B6 + 1 + 1; omega)) _, k5.set' (by show B6 ≠ B6 + 1 + 1; omega) _, k6.set' (by show B6 + 1 ≠ B6 + 1 + 1; omega) _, kf_set k7 (by omega) u, k8⟩)
      ⟨_, HS3.out, (fun g hg hm => by have := HOw.out g hg; simp at hm; omega), (fun g hg => .inl hg), HC3.out.toAny, HB63.out, HB73.out, HK3.out, (fun _ => HMx.out.1), fun _ h => h⟩ ?f ?assign ?body ?done ?stop
    case assign =>
      intro l' Y X K hK
      gi_wp2
      exact hK
    case body =>
      rintro l' Y X hl' ⟨r, hr⟩ hY0 hY65 ⟨lv', k1, k2, k3, k4, k5, k6, k7, k8, hsub⟩ hBY hTY
      have hkl := hsub _ (ctz_low hY0 hY65)
      have hlow := fun j => (Fam.low_test hY0 (show Y < 2 ^ 64 by omega) j).2.2
      have hsub' : ∀ k, (Y &&& (Y - 1)).testBit k = true → left.testBit k = true := fun k hk => hsub k (by rw [Nat.testBit_and, Bool.and_eq_true] at hk; exact hk.1)
      have hkY := ctz_low hY0 hY65
      obtain ⟨k, hk⟩ : ∃ k, k = Lib.ctz 64 Y := ⟨_, rfl⟩
      rw [← hk] at hkl hkY ⊢
      have hkn : k < l.length := Tr.bit_ltn hl2 hkl
      obtain ⟨ao', lc', hsh, hc'⟩ := k1.shape
      have HSh := hide hsh
      have fl := k1.2.1.cell 0
      rw [hsh] at fl
      have ll' := k1.2.1.lt
      have ft := k1.1.1.cell 0
      have lt' := k1.1.1.lt
      simp only [List.getElem?_toArray, List.getElem?_cons_zero] at fl ft
      have HS := hide k1
      have HKs := hide (And.intro k2 (And.intro k3 k4))
      have HBs := hide (And.intro k5 (And.intro k6 (And.intro hBY hTY)))
      have HKf := hide k7
      have HGd := hide k8
      have HLow := hide hlow
      have HSub := hide hsub'
      have HKk := hide (And.intro hk (And.intro hkl hkY))
      have HTX := hide (HTA.out.keep k1.1.2.2.2.2.1)
      have hgt0 : lst = [] ∨ ∃ pre z, lst = pre ++ [z] := by
        rcases List.eq_nil_or_concat lst with h | ⟨pre, z, h⟩
        · exact .inl h
        · exact .inr ⟨pre, z, by rw [h, List.concat_eq_append]⟩
      clear hsh k1 k2 k3 k4 k5 k6 k7 k8 hsub hBY hTY hkl hlow hsub' hkY hk hr
      rcases hgt0 with hnil | ⟨pre, z, hcat⟩
      focus
        have dg : decide ((lst.length : Int) > 0) = false := by rw [hnil]; rfl
        have dg' : decide ((0 : Int) < (lst.length : Int)) = false := by rw [hnil]; rfl
        have dgn : decide (0 < lst.length) = false := by rw [hnil]; rfl
        have HPass : Hid (∀ z, lst.getLast? = some z → Tr.bt l z k = true) := hide fun z hz => by rw [hnil] at hz; cases hz
        clear hnil
        gi_wp2
        refine region_round_ext (by kernel_rfl) (by kernel_rfl) (by kernel_rfl) ?_
        repeat (first | go_big_quiet_step ((fail)) | quiet_step ((fail)))
        refine wpQuiet_nil ?_
        intro wx hx
      rotate_left
      focus
        have hzm : pre.length + 1 = lst.length := by rw [hcat, List.length_append]; rfl
        have hrow := HS.out.2.2
        rw [hcat] at hrow
        obtain ⟨g0, c0, e0, hg0, fz⟩ := row_last (m := pre.length) (by rw [List.length_append] at hrow; exact hrow) rfl
        obtain ⟨rfl, hxx, rfl⟩ : ao' = some ⟨g0, 0, none⟩ ∧ lst.length = pre.length + 1 ∧ lc' = c0 := by rw [HSh.out] at e0; simpa using e0
        clear hxx
        have hzn : z < l.length := HN.out.2.2.2 z (by rw [hcat]; simp)
        have HLast : Hid (lst.getLast? = some z) := hide (by rw [hcat]; simp)
        obtain ⟨m, hm⟩ : ∃ m, m = pre.length := ⟨_, rfl⟩
        rw [← hm] at fz hzm
        have dg : decide ((lst.length : Int) > 0) = true := by simp; omega
        have dg' : decide ((0 : Int) < (lst.length : Int)) = true := by simp; omega
        have dgn : decide (0 < lst.length) = true := by simp; omega
        have ew1 : wrap64 ((lst.length : Int) - 1) = (m : Int) := by unfold wrap64; omega
        have ew2 : IntKind.i64.wrap ((lst.length : Int) - 1) = (m : Int) := by rw [IntKind.wrap_i64]; omega
        have m0 : (0 : Int) ≤ (m : Int) := by omega
        have m1 : (m : Int) < (lst.length : Int) := by omega
        have HBt := hide fun ws (hw : Chg [] X ws) => beats_any ws _ l a cap z k (HTX.out.keep hw) HTr.out hzn (by omega)
        clear hcat hrow e0 hm hzm
        cases hzk : Tr.bt l z k
        focus
          rw [hzk] at HBt
          have HZk := hide hzk
          clear hzk
          gi_wp2
          refine region_round_ext (by kernel_rfl) (by kernel_rfl) (by kernel_rfl) ?_
          repeat (first | go_big_quiet_step ((go_at_call 77; exact calls_of_ret (HBt.out _ (ExtOf.chg _)))) | quiet_step ((go_at_call 77; exact calls_of_ret (HBt.out _ (ExtOf.chg _)))))
          refine wpQuiet_nil ?_
          intro wx hx
          have HX2 := hide hx
          clear hx fz hg0 ew1 ew2 m0 m1 HBt
          gi_wp2
          have hx := HX2.out
          refine ⟨kf_chg (S := []) hx (fun _ h => by cases h), HBs.out.2.2.1.keep hx List.not_mem_nil, HBs.out.2.2.2.keep hx, _, HS.out.keep hx, HKs.out.1, HKs.out.2.1, HKs.out.2.2.trans hx.toAny, HBs.out.1.keep hx List.not_mem_nil, HBs.out.2.1.keep hx List.not_mem_nil, HKf.out.trans (kf_chg (S := []) hx (fun _ h => by cases h)), fun hG => ?_, HSub.out⟩
          rw [HLow.out mx, HGd.out hG, ← HKk.out.1, decide_eq_false (fun e => ?_)]
          · rfl
          · have := hG z HLast.out mx HMx.out.1
            rw [e, HZk.out] at this
            cases this
        focus
          rw [hzk] at HBt
          have HPass : Hid (∀ z, lst.getLast? = some z → Tr.bt l z k = true) := hide fun z' hz => by rw [HLast.out] at hz; cases hz; exact hzk
          clear hzk
          gi_wp2
          refine region_round_ext (by kernel_rfl) (by kernel_rfl) (by kernel_rfl) ?_
          repeat (first | go_big_quiet_step ((go_at_call 77; exact calls_of_ret (HBt.out _ (ExtOf.chg _)))) | quiet_step ((go_at_call 77; exact calls_of_ret (HBt.out _ (ExtOf.chg _)))))
          refine wpQuiet_nil ?_
          intro wx hx
          clear fz hg0 ew1 ew2 m0 m1 HBt
      all_goals
        have HX2 := hide hx
        have HSx := hide (HS.out.keep hx)
        obtain ⟨i0, hi, hz0, hz1, hz2⟩ := info_parts infoInt
        have hrow := HSx.out.2.2
        have hbl := HSx.out.2.1
        have hks := HKs.out.1
        have hks2 := HKs.out.2.1
        rw [HSh.out] at hrow hbl hks hks2
        have HRow := hide hrow
        have HBl2 := hide hbl
        have HKs1 := hide hks
        have HKs2 := hide hks2
        have fl := hbl.cell 0
        have ll := hbl.lt
        simp only [List.getElem?_toArray, List.getElem?_cons_zero] at fl
        have hzx := HSx.out.1.2.2.2.2.2.1
        have hBXx : B6 + 1 + 1 < wx.heap.size := Nat.lt_of_lt_of_le HBs.out.2.2.1.lt hx.size
        clear hx hrow hbl hks hks2 ft lt'
        gi_wp2_with (gi_at_builtin; refine wpListIn_append_lies _ rfl _ _ 22 rfl (Z + 1 + 1 + 1 + 1 + 1) 3 i0 (.int .i64 0) 1 8 Tryd.underlying22 hi hz0 hz1 hz2 rfl (by decide) _ _ _ rfl (HRow.out.alloc _) ⟨wx.heap.size, 0, none⟩ 1 1 [.int .i64 (k : Int)] rfl rfl (by intro j u hj; rw [add_zero_row, (Box.new wx _ _).cell j]; simpa using hj) (by intro x hx; rw [List.mem_singleton] at hx; subst hx; rfl) (by decide) (by unfold maxLen; omega) (by omega) (by simp; omega) _ rfl ?_; intro g1 cap1 w3 hown1 hgrow1 hat1 hlt1; have q5 := box_grown (HBl2.out.old _) (HRow.out.alloc _) hgrow1 (by omega); have q5c := q5.cell 0; have q5l := q5.lt; have q5f := q5.free 0; simp only [List.getElem?_toArray, List.getElem?_cons_zero] at q5c)
        obtain ⟨p1, p2, p3, p4⟩ := push_row HBl2.out HRow.out (by omega) hgrow1 hown1 hat1
        have hown := fun g hg => (HRow.out.lt g hg).1
        have hg1 : (Value.slice ao lst.length lc).ownBlock = some g1 ∨ W.heap.size ≤ g1 := by
          rcases hat1 with h | h
          · exact HKs2.out g1 h
          · right; rw [h]; have := HKf.out.size; have := HX2.out.size; simp; omega
        have hg15 : Z + 1 + 1 + 1 + 1 + 1 ≤ g1 := (hown1.lt g1 rfl).1
        have hg1B := p4 [B6, B6 + 1, B6 + 1 + 1] (fun b hb => by simp at hb; omega) HKs1.out
        rw [← natsV_snoc] at p2
        generalize w3.setCell ⟨Z + 1 + 1 + 1, 0, none⟩ (.slice (some ⟨g1, 0, none⟩) (lst.length + 1) cap1) = W9 at p1 p2 p3 ⊢
        have hS3 : ∀ s ∈ (Z + 1 + 1 + 1) :: (Value.slice _ lst.length _).ownBlock.toList, s = Z + 1 + 1 + 1 ∨ (Z + 1 + 1 + 1 + 1 + 1 ≤ s ∧ s ∉ [B6, B6 + 1, B6 + 1 + 1]) := fun s hs => by
          rcases List.mem_cons.1 hs with e | e
          · exact .inl e
          · exact .inr ⟨hown s (Option.mem_toList.1 e), HKs1.out s (Option.mem_toList.1 e)⟩
        have hnB : ∀ b, b ∈ [B6, B6 + 1, B6 + 1 + 1] → Z + 1 + 1 + 1 < b → b ∉ (Z + 1 + 1 + 1) :: (Value.slice _ lst.length _).ownBlock.toList := fun b hb hlt hm => by
          rcases hS3 b hm with h | h
          · omega
          · exact h.2 hb
        have HS9 : Hid (WyS l w0 Z a cap (.slice (some ⟨g1, 0, none⟩) (lst.length + 1) cap1) (lst ++ [k]) W9) := hide ⟨HSx.out.1.keep p3 (fun s hs => by rcases hS3 s hs with h | h <;> omega), p1, by rw [List.length_append]; exact p2⟩
        have HB69 := hide ((HBs.out.1.keep HX2.out List.not_mem_nil).keep p3 (hnB _ (by simp) (by omega)))
        have HB79 := hide ((HBs.out.2.1.keep HX2.out List.not_mem_nil).keep p3 (hnB _ (by simp) (by omega)))
        have HBX9 : Hid (BoxI W9 (B6 + 1 + 1) Y) := hide ((HBs.out.2.2.1.keep HX2.out List.not_mem_nil).keep p3 (hnB _ (by simp) (by omega)))
        have HT9 := hide ((HBs.out.2.2.2.keep HX2.out).keepS p3 (fun hm => by have := hT'.out.1; have := hT'.out.2; rcases hS3 _ hm with h | h <;> omega))
        have HK9 : Hid (KeepsFrom 0 X W9) := hide ((kf_chg (S := []) HX2.out (fun _ h => by cases h)).trans (kf_chg p3 (fun s hs => .inr (fun o ho => by
          rcases List.mem_cons.1 hs with e | e
          · subst e
            rw [show wx.heap[Z + 1 + 1 + 1]? = _ from HBl2.out] at ho
            cases ho; rfl
          · exact own_cells HRow.out (Option.mem_toList.1 e) o ho))))
        have HC9 : Hid (Chg ((Z + 1 + 1 + 1) :: (Value.slice ao lst.length lc).ownBlock.toList) W W9) := hide ((HKs.out.2.2.trans HX2.out.toAny).trans' p3 (fun x hx => by
          rcases List.mem_cons.1 hx with e | e
          · rw [e]; exact .inl (List.mem_cons_self ..)
          · rcases HKs2.out x (Option.mem_toList.1 e) with h | h
            · exact .inl (List.mem_cons_of_mem _ (Option.mem_toList.2 h))
            · exact .inr h))
        have HG1 := hide (And.intro hg1 (And.intro hg15 hg1B))
        clear p1 p2 p3 p4 hown1 hgrow1 hat1 hlt1 q5 q5c q5l q5f fl ll hown hg1 hg15 hg1B hS3 hnB HSx HRow HBl2 hi hz0 hz1 hz2
        have l16 : left < 65536 := by omega
        have hdl := Tr.del_lt l16 HKk.out.2.1
        have hcd := Tr.card_del l16 HKk.out.2.1
        have HGm := hide (good_max HTr.out HAc.out (lst := lst) hl2 HMx.out.1 HMx.out.2 HKk.out.2.1 HPass.out)
        have eargs : ∀ v : Value, #[v] ++ wyCap Z = #[v, .pointer (some ⟨Z + 1 + 1 + 1, 0, none⟩), .pointer (some ⟨Z + 1, 0, none⟩), .pointer (some ⟨Z + 1 + 1, 0, none⟩), .pointer (some ⟨Z, 0, none⟩), .pointer (some ⟨Z + 1 + 1 + 1 + 1, 0, none⟩)] := fun v => rfl
        have HRec := hide fun ws (hw : Chg [] W9 ws) => HIH.out (Tr.del left k) _ (lst ++ [k]) ws (by have := HN.out.1; omega) (by omega) (by rw [List.length_append]; have := HN.out.2.2.1; simp; omega) (fun z hz => by
          rcases List.mem_append.1 hz with h | h
          · exact HN.out.2.2.2 z h
          · rw [List.mem_singleton] at h; omega) (HS9.out.keep hw)
        simp only [eargs] at HRec
        have ean := andn1 (a := left) (i := k) l16 (by omega)
        have es1 := shl1 (i := k) (by omega)
        have es2 := shl2 (i := k) (by omega)
        change bits BinOp.andNot IntKind.i64 (left : Int) ((2 : Int) ^ k) = ((Tr.del left k : Nat) : Int) at ean
        obtain ⟨dl, hdle⟩ : ∃ dl, dl = Tr.del left k := ⟨_, rfl⟩
        rw [← hdle] at ean
        simp only [← hdle] at HRec
        have HDe := hide hdle
        have fg := HS9.out.1.2.2.2.1.cell 0
        have lg := HS9.out.1.2.2.2.1.lt
        have fB := HB69.out.cell 0
        have lB := HB69.out.lt
        simp only [List.getElem?_toArray, List.getElem?_cons_zero] at fg fB
        unfold wyCap at fg
        have q0 : (0 : Int) ≤ (k : Int) := by omega
        have q64 : (k : Int) < 64 := by omega
        clear hdl hcd eargs hdle
        gi_wp2
        refine region_round_still 5 (by kernel_rfl) (by kernel_rfl) (by kernel_rfl) ?_
        simp only [List.take_succ_cons, List.take_zero, List.drop_succ_cons, List.drop_zero]
        repeat still_step
        try refine wpStill_nil ?_
        go_wp2_with fail
        refine (HRec.out _ (by (repeat' (first | with_reducible exact Chg.refl _ _ | with_reducible assumption | with_reducible apply Chg.drewN | with_reducible apply Chg.drew | with_reducible apply Chg.alloc | (with_reducible refine Chg.setCell ?_ (Or.inr ?_) _) | (with_reducible refine Chg.trans ?_ (by assumption)) | (simp; done) | (simp; omega))))).mono ?_
        rintro e w10 ⟨b, lv2, lst2, rfl, hs2, hg2, hng2, hc10, hown10, hk10⟩
        change Chg ((Z + 1 + 1 + 1) :: [g1]) W9.drew w10 at hc10
        have hzd := HBX9.out.lt
        have CD := (Chg.refl [] W9).drew
        have hg3 := HG1.out
        have hn10 : ∀ b, b ∈ [B6, B6 + 1, B6 + 1 + 1] → Z + 1 + 1 + 1 < b → b ∉ (Z + 1 + 1 + 1) :: [g1] := fun b hb hlt hm => by
          rcases List.mem_cons.1 hm with e | e
          · omega
          · rw [List.mem_singleton] at e; rw [e] at hb; exact hg3.2.2 hb
        have HB610 := hide ((HB69.out.keep CD List.not_mem_nil).keep hc10 (hn10 _ (by simp) (by omega)))
        have HB710 := hide ((HB79.out.keep CD List.not_mem_nil).keep hc10 (hn10 _ (by simp) (by omega)))
        have HBX10 : Hid (BoxI w10 (B6 + 1 + 1) Y) := hide ((HBX9.out.keep CD List.not_mem_nil).keep hc10 (hn10 _ (by simp) (by omega)))
        have HT10 := hide ((HT9.out.keep CD).keepS hc10 (fun hm => by
          have := hT'.out.1
          have := hT'.out.2
          rcases List.mem_cons.1 hm with e | hm
          · omega
          · rw [List.mem_singleton] at hm; omega))
        have HC10 : Hid (Chg ((Z + 1 + 1 + 1) :: (Value.slice ao lst.length lc).ownBlock.toList) W w10) := hide ((HC9.out.trans CD.toAny).trans' hc10 (fun x hx => by
          rcases List.mem_cons.1 hx with e | hx
          · rw [e]; exact .inl (List.mem_cons_self ..)
          · rw [List.mem_singleton] at hx
            rw [hx]
            rcases hg3.1 with h | h
            · exact .inl (List.mem_cons_of_mem _ (Option.mem_toList.2 h))
            · exact .inr h))
        have HK10 : Hid (KeepsFrom 0 X w10) := hide ((HK9.out.trans (kf_chg (S := []) CD (fun _ h => by cases h))).trans hk10)
        have HO10 : Hid (∀ g, lv2.ownBlock = some g → (Value.slice ao lst.length lc).ownBlock = some g ∨ W.heap.size ≤ g) := hide fun g hg => by
          rcases hown10 g hg with h | h
          · cases h; exact hg3.1
          · right; have := HC9.out.size; have hz : W9.drew.heap.size = W9.heap.size := rfl; omega
        have HA10 : Hid (∀ g, lv2.ownBlock = some g → g ∉ [B6, B6 + 1, B6 + 1 + 1]) := hide fun g hg => by
          rcases hown10 g hg with h | h
          · cases h; exact hg3.2.2
          · have hz : W9.drew.heap.size = W9.heap.size := rfl; simp; omega
        have HS10 := hide hs2
        have HG2 := hide hg2
        have HNG2 := hide hng2
        clear hs2 hg2 hng2 hc10 hown10 hk10 CD hn10 hg3 fg lg fB lB ean es1 es2 HRec hzd
        by_cases hgood : Good l (lst ++ [k]) dl
        focus
          obtain ⟨rfl, xs', hd, rfl⟩ := HG2.out hgood
          have HGk := hide (HGm.out.1 (by rw [← HDe.out]; exact hgood))
          have HDs : Hid (Tr.Desc l left (k :: xs')) := hide (.cons HKk.out.2.1 (fun y hy hne => by rw [HGk.out.2] at hne ⊢; exact HMx.out.2 y hy hne) (by rw [← HDe.out]; exact hd))
          have f7 := HB710.out.cell 0
          have l7 := HB710.out.lt
          have z7 := HB710.out.free 0
          simp only [List.getElem?_toArray, List.getElem?_cons_zero] at f7
          clear hgood hd HG2 HNG2
          go_wp2
          simp only [goesOn]
          gi_wp2
          have cs := Chg.set w10 ⟨B6 + 1, 0, none⟩ (.bool true)
          have hkc : ∀ Bq, KeepsFrom Bq w10 (w10.setCell ⟨B6 + 1, 0, none⟩ (.bool true)) := fun Bq => kf_chg cs (fun s hs => .inr (fun o ho => by
            rw [List.mem_singleton] at hs
            have hs : s = B6 + 1 := hs
            subst hs
            rw [show w10.heap[B6 + 1]? = _ from HB710.out] at ho
            cases ho; rfl))
          have hs10 := HS10.out
          rw [List.append_assoc] at hs10
          exact ⟨(kf_mono HK10.out (Nat.zero_le _)).trans (hkc _), lv2, k :: xs', hs10.set (by omega) (fun g hg e => HA10.out g hg (by rw [e]; simp)) _, HDs.out, HGk.out.1, HO10.out, HC10.out.setCell (.inr (by show W.heap.size ≤ B6 + 1; omega)) _, HB710.out.set1 _, (HKf.out.trans HK10.out).trans (hkc _)⟩
        focus
          obtain ⟨rfl, rfl⟩ := HNG2.out hgood
          have HNGk : Hid (Good l lst left → k ≠ mx) := hide fun h e => hgood (by rw [HDe.out]; exact HGm.out.2 ⟨h, e⟩)
          obtain ⟨ao2, c2, rfl, hc2⟩ := HS10.out.shape
          rw [List.length_append] at hc2
          have hc2 : lst.length + 1 ≤ c2 := hc2
          have fl := HS10.out.2.1.cell 0
          have ll := HS10.out.2.1.lt
          have fz := HS10.out.2.1.free 0
          simp only [List.getElem?_toArray, List.getElem?_cons_zero] at fl
          rw [List.length_append] at fl
          change w10.cell? ⟨Z + 1 + 1 + 1, 0, none⟩ = some (.slice ao2 (lst.length + 1) c2) at fl
          have hs10 : WyS l w0 Z a cap (.slice ao2 (lst.length + 1) c2) (lst ++ [k]) w10 := by have := HS10.out; rw [List.length_append] at this; exact this
          have HPop := hide hs10.pop
          have HBl10 := hide hs10.2.1
          have hw9 : IntKind.i64.wrap (((lst.length + 1 : Nat) : Int) - 1) = (lst.length : Int) := by rw [IntKind.wrap_i64]; omega
          have hw10 : IntKind.i64.wrap ((lst.length : Int) + 1 - 1) = (lst.length : Int) := by rw [IntKind.wrap_i64]; omega
          have hw11 : IntKind.i64.wrap (lst.length : Int) = (lst.length : Int) := by rw [IntKind.wrap_i64]; omega
          have g9 : (lst.length : Int) ≤ (c2 : Int) := by omega
          have g8 : (0 : Int) ≤ (lst.length : Int) := by omega
          clear hgood HG2 HNG2 hs10
          go_wp2
          simp only [goesOn]
          gi_wp2
          have cs := Chg.set w10 ⟨Z + 1 + 1 + 1, 0, none⟩ (.slice ao2 lst.length c2)
          have hnz : ∀ y, y ≠ Z + 1 + 1 + 1 → y ∉ [(⟨Z + 1 + 1 + 1, 0, none⟩ : Addr).block] := fun y hy hm => hy (List.mem_singleton.1 hm)
          have hkc : ∀ Bq, KeepsFrom Bq w10 (w10.setCell ⟨Z + 1 + 1 + 1, 0, none⟩ (.slice ao2 lst.length c2)) := fun Bq => kf_chg cs (fun s hs => .inr (fun o ho => by
            rw [List.mem_singleton] at hs
            have hs : s = Z + 1 + 1 + 1 := hs
            subst hs
            rw [show w10.heap[Z + 1 + 1 + 1]? = _ from HBl10.out] at ho
            cases ho; rfl))
          refine ⟨(kf_mono HK10.out (Nat.zero_le _)).trans (hkc _), HBX10.out.keep cs (hnz _ (by omega)), HT10.out.keepS cs (hnz _ (by have := hT'.out; omega)), _, HPop.out, fun g hg => HA10.out g ((own_len ..).trans hg), fun g hg => HO10.out g ((own_len ..).trans hg), HC10.out.setCell (.inl (List.mem_cons_self ..)) _, HB610.out.keep cs (hnz _ (by omega)), HB710.out.keep cs (hnz _ (by omega)), (HKf.out.trans HK10.out).trans (hkc _), fun hG => ?_, HSub.out⟩
          rw [HLow.out mx, HGd.out hG, ← HKk.out.1, decide_eq_false (fun e => HNGk.out hG e.symm)]
          rfl
    case done =>
      rintro D X hD ⟨lv', k1, k2, k3, k4, k5, k6, k7, k8, _⟩ hTX hK
      have HNG : Hid (¬ Good l lst left) := hide fun h => by have := k8 h; simp at this
      have f7 := k6.cell 0
      have l7 := k6.lt
      have z7 := k6.free 0
      simp only [List.getElem?_toArray, List.getElem?_cons_zero] at f7
      have H1 := hide (And.intro k1 (And.intro k2 (And.intro k3 (And.intro k4 k6))))
      have H2 := hide (And.intro k7 hK)
      clear k1 k2 k3 k4 k5 k6 k7 k8 hTX hK
      go_wp2
      obtain ⟨k1, k2, k3, k4, k6⟩ := H1.out
      have cs := Chg.set X ⟨B6 + 1, 0, none⟩ (.bool false)
      have hkc : KeepsFrom 0 X (X.setCell ⟨B6 + 1, 0, none⟩ (.bool false)) := kf_chg cs (fun s hs => .inr (fun o ho => by
        rw [List.mem_singleton] at hs
        have hs : s = B6 + 1 := hs
        subst hs
        rw [show X.heap[B6 + 1]? = _ from k6] at ho
        cases ho; rfl))
      have hK' := (cs.block D (Array.getElem?_eq_some_iff.1 H2.out.2).1 (fun hm => by rw [List.mem_singleton] at hm; have hm : D = B6 + 1 := hm; omega)).trans H2.out.2
      refine leavesM (B := W3.heap.size) (U := D + 1) (K := fun X' => WyS l w0 Z a cap lv' lst X' ∧ Chg ((Z + 1 + 1 + 1) :: (Value.slice ao lst.length lc).ownBlock.toList) W X' ∧ Box X' (B6 + 1) #[.bool false] 4 ∧ KeepsFrom 0 W X')
        (fun _ X1 X2 row hs hg hr => ⟨hs.1.row (by omega) hg hr, hs.2.1.row' (by omega) hg hr, hs.2.2.1.row hg hr, kf_row hs.2.2.2 (by omega) hg hr⟩) (fun X' hs => ?_) _ _ ((Marks.nil _ D _).push hD (Nat.le_refl _) (Nat.lt_succ_self _) hK')
        ⟨k1.set (by omega) (fun g hg e => k2 g hg (by rw [e]; simp)) _, k4.setCell (.inr (by show W.heap.size ≤ B6 + 1; omega)) _, k6.set1 _, H2.out.1.trans hkc⟩
      have q8 := hs.2.2.1.cell 0
      simp only [List.getElem?_toArray, List.getElem?_cons_zero] at q8
      exact ⟨.bool false, by simp [results, Tryd.results82, go_sem, q8], false, lv', lst, rfl, hs.1, fun h => absurd h HNG.out, fun _ => ⟨rfl, rfl⟩, hs.2.1, k3, hs.2.2.2⟩
    case stop =>
      rintro D X hD ⟨lv', xs, k1, k2, k3, k4, k5, k6, k7⟩ hK
      have H1 := hide (And.intro k1 (And.intro k2 (And.intro k3 (And.intro k4 (And.intro k5 (And.intro k6 (And.intro k7 hK)))))))
      clear k1 k2 k3 k4 k5 k6 k7 hK
      go_wp2
      obtain ⟨k1, k2, k3, k4, k5, k6, k7, hK⟩ := H1.out
      refine leavesM (B := W3.heap.size) (U := D + 1) (K := fun X' => WyS l w0 Z a cap lv' (lst ++ xs) X' ∧ Chg ((Z + 1 + 1 + 1) :: (Value.slice ao lst.length lc).ownBlock.toList) W X' ∧ Box X' (B6 + 1) #[.bool true] 4 ∧ KeepsFrom 0 W X')
        (fun _ X1 X2 row hs hg hr => ⟨hs.1.row (by omega) hg hr, hs.2.1.row' (by omega) hg hr, hs.2.2.1.row hg hr, kf_row hs.2.2.2 (by omega) hg hr⟩) (fun X' hs => ?_) _ _ ((Marks.nil _ D _).push hD (Nat.le_refl _) (Nat.lt_succ_self _) hK) ⟨k1, k5, k6, k7⟩
      have q8 := hs.2.2.1.cell 0
      simp only [List.getElem?_toArray, List.getElem?_cons_zero] at q8
      exact ⟨.bool true, by simp [results, Tryd.results82, go_sem, q8], true, lv', lst ++ xs, rfl, hs.1, fun _ => ⟨rfl, xs, k2, rfl⟩, fun h => absurd k3 h, hs.2.1, k4, hs.2.2.2⟩
end Go.Proofs.YtpplihpfjniacaaDoor
