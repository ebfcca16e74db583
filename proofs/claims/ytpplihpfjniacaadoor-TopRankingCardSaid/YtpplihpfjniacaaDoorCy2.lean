/- Walk: tournaments: cycles. -/
import Derived.Test.YtpplihpfjniacaaDoorCy1
namespace Go.Proofs.YtpplihpfjniacaaDoor
open Go.RowKit Go.Shelf
attribute [local go_sem] Oper.semAt_some

set_option maxRecDepth 100000 in
set_option maxHeartbeats 4000000 in
theorem cycles_any (w : World) (vt : Value) (l : List Int) (hv : See w vt l) (T : Tr.Tour l) (hT : Tz w) :
    Calls Tryd.prog 44 #[vt] w fun e w' => ∃ v' ts, e = .returned v' ∧ SeeT w' v' ts ∧ Sound l ts ∧ (ts = [] ↔ Tr.Acy l) ∧ ts.length ≤ 600000 ∧ Chg [] w w' := by
  obtain ⟨i0, hi', hz0, hz1, hz2⟩ := info_parts infoTrip
  obtain ⟨a0, cap, hA⟩ := tour_at T hv
  have HA := hide hA
  obtain rfl := hA.eq
  have HT := hide hT
  have HTr := hide T
  obtain ⟨n, hn⟩ : ∃ n, n = l.length := ⟨_, rfl⟩
  rw [← hn] at HA ⊢
  have HN := hide hn
  have hn8 : n ≤ 8 := by rw [hn]; exact T.len.2
  clear hv hA hT T hn
  refine calls_calm 9 Tryd.func44 rfl ?_
  simp only [Tryd.ntmps44, List.size_toArray, List.length_cons, List.length_nil, Nat.reduceAdd, Nat.reduceSub, Array.replicate_succ, Array.replicate_zero, List.push_toArray, List.append_toArray, List.nil_append, List.cons_append]
  go_wp2
  obtain ⟨Z, hZ⟩ : ∃ Z, w.heap.size = Z := ⟨_, rfl⟩
  rw [hZ]
  obtain ⟨W1, e1, b1, c1, z1⟩ := alloc_box hZ #[.slice (some a0) n cap] 78
  rw [e1]
  obtain ⟨W2, e2, b2, c2, z2⟩ := alloc_box z1 #[.slice none 0 0] 38
  rw [e2]
  have HI2 : Hid (CyS w Z (.slice (some a0) n cap) [] [] W2 ∧ Marks Z W2.heap.size W2 [] ∧ Tz W2) := hide ⟨⟨b1.keep c2 List.not_mem_nil, ⟨_, b2, World.ownsRow_nil _ _ _ _, fun _ _ h => by cases h⟩, c1.trans c2, by omega⟩, Marks.nil _ _ _, HT.out.keep (c1.trans c2)⟩
  clear e1 b1 c1 z1 e2 b2 c2 z2
  refine wp_loop (fun a' w' => ∃ (a : Nat) (ts : List Tri) (ds : List Deferred), (a ≤ n ∧ Hid ((CyS w Z (.slice (some a0) n cap) ts [] w' ∧ Marks Z w'.heap.size w' ds ∧ Tz w') ∧ Sound l ts ∧ OutC l ts a ∧ ts.length ≤ 65536 * a)) ∧
    ∃ u4 u10 u11 u12 u13 u14 u15 u16 u45 : Value, a' = { tmps := #[Value.slice (some a0) n cap, Value.pointer (some { block := Z, off := 0 }), Value.slice none 0 0, Value.pointer (some { block := Z + 1, off := 0 }), u4, undef, undef, Value.slice (some a0) n cap, Value.int IntKind.i64 ↑n, .int .i64 (a : Int), u10, u11, u12, u13, u14, u15, u16, undef, undef, undef, undef, undef, undef, undef, undef, undef, undef, undef, undef, undef, undef, undef, undef, undef, undef, undef, undef, undef, undef, undef, undef, undef, undef, undef, undef, u45, undef], defers := ds }) (fun a' _ => n - (intOf (a'.tmps.getD 9 undef)).toNat) ⟨0, [], [], ⟨Nat.zero_le _, hide ⟨HI2.out, (fun _ h => by cases h), (fun _ a' h => absurd h (Nat.not_lt_zero _)), Nat.zero_le _⟩⟩, _, _, _, _, _, _, _, _, _, rfl⟩ ?_
  rintro a' wr ⟨a, ts0, ds, ⟨ha, hI⟩, u4, u10, u11, u12, u13, u14, u15, u16, u45, rfl⟩
  by_cases hlt : a < n
  · have d5 : decide ((a : Int) < (n : Int)) = true := by simp; omega
    have fa := HA.out.cell _ (hI.out.1.1.2.2.1.alloc (.cells #[.int .i64 (a : Int)] 3)) a (by rw [← HN.out]; exact hlt)
    have hta := tb_lt HTr.out a
    obtain ⟨ta, hta'⟩ : ∃ ta, ta = tb l a := ⟨_, rfl⟩
    rw [← hta'] at fa hta
    have HTa := hide hta'
    have a0' : (0 : Int) ≤ (a : Int) := by omega
    have a1' : (a : Int) < (n : Int) := by omega
    have f1 := hI.out.1.1.1.cell 0
    have l1 := hI.out.1.1.1.lt
    simp only [List.getElem?_toArray, List.getElem?_cons_zero] at f1
    clear hta'
    go_wp2_with fail
    obtain ⟨Ba, hBa⟩ : ∃ Ba, wr.heap.size = Ba := ⟨_, rfl⟩
    rw [hBa]
    obtain ⟨W3, e3, b3, c3, z3⟩ := alloc_box hBa #[.int .i64 (a : Int)] 3
    rw [e3]
    refine (players_any ta W3).mono ?_
    rintro e W4 ⟨rfl, rfl⟩
    rw [z3]
    obtain ⟨W4, e4, b4, c4, z4⟩ := alloc_box z3 #[.int .i64 (ta : Int)] 3
    rw [e4]
    obtain ⟨⟨k1, k2, k3⟩, k4, k5, k6⟩ := hI.out
    have c34 := c3.trans c4
    have hZa := k1.2.2.2
    rw [hBa] at hZa
    have HI4 : Hid (CyS w Z (.slice (some a0) n cap) ts0 [Ba + 1, Ba] W4 ∧ Box W4 Ba #[.int .i64 (a : Int)] 3 ∧ Marks Z Ba W4 ds) :=
      hide ⟨((k1.keep c34).more (b3.keep c4 List.not_mem_nil)).more b4, b3.keep c4 List.not_mem_nil, by rw [hBa] at k2; exact k2.keep0 c34⟩
    have HT4 := hide (k3.keep c34)
    have HB4 := hide b4
    have HS := hide (And.intro k4 (And.intro k5 k6))
    have ta65 : ta < 65536 := by omega
    clear k1 k2 k3 k4 k5 k6 hI b3 b4 e3 e4 c3 c4 c34 f1 l1 fa hBa
    go_wp2
    refine (wpIn_wide (n := 9)).1 ?_
    refine bits_box (by decide) rfl (enters_of Tryd.func99 (by kernel_rfl) rfl) (players_in 8 (Ba + 1) (by decide)) rfl (X := ta) ta65 HB4.out HT4.out
      (fun Y W => ∃ ts, (CyS w Z (.slice (some a0) n cap) ts [Ba + 1, Ba] W ∧ Box W Ba #[.int .i64 (a : Int)] 3 ∧ Marks Z Ba W ds) ∧ Sound l ts ∧ MidC l ts a Y ∧ ts.length ≤ 65536 * a + 256 * (256 - Y) ∧ ∀ k, Y.testBit k = true → ta.testBit k = true)
      (fun Y W W' row hs hg hr => by
        obtain ⟨ts, ⟨k1, k2, k3⟩, k4⟩ := hs
        exact ⟨ts, ⟨k1.row (by omega) hg hr, k2.row hg hr, k3.row (by omega) hg hr⟩, k4⟩)
      (fun Y W u hs => by
        obtain ⟨ts, ⟨k1, k2, k3⟩, k4⟩ := hs
        have cs := Chg.set W ⟨Ba + 1, 0, none⟩ u
        have hn : ∀ y, y ≠ Ba + 1 → y ∉ [(⟨Ba + 1, 0, none⟩ : Addr).block] := fun y hy hm => hy (List.mem_singleton.1 hm)
        exact ⟨ts, ⟨k1.set (List.mem_cons_self ..) (by omega) (by omega) u, k2.keep cs (hn _ (by omega)), k3.low cs (by intro x hx; rw [List.mem_singleton] at hx; have hx : x = Ba + 1 := hx; omega)⟩, k4⟩)
      ⟨ts0, HI4.out, HS.out.1, by rw [HTa.out]; exact mid_start HS.out.2.1, by have := HS.out.2.2; omega, fun _ h => h⟩ ?f ?assign ?body ?done
    case assign =>
      intro l2 Y Bx W K hBx hK
      gi_wp2
      rw [← hBx]
      exact hK
    case body =>
      rintro l2 Y Bx W hl ⟨r, hr⟩ hY0 hY65 ⟨ts, ⟨k1, k2, k3⟩, k4, k5, k6, hsub⟩ hBY hTY hBx bx
      obtain ⟨b, hb⟩ : ∃ b, b = Lib.ctz 64 Y := ⟨_, rfl⟩
      have hba : Tr.bt l a b = true := by rw [hb]; unfold Tr.bt; rw [← HTa.out]; exact hsub _ (ctz_low hY0 hY65)
      rw [← hb] at bx ⊢
      have hbn : b < n := by rw [HN.out]; exact (HTr.out.out _ _ hba).2
      have HB := hide hb
      have HBa := hide hba
      have hsize := k1.2.2.2
      have hBxW := bx.lt
      have fb := HA.out.cell W k1.2.2.1 b (by rw [← HN.out]; exact hbn)
      have htb := tb_lt HTr.out b
      obtain ⟨tv, htv⟩ : ∃ tv, tv = tb l b := ⟨_, rfl⟩
      rw [← htv] at fb htb
      have HTb := hide htv
      have f1 := k1.1.cell 0
      have l1 := k1.1.lt
      have f5 := bx.cell 0
      simp only [List.getElem?_toArray, List.getElem?_cons_zero] at f1 f5
      have b0' : (0 : Int) ≤ (b : Int) := by omega
      have b1' : (b : Int) < (n : Int) := by omega
      have HSb : Hid (∀ k, (Y &&& (Y - 1)).testBit k = true → ta.testBit k = true) := hide fun k hk => hsub k (by rw [Nat.testBit_and, Bool.and_eq_true] at hk; exact hk.1)
      have HYl := hide (And.intro (Fam.and_pred_lt hY0) (Nat.lt_of_le_of_lt (le_of_sub hsub) hta))
      clear htv hb hba hsub
      gi_wp2_with fail
      refine ⟨trivial, CallsIn.inRound l2 (callsIn_wide.2 ((players_any tv W).mono ?_))⟩
      rintro e W5 ⟨rfl, rfl⟩
      obtain ⟨B2, hB2⟩ : ∃ B2, W.heap.size = B2 := ⟨_, rfl⟩
      rw [hB2]
      obtain ⟨W5, e5, b5, c5, z5⟩ := alloc_box hB2 #[.int .i64 (tv : Int)] 3
      rw [e5]
      have hr5 : W5.heap[l2]? = some (.loop r) := (c5.block l2 (Array.getElem?_eq_some_iff.1 hr).1 List.not_mem_nil).trans hr
      have HI5 : Hid (CyS w Z (.slice (some a0) n cap) ts [B2, Bx, Ba + 1, Ba] W5 ∧ Box W5 Ba #[.int .i64 (a : Int)] 3 ∧ BoxI W5 (Ba + 1) Y ∧ Box W5 Bx #[.int .i64 (b : Int)] 3 ∧ Marks Z Ba W5 ds ∧ KeepsFrom W4.heap.size W W5) :=
        hide ⟨((k1.keep c5).more (bx.keep c5 List.not_mem_nil)).more b5, k2.keep c5 List.not_mem_nil, hBY.keep c5 List.not_mem_nil, bx.keep c5 List.not_mem_nil, k3.keep0 c5, kf_chg c5 (fun s h => by cases h)⟩
      have HT5 := hide (hTY.keep c5)
      have HB5 := hide b5
      have hBxlt : Bx < B2 := by omega
      have tv65 : tv < 65536 := by omega
      have HS5 := hide (And.intro k4 (And.intro (in_start (b := b) k5) k6))
      have hzw : w.heap.size ≤ Ba := by omega
      clear k1 k2 k3 k4 k5 k6 hr b5 e5 c5 bx hBY hTY fb f1 l1 f5
      gi_wp2
      refine bits_in hr5 (by decide) rfl (enters_of Tryd.func99 (by kernel_rfl) rfl) (players_in 6 B2 (by decide)) rfl (X := tv) tv65 HB5.out HT5.out
        (fun Y2 W' => ∃ ts, (CyS w Z (.slice (some a0) n cap) ts [B2, Bx, Ba + 1, Ba] W' ∧ Box W' Ba #[.int .i64 (a : Int)] 3 ∧ BoxI W' (Ba + 1) Y ∧ Box W' Bx #[.int .i64 (b : Int)] 3 ∧ Marks Z Ba W' ds ∧ KeepsFrom W4.heap.size W W') ∧ Sound l ts ∧ InC l ts a Y b Y2 ∧ ts.length ≤ 65536 * a + 256 * (256 - Y) + (256 - Y2) ∧ ∀ k, Y2.testBit k = true → tv.testBit k = true)
        (fun Y2 W1 W2 row hs hg hr => by
          obtain ⟨ts, ⟨k1, k2, k3, k4, k5, k6⟩, k7⟩ := hs
          exact ⟨ts, ⟨k1.row (by omega) hg hr, k2.row hg hr, k3.row hg hr, k4.row hg hr, k5.row (by omega) hg hr, kf_row k6 (by omega) hg hr⟩, k7⟩)
        (fun Y2 W1 u hs => by
          obtain ⟨ts, ⟨k1, k2, k3, k4, k5, k6⟩, k7⟩ := hs
          have cs := Chg.set W1 ⟨B2, 0, none⟩ u
          have hn : ∀ y, y ≠ B2 → y ∉ [(⟨B2, 0, none⟩ : Addr).block] := fun y hy hm => hy (List.mem_singleton.1 hm)
          exact ⟨ts, ⟨k1.set (List.mem_cons_self ..) (by omega) (by omega) u, k2.keep cs (hn _ (by omega)), k3.keep cs (hn _ (by omega)), k4.keep cs (hn _ (by omega)), k5.low cs (by intro x hx; rw [List.mem_singleton] at hx; have hx : x = B2 := hx; omega), kf_set k6 (by omega) u⟩, k7⟩)
        ⟨ts, HI5.out, HS5.out.1, by rw [HTb.out]; exact HS5.out.2.1, by have := HS5.out.2.2; omega, fun _ h => h⟩ ?f2 ?assign2 ?body2 ?done2
      case assign2 =>
        intro l3 Y2 W' K hK
        gi_wp2
        exact hK
      case body2 =>
        rintro l3 Y2 W' hl' ⟨r', hr'⟩ hY20 hY265 ⟨ts, ⟨k1, k2, k3, k4, k5, k6⟩, k7, k8, k9, hsub2⟩ hBY2 hTY2
        obtain ⟨c, hc⟩ : ∃ c, c = Lib.ctz 64 Y2 := ⟨_, rfl⟩
        have hbc : Tr.bt l b c = true := by rw [hc]; unfold Tr.bt; rw [← HTb.out]; exact hsub2 _ (ctz_low hY20 hY265)
        rw [← hc]
        have hcn : c < n := by rw [HN.out]; exact (HTr.out.out _ _ hbc).2
        have HSb2 : ∀ k, (Y2 &&& (Y2 - 1)).testBit k = true → tv.testBit k = true := fun k hk => hsub2 k (by rw [Nat.testBit_and, Bool.and_eq_true] at hk; exact hk.1)
        have HYl2 := Fam.and_pred_lt hY20
        have hYt := le_of_sub hsub2
        have HK := hide (And.intro k1 (And.intro k2 (And.intro k3 (And.intro k4 (And.intro k5 k6)))))
        have HS2 := hide (And.intro k7 (And.intro k8 (And.intro (show ts.length ≤ 65536 * a + 256 * (256 - Y) + (256 - (Y2 &&& (Y2 - 1))) by omega) HSb2)))
        have HL2 := hide (show ts.length + 1 ≤ 65536 * a + 256 * (256 - Y) + (256 - (Y2 &&& (Y2 - 1))) by omega)
        have HBY2 := hide hBY2
        have HTY2 := hide hTY2
        have HCe := hide hc
        have HBc := hide hbc
        have f4 := k2.cell 0
        have l4 := k2.lt
        have f5 := k4.cell 0
        have l5 := k4.lt
        have f1 := k1.1.cell 0
        have l1 := k1.1.lt
        simp only [List.getElem?_toArray, List.getElem?_cons_zero] at f1 f4 f5
        have HBt := hide (beats_any W' (.slice (some a0) n cap) l a0 cap c a (HA.out.keep k1.2.2.1) HTr.out (by rw [← HN.out]; exact hcn) (by omega))
        clear k1 k2 k3 k4 k5 k6 k7 k8 k9 hsub2 hBY2 hTY2 hc hbc HSb2 HYl2 hr'
        by_cases hab : a < b
        · have d1 : decide ((a : Int) < (b : Int)) = true := by simp; omega
          have d1n : decide (a < b) = true := by simpa using hab
          by_cases hac : a < c
          · have d2 : decide ((a : Int) < (c : Int)) = true := by simp; omega
            have d2n : decide (a < c) = true := by simpa using hac
            cases hca : Tr.bt l c a with
            | false =>
              rw [hca] at HBt
              have HCa := hide hca
              clear hca hab hac
              gi_wp2_with fail
              refine ⟨trivial, CallsIn.inRound l3 (callsIn_wide.2 (HBt.out.mono ?_))⟩
              rintro e w8 ⟨rfl, h8⟩
              have H8 := hide h8
              clear h8
              gi_wp2
              exact ⟨kf_chg (S := []) H8.out (fun _ h => by cases h), HBY2.out.keep H8.out List.not_mem_nil, HTY2.out.keep H8.out, ts, ⟨HK.out.1.keep H8.out, HK.out.2.1.keep H8.out List.not_mem_nil, HK.out.2.2.1.keep H8.out List.not_mem_nil, HK.out.2.2.2.1.keep H8.out List.not_mem_nil, HK.out.2.2.2.2.1.keep0 H8.out, HK.out.2.2.2.2.2.trans (kf_chg (S := []) H8.out (fun _ h => by cases h))⟩, HS2.out.1, in_next hY20 hY265 HS2.out.2.1 (fun _ _ => by rw [← HCe.out]; exact HCa.out), HS2.out.2.2.1, HS2.out.2.2.2⟩
            | true =>
              rw [hca] at HBt
              have HCa := hide hca
              clear hca hab hac
              gi_wp2_with fail
              refine ⟨trivial, CallsIn.inRound l3 (callsIn_wide.2 (HBt.out.mono ?_))⟩
              rintro e w8 ⟨rfl, h8⟩
              have H8 := hide h8
              obtain ⟨k1, ⟨ov, q1, q2, q3⟩, k2, k3⟩ := HK.out.1.keep h8
              have f4 := (HK.out.2.1.keep h8 List.not_mem_nil).cell 0
              have l4 := (HK.out.2.1.keep h8 List.not_mem_nil).lt
              have f5 := (HK.out.2.2.2.1.keep h8 List.not_mem_nil).cell 0
              have l5 := (HK.out.2.2.2.1.keep h8 List.not_mem_nil).lt
              have fo := q1.cell 0
              have lo := q1.lt
              simp only [List.getElem?_toArray, List.getElem?_cons_zero] at f4 f5 fo
              have HQ1 := hide q1
              have HQ2 := hide q2
              have HQ3 := hide q3
              have hlen : ts.length ≤ 600000 := by have := HL2.out; omega
              obtain ⟨oa, oc, rfl, hoc⟩ := row_shape q2
              clear h8 k1 q1 q2 q3 k2 k3
              gi_wp2_with (gi_at_builtin; refine wpListIn_append_lies _ rfl _ _ 38 rfl (Z + 2) 81 i0 (.agg #[.int .i64 0, .int .i64 0, .int .i64 0]) 3 24 Tryd.underlying38 hi' hz0 hz1 hz2 rfl (by decide) _ _ _ rfl (HQ2.out.alloc _) ⟨w8.heap.size, 0, none⟩ 1 1 (trCells ((a : Int), (b : Int), (c : Int))).toList rfl rfl (tr_news w8 ((a : Int), (b : Int), (c : Int)) _ rfl) (tr_one _) (by decide) (by unfold maxLen; omega) (by omega) (by simp; omega) _ rfl ?_; intro g1 cap1 w3 hown1 hgrow1 hat1 hlt1; have q5 := box_grown (HQ1.out.old _) (HQ2.out.alloc _) hgrow1 (by omega); have q5c := q5.cell 0; have q5l := q5.lt; have q5f := q5.free 0; simp only [List.getElem?_toArray, List.getElem?_cons_zero] at q5c)
              obtain ⟨p1, p2, p3, p4⟩ := push_row HQ1.out HQ2.out (by omega) hgrow1 hown1 hat1
              obtain ⟨W9, hW9⟩ : ∃ W9, W9 = w3.setCell ⟨Z + 1, 0, none⟩ (.slice (some ⟨g1, 0, none⟩) (ts.length + 1) cap1) := ⟨_, rfl⟩
              rw [← hW9] at p1 p2 p3 ⊢
              clear hW9 q5 q5c q5l q5f hown1 hgrow1 hlt1 f4 l4 f5 l5 fo lo
              have h8 := H8.out
              have hn : ∀ y, y ≠ Z + 1 → (∀ g, (Value.slice oa ts.length oc).ownBlock = some g → g ≠ y) → y ∉ (Z + 1) :: (Value.slice oa ts.length oc).ownBlock.toList := fun y h1 h2 hm => by
                rcases List.mem_cons.1 hm with e | e
                · exact h1 e
                · exact h2 y (Option.mem_toList.1 e) rfl
              have hap : ∀ y, y ∈ [B2, Bx, Ba + 1, Ba] → ∀ g, (Value.slice oa ts.length oc).ownBlock = some g → g ≠ y := fun y hy g hg e => HQ3.out g hg (by rw [e]; exact hy)
              have hlow := fun g hg => (HQ2.out.lt g hg).1
              have hcl : ∀ s ∈ (Z + 1) :: (Value.slice oa ts.length oc).ownBlock.toList, s < W5.heap.size ∨ ∀ o, w8.heap[s]? = some o → o.isCells = true := fun s hs => by
                rcases List.mem_cons.1 hs with e | e
                · exact .inl (by omega)
                · exact .inr (own_cells HQ2.out (Option.mem_toList.1 e))
              have hcl4 : ∀ s ∈ (Z + 1) :: (Value.slice oa ts.length oc).ownBlock.toList, s < W4.heap.size ∨ ∀ o, w8.heap[s]? = some o → o.isCells = true := fun s hs => by
                rcases List.mem_cons.1 hs with e | e
                · exact .inl (by omega)
                · exact .inr (own_cells HQ2.out (Option.mem_toList.1 e))
              obtain ⟨k1, _, k2, k3⟩ := HK.out.1.keep h8
              have tl := HT.out.lt
              have hsz8 := h8.size
              have hszB : ∀ y ∈ [B2, Bx, Ba + 1, Ba], y < w8.heap.size := fun y hy => by
                have := HK.out.2.1.lt
                have := HK.out.2.2.1.lt
                have := HK.out.2.2.2.1.lt
                have := HBY2.out.lt
                simp at hy
                omega
              refine ⟨(kf_chg (S := []) h8 (fun _ h => by cases h)).trans (kf_chg p3 hcl), (HBY2.out.keep h8 List.not_mem_nil).keep p3 (hn _ (by omega) (hap _ (by simp))), (HTY2.out.keep h8).keepS p3 (hn _ (by omega) (fun g hg e => by have := hlow g hg; omega)),
                ts ++ [((a : Int), (b : Int), (c : Int))], ⟨⟨k1.keep p3 (hn _ (by omega) (fun g hg e => by have := hlow g hg; omega)), ⟨_, p1, by rw [List.length_append, flatT_snoc]; exact p2, fun g hg => by cases hg; exact p4 _ hszB HQ3.out⟩, k2.trans' p3 (fun y hy => .inr ?_), Nat.le_trans k3 p3.size⟩,
                  (HK.out.2.1.keep h8 List.not_mem_nil).keep p3 (hn _ (by omega) (hap _ (by simp))), (HK.out.2.2.1.keep h8 List.not_mem_nil).keep p3 (hn _ (by omega) (hap _ (by simp))), (HK.out.2.2.2.1.keep h8 List.not_mem_nil).keep p3 (hn _ (by omega) (hap _ (by simp))), (HK.out.2.2.2.2.1.keep0 h8).keep p3 (fun s hs o ho => ?_), (HK.out.2.2.2.2.2.trans (kf_chg (S := []) h8 (fun _ h => by cases h))).trans (kf_chg p3 hcl4)⟩, ?_, in_some (by simp), by rw [List.length_append]; exact HL2.out, HS2.out.2.2.2⟩
              · rcases List.mem_cons.1 hy with e | e
                · omega
                · have := hlow y (Option.mem_toList.1 e); omega
              · rcases List.mem_cons.1 hs with e | e
                · subst e
                  rw [show w8.heap[Z + 1]? = _ from HQ1.out] at ho
                  cases ho; rfl
                · exact own_cells HQ2.out (Option.mem_toList.1 e) o ho
              · intro t ht
                rcases List.mem_append.1 ht with h | h
                · exact HS2.out.1 t h
                · rw [List.mem_singleton] at h
                  exact ⟨a, b, c, h, HBa.out, HBc.out, HCa.out⟩
          · have d2 : decide ((a : Int) < (c : Int)) = false := by simp; omega
            have d2n : decide (a < c) = false := by simpa using hac
            have HAc := hide hac
            clear hab hac
            gi_wp2
            refine ⟨trivial, ?_⟩
            gi_wp2
            exact ⟨kf_chg (S := []) (Chg.refl [] W') (fun _ h => by cases h), HBY2.out.keep (Chg.refl [] W') List.not_mem_nil, HTY2.out.keep (Chg.refl [] W'), ts, ⟨HK.out.1.keep (Chg.refl [] W'), HK.out.2.1.keep (Chg.refl [] W') List.not_mem_nil, HK.out.2.2.1.keep (Chg.refl [] W') List.not_mem_nil, HK.out.2.2.2.1.keep (Chg.refl [] W') List.not_mem_nil, HK.out.2.2.2.2.1.keep0 (Chg.refl [] W'), HK.out.2.2.2.2.2.trans (kf_chg (S := []) (Chg.refl [] W') (fun _ h => by cases h))⟩, HS2.out.1, in_next hY20 hY265 HS2.out.2.1 (fun _ h => absurd (by rw [HCe.out]; exact h) HAc.out), HS2.out.2.2.1, HS2.out.2.2.2⟩
        · have d1 : decide ((a : Int) < (b : Int)) = false := by simp; omega
          have d1n : decide (a < b) = false := by simpa using hab
          have HAb := hide hab
          clear hab
          gi_wp2
          refine ⟨trivial, ?_⟩
          gi_wp2
          exact ⟨kf_chg (S := []) (Chg.refl [] W') (fun _ h => by cases h), HBY2.out.keep (Chg.refl [] W') List.not_mem_nil, HTY2.out.keep (Chg.refl [] W'), ts, ⟨HK.out.1.keep (Chg.refl [] W'), HK.out.2.1.keep (Chg.refl [] W') List.not_mem_nil, HK.out.2.2.1.keep (Chg.refl [] W') List.not_mem_nil, HK.out.2.2.2.1.keep (Chg.refl [] W') List.not_mem_nil, HK.out.2.2.2.2.1.keep0 (Chg.refl [] W'), HK.out.2.2.2.2.2.trans (kf_chg (S := []) (Chg.refl [] W') (fun _ h => by cases h))⟩, HS2.out.1, in_next hY20 hY265 HS2.out.2.1 (fun h _ => absurd h HAb.out), HS2.out.2.2.1, HS2.out.2.2.2⟩
      case done2 =>
        rintro W' ⟨ts, ⟨k1, k2, k3, k4, k5, k6⟩, k7, k8, k9, hsub2⟩ hT2
        have HK := hide (And.intro k1 (And.intro k2 (And.intro k3 (And.intro k4 (And.intro k5 k6)))))
        have HS2 := hide (And.intro k7 (And.intro k8 k9))
        have HT2 := hide hT2
        clear k1 k2 k3 k4 k5 k6 k7 k8 k9 hsub2 hT2
        gi_wp2
        exact ⟨HK.out.2.2.2.2.2, HK.out.2.2.1, HT2.out, ts, ⟨HK.out.1.less (fun x hx => List.mem_cons_of_mem _ (List.mem_cons_of_mem _ hx)), HK.out.2.1, HK.out.2.2.2.2.1⟩, HS2.out.1, mid_next hY0 hY65 (by rw [← HB.out]; exact HS2.out.2.1), by have := HS2.out.2.2; have := HYl.out.1; have := HYl.out.2; omega, HSb.out⟩
    case done =>
      rintro D W hD ⟨ts, ⟨k1, k2, k3⟩, k4, k5, k6, hsub⟩ hTW hK
      have HW1 := hide (And.intro (And.intro (k1.less (Cs := []) (fun _ h => by cases h)) (And.intro (k3.push (V := W.heap.size) (by omega) (by omega) (Array.getElem?_eq_some_iff.1 hK).1 hK) hTW)) (And.intro k4 (And.intro (out_next k5) (show ts.length ≤ 65536 * (a + 1) by omega))))
      clear k1 k2 k3 k4 k5 k6 hsub hTW hK
      go_wp2
      refine ⟨⟨a + 1, ts, _, ⟨by omega, HW1⟩, _, _, _, _, _, _, _, _, _, by go_num⟩, ?_⟩
      simp [intOf]
      omega
  · have d5 : decide ((a : Int) < (n : Int)) = false := by simp; omega
    obtain rfl : a = n := by omega
    obtain ⟨⟨k1, k2, k3⟩, k4, k5, k6⟩ := hI.out
    obtain ⟨h1, ⟨ov, h2, h3, h4⟩, h5, h6⟩ := k1
    have f1 := h2.cell 0
    have l1 := h2.lt
    simp only [List.getElem?_toArray, List.getElem?_cons_zero] at f1
    have HW := hide (And.intro h3 (And.intro h5 k2))
    have HS := hide (And.intro k4 (And.intro k5 k6))
    clear h1 h2 h3 h4 h5 h6 k2 k3 k4 k5 k6 hI
    go_wp2
    refine leavesM (B := Z) (U := _) (K := fun W' => W'.ownsRow (Z + 2) 81 3 ov ts0.length (flatT ts0) ∧ Chg [] w W') (fun _ W1 W2 row hs hg hr => ⟨own_row hs.1 hg hr, hs.2.row' (Nat.le_of_eq hZ) hg hr⟩) (fun W' hs => ?_) _ _ HW.out.2.2 ⟨HW.out.1, HW.out.2.1⟩
    exact ⟨_, results_tmp rfl _ _ _, _, ts0, rfl, trips_see hs.1, HS.out.1, acy_iff HTr.out HS.out.1 (by rw [← HN.out]; exact HS.out.2.1), by have := HS.out.2.2; omega, hs.2⟩
end Go.Proofs.YtpplihpfjniacaaDoor
