/- Walk: grow, the search of Cover. -/
import Derived.Test.YtaapamoglgpocaaCo1
namespace Go.Proofs.Ytaapamoglgpocaa
open Go.RowKit

set_option maxRecDepth 100000 in
set_option maxHeartbeats 4000000 in
theorem grow_step (W0 : World) (B : CB) (sv : Value) (S : List (Nat × Nat)) (N : Nat) (hf : CvFix W0 B sv S) (ih : GrowC W0 B S N) : GrowC W0 B S (N + 1) := by
  intro s left lv w ov l hs hls hl16 hst hrow hform
  obtain ⟨i0, hi', hz0, hz1, hz2⟩ := info_parts infoRect
  obtain ⟨lo, lc, rfl, hlc⟩ := row_shape hrow
  by_cases hnil : left = []
  · subst hnil
    have HS := hide hst
    have E : Hid (covM S s [] = some []) := hide (covM_nil S s)
    clear hf ih hst hrow hform
    go_enter Try.func87, Try.ntmps87
    go_wp2
    go_ret
    exact ⟨_, by rw [E.out]; rfl, by rw [E.out, Option.getD_some, List.append_nil]; exact HS.out, CvTo.refl _ _ _⟩
  · have hpos : 0 < left.length := List.length_pos_iff.2 hnil
    cases s with
    | zero =>
      have HS := hide hst
      have E : Hid (covM S 0 left = none) := hide (covM_zero hnil)
      have d0 : ((left.length : Int) == 0) = false := by simp; omega
      clear hf ih hst hrow hform hnil
      generalize left.length = n at *
      go_enter Try.func87, Try.ntmps87
      go_wp2
      go_ret
      exact ⟨_, by rw [E.out]; rfl, by rw [E.out, Option.getD_none, List.append_nil]; exact HS.out, CvTo.refl _ _ _⟩
    | succ s =>
      have HFx := hide hf
      have HIH := hide ih
      have HSt := hide hst
      have HRow := hide hrow
      have HFo := hide hform
      have E := hide (covM_succ (S := S) (s := s) hnil)
      have HLn := hide hls
      obtain ⟨i, j, hi4, hj4, he0⟩ := hform _ (getDP_mem hpos)
      have HE0 := hide he0
      obtain ⟨A, K, hsh⟩ : ∃ A K, (Value.slice lo left.length lc) = .slice (some ⟨A, 0, none⟩) left.length K := by
        rcases hrow.2 with ⟨h1, h2⟩ | ⟨g, cap, cur, h1, _⟩
        · omega
        · exact ⟨g, cap, h1⟩
      obtain ⟨rfl, rfl⟩ : lo = some ⟨A, 0, none⟩ ∧ lc = K := by simpa using hsh
      have d0 : ((left.length : Int) == 0) = false := by simp; omega
      have hs1 : IntKind.i64.wrap (((s + 1 : Nat) : Int) - 1) = (s : Int) := by rw [IntKind.wrap_i64]; omega
      have d1 : (((s + 1 : Nat) : Int) == 0) = false := by simp; omega
      obtain ⟨s1, hs1e⟩ : ∃ s1 : Int, s1 = ((s + 1 : Nat) : Int) := ⟨_, rfl⟩
      rw [← hs1e] at hs1 d1 ⊢
      obtain ⟨so, sc, hsv, _⟩ := (hf.see W0 (Chg.refl _ _)).shape
      subst hsv
      rw [List.length_map] at *
      have b5 := (hf.at hst.ch).1.cell 0
      have l5 := (hf.at hst.ch).1.lt
      simp only [List.getElem?_toArray, List.getElem?_cons_zero] at b5
      have hSl := hf.len
      obtain ⟨n, hn⟩ : ∃ n, n = S.length := ⟨_, rfl⟩
      rw [← hn] at HFx hSl b5
      have HN := hide hn
      obtain ⟨m, hm⟩ : ∃ m, m = left.length := ⟨_, rfl⟩
      rw [← hm] at HRow hpos hl16 d0 ⊢
      have HM := hide hm
      clear hf ih hst hrow hform hnil hls he0 hsh hs1e hn hm
      go_enter Try.func87, Try.ntmps87
      go_wp2
      go_loopw [17] (fun kv wr => ∃ k : Nat, k ≤ n ∧ kv = .int .i64 (k : Int) ∧ Hid ((S.take k).findSome? (tryM S s left) = none ∧ ∃ ov', CvSt W0 B wr ov' l ∧ CvTo B ov w ov' wr)) (fun kv _ => (n - (intOf kv).toNat))
      case atStart => exact ⟨0, by omega, rfl, hide ⟨rfl, _, HSt.out, CvTo.refl _ _ _⟩⟩
      case round =>
        obtain ⟨k, hk, rfl, hI⟩ := hrel
        obtain ⟨hno, ov2, hst2, hto2⟩ := hI.out
        have HNo := hide hno
        have HS2 := hide hst2
        have HT2 := hide hto2
        clear hno hst2 hto2 hI b5 l5
        by_cases hlt : k < n
        · have d2 : decide ((k : Int) < (n : Int)) = true := by simpa using hlt
          have hsee := HFx.out.see _ HS2.out.ch
          have hlk : k < (S.map toP).length := by rw [List.length_map, ← HN.out]; exact hlt
          have nx : S.map toP ≠ [] := fun h => by rw [h] at hlk; exact absurd hlk (Nat.not_lt_zero _)
          obtain ⟨a, cap', e, _, hc⟩ := hsee.open nx
          rw [List.length_map, ← HN.out] at e
          obtain ⟨rfl, rfl⟩ : so = some a ∧ sc = cap' := by simpa using e
          obtain ⟨fx, fy⟩ := hc wr (Chg.refl _ _) k hlk
          have hget : (S.map toP).getD k pr0 = toP (S.getD k (0, 0)) := by
            rw [List.getD_eq_getElem?_getD, List.getElem?_map, List.getD_eq_getElem?_getD, List.getElem?_eq_getElem (by rw [← HN.out]; exact hlt)]
            rfl
          rw [hget] at fx fy
          have hmem : S.getD k (0, 0) ∈ S := by
            rw [List.getD_eq_getElem?_getD, List.getElem?_eq_getElem (by rw [← HN.out]; exact hlt)]
            exact List.getElem_mem _
          obtain ⟨r16, c16⟩ := HFx.out.few _ hmem
          have HStep := hide (findSome_take (f := tryM S s left) S k (0, 0) (by rw [← HN.out]; exact hlt) HNo.out)
          have HHit := hide (fun y => findSome_hit (f := tryM S s left) (y := y) S k (0, 0) (by rw [← HN.out]; exact hlt) HNo.out)
          have HTry : Hid (tryM S s left (S.getD k (0, 0)) = if hasP (toP (S.getD k (0, 0))) (left.getD 0 pr0) = true then (covM S s (left.filter fun e => !hasP (toP (S.getD k (0, 0))) e)).map (S.getD k (0, 0) :: ·) else none) := hide rfl
          obtain ⟨p, hp⟩ : ∃ p, p = S.getD k (0, 0) := ⟨_, rfl⟩
          rw [← hp] at fx fy r16 c16 HStep HHit HTry
          obtain ⟨r, c⟩ := p
          unfold toP at fx fy
          dsimp only at fx fy r16 c16
          have j0 : (0 : Int) ≤ (k : Int) := by omega
          have j1 : (k : Int) < (n : Int) := by omega
          have HR2 := hide (HT2.out.pairs HSt.out HRow.out)
          have hPT := (PTab.of HR2.out (HM.out)).1
          obtain ⟨cx, cy⟩ := hPT.cell (k := 0) hpos
          rw [HE0.out] at cx cy
          simp only [Nat.zero_mul, Nat.zero_add] at cx cy
          have lA := hPT.lt
          have hHas : hasP (toP (r, c)) (left.getD 0 pr0) = T.has r c i j := by rw [HE0.out]; rfl
          rw [hHas] at HTry
          have HHs := hide fun ws => has_any r c i j ws (by omega) (by omega) (by omega) (by omega)
          have HBx := hide (Box.new wr #[.int .i64 (r : Int), .int .i64 (c : Int)] 75)
          have HCx := hide ((Chg.refl [] wr).alloc (.cells #[.int .i64 (r : Int), .int .i64 (c : Int)] 75))
          have HR16 := hide (And.intro r16 c16)
          have i0' : (0 : Int) < (m : Int) := by omega
          clear nx hc e hget hmem hp hlk hsee hHas hPT
          go_wp2
          obtain ⟨W1, hW1⟩ : ∃ W1, W1 = wr.alloc (.cells #[.int .i64 (r : Int), .int .i64 (c : Int)] 75) := ⟨_, rfl⟩
          rw [← hW1] at HBx HCx ⊢
          have HS3 := hide (HS2.out.keep HCx.out)
          have HT3 := hide (HT2.out.ext HCx.out)
          have HR3 := hide (HCx.out.row HR2.out (fun _ _ => List.not_mem_nil))
          obtain ⟨Bx, hBx⟩ : ∃ Bx, Bx = wr.heap.size := ⟨_, rfl⟩
          rw [← hBx] at HBx ⊢
          have HBl : Hid (∀ g, ov2.ownBlock = some g → g ≠ Bx) := hide fun g hg => by have := (HS2.out.row.lt g hg).2; omega
          have HBo : Hid (Bx ≠ B.o) := hide (by
            have h1 := HFx.out.lo
            have h2 := HS2.out.ch.size
            omega)
          have x0 := HBx.out.cell 0
          have x1 := HBx.out.cell 1
          have lx := HBx.out.lt
          simp only [List.getElem?_toArray, List.getElem?_cons_zero, List.getElem?_cons_succ] at x0 x1
          have cx3 : W1.cell? ⟨A, 0, none⟩ = some (.int .i64 (i : Int)) := (HCx.out.cell lA List.not_mem_nil 0).trans cx
          have cy3 : W1.cell? ⟨A, 1, none⟩ = some (.int .i64 (j : Int)) := (HCx.out.cell lA List.not_mem_nil 1).trans cy
          have lA3 : A < W1.heap.size := Nat.lt_of_lt_of_le lA HCx.out.size
          clear hW1 hBx cx cy lA fx fy HS2 HT2 HR2 HCx
          cases hh : T.has r c i j with
          | false =>
            have E2 := HStep.out (by rw [HTry.out, hh]; rfl)
            have HE2 := hide E2
            rw [hh] at HHs
            clear hh HTry HStep HHit E2
            refine wp_region_ext (by kernel_rfl) (by kernel_rfl) ?_
            repeat (first | go_big_quiet_step ((go_at_call 88; exact calls_of_ret (HHs.out _))) | quiet_step ((go_at_call 88; exact calls_of_ret (HHs.out _))))
            refine wpQuiet_nil ?_
            intro wx hx
            have HS4 := hide (HS3.out.keep hx)
            have HT4 := hide (HT3.out.ext hx)
            clear hx
            go_wp2
            go_roundw
            case rel => exact ⟨k + 1, by omega, by go_num, hide ⟨HE2.out, ov2, HS4.out, HT4.out⟩⟩
            case measure => simp [intOf]; omega
          | true =>
            rw [hh] at HHs HTry
            rw [if_pos rfl] at HTry
            clear hh
            refine wp_region_ext (by kernel_rfl) (by kernel_rfl) ?_
            repeat (first | go_big_quiet_step ((go_at_call 88; exact calls_of_ret (HHs.out _))) | quiet_step ((go_at_call 88; exact calls_of_ret (HHs.out _))))
            refine wpQuiet_nil ?_
            intro wx hx
            have HS4 := hide (HS3.out.keep hx)
            have HT4 := hide (HT3.out.ext hx)
            have HR4 := hide (hx.row HR3.out (fun _ _ => List.not_mem_nil))
            have HB4 := hide (HBx.out.keep hx List.not_mem_nil)
            obtain ⟨oo, oc, hov, hoc⟩ := row_shape HS4.out.row
            subst hov
            have c8 := HS4.out.bo.cell 0
            have l8 := HS4.out.bo.lt
            have y0 := HB4.out.cell 0
            have y1 := HB4.out.cell 1
            have ly := HB4.out.lt
            have hz4 := HS4.out.ch.size
            simp only [List.getElem?_toArray, List.getElem?_cons_zero, List.getElem?_cons_succ] at c8 y0 y1
            have HLo := hide HFx.out.lo
            clear hx x0 x1 lx cx3 cy3 lA3 HS3 HT3 HR3 HBx HHs
            go_wp2_with (at_builtin; refine wpList_append_lies _ rfl _ _ 111 rfl W0.heap.size 75 i0 (.agg #[.int .i64 0, .int .i64 0]) 2 16 Try.underlying111 hi' hz0 hz1 hz2 rfl (by decide) _ _ _ rfl (HS4.out.row.alloc _) ⟨wx.heap.size, 0, none⟩ 1 1 (prCells (toP (r, c))).toList rfl rfl (pr_news wx (toP (r, c)) _ rfl) (pr_one (toP (r, c))) (by decide) (by have := HLn.out; unfold maxLen; omega) (by have := HLn.out; omega) (by simp; omega) _ rfl ?_; intro g1 cap1 w4 hown1 hgrow1 hat1 hlt1; have q5 := box_grown (HS4.out.bo.old _) (HS4.out.row.alloc _) hgrow1 HLo.out; have q5c := q5.cell 0; have q5l := q5.lt; have q5f := q5.free 0; simp only [List.getElem?_toArray, List.getElem?_cons_zero] at q5c)
            obtain ⟨hS5, hT5⟩ := HS4.out.append (x := (r, c)) HLo.out hown1 hgrow1 hat1
            have hR5 := hT5.pairs HS4.out HR4.out
            have hB5 := hT5.box HB4.out HBo.out HBl.out
            obtain ⟨nv, hnv⟩ : ∃ nv, nv = Value.slice (some ⟨g1, 0, none⟩) (l.length + 1) cap1 := ⟨_, rfl⟩
            have hT5' := HT4.out.trans hT5
            have HNv := hide hnv
            rw [← hnv] at hS5 hT5' ⊢
            obtain ⟨w5, hw5⟩ : ∃ w5, w5 = w4.setCell ⟨B.o, 0, none⟩ nv := ⟨_, rfl⟩
            rw [← hnv] at hR5 hB5
            rw [← hw5] at hS5 hT5' hR5 hB5 ⊢
            have HS5 := hide hS5
            have HT5 := hide hT5'
            have HR5 := hide hR5
            have HB5 := hide hB5
            have HG5 := hide (HFx.out.at hS5.ch).2
            clear hS5 hT5 hT5' hR5 hB5 hnv hw5 hown1 hgrow1 hat1 hlt1 q5 q5c q5l q5f HS4 HT4 HR4 HB4 c8 l8 y0 y1 ly hz4 HBl
            have HSee5 := hide (fun ws (hw : Chg [] w5 ws) => pairs_see (by rw [← HM.out]; exact hw.row HR5.out (fun _ _ => List.not_mem_nil)))
            have HD5 := hide ((Chg.refl [] w5).drew)
            have gg5 := (HG5.out.keep HD5.out List.not_mem_nil).cell 0
            have lg5 := (HG5.out.keep HD5.out List.not_mem_nil).lt
            simp only [List.getElem?_toArray, List.getElem?_cons_zero] at gg5
            have hm16 : left.length ≤ 1000 := by rw [← HM.out]; omega
            have HRec := hide (fun w7 v7 (h7 : CvSt W0 B w7 nv (l ++ [(r, c)])) (hr7 : w7.ownsRow W0.heap.size 60 2 v7 (left.filter fun e => !hasP (toP (r, c)) e).length (flatP (left.filter fun e => !hasP (toP (r, c)) e))) => HIH.out s (left.filter fun e => !hasP (toP (r, c)) e) v7 w7 nv (l ++ [(r, c)]) (by omega) (by rw [List.length_append]; have := HLn.out; simp; omega) (Nat.le_trans (List.length_filter_le _ _) (by rw [← HM.out]; exact hl16)) h7 hr7 (fun x hx => HFo.out x (List.mem_filter.1 hx).1))
            have HDel := hide (fun (v6 : Value) (w6 : World) (b6 : Nat) (h6 : w6.ownsRow b6 60 2 v6 left.length (flatP left)) (hb6 : Box w6 Bx #[.int .i64 (r : Int), .int .i64 (c : Int)] 75) => Delete_pairs 90 #[.pointer (some ⟨Bx, 0, none⟩)] (hasP (toP (r, c))) v6 left b6 v6.ownBlock.toList w6 h6 hm16 (fun A hA => Option.mem_toList.2 hA) callCover2 (fun x ws hx hws => by
              obtain ⟨i', j', hi', hj', rfl⟩ := HFo.out x hx
              have hb := hb6.keep hws (fun hmm => box_row_ne hb6 h6 (by decide) _ (Option.mem_toList.1 hmm) rfl)
              exact inRect2 Bx r c i' j' ws hb (by have := HR16.out.1; omega) (by have := HR16.out.2; omega) (by omega) (by omega)))
            go_region_with ((first | (go_at_call 54; refine (CloneP_any _ left _ (HSee5.out _ (by (repeat' (first | with_reducible exact Chg.refl _ _ | with_reducible assumption | with_reducible apply Chg.drewN | with_reducible apply Chg.drew | with_reducible apply Chg.alloc | (with_reducible refine Chg.setCell ?_ (Or.inr ?_) _) | (with_reducible refine Chg.trans ?_ (by assumption)) | (simp; done) | (simp; omega))))) hm16).mono ?_; rintro e w6 ⟨v6, rfl, hI6, hw6⟩; have k6 : Chg [] w5 w6 := (by (repeat' (first | with_reducible exact Chg.refl _ _ | with_reducible assumption | with_reducible apply Chg.drewN | with_reducible apply Chg.drew | with_reducible apply Chg.alloc | (with_reducible refine Chg.setCell ?_ (Or.inr ?_) _) | (with_reducible refine Chg.trans ?_ (by assumption)) | (simp; done) | (simp; omega)))); have b6 := HB5.out.keep k6 List.not_mem_nil; have fg6 := (HG5.out.keep k6 List.not_mem_nil).cell 0; have lg6 := (HG5.out.keep k6 List.not_mem_nil).lt; simp only [List.getElem?_toArray, List.getElem?_cons_zero] at fg6; obtain ⟨o6, p6, rfl, _⟩ := row_shape hI6; dsimp only) | (go_at_call 89; refine (HDel.out _ w6 _ hI6 b6).mono ?_; rintro e w7 ⟨v7, rfl, hI7, hc7⟩; have k7 : Chg [] w5 w7 := k6.trans' hc7 (fun y hy => .inr (Nat.le_trans HD5.out.size (hI6.lt y (Option.mem_toList.1 hy)).1)); have fg7 := (HG5.out.keep k7 List.not_mem_nil).cell 0; have lg7 := (HG5.out.keep k7 List.not_mem_nil).lt; simp only [List.getElem?_toArray, List.getElem?_cons_zero] at fg7; obtain ⟨o7, p7, rfl, _⟩ := row_shape hI7; dsimp only) | (go_at_call 87; refine (HRec.out w7 _ (HS5.out.keep k7) (row_low hI7 (Nat.le_trans HS5.out.ch.size HD5.out.size))).mono ?_; rintro e w8 ⟨ov8, rfl, hst8, hto8⟩; dsimp only)))
            all_goals (
              have HT8 := hide ((HT5.out.ext k7).trans hto8)
              have HS8 := hide hst8
              have HTr := hide HTry.out
              clear hI6 hw6 k6 b6 fg6 lg6 hI7 hc7 k7 fg7 lg7 hst8 hto8 HT5 HS5 HR5 HB5 HG5 HSee5 HD5 gg5 lg5 HRec HDel HTry
              cases hc : covM S s (left.filter fun e => !hasP (toP (r, c)) e) with
              | some y =>
                have E2 : Hid (covM S (s + 1) left = some ((r, c) :: y)) := hide (by rw [E.out]; exact HHit.out _ (by rw [HTr.out, hc]; rfl))
                rw [hc] at HS8
                clear hc HTr HHit HStep
                go_wp2
                go_ret
                exact ⟨ov8, by rw [E2.out]; rfl, by rw [E2.out]; simpa using HS8.out, HT8.out⟩
              | none =>
                have HE2 := hide (HStep.out (by rw [HTr.out, hc]; rfl))
                rw [hc, Option.getD_none, List.append_nil] at HS8
                clear hc HTr HHit HStep
                obtain ⟨o8, p8, hov8, hop8⟩ := row_shape HS8.out.row
                rw [List.length_append] at hov8 hop8
                have hov9 : ov8 = .slice o8 (l.length + 1) p8 := hov8
                subst hov9
                have hp8 : l.length + 1 ≤ p8 := hop8
                have c8 := HS8.out.bo.cell 0
                have l8 := HS8.out.bo.lt
                have f8 := HS8.out.bo.free 0
                simp only [List.getElem?_toArray, List.getElem?_cons_zero] at c8
                have HPop := hide (HS8.out.pop HLo.out rfl)
                have hw9 : IntKind.i64.wrap (((l.length + 1 : Nat) : Int) - 1) = (l.length : Int) := by have := HLn.out; rw [IntKind.wrap_i64]; omega
                have hw10 : IntKind.i64.wrap ((l.length : Int) + 1 - 1) = (l.length : Int) := by have := HLn.out; rw [IntKind.wrap_i64]; omega
                have hw11 : IntKind.i64.wrap (l.length : Int) = (l.length : Int) := by have := HLn.out; rw [IntKind.wrap_i64]; omega
                have g9 : (l.length : Int) ≤ (p8 : Int) := by omega
                have g8 : (0 : Int) ≤ (l.length : Int) := by omega
                clear hov8 hop8 HS8
                go_wp2
                go_roundw
                case rel => exact ⟨k + 1, by omega, by go_num, hide ⟨HE2.out, _, HPop.out.1, HT8.out.trans HPop.out.2⟩⟩
                case measure => simp [intOf]; omega)
        · have d2 : decide ((k : Int) < (n : Int)) = false := by simpa using hlt
          obtain rfl : k = n := by omega
          have E2 : Hid (covM S (s + 1) left = none) := hide (by rw [E.out, ← HNo.out, HN.out, List.take_length])
          go_wp2
          go_ret
          exact ⟨ov2, by rw [E2.out]; rfl, by rw [E2.out, Option.getD_none, List.append_nil]; exact HS2.out, HT2.out⟩
end Go.Proofs.Ytaapamoglgpocaa
