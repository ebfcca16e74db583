/- Walk: the statement TopRanking. -/
import Derived.Test.YtpplihpfjniacaaDoorCl1
import Derived.Test.YtpplihpfjniacaaDoorClr
import Derived.Test.YtpplihpfjniacaaDoorLn3
import Derived.Test.YtpplihpfjniacaaDoorWy3
import Derived.Test.YtpplihpfjniacaaDoorRv1
import Derived.Test.YtpplihpfjniacaaDoorOpen
import Derived.DeepKeys4
namespace Go.Proofs.YtpplihpfjniacaaDoor
open Go.RowKit Go.Shelf

theorem laidOutT : laidOutB Tryd.prog = true := by kernel_rfl
theorem flatP_pairs (ps : List (Nat × Nat)) : (flatP (ps.map toPr)).length = ps.length * 2 := by rw [flatP_len, List.length_map]
/-- No tournament, or a great one. -/
theorem top_small (v : Value) (l : List Int) (w : World) (hv : See w v l) (hT : Tz w) (h : ¬ (1 ≤ l.length ∧ l.length ≤ 8) ∨ ((1 ≤ l.length ∧ l.length ≤ 8) ∧ tourV l = false)) :
    Calls Tryd.prog 4 #[v] w (Ret (.bool true) w) := by
  have HV : Hid (Calls Tryd.prog 13 #[v] w (Ret (.bool false) w)) := hide (by
    rcases h with h | ⟨h, h2⟩
    · exact Valid2_small v l w hv h
    · have := Valid2_any v l w hv h
      rwa [h2] at this)
  have HS := hide fun ws (hw : Chg [] w ws) => stands_any ws (hT.keep hw)
  obtain ⟨ao, cap, rfl⟩ := hv.shape
  clear hv hT h
  generalize l.length = n at *
  go_enter Tryd.func4, Tryd.ntmps4
  go_wp2_with fail
  refine HV.out.mono ?_
  rintro e w2 ⟨rfl, h2⟩
  have H2 := hide h2
  clear h2
  go_wp2_with fail
  refine (HS.out _ H2.out).mono ?_
  rintro e w3 ⟨rfl, h3⟩
  have H3 := hide (H2.out.trans h3)
  clear h3
  go_wp2
  go_ret
  exact ⟨rfl, H3.out⟩
theorem top_great (v : Value) (l : List Int) (w : World) (hv : See w v l) (hT : Tz w) (h : 1 ≤ l.length ∧ l.length ≤ 8) (ht : tourV l = true) (h7 : 6 < l.length) :
    Calls Tryd.prog 4 #[v] w (Ret (.bool true) w) := by
  have HV := hide (Valid2_any v l w hv h)
  rw [ht] at HV
  have HS := hide fun ws (hw : Chg [] w ws) => stands_any ws (hT.keep hw)
  obtain ⟨ao, cap, rfl⟩ := hv.shape
  clear hv hT ht h
  generalize l.length = n at *
  have d1 : decide ((n : Int) > 6) = true := by simp; omega
  have d1' : decide ((6 : Int) < (n : Int)) = true := by simp; omega
  have d1n : decide (6 < n) = true := by simp; omega
  clear h7
  go_enter Tryd.func4, Tryd.ntmps4
  go_wp2_with fail
  refine HV.out.mono ?_
  rintro e w2 ⟨rfl, h2⟩
  have H2 := hide h2
  clear h2
  go_wp2_with fail
  refine (HS.out _ H2.out).mono ?_
  rintro e w3 ⟨rfl, h3⟩
  have H3 := hide (H2.out.trans h3)
  clear h3
  go_wp2
  go_ret
  exact ⟨rfl, H3.out⟩

set_option maxRecDepth 100000 in
set_option maxHeartbeats 4000000 in
theorem top_in (v : Value) (l : List Int) (w : World) (hv : See w v l) (hT : Tz w) (h : 1 ≤ l.length ∧ l.length ≤ 6) (ht : tourV l = true) :
    Calls Tryd.prog 4 #[v] w (Ret (.bool true) w) := by
  have h8 : 1 ≤ l.length ∧ l.length ≤ 8 := ⟨h.1, by omega⟩
  have T := Tr.tour_of h8 ht
  have HV := hide (Valid2_any v l w hv h8)
  rw [ht] at HV
  have HS := hide fun ws (hw : Chg [] w ws) => stands_any ws (hT.keep hw)
  obtain ⟨a, cap, hTA⟩ := tour_at T hv
  have HTA := hide hTA
  have HTr := hide T
  have HT := hide hT
  have HSee := hide hv
  obtain rfl := hTA.eq
  have HL := hide (And.intro h ht)
  have HCl := hide fun ws (hw : Chg [] w ws) => Clone_any _ l ws (hv.keep hw) (by omega)
  have HCy := hide fun ws v (hw : Chg [] w ws) (hs : See ws v l) => Cycles_any v l ws hs h8 ht (hT.keep hw)
  have HCr := hide fun ws v (hw : Chg [] w ws) (hs : See ws v l) => Clear_any v l ws hs h ht (hT.keep hw)
  obtain ⟨i0, hi', hz0, hz1, hz2⟩ := info_parts infoPair
  obtain ⟨n, hn⟩ : ∃ n, n = l.length := ⟨_, rfl⟩
  rw [← hn] at HTA HSee HV HCl HCr h ⊢
  have HN := hide hn
  have d1 : decide ((n : Int) > 6) = false := by simp; omega
  have d1' : decide ((6 : Int) < (n : Int)) = false := by simp; omega
  have d1n : decide (6 < n) = false := by simp; omega
  clear hv hT h8 ht T hTA hn
  go_enter Tryd.func4, Tryd.ntmps4
  go_wp2_with fail
  refine HV.out.mono ?_
  rintro e w2 ⟨rfl, h2⟩
  have H2 := hide h2
  clear h2
  go_wp2
  clear d1 d1' d1n
  go_loopw [3, 26] (fun pv iv wr => ∃ i : Nat, i ≤ n ∧ iv = .int .i64 (i : Int) ∧ Hid (wr.ownsRow w.heap.size 35 2 pv (Tr.allP l i).length (flatP ((Tr.allP l i).map toPr)) ∧ Chg [] w wr)) (fun _ iv _ => n - (intOf iv).toNat)
  case atStart => exact ⟨0, Nat.zero_le _, rfl, hide ⟨World.ownsRow_nil _ _ _ _, H2.out⟩⟩
  case round =>
    obtain ⟨i, hi, rfl, hI⟩ := hrel
    by_cases hlt : i < n
    · have d5 : decide ((i : Int) < (n : Int)) = true := by simp; omega
      have fx := HTA.out.cell wr hI.out.2 i (by rw [← HN.out]; exact hlt)
      have hti := tb_lt HTr.out i
      obtain ⟨s, hs⟩ : ∃ s, s = tb l i := ⟨_, rfl⟩
      rw [← hs] at fx hti
      have HSs := hide hs
      have i0' : (0 : Int) ≤ (i : Int) := by omega
      have i1' : (i : Int) < (n : Int) := by omega
      clear hs
      go_wp2
      go_loopw [3, 33] (fun pv jv wq => ∃ j : Nat, j ≤ n ∧ jv = .int .i64 (j : Int) ∧ Hid (wq.ownsRow w.heap.size 35 2 pv (Tr.allP l i ++ Tr.rowP l i j).length (flatP ((Tr.allP l i ++ Tr.rowP l i j).map toPr)) ∧ Chg [] w wq)) (fun _ jv _ => n - (intOf jv).toNat)
      case atStart => exact ⟨0, Nat.zero_le _, rfl, hide ⟨by rw [Tr.rowP, List.append_nil]; exact hI.out.1, hI.out.2⟩⟩
      case round =>
        obtain ⟨j, hj, rfl, hJ⟩ := hrel
        obtain ⟨po, pc, rfl, hpc⟩ := row_shape hJ.out.1
        by_cases hlj : j < n
        · have d6 : decide ((j : Int) < (n : Int)) = true := by simp; omega
          have ep := pt_bit (s := s) (x := j) (by omega)
          have HB : Hid (Tr.bt l i j = s.testBit j) := hide (by rw [HSs.out]; rfl)
          have hlen := Tr.len_rows HTr.out (i := i) (j := j) (by rw [← HN.out]; exact hlt) (by rw [← HN.out]; exact hj)
          have HRw := hide hJ.out.1
          have HC := hide hJ.out.2
          have HNx : Hid (∀ x, Tr.bt l i j = x → Tr.allP l i ++ Tr.rowP l i (j + 1) = (Tr.allP l i ++ Tr.rowP l i j) ++ (if x = true then [(j, i)] else [])) := hide fun x hx => by rw [Tr.rowP, hx, List.append_assoc]
          obtain ⟨ps, hps⟩ : ∃ ps, ps = Tr.allP l i ++ Tr.rowP l i j := ⟨_, rfl⟩
          rw [← hps] at hlen HRw hpc ⊢
          simp only [← hps] at HNx
          have HPs := hide hps
          obtain ⟨k, hk⟩ : ∃ k, k = ps.length := ⟨_, rfl⟩
          rw [← hk] at hlen HRw hpc ⊢
          have HKe := hide hk
          have j0 : (0 : Int) ≤ (j : Int) := by omega
          have j1 : (j : Int) < 64 := by omega
          have hsz := HC.out.size
          clear hJ hps hk
          cases htb : s.testBit j with
          | true =>
            rw [htb, if_pos rfl] at ep
            rw [htb] at HB
            clear htb
            go_wp2_with (at_builtin; refine wpList_append_lies _ rfl _ _ 34 rfl w.heap.size 35 i0 (.agg #[.int .i64 0, .int .i64 0]) 2 16 Tryd.underlying34 hi' hz0 hz1 hz2 rfl (by decide) _ _ _ rfl (HRw.out.alloc _) ⟨wr.heap.size, 0, none⟩ 1 1 (prCells (toPr (j, i))).toList rfl rfl (pr_news wr (toPr (j, i)) _ rfl) (pr_one (toPr (j, i))) (by decide) (by unfold maxLen; omega) (by omega) (by simp; omega) _ rfl ?_; intro g1 cap1 w3 hown1 hgrow1 hat1 hlt1)
            have hc3 := chg_grown (HC.out.alloc _) (HRw.out.alloc _) (Nat.le_refl _) hgrow1
            have HN1 := hide (And.intro hown1 hc3)
            have HE : Hid (Tr.allP l i ++ Tr.rowP l i (j + 1) = ps ++ [(j, i)]) := hide (by rw [HNx.out _ HB.out]; rfl)
            refine ⟨⟨j + 1, by omega, by go_num, hide ⟨?_, HN1.out.2⟩⟩, by simp [intOf]; omega⟩
            rw [HE.out, List.length_append, ← HKe.out, List.map_append]
            change w3.ownsRow _ _ _ _ (k + 1) (flatP (ps.map toPr ++ [toPr (j, i)]))
            rw [flatP_snoc]
            exact HN1.out.1
          | false =>
            rw [htb, if_neg (by decide)] at ep
            rw [htb] at HB
            have HE : Hid (Tr.allP l i ++ Tr.rowP l i (j + 1) = ps) := hide (by rw [HNx.out _ HB.out]; simp)
            clear htb HNx
            go_wp2
            go_roundw
            case rel => exact ⟨j + 1, by omega, by go_num, hide ⟨by rw [HE.out, ← HKe.out]; exact HRw.out, HC.out⟩⟩
            case measure => simp [intOf]; omega
        · have d6 : decide ((j : Int) < (n : Int)) = false := by simp; omega
          obtain rfl : j = n := by omega
          have HE : Hid (Tr.allP l i ++ Tr.rowP l i j = Tr.allP l (i + 1)) := hide (by rw [HN.out]; rfl)
          go_wp2
          go_roundw
          case rel => exact ⟨i + 1, by omega, by go_num, hide ⟨by rw [← HE.out]; exact hJ.out.1, hJ.out.2⟩⟩
          case measure => simp [intOf]; omega
    · have d5 : decide ((i : Int) < (n : Int)) = false := by simp; omega
      obtain rfl : i = n := by omega
      obtain ⟨po, pc, rfl, hpc⟩ := row_shape hI.out.1
      have HC := hide hI.out.2
      have hsp : SeeP wr (.slice po (Tr.allP l i).length pc) ((Tr.allP l i).map toPr) := pairs_see (by rw [List.length_map]; exact hI.out.1)
      have hP30 := Tr.len_P HTr.out HL.out.1.2
      rw [← HN.out] at hP30
      have hclose := Close_any i (.slice po (Tr.allP l i).length pc) (Tr.allP l i) wr hsp h.1 h.2 hP30 (fun p hp => by
        obtain ⟨x, y, h1, h2, _, rfl⟩ := Tr.mem_allP.1 hp
        exact ⟨by rw [HN.out]; exact h2, h1⟩) (HT.out.keep HC.out)
      by_cases hA : Tr.Acy l
      · have hcl := Tr.close_acy HTr.out hA
        rw [← HN.out] at hcl
        rw [hcl] at hclose
        have HCo := hide hclose
        have HA := hide hA
        generalize (Tr.allP l i).length = k at *
        clear hI hsp hP30 hclose hcl hA hpc
        go_wp2_with fail
        refine HCo.out.mono ?_
        rintro e w4 ⟨h4, u, rfl, hu⟩
        have HU := hide hu.toSee
        have H4 := hide (HC.out.trans h4)
        have hul := hu.toSee.shape
        rw [ordL_len] at hul
        obtain ⟨uo, uc, rfl⟩ := hul
        clear hu h4
        go_wp2_with fail
        refine (HCl.out _ H4.out).mono ?_
        rintro e w5 ⟨v5, rfl, hI5, h5⟩
        have H5 := hide (And.intro hI5.toSee (H4.out.trans h5))
        have H45 := hide h5
        clear hI5 h5
        go_wp2_with fail
        refine (HCy.out _ _ H5.out.2 H5.out.1).mono ?_
        rintro e w6 ⟨co, cm, cc, rfl, hcm, h6⟩
        have H6 := hide (H5.out.2.trans h6)
        have H46 := hide (H45.out.trans h6)
        have dm : ((cm : Int) == 0) = true := by have := hcm.2 HA.out; simp [this]
        clear hcm h6
        go_wp2_with fail
        refine (HCl.out _ H6.out).mono ?_
        rintro e w7 ⟨v7, rfl, hI7, h7⟩
        have H7 := hide (And.intro hI7.toSee (H6.out.trans h7))
        have H47 := hide (H46.out.trans h7)
        clear hI7 h7
        go_wp2_with fail
        refine (HCr.out _ _ H7.out.2 H7.out.1).mono ?_
        rintro e w8 ⟨b, rfl, hb, h8⟩
        have H8 := hide (H7.out.2.trans h8)
        have H48 := hide (H47.out.trans h8)
        have db : ((b : Int) == (i : Int)) = true := by have := hb.2 HA.out; simp; omega
        clear hb h8
        go_wp2_with fail
        have hul := HU.out.keep H48.out
        have HDn := hide (Tr.card_all l.length (by have := HTr.out.len; omega))
        rw [HN.out] at hul
        rw [HN.out]
        refine (Lines_any l _ w8 hul HTr.out HA.out HL.out.1.2 (HT.out.keep H8.out)).mono ?_
        rintro e w9 ⟨lv, xs, rfl, hs2, hasc, h9⟩
        rw [← HN.out]
        have H9 := hide (H8.out.trans h9)
        have HL2 := hide hs2
        have HAs := hide hasc
        obtain ⟨lo, lc, rfl⟩ := hs2.shape
        clear hul hs2 hasc h9
        go_wp2_with fail
        refine (HCl.out _ H9.out).mono ?_
        rintro e w10 ⟨v10, rfl, hI10, h10⟩
        have H10 := hide (H9.out.trans h10)
        have H910 := hide h10
        have HS10 := hide hI10.toSee
        clear hI10 h10
        go_wp2_with fail
        refine (Way_any l v10 w10 HS10.out HL.out.2 HTr.out.len HA.out (HT.out.keep H10.out)).mono ?_
        rintro e w11 ⟨wv, rfl, ys, hrow, hdesc, hy8, h11⟩
        have hyl := Tr.desc_len hdesc (by have := HTr.out.len.2; have := Tr.pow16 this; omega)
        rw [HDn.out] at hyl
        have hy0 : ys ≠ [] := fun e => by rw [e] at hyl; have := HTr.out.len.1; simp at hyl; omega
        have HRv := hide (Reverse_own w10.heap.size wv ys w11 hrow hy0 (by omega))
        have HEq : Hid (natsI xs = natsI ys.reverse) := hide (by
          have h1 := Tr.desc_asc HTr.out hdesc (by have := HTr.out.len.2; have := Tr.pow16 this; omega)
          rw [Tr.asc_one HTr.out (by have := Nat.two_pow_pos l.length; omega) HAs.out h1])
        have H11 := hide (H10.out.trans h11)
        have H911 := hide (H910.out.trans h11)
        have HZ10 : Hid (w9.heap.size ≤ w10.heap.size ∧ w.heap.size ≤ w10.heap.size) := hide ⟨H910.out.size, H10.out.size⟩
        obtain ⟨wo, wc, rfl, _⟩ := row_shape hrow
        generalize ys.length = yl at *
        clear hrow hdesc hy8 h11 hyl hy0
        go_wp2_with fail
        refine HRv.out.mono ?_
        rintro e w12 ⟨⟨u12, rfl⟩, hsr, g, hg, h12⟩
        have H12 : Hid (Chg [] w w12) := hide (H11.out.trans' h12 (fun x hx => .inr (by rw [List.mem_singleton] at hx; have := HZ10.out; omega)))
        have H912 : Hid (Chg [] w9 w12) := hide (H911.out.trans' h12 (fun x hx => .inr (by rw [List.mem_singleton] at hx; have := HZ10.out; omega)))
        have HSr := hide hsr
        obtain ⟨la, lc', e, _, hrows⟩ := (HL2.out.keep H912.out).open (by simp)
        obtain ⟨rfl, rfl⟩ : lo = some la ∧ lc = lc' := by simpa using e
        obtain ⟨bo, bc, hr⟩ := hrows 0 (by simp)
        obtain ⟨fr, hs0⟩ := hr w12 (Chg.refl _ _)
        rw [add_nought] at fr
        have hlx : xs.length ≤ 8 := by
          have h1 := Tr.asc_len HAs.out (by have := HTr.out.len.2; have := Tr.pow16 this; omega)
          rw [HDn.out] at h1
          have := HTr.out.len.2
          omega
        have HEqual := hide (Equal_any _ _ _ _ w12 hs0 HSr.out (by show (natsI xs).length < 1000000; rw [natsI_len]; omega))
        have hde : decide (natsI xs = natsI ys.reverse) = true := decide_eq_true HEq.out
        change Hid (Calls _ _ _ _ (Ret (.bool (decide (natsI xs = natsI ys.reverse))) w12)) at HEqual
        rw [hde] at HEqual
        clear hsr h12 hg e hrows hr hs0 hlx hde
        go_wp2_with fail
        refine HEqual.out.mono ?_
        rintro e w13 ⟨rfl, h13⟩
        have H13 := hide (H12.out.trans h13)
        clear h13 HEqual fr
        go_wp2_with fail
        refine (HS.out _ H13.out).mono ?_
        rintro e w14 ⟨rfl, h14⟩
        have H14 := hide (H13.out.trans h14)
        clear h14
        go_wp2
        go_ret
        exact ⟨rfl, H14.out⟩
      · have hcl := Tr.close_cyc hA HTr.out
        rw [← HN.out] at hcl
        rw [hcl] at hclose
        have HCo := hide hclose
        have HA := hide hA
        generalize (Tr.allP l i).length = k at *
        clear hI hsp hP30 hclose hcl hA hpc
        go_wp2_with fail
        refine HCo.out.mono ?_
        rintro e w4 ⟨h4, rfl⟩
        have H4 := hide (HC.out.trans h4)
        clear h4
        go_wp2_with fail
        refine (HCl.out _ H4.out).mono ?_
        rintro e w5 ⟨v5, rfl, hI5, h5⟩
        have H5 := hide (And.intro hI5.toSee (H4.out.trans h5))
        clear hI5 h5
        go_wp2_with fail
        refine (HCy.out _ _ H5.out.2 H5.out.1).mono ?_
        rintro e w6 ⟨co, cm, cc, rfl, hcm, h6⟩
        have H6 := hide (H5.out.2.trans h6)
        have dm : ((cm : Int) == 0) = false := by
          have : cm ≠ 0 := fun h => HA.out (hcm.1 h)
          simp; omega
        clear hcm h6
        go_wp2_with fail
        refine (HCl.out _ H6.out).mono ?_
        rintro e w7 ⟨v7, rfl, hI7, h7⟩
        have H7 := hide (And.intro hI7.toSee (H6.out.trans h7))
        clear hI7 h7
        go_wp2_with fail
        refine (HCr.out _ _ H7.out.2 H7.out.1).mono ?_
        rintro e w8 ⟨b, rfl, hb, h8⟩
        have H8 := hide (H7.out.2.trans h8)
        have db : ((b : Int) == (i : Int)) = false := by
          have : b ≠ i := fun h => HA.out (hb.1 h)
          simp; omega
        clear hb h8
        go_wp2_with fail
        refine (HS.out _ H8.out).mono ?_
        rintro e w9 ⟨rfl, h9⟩
        have H9 := hide (H8.out.trans h9)
        clear h9
        go_wp2
        go_ret
        exact ⟨rfl, H9.out⟩

theorem topRanking_walk (v : Value) (w : World) (hv : IsInts w v) (hT : Tz w) : Calls Tryd.prog 4 #[v] w (Ret (.bool true) w) := by
  obtain ⟨l, hl, _⟩ := hv
  by_cases h : 1 ≤ l.length ∧ l.length ≤ 8
  · cases ht : tourV l with
    | false => exact top_small v l w hl hT (.inr ⟨h, ht⟩)
    | true =>
      by_cases h6 : l.length ≤ 6
      · exact top_in v l w hl hT ⟨h.1, h6⟩ ht
      · exact top_great v l w hl hT h ht (by omega)
  · exact top_small v l w hl hT (.inl h)
end Go.Proofs.YtpplihpfjniacaaDoor
