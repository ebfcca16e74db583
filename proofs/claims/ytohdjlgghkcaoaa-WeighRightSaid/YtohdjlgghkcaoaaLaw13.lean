/- Walk: the statement WeighFinds. -/
import Derived.Test.YtohdjlgghkcaoaaS10
import Derived.Test.YtohdjlgghkcaoaaFindsPlain
import Derived.Test.YtohdjlgghkcaoaaOpen2
import Derived.Test.YtohdjlgghkcaoaaLaw3
namespace Go.Proofs.Ytohdjlgghkcaoaa
open Go.RowKit

/-- A row of ints that the call itself writes. -/
def IntTab (w : World) (A n : Nat) (f : Nat → Int) : Prop := ∃ cur, Box w A cur 3 ∧ cur.size = n ∧ ∀ i, i < n → cur[i]? = some (.int .i64 (f i))
theorem IntTab.lt {w : World} {A n : Nat} {f : Nat → Int} (h : IntTab w A n f) : A < w.heap.size := by obtain ⟨c, h, _⟩ := h; exact h.lt
theorem IntTab.keep {w w' : World} {A n : Nat} {f : Nat → Int} {S : List Nat} (h : IntTab w A n f) (hc : Chg S w w') (hs : A ∉ S) : IntTab w' A n f := by
  obtain ⟨c, h, hc'⟩ := h
  exact ⟨c, h.keep hc hs, hc'⟩
theorem IntTab.cell {w : World} {A n : Nat} {f : Nat → Int} (h : IntTab w A n f) {i : Nat} (hi : i < n) : w.cell? ⟨A, i, none⟩ = some (.int .i64 (f i)) := by
  obtain ⟨c, h, _, hc⟩ := h
  rw [h.cell]; exact hc i hi
theorem IntTab.free {w : World} {A n : Nat} {f : Nat → Int} (h : IntTab w A n f) (i : Nat) : w.frozen? ⟨A, i, none⟩ = false := by
  obtain ⟨c, h, _⟩ := h
  exact h.free i
theorem IntTab.set {w : World} {A n : Nat} {f g : Nat → Int} (h : IntTab w A n f) (i : Nat) (v : Int) (hg : ∀ j, j < n → g j = if j = i then v else f j) : IntTab (w.setCell ⟨A, i, none⟩ (.int .i64 v)) A n g := by
  obtain ⟨c, h, hs, hc⟩ := h
  refine ⟨_, h.set i _, by simpa using hs, fun j hj => ?_⟩
  rw [hg j hj]
  by_cases hij : j = i
  · subst hij
    rw [Array.getElem?_setIfInBounds_self, if_pos (by omega), if_pos rfl]
  · rw [Array.getElem?_setIfInBounds_ne (Ne.symm hij), hc j hj, if_neg hij]
theorem IntTab.see {w : World} {A n : Nat} {f : Nat → Int} {xs : List Int} (h : IntTab w A n f) (hl : xs.length = n) (hx : ∀ i, i < n → xs.getD i 0 = f i) : See w (.slice (some ⟨A, 0, none⟩) n n) xs :=
  .inr ⟨⟨A, 0, none⟩, n, by rw [hl], by rw [hl]; exact Nat.le_refl _, h.lt, fun i hi => by rw [add_zero_row, hx i (by omega)]; exact h.cell (by omega)⟩
theorem IntTab.made {w : World} {g n base : Nat} (h : w.ownsRow base 3 1 (.slice (some ⟨g, 0, none⟩) n n) n (madeCells (Value.int .i64 0).cells (n * 1)).toList) : IntTab w g n (fun _ => 0) := by
  rcases h.2 with ⟨h, _⟩ | ⟨g', cap', cur, he, hb, hg, hle, hm, hsz, ht⟩
  · cases h
  · cases he
    have hcells : (Value.int .i64 0).cells = #[.int .i64 0] := rfl
    rw [hcells, toList_madeCells_one, Nat.mul_one] at ht
    refine ⟨cur, hg, by omega, fun i hi => ?_⟩
    have e : (List.replicate n (Value.int .i64 0))[i]? = some (.int .i64 0) := by rw [List.getElem?_replicate, if_pos hi]
    rw [← ht, List.getElem?_take, if_pos hi] at e
    simpa using e

theorem rightV_cut (t : List (List Int)) : rightV (W.cut t) = if W.isTab t = true then .tuple #[.bool (W.fairT t), .int .i64 0] else .tuple #[.bool false, .int .i64 2] := by
  unfold rightV
  rw [W.isTab_cut]
  by_cases h : W.isTab t = true
  · rw [if_pos h, if_pos h, W.cut_of_isTab h]
  · rw [if_neg h, if_neg h]
theorem cutR {t : List (List Int)} : (∀ r ∈ W.cut t, r.length ≤ 1000000) ∧ (W.cut t).length ≤ 1000000 := by
  refine ⟨fun r hr => ?_, by rw [W.cut_len]; omega⟩
  obtain ⟨r', _, rfl⟩ := List.mem_map.1 hr
  rw [List.length_take]; omega

set_option maxRecDepth 100000 in
set_option maxHeartbeats 4000000 in
theorem walk_finds (v : Value) (t : List (List Int)) (a1 a2 : Int) (w : World) (hv : See2 w v t) (ht : t.length ≤ 9223372036854775807) (hr : ∀ r ∈ t, r.length ≤ 9223372036854775807) :
    Calls Try.prog 13 #[v, .int .i64 a1, .int .i64 a2] w (Ret (.bool true) w) := by
  have HT1 := hide fun ws (hw : Chg [] w ws) => table_any v t ws (hv.keep hw) ht
  have HTb := hide fun ws (hw : Chg [] w ws) => Table_any v t ws (hv.keep hw) hr
  have hcs := cutR (t := t)
  have HRi := hide fun v' ws (h1 : See2 ws v' (W.cut t)) => Right_any v' (W.cut t) ws h1 hcs.1 hcs.2
  rw [rightV_cut] at HRi
  cases htab : W.isTab t with
  | false =>
    rw [htab] at HRi HTb
    simp only [Bool.false_eq_true, if_false] at HRi
    clear hr hcs ht hv htab
    go_enter Try.func13, Try.ntmps13
    go_wp2_with fail
    refine (HT1.out _ (Chg.refl _ _)).mono ?_
    rintro e w1 ⟨v1, rfl, hI1, hw1⟩
    have HI1 := hide hI1
    clear hI1
    go_wp2_with fail
    refine (HRi.out _ _ HI1.out).mono ?_
    rintro e w2 ⟨rfl, hw2⟩
    go_wp2_with fail
    refine (awake_any _).mono ?_
    rintro e w3 ⟨rfl, hw3⟩
    go_wp2
    go_ret
    exact ⟨rfl, (hw1.trans hw2).trans hw3⟩
  | true =>
    rw [htab] at HRi HTb
    simp only [if_true] at HRi
    obtain ⟨⟨t1, t2, t3, t4⟩, hrow⟩ := W.isTab_iff.1 htab
    have hne : t ≠ [] := by rintro rfl; simp at t1
    obtain ⟨a, cap, rfl, _, hc⟩ := hv.open hne
    obtain ⟨bo, bc, h0⟩ := hc 0 (by omega)
    rw [add_nought, row0] at h0
    have H0 := hide h0
    have HC := hide hc
    have HTab := hide htab
    rw [W.cut_of_isTab htab] at hcs
    have HRd := hide fun v' u' (res : List Int) ws (h1 : See2 ws v' t) (h2 : See ws u' res) (h3 : W.rowOk (W.cols t) res = true) => (by
      have := Read_any v' u' t res ws h1 h2 hcs.1 hcs.2 (by have := (W.rowOk_iff.1 h3).1; omega)
      unfold readP at this
      rw [if_pos ⟨htab, h3⟩] at this
      exact this : Calls Try.prog 42 #[v', u'] ws (Ret (readV (W.readT t res)) ws))
    have HCut := hide (W.cut_of_isTab htab)
    clear hr hcs ht hv hne hc h0
    obtain ⟨n, hn⟩ : ∃ n, n = t.length := ⟨_, rfl⟩
    have HN := hide hn
    rw [← hn] at t1 t2 HT1 HTb ⊢
    obtain ⟨c, hce⟩ : ∃ c, c = W.cols t := ⟨_, rfl⟩
    have HCe := hide hce
    rw [← hce] at t3 t4 H0
    have hfew : Hid (W.fairT t = true → 2 * n + 3 ≤ pw c) := hide fun hf => by rw [hn, hce]; exact W.few htab hf
    clear hn hce htab hrow
    go_enter Try.func13, Try.ntmps13
    go_wp2_with fail
    refine (HT1.out _ (Chg.refl _ _)).mono ?_
    rintro e w1 ⟨v1, rfl, hI1, hw1⟩
    have HI1 := hide hI1
    clear hI1
    go_wp2_with fail
    refine (HRi.out _ _ HI1.out).mono ?_
    rintro e w2 ⟨rfl, hw2⟩
    have C2 : Hid (Chg [] w w2) := hide (hw1.trans hw2)
    clear hw1 hw2
    cases hf : W.fairT t with
    | false =>
      clear hf
      go_wp2_with fail
      refine (HTb.out _ C2.out).mono ?_
      rintro e w3 ⟨rfl, hw3⟩
      go_wp2_with fail
      refine (awake_any _).mono ?_
      rintro e w4 ⟨rfl, hw4⟩
      go_wp2
      go_ret
      exact ⟨rfl, (C2.out.trans hw3).trans hw4⟩
    | true =>
      have hfw := hfew.out hf
      have HF := hide hf
      clear hf
      go_wp2_with fail
      refine (HTb.out _ C2.out).mono ?_
      rintro e w3 ⟨rfl, hw3⟩
      have C3 : Hid (Chg [] w w3) := hide (C2.out.trans hw3)
      clear hw3
      have f0 := (H0.out _ C3.out).1
      go_wp2
      go_quiet (fail)
      go_wp2
      have C4 : Hid (Chg [] w (w3.drewN nq)) := hide (C3.out.drewN _)
      clear C3 f0
      generalize w3.drewN nq = w4 at C4 ⊢
      go_loop [11, 46] (fun r i => ∃ j : Nat, j ≤ c ∧ i = .int .i64 (j : Int) ∧ r = .int .i64 (pw j : Int)) (fun _ i => c - (intOf i).toNat)
      case atStart => exact ⟨0, Nat.zero_le _, rfl, rfl⟩
      case round =>
        obtain ⟨j, hj, rfl, rfl⟩ := hrel
        have hp6 : pw j ≤ 729 := pow6 (by omega)
        by_cases hlt : j < c
        · have dl : decide ((j : Int) < (c : Int)) = true := by simpa using hlt
          go_wp2
          go_round
          case rel => exact ⟨j + 1, by omega, by go_num, by rw [pw_succ]; go_num⟩
          case measure => simp [intOf]; omega
        · obtain rfl : j = c := by omega
          have dl : decide ((j : Int) < (j : Int)) = false := by simp
          have db : decide ((pw j : Int) - 3 < 2 * (n : Int)) = false := by simp; omega
          obtain ⟨G, hG, hGn⟩ := mod_small a1 n (by omega) (by omega)
          obtain ⟨H, hH, hH2⟩ := mod_small a2 2 (by omega) (by omega)
          rw [show ((2 : Nat) : Int) = 2 from rfl] at hH
          have dz : ((n : Int) == 0) = false := by simp; omega
          obtain ⟨i0, hi, hz0, hz1, hz2⟩ := info_parts infoInt
          have HG := hide hGn
          clear hj hlt
          go_wp2_with (at_make; refine wpList_make_full _ rfl _ _ 51 rfl 0 3 i0 (.int .i64 0) 1 Try.underlying51 hi hz0 hz1 _ _ _ _ j rfl rfl rfl rfl (by rw [hz2]; omega) (by unfold maxLen; omega) (Nat.zero_le _) ?_; intro w5 hown hgrow)
          have T5 := hide (IntTab.made (by simpa using hown))
          have C5 : Hid (Chg [] w w5) := hide (C4.out.grown hgrow (fun k hk => by cases hk))
          have hA : Hid (w.heap.size ≤ w4.heap.size) := hide C4.out.size
          clear hown hgrow hi hz0 hz1 hz2 db dl
          generalize w4.heap.size = A at T5 hA ⊢
          refine (HT1.out _ C5.out).mono ?_
          rintro e w6 ⟨v6, rfl, hI6, hw6⟩
          have hI6 : See2 w6 v6 (W.cut t) := hI6
          rw [HCut.out] at hI6
          have HI6 := hide hI6
          have C6 : Hid (Chg [] w w6) := hide (C5.out.trans hw6)
          have T6 := hide (T5.out.keep hw6 List.not_mem_nil)
          have HZs : Hid ((List.replicate j (0 : Int)).length = j) := hide (by simp)
          have hsee : See w6 (.slice (some ⟨A, 0, none⟩) j j) (List.replicate j (0 : Int)) := T6.out.see (by simp) (fun i hi => by rw [List.getD_eq_getElem?_getD, List.getElem?_replicate, if_pos hi]; rfl)
          have HSee := hide hsee
          clear hI6 hw6 T5 hsee
          go_wp2_with fail
          refine (Clone_any _ (List.replicate j 0) _ HSee.out (by rw [HZs.out]; omega)).mono ?_
          rintro e w7 ⟨u7, rfl, hI7, hw7⟩
          have HI7 := hide hI7
          have HI6' := hide (HI6.out.keep hw7)
          have C7 : Hid (Chg [] w w7) := hide (C6.out.trans hw7)
          have T7 := hide (T6.out.keep hw7 List.not_mem_nil)
          have hrk : Hid (W.rowOk (W.cols t) (List.replicate j (0 : Int)) = true) := hide (W.rowOk_iff.2 ⟨by rw [HZs.out]; exact HCe.out, fun x hx => by rw [List.eq_of_mem_replicate hx]; decide⟩)
          have hz0' : Hid (W.readT t (List.replicate j (0 : Int)) = (-1, 0, 0)) := hide (by
            unfold W.readT
            rw [if_pos HF.out, if_pos]
            unfold W.allZero
            rw [List.all_eq_true]
            intro x hx
            rw [List.eq_of_mem_replicate hx]; rfl)
          clear hI7 hw7 T6 HI6 HSee
          go_wp2_with fail
          refine (HRd.out _ _ _ _ HI6'.out HI7.out.toSee hrk.out).mono ?_
          rw [hz0'.out]
          unfold readV
          simp only []
          rintro e w8 ⟨rfl, hw8⟩
          have C8 : Hid (Chg [] w w8) := hide (C7.out.trans hw8)
          have T8 := hide (T7.out.keep hw8 List.not_mem_nil)
          obtain ⟨ro, rc, hrow⟩ := HC.out G (by rw [← HN.out]; exact hGn)
          have hlen : (t.getD G []).length = j := by rw [HCe.out]; exact tab_row HTab.out (by rw [← HN.out]; exact hGn)
          obtain ⟨row, hrw⟩ : ∃ row, row = t.getD G [] := ⟨_, rfl⟩
          rw [← hrw] at hrow hlen
          rw [hlen] at hrow
          have fr := (hrow _ C8.out).1
          have HRow := hide hrow
          have HRw := hide hrw
          have HLen := hide hlen
          have HSm : Hid (∀ x ∈ row, -1 ≤ x ∧ x ≤ 1) := hide (by rw [hrw]; exact tab_small HTab.out _ (W.row_mem (by rw [← HN.out]; exact hGn)))
          clear hw8 T7 HI6' HI7 hrow hrw hlen
          go_wp2
          obtain ⟨s, hs⟩ : ∃ s : Int, s = 1 - 2 * (H : Int) := ⟨_, rfl⟩
          have hs1 : s = 1 ∨ s = -1 := by omega
          have hsa : -1 ≤ s := by omega
          have hsb : s ≤ 1 := by omega
          rw [← hs]
          have HS1 := hide hs1
          have HFin : Hid (W.readT t (row.map (fun x => x * s)) = ((G : Int), s, 0) ∧ W.rowOk (W.cols t) (row.map (fun x => x * s)) = true) := hide (by
            have hf := W.finds HF.out (i := G) (by rw [← HN.out]; exact HG.out)
            rw [← HRw.out] at hf
            refine ⟨?_, W.rowOk_iff.2 ⟨by rw [List.length_map, HLen.out]; exact HCe.out, fun y hy => ?_⟩⟩
            · rcases hs1 with rfl | rfl
              · have e : row.map (fun x => x * 1) = row := by simp
                rw [e]; exact hf.1
              · have e : row.map (fun x => x * -1) = W.neg row := by unfold W.neg; apply List.map_congr_left; intro x _; omega
                rw [e]; exact hf.2
            · obtain ⟨x, hx, rfl⟩ := List.mem_map.1 hy
              have := HSm.out x hx
              rcases hs1 with rfl | rfl <;> omega)
          clear hs hH hG fr hs1
          go_loopw [94] (fun i wr => ∃ q : Nat, q ≤ j ∧ i = .int .i64 (q : Int) ∧ Hid (IntTab wr A j (fun p => if p < q then row.getD p 0 * s else 0) ∧ Chg [] w wr)) (fun i _ => j - (intOf i).toNat)
          case atStart => exact ⟨0, Nat.zero_le _, rfl, hide ⟨by simpa using T8.out, C8.out⟩⟩
          case round =>
            obtain ⟨q, hq, rfl, hI⟩ := hrel
            by_cases hlq : q < j
            · have d2 : decide ((q : Int) < (j : Int)) = true := by simpa using hlq
              have hrn : row ≠ [] := by intro h; have := HLen.out; rw [h] at this; simp at this; omega
              obtain ⟨ra, rcap, e, hcell⟩ := (HRow.out _ hI.out.2).2.open hrn
              cases e
              have fx := hcell _ (Chg.refl _ _) q (by rw [HLen.out]; exact hlq)
              obtain ⟨x1, x2⟩ := HSm.out _ (getD_mem (i := q) (by rw [HLen.out]; exact hlq))
              obtain ⟨x, hxe⟩ : ∃ x, x = row.getD q 0 := ⟨_, rfl⟩
              rw [← hxe] at fx x1 x2
              have HXE := hide hxe
              have y1 : -1 ≤ x * s := by rcases HS1.out with rfl | rfl <;> omega
              have y2 : x * s ≤ 1 := by rcases HS1.out with rfl | rfl <;> omega
              have fc := hI.out.1.cell hlq
              have ff := hI.out.1.free q
              simp only [Nat.lt_irrefl, if_false] at fc
              clear hcell hxe hrn
              go_wp2
              go_roundw
              case rel => exact ⟨q + 1, by omega, by go_num, hide ⟨hI.out.1.set q (x * s) (fun p hp => by
                by_cases hpq : p = q
                · rw [if_pos hpq, hpq, if_pos (Nat.lt_succ_self q), HXE.out]
                · rw [if_neg hpq]
                  by_cases hlt : p < q
                  · rw [if_pos hlt, if_pos (by omega)]
                  · rw [if_neg hlt, if_neg (by omega)]), hI.out.2.setCell (.inr hA.out) _⟩⟩
              case measure => simp [intOf]; omega
            · have d2 : decide ((q : Int) < (j : Int)) = false := by simpa using hlq
              have hsee : See wr (.slice (some ⟨A, 0, none⟩) j j) (row.map (fun x => x * s)) := hI.out.1.see (by rw [List.length_map, HLen.out]) (fun p hp => by
                rw [if_pos (by omega), List.getD_eq_getElem?_getD, List.getD_eq_getElem?_getD, List.getElem?_map, List.getElem?_eq_getElem (by rw [HLen.out]; exact hp)]
                rfl)
              have HSee := hide hsee
              have CI := hide hI.out.2
              clear hsee
              have e1 : ((G : Int) == (G : Int)) = true := by simp
              have e2 : (s == s) = true := by simp
              go_wp2_with fail
              refine (HT1.out _ CI.out).mono ?_
              rintro e w9 ⟨v9, rfl, hI9, hw9⟩
              have hI9 : See2 w9 v9 (W.cut t) := hI9
              rw [HCut.out] at hI9
              have HI9 := hide hI9
              have C9 : Hid (Chg [] w w9) := hide (CI.out.trans hw9)
              have HSee9 := hide (HSee.out.keep hw9)
              clear hI9 hw9
              go_wp2_with fail
              refine (HRd.out _ _ _ _ HI9.out HSee9.out HFin.out.2).mono ?_
              rw [HFin.out.1]
              unfold readV
              simp only []
              rintro e wa ⟨rfl, hwa⟩
              go_wp2_with fail
              refine (awake_any _).mono ?_
              rintro e wb ⟨rfl, hwb⟩
              go_wp2
              go_ret
              exact ⟨rfl, (C9.out.trans hwa).trans hwb⟩

theorem weighFinds_walk (v0 v1 v2 : Value) (w : World) (h0 : IsRows w v0) (h1 : IsInt v1) (h2 : IsInt v2) : Calls Try.prog 13 #[v0, v1, v2] w (Ret (.bool true) w) := by
  obtain ⟨t, ht, h2', h3⟩ := h0
  obtain ⟨x, rfl, _⟩ := h1
  obtain ⟨y, rfl, _⟩ := h2
  exact walk_finds v0 t x y w ht h2' h3
end Go.Proofs.Ytohdjlgghkcaoaa
