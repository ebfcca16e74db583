/- Walk: Cover. -/
import Derived.Test.YtaapamoglgpocaaCo2
import Derived.Test.YtaapamoglgpocaaCoP
import Derived.Laws.EntriesVeiled
namespace Go.Proofs.Ytaapamoglgpocaa
open Go.RowKit

theorem grow_every (W0 : World) (B : CB) (sv : Value) (S : List (Nat × Nat)) (hf : CvFix W0 B sv S) : ∀ N, GrowC W0 B S N
  | 0 => fun _ _ _ _ _ _ h => absurd h (Nat.not_lt_zero _)
  | N + 1 => grow_step W0 B sv S N hf (grow_every W0 B sv S hf N)

set_option maxRecDepth 100000 in
set_option maxHeartbeats 1000000 in
theorem Cover_bad (vt : Value) (t : List (List Int)) (v : Int) (w : World) (hv : See2 w vt t) (hl : ∀ r ∈ t, r.length ≤ 1000000) (htl : t.length ≤ 1000000) (hb : (T.isTab t && decide (v = 0 ∨ v = 1)) = false) :
    Calls Try.prog 49 #[vt, .int .i64 v] w (Ret (.tuple #[.slice none 0 0, .int .i64 2]) w) := by
  have HIV := hide (isValue_any vt t v w hv hl htl)
  rw [hb] at HIV
  obtain ⟨ao, cap, rfl⟩ := hv.shape
  clear hv hl htl hb
  generalize t.length = n at *
  go_enter Try.func49, Try.ntmps49
  go_wp2_with fail
  refine HIV.out.mono ?_
  rintro e w1 ⟨rfl, hw1⟩
  go_wp2
  go_ret2
  exact ⟨rfl, hw1⟩

set_option maxRecDepth 100000 in
set_option maxHeartbeats 4000000 in
theorem Cover_good (vt : Value) (t : List (List Int)) (v : Int) (w : World) (hv : See2 w vt t) (hl : ∀ r ∈ t, r.length ≤ 1000000) (htl : t.length ≤ 1000000) (ht : T.isTab t = true) (hv01 : v = 0 ∨ v = 1) :
    Calls Try.prog 49 #[vt, .int .i64 v] w fun e w' => ∃ (v' : Value) (l : List (Nat × Nat)), e = .returned (.tuple #[v', .int .i64 0]) ∧ w'.ownsRow w.heap.size 60 2 v' (l.map toP).length (flatP (l.map toP)) ∧ Chg [] w w' ∧
      covB t v (l.map toP) = true ∧ l.length = fewN (setsN t v) false (entN t v) ∧ ∀ x ∈ l, x ∈ allG t v := by
  obtain ⟨i0, hi', hz0, hz1, hz2⟩ := info_parts infoPair
  have HIV := hide (isValue_any vt t v w hv hl htl)
  rw [ht, decide_eq_true hv01] at HIV
  have HGr := hide fun ws (hw : Chg [] w ws) => greatest_any vt t v ws (hv.keep hw) ht
  have HEn := hide fun ws (hw : Chg [] w ws) => entries_any vt t v ws (hv.keep hw) ht
  have HFin := hide (fun s l => @cov_fin t ht v s l)
  have HSome := hide (fun s => @cov_some t ht v s)
  have HFew : Hid (∀ x ∈ topG t v, x.1 < 16 ∧ x.2 < 16) := hide fun x hx => allG_small ht (topG_sub hx)
  have HLen : Hid ((topG t v).length ≤ 256) := hide (Nat.le_trans (List.length_filter_le _ _) (allG_len ht v))
  have HIn : Hid (∀ x ∈ ents t v, ∃ i j : Nat, i < 4 ∧ j < 4 ∧ x = ((i : Int), (j : Int))) := hide fun x hx => by
    obtain ⟨i, j, h1, h2, h3, _⟩ := ents_form ht hx
    exact ⟨i, j, h1, h2, h3⟩
  have HE16 := hide (ents_len ht v)
  have hK17 := fewN_le (setsN t v) false (entN t v)
  obtain ⟨ao, cap, rfl⟩ := hv.shape
  clear hv hl htl ht hv01
  generalize fewN (setsN t v) false (entN t v) = K at *
  generalize topG t v = S at *
  generalize ents t v = es at *
  generalize t.length = tl at *
  go_enter Try.func49, Try.ntmps49
  go_wp2_with fail
  refine HIV.out.mono ?_
  rintro e w1 ⟨rfl, hw1⟩
  have C1 := hide hw1
  clear hw1 HIV
  go_wp2_with fail
  refine (HGr.out _ C1.out).mono ?_
  rintro e w2 ⟨sv, rfl, hsr, hw2⟩
  have C2 := hide (C1.out.trans hw2)
  have HSr := hide hsr
  obtain ⟨so, sc, hsv, _⟩ := row_shape hsr
  subst hsv
  clear hw2 C1 hsr
  have hb1 := Box.new w2 #[.slice so S.length sc] 111
  have hc1 := (Chg.refl [] w2).alloc (.cells #[.slice so S.length sc] 111)
  have hz1' : (w2.alloc (.cells #[.slice so S.length sc] 111)).heap.size = w2.heap.size + 1 := by simp
  generalize hW1 : w2.alloc (.cells #[.slice so S.length sc] 111) = W1 at hb1 hc1 hz1'
  have hb2 := Box.at W1 #[.slice none 0 0] 111 hz1'.symm
  have hc2 := (Chg.refl [] W1).alloc (.cells #[.slice none 0 0] 111)
  have hz2' : (W1.alloc (.cells #[.slice none 0 0] 111)).heap.size = w2.heap.size + 1 + 1 := by simp [hz1']
  generalize hW2 : W1.alloc (.cells #[.slice none 0 0] 111) = W2 at hb2 hc2 hz2'
  have hb3 := Box.at W2 #[.nilFunc] 113 hz2'.symm
  have hc3 := (Chg.refl [] W2).alloc (.cells #[.nilFunc] 113)
  have hz3' : (W2.alloc (.cells #[.nilFunc] 113)).heap.size = w2.heap.size + 1 + 1 + 1 := by simp [hz2']
  generalize hW3 : W2.alloc (.cells #[.nilFunc] 113) = W3 at hb3 hc3 hz3'
  have f3 := hb3.cell 0
  have r3 := hb3.free 0
  have l3 := hb3.lt
  simp only [List.getElem?_toArray, List.getElem?_cons_zero] at f3
  have HB1 := hide (hb1.keep (hc2.trans hc3) List.not_mem_nil)
  have HB2 := hide (hb2.keep hc3 List.not_mem_nil)
  have HB3 := hide hb3
  have HC3 := hide ((hc1.trans hc2).trans hc3)
  have e1 : W1.heap.size = w2.heap.size + 1 := hz1'
  have e2 : W2.heap.size = w2.heap.size + 1 + 1 := hz2'
  clear hb1 hc1 hb2 hc2 hb3 hc3 hz1' hz2'
  go_wp2
  clear f3 r3 l3 hW1 hW2 hW3 e1 e2
  have hC3 := HC3.out
  have hsrow : W3.ownsRow w1.heap.size 75 2 (.slice so S.length sc) S.length (flatP (S.map toP)) := hC3.row HSr.out (fun _ _ => List.not_mem_nil)
  have hZw : w2.heap.size < W3.heap.size ∧ w2.heap.size + 1 < W3.heap.size ∧ w2.heap.size + 1 + 1 < W3.heap.size := ⟨HB1.out.lt, HB2.out.lt, HB3.out.lt⟩
  obtain ⟨Z, hZ⟩ : ∃ Z, Z = w2.heap.size := ⟨_, rfl⟩
  rw [← hZ] at HB1 HB2 HB3 hZw ⊢
  obtain ⟨fv, hfv⟩ : ∃ fv, fv = Value.func (.func 87) #[] #[.pointer (some ⟨Z, 0, none⟩), .pointer (some ⟨Z + 1, 0, none⟩), .pointer (some ⟨Z + 1 + 1, 0, none⟩)] := ⟨_, rfl⟩
  have hcs := Chg.set W3 ⟨Z + 1 + 1, 0, none⟩ fv
  have hlow : ∀ g, (Value.slice so S.length sc).ownBlock = some g → g < Z := fun g hg => by rw [hZ]; exact (HSr.out.lt g hg).2
  have hsz0 := hcs.size
  have HW0 : Hid (CvFix (W3.setCell ⟨Z + 1 + 1, 0, none⟩ fv) ⟨Z, Z + 1, Z + 1 + 1⟩ (.slice so S.length sc) S) := hide
    ⟨HB1.out.set' (by simp; omega) _, by have := HB3.out.set1 fv; rw [hfv] at this ⊢; exact this, fun ws hws => by
      refine rects_see (base := w1.heap.size) (T := 75) ?_
      rw [List.length_map]
      exact hws.row (hcs.row hsrow (fun g hg hm => by
        have h1 := hlow g hg
        have h2 : g = Z + 1 + 1 := List.mem_singleton.1 hm
        omega)) (fun g hg hm => by
        have h1 := hlow g hg
        have h2 : g = Z + 1 := List.mem_singleton.1 hm
        omega), HFew.out, HLen.out, ⟨by simp, by simp⟩, by show Z + 1 < _; omega⟩
  have HSt0 : Hid (CvSt (W3.setCell ⟨Z + 1 + 1, 0, none⟩ fv) ⟨Z, Z + 1, Z + 1 + 1⟩ (W3.setCell ⟨Z + 1 + 1, 0, none⟩ fv) (.slice none 0 0) []) := hide ⟨HB2.out.set' (by simp) _, World.ownsRow_nil _ _ _ _, Chg.refl _ _⟩
  have HCw : Hid (Chg [] w (W3.setCell ⟨Z + 1 + 1, 0, none⟩ fv)) := hide ((C2.out.trans hC3).setCell (.inr (by have := C2.out.size; show _ ≤ Z + 1 + 1; omega)) _)
  have HZ := hide (show w.heap.size ≤ Z by rw [hZ]; exact C2.out.size)
  rw [← hfv]
  have HFv := hide hfv
  have HGA := hide (grow_every _ _ _ _ HW0.out)
  have HL0 : Hid (Z + 1 < (W3.setCell ⟨Z + 1 + 1, 0, none⟩ fv).heap.size) := hide (by omega)
  clear hfv hcs hlow hC3 hsrow hZw hZ hsz0 HB1 HB2 HB3 HC3 HSr C2
  generalize W3.setCell ⟨Z + 1 + 1, 0, none⟩ fv = W0 at *
  go_loopw [10] (fun kv wr => ∃ k : Nat, k ≤ K ∧ kv = .int .i64 (k : Int) ∧ Hid (∃ ov, CvSt W0 ⟨Z, Z + 1, Z + 1 + 1⟩ wr ov [])) (fun kv _ => (K + 1 - (intOf kv).toNat))
  case atStart => exact ⟨0, by omega, rfl, hide ⟨_, HSt0.out⟩⟩
  case round =>
    obtain ⟨k, hk, rfl, hI⟩ := hrel
    obtain ⟨ov, hst⟩ := hI.out
    have HSt := hide hst
    have HCr : Hid (Chg [] w wr) := hide (HCw.out.trans' hst.ch (fun y hy => .inr (by
      have h1 := HZ.out
      have h2 : y = Z + 1 := List.mem_singleton.1 hy
      omega)))
    clear hst hI HSt0
    have hbg := (HW0.out.at HSt.out.ch).2
    have HBg := hide hbg
    have fgd := (hbg.keep ((Chg.refl [] wr).drew) List.not_mem_nil).cell 0
    have lgd := (hbg.keep ((Chg.refl [] wr).drew) List.not_mem_nil).lt
    simp only [List.getElem?_toArray, List.getElem?_cons_zero] at fgd
    have HCall := hide (fun (lv : Value) (w6 : World) (h6 : CvSt W0 ⟨Z, Z + 1, Z + 1 + 1⟩ w6 ov []) (hr6 : w6.ownsRow W0.heap.size 60 2 lv es.length (flatP es)) => HGA.out (K + 1) k es lv w6 ov [] (by omega) (by simp; omega) HE16.out h6 hr6 HIn.out)
    clear hbg
    go_wp2_with fail
    go_region_with ((first | (go_at_call 68; refine (HEn.out _ (HCr.out.trans (by (repeat' (first | with_reducible exact Chg.refl _ _ | with_reducible assumption | with_reducible apply Chg.drewN | with_reducible apply Chg.drew | with_reducible apply Chg.alloc | (with_reducible refine Chg.setCell ?_ (Or.inr ?_) _) | (with_reducible refine Chg.trans ?_ (by assumption)) | (simp; done) | (simp; omega)))))).mono ?_; rintro e w6 ⟨v6, rfl, hI6, hw6⟩; have k6 : Chg [] wr w6 := (by (repeat' (first | with_reducible exact Chg.refl _ _ | with_reducible assumption | with_reducible apply Chg.drewN | with_reducible apply Chg.drew | with_reducible apply Chg.alloc | (with_reducible refine Chg.setCell ?_ (Or.inr ?_) _) | (with_reducible refine Chg.trans ?_ (by assumption)) | (simp; done) | (simp; omega)))); have fg6 := (HBg.out.keep k6 List.not_mem_nil).cell 0; have lg6 := (HBg.out.keep k6 List.not_mem_nil).lt; simp only [List.getElem?_toArray, List.getElem?_cons_zero] at fg6; obtain ⟨o6, p6, rfl, _⟩ := row_shape hI6; dsimp only) | (go_at_call 87; refine (HCall.out _ w6 (HSt.out.keep k6) (row_low hI6 (Nat.le_trans HSt.out.ch.size ((Chg.refl [] wr).drew).size))).mono ?_; rintro e w8 ⟨ov8, rfl, hst8, _⟩; dsimp only)))
    all_goals (
      have HS8 := hide hst8
      have HC8 : Hid (Chg [] w w8) := hide (HCw.out.trans' hst8.ch (fun y hy => .inr (by
        have h1 := HZ.out
        have h2 : y = Z + 1 := List.mem_singleton.1 hy
        omega)))
      have HK2 := hide hk
      clear hI6 hw6 k6 fg6 lg6 hst8 HCall HBg fgd lgd HSt HCr
      cases hc : covM S k es with
      | none =>
        have hkK : k < K := by
          rcases Nat.lt_or_ge k K with h | h
          · exact h
          · have := HSome.out k h
            rw [hc] at this
            cases this
        rw [hc, Option.getD_none, List.append_nil] at HS8
        clear hc
        go_wp2
        go_roundw
        case rel => exact ⟨k + 1, hkK, by go_num, hide ⟨ov8, HS8.out⟩⟩
        case measure => simp [intOf]; omega
      | some l =>
        obtain ⟨q1, q2, q3⟩ := HFin.out k l HK2.out hc
        rw [hc, Option.getD_some, List.nil_append] at HS8
        have HQ := hide (And.intro q1 (And.intro q2 q3))
        have hlK : l.length ≤ 17 := by omega
        have hsee := rects_see (by rw [List.length_map]; exact HS8.out.row)
        obtain ⟨oo, oc, hov, hoc⟩ := row_shape HS8.out.row
        subst hov
        have HSee := hide hsee
        have c8 := HS8.out.bo.cell 0
        have l8 := HS8.out.bo.lt
        simp only [List.getElem?_toArray, List.getElem?_cons_zero] at c8
        clear hc q1 q2 q3 hsee HS8
        obtain ⟨n, hn⟩ : ∃ n, n = l.length := ⟨_, rfl⟩
        rw [← hn] at hlK HSee c8 hoc
        have HN := hide hn
        clear hn
        go_wp2
        go_loopw [11, 34] (fun pv iv wr => ∃ q : Nat, q ≤ n ∧ iv = .int .i64 (q : Int) ∧ Hid (wr.ownsRow w8.heap.size 60 2 pv ((l.take q).map toP).length (flatP ((l.take q).map toP)) ∧ Chg [] w8 wr)) (fun _ iv _ => (n - (intOf iv).toNat))
        case atStart => exact ⟨0, by omega, rfl, hide ⟨World.ownsRow_nil _ _ _ _, Chg.refl _ _⟩⟩
        case round =>
          obtain ⟨q, hq, rfl, hI⟩ := hrel
          by_cases hlt : q < n
          · have d1 : decide ((q : Int) < (n : Int)) = true := by simpa using hlt
            have hlk : q < (l.map toP).length := by rw [List.length_map, ← HN.out]; exact hlt
            have nx : l.map toP ≠ [] := fun h => by rw [h] at hlk; exact absurd hlk (Nat.not_lt_zero _)
            obtain ⟨a, cap', e, _, hc⟩ := HSee.out.open nx
            rw [List.length_map, ← HN.out] at e
            obtain ⟨rfl, rfl⟩ : oo = some a ∧ oc = cap' := by simpa using e
            obtain ⟨fx, fy⟩ := hc wr hI.out.2 q hlk
            have htk : (l.take (q + 1)).map toP = (l.take q).map toP ++ [(l.map toP).getD q pr0] := by
              rw [List.map_take, List.map_take, takeP_snoc hlk]
            have HTk := hide htk
            obtain ⟨x, hx⟩ : ∃ x, x = (l.map toP).getD q pr0 := ⟨_, rfl⟩
            rw [← hx] at fx fy HTk
            have j0 : (0 : Int) ≤ (q : Int) := by omega
            have j1 : (q : Int) < (n : Int) := by omega
            have hlen : ((l.take q).map toP).length ≤ 17 := by
              rw [List.length_map, List.length_take]; omega
            obtain ⟨po, pc, rfl, _⟩ := row_shape hI.out.1
            have HOw := hide hI.out.1
            have HCq := hide hI.out.2
            have hzq := HCq.out.size
            have HBx := hide (Box.new wr (prCells x) 75)
            have HCx := hide ((Chg.refl [] wr).alloc (.cells (prCells x) 75))
            unfold prCells at HBx HCx
            generalize (l.take q).map toP = L at *
            clear nx hc e htk hx hlk hI c8 l8
            go_wp2_with (at_builtin; refine wpList_append_own _ rfl _ _ 46 rfl w8.heap.size 60 i0 (.agg #[.int .i64 0, .int .i64 0]) 2 16 Try.underlying46 hi' hz0 hz1 hz2 rfl (by decide) _ _ _ rfl ((HOw.out.alloc _).alloc _) ⟨wr.heap.size + 1, 0, none⟩ 1 1 (prCells x).toList rfl rfl (pr_news _ x _ (by simp)) (pr_one x) (by unfold maxLen; omega) (by omega) (by simp; omega) ?_; intro v1 w4 hown1 hgrow1 _)
            go_roundw
            case rel =>
              refine ⟨q + 1, by omega, by go_num, hide ⟨?_, chg_grown ((HCq.out.alloc _).alloc _) ((HOw.out.alloc _).alloc _) (Nat.le_refl _) hgrow1⟩⟩
              rw [HTk.out, List.length_append, flatP_snoc]
              exact hown1
            case measure => simp [intOf]; omega
          · have d1 : decide ((q : Int) < (n : Int)) = false := by simpa using hlt
            obtain rfl : q = n := by omega
            have HM : Hid (l.take q = l) := hide (by rw [HN.out, List.take_length])
            rw [HM.out] at hI
            obtain ⟨po, pc, rfl, _⟩ := row_shape hI.out.1
            clear c8 l8
            go_wp2
            go_ret2
            exact ⟨_, l, rfl, row_low hI.out.1 HC8.out.size, HC8.out.trans hI.out.2, HQ.out.1, HQ.out.2.1, HQ.out.2.2⟩)
end Go.Proofs.Ytaapamoglgpocaa
