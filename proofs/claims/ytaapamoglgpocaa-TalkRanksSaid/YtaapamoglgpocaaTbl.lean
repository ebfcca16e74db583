/- Walks: the copy of a table; what is a table, the reference's. -/
import Derived.Test.YtaapamoglgpocaaNodes
namespace Go.Proofs.Ytaapamoglgpocaa
open Go.RowKit

theorem see_cut {w : World} {v : Value} {xs : List Int} (h : See w v xs) : ∃ ao cap, v = .slice ao xs.length cap ∧ xs.length ≤ cap ∧ See w (.slice ao (min xs.length 6) cap) (xs.take 6) := by
  obtain ⟨ao, cap, rfl, hcap, hA⟩ := h.len
  refine ⟨ao, cap, rfl, hcap, ?_⟩
  have hlen : (xs.take 6).length = min xs.length 6 := by rw [List.length_take, Nat.min_comm]
  by_cases h : xs = []
  · subst h; exact .inl ⟨rfl, ao, cap, rfl⟩
  · obtain ⟨a, rfl, hb, hc⟩ := hA h
    refine .inr ⟨a, cap, by rw [hlen], by omega, hb, fun i hi => ?_⟩
    rw [hlen] at hi
    rw [hc i (by omega), List.getD_eq_getElem?_getD, List.getD_eq_getElem?_getD, List.getElem?_take, if_pos (by omega)]
theorem bitB_iff {x : Int} : bitB x = true ↔ 0 ≤ x ∧ x ≤ 1 := by unfold bitB; rw [decide_eq_true_iff]; omega

set_option maxRecDepth 100000 in
set_option maxHeartbeats 1000000 in
theorem table_new (v : Value) (t : List (List Int)) (w : World) (hv : See2 w v t) (hl : t.length ≤ 9223372036854775807) :
    Calls Try.prog 18 #[v] w fun e w' => ∃ v', e = .returned v' ∧ Rows2 w' w.heap.size v' (T.cut t) ∧ Chg [] w w' := by
  obtain ⟨i0, hi, hz0, hz1, hz2⟩ := info_parts infoInts
  obtain ⟨ao, cap, rfl, _, hA⟩ := hv
  have kmin := fun w ts t x y => @run_min_2 Try.prog w ts t x y
  have HA := hide hA
  clear hA
  generalize hn : t.length = n at *
  have HN := hide hn
  clear hn
  go_enter Try.func18, Try.ntmps18
  go_wp2
  go_loopw [3, 8] (fun o i wr => ∃ j : Nat, j ≤ n ∧ i = .int .i64 (j : Int) ∧ Hid (Rows2 wr w.heap.size o (((t.take j).take 6).map (·.take 6)) ∧ Chg [] w wr)) (fun _ i _ => (n - (intOf i).toNat))
  case atStart => exact ⟨0, Nat.zero_le _, rfl, hide ⟨Rows2.nil _ _, Chg.refl _ _⟩⟩
  case round =>
    obtain ⟨j, hj, rfl, hI⟩ := hrel
    by_cases hlt : j < n
    · have d1 : decide ((j : Int) < (n : Int)) = true := by simpa using hlt
      have nx : t ≠ [] := fun h => by have := HN.out; rw [h] at this; simp at this; omega
      obtain ⟨a, rfl, ba, ca⟩ := HA.out nx
      obtain ⟨u, hu, hs⟩ := ca j hlt
      obtain ⟨so, scap, rfl, hscap, HSee⟩ := see_cut hs
      have fx := ((hI.out.2.cellA (by rw [add_block]; exact ba) List.not_mem_nil).trans hu)
      obtain ⟨m, hm⟩ : ∃ m : Nat, m = min (t.getD j []).length 6 := ⟨_, rfl⟩
      obtain ⟨L, hL⟩ : ∃ L : Nat, L = (t.getD j []).length := ⟨_, rfl⟩
      rw [← hL] at fx hscap hm
      rw [← hL, ← hm] at HSee
      have him : imin (L : Int) 6 = (m : Int) := by unfold imin; split <;> omega
      have hmc : m ≤ scap := by omega
      have HSx := hide (HSee.keep hI.out.2)
      have hm6 : m ≤ 6 := by omega
      have hlm6 : ((t.getD j []).take 6).length ≤ 1000000 := by rw [List.length_take]; omega
      clear hm hL
      clear ca hu hs nx HSee
      by_cases h16 : j < 6
      · have d2 : decide ((j : Int) < 6) = true := by simp; omega
        go_wp2_with fail
        refine (Clone_any _ _ _ HSx.out hlm6).mono ?_
        rintro e w1 ⟨u', rfl, hI1, hc1⟩
        obtain ⟨bo, bn, bc, rfl⟩ := hI1.shape
        obtain ⟨us, hus, ho, hr⟩ := hI.out.1
        have hlm : (((t.take j).take 6).map (·.take 6)).length = j := by rw [List.length_map, List.length_take, List.length_take, HN.out]; omega
        have ho1 := hc1.row ho (fun _ _ => List.not_mem_nil)
        rw [hlm] at ho1
        have HO := hide ho1
        have HR := hide (And.intro hus (And.intro ho1 (fun i u h => (hr i u h).keep hc1)))
        have HI1 := hide hI1
        have HC1 := hide hc1
        have HLM := hide hlm
        have hsz := hc1.size
        have hsz0 := hI.out.2.size
        clear hI1 hc1 hus ho hr ho1 hlm fx
        go_wp2_with (at_builtin; refine wpList_append_own _ rfl _ _ 22 rfl w.heap.size 38 i0 (.slice none 0 0) 1 24 Try.underlying22 hi hz0 hz1 hz2 rfl (by decide) _ _ _ rfl (HO.out.alloc _) ⟨w1.heap.size, 0, none⟩ 1 1 [.slice bo bn bc] rfl rfl (by intro j u hj; rw [add_zero_row, (Box.new w1 _ _).cell j]; simpa using hj) (by intro x hx; rw [List.mem_singleton] at hx; subst hx; rfl) (by unfold maxLen; omega) (by omega) (by simp; omega) ?_; intro v1 w2 hown1 hgrow1 _)
        go_roundw
        case rel =>
          refine ⟨j + 1, by omega, by go_num, hide ⟨?_, (((hI.out.2.trans HC1.out).alloc _).grew (HO.out.alloc _) (Nat.le_refl _) hgrow1)⟩⟩
          have e : ((t.take (j + 1)).take 6).map (·.take 6) = ((t.take j).take 6).map (·.take 6) ++ [(t.getD j []).take 6] := by
            rw [List.take_take, List.take_take, Nat.min_eq_right (by omega), Nat.min_eq_right (by omega), List.take_add_one, List.map_append, List.getD_eq_getElem?_getD, List.getElem?_eq_getElem (by rw [HN.out]; exact hlt)]
            rfl
          rw [e]
          have hgA : Chg [] w1 (w1.alloc (.cells #[.slice bo bn bc] 38)) := (Chg.refl _ _).alloc _
          exact Rows2.push (us := us) (u := .slice bo bn bc) (w := w1.alloc (.cells #[.slice bo bn bc] 38)) (by rw [HLM.out]; exact HR.out.1.trans HLM.out) (by rw [HLM.out]; exact HO.out.alloc _) (fun i u h => (HR.out.2.2 i u h).keep hgA) (HI1.out.keep hgA) hgrow1 (by rw [HLM.out]; exact hown1)
        case measure => simp [intOf]; omega
      · have d2 : decide ((j : Int) < 6) = false := by simp; omega
        go_wp2
        go_roundw
        case rel => exact ⟨j + 1, by omega, by go_num, hide ⟨by
          have e : (t.take (j + 1)).take 6 = (t.take j).take 6 := by rw [List.take_take, List.take_take, Nat.min_eq_left (by omega), Nat.min_eq_left (by omega)]
          rw [e]; exact hI.out.1, hI.out.2⟩⟩
        case measure => simp [intOf]; omega
    · have d1 : decide ((j : Int) < (n : Int)) = false := by simpa using hlt
      obtain rfl : j = n := by omega
      go_wp2
      go_ret
      refine ⟨_, rfl, ?_, hI.out.2⟩
      have h := hI.out.1
      have e : t.take j = t := List.take_of_length_le (by rw [HN.out]; exact Nat.le_refl _)
      rw [e] at h
      exact h
theorem table_any (v : Value) (t : List (List Int)) (w : World) (hv : See2 w v t) (hl : t.length ≤ 9223372036854775807) :
    Calls Try.prog 18 #[v] w fun e w' => ∃ v', e = .returned v' ∧ See2 w' v' (T.cut t) ∧ Chg [] w w' :=
  (table_new v t w hv hl).mono fun _ _ ⟨v', e, h, hc⟩ => ⟨v', e, h.toSee2, hc⟩

theorem isTab_row {t : List (List Int)} {i : Nat} (hi : i < t.length) (h : T.rowOk (T.cols t) (t.getD i []) = false) : T.isTab t = false := by
  rw [Bool.eq_false_iff]
  intro h'
  have := (T.isTab_iff.1 h').2 _ (T.row_mem hi)
  rw [h] at this; cases this
theorem isTab_of {t : List (List Int)} (h : 1 ≤ t.length ∧ t.length ≤ 4 ∧ 1 ≤ T.cols t ∧ T.cols t ≤ 4) (hr : ∀ i, i < t.length → T.rowOk (T.cols t) (t.getD i []) = true) : T.isTab t = true :=
  T.isTab_iff.2 ⟨h, fun r hm => by
    obtain ⟨i, hi, he⟩ := List.getElem_of_mem hm
    have := hr i hi
    rw [List.getD_eq_getElem?_getD, List.getElem?_eq_getElem hi] at this
    simpa [he] using this⟩
theorem rowOk_not {c : Nat} {r : List Int} {i : Nat} (hi : i < r.length) (h : ¬ (0 ≤ r.getD i 0 ∧ r.getD i 0 ≤ 1)) : T.rowOk c r = false := by
  rw [Bool.eq_false_iff]
  intro h'
  exact h ((T.rowOk_iff.1 h').2 _ (getD_mem hi))
theorem rowOk_of {c : Nat} {r : List Int} (hc : r.length = c) (h : ∀ i, i < r.length → 0 ≤ r.getD i 0 ∧ r.getD i 0 ≤ 1) : T.rowOk c r = true :=
  T.rowOk_iff.2 ⟨hc, fun x hx => by
    obtain ⟨i, hi, he⟩ := List.getElem_of_mem hx
    have := h i hi
    rw [List.getD_eq_getElem?_getD, List.getElem?_eq_getElem hi] at this
    simpa [he] using this⟩
theorem rowOk_len {c : Nat} {r : List Int} (h : r.length ≠ c) : T.rowOk c r = false := by
  rw [Bool.eq_false_iff]
  intro h'
  exact h (T.rowOk_iff.1 h').1

set_option maxRecDepth 100000 in
set_option maxHeartbeats 1000000 in
theorem Table_bad (v : Value) (t : List (List Int)) (w : World) (hv : See2 w v t) (hbad : ¬ (1 ≤ t.length ∧ t.length ≤ 4 ∧ 1 ≤ T.cols t ∧ T.cols t ≤ 4)) :
    Calls Try.prog 19 #[v] w (Ret (.bool false) w) := by
  obtain ⟨ao, cap, rfl⟩ := hv.shape
  by_cases h1 : t.length < 1
  · have d1 : decide ((t.length : Int) < 1) = true := by simp; omega
    clear hv hbad
    generalize t.length = n at *
    go_enter Try.func19, Try.ntmps19
    go_wp2
    go_ret
    exact ⟨rfl, Chg.refl _ _⟩
  · have d1 : decide ((t.length : Int) < 1) = false := by simp; omega
    by_cases h2 : 4 < t.length
    · have d2 : decide ((4 : Int) < (t.length : Int)) = true := by simp; omega
      clear hv hbad
      generalize t.length = n at *
      go_enter Try.func19, Try.ntmps19
      go_wp2
      go_ret
      exact ⟨rfl, Chg.refl _ _⟩
    · have d2 : decide ((4 : Int) < (t.length : Int)) = false := by simp; omega
      have hne : t ≠ [] := by rintro rfl; simp at h1
      obtain ⟨a, cap', e, _, hc⟩ := hv.open hne
      cases e
      obtain ⟨bo, bc, h0⟩ := hc 0 (by omega)
      have f0 := (h0 _ (Chg.refl [] w)).1
      rw [add_nought, row0] at f0
      by_cases h3 : T.cols t < 1
      · have d3 : decide ((T.cols t : Int) < 1) = true := by simp; omega
        clear hv hc h0 hne hbad
        generalize T.cols t = c at *
        generalize t.length = n at *
        go_enter Try.func19, Try.ntmps19
        go_wp2
        go_ret
        exact ⟨rfl, Chg.refl _ _⟩
      · have d3 : decide ((T.cols t : Int) < 1) = false := by simp; omega
        have h4 : 4 < T.cols t := by omega
        have d4 : decide ((4 : Int) < (T.cols t : Int)) = true := by simp; omega
        clear hv hc h0 hne hbad
        generalize T.cols t = c at *
        generalize t.length = n at *
        go_enter Try.func19, Try.ntmps19
        go_wp2
        go_ret
        exact ⟨rfl, Chg.refl _ _⟩

set_option maxRecDepth 100000 in
set_option maxHeartbeats 1000000 in
theorem Table_good (v : Value) (t : List (List Int)) (w : World) (hv : See2 w v t) (hl : ∀ r ∈ t, r.length ≤ 9223372036854775807) (hok : 1 ≤ t.length ∧ t.length ≤ 4 ∧ 1 ≤ T.cols t ∧ T.cols t ≤ 4) :
    Calls Try.prog 19 #[v] w (Ret (.bool (T.isTab t)) w) := by
  have HOk := hide hok
  obtain ⟨t1, t2, t3, t4⟩ := hok
  have hne : t ≠ [] := by rintro rfl; simp at t1
  obtain ⟨a, cap, rfl, _, hc⟩ := hv.open hne
  obtain ⟨bo, bc, h0⟩ := hc 0 (by omega)
  have d1 : decide ((t.length : Int) < 1) = false := by simp; omega
  have d2 : decide ((4 : Int) < (t.length : Int)) = false := by simp; omega
  have d3 : decide ((T.cols t : Int) < 1) = false := by simp; omega
  have d4 : decide ((4 : Int) < (T.cols t : Int)) = false := by simp; omega
  rw [add_nought, row0] at h0
  have f0 := (h0 w (Chg.refl _ _)).1
  have H0 := hide h0
  have HC := hide hc
  have HLn := hide hl
  clear hc h0 hv hne hl
  obtain ⟨c, hce⟩ : ∃ c, c = T.cols t := ⟨_, rfl⟩
  rw [← hce] at f0 t3 t4 d3 d4 H0
  have HCe := hide hce
  obtain ⟨n, hn⟩ : ∃ n, n = t.length := ⟨_, rfl⟩
  rw [← hn] at t1 t2 d1 d2 ⊢
  have HN := hide hn
  clear hce hn
  go_enter Try.func19, Try.ntmps19
  go_wp2
  go_loopw [31] (fun i wr => ∃ j : Nat, j ≤ n ∧ i = .int .i64 (j : Int) ∧ Hid ((∀ q, q < j → T.rowOk c (t.getD q []) = true) ∧ Chg [] w wr)) (fun i _ => (n - (intOf i).toNat))
  case atStart => exact ⟨0, Nat.zero_le _, rfl, hide ⟨fun q h => by omega, Chg.refl _ _⟩⟩
  case round =>
    obtain ⟨j, hj, rfl, hI⟩ := hrel
    by_cases hlt : j < n
    · have e1 : decide ((j : Int) < (n : Int)) = true := by simpa using hlt
      have hjn : j < t.length := by rw [← HN.out]; exact hlt
      obtain ⟨ro, rc, hrow⟩ := HC.out j hjn
      obtain ⟨fr, hs⟩ := hrow wr hI.out.2
      have hlm := HLn.out _ (T.row_mem hjn)
      have HJn := hide hjn
      obtain ⟨L, hL⟩ : ∃ L, L = (t.getD j []).length := ⟨_, rfl⟩
      rw [← hL] at fr hs hrow hlm
      have HLe := hide hL
      have HS := hide hs
      clear hrow hs hjn hL f0
      have f1 := (H0.out _ hI.out.2).1
      by_cases hlc : L ≠ c
      · have e3 : ((L : Int) != (c : Int)) = true := by simp; omega
        have E : Hid (T.isTab t = false) := hide (isTab_row HJn.out (by rw [← HCe.out]; exact rowOk_len (by rw [← HLe.out]; exact hlc)))
        go_wp2
        go_ret
        exact ⟨by rw [E.out]; rfl, hI.out.2⟩
      have e3 : ((L : Int) != (c : Int)) = false := by simp; omega
      have HLc := hide (Classical.not_not.1 hlc)
      clear hlc
      go_wp2
      go_loopw [44] (fun i ws => ∃ q : Nat, q ≤ L ∧ i = .int .i64 (q : Int) ∧ Hid ((∀ p, p < q → 0 ≤ (t.getD j []).getD p 0 ∧ (t.getD j []).getD p 0 ≤ 1) ∧ Chg [] wr ws)) (fun i _ => (L - (intOf i).toNat))
      case atStart => exact ⟨0, Nat.zero_le _, rfl, hide ⟨fun q h => by omega, Chg.refl _ _⟩⟩
      case round =>
        obtain ⟨q, hq, rfl, hJ⟩ := hrel
        by_cases hlq : q < L
        · have e2 : decide ((q : Int) < (L : Int)) = true := by simpa using hlq
          have hrn : t.getD j [] ≠ [] := by intro h; have := HLe.out; rw [h] at this; simp at this; omega
          obtain ⟨ra, rcap, e, hcell⟩ := HS.out.open hrn
          rw [← HLe.out] at e
          cases e
          have fx := hcell _ hJ.out.2 q (by rw [← HLe.out]; exact hlq)
          obtain ⟨x, hxe⟩ : ∃ x, x = (t.getD j []).getD q 0 := ⟨_, rfl⟩
          rw [← hxe] at fx
          have HXE := hide hxe
          clear hcell hrn hxe
          cases hbt : bitB x with
          | false =>
            have E : Hid (T.isTab t = false) := hide (isTab_row HJn.out (rowOk_not (i := q) (by rw [← HLe.out]; exact hlq) (by rw [← HXE.out]; have := bitB_iff (x := x); rw [hbt] at this; simp at this; omega)))
            go_wp2_with fail
            refine (bit_any _ _).mono ?_
            rintro e wb ⟨rfl, hwb⟩
            rw [hbt]
            go_wp2
            go_ret
            exact ⟨by rw [E.out]; rfl, (hI.out.2.trans hJ.out.2).trans hwb⟩
          | true =>
            have HX := hide (bitB_iff.1 hbt)
            go_wp2_with fail
            refine (bit_any _ _).mono ?_
            rintro e wb ⟨rfl, hwb⟩
            rw [hbt]
            have HWb := hide hwb
            clear hwb
            go_wp2
            go_roundw
            case rel => exact ⟨q + 1, by omega, by go_num, hide ⟨fun p hp => by
              rcases (show p < q ∨ p = q by omega) with h | rfl
              · exact hJ.out.1 p h
              · rw [← HXE.out]; have := HX.out; omega, hJ.out.2.trans HWb.out⟩⟩
            case measure => simp [intOf]; omega
        · have e2 : decide ((q : Int) < (L : Int)) = false := by simpa using hlq
          obtain rfl : q = L := by omega
          go_wp2
          go_roundw
          case rel => exact ⟨j + 1, by omega, by go_num, hide ⟨fun p hp => by
            rcases (show p < j ∨ p = j by omega) with h | rfl
            · exact hI.out.1 p h
            · exact rowOk_of (HLe.out.symm.trans HLc.out) (by rw [← HLe.out]; exact hJ.out.1), hI.out.2.trans hJ.out.2⟩⟩
          case measure => simp [intOf]; omega
    · have e1 : decide ((j : Int) < (n : Int)) = false := by simpa using hlt
      have E : Hid (T.isTab t = true) := hide (isTab_of HOk.out fun i hi => by rw [← HCe.out]; exact hI.out.1 i (by rw [← HN.out] at hi; omega))
      go_wp2
      go_ret
      exact ⟨by rw [E.out]; rfl, hI.out.2⟩

theorem Table_any (v : Value) (t : List (List Int)) (w : World) (hv : See2 w v t) (hl : ∀ r ∈ t, r.length ≤ 9223372036854775807) :
    Calls Try.prog 19 #[v] w (Ret (.bool (T.isTab t)) w) := by
  by_cases h : 1 ≤ t.length ∧ t.length ≤ 4 ∧ 1 ≤ T.cols t ∧ T.cols t ≤ 4
  · exact Table_good v t w hv hl h
  · rw [T.isTab_false h]
    exact Table_bad v t w hv h

end Go.Proofs.Ytaapamoglgpocaa
