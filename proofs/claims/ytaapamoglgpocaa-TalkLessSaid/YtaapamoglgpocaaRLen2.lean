/- Walks: the copy of a table; what is a table, the reference's. -/
import Derived.Test.YtaapamoglgpocaaNodes2
import Derived.Test.YtaapamoglgpocaaTPlain2
import Derived.Test.YtaapamoglgpocaaBy
import Derived.Test.YtaapamoglgpocaaLen3
import Derived.StillTailTactics
namespace Go.Proofs.Ytaapamoglgpocaa
open Go.RowKit

theorem see_cut {w : World} {v : Value} {xs : List Int} (h : See w v xs) : ∃ ao cap, v = .slice ao xs.length cap ∧ xs.length ≤ cap ∧ See w (.slice ao (min xs.length 6) cap) (xs.take 6) := by
  obtain ⟨ao, cap, rfl, hcap, hA⟩ := h.len
  refine ⟨ao, cap, rfl, hcap, ?_⟩
  have hlen : (xs.take 6).length = min xs.length 6 := by rw [List.length_take, Nat.min_comm]
  by_cases h : xs = []
  · subst h; exact .inl ⟨rfl, ao, cap, rfl⟩
  · obtain ⟨a, rfl, hb, hc⟩ := hA h
    refine .inr ⟨a, cap, by rw [hlen], by omega, hb, fun i hi => ?_⟩
    rw [hlen] at hi
    rw [hc i (by omega), List.getD_eq_getElem?_getD, List.getD_eq_getElem?_getD, List.getElem?_take, if_pos (by omega)]
theorem bitB_iff {x : Int} : bitB x = true ↔ 0 ≤ x ∧ x ≤ 1 := by unfold bitB; rw [decide_eq_true_iff]; omega

set_option maxRecDepth 100000 in
set_option maxHeartbeats 1000000 in
theorem table_new (v : Value) (t : List (List Int)) (w : World) (hv : See2 w v t) (hl : t.length ≤ 9223372036854775807) :
    Calls Try.prog 18 #[v] w fun e w' => ∃ v', e = .returned v' ∧ Rows2 w' w.heap.size v' (T.cut t) ∧ Chg [] w w' := by
  obtain ⟨i0, hi, hz0, hz1, hz2⟩ := info_parts infoInts
  obtain ⟨ao, cap, rfl, _, hA⟩ := hv
  have kmin := fun w ts t x y => @run_min_2 Try.prog w ts t x y
  have HA := hide hA
  clear hA
  generalize hn : t.length = n at *
  have HN := hide hn
  clear hn
  go_enter Try.func18, Try.ntmps18
  go_wp2
  go_loopw [3, 8] (fun o i wr => ∃ j : Nat, j ≤ n ∧ i = .int .i64 (j : Int) ∧ Hid (Rows2 wr w.heap.size o (((t.take j).take 6).map (·.take 6)) ∧ Chg [] w wr)) (fun _ i _ => (n - (intOf i).toNat))
  case atStart => exact ⟨0, Nat.zero_le _, rfl, hide ⟨Rows2.nil _ _, Chg.refl _ _⟩⟩
  case round =>
    obtain ⟨j, hj, rfl, hI⟩ := hrel
    by_cases hlt : j < n
    · have d1 : decide ((j : Int) < (n : Int)) = true := by simpa using hlt
      have nx : t ≠ [] := fun h => by have := HN.out; rw [h] at this; simp at this; omega
      obtain ⟨a, rfl, ba, ca⟩ := HA.out nx
      obtain ⟨u, hu, hs⟩ := ca j hlt
      obtain ⟨so, scap, rfl, hscap, HSee⟩ := see_cut hs
      have fx := ((hI.out.2.cellA (by rw [add_block]; exact ba) List.not_mem_nil).trans hu)
      obtain ⟨m, hm⟩ : ∃ m : Nat, m = min (t.getD j []).length 6 := ⟨_, rfl⟩
      obtain ⟨L, hL⟩ : ∃ L : Nat, L = (t.getD j []).length := ⟨_, rfl⟩
      rw [← hL] at fx hscap hm
      rw [← hL, ← hm] at HSee
      have him : imin (L : Int) 6 = (m : Int) := by unfold imin; split <;> omega
      have hmc : m ≤ scap := by omega
      have HSx := hide (HSee.keep hI.out.2)
      have hm6 : m ≤ 6 := by omega
      have hlm6 : ((t.getD j []).take 6).length ≤ 1000000 := by rw [List.length_take]; omega
      clear hm hL
      clear ca hu hs nx HSee
      by_cases h16 : j < 6
      · have d2 : decide ((j : Int) < 6) = true := by simp; omega
        go_wp2_with fail
        refine (Clone_any _ _ _ HSx.out hlm6).mono ?_
        rintro e w1 ⟨u', rfl, hI1, hc1⟩
        obtain ⟨bo, bn, bc, rfl⟩ := hI1.shape
        obtain ⟨us, hus, ho, hr⟩ := hI.out.1
        have hlm : (((t.take j).take 6).map (·.take 6)).length = j := by rw [List.length_map, List.length_take, List.length_take, HN.out]; omega
        have ho1 := hc1.row ho (fun _ _ => List.not_mem_nil)
        rw [hlm] at ho1
        have HO := hide ho1
        have HR := hide (And.intro hus (And.intro ho1 (fun i u h => (hr i u h).keep hc1)))
        have HI1 := hide hI1
        have HC1 := hide hc1
        have HLM := hide hlm
        have hsz := hc1.size
        have hsz0 := hI.out.2.size
        clear hI1 hc1 hus ho hr ho1 hlm fx
        go_wp2_with (at_builtin; refine wpList_append_own _ rfl _ _ 22 rfl w.heap.size 38 i0 (.slice none 0 0) 1 24 Try.underlying22 hi hz0 hz1 hz2 rfl (by decide) _ _ _ rfl (HO.out.alloc _) ⟨w1.heap.size, 0, none⟩ 1 1 [.slice bo bn bc] rfl rfl (by intro j u hj; rw [add_zero_row, (Box.new w1 _ _).cell j]; simpa using hj) (by intro x hx; rw [List.mem_singleton] at hx; subst hx; rfl) (by unfold maxLen; omega) (by omega) (by simp; omega) ?_; intro v1 w2 hown1 hgrow1 _)
        go_roundw
        case rel =>
          refine ⟨j + 1, by omega, by go_num, hide ⟨?_, (((hI.out.2.trans HC1.out).alloc _).grew (HO.out.alloc _) (Nat.le_refl _) hgrow1)⟩⟩
          have e : ((t.take (j + 1)).take 6).map (·.take 6) = ((t.take j).take 6).map (·.take 6) ++ [(t.getD j []).take 6] := by
            rw [List.take_take, List.take_take, Nat.min_eq_right (by omega), Nat.min_eq_right (by omega), List.take_add_one, List.map_append, List.getD_eq_getElem?_getD, List.getElem?_eq_getElem (by rw [HN.out]; exact hlt)]
            rfl
          rw [e]
          have hgA : Chg [] w1 (w1.alloc (.cells #[.slice bo bn bc] 38)) := (Chg.refl _ _).alloc _
          exact Rows2.push (us := us) (u := .slice bo bn bc) (w := w1.alloc (.cells #[.slice bo bn bc] 38)) (by rw [HLM.out]; exact HR.out.1.trans HLM.out) (by rw [HLM.out]; exact HO.out.alloc _) (fun i u h => (HR.out.2.2 i u h).keep hgA) (HI1.out.keep hgA) hgrow1 (by rw [HLM.out]; exact hown1)
        case measure => simp [intOf]; omega
      · have d2 : decide ((j : Int) < 6) = false := by simp; omega
        go_wp2
        go_roundw
        case rel => exact ⟨j + 1, by omega, by go_num, hide ⟨by
          have e : (t.take (j + 1)).take 6 = (t.take j).take 6 := by rw [List.take_take, List.take_take, Nat.min_eq_left (by omega), Nat.min_eq_left (by omega)]
          rw [e]; exact hI.out.1, hI.out.2⟩⟩
        case measure => simp [intOf]; omega
    · have d1 : decide ((j : Int) < (n : Int)) = false := by simpa using hlt
      obtain rfl : j = n := by omega
      go_wp2
      go_ret
      refine ⟨_, rfl, ?_, hI.out.2⟩
      have h := hI.out.1
      have e : t.take j = t := List.take_of_length_le (by rw [HN.out]; exact Nat.le_refl _)
      rw [e] at h
      exact h
theorem table_any (v : Value) (t : List (List Int)) (w : World) (hv : See2 w v t) (hl : t.length ≤ 9223372036854775807) :
    Calls Try.prog 18 #[v] w fun e w' => ∃ v', e = .returned v' ∧ See2 w' v' (T.cut t) ∧ Chg [] w w' :=
  (table_new v t w hv hl).mono fun _ _ ⟨v', e, h, hc⟩ => ⟨v', e, h.toSee2, hc⟩

theorem isTab_row {t : List (List Int)} {i : Nat} (hi : i < t.length) (h : T.rowOk (T.cols t) (t.getD i []) = false) : T.isTab t = false := by
  rw [Bool.eq_false_iff]
  intro h'
  have := (T.isTab_iff.1 h').2 _ (T.row_mem hi)
  rw [h] at this; cases this
theorem isTab_of {t : List (List Int)} (h : 1 ≤ t.length ∧ t.length ≤ 4 ∧ 1 ≤ T.cols t ∧ T.cols t ≤ 4) (hr : ∀ i, i < t.length → T.rowOk (T.cols t) (t.getD i []) = true) : T.isTab t = true :=
  T.isTab_iff.2 ⟨h, fun r hm => by
    obtain ⟨i, hi, he⟩ := List.getElem_of_mem hm
    have := hr i hi
    rw [List.getD_eq_getElem?_getD, List.getElem?_eq_getElem hi] at this
    simpa [he] using this⟩
theorem rowOk_not {c : Nat} {r : List Int} {i : Nat} (hi : i < r.length) (h : ¬ (0 ≤ r.getD i 0 ∧ r.getD i 0 ≤ 1)) : T.rowOk c r = false := by
  rw [Bool.eq_false_iff]
  intro h'
  exact h ((T.rowOk_iff.1 h').2 _ (getD_mem hi))
theorem rowOk_of {c : Nat} {r : List Int} (hc : r.length = c) (h : ∀ i, i < r.length → 0 ≤ r.getD i 0 ∧ r.getD i 0 ≤ 1) : T.rowOk c r = true :=
  T.rowOk_iff.2 ⟨hc, fun x hx => by
    obtain ⟨i, hi, he⟩ := List.getElem_of_mem hx
    have := h i hi
    rw [List.getD_eq_getElem?_getD, List.getElem?_eq_getElem hi] at this
    simpa [he] using this⟩
theorem rowOk_len {c : Nat} {r : List Int} (h : r.length ≠ c) : T.rowOk c r = false := by
  rw [Bool.eq_false_iff]
  intro h'
  exact h (T.rowOk_iff.1 h').1

set_option maxRecDepth 100000 in
set_option maxHeartbeats 1000000 in
theorem Table_bad (v : Value) (t : List (List Int)) (w : World) (hv : See2 w v t) (hbad : ¬ (1 ≤ t.length ∧ t.length ≤ 4 ∧ 1 ≤ T.cols t ∧ T.cols t ≤ 4)) :
    Calls Try.prog 19 #[v] w (Ret (.bool false) w) := by
  obtain ⟨ao, cap, rfl⟩ := hv.shape
  by_cases h1 : t.length < 1
  · have d1 : decide ((t.length : Int) < 1) = true := by simp; omega
    clear hv hbad
    generalize t.length = n at *
    go_enter Try.func19, Try.ntmps19
    go_wp2
    go_ret
    exact ⟨rfl, Chg.refl _ _⟩
  · have d1 : decide ((t.length : Int) < 1) = false := by simp; omega
    by_cases h2 : 4 < t.length
    · have d2 : decide ((4 : Int) < (t.length : Int)) = true := by simp; omega
      clear hv hbad
      generalize t.length = n at *
      go_enter Try.func19, Try.ntmps19
      go_wp2
      go_ret
      exact ⟨rfl, Chg.refl _ _⟩
    · have d2 : decide ((4 : Int) < (t.length : Int)) = false := by simp; omega
      have hne : t ≠ [] := by rintro rfl; simp at h1
      obtain ⟨a, cap', e, _, hc⟩ := hv.open hne
      cases e
      obtain ⟨bo, bc, h0⟩ := hc 0 (by omega)
      have f0 := (h0 _ (Chg.refl [] w)).1
      rw [add_nought, row0] at f0
      by_cases h3 : T.cols t < 1
      · have d3 : decide ((T.cols t : Int) < 1) = true := by simp; omega
        clear hv hc h0 hne hbad
        generalize T.cols t = c at *
        generalize t.length = n at *
        go_enter Try.func19, Try.ntmps19
        go_wp2
        go_ret
        exact ⟨rfl, Chg.refl _ _⟩
      · have d3 : decide ((T.cols t : Int) < 1) = false := by simp; omega
        have h4 : 4 < T.cols t := by omega
        have d4 : decide ((4 : Int) < (T.cols t : Int)) = true := by simp; omega
        clear hv hc h0 hne hbad
        generalize T.cols t = c at *
        generalize t.length = n at *
        go_enter Try.func19, Try.ntmps19
        go_wp2
        go_ret
        exact ⟨rfl, Chg.refl _ _⟩

set_option maxRecDepth 100000 in
set_option maxHeartbeats 1000000 in
theorem Table_good (v : Value) (t : List (List Int)) (w : World) (hv : See2 w v t) (hl : ∀ r ∈ t, r.length ≤ 9223372036854775807) (hok : 1 ≤ t.length ∧ t.length ≤ 4 ∧ 1 ≤ T.cols t ∧ T.cols t ≤ 4) :
    Calls Try.prog 19 #[v] w (Ret (.bool (T.isTab t)) w) := by
  have HOk := hide hok
  obtain ⟨t1, t2, t3, t4⟩ := hok
  have hne : t ≠ [] := by rintro rfl; simp at t1
  obtain ⟨a, cap, rfl, _, hc⟩ := hv.open hne
  obtain ⟨bo, bc, h0⟩ := hc 0 (by omega)
  have d1 : decide ((t.length : Int) < 1) = false := by simp; omega
  have d2 : decide ((4 : Int) < (t.length : Int)) = false := by simp; omega
  have d3 : decide ((T.cols t : Int) < 1) = false := by simp; omega
  have d4 : decide ((4 : Int) < (T.cols t : Int)) = false := by simp; omega
  rw [add_nought, row0] at h0
  have f0 := (h0 w (Chg.refl _ _)).1
  have H0 := hide h0
  have HC := hide hc
  have HLn := hide hl
  clear hc h0 hv hne hl
  obtain ⟨c, hce⟩ : ∃ c, c = T.cols t := ⟨_, rfl⟩
  rw [← hce] at f0 t3 t4 d3 d4 H0
  have HCe := hide hce
  obtain ⟨n, hn⟩ : ∃ n, n = t.length := ⟨_, rfl⟩
  rw [← hn] at t1 t2 d1 d2 ⊢
  have HN := hide hn
  clear hce hn
  go_enter Try.func19, Try.ntmps19
  go_wp2
  go_loopw [31] (fun i wr => ∃ j : Nat, j ≤ n ∧ i = .int .i64 (j : Int) ∧ Hid ((∀ q, q < j → T.rowOk c (t.getD q []) = true) ∧ Chg [] w wr)) (fun i _ => (n - (intOf i).toNat))
  case atStart => exact ⟨0, Nat.zero_le _, rfl, hide ⟨fun q h => by omega, Chg.refl _ _⟩⟩
  case round =>
    obtain ⟨j, hj, rfl, hI⟩ := hrel
    by_cases hlt : j < n
    · have e1 : decide ((j : Int) < (n : Int)) = true := by simpa using hlt
      have hjn : j < t.length := by rw [← HN.out]; exact hlt
      obtain ⟨ro, rc, hrow⟩ := HC.out j hjn
      obtain ⟨fr, hs⟩ := hrow wr hI.out.2
      have hlm := HLn.out _ (T.row_mem hjn)
      have HJn := hide hjn
      obtain ⟨L, hL⟩ : ∃ L, L = (t.getD j []).length := ⟨_, rfl⟩
      rw [← hL] at fr hs hrow hlm
      have HLe := hide hL
      have HS := hide hs
      clear hrow hs hjn hL f0
      have f1 := (H0.out _ hI.out.2).1
      by_cases hlc : L ≠ c
      · have e3 : ((L : Int) != (c : Int)) = true := by simp; omega
        have E : Hid (T.isTab t = false) := hide (isTab_row HJn.out (by rw [← HCe.out]; exact rowOk_len (by rw [← HLe.out]; exact hlc)))
        go_wp2
        go_ret
        exact ⟨by rw [E.out]; rfl, hI.out.2⟩
      have e3 : ((L : Int) != (c : Int)) = false := by simp; omega
      have HLc := hide (Classical.not_not.1 hlc)
      clear hlc
      go_wp2
      go_loopw [44] (fun i ws => ∃ q : Nat, q ≤ L ∧ i = .int .i64 (q : Int) ∧ Hid ((∀ p, p < q → 0 ≤ (t.getD j []).getD p 0 ∧ (t.getD j []).getD p 0 ≤ 1) ∧ Chg [] wr ws)) (fun i _ => (L - (intOf i).toNat))
      case atStart => exact ⟨0, Nat.zero_le _, rfl, hide ⟨fun q h => by omega, Chg.refl _ _⟩⟩
      case round =>
        obtain ⟨q, hq, rfl, hJ⟩ := hrel
        by_cases hlq : q < L
        · have e2 : decide ((q : Int) < (L : Int)) = true := by simpa using hlq
          have hrn : t.getD j [] ≠ [] := by intro h; have := HLe.out; rw [h] at this; simp at this; omega
          obtain ⟨ra, rcap, e, hcell⟩ := HS.out.open hrn
          rw [← HLe.out] at e
          cases e
          have fx := hcell _ hJ.out.2 q (by rw [← HLe.out]; exact hlq)
          obtain ⟨x, hxe⟩ : ∃ x, x = (t.getD j []).getD q 0 := ⟨_, rfl⟩
          rw [← hxe] at fx
          have HXE := hide hxe
          clear hcell hrn hxe
          cases hbt : bitB x with
          | false =>
            have E : Hid (T.isTab t = false) := hide (isTab_row HJn.out (rowOk_not (i := q) (by rw [← HLe.out]; exact hlq) (by rw [← HXE.out]; have := bitB_iff (x := x); rw [hbt] at this; simp at this; omega)))
            go_wp2_with fail
            refine (bit_any _ _).mono ?_
            rintro e wb ⟨rfl, hwb⟩
            rw [hbt]
            go_wp2
            go_ret
            exact ⟨by rw [E.out]; rfl, (hI.out.2.trans hJ.out.2).trans hwb⟩
          | true =>
            have HX := hide (bitB_iff.1 hbt)
            go_wp2_with fail
            refine (bit_any _ _).mono ?_
            rintro e wb ⟨rfl, hwb⟩
            rw [hbt]
            have HWb := hide hwb
            clear hwb
            go_wp2
            go_roundw
            case rel => exact ⟨q + 1, by omega, by go_num, hide ⟨fun p hp => by
              rcases (show p < q ∨ p = q by omega) with h | rfl
              · exact hJ.out.1 p h
              · rw [← HXE.out]; have := HX.out; omega, hJ.out.2.trans HWb.out⟩⟩
            case measure => simp [intOf]; omega
        · have e2 : decide ((q : Int) < (L : Int)) = false := by simpa using hlq
          obtain rfl : q = L := by omega
          go_wp2
          go_roundw
          case rel => exact ⟨j + 1, by omega, by go_num, hide ⟨fun p hp => by
            rcases (show p < j ∨ p = j by omega) with h | rfl
            · exact hI.out.1 p h
            · exact rowOk_of (HLe.out.symm.trans HLc.out) (by rw [← HLe.out]; exact hJ.out.1), hI.out.2.trans hJ.out.2⟩⟩
          case measure => simp [intOf]; omega
    · have e1 : decide ((j : Int) < (n : Int)) = false := by simpa using hlt
      have E : Hid (T.isTab t = true) := hide (isTab_of HOk.out fun i hi => by rw [← HCe.out]; exact hI.out.1 i (by rw [← HN.out] at hi; omega))
      go_wp2
      go_ret
      exact ⟨by rw [E.out]; rfl, hI.out.2⟩

theorem Table_any (v : Value) (t : List (List Int)) (w : World) (hv : See2 w v t) (hl : ∀ r ∈ t, r.length ≤ 9223372036854775807) :
    Calls Try.prog 19 #[v] w (Ret (.bool (T.isTab t)) w) := by
  by_cases h : 1 ≤ t.length ∧ t.length ≤ 4 ∧ 1 ≤ T.cols t ∧ T.cols t ≤ 4
  · exact Table_good v t w hv hl h
  · rw [T.isTab_false h]
    exact Table_bad v t w hv h

end Go.Proofs.Ytaapamoglgpocaa

/- Walk: whether a rectangle is clear, the reference's. -/
namespace Go.Proofs.Ytaapamoglgpocaa
open Go.RowKit

/-- Whether the value k was seen. -/
def Seen (t : List (List Int)) (r c i j : Nat) (k : Int) (b : Bool) : Prop := b = true ↔ ∃ a q, a < t.length ∧ q < T.cols t ∧ T.met i j a q ∧ T.has r c a q = true ∧ T.ent t a q = k
theorem Seen.start (t : List (List Int)) (r c : Nat) (k : Int) : Seen t r c 0 0 k false := by
  unfold Seen
  constructor
  · intro h; cases h
  · rintro ⟨a, q, _, _, hm, _⟩; unfold T.met at hm; omega
theorem Seen.row {t : List (List Int)} {r c i j : Nat} {k : Int} {b : Bool} (h : Seen t r c i j k b) (hj : T.cols t ≤ j) : Seen t r c (i + 1) 0 k b := by
  unfold Seen at h ⊢
  rw [h]
  constructor
  · rintro ⟨a, q, h1, h2, h3, h4⟩; exact ⟨a, q, h1, h2, by unfold T.met at h3 ⊢; omega, h4⟩
  · rintro ⟨a, q, h1, h2, h3, h4⟩; exact ⟨a, q, h1, h2, by unfold T.met at h3 ⊢; omega, h4⟩
theorem Seen.skip {t : List (List Int)} {r c i j : Nat} {k : Int} {b : Bool} (h : Seen t r c i j k b) (hn : T.has r c i j = true → T.ent t i j ≠ k) : Seen t r c i (j + 1) k b := by
  unfold Seen at h ⊢
  rw [h]
  constructor
  · rintro ⟨a, q, h1, h2, h3, h4⟩; exact ⟨a, q, h1, h2, by unfold T.met at h3 ⊢; omega, h4⟩
  · rintro ⟨a, q, h1, h2, h3, h4, h5⟩
    have hm : T.met i j a q ∨ (a = i ∧ q = j) := by unfold T.met at h3 ⊢; omega
    rcases hm with hm | ⟨rfl, rfl⟩
    · exact ⟨a, q, h1, h2, hm, h4, h5⟩
    · exact absurd h5 (hn h4)
theorem Seen.hit {t : List (List Int)} {r c i j : Nat} {k : Int} (hi : i < t.length) (hj : j < T.cols t) (hh : T.has r c i j = true) (he : T.ent t i j = k) : Seen t r c i (j + 1) k true :=
  ⟨fun _ => ⟨i, j, hi, hj, by unfold T.met; omega, hh, he⟩, fun _ => rfl⟩
theorem Seen.clear {t : List (List Int)} (ht : T.isTab t = true) {r c : Nat} {x y : Bool} (h0 : Seen t r c t.length 0 0 x) (h1 : Seen t r c t.length 0 1 y) : T.clear t r c = (!x || !y) := by
  rw [Bool.eq_iff_iff, T.clear_iff ht]
  unfold Seen at h0 h1
  constructor
  · intro hm
    cases x with
    | false => rfl
    | true =>
      cases y with
      | false => rfl
      | true =>
        obtain ⟨a, q, u1, u2, _, u3, u4⟩ := h0.1 rfl
        obtain ⟨b, p, v1, v2, _, v3, v4⟩ := h1.1 rfl
        have := hm a q b p u1 u2 v1 v2 u3 v3
        omega
  · intro h a q b p u1 u2 v1 v2 u3 v3
    have e1 := T.ent_val ht (i := a) (j := q)
    have e2 := T.ent_val ht (i := b) (j := p)
    by_cases he : T.ent t a q = T.ent t b p
    · exact he
    · exfalso
      have hx : x = true := h0.2 (by
        rcases (show T.ent t a q = 0 ∨ T.ent t b p = 0 by omega) with h | h
        · exact ⟨a, q, u1, u2, by unfold T.met; omega, u3, h⟩
        · exact ⟨b, p, v1, v2, by unfold T.met; omega, v3, h⟩)
      have hy : y = true := h1.2 (by
        rcases (show T.ent t a q = 1 ∨ T.ent t b p = 1 by omega) with h | h
        · exact ⟨a, q, u1, u2, by unfold T.met; omega, u3, h⟩
        · exact ⟨b, p, v1, v2, by unfold T.met; omega, v3, h⟩)
      rw [hx, hy] at h
      cases h

set_option maxRecDepth 100000 in
set_option maxHeartbeats 2000000 in
theorem Clear_any (v : Value) (t : List (List Int)) (r c : Nat) (w : World) (hv : See2 w v t) (ht : T.isTab t = true) (hr : r < 65536) (hc : c < 65536) :
    Calls Try.prog 101 #[v, .int .i64 (r : Int), .int .i64 (c : Int)] w (Ret (.bool (T.clear t r c)) w) := by
  obtain ⟨⟨t1, t2, t3, t4⟩, _⟩ := T.isTab_iff.1 ht
  have hne : t ≠ [] := by rintro rfl; simp at t1
  obtain ⟨a, cap, rfl, _, hcc⟩ := hv.open hne
  have HC := hide hcc
  have HT := hide ht
  have HR := hide (And.intro hr hc)
  obtain ⟨n, hn⟩ : ∃ n, n = t.length := ⟨_, rfl⟩
  have HN := hide hn
  rw [← hn] at t1 t2 ⊢
  obtain ⟨m, hm⟩ : ∃ m, m = T.cols t := ⟨_, rfl⟩
  have HM := hide hm
  rw [← hm] at t3 t4
  obtain ⟨R, hR⟩ : ∃ R, R = T.clear t r c := ⟨_, rfl⟩
  rw [← hR]
  have HRe := hide hR
  clear hcc hv hne hr hc ht hn hm hR
  go_enter Try.func101, Try.ntmps101
  go_wp2
  have bx := Box.new w #[.bool false, .bool false] 142
  have C0 : Hid (Chg [] w (w.alloc (.cells #[.bool false, .bool false] 142))) := hide ((Chg.refl _ _).alloc _)
  have BX := hide bx
  have hB : Hid (∃ B, B = w.heap.size) := hide ⟨_, rfl⟩
  clear bx
  generalize w.alloc (.cells #[.bool false, .bool false] 142) = W0 at C0 BX ⊢
  obtain ⟨B, hB⟩ := hB.out
  rw [← hB] at BX ⊢
  have HB := hide hB
  clear hB
  go_loopw [15] (fun iv wr => ∃ (i : Nat) (x y : Bool), i ≤ n ∧ iv = .int .i64 (i : Int) ∧ Hid (Seen t r c i 0 0 x ∧ Seen t r c i 0 1 y ∧ Box wr B #[.bool x, .bool y] 142 ∧ Chg [] w wr)) (fun iv _ => n - (intOf iv).toNat)
  case atStart => exact ⟨0, false, false, Nat.zero_le _, rfl, hide ⟨Seen.start _ _ _ _, Seen.start _ _ _ _, BX.out, C0.out⟩⟩
  case round =>
    obtain ⟨i, x, y, hi, rfl, hI⟩ := hrel
    by_cases hlt : i < n
    · have d1 : decide ((i : Int) < (n : Int)) = true := by simpa using hlt
      obtain ⟨bo, bc, hrow⟩ := HC.out i (by rw [← HN.out]; exact hlt)
      have hlen : (t.getD i []).length = m := by rw [HM.out]; exact T.tab_row HT.out (by rw [← HN.out]; exact hlt)
      obtain ⟨fr, hs⟩ := hrow wr hI.out.2.2.2
      rw [hlen] at fr hs
      have HLen := hide hlen
      have HRow := hide hrow
      rw [hlen] at HRow
      clear hrow hs hlen
      go_wp2
      go_loopw [22] (fun jv wq => ∃ (j : Nat) (x y : Bool), j ≤ m ∧ jv = .int .i64 (j : Int) ∧ Hid (Seen t r c i j 0 x ∧ Seen t r c i j 1 y ∧ Box wq B #[.bool x, .bool y] 142 ∧ Chg [] w wq)) (fun jv _ => m - (intOf jv).toNat)
      case atStart => exact ⟨0, x, y, Nat.zero_le _, rfl, hide ⟨hI.out.1, hI.out.2.1, hI.out.2.2.1, hI.out.2.2.2⟩⟩
      case round =>
        obtain ⟨j, x, y, hj, rfl, hJ⟩ := hrel
        by_cases hlj : j < m
        · have d2 : decide ((j : Int) < (m : Int)) = true := by simpa using hlj
          obtain ⟨_, hs⟩ := HRow.out wr hJ.out.2.2.2
          have hrn : t.getD i [] ≠ [] := by intro h; have := HLen.out; rw [h] at this; simp at this; omega
          obtain ⟨a2, cap2, e2, hx⟩ := hs.open hrn
          rw [HLen.out] at e2
          cases e2
          have fx0 := hx wr (Chg.refl _ _) j (by rw [HLen.out]; exact hlj)
          obtain ⟨z, hz⟩ : ∃ z, z = T.ent t i j := ⟨_, rfl⟩
          have fx : wr.cell? (a2.add j) = some (.int .i64 z) := by rw [hz]; exact fx0
          clear fx0
          obtain ⟨z1, z2⟩ := T.ent_val HT.out (i := i) (j := j)
          rw [← hz] at z1 z2
          have HZ := hide hz
          have h1 := shr_int r i
          have h2 := shr_int c j
          have l1 : r / 2 ^ i < 2 ^ 63 := Nat.lt_of_le_of_lt (Nat.div_le_self _ _) (by have := HR.out.1; omega)
          have l2 : c / 2 ^ j < 2 ^ 63 := Nat.lt_of_le_of_lt (Nat.div_le_self _ _) (by have := HR.out.2; omega)
          have a1 := and_one _ l1
          have a3 := and_one _ l2
          have b1 := bit_eq r i
          have b2 := bit_eq c j
          have HE : Hid (T.has r c i j = (bitv r i && bitv c j)) := hide rfl
          have hii : (i : Int) ≤ 62 := by omega
          have hjj : (j : Int) ≤ 62 := by omega
          generalize bitv r i = p at b1 HE
          generalize bitv c j = q at b2 HE
          generalize r / 2 ^ i % 2 = m1 at a1 b1
          generalize c / 2 ^ j % 2 = m2 at a3 b2
          generalize r / 2 ^ i = q1 at h1 a1
          generalize c / 2 ^ j = q2 at h2 a3
          clear l1 l2 hs hrn hx hz
          cases p with
          | false =>
            have E : Hid (T.has r c i j = true → False) := hide (by rw [HE.out]; intro h; cases h)
            go_wp2
            go_roundw
            case rel => exact ⟨j + 1, x, y, by omega, by go_num, hide ⟨hJ.out.1.skip (fun h => (E.out h).elim), hJ.out.2.1.skip (fun h => (E.out h).elim), hJ.out.2.2.1, hJ.out.2.2.2⟩⟩
            case measure => simp [intOf]; omega
          | true =>
            cases q with
            | false =>
              have E : Hid (T.has r c i j = true → False) := hide (by rw [HE.out]; intro h; cases h)
              go_wp2
              go_roundw
              case rel => exact ⟨j + 1, x, y, by omega, by go_num, hide ⟨hJ.out.1.skip (fun h => (E.out h).elim), hJ.out.2.1.skip (fun h => (E.out h).elim), hJ.out.2.2.1, hJ.out.2.2.2⟩⟩
              case measure => simp [intOf]; omega
            | true =>
              have E : Hid (T.has r c i j = true) := hide HE.out
              have lB := hJ.out.2.2.1.lt
              have HIJ := hide (And.intro (show i < t.length by rw [← HN.out]; exact hlt) (show j < T.cols t by rw [← HM.out]; exact hlj))
              rcases (show z = 0 ∨ z = 1 by omega) with hz0 | hz0
              · have HZ0 := hide (HZ.out.symm.trans hz0)
                subst hz0
                have ff := hJ.out.2.2.1.free 0
                have fc := hJ.out.2.2.1.cell 0
                simp at fc
                go_wp2
                go_roundw
                case rel => exact ⟨j + 1, true, y, by omega, by go_num, hide ⟨Seen.hit HIJ.out.1 HIJ.out.2 E.out HZ0.out, hJ.out.2.1.skip (fun _ => by rw [HZ0.out]; decide), hJ.out.2.2.1.set 0 _, hJ.out.2.2.2.setCell (.inr (by rw [HB.out]; exact Nat.le_refl _)) _⟩⟩
                case measure => simp [intOf]; omega
              · have HZ0 := hide (HZ.out.symm.trans hz0)
                subst hz0
                have ff := hJ.out.2.2.1.free 1
                have fc := hJ.out.2.2.1.cell 1
                simp at fc
                go_wp2
                go_roundw
                case rel => exact ⟨j + 1, x, true, by omega, by go_num, hide ⟨hJ.out.1.skip (fun _ => by rw [HZ0.out]; decide), Seen.hit HIJ.out.1 HIJ.out.2 E.out HZ0.out, hJ.out.2.2.1.set 1 _, hJ.out.2.2.2.setCell (.inr (by rw [HB.out]; exact Nat.le_refl _)) _⟩⟩
                case measure => simp [intOf]; omega
        · have d2 : decide ((j : Int) < (m : Int)) = false := by simpa using hlj
          obtain rfl : j = m := by omega
          have HMl : Hid (T.cols t ≤ j) := hide (Nat.le_of_eq HM.out.symm)
          go_wp2
          go_roundw
          case rel => exact ⟨i + 1, x, y, by omega, by go_num, hide ⟨hJ.out.1.row HMl.out, hJ.out.2.1.row HMl.out, hJ.out.2.2.1, hJ.out.2.2.2⟩⟩
          case measure => simp [intOf]; omega
    · have d1 : decide ((i : Int) < (n : Int)) = false := by simpa using hlt
      obtain rfl : i = n := by omega
      have E : Hid (R = (!x || !y)) := hide (by
        rw [HRe.out]
        refine Seen.clear HT.out ?_ ?_
        · rw [← HN.out]; exact hI.out.1
        · rw [← HN.out]; exact hI.out.2.1)
      have f0 := hI.out.2.2.1.cell 0
      have f1 := hI.out.2.2.1.cell 1
      have lB := hI.out.2.2.1.lt
      simp at f0 f1
      cases x with
      | false =>
        go_wp2
        go_ret
        exact ⟨by rw [E.out]; rfl, hI.out.2.2.2⟩
      | true =>
        go_wp2
        go_ret
        exact ⟨by rw [E.out]; rfl, hI.out.2.2.2⟩
end Go.Proofs.Ytaapamoglgpocaa

/- Walk: the least length, the reference's. -/
namespace Go.Proofs.Ytaapamoglgpocaa
open Go.RowKit

/-- The table of what was found. -/
def RTab (w : World) (B : Nat) (f : Nat → Int) : Prop := ∃ cur, Box w B cur 79 ∧ cur.size = 256 ∧ ∀ i, i < 256 → cur[i]? = some (.int .i64 (f i))
theorem RTab.lt {w : World} {A : Nat} {f : Nat → Int} (h : RTab w A f) : A < w.heap.size := by obtain ⟨c, h, _⟩ := h; exact h.lt
theorem RTab.keep {w w' : World} {A : Nat} {f : Nat → Int} {S : List Nat} (h : RTab w A f) (hc : Chg S w w') (hs : A ∉ S) : RTab w' A f := by
  obtain ⟨c, h, hc'⟩ := h
  exact ⟨c, h.keep hc hs, hc'⟩
theorem RTab.cell {w : World} {A : Nat} {f : Nat → Int} (h : RTab w A f) {i : Nat} (hi : i < 256) : w.cell? ⟨A, i, none⟩ = some (.int .i64 (f i)) := by
  obtain ⟨c, h, _, hc⟩ := h
  rw [h.cell]; exact hc i hi
theorem RTab.free {w : World} {A : Nat} {f : Nat → Int} (h : RTab w A f) (i : Nat) : w.frozen? ⟨A, i, none⟩ = false := by
  obtain ⟨c, h, _⟩ := h
  exact h.free i
theorem RTab.set {w : World} {A : Nat} {f g : Nat → Int} (h : RTab w A f) (i : Nat) (v : Int) (hg : ∀ j, j < 256 → g j = if j = i then v else f j) : RTab (w.setCell ⟨A, i, none⟩ (.int .i64 v)) A g := by
  obtain ⟨c, h, hs, hc⟩ := h
  refine ⟨_, h.set i _, by simpa using hs, fun j hj => ?_⟩
  rw [hg j hj]
  by_cases hij : j = i
  · subst hij
    rw [Array.getElem?_setIfInBounds_self, if_pos (by omega), if_pos rfl]
  · rw [Array.getElem?_setIfInBounds_ne (Ne.symm hij), hc j hj, if_neg hij]
/-- What it says of parts is right. -/
def RGood (t : List (List Int)) (f : Nat → Int) : Prop := ∀ r c, r < 16 → c < 16 → r ≠ 0 → c ≠ 0 → f (r * 16 + c) = 0 ∨ f (r * 16 + c) = (T.len t r c : Int) + 1
def RLenOk (w0 : World) (B : Nat) (vt : Value) (t : List (List Int)) (F : Nat) : Prop := ∀ (r c : Nat) (w : World) (f : Nat → Int), r < 16 → c < 16 → r ≠ 0 → c ≠ 0 → r + c < F → Chg [] w0 w → RTab w B f → RGood t f →
  Calls Try.prog 60 #[vt, .int .i64 (r : Int), .int .i64 (c : Int), .pointer (some ⟨B, 0, none⟩)] w
    fun e w' => e = .returned (.int .i64 (T.len t r c : Int)) ∧ Chg [] w0 w' ∧ ∃ f', RTab w' B f' ∧ RGood t f'
/-- In the midst of the search: all sets below some have been tried. -/
def RBest (t : List (List Int)) (r c sr sc b : Nat) : Prop := (b = 100 ∨ (∃ x, x ∈ T.subs r ∧ b = T.cost t r c 0 x) ∨ (∃ x, x ∈ T.subs c ∧ b = T.cost t r c 1 x)) ∧ (∀ x, x < sr → x ∈ T.subs r → b ≤ T.cost t r c 0 x) ∧ (∀ x, x < sc → x ∈ T.subs c → b ≤ T.cost t r c 1 x)
theorem RBest.row_no {t : List (List Int)} {r c sr sc b : Nat} (h : RBest t r c sr sc b) (hn : sr ∉ T.subs r) : RBest t r c (sr + 1) sc b :=
  ⟨h.1, fun x hx hm => h.2.1 x (by
    rcases (show x < sr ∨ x = sr by omega) with h | rfl
    · exact h
    · exact absurd hm hn) hm, h.2.2⟩
theorem RBest.col_no {t : List (List Int)} {r c sr sc b : Nat} (h : RBest t r c sr sc b) (hn : sc ∉ T.subs c) : RBest t r c sr (sc + 1) b :=
  ⟨h.1, h.2.1, fun x hx hm => h.2.2 x (by
    rcases (show x < sc ∨ x = sc by omega) with h | rfl
    · exact h
    · exact absurd hm hn) hm⟩
theorem RBest.row_yes {t : List (List Int)} {r c sr sc b b' : Nat} (h : RBest t r c sr sc b) (hn : sr ∈ T.subs r) (hb : b' = min b (T.cost t r c 0 sr)) : RBest t r c (sr + 1) sc b' := by
  refine ⟨?_, fun x hx hm => ?_, fun x hx hm => ?_⟩
  · by_cases hl : b ≤ T.cost t r c 0 sr
    · rw [show b' = b by omega]; exact h.1
    · exact .inr (.inl ⟨sr, hn, by omega⟩)
  · rcases (show x < sr ∨ x = sr by omega) with h' | rfl
    · have := h.2.1 x h' hm; omega
    · omega
  · have := h.2.2 x hx hm; omega
theorem RBest.col_yes {t : List (List Int)} {r c sr sc b b' : Nat} (h : RBest t r c sr sc b) (hn : sc ∈ T.subs c) (hb : b' = min b (T.cost t r c 1 sc)) : RBest t r c sr (sc + 1) b' := by
  refine ⟨?_, fun x hx hm => ?_, fun x hx hm => ?_⟩
  · by_cases hl : b ≤ T.cost t r c 1 sc
    · rw [show b' = b by omega]; exact h.1
    · exact .inr (.inr ⟨sc, hn, by omega⟩)
  · have := h.2.1 x hx hm; omega
  · rcases (show x < sc ∨ x = sc by omega) with h' | rfl
    · have := h.2.2 x h' hm; omega
    · omega
theorem RBest.start (t : List (List Int)) {r c : Nat} (hr : r < 16) (hc : c < 16) : RBest t r c 1 1 100 :=
  ⟨.inl rfl, fun x hx hm => by have := (T.subs_mem hr hm).1; omega, fun x hx hm => by have := (T.subs_mem hc hm).1; omega⟩
theorem RBest.fin {t : List (List Int)} (ht : T.isTab t = true) {r c b : Nat} (hr : r < 16) (hc : c < 16) (hr0 : r ≠ 0) (hc0 : c ≠ 0) (hcl : T.clear t r c = false) (h : RBest t r c 16 16 b) : b = T.len t r c := by
  have hl := T.len_lt ht hr hc hr0 hc0
  have he := T.len_eq (t := t) hr hc
  rw [hcl, if_neg (by decide)] at he
  have hsub : ∀ s, s ∈ T.subs r → T.len t r c ≤ T.cost t r c 0 s := fun s => (T.cost_sub hr hc hcl (s := s)).1
  have hsub' : ∀ s, s ∈ T.subs c → T.len t r c ≤ T.cost t r c 1 s := fun s => (T.cost_sub hr hc hcl (s := s)).2
  have hb : b ≤ T.len t r c := by
    rcases T.best_mem ((T.subs r).map (T.cost t r c 0) ++ (T.subs c).map (T.cost t r c 1)) with h8 | hm
    · omega
    · rw [← he] at hm
      rcases List.mem_append.1 hm with hm | hm
      · obtain ⟨s, hs, e⟩ := List.mem_map.1 hm
        rw [← e]
        exact h.2.1 s (by have := (T.subs_mem hr hs).2.1; omega) hs
      · obtain ⟨s, hs, e⟩ := List.mem_map.1 hm
        rw [← e]
        exact h.2.2 s (by have := (T.subs_mem hc hs).2.1; omega) hs
  rcases h.1 with h' | ⟨x, hx, e⟩ | ⟨x, hx, e⟩
  · omega
  · have := hsub x hx; omega
  · have := hsub' x hx; omega
theorem RGood.set {t : List (List Int)} {f : Nat → Int} (h : RGood t f) {r c : Nat} (hr : r < 16) (hc : c < 16) : RGood t (fun j => if j = r * 16 + c then (T.len t r c : Int) + 1 else f j) := by
  intro r' c' h1 h2 h3 h4
  by_cases e : r' * 16 + c' = r * 16 + c
  · have e1 : r' = r := by omega
    have e2 : c' = c := by omega
    subst e1 e2
    right
    simp
  · show (if r' * 16 + c' = r * 16 + c then _ else f (r' * 16 + c')) = 0 ∨ (if r' * 16 + c' = r * 16 + c then _ else f (r' * 16 + c')) = _
    rw [if_neg e]
    exact h r' c' h1 h2 h3 h4
theorem not_subs {a s : Nat} (ha : a < 16) (h : ¬ (s &&& a = s ∧ s ≠ a)) : s ∉ T.subs a := fun hm => h ⟨(T.subs_mem ha hm).2.2.1, by have := (T.subs_mem ha hm).2.1; omega⟩
theorem imax_nat (a b : Nat) : imax (a : Int) (b : Int) = ((max a b : Nat) : Int) := by unfold imax; split <;> omega
theorem imin_one (a b : Nat) : imin (a : Int) (1 + (b : Int)) = ((min a (1 + b) : Nat) : Int) := by unfold imin; split <;> omega

set_option maxRecDepth 100000 in
set_option maxHeartbeats 8000000 in
theorem rlength_more (w0 : World) (B : Nat) (vt : Value) (t : List (List Int)) (F : Nat) (hv : See2 w0 vt t) (ht : T.isTab t = true) (hB : w0.heap.size ≤ B) (IH : RLenOk w0 B vt t F) : RLenOk w0 B vt t (F + 1) := by
  intro r c w f hr hc hr0 hc0 hF hw hf hg
  have kmin := fun w ts t x y => @run_min_2 Try.prog w ts t x y
  have kmax := fun w ts t x y => @run_max_2 Try.prog w ts t x y
  have hfc := hf.cell (i := r * 16 + c) (by omega)
  have lB := hf.lt
  have HF := hide (And.intro hf hg)
  have HW := hide hw
  have HIH := hide IH
  have HCl := hide fun ws (h : Chg [] w0 ws) => Clear_any vt t r c ws (hv.keep h) ht (by omega) (by omega)
  have HT := hide ht
  obtain ⟨ao, cap, rfl⟩ := hv.shape
  have hv0 := hg r c hr hc hr0 hc0
  obtain ⟨x, hx⟩ : ∃ x, x = f (r * 16 + c) := ⟨_, rfl⟩
  rw [← hx] at hfc hv0
  have HX := hide hx
  have HR0 := hide (And.intro hr0 hc0)
  have HB := hide hB
  have hle := T.len_lt ht hr hc hr0 hc0
  have hr16 : (r : Int) < 16 := by omega
  have hc16 : (c : Int) < 16 := by omega
  obtain ⟨L, hL⟩ : ∃ L, L = T.len t r c := ⟨_, rfl⟩
  rw [← hL] at hv0 hle ⊢
  have HL := hide hL
  have HFu := hide hF
  obtain ⟨n, hn⟩ : ∃ n, n = t.length := ⟨_, rfl⟩
  rw [← hn] at HIH HCl ⊢
  clear hv hw hf hg IH ht hx hL hB hF hn hr0 hc0
  by_cases hx0 : 0 < x
  · have d0 : decide (0 < x) = true := by simpa using hx0
    obtain rfl : x = (L : Int) + 1 := by omega
    have ex : (L : Int) + 1 - 1 = (L : Int) := by omega
    clear hv0 hx0
    go_enter Try.func60, Try.ntmps60
    go_wp2
    go_ret
    exact ⟨by first | rfl | (congr 2; omega), HW.out, _, HF.out⟩
  have d0 : decide (0 < x) = false := by simpa using hx0
  clear hv0 hx0
  obtain ⟨k, hk⟩ : ∃ k, k = T.clear t r c := ⟨_, rfl⟩
  rw [← hk] at HCl
  have HK := hide hk
  clear hk
  cases k with
  | true =>
    have E : Hid (L = 0) := hide (by rw [HL.out, T.len_eq hr hc, ← HK.out, if_pos rfl])
    go_enter Try.func60, Try.ntmps60
    go_wp2_with fail
    refine (HCl.out _ HW.out).mono ?_
    rintro e w1 ⟨rfl, hw1⟩
    have HF1 := hide (And.intro (HF.out.1.keep hw1 List.not_mem_nil) HF.out.2)
    have C1 : Hid (Chg [] w0 w1) := hide (HW.out.trans hw1)
    have lB1 := HF1.out.1.lt
    have fr1 := HF1.out.1.free (r * 16 + c)
    have fc1 := HF1.out.1.cell (i := r * 16 + c) (by omega)
    clear hw1
    go_wp2
    go_ret
    refine ⟨by rw [E.out]; rfl, C1.out.setCell (.inr HB.out) _, _, HF1.out.1.set _ _ (fun j _ => rfl), ?_⟩
    have h := HF1.out.2.set (r := r) (c := c) hr hc
    rw [← HL.out, E.out] at h
    exact h
  | false =>
    go_enter Try.func60, Try.ntmps60
    go_wp2_with fail
    refine (HCl.out _ HW.out).mono ?_
    rintro e w1 ⟨rfl, hw1⟩
    have HF1 := hide (And.intro (HF.out.1.keep hw1 List.not_mem_nil) HF.out.2)
    have C1 : Hid (Chg [] w0 w1) := hide (HW.out.trans hw1)
    clear hw1 hfc lB
    go_wp2
    go_loopw [9, 10] (fun bv sv wr => ∃ (s b : Nat), 1 ≤ s ∧ s ≤ 16 ∧ b ≤ 100 ∧ bv = .int .i64 (b : Int) ∧ sv = .int .i64 (s : Int) ∧ Hid (RBest t r c s s b ∧ Chg [] w0 wr ∧ ∃ f', RTab wr B f' ∧ RGood t f')) (fun _ sv _ => 16 - (intOf sv).toNat)
    case atStart => exact ⟨1, 100, Nat.le_refl _, by omega, Nat.le_refl _, rfl, rfl, hide ⟨RBest.start t hr hc, C1.out, _, HF1.out⟩⟩
    case round =>
      obtain ⟨s, b, hs1, hs16, hb, rfl, rfl, hI⟩ := hrel
      by_cases hlt : s < 16
      · have d1 : decide ((s : Int) < 16) = true := by simp; omega
        have ar := and_nat s r (by omega) (by omega)
        have ac := and_nat s c (by omega) (by omega)
        obtain ⟨u, hu⟩ : ∃ u, u = s &&& r := ⟨_, rfl⟩
        obtain ⟨u', hu'⟩ : ∃ u', u' = s &&& c := ⟨_, rfl⟩
        rw [← hu] at ar
        rw [← hu'] at ac
        have HU := hide (And.intro hu hu')
        clear hu hu'
        obtain ⟨hBest, c0, f0, t0⟩ := hI.out
        have C0 := hide c0
        have T0 := hide t0
        have HBest := hide hBest
        clear hBest c0 t0 hI
        by_cases hqr : u = s
        · by_cases hner : s = r
          · by_cases hqc : u' = s
            · by_cases hnec : s = c
              · have duc : ((u' : Int) == (s : Int)) = true := by simp; omega
                have dnc : ((s : Int) != (c : Int)) = false := by simp; omega
                have hnoc := hide (not_subs hc (s := s) (fun h => h.2 hnec))
                clear hnec
                have dur : ((u : Int) == (s : Int)) = true := by simp; omega
                have dnr : ((s : Int) != (r : Int)) = false := by simp; omega
                have hnor := hide (not_subs hr (s := s) (fun h => h.2 hner))
                clear hner
                go_wp2
                go_roundw
                case rel => exact ⟨s + 1, b, by omega, by omega, by omega, rfl, by go_num, hide ⟨(HBest.out.row_no hnor.out).col_no hnoc.out, C0.out, _, T0.out⟩⟩
                case measure => simp [intOf]; omega
              · have duc : ((u' : Int) == (s : Int)) = true := by simp; omega
                have dnc : ((s : Int) != (c : Int)) = true := by simp; omega
                have dur : ((u : Int) == (s : Int)) = true := by simp; omega
                have dnr : ((s : Int) != (r : Int)) = false := by simp; omega
                have hnor := hide (not_subs hr (s := s) (fun h => h.2 hner))
                clear hner
                have hsubc : s ∈ T.subs c := T.mem_subs hc hlt (by omega) hnec (by have := HU.out.2; omega)
                obtain ⟨m1, m2, m3, m4, m5, m6⟩ := T.subs_mem hc hsubc
                have anc := andNot_16 hc hlt
                rw [Nat.and_comm, m3] at anc
                obtain ⟨c', hpc⟩ : ∃ x, x = c - s := ⟨_, rfl⟩
                rw [← hpc] at anc m4 m5
                have HSbc := hide hsubc
                have K1c := hide fun w f h1 h2 h3 => HIH.out r s w f (by omega) (by omega) (by first | exact m1 | exact HR0.out.1) (by first | exact HR0.out.2 | exact m1) (by have := HFu.out; omega) h1 h2 h3
                have K2c := hide fun w f h1 h2 h3 => HIH.out r c' w f (by omega) (by omega) (by first | exact m4 | exact HR0.out.1) (by first | exact HR0.out.2 | exact m4) (by have := HFu.out; omega) h1 h2 h3
                have hl1c := T.len_lt HT.out (r := r) (c := s) (by omega) (by omega) (by first | exact m1 | exact HR0.out.1) (by first | exact HR0.out.2 | exact m1)
                have hl2c := T.len_lt HT.out (r := r) (c := c') (by omega) (by omega) (by first | exact m4 | exact HR0.out.1) (by first | exact HR0.out.2 | exact m4)
                have hcoc : T.cost t r c 1 s = 1 + max (T.len t r c') (T.len t r s) := by rw [hpc]; rfl
                obtain ⟨L1c, hL1c⟩ : ∃ x, x = T.len t r s := ⟨_, rfl⟩
                obtain ⟨L2c, hL2c⟩ : ∃ x, x = T.len t r c' := ⟨_, rfl⟩
                rw [← hL1c] at K1c hl1c hcoc
                rw [← hL2c] at K2c hl2c hcoc
                have hmxc := imax_nat L1c L2c
                obtain ⟨Mc, hMc⟩ : ∃ x, x = max L1c L2c := ⟨_, rfl⟩
                rw [← hMc] at hmxc
                rw [Nat.max_comm, ← hMc] at hcoc
                have hM6c : Mc ≤ 6 := by omega
                have hmnc := imin_one b Mc
                obtain ⟨b2, hb2⟩ : ∃ x, x = min b (1 + Mc) := ⟨_, rfl⟩
                rw [← hb2] at hmnc
                have hlec : b2 ≤ 100 := by omega
                have HBoc : Hid (b2 = min b (T.cost t r c 1 s)) := hide (by rw [hcoc]; exact hb2)
                clear hMc hb2 hL1c hL2c hcoc m3 m6 hsubc hpc
                go_wp2_with fail
                refine (K1c.out _ _ C0.out T0.out.1 T0.out.2).mono ?_
                rintro e w1c ⟨rfl, c1c, f1c, t1c⟩
                have C1c := hide c1c; have T1c := hide t1c; clear c1c t1c
                go_wp2_with fail
                refine (K2c.out _ _ C1c.out T1c.out.1 T1c.out.2).mono ?_
                rintro e w2c ⟨rfl, c2c, f2c, t2c⟩
                have C2c := hide c2c; have T2c := hide t2c; clear c2c t2c
                go_wp2
                go_roundw
                case rel => exact ⟨s + 1, b2, by omega, by omega, by omega, rfl, by go_num, hide ⟨(HBest.out.row_no hnor.out).col_yes HSbc.out HBoc.out, C2c.out, _, T2c.out⟩⟩
                case measure => simp [intOf]; omega
            · have duc : ((u' : Int) == (s : Int)) = false := by simp; omega
              have hnoc := hide (not_subs hc (s := s) (fun h => hqc (by have := HU.out; omega)))
              have dur : ((u : Int) == (s : Int)) = true := by simp; omega
              have dnr : ((s : Int) != (r : Int)) = false := by simp; omega
              have hnor := hide (not_subs hr (s := s) (fun h => h.2 hner))
              clear hner
              go_wp2
              go_roundw
              case rel => exact ⟨s + 1, b, by omega, by omega, by omega, rfl, by go_num, hide ⟨(HBest.out.row_no hnor.out).col_no hnoc.out, C0.out, _, T0.out⟩⟩
              case measure => simp [intOf]; omega
          · by_cases hqc : u' = s
            · by_cases hnec : s = c
              · have duc : ((u' : Int) == (s : Int)) = true := by simp; omega
                have dnc : ((s : Int) != (c : Int)) = false := by simp; omega
                have hnoc := hide (not_subs hc (s := s) (fun h => h.2 hnec))
                clear hnec
                have dur : ((u : Int) == (s : Int)) = true := by simp; omega
                have dnr : ((s : Int) != (r : Int)) = true := by simp; omega
                have hsubr : s ∈ T.subs r := T.mem_subs hr hlt (by omega) hner (by have := HU.out.1; omega)
                obtain ⟨m1, m2, m3, m4, m5, m6⟩ := T.subs_mem hr hsubr
                have anr := andNot_16 hr hlt
                rw [Nat.and_comm, m3] at anr
                obtain ⟨r', hpr⟩ : ∃ x, x = r - s := ⟨_, rfl⟩
                rw [← hpr] at anr m4 m5
                have HSbr := hide hsubr
                have K1r := hide fun w f h1 h2 h3 => HIH.out s c w f (by omega) (by omega) (by first | exact m1 | exact HR0.out.1) (by first | exact HR0.out.2 | exact m1) (by have := HFu.out; omega) h1 h2 h3
                have K2r := hide fun w f h1 h2 h3 => HIH.out r' c w f (by omega) (by omega) (by first | exact m4 | exact HR0.out.1) (by first | exact HR0.out.2 | exact m4) (by have := HFu.out; omega) h1 h2 h3
                have hl1r := T.len_lt HT.out (r := s) (c := c) (by omega) (by omega) (by first | exact m1 | exact HR0.out.1) (by first | exact HR0.out.2 | exact m1)
                have hl2r := T.len_lt HT.out (r := r') (c := c) (by omega) (by omega) (by first | exact m4 | exact HR0.out.1) (by first | exact HR0.out.2 | exact m4)
                have hcor : T.cost t r c 0 s = 1 + max (T.len t r' c) (T.len t s c) := by rw [hpr]; rfl
                obtain ⟨L1r, hL1r⟩ : ∃ x, x = T.len t s c := ⟨_, rfl⟩
                obtain ⟨L2r, hL2r⟩ : ∃ x, x = T.len t r' c := ⟨_, rfl⟩
                rw [← hL1r] at K1r hl1r hcor
                rw [← hL2r] at K2r hl2r hcor
                have hmxr := imax_nat L1r L2r
                obtain ⟨Mr, hMr⟩ : ∃ x, x = max L1r L2r := ⟨_, rfl⟩
                rw [← hMr] at hmxr
                rw [Nat.max_comm, ← hMr] at hcor
                have hM6r : Mr ≤ 6 := by omega
                have hmnr := imin_one b Mr
                obtain ⟨b1, hb1⟩ : ∃ x, x = min b (1 + Mr) := ⟨_, rfl⟩
                rw [← hb1] at hmnr
                have hler : b1 ≤ 100 := by omega
                have HBor : Hid (b1 = min b (T.cost t r c 0 s)) := hide (by rw [hcor]; exact hb1)
                clear hMr hb1 hL1r hL2r hcor m3 m6 hsubr hpr
                go_wp2_with fail
                refine (K1r.out _ _ C0.out T0.out.1 T0.out.2).mono ?_
                rintro e w1r ⟨rfl, c1r, f1r, t1r⟩
                have C1r := hide c1r; have T1r := hide t1r; clear c1r t1r
                go_wp2_with fail
                refine (K2r.out _ _ C1r.out T1r.out.1 T1r.out.2).mono ?_
                rintro e w2r ⟨rfl, c2r, f2r, t2r⟩
                have C2r := hide c2r; have T2r := hide t2r; clear c2r t2r
                go_wp2
                go_roundw
                case rel => exact ⟨s + 1, b1, by omega, by omega, by omega, rfl, by go_num, hide ⟨(HBest.out.row_yes HSbr.out HBor.out).col_no hnoc.out, C2r.out, _, T2r.out⟩⟩
                case measure => simp [intOf]; omega
              · have duc : ((u' : Int) == (s : Int)) = true := by simp; omega
                have dnc : ((s : Int) != (c : Int)) = true := by simp; omega
                have dur : ((u : Int) == (s : Int)) = true := by simp; omega
                have dnr : ((s : Int) != (r : Int)) = true := by simp; omega
                have hsubr : s ∈ T.subs r := T.mem_subs hr hlt (by omega) hner (by have := HU.out.1; omega)
                obtain ⟨m1, m2, m3, m4, m5, m6⟩ := T.subs_mem hr hsubr
                have anr := andNot_16 hr hlt
                rw [Nat.and_comm, m3] at anr
                obtain ⟨r', hpr⟩ : ∃ x, x = r - s := ⟨_, rfl⟩
                rw [← hpr] at anr m4 m5
                have HSbr := hide hsubr
                have K1r := hide fun w f h1 h2 h3 => HIH.out s c w f (by omega) (by omega) (by first | exact m1 | exact HR0.out.1) (by first | exact HR0.out.2 | exact m1) (by have := HFu.out; omega) h1 h2 h3
                have K2r := hide fun w f h1 h2 h3 => HIH.out r' c w f (by omega) (by omega) (by first | exact m4 | exact HR0.out.1) (by first | exact HR0.out.2 | exact m4) (by have := HFu.out; omega) h1 h2 h3
                have hl1r := T.len_lt HT.out (r := s) (c := c) (by omega) (by omega) (by first | exact m1 | exact HR0.out.1) (by first | exact HR0.out.2 | exact m1)
                have hl2r := T.len_lt HT.out (r := r') (c := c) (by omega) (by omega) (by first | exact m4 | exact HR0.out.1) (by first | exact HR0.out.2 | exact m4)
                have hcor : T.cost t r c 0 s = 1 + max (T.len t r' c) (T.len t s c) := by rw [hpr]; rfl
                obtain ⟨L1r, hL1r⟩ : ∃ x, x = T.len t s c := ⟨_, rfl⟩
                obtain ⟨L2r, hL2r⟩ : ∃ x, x = T.len t r' c := ⟨_, rfl⟩
                rw [← hL1r] at K1r hl1r hcor
                rw [← hL2r] at K2r hl2r hcor
                have hmxr := imax_nat L1r L2r
                obtain ⟨Mr, hMr⟩ : ∃ x, x = max L1r L2r := ⟨_, rfl⟩
                rw [← hMr] at hmxr
                rw [Nat.max_comm, ← hMr] at hcor
                have hM6r : Mr ≤ 6 := by omega
                have hmnr := imin_one b Mr
                obtain ⟨b1, hb1⟩ : ∃ x, x = min b (1 + Mr) := ⟨_, rfl⟩
                rw [← hb1] at hmnr
                have hler : b1 ≤ 100 := by omega
                have HBor : Hid (b1 = min b (T.cost t r c 0 s)) := hide (by rw [hcor]; exact hb1)
                clear hMr hb1 hL1r hL2r hcor m3 m6 hsubr hpr
                go_wp2_with fail
                refine (K1r.out _ _ C0.out T0.out.1 T0.out.2).mono ?_
                rintro e w1r ⟨rfl, c1r, f1r, t1r⟩
                have C1r := hide c1r; have T1r := hide t1r; clear c1r t1r
                go_wp2_with fail
                refine (K2r.out _ _ C1r.out T1r.out.1 T1r.out.2).mono ?_
                rintro e w2r ⟨rfl, c2r, f2r, t2r⟩
                have C2r := hide c2r; have T2r := hide t2r; clear c2r t2r
                have hsubc : s ∈ T.subs c := T.mem_subs hc hlt (by omega) hnec (by have := HU.out.2; omega)
                obtain ⟨m1, m2, m3, m4, m5, m6⟩ := T.subs_mem hc hsubc
                have anc := andNot_16 hc hlt
                rw [Nat.and_comm, m3] at anc
                obtain ⟨c', hpc⟩ : ∃ x, x = c - s := ⟨_, rfl⟩
                rw [← hpc] at anc m4 m5
                have HSbc := hide hsubc
                have K1c := hide fun w f h1 h2 h3 => HIH.out r s w f (by omega) (by omega) (by first | exact m1 | exact HR0.out.1) (by first | exact HR0.out.2 | exact m1) (by have := HFu.out; omega) h1 h2 h3
                have K2c := hide fun w f h1 h2 h3 => HIH.out r c' w f (by omega) (by omega) (by first | exact m4 | exact HR0.out.1) (by first | exact HR0.out.2 | exact m4) (by have := HFu.out; omega) h1 h2 h3
                have hl1c := T.len_lt HT.out (r := r) (c := s) (by omega) (by omega) (by first | exact m1 | exact HR0.out.1) (by first | exact HR0.out.2 | exact m1)
                have hl2c := T.len_lt HT.out (r := r) (c := c') (by omega) (by omega) (by first | exact m4 | exact HR0.out.1) (by first | exact HR0.out.2 | exact m4)
                have hcoc : T.cost t r c 1 s = 1 + max (T.len t r c') (T.len t r s) := by rw [hpc]; rfl
                obtain ⟨L1c, hL1c⟩ : ∃ x, x = T.len t r s := ⟨_, rfl⟩
                obtain ⟨L2c, hL2c⟩ : ∃ x, x = T.len t r c' := ⟨_, rfl⟩
                rw [← hL1c] at K1c hl1c hcoc
                rw [← hL2c] at K2c hl2c hcoc
                have hmxc := imax_nat L1c L2c
                obtain ⟨Mc, hMc⟩ : ∃ x, x = max L1c L2c := ⟨_, rfl⟩
                rw [← hMc] at hmxc
                rw [Nat.max_comm, ← hMc] at hcoc
                have hM6c : Mc ≤ 6 := by omega
                have hmnc := imin_one b1 Mc
                obtain ⟨b2, hb2⟩ : ∃ x, x = min b1 (1 + Mc) := ⟨_, rfl⟩
                rw [← hb2] at hmnc
                have hlec : b2 ≤ 100 := by omega
                have HBoc : Hid (b2 = min b1 (T.cost t r c 1 s)) := hide (by rw [hcoc]; exact hb2)
                clear hMc hb2 hL1c hL2c hcoc m3 m6 hsubc hpc
                go_wp2_with fail
                refine (K1c.out _ _ C2r.out T2r.out.1 T2r.out.2).mono ?_
                rintro e w1c ⟨rfl, c1c, f1c, t1c⟩
                have C1c := hide c1c; have T1c := hide t1c; clear c1c t1c
                go_wp2_with fail
                refine (K2c.out _ _ C1c.out T1c.out.1 T1c.out.2).mono ?_
                rintro e w2c ⟨rfl, c2c, f2c, t2c⟩
                have C2c := hide c2c; have T2c := hide t2c; clear c2c t2c
                go_wp2
                go_roundw
                case rel => exact ⟨s + 1, b2, by omega, by omega, by omega, rfl, by go_num, hide ⟨(HBest.out.row_yes HSbr.out HBor.out).col_yes HSbc.out HBoc.out, C2c.out, _, T2c.out⟩⟩
                case measure => simp [intOf]; omega
            · have duc : ((u' : Int) == (s : Int)) = false := by simp; omega
              have hnoc := hide (not_subs hc (s := s) (fun h => hqc (by have := HU.out; omega)))
              have dur : ((u : Int) == (s : Int)) = true := by simp; omega
              have dnr : ((s : Int) != (r : Int)) = true := by simp; omega
              have hsubr : s ∈ T.subs r := T.mem_subs hr hlt (by omega) hner (by have := HU.out.1; omega)
              obtain ⟨m1, m2, m3, m4, m5, m6⟩ := T.subs_mem hr hsubr
              have anr := andNot_16 hr hlt
              rw [Nat.and_comm, m3] at anr
              obtain ⟨r', hpr⟩ : ∃ x, x = r - s := ⟨_, rfl⟩
              rw [← hpr] at anr m4 m5
              have HSbr := hide hsubr
              have K1r := hide fun w f h1 h2 h3 => HIH.out s c w f (by omega) (by omega) (by first | exact m1 | exact HR0.out.1) (by first | exact HR0.out.2 | exact m1) (by have := HFu.out; omega) h1 h2 h3
              have K2r := hide fun w f h1 h2 h3 => HIH.out r' c w f (by omega) (by omega) (by first | exact m4 | exact HR0.out.1) (by first | exact HR0.out.2 | exact m4) (by have := HFu.out; omega) h1 h2 h3
              have hl1r := T.len_lt HT.out (r := s) (c := c) (by omega) (by omega) (by first | exact m1 | exact HR0.out.1) (by first | exact HR0.out.2 | exact m1)
              have hl2r := T.len_lt HT.out (r := r') (c := c) (by omega) (by omega) (by first | exact m4 | exact HR0.out.1) (by first | exact HR0.out.2 | exact m4)
              have hcor : T.cost t r c 0 s = 1 + max (T.len t r' c) (T.len t s c) := by rw [hpr]; rfl
              obtain ⟨L1r, hL1r⟩ : ∃ x, x = T.len t s c := ⟨_, rfl⟩
              obtain ⟨L2r, hL2r⟩ : ∃ x, x = T.len t r' c := ⟨_, rfl⟩
              rw [← hL1r] at K1r hl1r hcor
              rw [← hL2r] at K2r hl2r hcor
              have hmxr := imax_nat L1r L2r
              obtain ⟨Mr, hMr⟩ : ∃ x, x = max L1r L2r := ⟨_, rfl⟩
              rw [← hMr] at hmxr
              rw [Nat.max_comm, ← hMr] at hcor
              have hM6r : Mr ≤ 6 := by omega
              have hmnr := imin_one b Mr
              obtain ⟨b1, hb1⟩ : ∃ x, x = min b (1 + Mr) := ⟨_, rfl⟩
              rw [← hb1] at hmnr
              have hler : b1 ≤ 100 := by omega
              have HBor : Hid (b1 = min b (T.cost t r c 0 s)) := hide (by rw [hcor]; exact hb1)
              clear hMr hb1 hL1r hL2r hcor m3 m6 hsubr hpr
              go_wp2_with fail
              refine (K1r.out _ _ C0.out T0.out.1 T0.out.2).mono ?_
              rintro e w1r ⟨rfl, c1r, f1r, t1r⟩
              have C1r := hide c1r; have T1r := hide t1r; clear c1r t1r
              go_wp2_with fail
              refine (K2r.out _ _ C1r.out T1r.out.1 T1r.out.2).mono ?_
              rintro e w2r ⟨rfl, c2r, f2r, t2r⟩
              have C2r := hide c2r; have T2r := hide t2r; clear c2r t2r
              go_wp2
              go_roundw
              case rel => exact ⟨s + 1, b1, by omega, by omega, by omega, rfl, by go_num, hide ⟨(HBest.out.row_yes HSbr.out HBor.out).col_no hnoc.out, C2r.out, _, T2r.out⟩⟩
              case measure => simp [intOf]; omega
        · by_cases hqc : u' = s
          · by_cases hnec : s = c
            · have duc : ((u' : Int) == (s : Int)) = true := by simp; omega
              have dnc : ((s : Int) != (c : Int)) = false := by simp; omega
              have hnoc := hide (not_subs hc (s := s) (fun h => h.2 hnec))
              clear hnec
              have dur : ((u : Int) == (s : Int)) = false := by simp; omega
              have hnor := hide (not_subs hr (s := s) (fun h => hqr (by have := HU.out; omega)))
              go_wp2
              go_roundw
              case rel => exact ⟨s + 1, b, by omega, by omega, by omega, rfl, by go_num, hide ⟨(HBest.out.row_no hnor.out).col_no hnoc.out, C0.out, _, T0.out⟩⟩
              case measure => simp [intOf]; omega
            · have duc : ((u' : Int) == (s : Int)) = true := by simp; omega
              have dnc : ((s : Int) != (c : Int)) = true := by simp; omega
              have dur : ((u : Int) == (s : Int)) = false := by simp; omega
              have hnor := hide (not_subs hr (s := s) (fun h => hqr (by have := HU.out; omega)))
              have hsubc : s ∈ T.subs c := T.mem_subs hc hlt (by omega) hnec (by have := HU.out.2; omega)
              obtain ⟨m1, m2, m3, m4, m5, m6⟩ := T.subs_mem hc hsubc
              have anc := andNot_16 hc hlt
              rw [Nat.and_comm, m3] at anc
              obtain ⟨c', hpc⟩ : ∃ x, x = c - s := ⟨_, rfl⟩
              rw [← hpc] at anc m4 m5
              have HSbc := hide hsubc
              have K1c := hide fun w f h1 h2 h3 => HIH.out r s w f (by omega) (by omega) (by first | exact m1 | exact HR0.out.1) (by first | exact HR0.out.2 | exact m1) (by have := HFu.out; omega) h1 h2 h3
              have K2c := hide fun w f h1 h2 h3 => HIH.out r c' w f (by omega) (by omega) (by first | exact m4 | exact HR0.out.1) (by first | exact HR0.out.2 | exact m4) (by have := HFu.out; omega) h1 h2 h3
              have hl1c := T.len_lt HT.out (r := r) (c := s) (by omega) (by omega) (by first | exact m1 | exact HR0.out.1) (by first | exact HR0.out.2 | exact m1)
              have hl2c := T.len_lt HT.out (r := r) (c := c') (by omega) (by omega) (by first | exact m4 | exact HR0.out.1) (by first | exact HR0.out.2 | exact m4)
              have hcoc : T.cost t r c 1 s = 1 + max (T.len t r c') (T.len t r s) := by rw [hpc]; rfl
              obtain ⟨L1c, hL1c⟩ : ∃ x, x = T.len t r s := ⟨_, rfl⟩
              obtain ⟨L2c, hL2c⟩ : ∃ x, x = T.len t r c' := ⟨_, rfl⟩
              rw [← hL1c] at K1c hl1c hcoc
              rw [← hL2c] at K2c hl2c hcoc
              have hmxc := imax_nat L1c L2c
              obtain ⟨Mc, hMc⟩ : ∃ x, x = max L1c L2c := ⟨_, rfl⟩
              rw [← hMc] at hmxc
              rw [Nat.max_comm, ← hMc] at hcoc
              have hM6c : Mc ≤ 6 := by omega
              have hmnc := imin_one b Mc
              obtain ⟨b2, hb2⟩ : ∃ x, x = min b (1 + Mc) := ⟨_, rfl⟩
              rw [← hb2] at hmnc
              have hlec : b2 ≤ 100 := by omega
              have HBoc : Hid (b2 = min b (T.cost t r c 1 s)) := hide (by rw [hcoc]; exact hb2)
              clear hMc hb2 hL1c hL2c hcoc m3 m6 hsubc hpc
              go_wp2_with fail
              refine (K1c.out _ _ C0.out T0.out.1 T0.out.2).mono ?_
              rintro e w1c ⟨rfl, c1c, f1c, t1c⟩
              have C1c := hide c1c; have T1c := hide t1c; clear c1c t1c
              go_wp2_with fail
              refine (K2c.out _ _ C1c.out T1c.out.1 T1c.out.2).mono ?_
              rintro e w2c ⟨rfl, c2c, f2c, t2c⟩
              have C2c := hide c2c; have T2c := hide t2c; clear c2c t2c
              go_wp2
              go_roundw
              case rel => exact ⟨s + 1, b2, by omega, by omega, by omega, rfl, by go_num, hide ⟨(HBest.out.row_no hnor.out).col_yes HSbc.out HBoc.out, C2c.out, _, T2c.out⟩⟩
              case measure => simp [intOf]; omega
          · have duc : ((u' : Int) == (s : Int)) = false := by simp; omega
            have hnoc := hide (not_subs hc (s := s) (fun h => hqc (by have := HU.out; omega)))
            have dur : ((u : Int) == (s : Int)) = false := by simp; omega
            have hnor := hide (not_subs hr (s := s) (fun h => hqr (by have := HU.out; omega)))
            go_wp2
            go_roundw
            case rel => exact ⟨s + 1, b, by omega, by omega, by omega, rfl, by go_num, hide ⟨(HBest.out.row_no hnor.out).col_no hnoc.out, C0.out, _, T0.out⟩⟩
            case measure => simp [intOf]; omega
      · have d1 : decide ((s : Int) < 16) = false := by simp; omega
        obtain rfl : s = 16 := by omega
        have E : Hid (b = L) := hide (by rw [HL.out]; exact hI.out.1.fin HT.out hr hc HR0.out.1 HR0.out.2 HK.out.symm)
        obtain ⟨_, C2, f2, hf2⟩ := hI.out
        have HF2 := hide hf2
        have CC := hide C2
        have lB2 := hf2.1.lt
        have fr2 := hf2.1.free (r * 16 + c)
        have fc2 := hf2.1.cell (i := r * 16 + c) (by omega)
        clear hf2 C2 hI
        go_wp2
        go_ret
        refine ⟨by rw [E.out]; rfl, CC.out.setCell (.inr HB.out) _, _, HF2.out.1.set _ _ (fun j _ => rfl), ?_⟩
        have h := HF2.out.2.set (r := r) (c := c) hr hc
        rw [← HL.out, ← E.out] at h
        exact h
end Go.Proofs.Ytaapamoglgpocaa

/- Walk: Length, the reference's. -/
namespace Go.Proofs.Ytaapamoglgpocaa
open Go.RowKit

theorem zero_cells : Try.zeroCells79 = Array.replicate 256 (.int .i64 0) := by kernel_rfl
theorem rlength_all (w0 : World) (B : Nat) (vt : Value) (t : List (List Int)) (hv : See2 w0 vt t) (ht : T.isTab t = true) (hB : w0.heap.size ≤ B) : ∀ F, RLenOk w0 B vt t F
  | 0 => fun _ _ _ _ _ _ _ _ h => absurd h (Nat.not_lt_zero _)
  | F + 1 => rlength_more w0 B vt t F hv ht hB (rlength_all w0 B vt t hv ht hB F)

set_option maxRecDepth 100000 in
set_option maxHeartbeats 1000000 in
theorem RLength_any (v : Value) (t : List (List Int)) (w : World) (hv : See2 w v t) (ht : T.isTab t = true) :
    Calls Try.prog 25 #[v] w (Ret (.int .i64 (T.len t (2 ^ t.length - 1) (2 ^ T.cols t - 1) : Int)) w) := by
  have HAll := hide fun B (hB : w.heap.size ≤ B) => rlength_all w B v t hv ht hB (2 ^ t.length - 1 + (2 ^ T.cols t - 1) + 1)
  obtain ⟨⟨t1, t2, t3, t4⟩, _⟩ := T.isTab_iff.1 ht
  have r1 := hide (whole_lt t1 t2)
  have r2 := hide (whole_lt t3 t4)
  have hne : t ≠ [] := by rintro rfl; simp at t1
  obtain ⟨a, cap, rfl, _, hc⟩ := hv.open hne
  obtain ⟨bo, bc, h0⟩ := hc 0 (by omega)
  rw [add_nought, row0] at h0
  have f0 := (h0 w (Chg.refl _ _)).1
  have H0 := hide h0
  obtain ⟨p1, p2⟩ := pow_le16 t2
  obtain ⟨q1, q2⟩ := pow_le16 t4
  have e1 : (2 : Int) ^ t.length = ((2 ^ t.length : Nat) : Int) := by simp
  have e2 : (2 : Int) ^ T.cols t = ((2 ^ T.cols t : Nat) : Int) := by simp
  have n64 : (t.length : Int) ≤ 64 := by omega
  have m64 : (T.cols t : Int) ≤ 64 := by omega
  obtain ⟨rr, hrr⟩ : ∃ x, x = 2 ^ t.length - 1 := ⟨_, rfl⟩
  obtain ⟨cc, hcc⟩ : ∃ x, x = 2 ^ T.cols t - 1 := ⟨_, rfl⟩
  have s1 : ((2 ^ t.length : Nat) : Int) - 1 = (rr : Int) := by omega
  have s2 : ((2 ^ T.cols t : Nat) : Int) - 1 = (cc : Int) := by omega
  rw [← hrr, ← hcc] at HAll ⊢
  rw [← hrr] at r1
  rw [← hcc] at r2
  have w1 : IntKind.i64.wrap (2 ^ t.length) = ((2 ^ t.length : Nat) : Int) := by rw [e1]; exact wraps_i64 _ (by omega) (by omega)
  have w2 : IntKind.i64.wrap (2 ^ T.cols t) = ((2 ^ T.cols t : Nat) : Int) := by rw [e2]; exact wraps_i64 _ (by omega) (by omega)
  have w3 : IntKind.i64.wrap (((2 ^ t.length : Nat) : Int) - 1) = (rr : Int) := by rw [s1]; exact wraps_i64 _ (by omega) (by omega)
  have w4 : IntKind.i64.wrap (((2 ^ T.cols t : Nat) : Int) - 1) = (cc : Int) := by rw [s2]; exact wraps_i64 _ (by omega) (by omega)
  clear s1 s2 e1 e2
  generalize 2 ^ t.length = P at *
  generalize 2 ^ T.cols t = Q at *
  clear hrr hcc
  clear hc h0 hv hne ht
  generalize T.cols t = m at *
  generalize t.length = n at *
  have hn1 : 0 < n := by omega
  go_enter Try.func25, Try.ntmps25
  go_wp2
  have f1 := (H0.out _ ((Chg.refl [] w).alloc (.cells Try.zeroCells79 79))).1
  have BX := hide (Box.new w Try.zeroCells79 79)
  have C1 : Hid (Chg [] w (w.alloc (.cells Try.zeroCells79 79))) := hide ((Chg.refl [] w).alloc _)
  have HA := hide (HAll.out w.heap.size (Nat.le_refl _))
  generalize w.alloc (.cells Try.zeroCells79 79) = W1 at f1 BX C1 ⊢
  generalize w.heap.size = B at BX HA ⊢
  go_still_tail 11, (by kernel_rfl)
  try change wpList _ _ _ _ _ W1.drew
  have C2 : Hid (Chg [] w W1.drew) := hide C1.out.drew
  have T2 : Hid (RTab W1.drew B (fun _ => 0)) := hide ⟨_, BX.out, by kernel_rfl, fun i hi => by rw [zero_cells, Array.getElem?_replicate, if_pos hi]⟩
  generalize W1.drew = W2 at C2 T2 ⊢
  go_wp2_with fail
  refine (HA.out rr cc W2 _ r1.out.1 r2.out.1 r1.out.2 r2.out.2 (by omega) C2.out T2.out (fun _ _ _ _ _ _ => .inl rfl)).mono ?_
  rintro e w3 ⟨rfl, c3, _⟩
  go_wp2
  go_ret
  exact ⟨rfl, c3⟩
end Go.Proofs.Ytaapamoglgpocaa
