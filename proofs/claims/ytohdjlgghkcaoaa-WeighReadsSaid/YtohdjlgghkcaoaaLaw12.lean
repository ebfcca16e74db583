/- Walk: the statement WeighReads. -/
import Derived.Test.YtohdjlgghkcaoaaS10
import Derived.Test.YtohdjlgghkcaoaaOpen2
namespace Go.Proofs.Ytohdjlgghkcaoaa
open Go.RowKit

theorem see2_one {ws : World} {ao : Option Addr} {n cap : Nat} {res : List Int} (h : See ws (.slice ao n cap) res) : See2 (ws.alloc (.cells #[.slice ao n cap] 51)) (.slice (some ⟨ws.heap.size, 0, none⟩) 1 1) [res] :=
  ⟨_, 1, rfl, Nat.le_refl _, fun _ => ⟨_, rfl, (Box.new ws _ _).lt, fun i hi => by
    obtain rfl : i = 0 := by simp at hi; omega
    exact ⟨_, by rw [add_zero_row, (Box.new ws _ _).cell 0]; rfl, h.keep ((Chg.refl _ _).alloc _)⟩⟩⟩

theorem cut_short {t : List (List Int)} : (∀ r ∈ W.cut t, r.length ≤ 1000000) ∧ (W.cut t).length ≤ 1000000 := by
  refine ⟨fun r hr => ?_, by rw [W.cut_len]; omega⟩
  obtain ⟨r', _, rfl⟩ := List.mem_map.1 hr
  rw [List.length_take]; omega
theorem one_iff {res : List Int} : W.isTab [res] = true ↔ 1 ≤ res.length ∧ res.length ≤ 4 ∧ ∀ x ∈ res, -1 ≤ x ∧ x ≤ 1 := by
  rw [W.isTab_iff]
  have hc : W.cols [res] = res.length := rfl
  rw [hc]
  simp only [List.length_singleton, List.mem_singleton, forall_eq, W.rowOk_iff]
  constructor
  · rintro ⟨⟨_, _, h1, h2⟩, _, h3⟩; exact ⟨h1, h2, h3⟩
  · rintro ⟨h1, h2, h3⟩; exact ⟨⟨by omega, by omega, h1, h2⟩, trivial, h3⟩
theorem readP_no {t : List (List Int)} {res : List Int} (h : ¬ (W.isTab t = true ∧ W.isTab [res] = true ∧ res.length = W.cols t)) : readP (W.cut t) (res.take 16) = (0, 0, 2) := by
  unfold readP
  rw [if_neg]
  rintro ⟨h1, h2⟩
  rw [W.isTab_cut] at h1
  rw [W.cut_of_isTab h1] at h2
  obtain ⟨⟨_, _, c1, c2⟩, _⟩ := W.isTab_iff.1 h1
  obtain ⟨r1, r2⟩ := W.rowOk_iff.1 h2
  rw [List.length_take] at r1
  have e : res.take 16 = res := List.take_of_length_le (by omega)
  rw [e] at r2
  exact h ⟨h1, one_iff.2 ⟨by omega, by omega, r2⟩, by omega⟩
theorem readP_yes {t : List (List Int)} {res : List Int} (h1 : W.isTab t = true) (h2 : W.isTab [res] = true) (h3 : res.length = W.cols t) : readP (W.cut t) (res.take 16) = W.readT t res ∧ W.rowOk (W.cols t) res = true := by
  obtain ⟨a, b, c⟩ := one_iff.1 h2
  have hr : W.rowOk (W.cols t) res = true := W.rowOk_iff.2 ⟨h3, c⟩
  refine ⟨?_, hr⟩
  unfold readP
  rw [W.cut_of_isTab h1, List.take_of_length_le (by omega), if_pos ⟨h1, hr⟩]

set_option maxRecDepth 100000 in
set_option maxHeartbeats 2000000 in
theorem walk_reads (v u : Value) (t : List (List Int)) (res : List Int) (w : World) (hv : See2 w v t) (hu : See w u res) (ht : t.length ≤ 9223372036854775807) (hr : ∀ r ∈ t, r.length ≤ 9223372036854775807) (hl : res.length ≤ 9223372036854775807) :
    Calls Try.prog 12 #[v, u] w (Ret (.bool true) w) := by
  have HT1 := hide (table_any v t w hv ht)
  have HL1 := hide fun ws (hw : Chg [] w ws) => list_any u res ws (hu.keep hw)
  have HTb := hide fun ws (hw : Chg [] w ws) => Table_any v t ws (hv.keep hw) hr
  obtain ⟨uo, ucap, rfl⟩ := hu.shape
  have HTo := hide fun ws (hw : Chg [] w ws) => Table_any _ [res] _ (see2_one (hu.keep hw)) (fun r hr => by rw [List.mem_singleton.1 hr]; exact hl)
  have hcs := cut_short (t := t)
  have HRd := hide fun v' u' ws (h1 : See2 ws v' (W.cut t)) (h2 : See ws u' (res.take 16)) => Read_any v' u' (W.cut t) (res.take 16) ws h1 h2 hcs.1 hcs.2 (by rw [List.length_take]; omega)
  have HU := hide hu
  have HV := hide hv
  clear hu ht hr hcs
  go_enter Try.func12, Try.ntmps12
  go_wp2_with fail
  refine HT1.out.mono ?_
  rintro e w1 ⟨v1, rfl, hI1, hw1⟩
  have HI1 := hide hI1
  have C1 := hide hw1
  clear hI1 hw1
  go_wp2_with fail
  refine (HL1.out _ C1.out).mono ?_
  rintro e w2 ⟨u1, rfl, hI2, hw2⟩
  have HI1' := hide (HI1.out.keep hw2)
  have HI2 := hide hI2
  have C2 : Hid (Chg [] w w2) := hide (C1.out.trans hw2)
  clear hI2 hw2 HI1
  go_wp2_with fail
  refine (HRd.out _ _ _ HI1'.out HI2.out.toSee).mono ?_
  rintro e w3 ⟨rfl, hw3⟩
  have C3 : Hid (Chg [] w w3) := hide (C2.out.trans hw3)
  clear hw3
  unfold readV
  by_cases hall : W.isTab t = true ∧ W.isTab [res] = true ∧ res.length = W.cols t
  · obtain ⟨h1, h2, h3⟩ := hall
    obtain ⟨hp, hrk⟩ := readP_yes h1 h2 h3
    rw [hp]
    rw [h1] at HTb
    rw [h2] at HTo
    have hlen := (W.isTab_iff.1 h1).1
    have hne : t ≠ [] := by rintro rfl; simp at hlen
    obtain ⟨a, cap, rfl, _, hc⟩ := hv.open hne
    obtain ⟨bo, bc, h0⟩ := hc 0 (by omega)
    rw [add_nought, row0] at h0
    have H0 := hide h0
    have HRR := hide fun ws (hw : Chg [] w ws) => RRead_any _ _ t res ws (HV.out.keep hw) (HU.out.keep hw) h1 hrk
    unfold readV at HRR
    rw [h3] at HTo HRR ⊢
    have d0 : ((W.cols t : Int) == (W.cols t : Int)) = true := by simp
    have hpos : 0 < t.length := by omega
    clear hv h1 h2 h3 hp hrk hlen hne hc h0 hl
    generalize W.readT t res = x at *
    obtain ⟨x1, x2, x3⟩ := x
    simp only [] at HRR ⊢
    have e1 : (x1 == x1) = true := by simp
    have e2 : (x2 == x2) = true := by simp
    have e3 : (x3 == x3) = true := by simp
    generalize W.cols t = c at *
    generalize t.length = n at *
    go_wp2_with fail
    refine (HTb.out _ C3.out).mono ?_
    rintro e w4 ⟨rfl, hw4⟩
    have C4 : Hid (Chg [] w w4) := hide (C3.out.trans hw4)
    clear hw4
    go_wp2_with fail
    refine (HTo.out _ C4.out).mono ?_
    rintro e w5 ⟨rfl, hw5⟩
    have C5 : Hid (Chg [] w w5) := hide ((C4.out.alloc _).trans hw5)
    clear hw5
    have f0 := (H0.out _ C5.out).1
    go_wp2_with fail
    refine (HRR.out _ C5.out).mono ?_
    rintro e w6 ⟨rfl, hw6⟩
    go_wp2_with fail
    refine (awake_any _).mono ?_
    rintro e w7 ⟨rfl, hw7⟩
    go_wp2
    go_ret
    exact ⟨rfl, (C5.out.trans hw6).trans hw7⟩
  · rw [readP_no hall]
    simp only []
    cases h1 : W.isTab t with
    | false =>
      rw [h1] at HTb
      clear hv h1 hl hall
      go_wp2_with fail
      refine (HTb.out _ C3.out).mono ?_
      rintro e w4 ⟨rfl, hw4⟩
      go_wp2_with fail
      refine (awake_any _).mono ?_
      rintro e w7 ⟨rfl, hw7⟩
      go_wp2
      go_ret
      exact ⟨rfl, (C3.out.trans hw4).trans hw7⟩
    | true =>
      rw [h1] at HTb
      cases h2 : W.isTab [res] with
      | false =>
        rw [h2] at HTo
        clear hv h1 h2 hl hall
        generalize res.length = L at *
        go_wp2_with fail
        refine (HTb.out _ C3.out).mono ?_
        rintro e w4 ⟨rfl, hw4⟩
        have C4 : Hid (Chg [] w w4) := hide (C3.out.trans hw4)
        clear hw4
        go_wp2_with fail
        refine (HTo.out _ C4.out).mono ?_
        rintro e w5 ⟨rfl, hw5⟩
        have C5 : Hid (Chg [] w w5) := hide ((C4.out.alloc _).trans hw5)
        clear hw5
        go_wp2_with fail
        refine (awake_any _).mono ?_
        rintro e w7 ⟨rfl, hw7⟩
        go_wp2
        go_ret
        exact ⟨rfl, C5.out.trans hw7⟩
      | true =>
        rw [h2] at HTo
        have h3 : res.length ≠ W.cols t := fun h => hall ⟨h1, h2, h⟩
        have d0 : ((res.length : Int) == (W.cols t : Int)) = false := by simp; omega
        have hlen := (W.isTab_iff.1 h1).1
        have hne : t ≠ [] := by rintro rfl; simp at hlen
        obtain ⟨a, cap, rfl, _, hc⟩ := hv.open hne
        obtain ⟨bo, bc, h0⟩ := hc 0 (by omega)
        rw [add_nought, row0] at h0
        have H0 := hide h0
        have hpos : 0 < t.length := by omega
        clear hv h1 h2 h3 hl hall hlen hne hc h0
        generalize res.length = L at *
        generalize W.cols t = c at *
        generalize t.length = n at *
        go_wp2_with fail
        refine (HTb.out _ C3.out).mono ?_
        rintro e w4 ⟨rfl, hw4⟩
        have C4 : Hid (Chg [] w w4) := hide (C3.out.trans hw4)
        clear hw4
        go_wp2_with fail
        refine (HTo.out _ C4.out).mono ?_
        rintro e w5 ⟨rfl, hw5⟩
        have C5 : Hid (Chg [] w w5) := hide ((C4.out.alloc _).trans hw5)
        clear hw5
        have f0 := (H0.out _ C5.out).1
        go_wp2_with fail
        refine (awake_any _).mono ?_
        rintro e w7 ⟨rfl, hw7⟩
        go_wp2
        go_ret
        exact ⟨rfl, C5.out.trans hw7⟩

theorem weighReads_walk (v0 v1 : Value) (w : World) (h0 : IsRows w v0) (h1 : IsInts w v1) : Calls Try.prog 12 #[v0, v1] w (Ret (.bool true) w) := by
  obtain ⟨t, ht, h2, h3⟩ := h0
  obtain ⟨xs, hx, h4⟩ := h1
  exact walk_reads v0 v1 t xs w ht hx h2 h3 h4
end Go.Proofs.Ytohdjlgghkcaoaa
