/- Walks: what is a plan, the reference's. -/
import Derived.Test.YtohdjlgghkcaoaaS7
namespace Go.Proofs.Ytohdjlgghkcaoaa
open Go.RowKit

theorem isTab_row {t : List (List Int)} {i : Nat} (hi : i < t.length) (h : W.rowOk (W.cols t) (t.getD i []) = false) : W.isTab t = false := by
  rw [Bool.eq_false_iff]
  intro h'
  have := (W.isTab_iff.1 h').2 _ (W.row_mem hi)
  rw [h] at this; cases this
theorem isTab_of {t : List (List Int)} (h : 1 ≤ t.length ∧ t.length ≤ 13 ∧ 1 ≤ W.cols t ∧ W.cols t ≤ 4) (hr : ∀ i, i < t.length → W.rowOk (W.cols t) (t.getD i []) = true) : W.isTab t = true :=
  W.isTab_iff.2 ⟨h, fun r hm => by
    obtain ⟨i, hi, he⟩ := List.getElem_of_mem hm
    have := hr i hi
    rw [List.getD_eq_getElem?_getD, List.getElem?_eq_getElem hi] at this
    simpa [he] using this⟩
theorem rowOk_not {c : Nat} {r : List Int} {i : Nat} (hi : i < r.length) (h : ¬ (-1 ≤ r.getD i 0 ∧ r.getD i 0 ≤ 1)) : W.rowOk c r = false := by
  rw [Bool.eq_false_iff]
  intro h'
  exact h ((W.rowOk_iff.1 h').2 _ (getD_mem hi))
theorem rowOk_of {c : Nat} {r : List Int} (hc : r.length = c) (h : ∀ i, i < r.length → -1 ≤ r.getD i 0 ∧ r.getD i 0 ≤ 1) : W.rowOk c r = true :=
  W.rowOk_iff.2 ⟨hc, fun x hx => by
    obtain ⟨i, hi, he⟩ := List.getElem_of_mem hx
    have := h i hi
    rw [List.getD_eq_getElem?_getD, List.getElem?_eq_getElem hi] at this
    simpa [he] using this⟩
theorem rowOk_len {c : Nat} {r : List Int} (h : r.length ≠ c) : W.rowOk c r = false := by
  rw [Bool.eq_false_iff]
  intro h'
  exact h (W.rowOk_iff.1 h').1

set_option maxRecDepth 100000 in
set_option maxHeartbeats 1000000 in
theorem Table_bad (v : Value) (t : List (List Int)) (w : World) (hv : See2 w v t) (hbad : ¬ (1 ≤ t.length ∧ t.length ≤ 13 ∧ 1 ≤ W.cols t ∧ W.cols t ≤ 4)) :
    Calls Try.prog 44 #[v] w (Ret (.bool false) w) := by
  obtain ⟨ao, cap, rfl⟩ := hv.shape
  by_cases h1 : t.length < 1
  · have d1 : decide ((t.length : Int) < 1) = true := by simp; omega
    clear hv hbad
    generalize t.length = n at *
    go_enter Try.func44, Try.ntmps44
    go_wp2
    go_ret
    exact ⟨rfl, Chg.refl _ _⟩
  · have d1 : decide ((t.length : Int) < 1) = false := by simp; omega
    by_cases h2 : 13 < t.length
    · have d2 : decide ((13 : Int) < (t.length : Int)) = true := by simp; omega
      clear hv hbad
      generalize t.length = n at *
      go_enter Try.func44, Try.ntmps44
      go_wp2
      go_ret
      exact ⟨rfl, Chg.refl _ _⟩
    · have d2 : decide ((13 : Int) < (t.length : Int)) = false := by simp; omega
      have hne : t ≠ [] := by rintro rfl; simp at h1
      obtain ⟨a, cap', e, _, hc⟩ := hv.open hne
      cases e
      obtain ⟨bo, bc, h0⟩ := hc 0 (by omega)
      have f0 := (h0 _ (Chg.refl [] w)).1
      rw [add_nought, row0] at f0
      by_cases h3 : W.cols t < 1
      · have d3 : decide ((W.cols t : Int) < 1) = true := by simp; omega
        clear hv hc h0 hne hbad
        generalize W.cols t = c at *
        generalize t.length = n at *
        go_enter Try.func44, Try.ntmps44
        go_wp2
        go_ret
        exact ⟨rfl, Chg.refl _ _⟩
      · have d3 : decide ((W.cols t : Int) < 1) = false := by simp; omega
        have h4 : 4 < W.cols t := by omega
        have d4 : decide ((4 : Int) < (W.cols t : Int)) = true := by simp; omega
        clear hv hc h0 hne hbad
        generalize W.cols t = c at *
        generalize t.length = n at *
        go_enter Try.func44, Try.ntmps44
        go_wp2
        go_ret
        exact ⟨rfl, Chg.refl _ _⟩

set_option maxRecDepth 100000 in
set_option maxHeartbeats 1000000 in
theorem Table_good (v : Value) (t : List (List Int)) (w : World) (hv : See2 w v t) (hl : ∀ r ∈ t, r.length ≤ 9223372036854775807) (hok : 1 ≤ t.length ∧ t.length ≤ 13 ∧ 1 ≤ W.cols t ∧ W.cols t ≤ 4) :
    Calls Try.prog 44 #[v] w (Ret (.bool (W.isTab t)) w) := by
  have HOk := hide hok
  obtain ⟨t1, t2, t3, t4⟩ := hok
  have hne : t ≠ [] := by rintro rfl; simp at t1
  obtain ⟨a, cap, rfl, _, hc⟩ := hv.open hne
  obtain ⟨bo, bc, h0⟩ := hc 0 (by omega)
  have d1 : decide ((t.length : Int) < 1) = false := by simp; omega
  have d2 : decide ((13 : Int) < (t.length : Int)) = false := by simp; omega
  have d3 : decide ((W.cols t : Int) < 1) = false := by simp; omega
  have d4 : decide ((4 : Int) < (W.cols t : Int)) = false := by simp; omega
  rw [add_nought, row0] at h0
  have f0 := (h0 w (Chg.refl _ _)).1
  have H0 := hide h0
  have HC := hide hc
  have HLn := hide hl
  clear hc h0 hv hne hl
  obtain ⟨c, hce⟩ : ∃ c, c = W.cols t := ⟨_, rfl⟩
  rw [← hce] at f0 t3 t4 d3 d4 H0
  have HCe := hide hce
  obtain ⟨n, hn⟩ : ∃ n, n = t.length := ⟨_, rfl⟩
  rw [← hn] at t1 t2 d1 d2 ⊢
  have HN := hide hn
  clear hce hn
  go_enter Try.func44, Try.ntmps44
  go_wp2
  go_loopw [31] (fun i wr => ∃ j : Nat, j ≤ n ∧ i = .int .i64 (j : Int) ∧ Hid ((∀ q, q < j → W.rowOk c (t.getD q []) = true) ∧ Chg [] w wr)) (fun i _ => (n - (intOf i).toNat))
  case atStart => exact ⟨0, Nat.zero_le _, rfl, hide ⟨fun q h => by omega, Chg.refl _ _⟩⟩
  case round =>
    obtain ⟨j, hj, rfl, hI⟩ := hrel
    by_cases hlt : j < n
    · have e1 : decide ((j : Int) < (n : Int)) = true := by simpa using hlt
      have hjn : j < t.length := by rw [← HN.out]; exact hlt
      obtain ⟨ro, rc, hrow⟩ := HC.out j hjn
      obtain ⟨fr, hs⟩ := hrow wr hI.out.2
      have hlm := HLn.out _ (W.row_mem hjn)
      have HJn := hide hjn
      obtain ⟨L, hL⟩ : ∃ L, L = (t.getD j []).length := ⟨_, rfl⟩
      rw [← hL] at fr hs hrow hlm
      have HLe := hide hL
      have HS := hide hs
      clear hrow hs hjn hL f0
      go_wp2
      go_loopw [37] (fun i ws => ∃ q : Nat, q ≤ L ∧ i = .int .i64 (q : Int) ∧ Hid ((∀ p, p < q → -1 ≤ (t.getD j []).getD p 0 ∧ (t.getD j []).getD p 0 ≤ 1) ∧ Chg [] wr ws)) (fun i _ => (L - (intOf i).toNat))
      case atStart => exact ⟨0, Nat.zero_le _, rfl, hide ⟨fun q h => by omega, Chg.refl _ _⟩⟩
      case round =>
        obtain ⟨q, hq, rfl, hJ⟩ := hrel
        by_cases hlq : q < L
        · have e2 : decide ((q : Int) < (L : Int)) = true := by simpa using hlq
          have hrn : t.getD j [] ≠ [] := by intro h; have := HLe.out; rw [h] at this; simp at this; omega
          obtain ⟨ra, rcap, e, hcell⟩ := HS.out.open hrn
          cases e
          have fx := hcell _ hJ.out.2 q (by rw [← HLe.out]; exact hlq)
          obtain ⟨x, hxe⟩ : ∃ x, x = (t.getD j []).getD q 0 := ⟨_, rfl⟩
          rw [← hxe] at fx
          have HXE := hide hxe
          clear hcell hrn hxe
          by_cases hx1 : x < -1
          · have e3 : decide (x < -1) = true := by simpa using hx1
            have E : Hid (W.isTab t = false) := hide (isTab_row HJn.out (rowOk_not (i := q) (by rw [← HLe.out]; exact hlq) (by rw [← HXE.out]; omega)))
            go_wp2
            go_ret
            exact ⟨by rw [E.out]; rfl, hI.out.2.trans hJ.out.2⟩
          · have e3 : decide (x < -1) = false := by simpa using hx1
            by_cases hx2 : 1 < x
            · have e4 : decide (1 < x) = true := by simpa using hx2
              have E : Hid (W.isTab t = false) := hide (isTab_row HJn.out (rowOk_not (i := q) (by rw [← HLe.out]; exact hlq) (by rw [← HXE.out]; omega)))
              go_wp2
              go_ret
              exact ⟨by rw [E.out]; rfl, hI.out.2.trans hJ.out.2⟩
            · have e4 : decide (1 < x) = false := by simpa using hx2
              have HX := hide (And.intro hx1 hx2)
              go_wp2
              go_roundw
              case rel => exact ⟨q + 1, by omega, by go_num, hide ⟨fun p hp => by
                rcases (show p < q ∨ p = q by omega) with h | rfl
                · exact hJ.out.1 p h
                · rw [← HXE.out]; have := HX.out; omega, hJ.out.2⟩⟩
              case measure => simp [intOf]; omega
        · have e2 : decide ((q : Int) < (L : Int)) = false := by simpa using hlq
          obtain rfl : q = L := by omega
          have f1 := (H0.out _ (hI.out.2.trans hJ.out.2)).1
          by_cases hlc : q = c
          · have e3 : ((q : Int) == (c : Int)) = true := by rw [hlc]; simp
            have HLc := hide hlc
            clear hlc
            go_wp2
            go_roundw
            case rel => exact ⟨j + 1, by omega, by go_num, hide ⟨fun p hp => by
              rcases (show p < j ∨ p = j by omega) with h | rfl
              · exact hI.out.1 p h
              · exact rowOk_of (HLe.out.symm.trans HLc.out) (by rw [← HLe.out]; exact hJ.out.1), hI.out.2.trans hJ.out.2⟩⟩
            case measure => simp [intOf]; omega
          · have e3 : ((q : Int) == (c : Int)) = false := by simp; omega
            have E : Hid (W.isTab t = false) := hide (isTab_row HJn.out (by rw [← HCe.out]; exact rowOk_len (by rw [← HLe.out]; exact hlc)))
            go_wp2
            go_ret
            exact ⟨by rw [E.out]; rfl, hI.out.2.trans hJ.out.2⟩
    · have e1 : decide ((j : Int) < (n : Int)) = false := by simpa using hlt
      have E : Hid (W.isTab t = true) := hide (isTab_of HOk.out fun i hi => by rw [← HCe.out]; exact hI.out.1 i (by rw [← HN.out] at hi; omega))
      go_wp2
      go_ret
      exact ⟨by rw [E.out]; rfl, hI.out.2⟩

theorem Table_any (v : Value) (t : List (List Int)) (w : World) (hv : See2 w v t) (hl : ∀ r ∈ t, r.length ≤ 9223372036854775807) :
    Calls Try.prog 44 #[v] w (Ret (.bool (W.isTab t)) w) := by
  by_cases h : 1 ≤ t.length ∧ t.length ≤ 13 ∧ 1 ≤ W.cols t ∧ W.cols t ≤ 4
  · exact Table_good v t w hv hl h
  · rw [isTab_false h]
    exact Table_bad v t w hv h

set_option maxRecDepth 100000 in
set_option maxHeartbeats 1000000 in
theorem same_any (v u : Value) (xs ys : List Int) (s : Int) (w : World) (hv : See w v xs) (hu : See w u ys) (hl : xs.length ≤ 1000000) (he : ys.length = xs.length) (hs : s = 1 ∨ s = -1) (hx : ∀ x ∈ xs, -1 ≤ x ∧ x ≤ 1) :
    Calls Try.prog 70 #[v, u, .int .i64 s] w (Ret (.bool (decide (ys = xs.map (fun x => s * x)))) w) := by
  obtain ⟨ao, cap, rfl⟩ := hv.shape
  obtain ⟨bo, cap', rfl⟩ := hu.shape
  have HV := hide hv
  have HU := hide hu
  have HE := hide he
  have HX := hide hx
  have hsb : ∀ x : Int, -1 ≤ x ∧ x ≤ 1 → -1 ≤ s * x ∧ s * x ≤ 1 := fun x hx => by rcases hs with rfl | rfl <;> omega
  have HSb := hide hsb
  have hs1 : -1 ≤ s := by omega
  have hs2 : s ≤ 1 := by omega
  rw [he]
  clear hv hu he hx hsb hs
  obtain ⟨n, hn⟩ : ∃ n, n = xs.length := ⟨_, rfl⟩
  rw [← hn] at hl ⊢
  have HN := hide hn
  clear hn
  go_enter Try.func70, Try.ntmps70
  go_wp2
  go_loopw [11] (fun i wr => ∃ j : Nat, j ≤ n ∧ i = .int .i64 (j : Int) ∧ Hid ((∀ q, q < j → ys.getD q 0 = s * xs.getD q 0) ∧ Chg [] w wr)) (fun i _ => (n - (intOf i).toNat))
  case atStart => exact ⟨0, Nat.zero_le _, rfl, hide ⟨fun q h => by omega, Chg.refl _ _⟩⟩
  case round =>
    obtain ⟨j, hj, rfl, hI⟩ := hrel
    by_cases hlt : j < n
    · have e1 : decide ((j : Int) < (n : Int)) = true := by simpa using hlt
      have nx : xs ≠ [] := fun h => by have := HN.out; rw [h] at this; simp at this; omega
      have ny : ys ≠ [] := fun h => by have := HE.out; rw [h, ← HN.out] at this; simp at this; omega
      obtain ⟨a, _, e, hc⟩ := HV.out.open nx
      cases e
      obtain ⟨b, _, e, hd⟩ := HU.out.open ny
      cases e
      have fx := hc _ hI.out.2 j (by rw [← HN.out]; exact hlt)
      have fy := hd _ hI.out.2 j (by rw [HE.out, ← HN.out]; exact hlt)
      obtain ⟨x1, x2⟩ := HX.out _ (getD_mem (i := j) (by rw [← HN.out]; exact hlt))
      obtain ⟨x, hxe⟩ : ∃ x, x = xs.getD j 0 := ⟨_, rfl⟩
      obtain ⟨y, hye⟩ : ∃ y, y = ys.getD j 0 := ⟨_, rfl⟩
      rw [← hxe] at fx x1 x2
      rw [← hye] at fy
      obtain ⟨s1, s2⟩ := HSb.out x ⟨x1, x2⟩
      have HXE := hide (And.intro hxe hye)
      clear nx ny hc hd hxe hye
      by_cases hxy : y = s * x
      · have e2 : (y == s * x) = true := by simpa using hxy
        have HXY := hide hxy
        clear hxy
        go_wp2
        go_roundw
        case rel => exact ⟨j + 1, by omega, by go_num, hide ⟨fun q hq => by
          rcases (show q < j ∨ q = j by omega) with h | rfl
          · exact hI.out.1 q h
          · rw [← HXE.out.1, ← HXE.out.2]; exact HXY.out, hI.out.2⟩⟩
        case measure => simp [intOf]; omega
      · have e2 : (y == s * x) = false := by simpa using hxy
        have E : Hid (ys ≠ xs.map (fun x => s * x)) := hide (fun h => hxy (by
          rw [HXE.out.1, HXE.out.2, h]
          have hj' : j < xs.length := by rw [← HN.out]; exact hlt
          rw [List.getD_eq_getElem?_getD, List.getD_eq_getElem?_getD, List.getElem?_map, List.getElem?_eq_getElem hj']
          rfl))
        clear hxy
        go_wp2
        go_ret
        exact ⟨by rw [decide_eq_false E.out]; rfl, hI.out.2⟩
    · have e1 : decide ((j : Int) < (n : Int)) = false := by simpa using hlt
      have E : Hid (ys = xs.map (fun x => s * x)) := hide (by
        apply List.ext_getElem (by rw [List.length_map]; exact HE.out)
        intro i h1 h2
        have := hI.out.1 i (by rw [HE.out, ← HN.out] at h1; omega)
        rw [List.getD_eq_getElem?_getD, List.getD_eq_getElem?_getD, List.getElem?_eq_getElem h1, List.getElem?_eq_getElem (by rw [← HE.out]; exact h1)] at this
        simpa using this)
      go_wp2
      go_ret
      exact ⟨by rw [decide_eq_true E.out]; rfl, hI.out.2⟩
end Go.Proofs.Ytohdjlgghkcaoaa
