/- Walks: whether a plan is right, the program's. -/
import Derived.Test.YtohdjlgghkcaoaaS6
namespace Go.Proofs.Ytohdjlgghkcaoaa
open Go.RowKit

/-- Before j no row clashes with this one. -/
def clear' (t : List (List Int)) (i j : Nat) : Prop := ∀ q, q < j → W.clash (t.getD i []) (t.getD q []) = false
theorem rowFair_of {t : List (List Int)} {i : Nat} (h0 : W.allZero (t.getD i []) = false) (h : clear' t i i) : W.rowFair t i = true := by
  unfold W.rowFair
  simp only [Bool.and_eq_true, Bool.not_eq_true', List.all_eq_true, List.mem_range]
  exact ⟨h0, h⟩
theorem rowFair_zero {t : List (List Int)} {i : Nat} (h0 : W.allZero (t.getD i []) = true) : W.rowFair t i = false := by
  unfold W.rowFair; rw [h0]; rfl
theorem rowFair_clash {t : List (List Int)} {i j : Nat} (hj : j < i) (h : W.clash (t.getD i []) (t.getD j []) = true) : W.rowFair t i = false := by
  rw [Bool.eq_false_iff]
  intro h'
  unfold W.rowFair at h'
  simp only [Bool.and_eq_true, Bool.not_eq_true', List.all_eq_true, List.mem_range] at h'
  have := h'.2 j hj
  rw [h] at this; cases this
theorem fairT_not {t : List (List Int)} {i : Nat} (hi : i < t.length) (h : W.rowFair t i = false) : W.fairT t = false := by
  rw [Bool.eq_false_iff]
  intro h'
  unfold W.fairT at h'
  simp only [Bool.and_eq_true, List.all_eq_true, List.mem_range] at h'
  have := h'.1 i hi
  rw [h] at this; cases this
theorem fairT_of {t : List (List Int)} (h : ∀ i, i < t.length → W.rowFair t i = true) : W.fairT t = W.zeroT t := by
  unfold W.fairT
  have : (List.range t.length).all (W.rowFair t) = true := by
    simp only [List.all_eq_true, List.mem_range]; exact h
  rw [this]; rfl

set_option maxRecDepth 100000 in
set_option maxHeartbeats 1000000 in
theorem fair_any (v : Value) (t : List (List Int)) (w : World) (hv : See2 w v t) (ht : W.isTab t = true) :
    Calls Try.prog 66 #[v] w (Ret (.bool (W.fairT t)) w) := by
  obtain ⟨⟨t1, t2, t3, t4⟩, -⟩ := W.isTab_iff.1 ht
  have hne : t ≠ [] := by rintro rfl; simp at t1
  obtain ⟨a, cap, e, hcap, hc⟩ := hv.open hne
  have HZ := hide fun ws (hw : Chg [] w ws) => zero_any v t ws (hv.keep hw) ht
  subst e
  have HC := hide hc
  have HT := hide ht
  clear hc hv ht hne
  obtain ⟨n, hn⟩ : ∃ n, n = t.length := ⟨_, rfl⟩
  rw [← hn] at t1 t2 hcap HZ ⊢
  have HN := hide hn
  have hc4 := hide (And.intro t3 t4)
  clear hn t3 t4
  go_enter Try.func66, Try.ntmps66
  go_wp2
  go_loopw [9] (fun i wr => ∃ j : Nat, j ≤ n ∧ i = .int .i64 (j : Int) ∧ Hid ((∀ q, q < j → W.rowFair t q = true) ∧ Chg [] w wr)) (fun i _ => (n - (intOf i).toNat))
  case atStart => exact ⟨0, Nat.zero_le _, rfl, hide ⟨fun q h => by omega, Chg.refl _ _⟩⟩
  case round =>
    obtain ⟨j, hj, rfl, hI⟩ := hrel
    by_cases hlt : j < n
    · have d1 : decide ((j : Int) < (n : Int)) = true := by simpa using hlt
      have hjn : j < t.length := by rw [← HN.out]; exact hlt
      obtain ⟨bo, bc, hrow⟩ := HC.out j hjn
      obtain ⟨fr, hs⟩ := hrow wr hI.out.2
      have hlen := tab_row HT.out hjn
      have hlm : (t.getD j []).length ≤ 1000000 := by have := hc4.out; omega
      obtain ⟨L, hL⟩ : ∃ L, L = (t.getD j []).length := ⟨_, rfl⟩
      rw [← hL] at fr hs hrow
      have HRow := hide hrow
      have HS := hide hs
      have HLm := hide hlm
      clear hrow hs hlm hlen hjn hL
      go_wp2_with fail
      refine (some85 _ _ _ HS.out HLm.out).mono ?_
      rintro e w1 ⟨rfl, hw1⟩
      have C1 : Hid (Chg [] w w1) := hide (hI.out.2.trans hw1)
      clear hw1 fr HS
      cases hz : W.allZero (t.getD j []) with
      | true =>
        have HZz := hide hz
        clear hz
        go_wp2
        go_ret
        exact ⟨by rw [fairT_not (by rw [← HN.out]; exact hlt) (rowFair_zero HZz.out)]; rfl, C1.out⟩
      | false =>
        have HZz := hide hz
        clear hz
        have hjc : j ≤ cap := by omega
        go_wp2
        go_loopw [21] (fun i ws => ∃ q : Nat, q ≤ j ∧ i = .int .i64 (q : Int) ∧ Hid (clear' t j q ∧ Chg [] w ws)) (fun i _ => (j - (intOf i).toNat))
        case atStart => exact ⟨0, Nat.zero_le _, rfl, hide ⟨fun q h => by omega, C1.out⟩⟩
        case round =>
          obtain ⟨q, hq, rfl, hJ⟩ := hrel
          by_cases hlq : q < j
          · have d2 : decide ((q : Int) < (j : Int)) = true := by simpa using hlq
            have hqn : q < t.length := by rw [← HN.out]; omega
            obtain ⟨bo', bc', hrow'⟩ := HC.out q hqn
            obtain ⟨fq, hsq⟩ := hrow' _ hJ.out.2
            obtain ⟨L', hL'⟩ : ∃ L', L' = (t.getD q []).length := ⟨_, rfl⟩
            rw [← hL'] at fq hsq hrow'
            have HRow' := hide hrow'
            have HSq := hide hsq
            have hsm : Hid (∀ x ∈ t.getD q [], -1 ≤ x ∧ x ≤ 1) := hide (tab_small HT.out _ (W.row_mem hqn))
            have hlq' : Hid ((t.getD q []).length ≤ 1000000) := hide (by have := tab_row HT.out hqn; have := hc4.out; omega)
            have hlj' : Hid ((t.getD j []).length < 1000000) := hide (by have := tab_row HT.out (show j < t.length by rw [← HN.out]; exact hlt); have := hc4.out; omega)
            clear hrow' hsq hqn hL'
            go_wp2_with fail
            refine (Equal_any _ _ _ _ _ (HRow.out _ hJ.out.2).2 HSq.out hlj'.out).mono ?_
            rintro e w2 ⟨rfl, hw2⟩
            have C2 : Hid (Chg [] w w2) := hide (hJ.out.2.trans hw2)
            clear hw2 fq HSq
            by_cases he : t.getD j [] = t.getD q []
            · have E : Hid (W.rowFair t j = false) := hide (rowFair_clash hlq (by unfold W.clash; rw [decide_eq_true he]; rfl))
              rw [decide_eq_true he]
              clear he
              go_wp2
              go_ret
              exact ⟨by rw [fairT_not (by rw [← HN.out]; exact hlt) E.out]; rfl, C2.out⟩
            · rw [decide_eq_false he]
              have HE := hide he
              clear he
              go_wp2_with fail
              refine (opposite_any _ _ _ (HRow'.out _ C2.out).2 hsm.out hlq'.out).mono ?_
              rintro e w3 ⟨v', rfl, hI3, hw3⟩
              have C3 : Hid (Chg [] w w3) := hide (C2.out.trans hw3)
              have HI3 := hide hI3
              clear hw3 hI3
              go_wp2_with fail
              refine (Equal_any _ _ _ _ _ (HRow.out _ C3.out).2 HI3.out.toSee hlj'.out).mono ?_
              rintro e w4 ⟨rfl, hw4⟩
              have C4 : Hid (Chg [] w w4) := hide (C3.out.trans hw4)
              clear hw4
              by_cases he : t.getD j [] = W.neg (t.getD q [])
              · have E : Hid (W.rowFair t j = false) := hide (rowFair_clash hlq (by unfold W.clash; rw [decide_eq_true he]; simp))
                rw [decide_eq_true he]
                clear he
                go_wp2
                go_ret
                exact ⟨by rw [fairT_not (by rw [← HN.out]; exact hlt) E.out]; rfl, C4.out⟩
              · rw [decide_eq_false he]
                have HE2 := hide he
                clear he
                go_wp2
                go_roundw
                case rel => exact ⟨q + 1, by omega, by go_num, hide ⟨fun q' hq' => by
                  rcases (show q' < q ∨ q' = q by omega) with h | rfl
                  · exact hJ.out.1 q' h
                  · unfold W.clash; rw [decide_eq_false HE.out, decide_eq_false HE2.out]; rfl, C4.out⟩⟩
                case measure => simp [intOf]; omega
          · have d2 : decide ((q : Int) < (j : Int)) = false := by simpa using hlq
            obtain rfl : q = j := by omega
            go_wp2
            go_roundw
            case rel => exact ⟨q + 1, by omega, by go_num, hide ⟨fun q' hq' => by
              rcases (show q' < q ∨ q' = q by omega) with h | rfl
              · exact hI.out.1 q' h
              · exact rowFair_of HZz.out hJ.out.1, hJ.out.2⟩⟩
            case measure => simp [intOf]; omega
    · have d1 : decide ((j : Int) < (n : Int)) = false := by simpa using hlt
      have E : Hid (W.fairT t = W.zeroT t) := hide (fairT_of fun i hi => hI.out.1 i (by rw [← HN.out] at hi; omega))
      go_wp2_with fail
      refine (HZ.out _ hI.out.2).mono ?_
      rintro e w2 ⟨rfl, hw2⟩
      go_wp2
      go_ret
      exact ⟨by rw [E.out]; rfl, hI.out.2.trans hw2⟩

/-- What Right answers. -/
def rightV (t : List (List Int)) : Value := if W.isTab t = true then .tuple #[.bool (W.fairT t), .int .i64 0] else .tuple #[.bool false, .int .i64 2]

set_option maxRecDepth 100000 in
set_option maxHeartbeats 1000000 in
theorem Right_any (v : Value) (t : List (List Int)) (w : World) (hv : See2 w v t) (hl : ∀ r ∈ t, r.length ≤ 1000000) (htl : t.length ≤ 1000000) :
    Calls Try.prog 46 #[v] w (Ret (rightV t) w) := by
  have HP := hide (isPlan_any v t w hv hl htl)
  unfold rightV
  cases ht : W.isTab t with
  | true =>
    rw [ht] at HP
    have HF := hide fun ws (hw : Chg [] w ws) => fair_any v t ws (hv.keep hw) ht
    clear hv hl htl
    go_enter Try.func46, Try.ntmps46
    go_wp2_with fail
    refine HP.out.mono ?_
    rintro e w1 ⟨rfl, hw1⟩
    go_wp2_with fail
    refine (HF.out _ hw1).mono ?_
    rintro e w2 ⟨rfl, hw2⟩
    go_wp2
    go_ret2
    exact ⟨rfl, hw1.trans hw2⟩
  | false =>
    rw [ht] at HP
    clear hv hl htl
    go_enter Try.func46, Try.ntmps46
    go_wp2_with fail
    refine HP.out.mono ?_
    rintro e w1 ⟨rfl, hw1⟩
    go_wp2
    go_ret2
    exact ⟨rfl, hw1⟩
end Go.Proofs.Ytohdjlgghkcaoaa
