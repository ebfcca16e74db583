/- Walks: whether a plan is right, the reference's. -/
import Derived.Test.YtohdjlgghkcaoaaS8
namespace Go.Proofs.Ytohdjlgghkcaoaa
open Go.RowKit

theorem map_one (xs : List Int) : xs.map (fun x => 1 * x) = xs := by simp
theorem map_mone (xs : List Int) : xs.map (fun x => -1 * x) = W.neg xs := by unfold W.neg; apply List.map_congr_left; intro x _; omega
theorem self_neg {xs : List Int} : xs = W.neg xs ↔ W.allZero xs = true := by
  unfold W.neg W.allZero
  rw [List.all_eq_true]
  constructor
  · intro h x hx
    obtain ⟨i, hi, he⟩ := List.getElem_of_mem hx
    have : xs[i] = -xs[i] := by
      have h2 : xs[i] = (xs.map (fun x => -x))[i]'(by rw [List.length_map]; exact hi) := by
        congr 1
      rw [h2]
      simp
      have := h2
      simp at this
      omega
    rw [he] at this
    simp
    omega
  · intro h
    apply List.ext_getElem (by simp)
    intro i h1 h2
    have := h _ (List.getElem_mem h1)
    simp at this ⊢
    omega
theorem neg_flip {a b : List Int} : b = W.neg a ↔ a = W.neg b := ⟨fun h => by rw [h, W.neg_neg], fun h => by rw [h, W.neg_neg]⟩

theorem same_self (v : Value) (xs : List Int) (w : World) (hv : See w v xs) (hl : xs.length ≤ 1000000) (hx : ∀ x ∈ xs, -1 ≤ x ∧ x ≤ 1) :
    Calls Try.prog 70 #[v, v, .int .i64 (-1)] w (Ret (.bool (W.allZero xs)) w) := by
  have h := same_any v v xs xs (-1) w hv hv hl rfl (.inr rfl) hx
  rw [map_mone] at h
  have e : decide (xs = W.neg xs) = W.allZero xs := by
    cases hz : W.allZero xs with
    | true => exact decide_eq_true (self_neg.2 hz)
    | false => exact decide_eq_false (fun h' => by rw [self_neg.1 h'] at hz; cases hz)
  rw [e] at h
  exact h
theorem same_eq (v u : Value) (xs ys : List Int) (w : World) (hv : See w v xs) (hu : See w u ys) (hl : xs.length ≤ 1000000) (he : ys.length = xs.length) (hx : ∀ x ∈ xs, -1 ≤ x ∧ x ≤ 1) :
    Calls Try.prog 70 #[v, u, .int .i64 1] w (Ret (.bool (decide (xs = ys))) w) := by
  have h := same_any v u xs ys 1 w hv hu hl he (.inl rfl) hx
  rw [map_one] at h
  have e : decide (ys = xs) = decide (xs = ys) := decide_eq_decide.2 ⟨Eq.symm, Eq.symm⟩
  rw [e] at h
  exact h
theorem same_neg (v u : Value) (xs ys : List Int) (w : World) (hv : See w v xs) (hu : See w u ys) (hl : xs.length ≤ 1000000) (he : ys.length = xs.length) (hx : ∀ x ∈ xs, -1 ≤ x ∧ x ≤ 1) :
    Calls Try.prog 70 #[v, u, .int .i64 (-1)] w (Ret (.bool (decide (xs = W.neg ys))) w) := by
  have h := same_any v u xs ys (-1) w hv hu hl he (.inr rfl) hx
  rw [map_mone] at h
  have e : decide (ys = W.neg xs) = decide (xs = W.neg ys) := decide_eq_decide.2 neg_flip
  rw [e] at h
  exact h

theorem zeroT_not {t : List (List Int)} {j : Nat} (hj : j < W.cols t) (h : W.colSum t j ≠ 0) : W.fairT t = false := by
  rw [Bool.eq_false_iff]
  intro h'
  unfold W.fairT W.zeroT at h'
  simp only [Bool.and_eq_true, List.all_eq_true, List.mem_range] at h'
  exact h (by simpa using h'.2 j hj)
theorem zeroT_of {t : List (List Int)} (h : ∀ j, j < W.cols t → W.colSum t j = 0) : W.zeroT t = true := by
  unfold W.zeroT
  simp only [List.all_eq_true, List.mem_range]
  intro j hj
  rw [h j hj]; rfl

set_option maxRecDepth 100000 in
set_option maxHeartbeats 2000000 in
theorem RRight_any (v : Value) (t : List (List Int)) (w : World) (hv : See2 w v t) (ht : W.isTab t = true) :
    Calls Try.prog 49 #[v] w (Ret (.bool (W.fairT t)) w) := by
  obtain ⟨⟨t1, t2, t3, t4⟩, -⟩ := W.isTab_iff.1 ht
  have hne : t ≠ [] := by rintro rfl; simp at t1
  obtain ⟨a, cap, rfl, hcap, hc⟩ := hv.open hne
  obtain ⟨bo, bc, h0⟩ := hc 0 (by omega)
  have f0 := (h0 w (Chg.refl _ _)).1
  rw [add_nought, row0] at f0
  have HC := hide hc
  have HT := hide ht
  clear hc h0 hv ht hne
  obtain ⟨c, hce⟩ : ∃ c, c = W.cols t := ⟨_, rfl⟩
  rw [← hce] at f0 t3 t4
  have HCe := hide hce
  obtain ⟨n, hn⟩ : ∃ n, n = t.length := ⟨_, rfl⟩
  rw [← hn] at t1 t2 hcap ⊢
  have HN := hide hn
  clear hce hn
  go_enter Try.func49, Try.ntmps49
  go_wp2
  go_loopw [15] (fun i wr => ∃ j : Nat, j ≤ c ∧ i = .int .i64 (j : Int) ∧ Hid ((∀ q, q < j → W.colSum t q = 0) ∧ Chg [] w wr)) (fun i _ => (c - (intOf i).toNat))
  case atStart => exact ⟨0, Nat.zero_le _, rfl, hide ⟨fun q h => by omega, Chg.refl _ _⟩⟩
  case round =>
    obtain ⟨j, hj, rfl, hI⟩ := hrel
    by_cases hlt : j < c
    · have d1 : decide ((j : Int) < (c : Int)) = true := by simpa using hlt
      go_wp2
      go_loopw [4, 20] (fun s i ws => ∃ (q : Nat) (S : Int), q ≤ n ∧ s = .int .i64 S ∧ i = .int .i64 (q : Int) ∧ Hid (S = W.colSum (t.take q) j ∧ Chg [] wr ws)) (fun _ i _ => (n - (intOf i).toNat))
      case atStart => exact ⟨0, 0, Nat.zero_le _, rfl, rfl, hide ⟨by simp [W.colSum], Chg.refl _ _⟩⟩
      case round =>
        obtain ⟨q, S, hq, rfl, rfl, hJ⟩ := hrel
        have hS := colSum_le (j := j) (tab_small HT.out) q (by rw [← HN.out]; exact hq)
        rw [← hJ.out.1] at hS
        by_cases hlq : q < n
        · have d2 : decide ((q : Int) < (n : Int)) = true := by simpa using hlq
          obtain ⟨bo', bc', hrow⟩ := HC.out q (by rw [← HN.out]; exact hlq)
          obtain ⟨fr, hs⟩ := hrow _ (hI.out.2.trans hJ.out.2)
          have hlen : (t.getD q []).length = c := by rw [HCe.out]; exact tab_row HT.out (by rw [← HN.out]; exact hlq)
          have hrn : t.getD q [] ≠ [] := by intro h; rw [h] at hlen; simp at hlen; omega
          obtain ⟨ra, rcap, e, hcell⟩ := hs.open hrn
          cases e
          have fx := hcell _ (Chg.refl _ _) j (by rw [hlen]; exact hlt)
          have hx := tab_small HT.out _ (W.row_mem (i := q) (by rw [← HN.out]; exact hlq)) _ (getD_mem (i := j) (by rw [hlen]; exact hlt))
          rw [hlen] at fr
          obtain ⟨x, hxe⟩ : ∃ x, x = (t.getD q []).getD j 0 := ⟨_, rfl⟩
          rw [← hxe] at fx hx
          have HXE := hide hxe
          obtain ⟨x1, x2⟩ := hx
          obtain ⟨S1, S2⟩ := hS
          clear hrow hs hlen hrn hcell hxe
          go_wp2
          go_roundw
          case rel => exact ⟨q + 1, S + x, by omega, rfl, by go_num, hide ⟨by rw [colSum_succ (by rw [← HN.out]; exact hlq), ← hJ.out.1, HXE.out], hJ.out.2⟩⟩
          case measure => simp [intOf]; omega
        · have d2 : decide ((q : Int) < (n : Int)) = false := by simpa using hlq
          have hSt : S = W.colSum t j := by
            rw [hJ.out.1, List.take_of_length_le (by rw [← HN.out]; omega)]
          have HSt := hide hSt
          clear hSt
          by_cases hz : S = 0
          · have d3 : (S == 0) = true := by simpa using hz
            have HZ := hide hz
            clear hz hS
            go_wp2
            go_roundw
            case rel => exact ⟨j + 1, by omega, by go_num, hide ⟨fun q' hq' => by
              rcases (show q' < j ∨ q' = j by omega) with h | rfl
              · exact hI.out.1 q' h
              · rw [← HSt.out]; exact HZ.out, hI.out.2.trans hJ.out.2⟩⟩
            case measure => simp [intOf]; omega
          · have d3 : (S == 0) = false := by simpa using hz
            have E : Hid (W.fairT t = false) := hide (zeroT_not (j := j) (by rw [← HCe.out]; exact hlt) (by rw [← HSt.out]; exact hz))
            clear hz hS
            go_wp2
            go_ret
            exact ⟨by rw [E.out]; rfl, hI.out.2.trans hJ.out.2⟩
    · have d1 : decide ((j : Int) < (c : Int)) = false := by simpa using hlt
      have HZe : Hid (W.zeroT t = true) := hide (zeroT_of fun q hq => hI.out.1 q (by rw [← HCe.out] at hq; omega))
      have HW := hide hI.out.2
      clear hI f0
      go_wp2
      go_loopw [36] (fun i wt => ∃ j : Nat, j ≤ n ∧ i = .int .i64 (j : Int) ∧ Hid ((∀ q, q < j → W.rowFair t q = true) ∧ Chg [] w wt)) (fun i _ => (n - (intOf i).toNat))
      case atStart => exact ⟨0, Nat.zero_le _, rfl, hide ⟨fun q h => by omega, HW.out⟩⟩
      case round =>
        clear hj hlt d1
        obtain ⟨j, hj, rfl, hI⟩ := hrel
        by_cases hlt : j < n
        · have d1 : decide ((j : Int) < (n : Int)) = true := by simpa using hlt
          have hjn : j < t.length := by rw [← HN.out]; exact hlt
          obtain ⟨bo, bc, hrow⟩ := HC.out j hjn
          obtain ⟨fr, hs⟩ := hrow _ hI.out.2
          have hlj : Hid ((t.getD j []).length = c) := hide (by rw [HCe.out]; exact tab_row HT.out hjn)
          have hsm : Hid (∀ x ∈ t.getD j [], -1 ≤ x ∧ x ≤ 1) := hide (tab_small HT.out _ (W.row_mem hjn))
          obtain ⟨L, hL⟩ : ∃ L, L = (t.getD j []).length := ⟨_, rfl⟩
          rw [← hL] at fr hs hrow
          have HRow := hide hrow
          have HS := hide hs
          have hcm : c ≤ 1000000 := by omega
          clear hrow hs hjn hL
          go_wp2_with fail
          refine (same_self _ _ _ HS.out (by rw [hlj.out]; exact hcm) hsm.out).mono ?_
          rintro e w1 ⟨rfl, hw1⟩
          have C1 : Hid (Chg [] w w1) := hide (hI.out.2.trans hw1)
          clear hw1 fr HS
          cases hz : W.allZero (t.getD j []) with
          | true =>
            have HZz := hide hz
            clear hz
            go_wp2
            go_ret
            exact ⟨by rw [fairT_not (by rw [← HN.out]; exact hlt) (rowFair_zero HZz.out)]; rfl, C1.out⟩
          | false =>
            have HZz := hide hz
            clear hz
            have hjc : j ≤ cap := by omega
            go_wp2
            go_loopw [48] (fun i ws => ∃ q : Nat, q ≤ j ∧ i = .int .i64 (q : Int) ∧ Hid (clear' t j q ∧ Chg [] w ws)) (fun i _ => (j - (intOf i).toNat))
            case atStart => exact ⟨0, Nat.zero_le _, rfl, hide ⟨fun q h => by omega, C1.out⟩⟩
            case round =>
              obtain ⟨q, hq, rfl, hJ⟩ := hrel
              by_cases hlq : q < j
              · have d2 : decide ((q : Int) < (j : Int)) = true := by simpa using hlq
                have hqn : q < t.length := by rw [← HN.out]; omega
                obtain ⟨bo', bc', hrow'⟩ := HC.out q hqn
                obtain ⟨fq, hsq⟩ := hrow' _ hJ.out.2
                have hlq' : Hid ((t.getD q []).length = (t.getD j []).length) := hide (by rw [hlj.out, HCe.out]; exact tab_row HT.out hqn)
                obtain ⟨L', hL'⟩ : ∃ L', L' = (t.getD q []).length := ⟨_, rfl⟩
                rw [← hL'] at fq hsq hrow'
                have HRow' := hide hrow'
                have HSq := hide hsq
                clear hrow' hsq hqn hL'
                go_wp2_with fail
                refine (same_eq _ _ _ _ _ (HRow.out _ hJ.out.2).2 HSq.out (by rw [hlj.out]; exact hcm) hlq'.out hsm.out).mono ?_
                rintro e w2 ⟨rfl, hw2⟩
                have C2 : Hid (Chg [] w w2) := hide (hJ.out.2.trans hw2)
                clear hw2 fq HSq
                by_cases he : t.getD j [] = t.getD q []
                · have E : Hid (W.rowFair t j = false) := hide (rowFair_clash hlq (by unfold W.clash; rw [decide_eq_true he]; rfl))
                  rw [decide_eq_true he]
                  clear he
                  go_wp2
                  go_ret
                  exact ⟨by rw [fairT_not (by rw [← HN.out]; exact hlt) E.out]; rfl, C2.out⟩
                · rw [decide_eq_false he]
                  have HE := hide he
                  clear he
                  go_wp2_with fail
                  refine (same_neg _ _ _ _ _ (HRow.out _ C2.out).2 (HRow'.out _ C2.out).2 (by rw [hlj.out]; exact hcm) hlq'.out hsm.out).mono ?_
                  rintro e w4 ⟨rfl, hw4⟩
                  have C4 : Hid (Chg [] w w4) := hide (C2.out.trans hw4)
                  clear hw4
                  by_cases he : t.getD j [] = W.neg (t.getD q [])
                  · have E : Hid (W.rowFair t j = false) := hide (rowFair_clash hlq (by unfold W.clash; rw [decide_eq_true he]; simp))
                    rw [decide_eq_true he]
                    clear he
                    go_wp2
                    go_ret
                    exact ⟨by rw [fairT_not (by rw [← HN.out]; exact hlt) E.out]; rfl, C4.out⟩
                  · rw [decide_eq_false he]
                    have HE2 := hide he
                    clear he
                    go_wp2
                    go_roundw
                    case rel => exact ⟨q + 1, by omega, by go_num, hide ⟨fun q' hq' => by
                      rcases (show q' < q ∨ q' = q by omega) with h | rfl
                      · exact hJ.out.1 q' h
                      · unfold W.clash; rw [decide_eq_false HE.out, decide_eq_false HE2.out]; rfl, C4.out⟩⟩
                    case measure => simp [intOf]; omega
              · have d2 : decide ((q : Int) < (j : Int)) = false := by simpa using hlq
                obtain rfl : q = j := by omega
                go_wp2
                go_roundw
                case rel => exact ⟨q + 1, by omega, by go_num, hide ⟨fun q' hq' => by
                  rcases (show q' < q ∨ q' = q by omega) with h | rfl
                  · exact hI.out.1 q' h
                  · exact rowFair_of HZz.out hJ.out.1, hJ.out.2⟩⟩
                case measure => simp [intOf]; omega
        · have d1 : decide ((j : Int) < (n : Int)) = false := by simpa using hlt
          have E : Hid (W.fairT t = true) := hide (by rw [fairT_of fun i hi => hI.out.1 i (by rw [← HN.out] at hi; omega)]; exact HZe.out)
          go_wp2
          go_ret
          exact ⟨by rw [E.out]; rfl, hI.out.2⟩
end Go.Proofs.Ytohdjlgghkcaoaa
