/- Walks: what is a plan; whether the pans are always even. -/
import Derived.Test.YtohdjlgghkcaoaaS5
namespace Go.Proofs.Ytohdjlgghkcaoaa
open Go.RowKit

theorem isTab_false {t : List (List Int)} (h : ¬ (1 ≤ t.length ∧ t.length ≤ 13 ∧ 1 ≤ W.cols t ∧ W.cols t ≤ 4)) : W.isTab t = false := by
  rw [Bool.eq_false_iff]
  intro h'
  exact h (W.isTab_iff.1 h').1

set_option maxRecDepth 100000 in
set_option maxHeartbeats 1000000 in
theorem isPlan_any (v : Value) (t : List (List Int)) (w : World) (hv : See2 w v t) (hl : ∀ r ∈ t, r.length ≤ 1000000) (ht : t.length ≤ 1000000) :
    Calls Try.prog 63 #[v] w (Ret (.bool (W.isTab t)) w) := by
  obtain ⟨ao, cap, rfl⟩ := hv.shape
  by_cases h1 : t.length < 1
  · rw [isTab_false (by omega)]
    have d1 : decide ((t.length : Int) < 1) = true := by simp; omega
    clear hv hl
    generalize t.length = n at *
    go_enter Try.func63, Try.ntmps63
    go_wp2
    go_ret
    exact ⟨rfl, (Chg.refl _ _).alloc _⟩
  · have d1 : decide ((t.length : Int) < 1) = false := by simp; omega
    by_cases h2 : 13 < t.length
    · rw [isTab_false (by omega)]
      have d2 : decide ((13 : Int) < (t.length : Int)) = true := by simp; omega
      clear hv hl
      generalize t.length = n at *
      go_enter Try.func63, Try.ntmps63
      go_wp2
      go_ret
      exact ⟨rfl, (Chg.refl _ _).alloc _⟩
    · have d2 : decide ((13 : Int) < (t.length : Int)) = false := by simp; omega
      have hne : t ≠ [] := by rintro rfl; simp at h1
      obtain ⟨a, cap', e, _, hc⟩ := hv.open hne
      cases e
      obtain ⟨bo, bc, h0⟩ := hc 0 (by omega)
      have f0 := (h0 _ ((Chg.refl [] w).alloc (.cells #[.slice (some a) t.length cap] 62))).1
      rw [add_nought, row0] at f0
      by_cases h3 : W.cols t < 1
      · rw [isTab_false (by omega)]
        have d3 : decide ((W.cols t : Int) < 1) = true := by simp; omega
        clear hv hl hc h0 hne
        generalize W.cols t = c at *
        generalize t.length = n at *
        go_enter Try.func63, Try.ntmps63
        go_wp2
        go_ret
        exact ⟨rfl, (Chg.refl _ _).alloc _⟩
      · have d3 : decide ((W.cols t : Int) < 1) = false := by simp; omega
        by_cases h4 : 4 < W.cols t
        · rw [isTab_false (by omega)]
          have d4 : decide ((4 : Int) < (W.cols t : Int)) = true := by simp; omega
          clear hv hl hc h0 hne
          generalize W.cols t = c at *
          generalize t.length = n at *
          go_enter Try.func63, Try.ntmps63
          go_wp2
          go_ret
          exact ⟨rfl, (Chg.refl _ _).alloc _⟩
        · have d4 : decide ((4 : Int) < (W.cols t : Int)) = false := by simp; omega
          have hca : Chg [] w (w.alloc (.cells #[.slice (some a) t.length cap] 62)) := (Chg.refl _ _).alloc _
          have bx := Box.new w #[.slice (some a) t.length cap] 62
          have hC := Contains_rows 84 #[.pointer (some ⟨w.heap.size, 0, none⟩)] (fun r => !W.rowOk (W.cols t) r) _ t _ (hv.keep hca) ht call84
            (fun u r ws hr hw hu => bad84 u r w.heap.size _ t ws hu (hl r hr) (At.of_box (bx.keep hw (by simp))) ((hv.keep hca).keep hw) hne (by omega) (by omega))
          have E : t.any (fun r => !W.rowOk (W.cols t) r) = !W.isTab t := by
            rw [List.any_eq_not_all_not]
            simp only [Bool.not_not]
            congr 1
            unfold W.isTab
            rw [decide_eq_true (by omega)]
            simp
          rw [E] at hC
          have HC := hide hC
          clear hv hl hc h0 hne hC E bx hca
          generalize W.isTab t = b at *
          generalize W.cols t = c at *
          generalize t.length = n at *
          go_enter Try.func63, Try.ntmps63
          go_wp2_with fail
          refine HC.out.mono ?_
          rintro e w1 ⟨rfl, hw1⟩
          go_wp2
          go_ret
          exact ⟨by simp, ((Chg.refl _ _).alloc _).trans hw1⟩

/-- The sum of a column of the first rows. -/
theorem colSum_succ {t : List (List Int)} {i j : Nat} (h : i < t.length) : W.colSum (t.take (i + 1)) j = W.colSum (t.take i) j + (t.getD i []).getD j 0 := by
  have e : t.getD i [] = t[i] := by rw [List.getD_eq_getElem?_getD, List.getElem?_eq_getElem h]; rfl
  rw [e, List.take_add_one, List.getElem?_eq_getElem h]
  unfold W.colSum
  rw [List.map_append, List.sum_append]
  simp only [Option.toList_some, List.map_cons, List.map_nil, List.sum_cons, List.sum_nil, Int.add_zero]
theorem colSum_le {t : List (List Int)} {j : Nat} (h : ∀ r ∈ t, ∀ x ∈ r, -1 ≤ x ∧ x ≤ 1) : ∀ i, i ≤ t.length → -(i : Int) ≤ W.colSum (t.take i) j ∧ W.colSum (t.take i) j ≤ (i : Int)
  | 0, _ => by simp [W.colSum]
  | i + 1, hi => by
    obtain ⟨h1, h2⟩ := colSum_le (j := j) h i (by omega)
    rw [colSum_succ (by omega)]
    have hb : -1 ≤ (t.getD i []).getD j 0 ∧ (t.getD i []).getD j 0 ≤ 1 := by
      rcases Nat.lt_or_ge j (t.getD i []).length with hj | hj
      · exact h _ (W.row_mem (by omega)) _ (getD_mem hj)
      · have e : (t.getD i []).getD j 0 = 0 := by
          generalize t.getD i [] = r at hj
          rw [List.getD_eq_getElem?_getD, List.getElem?_eq_none hj]; rfl
        rw [e]; decide
    omega
theorem tab_small {t : List (List Int)} (h : W.isTab t = true) : ∀ r ∈ t, ∀ x ∈ r, -1 ≤ x ∧ x ≤ 1 := fun r hr => (W.rowOk_iff.1 ((W.isTab_iff.1 h).2 r hr)).2
theorem tab_row {t : List (List Int)} (h : W.isTab t = true) {i : Nat} (hi : i < t.length) : (t.getD i []).length = W.cols t := (W.rowOk_iff.1 ((W.isTab_iff.1 h).2 _ (W.row_mem hi))).1

set_option maxRecDepth 100000 in
set_option maxHeartbeats 1000000 in
theorem zero_any (v : Value) (t : List (List Int)) (w : World) (hv : See2 w v t) (ht : W.isTab t = true) :
    Calls Try.prog 73 #[v] w (Ret (.bool (W.zeroT t)) w) := by
  obtain ⟨⟨t1, t2, t3, t4⟩, -⟩ := W.isTab_iff.1 ht
  have hne : t ≠ [] := by rintro rfl; simp at t1
  obtain ⟨a, cap, rfl, _, hc⟩ := hv.open hne
  obtain ⟨bo, bc, h0⟩ := hc 0 (by omega)
  have f0 := (h0 w (Chg.refl _ _)).1
  rw [add_nought, row0] at f0
  have HC := hide hc
  have HT := hide ht
  clear hc h0 hv ht hne
  obtain ⟨c, hce⟩ : ∃ c, c = W.cols t := ⟨_, rfl⟩
  rw [← hce] at f0 t3 t4
  have HCe := hide hce
  obtain ⟨n, hn⟩ : ∃ n, n = t.length := ⟨_, rfl⟩
  rw [← hn] at t1 t2 ⊢
  have HN := hide hn
  clear hce hn
  go_enter Try.func73, Try.ntmps73
  go_wp2
  go_loopw [11] (fun i wr => ∃ j : Nat, j ≤ c ∧ i = .int .i64 (j : Int) ∧ Hid ((∀ q, q < j → W.colSum t q = 0) ∧ Chg [] w wr)) (fun i _ => (c - (intOf i).toNat))
  case atStart => exact ⟨0, Nat.zero_le _, rfl, hide ⟨fun q h => by omega, Chg.refl _ _⟩⟩
  case round =>
    obtain ⟨j, hj, rfl, hI⟩ := hrel
    by_cases hlt : j < c
    · have d1 : decide ((j : Int) < (c : Int)) = true := by simpa using hlt
      go_wp2
      go_loopw [4, 16] (fun s i ws => ∃ (q : Nat) (S : Int), q ≤ n ∧ s = .int .i64 S ∧ i = .int .i64 (q : Int) ∧ Hid (S = W.colSum (t.take q) j ∧ Chg [] wr ws)) (fun _ i _ => (n - (intOf i).toNat))
      case atStart => exact ⟨0, 0, Nat.zero_le _, rfl, rfl, hide ⟨by simp [W.colSum], Chg.refl _ _⟩⟩
      case round =>
        obtain ⟨q, S, hq, rfl, rfl, hJ⟩ := hrel
        have hS := colSum_le (j := j) (tab_small HT.out) q (by rw [← HN.out]; exact hq)
        rw [← hJ.out.1] at hS
        by_cases hlq : q < n
        · have d2 : decide ((q : Int) < (n : Int)) = true := by simpa using hlq
          obtain ⟨bo', bc', hrow⟩ := HC.out q (by rw [← HN.out]; exact hlq)
          obtain ⟨fr, hs⟩ := hrow _ (hI.out.2.trans hJ.out.2)
          have hlen : (t.getD q []).length = c := by rw [HCe.out]; exact tab_row HT.out (by rw [← HN.out]; exact hlq)
          have hrn : t.getD q [] ≠ [] := by intro h; rw [h] at hlen; simp at hlen; omega
          obtain ⟨ra, rcap, e, hcell⟩ := hs.open hrn
          cases e
          have fx := hcell _ (Chg.refl _ _) j (by rw [hlen]; exact hlt)
          have hx := tab_small HT.out _ (W.row_mem (i := q) (by rw [← HN.out]; exact hlq)) _ (getD_mem (i := j) (by rw [hlen]; exact hlt))
          rw [hlen] at fr
          obtain ⟨x, hxe⟩ : ∃ x, x = (t.getD q []).getD j 0 := ⟨_, rfl⟩
          rw [← hxe] at fx hx
          have HXE := hide hxe
          obtain ⟨x1, x2⟩ := hx
          obtain ⟨S1, S2⟩ := hS
          clear hrow hs hlen hrn hcell hxe
          go_wp2
          go_roundw
          case rel => exact ⟨q + 1, S + x, by omega, rfl, by go_num, hide ⟨by rw [colSum_succ (by rw [← HN.out]; exact hlq), ← hJ.out.1, HXE.out], hJ.out.2⟩⟩
          case measure => simp [intOf]; omega
        · have d2 : decide ((q : Int) < (n : Int)) = false := by simpa using hlq
          have hSt : S = W.colSum t j := by
            rw [hJ.out.1, List.take_of_length_le (by rw [← HN.out]; omega)]
          have HSt := hide hSt
          clear hSt
          by_cases hz : S = 0
          · have d3 : (S == 0) = true := by simpa using hz
            have HZ := hide hz
            clear hz hS
            go_wp2
            go_roundw
            case rel => exact ⟨j + 1, by omega, by go_num, hide ⟨fun q' hq' => by
              rcases (show q' < j ∨ q' = j by omega) with h | rfl
              · exact hI.out.1 q' h
              · rw [← HSt.out]; exact HZ.out, hI.out.2.trans hJ.out.2⟩⟩
            case measure => simp [intOf]; omega
          · have d3 : (S == 0) = false := by simpa using hz
            have HZ := hide hz
            clear hz hS
            go_wp2
            go_ret
            refine ⟨?_, hI.out.2.trans hJ.out.2⟩
            have : W.zeroT t = false := by
              rw [Bool.eq_false_iff]
              intro h
              unfold W.zeroT at h
              simp only [List.all_eq_true, List.mem_range] at h
              have := h j (by rw [← HCe.out]; exact hlt)
              rw [← HSt.out] at this
              exact HZ.out (by simpa using this)
            rw [this]; rfl
    · have d1 : decide ((j : Int) < (c : Int)) = false := by simpa using hlt
      go_wp2
      go_ret
      refine ⟨?_, hI.out.2⟩
      have : W.zeroT t = true := by
        unfold W.zeroT
        simp only [List.all_eq_true, List.mem_range]
        intro q hq
        rw [hI.out.1 q (by rw [← HCe.out] at hq; omega)]
        rfl
      rw [this]; rfl
end Go.Proofs.Ytohdjlgghkcaoaa
