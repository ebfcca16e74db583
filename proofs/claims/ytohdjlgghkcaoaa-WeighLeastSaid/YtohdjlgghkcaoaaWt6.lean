/- Walk: the reference's search for the fewest weights. -/
import Derived.Test.YtohdjlgghkcaoaaWt5
import Derived.Test.YtohdjlgghkcaoaaPl1
import Derived.ArgAppend
namespace Go.Proofs.Ytohdjlgghkcaoaa
open Go.RowKit Go.Maps

theorem asc_snoc {w : List Int} {x : Nat} (ha : W.Asc w) (x1 : W.fromW w ≤ x) (x2 : x ≤ 60) : W.Asc (w ++ [(x : Int)]) := by
  intro i hi
  rw [List.length_append, List.length_singleton] at hi
  have e : ∀ j, j < w.length → (w ++ [(x : Int)]).getD j 0 = w.getD j 0 := fun j hj => by
    rw [List.getD_eq_getElem?_getD, List.getD_eq_getElem?_getD, List.getElem?_append_left hj]
  rcases (show i < w.length ∨ i = w.length by omega) with h1 | rfl
  · obtain ⟨a1, a2, a3⟩ := ha i h1
    rw [e i h1]
    refine ⟨a1, a2, ?_⟩
    rcases a3 with a3 | a3
    · exact .inl a3
    · exact .inr (by rw [e (i - 1) (by omega)]; exact a3)
  · have e2 : (w ++ [(x : Int)]).getD w.length 0 = (x : Int) := by simp [List.getD_eq_getElem?_getD]
    rw [e2]
    unfold W.fromW at x1
    by_cases hw : w = []
    · rw [if_pos hw] at x1
      subst hw
      exact ⟨by omega, by omega, .inl rfl⟩
    · rw [if_neg hw] at x1
      have hp : 0 < w.length := List.length_pos_iff.2 hw
      obtain ⟨a1, a2, _⟩ := ha (w.length - 1) (by omega)
      rw [e (w.length - 1) (by omega)]
      exact ⟨by omega, by omega, .inr (by omega)⟩
theorem fromW_max {w : List Int} (ha : W.Asc w) : W.fromW w ≤ 61 := by
  unfold W.fromW
  split
  · omega
  · rename_i hw
    have hp : 0 < w.length := List.length_pos_iff.2 hw
    have := ha (w.length - 1) (by omega)
    omega
/-- What the search answers. -/
def FewIs (n m : Nat) (us : List Int) (w w' : World) (e : Ending) : Prop :=
  ∃ u, e = .returned u ∧ Chg [] w w' ∧ ((∃ l, W.growW n m us = some l ∧ See w' u l ∧ ∃ a len cap, u = .slice (some a) len cap) ∨ (W.growW n m us = none ∧ u = .slice none 0 0))
def FewOk (n k m : Nat) : Prop := ∀ (us : List Int) (v : Value) (w : World), See w v us → us.length + m = k → W.Asc us → Calls Try.prog 61 #[.int .i64 (n : Int), .int .i64 (k : Int), v] w fun e w' => FewIs n m us w w' e

set_option maxRecDepth 100000 in
set_option maxHeartbeats 1000000 in
theorem few_end (n k : Nat) (hk1 : 1 ≤ k) (hk4 : k ≤ 4) : FewOk n k 0 := by
  intro us v w hv hl ha
  have hl : us.length = k := by omega
  have HCall := hide (RWeighs_W v us w hv (W.isW_mono (ha.isW (by omega) (by omega)) (by omega)))
  have HV := hide hv
  have hne : us ≠ [] := by rintro rfl; simp at hl; omega
  obtain ⟨a, cap, rfl, _⟩ := hv.open hne
  have e1 : ((k : Int) == (k : Int)) = true := by simp
  have HF : Hid (W.growW n 0 us = if n ≤ W.far us then some us else none) := hide rfl
  rw [hl] at HCall HV ⊢
  clear hv ha hl hne
  generalize W.far us = F at HF HCall
  go_enter Try.func61, Try.ntmps61
  by_cases h : n ≤ F
  · have d1 : decide ((n : Int) ≤ (F : Int)) = true := by simpa using h
    have E : Hid (W.growW n 0 us = some us) := hide (by rw [HF.out, if_pos h])
    go_wp2_with fail
    refine HCall.out.mono ?_
    rintro e w1 ⟨rfl, hw1⟩
    go_wp2
    refine bodyPost_ret (v := .slice (some a) k cap) ?_ rfl ⟨_, rfl, hw1, .inl ⟨us, E.out, HV.out.keep hw1, _, _, _, rfl⟩⟩
    simp [results, Try.results61, go_sem]
  · have d1 : decide ((n : Int) ≤ (F : Int)) = false := by simpa using h
    have E : Hid (W.growW n 0 us = none) := hide (by rw [HF.out, if_neg h])
    go_wp2_with fail
    refine HCall.out.mono ?_
    rintro e w1 ⟨rfl, hw1⟩
    go_wp2
    refine bodyPost_ret (v := .slice none 0 0) ?_ rfl ⟨_, rfl, hw1, .inr ⟨E.out, rfl⟩⟩
    simp [results, Try.results61, go_sem]

set_option maxRecDepth 100000 in
set_option maxHeartbeats 4000000 in
theorem few_more (n k m : Nat) (hk4 : k ≤ 4) (IH : FewOk n k m) : FewOk n k (m + 1) := by
  intro us v w hv hl ha
  obtain ⟨ao, cap, rfl, hlc, hcell⟩ := hv.len
  have HIH := hide IH
  have HA := hide ha
  have hsm := fromW_max ha
  have HC : Hid (∀ b, ao = some b → ∀ j u, (us.map (Value.int .i64))[j]? = some u → b.block < w.heap.size ∧ w.cell? (b.add j) = some u) := hide fun b hb j u hu => by
    have hj : j < us.length := by
      have := (List.getElem?_eq_some_iff.1 hu).1
      rwa [List.length_map] at this
    obtain ⟨a', e, h1, h2⟩ := hcell (by rintro rfl; simp at hj)
    rw [hb] at e
    cases e
    refine ⟨h1, (h2 j hj).trans ?_⟩
    rw [List.getElem?_map, List.getElem?_eq_getElem hj] at hu
    rw [List.getD_eq_getElem?_getD, List.getElem?_eq_getElem hj]
    exact hu
  have HN : Hid (ao = none → us.length = 0 ∧ us.length = 0) := hide fun h => by
    by_cases hne : us = []
    · subst hne; exact ⟨rfl, rfl⟩
    · obtain ⟨a', e, _⟩ := hcell hne
      rw [h] at e; cases e
  obtain ⟨L, hL⟩ : ∃ L, L = us.length := ⟨_, rfl⟩
  have HL := hide hL
  rw [← hL] at hl hlc HN ⊢
  have e1 : ((L : Int) == (k : Int)) = false := by simp; omega
  by_cases h0 : us = []
  · have hL0 : L = 0 := by rw [hL, h0]; rfl
    have HFr : Hid (W.fromW us ≤ 61 ∧ Value.int .i64 1 = Value.int .i64 (W.fromW us : Int)) := hide ⟨hsm, by rw [h0]; rfl⟩
    clear hcell ha hv h0 hsm IH
    subst hL0
    clear hL
    go_enter Try.func61, Try.ntmps61
    go_wp2
    go_loopw [8, 9] (fun xv _ wr => ∃ x : Nat, W.fromW us ≤ x ∧ x ≤ 61 ∧ xv = .int .i64 (x : Int) ∧ Hid (W.growW n (m + 1) us = (List.range' x (61 - x)).findSome? (fun y : Nat => W.growW n m (us ++ [(y : Int)])) ∧ Chg [] w wr)) (fun xv _ _ => 61 - (intOf xv).toNat)
    case atStart => exact ⟨W.fromW us, Nat.le_refl _, HFr.out.1, HFr.out.2, hide ⟨rfl, Chg.refl _ _⟩⟩
    case round =>
      obtain ⟨x, hx1, hx2, rfl, hI⟩ := hrel
      by_cases hlt : x ≤ 60
      · have d2 : decide ((x : Int) ≤ 60) = true := by simp; omega
        have hr : List.range' x (61 - x) = x :: List.range' (x + 1) (61 - (x + 1)) := by
          rw [show 61 - x = (61 - (x + 1)) + 1 by omega, List.range'_succ]
        have hst : (List.range' x (61 - x)).findSome? (fun y : Nat => W.growW n m (us ++ [(y : Int)])) = (W.growW n m (us ++ [(x : Int)])).or ((List.range' (x + 1) (61 - (x + 1))).findSome? (fun y : Nat => W.growW n m (us ++ [(y : Int)]))) := by
          rw [hr, List.findSome?_cons]
          cases W.growW n m (us ++ [(x : Int)]) <;> rfl
        have HSt := hide (hI.out.1.trans hst)
        have HIx := hide fun ws vs (h : See ws vs (us ++ [(x : Int)])) => HIH.out (us ++ [(x : Int)]) vs ws h (by have := HL.out; rw [List.length_append, List.length_singleton]; omega) (asc_snoc HA.out hx1 hlt)
        have hce : ∀ b, ao = some b → ∀ j u, (us.map (Value.int .i64))[j]? = some u → (wr.alloc (.cells #[.int .i64 (x : Int)] 3)).cell? (b.add j) = some u := fun b hb j u hu => ((hI.out.2.alloc _).cellA (by rw [add_block]; exact (HC.out b hb j u hu).1) List.not_mem_nil).trans (HC.out b hb j u hu).2
        have HCe := hide hce
        have hsz : (wr.alloc (.cells #[.int .i64 (x : Int)] 3)).heap.size = wr.heap.size + 1 := by simp
        clear hr hst hce
        obtain ⟨i0, hi, hz0, hz1, hz2⟩ := info_parts infoInt
        go_wp2_with (at_builtin; refine wpList_append_grows _ rfl _ _ 51 rfl 3 i0 (.int .i64 0) 1 8 Try.underlying51 hi hz0 hz1 hz2 rfl (by decide) ao 0 0 (us.map (Value.int .i64)) rfl (fun _ => ⟨rfl, rfl⟩) (by have := HL.out; rw [List.length_map]; omega) HCe.out ⟨wr.heap.size, 0, none⟩ 1 1 [.int .i64 (x : Int)] rfl rfl (by intro j u hj; rw [add_zero_row, (Box.new wr _ _).cell j]; simpa using hj) (by intro u hu; rw [List.mem_singleton] at hu; subst hu; rfl) (by omega) (by unfold maxLen; omega) (by omega) ?_; intro v2 w2 hown2 hgrow2)
        have hsee : See w2 v2 (us ++ [(x : Int)]) := by
          refine Ints.toSee (show w2.ownsRow 0 3 1 v2 (us ++ [(x : Int)]).length ((us ++ [(x : Int)]).map (Value.int .i64)) from ?_)
          have := row_low hown2 (Nat.zero_le _)
          rw [List.length_append, List.length_singleton, List.map_append]
          have e := HL.out
          rw [← e]
          exact this
        have C2 : Hid (Chg [] w w2) := hide ((hI.out.2.alloc _).grown hgrow2 (fun k hk => by cases hk))
        have HIx2 := hide (HIx.out w2 v2 hsee)
        clear hi hz0 hz1 hz2 hown2 hgrow2 hsee hsz
        refine HIx2.out.mono ?_
        rintro e w3 ⟨u, rfl, hw3, ⟨l, hl, hsl, a', len', cap', rfl⟩ | ⟨hnone, rfl⟩⟩
        · have E : Hid (W.growW n (m + 1) us = some l) := hide (by rw [HSt.out, hl]; rfl)
          have HSl := hide hsl
          have C3 : Hid (Chg [] w w3) := hide (C2.out.trans hw3)
          clear hl hsl hw3
          go_wp2
          refine bodyPost_ret (v := .slice (some a') len' cap') ?_ rfl ⟨_, rfl, C3.out, .inl ⟨l, E.out, HSl.out, _, _, _, rfl⟩⟩
          simp [results, Try.results61, go_sem]
        · have E : Hid (W.growW n (m + 1) us = (List.range' (x + 1) (61 - (x + 1))).findSome? (fun y : Nat => W.growW n m (us ++ [(y : Int)]))) := hide (by rw [HSt.out, hnone]; rfl)
          have C3 : Hid (Chg [] w w3) := hide (C2.out.trans hw3)
          clear hnone hw3
          go_wp2
          go_roundw
          case rel => exact ⟨x + 1, by omega, by omega, by go_num, hide ⟨E.out, C3.out⟩⟩
          case measure => simp [intOf]; omega
      · have d2 : decide ((x : Int) ≤ 60) = false := by simp; omega
        have E : Hid (W.growW n (m + 1) us = none) := hide (by rw [hI.out.1, show 61 - x = 0 by omega]; rfl)
        go_wp2
        refine bodyPost_ret (v := .slice none 0 0) ?_ rfl ⟨_, rfl, hI.out.2, .inr ⟨E.out, rfl⟩⟩
        simp [results, Try.results61, go_sem]
  · have hp : 0 < us.length := List.length_pos_iff.2 h0
    obtain ⟨a, rfl, _, hx⟩ := hcell h0
    have fl := hx (L - 1) (by omega)
    have eL : (L : Int) - 1 = ((L - 1 : Nat) : Int) := by omega
    have eL0 : (0 : Int) ≤ ((L - 1 : Nat) : Int) := by omega
    have eL1 : ((L - 1 : Nat) : Int) < (L : Int) := by omega
    have hb := ha (L - 1) (by omega)
    have hfr : W.fromW us = (us.getD (L - 1) 0).toNat + 1 := by unfold W.fromW; rw [if_neg h0, hL]
    obtain ⟨M, hM⟩ : ∃ M, M = L - 1 := ⟨_, rfl⟩
    rw [← hM] at fl eL eL0 eL1 hb hfr
    obtain ⟨xl, hxl⟩ : ∃ x, x = us.getD M 0 := ⟨_, rfl⟩
    rw [← hxl] at fl hb hfr
    obtain ⟨hb1, hb2, _⟩ := hb
    have HFr : Hid (W.fromW us ≤ 61 ∧ Value.int .i64 (xl + 1) = Value.int .i64 (W.fromW us : Int)) := hide ⟨hsm, by rw [hfr]; congr 1; omega⟩
    have hp0 : 0 < L := by omega
    clear hL hcell ha hv h0 hsm hx hp hM hxl hfr IH
    go_enter Try.func61, Try.ntmps61
    go_wp2
    go_loopw [8, 9] (fun xv _ wr => ∃ x : Nat, W.fromW us ≤ x ∧ x ≤ 61 ∧ xv = .int .i64 (x : Int) ∧ Hid (W.growW n (m + 1) us = (List.range' x (61 - x)).findSome? (fun y : Nat => W.growW n m (us ++ [(y : Int)])) ∧ Chg [] w wr)) (fun xv _ _ => 61 - (intOf xv).toNat)
    case atStart => exact ⟨W.fromW us, Nat.le_refl _, HFr.out.1, HFr.out.2, hide ⟨rfl, Chg.refl _ _⟩⟩
    case round =>
      obtain ⟨x, hx1, hx2, rfl, hI⟩ := hrel
      by_cases hlt : x ≤ 60
      · have d2 : decide ((x : Int) ≤ 60) = true := by simp; omega
        have hr : List.range' x (61 - x) = x :: List.range' (x + 1) (61 - (x + 1)) := by
          rw [show 61 - x = (61 - (x + 1)) + 1 by omega, List.range'_succ]
        have hst : (List.range' x (61 - x)).findSome? (fun y : Nat => W.growW n m (us ++ [(y : Int)])) = (W.growW n m (us ++ [(x : Int)])).or ((List.range' (x + 1) (61 - (x + 1))).findSome? (fun y : Nat => W.growW n m (us ++ [(y : Int)]))) := by
          rw [hr, List.findSome?_cons]
          cases W.growW n m (us ++ [(x : Int)]) <;> rfl
        have HSt := hide (hI.out.1.trans hst)
        have HIx := hide fun ws vs (h : See ws vs (us ++ [(x : Int)])) => HIH.out (us ++ [(x : Int)]) vs ws h (by have := HL.out; rw [List.length_append, List.length_singleton]; omega) (asc_snoc HA.out hx1 hlt)
        have hce : ∀ b, (some a) = some b → ∀ j u, (us.map (Value.int .i64))[j]? = some u → (wr.alloc (.cells #[.int .i64 (x : Int)] 3)).cell? (b.add j) = some u := fun b hb j u hu => ((hI.out.2.alloc _).cellA (by rw [add_block]; exact (HC.out b hb j u hu).1) List.not_mem_nil).trans (HC.out b hb j u hu).2
        have HCe := hide hce
        have hsz : (wr.alloc (.cells #[.int .i64 (x : Int)] 3)).heap.size = wr.heap.size + 1 := by simp
        clear hr hst hce
        obtain ⟨i0, hi, hz0, hz1, hz2⟩ := info_parts infoInt
        go_wp2_with (at_builtin; refine wpList_append_grows _ rfl _ _ 51 rfl 3 i0 (.int .i64 0) 1 8 Try.underlying51 hi hz0 hz1 hz2 rfl (by decide) (some a) L L (us.map (Value.int .i64)) rfl HN.out (by have := HL.out; rw [List.length_map]; omega) HCe.out ⟨wr.heap.size, 0, none⟩ 1 1 [.int .i64 (x : Int)] rfl rfl (by intro j u hj; rw [add_zero_row, (Box.new wr _ _).cell j]; simpa using hj) (by intro u hu; rw [List.mem_singleton] at hu; subst hu; rfl) (by omega) (by unfold maxLen; omega) (by omega) ?_; intro v2 w2 hown2 hgrow2)
        have hsee : See w2 v2 (us ++ [(x : Int)]) := by
          refine Ints.toSee (show w2.ownsRow 0 3 1 v2 (us ++ [(x : Int)]).length ((us ++ [(x : Int)]).map (Value.int .i64)) from ?_)
          have := row_low hown2 (Nat.zero_le _)
          rw [List.length_append, List.length_singleton, List.map_append]
          have e := HL.out
          rw [← e]
          exact this
        have C2 : Hid (Chg [] w w2) := hide ((hI.out.2.alloc _).grown hgrow2 (fun k hk => by cases hk))
        have HIx2 := hide (HIx.out w2 v2 hsee)
        clear hi hz0 hz1 hz2 hown2 hgrow2 hsee hsz
        refine HIx2.out.mono ?_
        rintro e w3 ⟨u, rfl, hw3, ⟨l, hl, hsl, a', len', cap', rfl⟩ | ⟨hnone, rfl⟩⟩
        · have E : Hid (W.growW n (m + 1) us = some l) := hide (by rw [HSt.out, hl]; rfl)
          have HSl := hide hsl
          have C3 : Hid (Chg [] w w3) := hide (C2.out.trans hw3)
          clear hl hsl hw3
          go_wp2
          refine bodyPost_ret (v := .slice (some a') len' cap') ?_ rfl ⟨_, rfl, C3.out, .inl ⟨l, E.out, HSl.out, _, _, _, rfl⟩⟩
          simp [results, Try.results61, go_sem]
        · have E : Hid (W.growW n (m + 1) us = (List.range' (x + 1) (61 - (x + 1))).findSome? (fun y : Nat => W.growW n m (us ++ [(y : Int)]))) := hide (by rw [HSt.out, hnone]; rfl)
          have C3 : Hid (Chg [] w w3) := hide (C2.out.trans hw3)
          clear hnone hw3
          go_wp2
          go_roundw
          case rel => exact ⟨x + 1, by omega, by omega, by go_num, hide ⟨E.out, C3.out⟩⟩
          case measure => simp [intOf]; omega
      · have d2 : decide ((x : Int) ≤ 60) = false := by simp; omega
        have E : Hid (W.growW n (m + 1) us = none) := hide (by rw [hI.out.1, show 61 - x = 0 by omega]; rfl)
        go_wp2
        refine bodyPost_ret (v := .slice none 0 0) ?_ rfl ⟨_, rfl, hI.out.2, .inr ⟨E.out, rfl⟩⟩
        simp [results, Try.results61, go_sem]
end Go.Proofs.Ytohdjlgghkcaoaa
