/- Words for the walks: slices of pairs of ints. -/
import Derived.Test.YtaapamoglgpocaaRun3
import Derived.Test.YtaapamoglgpocaaSaid
namespace Go.Proofs.Ytaapamoglgpocaa
open Go.RowKit

abbrev Pr := Int × Int
def pr0 : Pr := (0, 0)
def prCells (x : Pr) : Array Value := #[.int .i64 x.1, .int .i64 x.2]
def prV (x : Pr) : Value := .agg #[.int .i64 x.1, .int .i64 x.2]
theorem infoPair : (Try.prog.info? 60).map (fun i => (i.zero, i.size, i.bytes)) = some (some (.agg #[.int .i64 0, .int .i64 0]), 2, 16) := by kernel_rfl
def flatP (ps : List Pr) : List Value := ps.flatMap fun x => (prCells x).toList
theorem flatP_len : ∀ ps : List Pr, (flatP ps).length = ps.length * 2
  | [] => rfl
  | x :: ps => by
    have := flatP_len ps
    unfold flatP at this ⊢
    rw [List.flatMap_cons, List.length_append, this, List.length_cons]
    show 2 + _ = _
    omega
theorem flatP_at : ∀ (ps : List Pr) (i k : Nat), i < ps.length → k < 2 → (flatP ps)[i * 2 + k]? = (prCells (ps.getD i pr0))[k]?
  | [], i, k, hi, _ => by simp at hi
  | x :: ps, 0, k, _, hk => by
    unfold flatP
    rw [List.flatMap_cons, List.getElem?_append_left (by show _ < 2; omega)]
    simp
  | x :: ps, i + 1, k, hi, hk => by
    have := flatP_at ps i k (by simpa using hi) hk
    unfold flatP at this ⊢
    rw [List.flatMap_cons, List.getElem?_append_right (by show 2 ≤ _; omega)]
    show ((List.flatMap _ ps))[(i + 1) * 2 + k - 2]? = _
    rw [show (i + 1) * 2 + k - 2 = i * 2 + k by omega, this]
    rfl
theorem flatP_snoc (ps : List Pr) (x : Pr) : flatP (ps ++ [x]) = flatP ps ++ (prCells x).toList := by
  unfold flatP
  rw [List.flatMap_append]
  simp
theorem flatP_one (ps : List Pr) : ∀ u ∈ flatP ps, u.oneCell' = true := by
  intro u hu
  obtain ⟨x, _, hx⟩ := List.mem_flatMap.1 hu
  simp [prCells] at hx
  rcases hx with rfl | rfl <;> rfl
theorem pr_one (x : Pr) : ∀ u ∈ (prCells x).toList, u.oneCell' = true := by
  intro u hu
  simp [prCells] at hu
  rcases hu with rfl | rfl <;> rfl
theorem pr_news (w : World) (x : Pr) (T : TypeId) {g : Nat} (hg : g = w.heap.size) : ∀ j u, (prCells x).toList[j]? = some u → (w.alloc (.cells (prCells x) T)).cell? ((⟨g, 0, none⟩ : Addr).add j) = some u := by
  intro j u hj
  subst hg
  rw [add_zero_row, (Box.new w (prCells x) T).cell j]
  simpa using hj
/-- A slice of these pairs, wherever it lies. -/
def SeeP (w : World) (v : Value) (ps : List Pr) : Prop :=
  ∃ ao cap, v = .slice ao ps.length cap ∧ ps.length ≤ cap ∧ (ps ≠ [] → ∃ a, ao = some a ∧ a.block < w.heap.size ∧ ∀ i, i < ps.length → w.cell? (a.add (i * 2)) = some (.int .i64 (ps.getD i pr0).1) ∧ w.cell? (a.add (i * 2 + 1)) = some (.int .i64 (ps.getD i pr0).2))
theorem SeeP.keep {w w' : World} {v : Value} {ps : List Pr} (h : SeeP w v ps) (hc : Chg [] w w') : SeeP w' v ps := by
  obtain ⟨ao, cap, e, hle, hA⟩ := h
  refine ⟨ao, cap, e, hle, fun hne => ?_⟩
  obtain ⟨a, rfl, hb, hx⟩ := hA hne
  have k : ∀ j, w'.cell? (a.add j) = w.cell? (a.add j) := fun j => hc.cellA (by rw [add_block]; exact hb) List.not_mem_nil
  refine ⟨a, rfl, Nat.lt_of_lt_of_le hb hc.size, fun i hi => ?_⟩
  rw [k, k]
  exact hx i hi
theorem SeeP.shape {w : World} {v : Value} {ps : List Pr} (h : SeeP w v ps) : ∃ ao cap, v = .slice ao ps.length cap ∧ ps.length ≤ cap := by
  obtain ⟨ao, cap, e, hle, _⟩ := h
  exact ⟨ao, cap, e, hle⟩
theorem SeeP.open {w : World} {v : Value} {ps : List Pr} (h : SeeP w v ps) (hne : ps ≠ []) : ∃ a cap, v = .slice (some a) ps.length cap ∧ a.block < w.heap.size ∧ ∀ wr, Chg [] w wr → ∀ i, i < ps.length →
    wr.cell? (a.add (i * 2)) = some (.int .i64 (ps.getD i pr0).1) ∧ wr.cell? ⟨(a.add (i * 2)).block, (a.add (i * 2)).off + 1, none⟩ = some (.int .i64 (ps.getD i pr0).2) := by
  obtain ⟨ao, cap, rfl, _, hA⟩ := h
  obtain ⟨a, rfl, hb, hx⟩ := hA hne
  refine ⟨a, cap, rfl, hb, fun wr hw i hi => ?_⟩
  have k : ∀ j, wr.cell? (a.add j) = w.cell? (a.add j) := fun j => hw.cellA (by rw [add_block]; exact hb) List.not_mem_nil
  rw [← add_in a (i * 2) (by decide : 1 ≤ 1), k, k]
  exact hx i hi
/-- A row of pairs that the call itself made. -/
theorem pairs_see {w : World} {base : Nat} {v : Value} {ps : List Pr} (h : w.ownsRow base 60 2 v ps.length (flatP ps)) : SeeP w v ps := by
  rcases h.2 with ⟨rfl, hn⟩ | ⟨g, cap, cur, rfl, hb, hg, hle, hcap, hsz, ht⟩
  · exact ⟨none, 0, by rw [hn], by omega, fun hne => absurd (List.length_eq_zero_iff.1 hn) hne⟩
  · refine ⟨some ⟨g, 0, none⟩, cap, rfl, hle, fun _ => ⟨_, rfl, (Array.getElem?_eq_some_iff.1 hg).1, fun i hi => ?_⟩⟩
    have key : ∀ k u, k < 2 → (prCells (ps.getD i pr0))[k]? = some u → w.cell? ((⟨g, 0, none⟩ : Addr).add (i * 2 + k)) = some u := fun k u hk hu => by
      rw [add_zero_row, cell_of_row w g _ cur 60 (0, 0) hg]
      have h1 := flatP_at ps i k hi hk
      rw [hu, ← ht, List.getElem?_take] at h1
      split at h1
      · simpa using h1
      · cases h1
    exact ⟨key 0 _ (by omega) rfl, key 1 _ (by omega) rfl⟩

@[go_sem] theorem run_eql_pairs_nil (w : World) (a : Option Addr) (l c : Nat) : (binOp .eql 46 (.slice a l c) (.slice none 0 0)).run Try.prog w = .ok (.bool a.isNone) w := by
  simp only [binOp]
  simp [run_equal_slice_nil w _ _ a l c Try.underlying46]

set_option maxRecDepth 100000 in
set_option maxHeartbeats 1000000 in
theorem CloneP_any (v : Value) (ps : List Pr) (w : World) (hv : SeeP w v ps) (hl : ps.length ≤ 1000) :
    Calls Try.prog 54 #[v] w fun e w' => ∃ v', e = .returned v' ∧ w'.ownsRow w.heap.size 60 2 v' ps.length (flatP ps) ∧ Chg [] w w' := by
  obtain ⟨i0, hi', hz0, hz1, hz2⟩ := info_parts infoPair
  obtain ⟨ao, cap, rfl, hcap, hA⟩ := hv
  cases ao with
  | none =>
    go_enter Try.func54, Try.ntmps54
    go_wp2
    go_ret
    have hnil : ps = [] := by
      by_cases h : ps = []
      · exact h
      · obtain ⟨a, h', _⟩ := hA h; cases h'
    subst hnil
    exact ⟨_, rfl, World.ownsRow_nil _ _ _ _, Chg.refl _ _⟩
  | some a =>
    have hcell : ∀ j u, (flatP ps)[j]? = some u → a.block < w.heap.size ∧ w.cell? (a.add j) = some u := by
      intro j u hu
      have hj : j < ps.length * 2 := by
        rw [← flatP_len]
        exact (List.getElem?_eq_some_iff.1 hu).1
      have hne : ps ≠ [] := by rintro rfl; simp at hj
      obtain ⟨a', e, hb, hc⟩ := hA hne
      cases e
      have hdm := Nat.div_add_mod j 2
      have h2 : j % 2 < 2 := Nat.mod_lt _ (by decide)
      have hq : j / 2 < ps.length := by omega
      have e := flatP_at ps (j / 2) (j % 2) hq h2
      rw [show j / 2 * 2 + j % 2 = j by omega, hu] at e
      obtain ⟨m0, m1⟩ := hc (j / 2) hq
      refine ⟨hb, ?_⟩
      generalize hk : j % 2 = k at *
      match k, h2, e with
      | 0, _, e => rw [show j = j / 2 * 2 by omega, m0]; exact e.symm
      | 1, _, e => rw [show j = j / 2 * 2 + 1 by omega, m1]; exact e.symm
    have HC := hide hcell
    clear hcell hA
    obtain ⟨n, hn⟩ : ∃ n, n = ps.length := ⟨_, rfl⟩
    have HN := hide hn
    rw [← hn] at hl hcap ⊢
    clear hn
    go_enter Try.func54, Try.ntmps54
    go_wp2_with (at_builtin; refine wpList_append_own _ rfl _ _ 46 rfl w.heap.size 60 i0 (.agg #[.int .i64 0, .int .i64 0]) 2 16 Try.underlying46 hi' hz0 hz1 hz2 rfl (by decide) _ _ _ rfl (World.ownsRow_made w #[] 0 (Nat.le_refl _) (Nat.zero_le _) rfl) a n cap (flatP ps) rfl (by rw [flatP_len, HN.out]) (by intro j u hu; rw [((Chg.refl [] w).alloc _).cellA (by rw [add_block]; exact (HC.out j u hu).1) List.not_mem_nil]; exact (HC.out j u hu).2) (flatP_one ps) (by unfold maxLen; omega) (by omega) (by simp) ?_; intro v1 w1 hown1 hgrow1 _)
    go_ret
    exact ⟨_, rfl, by simpa using hown1, ((Chg.refl [] w).alloc _).grew (World.ownsRow_made (base := w.heap.size) (e := 60) (size := 2) w #[] 0 (Nat.le_refl _) (Nat.zero_le _) rfl) (Nat.le_refl _) hgrow1⟩
end Go.Proofs.Ytaapamoglgpocaa
