/- Words for the walks: slices of pairs of ints. -/
import Derived.Test.YtaapamoglgpocaaRun4
import Derived.Test.YtaapamoglgpocaaSaid
import Derived.Test.YtaapamoglgpocaaRLen2
import Derived.Test.YtaapamoglgpocaaLaw12
import Derived.ChangeKeysEq
import Derived.Test.YtaapamoglgpocaaOpen
namespace Go.Proofs.Ytaapamoglgpocaa
open Go.RowKit

abbrev Pr := Int × Int
def pr0 : Pr := (0, 0)
def prCells (x : Pr) : Array Value := #[.int .i64 x.1, .int .i64 x.2]
def prV (x : Pr) : Value := .agg #[.int .i64 x.1, .int .i64 x.2]
theorem infoPair : (Try.prog.info? 60).map (fun i => (i.zero, i.size, i.bytes)) = some (some (.agg #[.int .i64 0, .int .i64 0]), 2, 16) := by kernel_rfl
def flatP (ps : List Pr) : List Value := ps.flatMap fun x => (prCells x).toList
theorem flatP_len : ∀ ps : List Pr, (flatP ps).length = ps.length * 2
  | [] => rfl
  | x :: ps => by
    have := flatP_len ps
    unfold flatP at this ⊢
    rw [List.flatMap_cons, List.length_append, this, List.length_cons]
    show 2 + _ = _
    omega
theorem flatP_at : ∀ (ps : List Pr) (i k : Nat), i < ps.length → k < 2 → (flatP ps)[i * 2 + k]? = (prCells (ps.getD i pr0))[k]?
  | [], i, k, hi, _ => by simp at hi
  | x :: ps, 0, k, _, hk => by
    unfold flatP
    rw [List.flatMap_cons, List.getElem?_append_left (by show _ < 2; omega)]
    simp
  | x :: ps, i + 1, k, hi, hk => by
    have := flatP_at ps i k (by simpa using hi) hk
    unfold flatP at this ⊢
    rw [List.flatMap_cons, List.getElem?_append_right (by show 2 ≤ _; omega)]
    show ((List.flatMap _ ps))[(i + 1) * 2 + k - 2]? = _
    rw [show (i + 1) * 2 + k - 2 = i * 2 + k by omega, this]
    rfl
theorem flatP_snoc (ps : List Pr) (x : Pr) : flatP (ps ++ [x]) = flatP ps ++ (prCells x).toList := by
  unfold flatP
  rw [List.flatMap_append]
  simp
theorem flatP_one (ps : List Pr) : ∀ u ∈ flatP ps, u.oneCell' = true := by
  intro u hu
  obtain ⟨x, _, hx⟩ := List.mem_flatMap.1 hu
  simp [prCells] at hx
  rcases hx with rfl | rfl <;> rfl
theorem pr_one (x : Pr) : ∀ u ∈ (prCells x).toList, u.oneCell' = true := by
  intro u hu
  simp [prCells] at hu
  rcases hu with rfl | rfl <;> rfl
theorem pr_news (w : World) (x : Pr) (T : TypeId) {g : Nat} (hg : g = w.heap.size) : ∀ j u, (prCells x).toList[j]? = some u → (w.alloc (.cells (prCells x) T)).cell? ((⟨g, 0, none⟩ : Addr).add j) = some u := by
  intro j u hj
  subst hg
  rw [add_zero_row, (Box.new w (prCells x) T).cell j]
  simpa using hj
/-- A slice of these pairs, wherever it lies. -/
def SeeP (w : World) (v : Value) (ps : List Pr) : Prop :=
  ∃ ao cap, v = .slice ao ps.length cap ∧ ps.length ≤ cap ∧ (ps ≠ [] → ∃ a, ao = some a ∧ a.block < w.heap.size ∧ ∀ i, i < ps.length → w.cell? (a.add (i * 2)) = some (.int .i64 (ps.getD i pr0).1) ∧ w.cell? (a.add (i * 2 + 1)) = some (.int .i64 (ps.getD i pr0).2))
theorem SeeP.keep {w w' : World} {v : Value} {ps : List Pr} (h : SeeP w v ps) (hc : Chg [] w w') : SeeP w' v ps := by
  obtain ⟨ao, cap, e, hle, hA⟩ := h
  refine ⟨ao, cap, e, hle, fun hne => ?_⟩
  obtain ⟨a, rfl, hb, hx⟩ := hA hne
  have k : ∀ j, w'.cell? (a.add j) = w.cell? (a.add j) := fun j => hc.cellA (by rw [add_block]; exact hb) List.not_mem_nil
  refine ⟨a, rfl, Nat.lt_of_lt_of_le hb hc.size, fun i hi => ?_⟩
  rw [k, k]
  exact hx i hi
theorem SeeP.shape {w : World} {v : Value} {ps : List Pr} (h : SeeP w v ps) : ∃ ao cap, v = .slice ao ps.length cap ∧ ps.length ≤ cap := by
  obtain ⟨ao, cap, e, hle, _⟩ := h
  exact ⟨ao, cap, e, hle⟩
theorem SeeP.open {w : World} {v : Value} {ps : List Pr} (h : SeeP w v ps) (hne : ps ≠ []) : ∃ a cap, v = .slice (some a) ps.length cap ∧ a.block < w.heap.size ∧ ∀ wr, Chg [] w wr → ∀ i, i < ps.length →
    wr.cell? (a.add (i * 2)) = some (.int .i64 (ps.getD i pr0).1) ∧ wr.cell? ⟨(a.add (i * 2)).block, (a.add (i * 2)).off + 1, none⟩ = some (.int .i64 (ps.getD i pr0).2) := by
  obtain ⟨ao, cap, rfl, _, hA⟩ := h
  obtain ⟨a, rfl, hb, hx⟩ := hA hne
  refine ⟨a, cap, rfl, hb, fun wr hw i hi => ?_⟩
  have k : ∀ j, wr.cell? (a.add j) = w.cell? (a.add j) := fun j => hw.cellA (by rw [add_block]; exact hb) List.not_mem_nil
  rw [← add_in a (i * 2) (by decide : 1 ≤ 1), k, k]
  exact hx i hi
/-- A row of pairs that the call itself made. -/
theorem pairs_see {w : World} {base : Nat} {v : Value} {ps : List Pr} (h : w.ownsRow base 60 2 v ps.length (flatP ps)) : SeeP w v ps := by
  rcases h.2 with ⟨rfl, hn⟩ | ⟨g, cap, cur, rfl, hb, hg, hle, hcap, hsz, ht⟩
  · exact ⟨none, 0, by rw [hn], by omega, fun hne => absurd (List.length_eq_zero_iff.1 hn) hne⟩
  · refine ⟨some ⟨g, 0, none⟩, cap, rfl, hle, fun _ => ⟨_, rfl, (Array.getElem?_eq_some_iff.1 hg).1, fun i hi => ?_⟩⟩
    have key : ∀ k u, k < 2 → (prCells (ps.getD i pr0))[k]? = some u → w.cell? ((⟨g, 0, none⟩ : Addr).add (i * 2 + k)) = some u := fun k u hk hu => by
      rw [add_zero_row, cell_of_row w g _ cur 60 (0, 0) hg]
      have h1 := flatP_at ps i k hi hk
      rw [hu, ← ht, List.getElem?_take] at h1
      split at h1
      · simpa using h1
      · cases h1
    exact ⟨key 0 _ (by omega) rfl, key 1 _ (by omega) rfl⟩

@[go_sem] theorem run_eql_pairs_nil (w : World) (a : Option Addr) (l c : Nat) : (binOp .eql 46 (.slice a l c) (.slice none 0 0)).run Try.prog w = .ok (.bool a.isNone) w := by
  simp only [binOp]
  simp [run_equal_slice_nil w _ _ a l c Try.underlying46]

set_option maxRecDepth 100000 in
set_option maxHeartbeats 1000000 in
theorem CloneP_any (v : Value) (ps : List Pr) (w : World) (hv : SeeP w v ps) (hl : ps.length ≤ 1000) :
    Calls Try.prog 54 #[v] w fun e w' => ∃ v', e = .returned v' ∧ w'.ownsRow w.heap.size 60 2 v' ps.length (flatP ps) ∧ Chg [] w w' := by
  obtain ⟨i0, hi', hz0, hz1, hz2⟩ := info_parts infoPair
  obtain ⟨ao, cap, rfl, hcap, hA⟩ := hv
  cases ao with
  | none =>
    go_enter Try.func54, Try.ntmps54
    go_wp2
    go_ret
    have hnil : ps = [] := by
      by_cases h : ps = []
      · exact h
      · obtain ⟨a, h', _⟩ := hA h; cases h'
    subst hnil
    exact ⟨_, rfl, World.ownsRow_nil _ _ _ _, Chg.refl _ _⟩
  | some a =>
    have hcell : ∀ j u, (flatP ps)[j]? = some u → a.block < w.heap.size ∧ w.cell? (a.add j) = some u := by
      intro j u hu
      have hj : j < ps.length * 2 := by
        rw [← flatP_len]
        exact (List.getElem?_eq_some_iff.1 hu).1
      have hne : ps ≠ [] := by rintro rfl; simp at hj
      obtain ⟨a', e, hb, hc⟩ := hA hne
      cases e
      have hdm := Nat.div_add_mod j 2
      have h2 : j % 2 < 2 := Nat.mod_lt _ (by decide)
      have hq : j / 2 < ps.length := by omega
      have e := flatP_at ps (j / 2) (j % 2) hq h2
      rw [show j / 2 * 2 + j % 2 = j by omega, hu] at e
      obtain ⟨m0, m1⟩ := hc (j / 2) hq
      refine ⟨hb, ?_⟩
      generalize hk : j % 2 = k at *
      match k, h2, e with
      | 0, _, e => rw [show j = j / 2 * 2 by omega, m0]; exact e.symm
      | 1, _, e => rw [show j = j / 2 * 2 + 1 by omega, m1]; exact e.symm
    have HC := hide hcell
    clear hcell hA
    obtain ⟨n, hn⟩ : ∃ n, n = ps.length := ⟨_, rfl⟩
    have HN := hide hn
    rw [← hn] at hl hcap ⊢
    clear hn
    go_enter Try.func54, Try.ntmps54
    go_wp2_with (at_builtin; refine wpList_append_own _ rfl _ _ 46 rfl w.heap.size 60 i0 (.agg #[.int .i64 0, .int .i64 0]) 2 16 Try.underlying46 hi' hz0 hz1 hz2 rfl (by decide) _ _ _ rfl (World.ownsRow_made w #[] 0 (Nat.le_refl _) (Nat.zero_le _) rfl) a n cap (flatP ps) rfl (by rw [flatP_len, HN.out]) (by intro j u hu; rw [((Chg.refl [] w).alloc _).cellA (by rw [add_block]; exact (HC.out j u hu).1) List.not_mem_nil]; exact (HC.out j u hu).2) (flatP_one ps) (by unfold maxLen; omega) (by omega) (by simp) ?_; intro v1 w1 hown1 hgrow1 _)
    go_ret
    exact ⟨_, rfl, by simpa using hown1, ((Chg.refl [] w).alloc _).grew (World.ownsRow_made (base := w.heap.size) (e := 60) (size := 2) w #[] 0 (Nat.le_refl _) (Nat.zero_le _) rfl) (Nat.le_refl _) hgrow1⟩
end Go.Proofs.Ytaapamoglgpocaa

/- Walks: pairs compared, searched; the entries of a table with a value. -/
namespace Go.Proofs.Ytaapamoglgpocaa
open Go.RowKit

theorem part_p0 (a b : Int) (w : World) : (part 3 #[.int .i64 a, .int .i64 b] 0).run Try.prog w = .ok (.int .i64 a) w := by kernel_rfl
theorem part_p1 (a b : Int) (w : World) : (part 3 #[.int .i64 a, .int .i64 b] (Try.prog.cellsOf 3)).run Try.prog w = .ok (.int .i64 b) w := by kernel_rfl
theorem eq_int (a b : Int) (w : World) : (Op.equalIn 9999 3 (.int .i64 a) (.int .i64 b)).run Try.prog w = .ok (a == b) w := by kernel_rfl
theorem eq_pair (x y : Pr) (w : World) : (Op.equal 60 (prV x) (prV y)).run Try.prog w = .ok (decide (x = y)) w := by
  obtain ⟨i0, hi', hz0, hz1, hz2⟩ := info_parts infoInt
  obtain ⟨a, b⟩ := x
  obtain ⟨c, d⟩ := y
  have h := run_equalIn_array (P := Try.prog) (w := w) 9999 #[.int .i64 a, .int .i64 b] #[.int .i64 c, .int .i64 d] Try.underlying60 hi'
  unfold Op.equal prV
  refine Eq.trans h ?_
  simp [Op.eqItems, List.range_succ, part_p0, part_p1, eq_int]
  by_cases h1 : a = c
  · by_cases h2 : b = d
    · simp [h1, h2]
    · simp [h1, h2]
  · simp [h1]
/-- Whether two pairs are the same. -/
def eqP (a b c d : Int) : Bool := decide ((a, b) = (c, d))
theorem eqP_iff {a b c d : Int} : eqP a b c d = true ↔ (a, b) = (c, d) := by unfold eqP; rw [decide_eq_true_eq]
theorem eqP_self (a b : Int) : eqP a b a b = true := eqP_iff.2 rfl
theorem eqP_not {a b c d : Int} (h : ¬ (a, b) = (c, d)) : eqP a b c d = false := by unfold eqP; rw [decide_eq_false_iff_not]; exact h
@[go_sem] theorem run_equal_pair (a b c d : Int) (w : World) : (Op.equal 60 (.agg #[.int .i64 a, .int .i64 b]) (.agg #[.int .i64 c, .int .i64 d])).run Try.prog w = .ok (eqP a b c d) w := eq_pair (a, b) (c, d) w
@[go_sem] theorem run_equalIn_pair (a b c d : Int) (w : World) : (Op.equalIn 10000 60 (.agg #[.int .i64 a, .int .i64 b]) (.agg #[.int .i64 c, .int .i64 d])).run Try.prog w = .ok (eqP a b c d) w := eq_pair (a, b) (c, d) w

set_option maxRecDepth 100000 in
set_option maxHeartbeats 1000000 in
theorem EqualP_any (v u : Value) (xs ys : List Pr) (w : World) (hv : SeeP w v xs) (hu : SeeP w u ys) (hl : xs.length ≤ 1000000) :
    Calls Try.prog 41 #[v, u] w (Ret (.bool (decide (xs = ys))) w) := by
  obtain ⟨ao, cap, rfl, _⟩ := hv.shape
  obtain ⟨bo, cap', rfl, _⟩ := hu.shape
  have HV := hide hv
  have HU := hide hu
  clear hv hu
  by_cases hlen : xs.length = ys.length
  · have d0 : ((xs.length : Int) != (ys.length : Int)) = false := by simp [hlen]
    obtain ⟨n, hn⟩ : ∃ n, n = xs.length := ⟨_, rfl⟩
    rw [← hlen] at HU d0 ⊢
    have HN := hide hn
    rw [← hn] at HV HU d0 hl ⊢
    have HN2 : Hid (n = ys.length) := hide (hn.trans hlen)
    clear hn hlen
    go_enter Try.func41, Try.ntmps41
    go_wp2
    go_loopw [13] (fun iv wr => ∃ i : Nat, i ≤ n ∧ iv = .int .i64 (i : Int) ∧ Hid ((∀ q, q < i → xs.getD q pr0 = ys.getD q pr0) ∧ Chg [] w wr)) (fun iv _ => n - (intOf iv).toNat)
    case atStart => exact ⟨0, Nat.zero_le _, rfl, hide ⟨fun q h => by omega, Chg.refl _ _⟩⟩
    case round =>
      obtain ⟨i, hi, rfl, hI⟩ := hrel
      by_cases hlt : i < n
      · have d1 : decide ((i : Int) < (n : Int)) = true := by simpa using hlt
        have nx : xs ≠ [] := fun h => by have := HN.out; rw [h] at this; simp at this; omega
        have ny : ys ≠ [] := fun h => by have := HN2.out; rw [h] at this; simp at this; omega
        obtain ⟨a, c1, e1, _, hc1⟩ := HV.out.open nx
        obtain ⟨b, c2, e2, _, hc2⟩ := HU.out.open ny
        obtain ⟨rfl, hn1, rfl⟩ : ao = some a ∧ n = xs.length ∧ cap = c1 := by simpa using e1
        obtain ⟨rfl, hn2, rfl⟩ : bo = some b ∧ n = ys.length ∧ cap' = c2 := by simpa using e2
        obtain ⟨x0, x1⟩ := hc1 wr hI.out.2 i (by rw [← HN.out]; exact hlt)
        obtain ⟨y0, y1⟩ := hc2 wr hI.out.2 i (by rw [← HN2.out]; exact hlt)
        obtain ⟨x, hx⟩ : ∃ x, x = xs.getD i pr0 := ⟨_, rfl⟩
        obtain ⟨y, hy⟩ : ∃ y, y = ys.getD i pr0 := ⟨_, rfl⟩
        rw [← hx] at x0 x1
        rw [← hy] at y0 y1
        have i0 : (0 : Int) ≤ (i : Int) := by omega
        have i1 : (i : Int) < (n : Int) := by omega
        have HX := hide hx
        have HY := hide hy
        have C1 := hide hI.out.2
        have HQ := hide hI.out.1
        obtain ⟨xa, xb⟩ := x
        obtain ⟨ya, yb⟩ := y
        clear nx ny hc1 hc2 hx hy hI e1 e2 hn1 hn2
        by_cases hxy : (xa, xb) = (ya, yb)
        · have d2 := eqP_iff.2 hxy
          have HE := hide hxy
          clear hxy
          go_wp2
          go_quiet (fail)
          have C2 : Hid (Chg [] w (wr.drewN nq)) := hide (C1.out.drewN _)
          clear x0 x1 y0 y1
          generalize wr.drewN nq = w2 at C2 ⊢
          go_wp2
          go_roundw
          case rel => exact ⟨i + 1, by omega, by go_num, hide ⟨fun q hq => by
            rcases (show q < i ∨ q = i by omega) with h | rfl
            · exact HQ.out q h
            · rw [← HX.out, ← HY.out]; exact HE.out, C2.out⟩⟩
          case measure => simp [intOf]; omega
        · have d2 := eqP_not hxy
          have HE : Hid (decide (xs = ys) = false) := hide (decide_eq_false fun h => hxy (by rw [HX.out, HY.out, h]))
          clear hxy
          go_wp2
          go_quiet (fail)
          have C2 : Hid (Chg [] w (wr.drewN nq)) := hide (C1.out.drewN _)
          clear x0 x1 y0 y1
          generalize wr.drewN nq = w2 at C2 ⊢
          go_wp2
          go_ret
          exact ⟨by rw [HE.out]; rfl, C2.out⟩
      · have d1 : decide ((i : Int) < (n : Int)) = false := by simpa using hlt
        obtain rfl : i = n := by omega
        have HE : Hid (decide (xs = ys) = true) := hide (decide_eq_true (List.ext_getElem? fun q => by
          rcases Nat.lt_or_ge q i with h | h
          · have := hI.out.1 q h
            have h1 : q < xs.length := by rw [← HN.out]; exact h
            have h2 : q < ys.length := by rw [← HN2.out]; exact h
            rw [List.getD_eq_getElem?_getD, List.getD_eq_getElem?_getD, List.getElem?_eq_getElem h1, List.getElem?_eq_getElem h2] at this
            rw [List.getElem?_eq_getElem h1, List.getElem?_eq_getElem h2]
            exact congrArg some this
          · rw [List.getElem?_eq_none (by rw [← HN.out]; exact h), List.getElem?_eq_none (by rw [← HN2.out]; exact h)]))
        go_wp2
        go_ret
        exact ⟨by rw [HE.out]; rfl, hI.out.2⟩
  · have d0 : ((xs.length : Int) != (ys.length : Int)) = true := by simp; omega
    have HE : Hid (decide (xs = ys) = false) := hide (decide_eq_false fun h => hlen (by rw [h]))
    rw [HE.out]
    clear hlen
    generalize xs.length = n at *
    generalize ys.length = m at *
    go_enter Try.func41, Try.ntmps41
    go_wp2
    go_ret
    exact ⟨rfl, Chg.refl _ _⟩
end Go.Proofs.Ytaapamoglgpocaa

/- How a slice of pairs is read; walk: pairs, the cut of one. -/
namespace Go.Proofs.Ytaapamoglgpocaa
open Go.ChangeShapes Go.WideShapes Go.ChangeAt Go.RowKit

theorem cellsOfPair : Try.prog.cellsOf 60 = 2 := by kernel_rfl
/-- A slice of pairs. -/
def IsPairs (w : World) (v : Value) : Prop := ∃ ps, SeeP w v ps ∧ ps.length ≤ 9223372036854775807
section
variable {H : Type} {enc : TypeId × Value → H} {w : World} {base : Nat} {spare : Nat → Bool} {held : Bool}
set_option maxRecDepth 100000 in
theorem pair_cells {n : Nat} {cs : List Value} {x : Option (DataW H × List MemPlace)} (hl : cs.length = 2) (h : DataW.trod enc Try.prog w base spare held n 60 cs = x) (hx : x.isSome = true) :
    ∃ y : Pr, cs = [.int .i64 y.1, .int .i64 y.2] := by
  obtain ⟨z, rfl⟩ := Option.isSome_iff_exists.1 hx
  obtain ⟨xs, m, _, _, _, hxl, hg⟩ := DataW.trod_array Try.underlying60 h
  match cs, hl with
  | [c0, c1], _ =>
    have g0 : DataW.trod enc Try.prog w base spare held m 3 [c0] = xs[0]? := by simpa [cellsOfInt] using hg 0 (by omega)
    have g1 : DataW.trod enc Try.prog w base spare held m 3 [c1] = xs[1]? := by simpa [cellsOfInt] using hg 1 (by omega)
    obtain ⟨k0, rfl, _⟩ := cell_int g0 (by simp [hxl])
    obtain ⟨k1, rfl, _⟩ := cell_int g1 (by simp [hxl])
    exact ⟨(k0, k1), rfl⟩
set_option maxRecDepth 100000 in
theorem open_pairs' {r : Reach} {b0 : Nat} {v : Value} {d : DataW H} {ps : List MemPlace} (hv : Value.okWide Try.prog w r b0 46 v) (h : DataW.Trod enc Try.prog w base spare held 46 v d ps) : IsPairs w v := by
  obtain ⟨a0, len0, cap0, rfl⟩ := okWide_slice Try.underlying46 hv
  obtain ⟨fuel, hf⟩ := h
  rcases DataW.trod_slice Try.underlying46 hf with ⟨e, _⟩ | ⟨a, len, cap, elems, rest, n, _, e, _, _, hle, hcap, hlen, hel, _, _⟩
  · have e' : Value.slice a0 len0 cap0 = .slice none 0 0 := by simpa [Value.cells] using e
    cases e'
    exact ⟨[], ⟨none, 0, rfl, by simp, fun h => absurd rfl h⟩, by simp⟩
  · have e' : Value.slice a0 len0 cap0 = .slice (some a) len cap := by simpa [Value.cells] using e
    rw [e']
    have each : ∀ i, ∃ y : Pr, i < len → ∀ k u, ([.int .i64 y.1, .int .i64 y.2] : List Value)[k]? = some u → w.cell? (a.add (i * 2 + k)) = some u := by
      intro i
      by_cases hi : i < len
      · have hb := hel i hi
        rw [cellsOfPair] at hb
        obtain ⟨y, hy⟩ : ∃ y, elems[i]? = some y := ⟨_, List.getElem?_eq_getElem (by omega)⟩
        rw [hy, Option.bind_eq_some_iff] at hb
        obtain ⟨cs', hcs, hy'⟩ := hb
        obtain ⟨_, hl1, hc0⟩ := World.cells?_some hcs
        obtain ⟨z, rfl⟩ := pair_cells hl1 hy' rfl
        refine ⟨z, fun _ k u hk => ?_⟩
        have hk2 : k < 2 := by
          have := (List.getElem?_eq_some_iff.1 hk).1
          simpa using this
        have hc := hc0 k hk2
        have e2 : (a.add (i * 2)).add k = a.add (i * 2 + k) := by
          by_cases h0 : k = 0
          · subst h0; rw [add_nought]; rfl
          · rw [add_in a (i * 2) (by omega : 1 ≤ k)]
            unfold Addr.add
            rw [if_neg h0]
        rw [e2] at hc
        rw [hc]
        exact hk
      · exact ⟨pr0, fun h => absurd h hi⟩
    obtain ⟨f, hf⟩ := Classical.axiomOfChoice each
    have hl : ((List.range len).map f).length = len := by simp
    have hg : ∀ i, i < len → ((List.range len).map f).getD i pr0 = f i := fun i hi => by
      rw [List.getD_eq_getElem?_getD, List.getElem?_map, List.getElem?_range hi]; rfl
    refine ⟨(List.range len).map f, ⟨some a, cap, by rw [hl], by rw [hl]; exact hle, fun hne => ⟨a, rfl, ?_, fun i hi => ?_⟩⟩, by rw [hl]; unfold maxLen at hcap; omega⟩
    · have h0 : 0 < len := by
        rcases Nat.eq_zero_or_pos len with h | h
        · subst h; simp at hne
        · exact h
      have := lt_of_cell (hf 0 h0 0 _ rfl)
      rwa [add_block] at this
    · rw [hl] at hi
      rw [hg i hi]
      have h6 := hf i hi
      exact ⟨h6 0 _ rfl, h6 1 _ rfl⟩
end
theorem SeeP.take {w : World} {ao : Option Addr} {n c : Nat} {ps : List Pr} (h : SeeP w (.slice ao n c) ps) (i : Nat) (hi : i ≤ n) : SeeP w (.slice ao i c) (ps.take i) := by
  obtain ⟨ao', cap, e, hle, hA⟩ := h
  cases e
  have e : (ps.take i).length = i := by rw [List.length_take]; omega
  refine ⟨ao, c, by rw [e], by omega, fun hne => ?_⟩
  obtain ⟨a, rfl, hb, hc⟩ := hA (by rintro rfl; simp at hne)
  refine ⟨a, rfl, hb, fun j hj => ?_⟩
  rw [e] at hj
  have := hc j (by omega)
  rw [List.getD_eq_getElem?_getD, List.getElem?_take, if_pos hj, ← List.getD_eq_getElem?_getD]
  exact this

set_option maxRecDepth 100000 in
set_option maxHeartbeats 1000000 in
theorem pairs_any (v : Value) (l : List Pr) (w : World) (hv : SeeP w v l) :
    Calls Try.prog 39 #[v] w fun e w' => ∃ v', e = .returned v' ∧ SeeP w' v' (l.take 40) ∧ Chg [] w w' := by
  obtain ⟨ao, cap, rfl, hcap⟩ := hv.shape
  have e40 : l.take 40 = l.take (min l.length 40) := by
    rcases Nat.le_total l.length 40 with h | h
    · rw [Nat.min_eq_left h, List.take_of_length_le h, List.take_of_length_le (Nat.le_refl _)]
    · rw [Nat.min_eq_right h]
  have HC := hide (CloneP_any _ _ w (hv.take (min l.length 40) (Nat.min_le_left _ _)) (by rw [List.length_take]; omega))
  rw [e40]
  have HL : Hid ((l.take (min l.length 40)).length = min l.length 40) := hide (by rw [List.length_take]; omega)
  clear hv e40
  generalize hmi : min l.length 40 = m at *
  have hm1 : m ≤ l.length := by omega
  have hm0 : (if l.length < 40 then l.length else 40) = m := by split <;> omega
  generalize l.length = n at *
  have i0 : (0 : Int) ≤ (m : Int) := by omega
  have i1 : (m : Int) ≤ (cap : Int) := by omega
  go_enter Try.func39, Try.ntmps39
  go_wp2_with fail
  all_goals (
    first
      | (obtain rfl : m = n := by omega
         refine HC.out.mono ?_)
      | (obtain rfl : m = 40 := by omega
         refine HC.out.mono ?_)
    rintro e w1 ⟨v1, rfl, ho, hw⟩
    have HS := hide (pairs_see ho)
    have HW := hide hw
    clear ho hw HC
    go_wp2
    go_ret
    exact ⟨v1, rfl, HS.out, HW.out⟩)
end Go.Proofs.Ytaapamoglgpocaa
