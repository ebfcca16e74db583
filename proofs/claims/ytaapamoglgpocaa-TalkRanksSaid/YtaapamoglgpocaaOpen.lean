/- How the arguments of the statements are read: ints, bools, slices of ints, slices of them, plans. -/
import Derived.Test.YtaapamoglgpocaaNodes
import Derived.ProofKit
import Derived.OpenShut
import Derived.Carry
import Derived.ChangeSlices
namespace Go.Proofs.Ytaapamoglgpocaa
open Go.ChangeShapes Go.WideShapes Go.ChangeAt Go.RowKit

def fits64 (x : Int) : Prop := -9223372036854775808 ≤ x ∧ x ≤ 9223372036854775807
/-- An int; a bool. -/
def IsInt (v : Value) : Prop := ∃ x : Int, v = .int .i64 x ∧ fits64 x
def IsBool (v : Value) : Prop := ∃ x : Bool, v = .bool x
theorem read_int {x : Int} (h : (Lit.int .i64 x).wf = true) : IsInt (.int .i64 x) := ⟨x, rfl, bounds_i64 h⟩
theorem cellsOfInt : Try.prog.cellsOf 3 = 1 := by kernel_rfl
theorem cellsOfBool : Try.prog.cellsOf 4 = 1 := by kernel_rfl
theorem cellsOfInts : Try.prog.cellsOf 38 = 1 := by kernel_rfl
theorem cellsOfNode : Try.prog.cellsOf 77 = 6 := by kernel_rfl

/-- A slice of ints; a slice of such; a slice of nodes. -/
def IsInts (w : World) (v : Value) : Prop := ∃ xs, See w v xs ∧ xs.length ≤ 9223372036854775807
def IsRows (w : World) (v : Value) : Prop := ∃ t, See2 w v t ∧ t.length ≤ 9223372036854775807 ∧ ∀ r ∈ t, r.length ≤ 9223372036854775807
def IsNodes (w : World) (v : Value) : Prop := ∃ ps, SeeN w v ps ∧ ps.length ≤ 9223372036854775807

section
variable {H : Type} {enc : TypeId × Value → H} {w : World} {base : Nat} {spare : Nat → Bool} {held : Bool}
theorem cell_int {n : Nat} {c : Value} {x : Option (DataW H × List MemPlace)} (h : DataW.trod enc Try.prog w base spare held n 3 [c] = x) (hx : x.isSome = true) : ∃ k, c = .int .i64 k ∧ fits64 k := by
  obtain ⟨y, rfl⟩ := Option.isSome_iff_exists.1 hx
  obtain ⟨k, h1, _, h2⟩ := DataW.trod_int Try.underlying3 h
  simp at h1
  exact ⟨k, h1, bounds_i64 h2⟩
theorem cell_bool {n : Nat} {c : Value} {x : Option (DataW H × List MemPlace)} (h : DataW.trod enc Try.prog w base spare held n 4 [c] = x) (hx : x.isSome = true) : ∃ k, c = .bool k := by
  obtain ⟨y, rfl⟩ := Option.isSome_iff_exists.1 hx
  obtain ⟨k, h1, _⟩ := DataW.trod_bool Try.underlying4 h
  simp at h1
  exact ⟨k, h1⟩
theorem lt_of_cell {a : Addr} {u : Value} (h : w.cell? a = some u) : a.block < w.heap.size := World.block_lt_of_cell? w a h
theorem see_cell {n : Nat} {c : Value} {x : Option (DataW H × List MemPlace)} (h : DataW.trod enc Try.prog w base spare held n 38 [c] = x) (hx : x.isSome = true) : IsInts w c := by
  obtain ⟨y, rfl⟩ := Option.isSome_iff_exists.1 hx
  rcases open_ints Try.underlying38 Try.underlying3 cellsOfInt h with ⟨e, _⟩ | ⟨a, len, cap, zs, e, _, hle, hcap, hzl, _, hc, _⟩
  · simp only [List.cons.injEq, and_true] at e
    subst e
    exact ⟨[], .inl ⟨rfl, _, _, rfl⟩, by simp⟩
  · simp only [List.cons.injEq, and_true] at e
    subst e
    have hzl' : len ≤ zs.length := by split at hzl <;> omega
    have hl : (zs.take len).length = len := by rw [List.length_take]; omega
    refine ⟨zs.take len, ?_, by unfold maxLen at hcap; omega⟩
    by_cases h0 : len = 0
    · subst h0
      exact .inl ⟨by simp, _, _, rfl⟩
    · have c0 := hc 0 (by omega)
      have hb := lt_of_cell c0
      rw [add_block] at hb
      refine .inr ⟨a, cap, by rw [hl], by omega, hb, fun i hi => ?_⟩
      rw [hl] at hi
      rw [hc i (by omega), List.getD_eq_getElem?_getD, List.getD_eq_getElem?_getD, List.getElem?_take, if_pos hi]
set_option maxRecDepth 100000 in
theorem open_ints' {r : Reach} {b0 : Nat} {v : Value} {d : DataW H} {ps : List MemPlace} (hv : Value.okWide Try.prog w r b0 38 v) (h : DataW.Trod enc Try.prog w base spare held 38 v d ps) : IsInts w v := by
  obtain ⟨a, len, cap, rfl⟩ := okWide_slice Try.underlying38 hv
  obtain ⟨fuel, hf⟩ := h
  exact see_cell hf rfl
set_option maxRecDepth 100000 in
theorem open_rows' {r : Reach} {b0 : Nat} {v : Value} {d : DataW H} {ps : List MemPlace} (hv : Value.okWide Try.prog w r b0 22 v) (h : DataW.Trod enc Try.prog w base spare held 22 v d ps) : IsRows w v := by
  obtain ⟨a0, len0, cap0, rfl⟩ := okWide_slice Try.underlying22 hv
  obtain ⟨fuel, hf⟩ := h
  rcases DataW.trod_slice Try.underlying22 hf with ⟨e, _⟩ | ⟨a, len, cap, elems, rest, n, _, e, _, _, hle, hcap, hlen, hel, _, _⟩
  · have e' : Value.slice a0 len0 cap0 = .slice none 0 0 := by simpa [Value.cells] using e
    cases e'
    exact ⟨[], ⟨none, 0, rfl, by simp, fun h => absurd rfl h⟩, by simp, fun r hr => by simp at hr⟩
  · have e' : Value.slice a0 len0 cap0 = .slice (some a) len cap := by simpa [Value.cells] using e
    rw [e']
    have each : ∀ i, ∃ xs : List Int, i < len → (∃ u, w.cell? (a.add i) = some u ∧ See w u xs) ∧ xs.length ≤ 9223372036854775807 := by
      intro i
      by_cases hi : i < len
      · have hb := hel i hi
        rw [cellsOfInts, Nat.mul_one] at hb
        obtain ⟨y, hy⟩ : ∃ y, elems[i]? = some y := ⟨_, List.getElem?_eq_getElem (by omega)⟩
        rw [hy, Option.bind_eq_some_iff] at hb
        obtain ⟨cs', hcs, hy'⟩ := hb
        obtain ⟨_, hl1, hc0⟩ := World.cells?_some hcs
        match cs', hl1 with
        | [c], _ =>
          have hc := hc0 0 (by omega)
          obtain ⟨xs, hs, hx⟩ := see_cell hy' rfl
          refine ⟨xs, fun _ => ⟨⟨c, ?_, hs⟩, hx⟩⟩
          simpa using cell_of_cells?_one hcs
      · exact ⟨[], fun h => absurd h hi⟩
    obtain ⟨f, hf⟩ := Classical.axiomOfChoice each
    have hl : ((List.range len).map f).length = len := by simp
    have hg : ∀ i, i < len → ((List.range len).map f).getD i [] = f i := fun i hi => by
      rw [List.getD_eq_getElem?_getD, List.getElem?_map, List.getElem?_range hi]; rfl
    refine ⟨(List.range len).map f, ⟨some a, cap, by rw [hl], by rw [hl]; exact hle, fun hne => ⟨a, rfl, ?_, fun i hi => ?_⟩⟩, by rw [hl]; unfold maxLen at hcap; omega, fun r hr => ?_⟩
    · have h0 : 0 < len := by
        rcases Nat.eq_zero_or_pos len with h | h
        · subst h; simp at hne
        · exact h
      obtain ⟨⟨u, hu, _⟩, _⟩ := hf 0 h0
      have := lt_of_cell hu
      rwa [add_block] at this
    · rw [hl] at hi
      rw [hg i hi]
      exact (hf i hi).1
    · obtain ⟨i, hi, rfl⟩ := List.mem_map.1 hr
      exact (hf i (List.mem_range.1 hi)).2
set_option maxRecDepth 100000 in
theorem node_cells {n : Nat} {cs : List Value} {x : Option (DataW H × List MemPlace)} (hl : cs.length = 6) (h : DataW.trod enc Try.prog w base spare held n 77 cs = x) (hx : x.isSome = true) :
    ∃ y : Nd, cs = [.bool y.leaf, .int .i64 y.val, .int .i64 y.who, .int .i64 y.set, .int .i64 y.no, .int .i64 y.yes] := by
  obtain ⟨z, rfl⟩ := Option.isSome_iff_exists.1 hx
  obtain ⟨xs, m, _, _, _, hxl, hg⟩ := DataW.trod_struct Try.underlying77 h
  match cs, hl with
  | [c0, c1, c2, c3, c4, c5], _ =>
    have g0 : DataW.trod enc Try.prog w base spare held m 4 [c0] = xs[0]? := by simpa [cellsOfInt, cellsOfBool, Value.cells] using hg 0 _ rfl
    have g1 : DataW.trod enc Try.prog w base spare held m 3 [c1] = xs[1]? := by simpa [cellsOfInt, cellsOfBool, Value.cells] using hg 1 _ rfl
    have g2 : DataW.trod enc Try.prog w base spare held m 3 [c2] = xs[2]? := by simpa [cellsOfInt, cellsOfBool, Value.cells] using hg 2 _ rfl
    have g3 : DataW.trod enc Try.prog w base spare held m 3 [c3] = xs[3]? := by simpa [cellsOfInt, cellsOfBool, Value.cells] using hg 3 _ rfl
    have g4 : DataW.trod enc Try.prog w base spare held m 3 [c4] = xs[4]? := by simpa [cellsOfInt, cellsOfBool, Value.cells] using hg 4 _ rfl
    have g5 : DataW.trod enc Try.prog w base spare held m 3 [c5] = xs[5]? := by simpa [cellsOfInt, cellsOfBool, Value.cells] using hg 5 _ rfl
    have hl6 : xs.length = 6 := hxl
    obtain ⟨b, rfl⟩ := cell_bool g0 (by simp [hl6])
    obtain ⟨k1, rfl, _⟩ := cell_int g1 (by simp [hl6])
    obtain ⟨k2, rfl, _⟩ := cell_int g2 (by simp [hl6])
    obtain ⟨k3, rfl, _⟩ := cell_int g3 (by simp [hl6])
    obtain ⟨k4, rfl, _⟩ := cell_int g4 (by simp [hl6])
    obtain ⟨k5, rfl, _⟩ := cell_int g5 (by simp [hl6])
    exact ⟨⟨b, k1, k2, k3, k4, k5⟩, rfl⟩
set_option maxRecDepth 100000 in
theorem open_nodes' {r : Reach} {b0 : Nat} {v : Value} {d : DataW H} {ps : List MemPlace} (hv : Value.okWide Try.prog w r b0 30 v) (h : DataW.Trod enc Try.prog w base spare held 30 v d ps) : IsNodes w v := by
  obtain ⟨a0, len0, cap0, rfl⟩ := okWide_slice Try.underlying30 hv
  obtain ⟨fuel, hf⟩ := h
  rcases DataW.trod_slice Try.underlying30 hf with ⟨e, _⟩ | ⟨a, len, cap, elems, rest, n, _, e, _, _, hle, hcap, hlen, hel, _, _⟩
  · have e' : Value.slice a0 len0 cap0 = .slice none 0 0 := by simpa [Value.cells] using e
    cases e'
    exact ⟨[], ⟨none, 0, rfl, by simp, fun h => absurd rfl h⟩, by simp⟩
  · have e' : Value.slice a0 len0 cap0 = .slice (some a) len cap := by simpa [Value.cells] using e
    rw [e']
    have each : ∀ i, ∃ y : Nd, i < len → ∀ k u, ([.bool y.leaf, .int .i64 y.val, .int .i64 y.who, .int .i64 y.set, .int .i64 y.no, .int .i64 y.yes] : List Value)[k]? = some u → w.cell? (a.add (i * 6 + k)) = some u := by
      intro i
      by_cases hi : i < len
      · have hb := hel i hi
        rw [cellsOfNode] at hb
        obtain ⟨y, hy⟩ : ∃ y, elems[i]? = some y := ⟨_, List.getElem?_eq_getElem (by omega)⟩
        rw [hy, Option.bind_eq_some_iff] at hb
        obtain ⟨cs', hcs, hy'⟩ := hb
        obtain ⟨_, hl1, hc0⟩ := World.cells?_some hcs
        obtain ⟨z, rfl⟩ := node_cells hl1 hy' rfl
        refine ⟨z, fun _ k u hk => ?_⟩
        have hk6 : k < 6 := by
          have := (List.getElem?_eq_some_iff.1 hk).1
          simpa using this
        have hc := hc0 k hk6
        have e2 : (a.add (i * 6)).add k = a.add (i * 6 + k) := by
          by_cases h0 : k = 0
          · subst h0; rw [add_nought]; rfl
          · rw [add_in a (i * 6) (by omega : 1 ≤ k)]
            unfold Addr.add
            rw [if_neg h0]
        rw [e2] at hc
        rw [hc]
        exact hk
      · exact ⟨nd0, fun h => absurd h hi⟩
    obtain ⟨f, hf⟩ := Classical.axiomOfChoice each
    have hl : ((List.range len).map f).length = len := by simp
    have hg : ∀ i, i < len → ((List.range len).map f).getD i nd0 = f i := fun i hi => by
      rw [List.getD_eq_getElem?_getD, List.getElem?_map, List.getElem?_range hi]; rfl
    refine ⟨(List.range len).map f, ⟨some a, cap, by rw [hl], by rw [hl]; exact hle, fun hne => ⟨a, rfl, ?_, fun i hi => ?_⟩⟩, by rw [hl]; unfold maxLen at hcap; omega⟩
    · have h0 : 0 < len := by
        rcases Nat.eq_zero_or_pos len with h | h
        · subst h; simp at hne
        · exact h
      have := lt_of_cell (hf 0 h0 0 _ rfl)
      rwa [add_block] at this
    · rw [hl] at hi
      rw [hg i hi]
      have h6 := hf i hi
      exact ⟨h6 0 _ rfl, h6 1 _ rfl, h6 2 _ rfl, h6 3 _ rfl, h6 4 _ rfl, h6 5 _ rfl⟩
end
end Go.Proofs.Ytaapamoglgpocaa
