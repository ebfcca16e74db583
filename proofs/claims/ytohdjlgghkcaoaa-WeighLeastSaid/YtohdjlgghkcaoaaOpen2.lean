/- How the arguments of the statements are read: slices of ints, slices of them. -/
import Derived.Test.YtohdjlgghkcaoaaOpen
import Derived.Test.YtohdjlgghkcaoaaS2
import Derived.ChangeSlices
namespace Go.Proofs.Ytohdjlgghkcaoaa
open Go.ChangeShapes Go.WideShapes Go.ChangeAt Go.RowKit

theorem cellsOfInts : Try.prog.cellsOf 51 = 1 := by kernel_rfl

/-- A slice of ints; a slice of such. -/
def IsInts (w : World) (v : Value) : Prop := ∃ xs, See w v xs ∧ xs.length ≤ 9223372036854775807
def IsRows (w : World) (v : Value) : Prop := ∃ t, See2 w v t ∧ t.length ≤ 9223372036854775807 ∧ ∀ r ∈ t, r.length ≤ 9223372036854775807

section
variable {H : Type} {enc : TypeId × Value → H} {w : World} {base : Nat} {spare : Nat → Bool} {held : Bool}
theorem lt_of_cell {a : Addr} {u : Value} (h : w.cell? a = some u) : a.block < w.heap.size := World.block_lt_of_cell? w a h
theorem see_cell {n : Nat} {c : Value} {x : Option (DataW H × List MemPlace)} (h : DataW.trod enc Try.prog w base spare held n 51 [c] = x) (hx : x.isSome = true) : IsInts w c := by
  obtain ⟨y, rfl⟩ := Option.isSome_iff_exists.1 hx
  rcases open_ints Try.underlying51 Try.underlying3 cellsOfInt h with ⟨e, _⟩ | ⟨a, len, cap, zs, e, _, hle, hcap, hzl, _, hc, _⟩
  · simp only [List.cons.injEq, and_true] at e
    subst e
    exact ⟨[], .inl ⟨rfl, _, _, rfl⟩, by simp⟩
  · simp only [List.cons.injEq, and_true] at e
    subst e
    have hzl' : len ≤ zs.length := by split at hzl <;> omega
    have hl : (zs.take len).length = len := by rw [List.length_take]; omega
    refine ⟨zs.take len, ?_, by unfold maxLen at hcap; omega⟩
    by_cases h0 : len = 0
    · subst h0
      exact .inl ⟨by simp, _, _, rfl⟩
    · have c0 := hc 0 (by omega)
      have hb := lt_of_cell c0
      rw [add_block] at hb
      refine .inr ⟨a, cap, by rw [hl], by omega, hb, fun i hi => ?_⟩
      rw [hl] at hi
      rw [hc i (by omega), List.getD_eq_getElem?_getD, List.getD_eq_getElem?_getD, List.getElem?_take, if_pos hi]
set_option maxRecDepth 100000 in
theorem open_ints' {r : Reach} {b0 : Nat} {v : Value} {d : DataW H} {ps : List MemPlace} (hv : Value.okWide Try.prog w r b0 51 v) (h : DataW.Trod enc Try.prog w base spare held 51 v d ps) : IsInts w v := by
  obtain ⟨a, len, cap, rfl⟩ := okWide_slice Try.underlying51 hv
  obtain ⟨fuel, hf⟩ := h
  exact see_cell hf rfl
set_option maxRecDepth 100000 in
theorem open_rows' {r : Reach} {b0 : Nat} {v : Value} {d : DataW H} {ps : List MemPlace} (hv : Value.okWide Try.prog w r b0 62 v) (h : DataW.Trod enc Try.prog w base spare held 62 v d ps) : IsRows w v := by
  obtain ⟨a0, len0, cap0, rfl⟩ := okWide_slice Try.underlying62 hv
  obtain ⟨fuel, hf⟩ := h
  rcases DataW.trod_slice Try.underlying62 hf with ⟨e, _⟩ | ⟨a, len, cap, elems, rest, n, _, e, _, _, hle, hcap, hlen, hel, _, _⟩
  · have e' : Value.slice a0 len0 cap0 = .slice none 0 0 := by simpa [Value.cells] using e
    cases e'
    exact ⟨[], ⟨none, 0, rfl, by simp, fun h => absurd rfl h⟩, by simp, fun r hr => by simp at hr⟩
  · have e' : Value.slice a0 len0 cap0 = .slice (some a) len cap := by simpa [Value.cells] using e
    rw [e']
    have each : ∀ i, ∃ xs : List Int, i < len → (∃ u, w.cell? (a.add i) = some u ∧ See w u xs) ∧ xs.length ≤ 9223372036854775807 := by
      intro i
      by_cases hi : i < len
      · have hb := hel i hi
        rw [cellsOfInts, Nat.mul_one] at hb
        obtain ⟨y, hy⟩ : ∃ y, elems[i]? = some y := ⟨_, List.getElem?_eq_getElem (by omega)⟩
        rw [hy, Option.bind_eq_some_iff] at hb
        obtain ⟨cs', hcs, hy'⟩ := hb
        obtain ⟨_, hl1, hc0⟩ := World.cells?_some hcs
        match cs', hl1 with
        | [c], _ =>
          have hc := hc0 0 (by omega)
          obtain ⟨xs, hs, hx⟩ := see_cell hy' rfl
          refine ⟨xs, fun _ => ⟨⟨c, ?_, hs⟩, hx⟩⟩
          simpa using cell_of_cells?_one hcs
      · exact ⟨[], fun h => absurd h hi⟩
    obtain ⟨f, hf⟩ := Classical.axiomOfChoice each
    have hl : ((List.range len).map f).length = len := by simp
    have hg : ∀ i, i < len → ((List.range len).map f).getD i [] = f i := fun i hi => by
      rw [List.getD_eq_getElem?_getD, List.getElem?_map, List.getElem?_range hi]; rfl
    refine ⟨(List.range len).map f, ⟨some a, cap, by rw [hl], by rw [hl]; exact hle, fun hne => ⟨a, rfl, ?_, fun i hi => ?_⟩⟩, by rw [hl]; unfold maxLen at hcap; omega, fun r hr => ?_⟩
    · have h0 : 0 < len := by
        rcases Nat.eq_zero_or_pos len with h | h
        · subst h; simp at hne
        · exact h
      obtain ⟨⟨u, hu, _⟩, _⟩ := hf 0 h0
      have := lt_of_cell hu
      rwa [add_block] at this
    · rw [hl] at hi
      rw [hg i hi]
      exact (hf i hi).1
    · obtain ⟨i, hi, rfl⟩ := List.mem_map.1 hr
      exact (hf i (List.mem_range.1 hi)).2
end
end Go.Proofs.Ytohdjlgghkcaoaa
