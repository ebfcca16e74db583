/- What the arguments are: pairs of numbers that fit. -/
import Derived.Test.YtaapamoglgpocaaOpenP
import Derived.ChangeKeysEq
namespace Go.Proofs.Ytaapamoglgpocaa
open Go.ChangeShapes Go.WideShapes Go.ChangeAt Go.RowKit

/-- A slice of pairs of numbers of 64 bits. -/
def IsPairsF (w : World) (v : Value) : Prop := ∃ ps, SeeP w v ps ∧ ps.length ≤ 9223372036854775807 ∧ ∀ x ∈ ps, fits64 x.1 ∧ fits64 x.2
section
variable {H : Type} {enc : TypeId × Value → H} {w : World} {base : Nat} {spare : Nat → Bool} {held : Bool}
set_option maxRecDepth 100000 in
theorem pair_cellsF {n : Nat} {cs : List Value} {x : Option (DataW H × List MemPlace)} (hl : cs.length = 2) (h : DataW.trod enc Try.prog w base spare held n 60 cs = x) (hx : x.isSome = true) :
    ∃ y : Pr, cs = [.int .i64 y.1, .int .i64 y.2] ∧ fits64 y.1 ∧ fits64 y.2 := by
  obtain ⟨z, rfl⟩ := Option.isSome_iff_exists.1 hx
  obtain ⟨xs, m, _, _, _, hxl, hg⟩ := DataW.trod_array Try.underlying60 h
  match cs, hl with
  | [c0, c1], _ =>
    have g0 : DataW.trod enc Try.prog w base spare held m 3 [c0] = xs[0]? := by simpa [cellsOfInt] using hg 0 (by omega)
    have g1 : DataW.trod enc Try.prog w base spare held m 3 [c1] = xs[1]? := by simpa [cellsOfInt] using hg 1 (by omega)
    obtain ⟨k0, rfl, b0⟩ := cell_int g0 (by simp [hxl])
    obtain ⟨k1, rfl, b1⟩ := cell_int g1 (by simp [hxl])
    exact ⟨(k0, k1), rfl, b0, b1⟩
set_option maxRecDepth 100000 in
theorem open_pairsf' {r : Reach} {b0 : Nat} {v : Value} {d : DataW H} {ps : List MemPlace} (hv : Value.okWide Try.prog w r b0 46 v) (h : DataW.Trod enc Try.prog w base spare held 46 v d ps) : IsPairsF w v := by
  obtain ⟨a0, len0, cap0, rfl⟩ := okWide_slice Try.underlying46 hv
  obtain ⟨fuel, hf⟩ := h
  rcases DataW.trod_slice Try.underlying46 hf with ⟨e, _⟩ | ⟨a, len, cap, elems, rest, n, _, e, _, _, hle, hcap, hlen, hel, _, _⟩
  · have e' : Value.slice a0 len0 cap0 = .slice none 0 0 := by simpa [Value.cells] using e
    cases e'
    exact ⟨[], ⟨none, 0, rfl, by simp, fun h => absurd rfl h⟩, by simp, fun x hx => (List.not_mem_nil hx).elim⟩
  · have e' : Value.slice a0 len0 cap0 = .slice (some a) len cap := by simpa [Value.cells] using e
    rw [e']
    have each : ∀ i, ∃ y : Pr, i < len → (fits64 y.1 ∧ fits64 y.2) ∧ ∀ k u, ([.int .i64 y.1, .int .i64 y.2] : List Value)[k]? = some u → w.cell? (a.add (i * 2 + k)) = some u := by
      intro i
      by_cases hi : i < len
      · have hb := hel i hi
        rw [cellsOfPair] at hb
        obtain ⟨y, hy⟩ : ∃ y, elems[i]? = some y := ⟨_, List.getElem?_eq_getElem (by omega)⟩
        rw [hy, Option.bind_eq_some_iff] at hb
        obtain ⟨cs', hcs, hy'⟩ := hb
        obtain ⟨_, hl1, hc0⟩ := World.cells?_some hcs
        obtain ⟨z, rfl, hz⟩ := pair_cellsF hl1 hy' rfl
        refine ⟨z, fun _ => ⟨hz, fun k u hk => ?_⟩⟩
        have hk2 : k < 2 := by
          have := (List.getElem?_eq_some_iff.1 hk).1
          simpa using this
        have hc := hc0 k hk2
        have e2 : (a.add (i * 2)).add k = a.add (i * 2 + k) := by
          by_cases h0 : k = 0
          · subst h0; rw [add_nought]; rfl
          · rw [add_in a (i * 2) (by omega : 1 ≤ k)]
            unfold Addr.add
            rw [if_neg h0]
        rw [e2] at hc
        rw [hc]
        exact hk
      · exact ⟨pr0, fun h => absurd h hi⟩
    obtain ⟨f, hf⟩ := Classical.axiomOfChoice each
    have hl : ((List.range len).map f).length = len := by simp
    have hg : ∀ i, i < len → ((List.range len).map f).getD i pr0 = f i := fun i hi => by
      rw [List.getD_eq_getElem?_getD, List.getElem?_map, List.getElem?_range hi]; rfl
    refine ⟨(List.range len).map f, ⟨some a, cap, by rw [hl], by rw [hl]; exact hle, fun hne => ⟨a, rfl, ?_, fun i hi => ?_⟩⟩, by rw [hl]; unfold maxLen at hcap; omega, fun x hx => ?_⟩
    · have h0 : 0 < len := by
        rcases Nat.eq_zero_or_pos len with h | h
        · subst h; simp at hne
        · exact h
      have := lt_of_cell ((hf 0 h0).2 0 _ rfl)
      rwa [add_block] at this
    · rw [hl] at hi
      rw [hg i hi]
      have h6 := (hf i hi).2
      exact ⟨h6 0 _ rfl, h6 1 _ rfl⟩
    · obtain ⟨i, hi, rfl⟩ := List.mem_map.1 hx
      exact (hf i (List.mem_range.1 hi)).1
end
end Go.Proofs.Ytaapamoglgpocaa
