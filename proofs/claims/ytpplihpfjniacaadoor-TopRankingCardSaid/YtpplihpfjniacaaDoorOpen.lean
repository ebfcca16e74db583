/- How the arguments of the statements are read: ints, bools, slices of ints, slices of them, plans. -/
import Derived.Test.YtpplihpfjniacaaDoorValid
import Derived.ProofKit
import Derived.OpenShut
import Derived.Carry
import Derived.ChangeSlices
import Derived.StillTailTactics
namespace Go.Proofs.YtpplihpfjniacaaDoor
open Go.ChangeShapes Go.WideShapes Go.ChangeAt Go.RowKit

def fits64 (x : Int) : Prop := -9223372036854775808 ≤ x ∧ x ≤ 9223372036854775807
/-- An int; a bool. -/
def IsInt (v : Value) : Prop := ∃ x : Int, v = .int .i64 x ∧ fits64 x
theorem read_int {x : Int} (h : (Lit.int .i64 x).wf = true) : IsInt (.int .i64 x) := ⟨x, rfl, bounds_i64 h⟩
theorem cellsOfInt : Tryd.prog.cellsOf 3 = 1 := by kernel_rfl

/-- A slice of ints; a slice of such; a slice of nodes. -/
def IsInts (w : World) (v : Value) : Prop := ∃ xs, See w v xs ∧ xs.length ≤ 9223372036854775807

section
variable {H : Type} {enc : TypeId × Value → H} {w : World} {base : Nat} {spare : Nat → Bool} {held : Bool}
theorem cell_int {n : Nat} {c : Value} {x : Option (DataW H × List MemPlace)} (h : DataW.trod enc Tryd.prog w base spare held n 3 [c] = x) (hx : x.isSome = true) : ∃ k, c = .int .i64 k ∧ fits64 k := by
  obtain ⟨y, rfl⟩ := Option.isSome_iff_exists.1 hx
  obtain ⟨k, h1, _, h2⟩ := DataW.trod_int Tryd.underlying3 h
  simp at h1
  exact ⟨k, h1, bounds_i64 h2⟩
theorem lt_of_cell {a : Addr} {u : Value} (h : w.cell? a = some u) : a.block < w.heap.size := World.block_lt_of_cell? w a h
theorem see_cell {n : Nat} {c : Value} {x : Option (DataW H × List MemPlace)} (h : DataW.trod enc Tryd.prog w base spare held n 22 [c] = x) (hx : x.isSome = true) : IsInts w c := by
  obtain ⟨y, rfl⟩ := Option.isSome_iff_exists.1 hx
  rcases open_ints Tryd.underlying22 Tryd.underlying3 cellsOfInt h with ⟨e, _⟩ | ⟨a, len, cap, zs, e, _, hle, hcap, hzl, _, hc, _⟩
  · simp only [List.cons.injEq, and_true] at e
    subst e
    exact ⟨[], .inl ⟨rfl, _, _, rfl⟩, by simp⟩
  · simp only [List.cons.injEq, and_true] at e
    subst e
    have hzl' : len ≤ zs.length := by split at hzl <;> omega
    have hl : (zs.take len).length = len := by rw [List.length_take]; omega
    refine ⟨zs.take len, ?_, by unfold maxLen at hcap; omega⟩
    by_cases h0 : len = 0
    · subst h0
      exact .inl ⟨by simp, _, _, rfl⟩
    · have c0 := hc 0 (by omega)
      have hb := lt_of_cell c0
      rw [add_block] at hb
      refine .inr ⟨a, cap, by rw [hl], by omega, hb, fun i hi => ?_⟩
      rw [hl] at hi
      rw [hc i (by omega), List.getD_eq_getElem?_getD, List.getD_eq_getElem?_getD, List.getElem?_take, if_pos hi]
set_option maxRecDepth 100000 in
theorem open_ints' {r : Reach} {b0 : Nat} {v : Value} {d : DataW H} {ps : List MemPlace} (hv : Value.okWide Tryd.prog w r b0 22 v) (h : DataW.Trod enc Tryd.prog w base spare held 22 v d ps) : IsInts w v := by
  obtain ⟨a, len, cap, rfl⟩ := okWide_slice Tryd.underlying22 hv
  obtain ⟨fuel, hf⟩ := h
  exact see_cell hf rfl
end
end Go.Proofs.YtpplihpfjniacaaDoor
