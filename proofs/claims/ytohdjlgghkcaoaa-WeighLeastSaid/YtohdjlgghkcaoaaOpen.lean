/- How the arguments of the statements are read: what values they are. -/
import Derived.Test.YtohdjlgghkcaoaaBase
import Derived.ProofKit
import Derived.OpenShut
import Derived.Carry
namespace Go.Proofs.Ytohdjlgghkcaoaa
open Go.ChangeShapes Go.WideShapes Go.ChangeAt Go.RowKit

theorem laidOut : laidOutB Try.prog = true := by kernel_rfl
def fits64 (x : Int) : Prop := -9223372036854775808 ≤ x ∧ x ≤ 9223372036854775807
/-- An int; a bool. -/
def IsInt (v : Value) : Prop := ∃ x : Int, v = .int .i64 x ∧ fits64 x
def IsBool (v : Value) : Prop := ∃ x : Bool, v = .bool x
theorem read_int {x : Int} (h : (Lit.int .i64 x).wf = true) : IsInt (.int .i64 x) := ⟨x, rfl, bounds_i64 h⟩
def IsKnown (v : Value) : Prop := ∃ (b h l g : Int) (n : Bool), v = .agg #[.int .i64 b, .int .i64 h, .int .i64 l, .int .i64 g, .bool n] ∧ fits64 b ∧ fits64 h ∧ fits64 l ∧ fits64 g
def IsLoadV (v : Value) : Prop := ∃ b0 b1 h0 h1 l0 l1 g0 g1 : Int, v = .agg #[.int .i64 b0, .int .i64 b1, .int .i64 h0, .int .i64 h1, .int .i64 l0, .int .i64 l1, .int .i64 g0, .int .i64 g1] ∧
  fits64 b0 ∧ fits64 b1 ∧ fits64 h0 ∧ fits64 h1 ∧ fits64 l0 ∧ fits64 l1 ∧ fits64 g0 ∧ fits64 g1

theorem cellsOfInt : Try.prog.cellsOf 3 = 1 := by kernel_rfl
theorem cellsOfBool : Try.prog.cellsOf 4 = 1 := by kernel_rfl
theorem cellsOfPair : Try.prog.cellsOf 31 = 2 := by kernel_rfl
theorem cellsOfKnown : Try.prog.cellsOf 30 = 5 := by kernel_rfl
theorem cellsOfLoad : Try.prog.cellsOf 33 = 8 := by kernel_rfl

section
variable {H : Type} {enc : TypeId × Value → H} {w : World} {base : Nat} {spare : Nat → Bool} {held : Bool}
theorem cell_int {n : Nat} {c : Value} {x : Option (DataW H × List MemPlace)} (h : DataW.trod enc Try.prog w base spare held n 3 [c] = x) (hx : x.isSome = true) : ∃ k, c = .int .i64 k ∧ fits64 k := by
  obtain ⟨y, rfl⟩ := Option.isSome_iff_exists.1 hx
  obtain ⟨k, h1, _, h2⟩ := DataW.trod_int Try.underlying3 h
  simp at h1
  exact ⟨k, h1, bounds_i64 h2⟩
theorem cell_bool {n : Nat} {c : Value} {x : Option (DataW H × List MemPlace)} (h : DataW.trod enc Try.prog w base spare held n 4 [c] = x) (hx : x.isSome = true) : ∃ k, c = .bool k := by
  obtain ⟨y, rfl⟩ := Option.isSome_iff_exists.1 hx
  obtain ⟨k, h1, _⟩ := DataW.trod_bool Try.underlying4 h
  simp at h1
  exact ⟨k, h1⟩
set_option maxRecDepth 100000 in
theorem cell_pair {n : Nat} {c0 c1 : Value} {x : Option (DataW H × List MemPlace)} (h : DataW.trod enc Try.prog w base spare held n 31 [c0, c1] = x) (hx : x.isSome = true) : ∃ k0 k1, c0 = .int .i64 k0 ∧ c1 = .int .i64 k1 ∧ fits64 k0 ∧ fits64 k1 := by
  obtain ⟨y, rfl⟩ := Option.isSome_iff_exists.1 hx
  obtain ⟨xs, m, _, _, _, hl, hg⟩ := DataW.trod_array Try.underlying31 h
  have g0 := hg 0 (by omega)
  have g1 := hg 1 (by omega)
  rw [cellsOfInt] at g0 g1
  obtain ⟨k0, e0, f0⟩ := cell_int g0 (by simp [hl])
  obtain ⟨k1, e1, f1⟩ := cell_int g1 (by simp [hl])
  exact ⟨k0, k1, e0, e1, f0, f1⟩

set_option maxRecDepth 100000 in
theorem open_known {r : Reach} {b0 : Nat} {v : Value} {d : DataW H} {ps : List MemPlace} (hv : Value.okWide Try.prog w r b0 30 v) (h : DataW.Trod enc Try.prog w base spare held 30 v d ps) : IsKnown v := by
  obtain ⟨⟨l⟩, rfl, hsz⟩ := okWide_struct Try.underlying30 hv
  rw [cellsOfKnown] at hsz
  obtain ⟨fuel, hf⟩ := h
  obtain ⟨xs, n, _, _, _, hl, hg⟩ := DataW.trod_struct Try.underlying30 hf
  match l, hsz with
  | [c0, c1, c2, c3, c4], _ =>
    have g0 : DataW.trod enc Try.prog w base spare held n 3 [c0] = xs[0]? := by simpa [cellsOfInt, cellsOfBool, Value.cells] using hg 0 _ rfl
    have g1 : DataW.trod enc Try.prog w base spare held n 3 [c1] = xs[1]? := by simpa [cellsOfInt, cellsOfBool, Value.cells] using hg 1 _ rfl
    have g2 : DataW.trod enc Try.prog w base spare held n 3 [c2] = xs[2]? := by simpa [cellsOfInt, cellsOfBool, Value.cells] using hg 2 _ rfl
    have g3 : DataW.trod enc Try.prog w base spare held n 3 [c3] = xs[3]? := by simpa [cellsOfInt, cellsOfBool, Value.cells] using hg 3 _ rfl
    have g4 : DataW.trod enc Try.prog w base spare held n 4 [c4] = xs[4]? := by simpa [cellsOfInt, cellsOfBool, Value.cells] using hg 4 _ rfl
    have hl5 : xs.length = 5 := hl
    obtain ⟨b, rfl, f0⟩ := cell_int g0 (by simp [hl5])
    obtain ⟨h', rfl, f1⟩ := cell_int g1 (by simp [hl5])
    obtain ⟨l', rfl, f2⟩ := cell_int g2 (by simp [hl5])
    obtain ⟨g, rfl, f3⟩ := cell_int g3 (by simp [hl5])
    obtain ⟨nn, rfl⟩ := cell_bool g4 (by simp [hl5])
    exact ⟨b, h', l', g, nn, rfl, f0, f1, f2, f3⟩

set_option maxRecDepth 100000 in
theorem open_load {r : Reach} {b0 : Nat} {v : Value} {d : DataW H} {ps : List MemPlace} (hv : Value.okWide Try.prog w r b0 33 v) (h : DataW.Trod enc Try.prog w base spare held 33 v d ps) : IsLoadV v := by
  obtain ⟨⟨l⟩, rfl, hsz⟩ := okWide_struct Try.underlying33 hv
  rw [cellsOfLoad] at hsz
  obtain ⟨fuel, hf⟩ := h
  obtain ⟨xs, n, _, _, _, hl, hg⟩ := DataW.trod_struct Try.underlying33 hf
  match l, hsz with
  | [c0, c1, c2, c3, c4, c5, c6, c7], _ =>
    have g0 : DataW.trod enc Try.prog w base spare held n 31 [c0, c1] = xs[0]? := by simpa [cellsOfPair, Value.cells] using hg 0 _ rfl
    have g1 : DataW.trod enc Try.prog w base spare held n 31 [c2, c3] = xs[1]? := by simpa [cellsOfPair, Value.cells] using hg 1 _ rfl
    have g2 : DataW.trod enc Try.prog w base spare held n 31 [c4, c5] = xs[2]? := by simpa [cellsOfPair, Value.cells] using hg 2 _ rfl
    have g3 : DataW.trod enc Try.prog w base spare held n 31 [c6, c7] = xs[3]? := by simpa [cellsOfPair, Value.cells] using hg 3 _ rfl
    have hl4 : xs.length = 4 := hl
    obtain ⟨k0, k1, rfl, rfl, f0, f1⟩ := cell_pair g0 (by simp [hl4])
    obtain ⟨k2, k3, rfl, rfl, f2, f3⟩ := cell_pair g1 (by simp [hl4])
    obtain ⟨k4, k5, rfl, rfl, f4, f5⟩ := cell_pair g2 (by simp [hl4])
    obtain ⟨k6, k7, rfl, rfl, f6, f7⟩ := cell_pair g3 (by simp [hl4])
    exact ⟨k0, k1, k2, k3, k4, k5, k6, k7, rfl, f0, f1, f2, f3, f4, f5, f6, f7⟩
end
end Go.Proofs.Ytohdjlgghkcaoaa
