/- Plain: what is said in a plan. -/
import Derived.Test.YtaapamoglgpocaaNodes2
namespace Go.Proofs.Ytaapamoglgpocaa

/-- What is said at a node, and where that leads. -/
def sayN (x : Nd) (row col : Nat) : Nat := x.set.toNat / 2 ^ (if x.who = 0 then row else col) % 2
def nextN (x : Nd) (s : Nat) : Nat := if s = 0 then x.no.toNat else x.yes.toNat
def runF (ps : List Nd) (row col : Nat) : Nat → Nat → List Int
  | 0, _ => []
  | f + 1, i => if (ps.getD i nd0).leaf = true then [(ps.getD i nd0).val] else (sayN (ps.getD i nd0) row col : Int) :: runF ps row col f (nextN (ps.getD i nd0) (sayN (ps.getD i nd0) row col))
def runM (ps : List Nd) (row col : Nat) : List Int := runF ps row col ps.length 0
theorem next_gt {ps : List Nd} (h : isPl ps = true) {i : Nat} (hi : i < ps.length) (hl : (ps.getD i nd0).leaf = false) (s : Nat) : i < nextN (ps.getD i nd0) s ∧ nextN (ps.getD i nd0) s < ps.length := by
  have := (ndOk_node hl).1 ((isPl_iff.1 h).2.2 i hi)
  unfold nextN
  split <;> omega
theorem runF_fuel {ps : List Nd} (h : isPl ps = true) (row col : Nat) : ∀ (f g i : Nat), i < ps.length → ps.length ≤ f + i → ps.length ≤ g + i → runF ps row col f i = runF ps row col g i
  | 0, _, _, h1, h2, _ => by omega
  | _ + 1, 0, _, h1, _, h3 => by omega
  | f + 1, g + 1, i, h1, h2, h3 => by
    unfold runF
    cases hl : (ps.getD i nd0).leaf with
    | true => rfl
    | false =>
      obtain ⟨n1, n2⟩ := next_gt h h1 hl (sayN (ps.getD i nd0) row col)
      rw [runF_fuel h row col f g _ n2 (by omega) (by omega)]
/-- What is said from a node on. -/
def runA (ps : List Nd) (row col i : Nat) : List Int := runF ps row col (ps.length - i) i
theorem runA_start (ps : List Nd) (row col : Nat) : runM ps row col = runA ps row col 0 := rfl
theorem runA_leaf {ps : List Nd} {row col i : Nat} (hi : i < ps.length) (hl : (ps.getD i nd0).leaf = true) : runA ps row col i = [(ps.getD i nd0).val] := by
  unfold runA
  rw [show ps.length - i = (ps.length - i - 1) + 1 by omega]
  unfold runF
  rw [if_pos hl]
theorem runA_node {ps : List Nd} (h : isPl ps = true) {row col i : Nat} (hi : i < ps.length) (hl : (ps.getD i nd0).leaf = false) : runA ps row col i = (sayN (ps.getD i nd0) row col : Int) :: runA ps row col (nextN (ps.getD i nd0) (sayN (ps.getD i nd0) row col)) := by
  obtain ⟨n1, n2⟩ := next_gt h hi hl (sayN (ps.getD i nd0) row col)
  unfold runA
  rw [show ps.length - i = (ps.length - i - 1) + 1 by omega]
  conv => lhs; unfold runF
  rw [hl, if_neg (by decide), runF_fuel h row col (ps.length - i - 1) (ps.length - nextN (ps.getD i nd0) (sayN (ps.getD i nd0) row col)) _ n2 (by omega) (by omega)]
end Go.Proofs.Ytaapamoglgpocaa
