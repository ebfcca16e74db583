/- Words for the walks: to stand still at an operation. -/
import Derived.Test.YtaapamoglgpocaaBase
namespace Go.Proofs.Ytaapamoglgpocaa
open Go.RowKit

/-- The walk knows no step for this. -/
def Halt (p : Prop) : Prop := p
theorem Halt.go {p : Prop} (h : p) : Halt p := h
/-- The walk stands still where the operation writes slot d. -/
theorem halt_at (d : Nat) {P : Program} {ops : Array Oper} {Q : Exit → Act → World → Prop} {op : Op} {ty : TypeId} {pos : String} {after : Array Edge} {guard : Option (Nat × Bool)} {rest : List Oper} {a : Act} {w : World}
    (h : Halt (wpList P ops Q (⟨some d, op, ty, pos, after, guard⟩ :: rest) a w)) : wpList P ops Q (⟨some d, op, ty, pos, after, guard⟩ :: rest) a w := h
end Go.Proofs.Ytaapamoglgpocaa
