/-
  No cell of these rows narrows 'for every input' (looked for: loops, veiled, ifaces, maps, wideKeys, modest, calm, conditions, laid).
  DERIVED. THE GIVEN ROWS OF THIS SEAT. 14 by the template 'for every input the law returns true; each argument reads behind the call as it read before'; 0 by the template 'total and deterministic' (their statements: YtaapamoglgpocaaTotals.lean).
  GIVEN WITH THE SEED: the statements are not yours to turn. If you find one false, say at which input.
  Laid BY PROGRAM, IN A SANDBOX (cutbox-rows.mjs): the forced cells as the released guide's own fill.sh prints them over the translation d6eea6bac4668805… (all of the seat's roots in one cut). By AI agents, Wed Nov 11 2026. No macro, syntax, notation, axiom, sorry.
-/
import Derived.Test.YtaapamoglgpocaaChecked
import GoSem.Claim
import GoSem.ClaimJoined
import GoSem.ClaimMapViews
import Derived.JoinedTies
import Derived.KernelRfl
namespace Go.Proofs.Ytaapamoglgpocaa
/- THE CELL 'sum', in the pinned program and in every row, IS THE sha256 OF THE DUMP (.gsa) THAT YtaapamoglgpocaaProg.lean LOADS. Nothing in Lean hashes anything: it is a label: what it is worth is what the hold of that sum in a sandbox is worth. -/
noncomputable def Try.pinned : Pinned := { name := "ytaapamoglgpocaa", sum := "d6eea6bac466880577fed762938fba531f1ced47c319332683e29baaaccdd643", checked := Try.checked }
namespace Rows
def none {H : Type} : Left H := { results := [], args := [] }

/-- 'planchetlaw03.TalkPlans': WHATEVER THE INPUT: true; the input reads as it did. -/
def talkPlansSpec : ChangeSpec := { name := "talkPlans", fn := fun _ => fun
  | [d] => { results := [.lit (.bool true)], args := [d] }
  | _ => none }
def talkPlansRow : OpenClaim := { program := "ytaapamoglgpocaa", sum := "d6eea6bac466880577fed762938fba531f1ced47c319332683e29baaaccdd643", func := "planchet/planchetlaw03.TalkPlans", spec := "talkPlans", unfollowed := true, recurses := true, plainKeys := false, apart := false }
def TalkPlansSaid : Prop := talkPlansRow.holds Try.pinned (OpenSpec.ofChange talkPlansSpec)

/-- ITS FALSE NEIGHBOUR: 'it returns false'. Refute it at one input. -/
def talkPlansWrong : ChangeSpec := { name := "talkPlans", fn := fun _ => fun
  | [d] => { results := [.lit (.bool false)], args := [d] }
  | _ => none }
def TalkPlansWrongFalsely : Prop := talkPlansRow.holds Try.pinned (OpenSpec.ofChange talkPlansWrong)

/-- 'planchetlaw03.TalkRanks': WHATEVER THE INPUT: true; the input reads as it did. -/
def talkRanksSpec : ChangeSpec := { name := "talkRanks", fn := fun _ => fun
  | [d] => { results := [.lit (.bool true)], args := [d] }
  | _ => none }
def talkRanksRow : OpenClaim := { program := "ytaapamoglgpocaa", sum := "d6eea6bac466880577fed762938fba531f1ced47c319332683e29baaaccdd643", func := "planchet/planchetlaw03.TalkRanks", spec := "talkRanks", unfollowed := true, recurses := true, plainKeys := false, apart := false }
def TalkRanksSaid : Prop := talkRanksRow.holds Try.pinned (OpenSpec.ofChange talkRanksSpec)

/-- ITS FALSE NEIGHBOUR: 'it returns false'. Refute it at one input. -/
def talkRanksWrong : ChangeSpec := { name := "talkRanks", fn := fun _ => fun
  | [d] => { results := [.lit (.bool false)], args := [d] }
  | _ => none }
def TalkRanksWrongFalsely : Prop := talkRanksRow.holds Try.pinned (OpenSpec.ofChange talkRanksWrong)

/-- 'planchetlaw03.TalkRuns': WHATEVER THE INPUT: true; the input reads as it did. -/
def talkRunsSpec : ChangeSpec := { name := "talkRuns", fn := fun _ => fun
  | [d1, d2, d3] => { results := [.lit (.bool true)], args := [d1, d2, d3] }
  | _ => none }
def talkRunsRow : OpenClaim := { program := "ytaapamoglgpocaa", sum := "d6eea6bac466880577fed762938fba531f1ced47c319332683e29baaaccdd643", func := "planchet/planchetlaw03.TalkRuns", spec := "talkRuns", unfollowed := true, recurses := true, plainKeys := false, apart := false }
def TalkRunsSaid : Prop := talkRunsRow.holds Try.pinned (OpenSpec.ofChange talkRunsSpec)

/-- ITS FALSE NEIGHBOUR: 'it returns false'. Refute it at one input. -/
def talkRunsWrong : ChangeSpec := { name := "talkRuns", fn := fun _ => fun
  | [d1, d2, d3] => { results := [.lit (.bool false)], args := [d1, d2, d3] }
  | _ => none }
def TalkRunsWrongFalsely : Prop := talkRunsRow.holds Try.pinned (OpenSpec.ofChange talkRunsWrong)

/-- 'planchetlaw03.TalkEqual': WHATEVER THE INPUT: true; the input reads as it did. -/
def talkEqualSpec : ChangeSpec := { name := "talkEqual", fn := fun _ => fun
  | [d] => { results := [.lit (.bool true)], args := [d] }
  | _ => none }
def talkEqualRow : OpenClaim := { program := "ytaapamoglgpocaa", sum := "d6eea6bac466880577fed762938fba531f1ced47c319332683e29baaaccdd643", func := "planchet/planchetlaw03.TalkEqual", spec := "talkEqual", unfollowed := true, recurses := true, plainKeys := false, apart := false }
def TalkEqualSaid : Prop := talkEqualRow.holds Try.pinned (OpenSpec.ofChange talkEqualSpec)

/-- ITS FALSE NEIGHBOUR: 'it returns false'. Refute it at one input. -/
def talkEqualWrong : ChangeSpec := { name := "talkEqual", fn := fun _ => fun
  | [d] => { results := [.lit (.bool false)], args := [d] }
  | _ => none }
def TalkEqualWrongFalsely : Prop := talkEqualRow.holds Try.pinned (OpenSpec.ofChange talkEqualWrong)

/-- 'planchetlaw03.TalkChecks': WHATEVER THE INPUT: true; the input reads as it did. -/
def talkChecksSpec : ChangeSpec := { name := "talkChecks", fn := fun _ => fun
  | [d1, d2] => { results := [.lit (.bool true)], args := [d1, d2] }
  | _ => none }
def talkChecksRow : OpenClaim := { program := "ytaapamoglgpocaa", sum := "d6eea6bac466880577fed762938fba531f1ced47c319332683e29baaaccdd643", func := "planchet/planchetlaw03.TalkChecks", spec := "talkChecks", unfollowed := true, recurses := true, plainKeys := false, apart := false }
def TalkChecksSaid : Prop := talkChecksRow.holds Try.pinned (OpenSpec.ofChange talkChecksSpec)

/-- ITS FALSE NEIGHBOUR: 'it returns false'. Refute it at one input. -/
def talkChecksWrong : ChangeSpec := { name := "talkChecks", fn := fun _ => fun
  | [d1, d2] => { results := [.lit (.bool false)], args := [d1, d2] }
  | _ => none }
def TalkChecksWrongFalsely : Prop := talkChecksRow.holds Try.pinned (OpenSpec.ofChange talkChecksWrong)

/-- 'planchetlaw03.TalkSaid': WHATEVER THE INPUT: true; the input reads as it did. -/
def talkSaidSpec : ChangeSpec := { name := "talkSaid", fn := fun _ => fun
  | [d1, d2, d3, d4, d5] => { results := [.lit (.bool true)], args := [d1, d2, d3, d4, d5] }
  | _ => none }
def talkSaidRow : OpenClaim := { program := "ytaapamoglgpocaa", sum := "d6eea6bac466880577fed762938fba531f1ced47c319332683e29baaaccdd643", func := "planchet/planchetlaw03.TalkSaid", spec := "talkSaid", unfollowed := true, recurses := true, plainKeys := false, apart := false }
def TalkSaidSaid : Prop := talkSaidRow.holds Try.pinned (OpenSpec.ofChange talkSaidSpec)

/-- ITS FALSE NEIGHBOUR: 'it returns false'. Refute it at one input. -/
def talkSaidWrong : ChangeSpec := { name := "talkSaid", fn := fun _ => fun
  | [d1, d2, d3, d4, d5] => { results := [.lit (.bool false)], args := [d1, d2, d3, d4, d5] }
  | _ => none }
def TalkSaidWrongFalsely : Prop := talkSaidRow.holds Try.pinned (OpenSpec.ofChange talkSaidWrong)

/-- 'planchetlaw03.TalkFools': WHATEVER THE INPUT: true; the input reads as it did. -/
def talkFoolsSpec : ChangeSpec := { name := "talkFools", fn := fun _ => fun
  | [d1, d2, d3] => { results := [.lit (.bool true)], args := [d1, d2, d3] }
  | _ => none }
def talkFoolsRow : OpenClaim := { program := "ytaapamoglgpocaa", sum := "d6eea6bac466880577fed762938fba531f1ced47c319332683e29baaaccdd643", func := "planchet/planchetlaw03.TalkFools", spec := "talkFools", unfollowed := true, recurses := true, plainKeys := false, apart := false }
def TalkFoolsSaid : Prop := talkFoolsRow.holds Try.pinned (OpenSpec.ofChange talkFoolsSpec)

/-- ITS FALSE NEIGHBOUR: 'it returns false'. Refute it at one input. -/
def talkFoolsWrong : ChangeSpec := { name := "talkFools", fn := fun _ => fun
  | [d1, d2, d3] => { results := [.lit (.bool false)], args := [d1, d2, d3] }
  | _ => none }
def TalkFoolsWrongFalsely : Prop := talkFoolsRow.holds Try.pinned (OpenSpec.ofChange talkFoolsWrong)

/-- 'planchetlaw03.TalkTurned': WHATEVER THE INPUT: true; the input reads as it did. -/
def talkTurnedSpec : ChangeSpec := { name := "talkTurned", fn := fun _ => fun
  | [d1, d2, d3] => { results := [.lit (.bool true)], args := [d1, d2, d3] }
  | _ => none }
def talkTurnedRow : OpenClaim := { program := "ytaapamoglgpocaa", sum := "d6eea6bac466880577fed762938fba531f1ced47c319332683e29baaaccdd643", func := "planchet/planchetlaw03.TalkTurned", spec := "talkTurned", unfollowed := true, recurses := true, plainKeys := false, apart := false }
def TalkTurnedSaid : Prop := talkTurnedRow.holds Try.pinned (OpenSpec.ofChange talkTurnedSpec)

/-- ITS FALSE NEIGHBOUR: 'it returns false'. Refute it at one input. -/
def talkTurnedWrong : ChangeSpec := { name := "talkTurned", fn := fun _ => fun
  | [d1, d2, d3] => { results := [.lit (.bool false)], args := [d1, d2, d3] }
  | _ => none }
def TalkTurnedWrongFalsely : Prop := talkTurnedRow.holds Try.pinned (OpenSpec.ofChange talkTurnedWrong)

/-- 'planchetlaw03.TalkParts': WHATEVER THE INPUT: true; the input reads as it did. -/
def talkPartsSpec : ChangeSpec := { name := "talkParts", fn := fun _ => fun
  | [d] => { results := [.lit (.bool true)], args := [d] }
  | _ => none }
def talkPartsRow : OpenClaim := { program := "ytaapamoglgpocaa", sum := "d6eea6bac466880577fed762938fba531f1ced47c319332683e29baaaccdd643", func := "planchet/planchetlaw03.TalkParts", spec := "talkParts", unfollowed := true, recurses := true, plainKeys := false, apart := false }
def TalkPartsSaid : Prop := talkPartsRow.holds Try.pinned (OpenSpec.ofChange talkPartsSpec)

/-- ITS FALSE NEIGHBOUR: 'it returns false'. Refute it at one input. -/
def talkPartsWrong : ChangeSpec := { name := "talkParts", fn := fun _ => fun
  | [d] => { results := [.lit (.bool false)], args := [d] }
  | _ => none }
def TalkPartsWrongFalsely : Prop := talkPartsRow.holds Try.pinned (OpenSpec.ofChange talkPartsWrong)

/-- 'planchetlaw03.TalkCovers': WHATEVER THE INPUT: true; the input reads as it did. -/
def talkCoversSpec : ChangeSpec := { name := "talkCovers", fn := fun _ => fun
  | [d1, d2, d3] => { results := [.lit (.bool true)], args := [d1, d2, d3] }
  | _ => none }
def talkCoversRow : OpenClaim := { program := "ytaapamoglgpocaa", sum := "d6eea6bac466880577fed762938fba531f1ced47c319332683e29baaaccdd643", func := "planchet/planchetlaw03.TalkCovers", spec := "talkCovers", unfollowed := true, recurses := true, plainKeys := false, apart := false }
def TalkCoversSaid : Prop := talkCoversRow.holds Try.pinned (OpenSpec.ofChange talkCoversSpec)

/-- ITS FALSE NEIGHBOUR: 'it returns false'. Refute it at one input. -/
def talkCoversWrong : ChangeSpec := { name := "talkCovers", fn := fun _ => fun
  | [d1, d2, d3] => { results := [.lit (.bool false)], args := [d1, d2, d3] }
  | _ => none }
def TalkCoversWrongFalsely : Prop := talkCoversRow.holds Try.pinned (OpenSpec.ofChange talkCoversWrong)

/-- 'planchetlaw03.TalkLess': WHATEVER THE INPUT: true; the input reads as it did. -/
def talkLessSpec : ChangeSpec := { name := "talkLess", fn := fun _ => fun
  | [d1, d2, d3] => { results := [.lit (.bool true)], args := [d1, d2, d3] }
  | _ => none }
def talkLessRow : OpenClaim := { program := "ytaapamoglgpocaa", sum := "d6eea6bac466880577fed762938fba531f1ced47c319332683e29baaaccdd643", func := "planchet/planchetlaw03.TalkLess", spec := "talkLess", unfollowed := true, recurses := true, plainKeys := false, apart := false }
def TalkLessSaid : Prop := talkLessRow.holds Try.pinned (OpenSpec.ofChange talkLessSpec)

/-- ITS FALSE NEIGHBOUR: 'it returns false'. Refute it at one input. -/
def talkLessWrong : ChangeSpec := { name := "talkLess", fn := fun _ => fun
  | [d1, d2, d3] => { results := [.lit (.bool false)], args := [d1, d2, d3] }
  | _ => none }
def TalkLessWrongFalsely : Prop := talkLessRow.holds Try.pinned (OpenSpec.ofChange talkLessWrong)

/-- 'planchetlaw03.TalkBounded': WHATEVER THE INPUT: true; the input reads as it did. -/
def talkBoundedSpec : ChangeSpec := { name := "talkBounded", fn := fun _ => fun
  | [d] => { results := [.lit (.bool true)], args := [d] }
  | _ => none }
def talkBoundedRow : OpenClaim := { program := "ytaapamoglgpocaa", sum := "d6eea6bac466880577fed762938fba531f1ced47c319332683e29baaaccdd643", func := "planchet/planchetlaw03.TalkBounded", spec := "talkBounded", unfollowed := true, recurses := true, plainKeys := false, apart := false }
def TalkBoundedSaid : Prop := talkBoundedRow.holds Try.pinned (OpenSpec.ofChange talkBoundedSpec)

/-- ITS FALSE NEIGHBOUR: 'it returns false'. Refute it at one input. -/
def talkBoundedWrong : ChangeSpec := { name := "talkBounded", fn := fun _ => fun
  | [d] => { results := [.lit (.bool false)], args := [d] }
  | _ => none }
def TalkBoundedWrongFalsely : Prop := talkBoundedRow.holds Try.pinned (OpenSpec.ofChange talkBoundedWrong)

/-- 'planchetlaw03.TalkFooled': WHATEVER THE INPUT: true; the input reads as it did. -/
def talkFooledSpec : ChangeSpec := { name := "talkFooled", fn := fun _ => fun
  | [d1, d2, d3] => { results := [.lit (.bool true)], args := [d1, d2, d3] }
  | _ => none }
def talkFooledRow : OpenClaim := { program := "ytaapamoglgpocaa", sum := "d6eea6bac466880577fed762938fba531f1ced47c319332683e29baaaccdd643", func := "planchet/planchetlaw03.TalkFooled", spec := "talkFooled", unfollowed := true, recurses := true, plainKeys := false, apart := false }
def TalkFooledSaid : Prop := talkFooledRow.holds Try.pinned (OpenSpec.ofChange talkFooledSpec)

/-- ITS FALSE NEIGHBOUR: 'it returns false'. Refute it at one input. -/
def talkFooledWrong : ChangeSpec := { name := "talkFooled", fn := fun _ => fun
  | [d1, d2, d3] => { results := [.lit (.bool false)], args := [d1, d2, d3] }
  | _ => none }
def TalkFooledWrongFalsely : Prop := talkFooledRow.holds Try.pinned (OpenSpec.ofChange talkFooledWrong)

/-- 'planchetlaw03.TalkRectangles': WHATEVER THE INPUT: true; the input reads as it did. -/
def talkRectanglesSpec : ChangeSpec := { name := "talkRectangles", fn := fun _ => fun
  | [d] => { results := [.lit (.bool true)], args := [d] }
  | _ => none }
def talkRectanglesRow : OpenClaim := { program := "ytaapamoglgpocaa", sum := "d6eea6bac466880577fed762938fba531f1ced47c319332683e29baaaccdd643", func := "planchet/planchetlaw03.TalkRectangles", spec := "talkRectangles", unfollowed := true, recurses := true, plainKeys := false, apart := false }
def TalkRectanglesSaid : Prop := talkRectanglesRow.holds Try.pinned (OpenSpec.ofChange talkRectanglesSpec)

/-- ITS FALSE NEIGHBOUR: 'it returns false'. Refute it at one input. -/
def talkRectanglesWrong : ChangeSpec := { name := "talkRectangles", fn := fun _ => fun
  | [d] => { results := [.lit (.bool false)], args := [d] }
  | _ => none }
def TalkRectanglesWrongFalsely : Prop := talkRectanglesRow.holds Try.pinned (OpenSpec.ofChange talkRectanglesWrong)

/- THE SECOND FORM. 'bulk': how many values and letters a reading holds, each counted each time it is reached (what is shared counts as often as it is met; a slice's spare places count too). A statement '..UptoSaid' is the law's where the arguments, and the package variables that the reading takes, are together of bulk at most 1048576: NARROWER than '..Said'. Prove '..Said' where nothing that the law and all that it calls make is longer than what came in: it says more and counts as full. Else prove '..UptoSaid'. A law counts once. -/
mutual
def uptoBulk {H : Type} : DataW H → Nat
  | .lit (.string bytes) => bytes.length + 1
  | .lit _ => 1
  | .nil => 1
  | .ptr d => uptoBulk d + 1
  | .slice elems spare => uptoBulkAll elems + uptoBulkAll spare + 1
  | .agg parts => uptoBulkAll parts + 1
  | .iface _ d => uptoBulk d + 1
  | .map entries => uptoBulkEntries entries + 1
  | .held _ => 1
def uptoBulkAll {H : Type} : List (DataW H) → Nat
  | [] => 0
  | d :: r => uptoBulk d + uptoBulkAll r
def uptoBulkEntries {H : Type} : List (Lit × DataW H) → Nat
  | [] => 0
  | x :: r => uptoBulkEntry x + uptoBulkEntries r
def uptoBulkEntry {H : Type} : Lit × DataW H → Nat
  | (.string bytes, d) => bytes.length + uptoBulk d + 1
  | (_, d) => uptoBulk d + 1
 end
def uptoSmall : (H : Type) → List (DataW H) → Bool := fun _ ds => decide (uptoBulkAll ds ≤ 1048576)
def OpenSpec.upto (s : _root_.Go.ChangeSpec) : _root_.Go.OpenSpec := { _root_.Go.OpenSpec.ofChange s with cond := some uptoSmall }

/-- 'planchetlaw03.TalkPlans', WHERE WHAT IT READS IS OF BULK AT MOST 1048576: true; the input reads as it did. -/
def talkPlansUptoRow : OpenClaim := { program := "ytaapamoglgpocaa", sum := "d6eea6bac466880577fed762938fba531f1ced47c319332683e29baaaccdd643", func := "planchet/planchetlaw03.TalkPlans", spec := "talkPlans", unfollowed := true, recurses := true, plainKeys := false, apart := false, narrowed := true }
def TalkPlansUptoSaid : Prop := talkPlansUptoRow.holds Try.pinned (OpenSpec.upto talkPlansSpec)

/-- 'planchetlaw03.TalkRanks', WHERE WHAT IT READS IS OF BULK AT MOST 1048576: true; the input reads as it did. -/
def talkRanksUptoRow : OpenClaim := { program := "ytaapamoglgpocaa", sum := "d6eea6bac466880577fed762938fba531f1ced47c319332683e29baaaccdd643", func := "planchet/planchetlaw03.TalkRanks", spec := "talkRanks", unfollowed := true, recurses := true, plainKeys := false, apart := false, narrowed := true }
def TalkRanksUptoSaid : Prop := talkRanksUptoRow.holds Try.pinned (OpenSpec.upto talkRanksSpec)

/-- 'planchetlaw03.TalkRuns', WHERE WHAT IT READS IS OF BULK AT MOST 1048576: true; the input reads as it did. -/
def talkRunsUptoRow : OpenClaim := { program := "ytaapamoglgpocaa", sum := "d6eea6bac466880577fed762938fba531f1ced47c319332683e29baaaccdd643", func := "planchet/planchetlaw03.TalkRuns", spec := "talkRuns", unfollowed := true, recurses := true, plainKeys := false, apart := false, narrowed := true }
def TalkRunsUptoSaid : Prop := talkRunsUptoRow.holds Try.pinned (OpenSpec.upto talkRunsSpec)

/-- 'planchetlaw03.TalkEqual', WHERE WHAT IT READS IS OF BULK AT MOST 1048576: true; the input reads as it did. -/
def talkEqualUptoRow : OpenClaim := { program := "ytaapamoglgpocaa", sum := "d6eea6bac466880577fed762938fba531f1ced47c319332683e29baaaccdd643", func := "planchet/planchetlaw03.TalkEqual", spec := "talkEqual", unfollowed := true, recurses := true, plainKeys := false, apart := false, narrowed := true }
def TalkEqualUptoSaid : Prop := talkEqualUptoRow.holds Try.pinned (OpenSpec.upto talkEqualSpec)

/-- 'planchetlaw03.TalkChecks', WHERE WHAT IT READS IS OF BULK AT MOST 1048576: true; the input reads as it did. -/
def talkChecksUptoRow : OpenClaim := { program := "ytaapamoglgpocaa", sum := "d6eea6bac466880577fed762938fba531f1ced47c319332683e29baaaccdd643", func := "planchet/planchetlaw03.TalkChecks", spec := "talkChecks", unfollowed := true, recurses := true, plainKeys := false, apart := false, narrowed := true }
def TalkChecksUptoSaid : Prop := talkChecksUptoRow.holds Try.pinned (OpenSpec.upto talkChecksSpec)

/-- 'planchetlaw03.TalkSaid', WHERE WHAT IT READS IS OF BULK AT MOST 1048576: true; the input reads as it did. -/
def talkSaidUptoRow : OpenClaim := { program := "ytaapamoglgpocaa", sum := "d6eea6bac466880577fed762938fba531f1ced47c319332683e29baaaccdd643", func := "planchet/planchetlaw03.TalkSaid", spec := "talkSaid", unfollowed := true, recurses := true, plainKeys := false, apart := false, narrowed := true }
def TalkSaidUptoSaid : Prop := talkSaidUptoRow.holds Try.pinned (OpenSpec.upto talkSaidSpec)

/-- 'planchetlaw03.TalkFools', WHERE WHAT IT READS IS OF BULK AT MOST 1048576: true; the input reads as it did. -/
def talkFoolsUptoRow : OpenClaim := { program := "ytaapamoglgpocaa", sum := "d6eea6bac466880577fed762938fba531f1ced47c319332683e29baaaccdd643", func := "planchet/planchetlaw03.TalkFools", spec := "talkFools", unfollowed := true, recurses := true, plainKeys := false, apart := false, narrowed := true }
def TalkFoolsUptoSaid : Prop := talkFoolsUptoRow.holds Try.pinned (OpenSpec.upto talkFoolsSpec)

/-- 'planchetlaw03.TalkTurned', WHERE WHAT IT READS IS OF BULK AT MOST 1048576: true; the input reads as it did. -/
def talkTurnedUptoRow : OpenClaim := { program := "ytaapamoglgpocaa", sum := "d6eea6bac466880577fed762938fba531f1ced47c319332683e29baaaccdd643", func := "planchet/planchetlaw03.TalkTurned", spec := "talkTurned", unfollowed := true, recurses := true, plainKeys := false, apart := false, narrowed := true }
def TalkTurnedUptoSaid : Prop := talkTurnedUptoRow.holds Try.pinned (OpenSpec.upto talkTurnedSpec)

/-- 'planchetlaw03.TalkParts', WHERE WHAT IT READS IS OF BULK AT MOST 1048576: true; the input reads as it did. -/
def talkPartsUptoRow : OpenClaim := { program := "ytaapamoglgpocaa", sum := "d6eea6bac466880577fed762938fba531f1ced47c319332683e29baaaccdd643", func := "planchet/planchetlaw03.TalkParts", spec := "talkParts", unfollowed := true, recurses := true, plainKeys := false, apart := false, narrowed := true }
def TalkPartsUptoSaid : Prop := talkPartsUptoRow.holds Try.pinned (OpenSpec.upto talkPartsSpec)

/-- 'planchetlaw03.TalkCovers', WHERE WHAT IT READS IS OF BULK AT MOST 1048576: true; the input reads as it did. -/
def talkCoversUptoRow : OpenClaim := { program := "ytaapamoglgpocaa", sum := "d6eea6bac466880577fed762938fba531f1ced47c319332683e29baaaccdd643", func := "planchet/planchetlaw03.TalkCovers", spec := "talkCovers", unfollowed := true, recurses := true, plainKeys := false, apart := false, narrowed := true }
def TalkCoversUptoSaid : Prop := talkCoversUptoRow.holds Try.pinned (OpenSpec.upto talkCoversSpec)

/-- 'planchetlaw03.TalkLess', WHERE WHAT IT READS IS OF BULK AT MOST 1048576: true; the input reads as it did. -/
def talkLessUptoRow : OpenClaim := { program := "ytaapamoglgpocaa", sum := "d6eea6bac466880577fed762938fba531f1ced47c319332683e29baaaccdd643", func := "planchet/planchetlaw03.TalkLess", spec := "talkLess", unfollowed := true, recurses := true, plainKeys := false, apart := false, narrowed := true }
def TalkLessUptoSaid : Prop := talkLessUptoRow.holds Try.pinned (OpenSpec.upto talkLessSpec)

/-- 'planchetlaw03.TalkBounded', WHERE WHAT IT READS IS OF BULK AT MOST 1048576: true; the input reads as it did. -/
def talkBoundedUptoRow : OpenClaim := { program := "ytaapamoglgpocaa", sum := "d6eea6bac466880577fed762938fba531f1ced47c319332683e29baaaccdd643", func := "planchet/planchetlaw03.TalkBounded", spec := "talkBounded", unfollowed := true, recurses := true, plainKeys := false, apart := false, narrowed := true }
def TalkBoundedUptoSaid : Prop := talkBoundedUptoRow.holds Try.pinned (OpenSpec.upto talkBoundedSpec)

/-- 'planchetlaw03.TalkFooled', WHERE WHAT IT READS IS OF BULK AT MOST 1048576: true; the input reads as it did. -/
def talkFooledUptoRow : OpenClaim := { program := "ytaapamoglgpocaa", sum := "d6eea6bac466880577fed762938fba531f1ced47c319332683e29baaaccdd643", func := "planchet/planchetlaw03.TalkFooled", spec := "talkFooled", unfollowed := true, recurses := true, plainKeys := false, apart := false, narrowed := true }
def TalkFooledUptoSaid : Prop := talkFooledUptoRow.holds Try.pinned (OpenSpec.upto talkFooledSpec)

/-- 'planchetlaw03.TalkRectangles', WHERE WHAT IT READS IS OF BULK AT MOST 1048576: true; the input reads as it did. -/
def talkRectanglesUptoRow : OpenClaim := { program := "ytaapamoglgpocaa", sum := "d6eea6bac466880577fed762938fba531f1ced47c319332683e29baaaccdd643", func := "planchet/planchetlaw03.TalkRectangles", spec := "talkRectangles", unfollowed := true, recurses := true, plainKeys := false, apart := false, narrowed := true }
def TalkRectanglesUptoSaid : Prop := talkRectanglesUptoRow.holds Try.pinned (OpenSpec.upto talkRectanglesSpec)

end Rows
end Go.Proofs.Ytaapamoglgpocaa
