/-
  No cell of these rows narrows 'for every input' (looked for: loops, veiled, ifaces, maps, wideKeys, modest, calm, conditions, laid).
  DERIVED. THE GIVEN ROWS OF THIS SEAT. 13 by the template 'for every input the law returns true; each argument reads behind the call as it read before'; 0 by the template 'total and deterministic' (their statements: YtohdjlgghkcaoaaTotals.lean).
  GIVEN WITH THE SEED: the statements are not yours to turn. If you find one false, say at which input.
  Laid BY PROGRAM, IN A SANDBOX (cutbox-rows.mjs): the forced cells as the released guide's own fill.sh prints them over the translation f51437d0bd00604a… (all of the seat's roots in one cut). By AI agents, Wed Nov 11 2026. No macro, syntax, notation, axiom, sorry.
-/
import Derived.Test.YtohdjlgghkcaoaaChecked
import GoSem.Claim
import GoSem.ClaimJoined
import GoSem.ClaimMapViews
import Derived.JoinedTies
import Derived.KernelRfl
namespace Go.Proofs.Ytohdjlgghkcaoaa
/- THE CELL 'sum', in the pinned program and in every row, IS THE sha256 OF THE DUMP (.gsa) THAT YtohdjlgghkcaoaaProg.lean LOADS. Nothing in Lean hashes anything: it is a label: what it is worth is what the hold of that sum in a sandbox is worth. -/
noncomputable def Try.pinned : Pinned := { name := "ytohdjlgghkcaoaa", sum := "f51437d0bd00604aa90a1a7ce9c50ebf964f55bade009143d912212142e88dee", checked := Try.checked }
namespace Rows
def none {H : Type} : Left H := { results := [], args := [] }

/-- 'planchetlaw01.WeighTwelve': WHATEVER THE INPUT: true; the input reads as it did. -/
def weighTwelveSpec : ChangeSpec := { name := "weighTwelve", fn := fun _ => fun
  | [d1, d2] => { results := [.lit (.bool true)], args := [d1, d2] }
  | _ => none }
def weighTwelveRow : OpenClaim := { program := "ytohdjlgghkcaoaa", sum := "f51437d0bd00604aa90a1a7ce9c50ebf964f55bade009143d912212142e88dee", func := "planchet/planchetlaw01.WeighTwelve", spec := "weighTwelve", unfollowed := true, recurses := true, plainKeys := false, apart := false }
def WeighTwelveSaid : Prop := weighTwelveRow.holds Try.pinned (OpenSpec.ofChange weighTwelveSpec)

/-- ITS FALSE NEIGHBOUR: 'it returns false'. Refute it at one input. -/
def weighTwelveWrong : ChangeSpec := { name := "weighTwelve", fn := fun _ => fun
  | [d1, d2] => { results := [.lit (.bool false)], args := [d1, d2] }
  | _ => none }
def WeighTwelveWrongFalsely : Prop := weighTwelveRow.holds Try.pinned (OpenSpec.ofChange weighTwelveWrong)

/-- 'planchetlaw01.WeighAfter': WHATEVER THE INPUT: true; the input reads as it did. -/
def weighAfterSpec : ChangeSpec := { name := "weighAfter", fn := fun _ => fun
  | [d1, d2, d3] => { results := [.lit (.bool true)], args := [d1, d2, d3] }
  | _ => none }
def weighAfterRow : OpenClaim := { program := "ytohdjlgghkcaoaa", sum := "f51437d0bd00604aa90a1a7ce9c50ebf964f55bade009143d912212142e88dee", func := "planchet/planchetlaw01.WeighAfter", spec := "weighAfter", unfollowed := true, recurses := true, plainKeys := false, apart := false }
def WeighAfterSaid : Prop := weighAfterRow.holds Try.pinned (OpenSpec.ofChange weighAfterSpec)

/-- ITS FALSE NEIGHBOUR: 'it returns false'. Refute it at one input. -/
def weighAfterWrong : ChangeSpec := { name := "weighAfter", fn := fun _ => fun
  | [d1, d2, d3] => { results := [.lit (.bool false)], args := [d1, d2, d3] }
  | _ => none }
def WeighAfterWrongFalsely : Prop := weighAfterRow.holds Try.pinned (OpenSpec.ofChange weighAfterWrong)

/-- 'planchetlaw01.WeighNeeds': WHATEVER THE INPUT: true; the input reads as it did. -/
def weighNeedsSpec : ChangeSpec := { name := "weighNeeds", fn := fun _ => fun
  | [d] => { results := [.lit (.bool true)], args := [d] }
  | _ => none }
def weighNeedsRow : OpenClaim := { program := "ytohdjlgghkcaoaa", sum := "f51437d0bd00604aa90a1a7ce9c50ebf964f55bade009143d912212142e88dee", func := "planchet/planchetlaw01.WeighNeeds", spec := "weighNeeds", unfollowed := true, recurses := true, plainKeys := false, apart := false }
def WeighNeedsSaid : Prop := weighNeedsRow.holds Try.pinned (OpenSpec.ofChange weighNeedsSpec)

/-- ITS FALSE NEIGHBOUR: 'it returns false'. Refute it at one input. -/
def weighNeedsWrong : ChangeSpec := { name := "weighNeeds", fn := fun _ => fun
  | [d] => { results := [.lit (.bool false)], args := [d] }
  | _ => none }
def WeighNeedsWrongFalsely : Prop := weighNeedsRow.holds Try.pinned (OpenSpec.ofChange weighNeedsWrong)

/-- 'planchetlaw01.WeighBounds': WHATEVER THE INPUT: true; the input reads as it did. -/
def weighBoundsSpec : ChangeSpec := { name := "weighBounds", fn := fun _ => fun
  | [d1, d2, d3] => { results := [.lit (.bool true)], args := [d1, d2, d3] }
  | _ => none }
def weighBoundsRow : OpenClaim := { program := "ytohdjlgghkcaoaa", sum := "f51437d0bd00604aa90a1a7ce9c50ebf964f55bade009143d912212142e88dee", func := "planchet/planchetlaw01.WeighBounds", spec := "weighBounds", unfollowed := true, recurses := true, plainKeys := false, apart := false }
def WeighBoundsSaid : Prop := weighBoundsRow.holds Try.pinned (OpenSpec.ofChange weighBoundsSpec)

/-- ITS FALSE NEIGHBOUR: 'it returns false'. Refute it at one input. -/
def weighBoundsWrong : ChangeSpec := { name := "weighBounds", fn := fun _ => fun
  | [d1, d2, d3] => { results := [.lit (.bool false)], args := [d1, d2, d3] }
  | _ => none }
def WeighBoundsWrongFalsely : Prop := weighBoundsRow.holds Try.pinned (OpenSpec.ofChange weighBoundsWrong)

/-- 'planchetlaw01.WeighMore': WHATEVER THE INPUT: true; the input reads as it did. -/
def weighMoreSpec : ChangeSpec := { name := "weighMore", fn := fun _ => fun
  | [d1, d2] => { results := [.lit (.bool true)], args := [d1, d2] }
  | _ => none }
def weighMoreRow : OpenClaim := { program := "ytohdjlgghkcaoaa", sum := "f51437d0bd00604aa90a1a7ce9c50ebf964f55bade009143d912212142e88dee", func := "planchet/planchetlaw01.WeighMore", spec := "weighMore", unfollowed := true, recurses := true, plainKeys := false, apart := false }
def WeighMoreSaid : Prop := weighMoreRow.holds Try.pinned (OpenSpec.ofChange weighMoreSpec)

/-- ITS FALSE NEIGHBOUR: 'it returns false'. Refute it at one input. -/
def weighMoreWrong : ChangeSpec := { name := "weighMore", fn := fun _ => fun
  | [d1, d2] => { results := [.lit (.bool false)], args := [d1, d2] }
  | _ => none }
def WeighMoreWrongFalsely : Prop := weighMoreRow.holds Try.pinned (OpenSpec.ofChange weighMoreWrong)

/-- 'planchetlaw01.WeighBest': WHATEVER THE INPUT: true; the input reads as it did. -/
def weighBestSpec : ChangeSpec := { name := "weighBest", fn := fun _ => fun
  | [d] => { results := [.lit (.bool true)], args := [d] }
  | _ => none }
def weighBestRow : OpenClaim := { program := "ytohdjlgghkcaoaa", sum := "f51437d0bd00604aa90a1a7ce9c50ebf964f55bade009143d912212142e88dee", func := "planchet/planchetlaw01.WeighBest", spec := "weighBest", unfollowed := true, recurses := true, plainKeys := false, apart := false }
def WeighBestSaid : Prop := weighBestRow.holds Try.pinned (OpenSpec.ofChange weighBestSpec)

/-- ITS FALSE NEIGHBOUR: 'it returns false'. Refute it at one input. -/
def weighBestWrong : ChangeSpec := { name := "weighBest", fn := fun _ => fun
  | [d] => { results := [.lit (.bool false)], args := [d] }
  | _ => none }
def WeighBestWrongFalsely : Prop := weighBestRow.holds Try.pinned (OpenSpec.ofChange weighBestWrong)

/-- 'planchetlaw01.WeighPans': WHATEVER THE INPUT: true; the input reads as it did. -/
def weighPansSpec : ChangeSpec := { name := "weighPans", fn := fun _ => fun
  | [d] => { results := [.lit (.bool true)], args := [d] }
  | _ => none }
def weighPansRow : OpenClaim := { program := "ytohdjlgghkcaoaa", sum := "f51437d0bd00604aa90a1a7ce9c50ebf964f55bade009143d912212142e88dee", func := "planchet/planchetlaw01.WeighPans", spec := "weighPans", unfollowed := true, recurses := true, plainKeys := false, apart := false }
def WeighPansSaid : Prop := weighPansRow.holds Try.pinned (OpenSpec.ofChange weighPansSpec)

/-- ITS FALSE NEIGHBOUR: 'it returns false'. Refute it at one input. -/
def weighPansWrong : ChangeSpec := { name := "weighPans", fn := fun _ => fun
  | [d] => { results := [.lit (.bool false)], args := [d] }
  | _ => none }
def WeighPansWrongFalsely : Prop := weighPansRow.holds Try.pinned (OpenSpec.ofChange weighPansWrong)

/-- 'planchetlaw01.WeighWeights': WHATEVER THE INPUT: true; the input reads as it did. -/
def weighWeightsSpec : ChangeSpec := { name := "weighWeights", fn := fun _ => fun
  | [d1, d2] => { results := [.lit (.bool true)], args := [d1, d2] }
  | _ => none }
def weighWeightsRow : OpenClaim := { program := "ytohdjlgghkcaoaa", sum := "f51437d0bd00604aa90a1a7ce9c50ebf964f55bade009143d912212142e88dee", func := "planchet/planchetlaw01.WeighWeights", spec := "weighWeights", unfollowed := true, recurses := true, plainKeys := false, apart := false }
def WeighWeightsSaid : Prop := weighWeightsRow.holds Try.pinned (OpenSpec.ofChange weighWeightsSpec)

/-- ITS FALSE NEIGHBOUR: 'it returns false'. Refute it at one input. -/
def weighWeightsWrong : ChangeSpec := { name := "weighWeights", fn := fun _ => fun
  | [d1, d2] => { results := [.lit (.bool false)], args := [d1, d2] }
  | _ => none }
def WeighWeightsWrongFalsely : Prop := weighWeightsRow.holds Try.pinned (OpenSpec.ofChange weighWeightsWrong)

/-- 'planchetlaw01.WeighLeast': WHATEVER THE INPUT: true; the input reads as it did. -/
def weighLeastSpec : ChangeSpec := { name := "weighLeast", fn := fun _ => fun
  | [d1, d2] => { results := [.lit (.bool true)], args := [d1, d2] }
  | _ => none }
def weighLeastRow : OpenClaim := { program := "ytohdjlgghkcaoaa", sum := "f51437d0bd00604aa90a1a7ce9c50ebf964f55bade009143d912212142e88dee", func := "planchet/planchetlaw01.WeighLeast", spec := "weighLeast", unfollowed := true, recurses := true, plainKeys := false, apart := false }
def WeighLeastSaid : Prop := weighLeastRow.holds Try.pinned (OpenSpec.ofChange weighLeastSpec)

/-- ITS FALSE NEIGHBOUR: 'it returns false'. Refute it at one input. -/
def weighLeastWrong : ChangeSpec := { name := "weighLeast", fn := fun _ => fun
  | [d1, d2] => { results := [.lit (.bool false)], args := [d1, d2] }
  | _ => none }
def WeighLeastWrongFalsely : Prop := weighLeastRow.holds Try.pinned (OpenSpec.ofChange weighLeastWrong)

/-- 'planchetlaw01.WeighReads': WHATEVER THE INPUT: true; the input reads as it did. -/
def weighReadsSpec : ChangeSpec := { name := "weighReads", fn := fun _ => fun
  | [d1, d2] => { results := [.lit (.bool true)], args := [d1, d2] }
  | _ => none }
def weighReadsRow : OpenClaim := { program := "ytohdjlgghkcaoaa", sum := "f51437d0bd00604aa90a1a7ce9c50ebf964f55bade009143d912212142e88dee", func := "planchet/planchetlaw01.WeighReads", spec := "weighReads", unfollowed := true, recurses := true, plainKeys := false, apart := false }
def WeighReadsSaid : Prop := weighReadsRow.holds Try.pinned (OpenSpec.ofChange weighReadsSpec)

/-- ITS FALSE NEIGHBOUR: 'it returns false'. Refute it at one input. -/
def weighReadsWrong : ChangeSpec := { name := "weighReads", fn := fun _ => fun
  | [d1, d2] => { results := [.lit (.bool false)], args := [d1, d2] }
  | _ => none }
def WeighReadsWrongFalsely : Prop := weighReadsRow.holds Try.pinned (OpenSpec.ofChange weighReadsWrong)

/-- 'planchetlaw01.WeighFinds': WHATEVER THE INPUT: true; the input reads as it did. -/
def weighFindsSpec : ChangeSpec := { name := "weighFinds", fn := fun _ => fun
  | [d1, d2, d3] => { results := [.lit (.bool true)], args := [d1, d2, d3] }
  | _ => none }
def weighFindsRow : OpenClaim := { program := "ytohdjlgghkcaoaa", sum := "f51437d0bd00604aa90a1a7ce9c50ebf964f55bade009143d912212142e88dee", func := "planchet/planchetlaw01.WeighFinds", spec := "weighFinds", unfollowed := true, recurses := true, plainKeys := false, apart := false }
def WeighFindsSaid : Prop := weighFindsRow.holds Try.pinned (OpenSpec.ofChange weighFindsSpec)

/-- ITS FALSE NEIGHBOUR: 'it returns false'. Refute it at one input. -/
def weighFindsWrong : ChangeSpec := { name := "weighFinds", fn := fun _ => fun
  | [d1, d2, d3] => { results := [.lit (.bool false)], args := [d1, d2, d3] }
  | _ => none }
def WeighFindsWrongFalsely : Prop := weighFindsRow.holds Try.pinned (OpenSpec.ofChange weighFindsWrong)

/-- 'planchetlaw01.WeighRight': WHATEVER THE INPUT: true; the input reads as it did. -/
def weighRightSpec : ChangeSpec := { name := "weighRight", fn := fun _ => fun
  | [d1, d2, d3] => { results := [.lit (.bool true)], args := [d1, d2, d3] }
  | _ => none }
def weighRightRow : OpenClaim := { program := "ytohdjlgghkcaoaa", sum := "f51437d0bd00604aa90a1a7ce9c50ebf964f55bade009143d912212142e88dee", func := "planchet/planchetlaw01.WeighRight", spec := "weighRight", unfollowed := true, recurses := true, plainKeys := false, apart := false }
def WeighRightSaid : Prop := weighRightRow.holds Try.pinned (OpenSpec.ofChange weighRightSpec)

/-- ITS FALSE NEIGHBOUR: 'it returns false'. Refute it at one input. -/
def weighRightWrong : ChangeSpec := { name := "weighRight", fn := fun _ => fun
  | [d1, d2, d3] => { results := [.lit (.bool false)], args := [d1, d2, d3] }
  | _ => none }
def WeighRightWrongFalsely : Prop := weighRightRow.holds Try.pinned (OpenSpec.ofChange weighRightWrong)

/-- 'planchetlaw01.WeighPlans': WHATEVER THE INPUT: true; the input reads as it did. -/
def weighPlansSpec : ChangeSpec := { name := "weighPlans", fn := fun _ => fun
  | [d1, d2] => { results := [.lit (.bool true)], args := [d1, d2] }
  | _ => none }
def weighPlansRow : OpenClaim := { program := "ytohdjlgghkcaoaa", sum := "f51437d0bd00604aa90a1a7ce9c50ebf964f55bade009143d912212142e88dee", func := "planchet/planchetlaw01.WeighPlans", spec := "weighPlans", unfollowed := true, recurses := true, plainKeys := false, apart := false }
def WeighPlansSaid : Prop := weighPlansRow.holds Try.pinned (OpenSpec.ofChange weighPlansSpec)

/-- ITS FALSE NEIGHBOUR: 'it returns false'. Refute it at one input. -/
def weighPlansWrong : ChangeSpec := { name := "weighPlans", fn := fun _ => fun
  | [d1, d2] => { results := [.lit (.bool false)], args := [d1, d2] }
  | _ => none }
def WeighPlansWrongFalsely : Prop := weighPlansRow.holds Try.pinned (OpenSpec.ofChange weighPlansWrong)

/- THE SECOND FORM. 'bulk': how many values and letters a reading holds, each counted each time it is reached (what is shared counts as often as it is met; a slice's spare places count too). A statement '..UptoSaid' is the law's where the arguments, and the package variables that the reading takes, are together of bulk at most 1048576: NARROWER than '..Said'. Prove '..Said' where nothing that the law and all that it calls make is longer than what came in: it says more and counts as full. Else prove '..UptoSaid'. A law counts once. -/
mutual
def uptoBulk {H : Type} : DataW H → Nat
  | .lit (.string bytes) => bytes.length + 1
  | .lit _ => 1
  | .nil => 1
  | .ptr d => uptoBulk d + 1
  | .slice elems spare => uptoBulkAll elems + uptoBulkAll spare + 1
  | .agg parts => uptoBulkAll parts + 1
  | .iface _ d => uptoBulk d + 1
  | .map entries => uptoBulkEntries entries + 1
  | .held _ => 1
def uptoBulkAll {H : Type} : List (DataW H) → Nat
  | [] => 0
  | d :: r => uptoBulk d + uptoBulkAll r
def uptoBulkEntries {H : Type} : List (Lit × DataW H) → Nat
  | [] => 0
  | x :: r => uptoBulkEntry x + uptoBulkEntries r
def uptoBulkEntry {H : Type} : Lit × DataW H → Nat
  | (.string bytes, d) => bytes.length + uptoBulk d + 1
  | (_, d) => uptoBulk d + 1
 end
def uptoSmall : (H : Type) → List (DataW H) → Bool := fun _ ds => decide (uptoBulkAll ds ≤ 1048576)
def OpenSpec.upto (s : _root_.Go.ChangeSpec) : _root_.Go.OpenSpec := { _root_.Go.OpenSpec.ofChange s with cond := some uptoSmall }

/-- 'planchetlaw01.WeighTwelve', WHERE WHAT IT READS IS OF BULK AT MOST 1048576: true; the input reads as it did. -/
def weighTwelveUptoRow : OpenClaim := { program := "ytohdjlgghkcaoaa", sum := "f51437d0bd00604aa90a1a7ce9c50ebf964f55bade009143d912212142e88dee", func := "planchet/planchetlaw01.WeighTwelve", spec := "weighTwelve", unfollowed := true, recurses := true, plainKeys := false, apart := false, narrowed := true }
def WeighTwelveUptoSaid : Prop := weighTwelveUptoRow.holds Try.pinned (OpenSpec.upto weighTwelveSpec)

/-- 'planchetlaw01.WeighAfter', WHERE WHAT IT READS IS OF BULK AT MOST 1048576: true; the input reads as it did. -/
def weighAfterUptoRow : OpenClaim := { program := "ytohdjlgghkcaoaa", sum := "f51437d0bd00604aa90a1a7ce9c50ebf964f55bade009143d912212142e88dee", func := "planchet/planchetlaw01.WeighAfter", spec := "weighAfter", unfollowed := true, recurses := true, plainKeys := false, apart := false, narrowed := true }
def WeighAfterUptoSaid : Prop := weighAfterUptoRow.holds Try.pinned (OpenSpec.upto weighAfterSpec)

/-- 'planchetlaw01.WeighNeeds', WHERE WHAT IT READS IS OF BULK AT MOST 1048576: true; the input reads as it did. -/
def weighNeedsUptoRow : OpenClaim := { program := "ytohdjlgghkcaoaa", sum := "f51437d0bd00604aa90a1a7ce9c50ebf964f55bade009143d912212142e88dee", func := "planchet/planchetlaw01.WeighNeeds", spec := "weighNeeds", unfollowed := true, recurses := true, plainKeys := false, apart := false, narrowed := true }
def WeighNeedsUptoSaid : Prop := weighNeedsUptoRow.holds Try.pinned (OpenSpec.upto weighNeedsSpec)

/-- 'planchetlaw01.WeighBounds', WHERE WHAT IT READS IS OF BULK AT MOST 1048576: true; the input reads as it did. -/
def weighBoundsUptoRow : OpenClaim := { program := "ytohdjlgghkcaoaa", sum := "f51437d0bd00604aa90a1a7ce9c50ebf964f55bade009143d912212142e88dee", func := "planchet/planchetlaw01.WeighBounds", spec := "weighBounds", unfollowed := true, recurses := true, plainKeys := false, apart := false, narrowed := true }
def WeighBoundsUptoSaid : Prop := weighBoundsUptoRow.holds Try.pinned (OpenSpec.upto weighBoundsSpec)

/-- 'planchetlaw01.WeighMore', WHERE WHAT IT READS IS OF BULK AT MOST 1048576: true; the input reads as it did. -/
def weighMoreUptoRow : OpenClaim := { program := "ytohdjlgghkcaoaa", sum := "f51437d0bd00604aa90a1a7ce9c50ebf964f55bade009143d912212142e88dee", func := "planchet/planchetlaw01.WeighMore", spec := "weighMore", unfollowed := true, recurses := true, plainKeys := false, apart := false, narrowed := true }
def WeighMoreUptoSaid : Prop := weighMoreUptoRow.holds Try.pinned (OpenSpec.upto weighMoreSpec)

/-- 'planchetlaw01.WeighBest', WHERE WHAT IT READS IS OF BULK AT MOST 1048576: true; the input reads as it did. -/
def weighBestUptoRow : OpenClaim := { program := "ytohdjlgghkcaoaa", sum := "f51437d0bd00604aa90a1a7ce9c50ebf964f55bade009143d912212142e88dee", func := "planchet/planchetlaw01.WeighBest", spec := "weighBest", unfollowed := true, recurses := true, plainKeys := false, apart := false, narrowed := true }
def WeighBestUptoSaid : Prop := weighBestUptoRow.holds Try.pinned (OpenSpec.upto weighBestSpec)

/-- 'planchetlaw01.WeighPans', WHERE WHAT IT READS IS OF BULK AT MOST 1048576: true; the input reads as it did. -/
def weighPansUptoRow : OpenClaim := { program := "ytohdjlgghkcaoaa", sum := "f51437d0bd00604aa90a1a7ce9c50ebf964f55bade009143d912212142e88dee", func := "planchet/planchetlaw01.WeighPans", spec := "weighPans", unfollowed := true, recurses := true, plainKeys := false, apart := false, narrowed := true }
def WeighPansUptoSaid : Prop := weighPansUptoRow.holds Try.pinned (OpenSpec.upto weighPansSpec)

/-- 'planchetlaw01.WeighWeights', WHERE WHAT IT READS IS OF BULK AT MOST 1048576: true; the input reads as it did. -/
def weighWeightsUptoRow : OpenClaim := { program := "ytohdjlgghkcaoaa", sum := "f51437d0bd00604aa90a1a7ce9c50ebf964f55bade009143d912212142e88dee", func := "planchet/planchetlaw01.WeighWeights", spec := "weighWeights", unfollowed := true, recurses := true, plainKeys := false, apart := false, narrowed := true }
def WeighWeightsUptoSaid : Prop := weighWeightsUptoRow.holds Try.pinned (OpenSpec.upto weighWeightsSpec)

/-- 'planchetlaw01.WeighLeast', WHERE WHAT IT READS IS OF BULK AT MOST 1048576: true; the input reads as it did. -/
def weighLeastUptoRow : OpenClaim := { program := "ytohdjlgghkcaoaa", sum := "f51437d0bd00604aa90a1a7ce9c50ebf964f55bade009143d912212142e88dee", func := "planchet/planchetlaw01.WeighLeast", spec := "weighLeast", unfollowed := true, recurses := true, plainKeys := false, apart := false, narrowed := true }
def WeighLeastUptoSaid : Prop := weighLeastUptoRow.holds Try.pinned (OpenSpec.upto weighLeastSpec)

/-- 'planchetlaw01.WeighReads', WHERE WHAT IT READS IS OF BULK AT MOST 1048576: true; the input reads as it did. -/
def weighReadsUptoRow : OpenClaim := { program := "ytohdjlgghkcaoaa", sum := "f51437d0bd00604aa90a1a7ce9c50ebf964f55bade009143d912212142e88dee", func := "planchet/planchetlaw01.WeighReads", spec := "weighReads", unfollowed := true, recurses := true, plainKeys := false, apart := false, narrowed := true }
def WeighReadsUptoSaid : Prop := weighReadsUptoRow.holds Try.pinned (OpenSpec.upto weighReadsSpec)

/-- 'planchetlaw01.WeighFinds', WHERE WHAT IT READS IS OF BULK AT MOST 1048576: true; the input reads as it did. -/
def weighFindsUptoRow : OpenClaim := { program := "ytohdjlgghkcaoaa", sum := "f51437d0bd00604aa90a1a7ce9c50ebf964f55bade009143d912212142e88dee", func := "planchet/planchetlaw01.WeighFinds", spec := "weighFinds", unfollowed := true, recurses := true, plainKeys := false, apart := false, narrowed := true }
def WeighFindsUptoSaid : Prop := weighFindsUptoRow.holds Try.pinned (OpenSpec.upto weighFindsSpec)

/-- 'planchetlaw01.WeighRight', WHERE WHAT IT READS IS OF BULK AT MOST 1048576: true; the input reads as it did. -/
def weighRightUptoRow : OpenClaim := { program := "ytohdjlgghkcaoaa", sum := "f51437d0bd00604aa90a1a7ce9c50ebf964f55bade009143d912212142e88dee", func := "planchet/planchetlaw01.WeighRight", spec := "weighRight", unfollowed := true, recurses := true, plainKeys := false, apart := false, narrowed := true }
def WeighRightUptoSaid : Prop := weighRightUptoRow.holds Try.pinned (OpenSpec.upto weighRightSpec)

/-- 'planchetlaw01.WeighPlans', WHERE WHAT IT READS IS OF BULK AT MOST 1048576: true; the input reads as it did. -/
def weighPlansUptoRow : OpenClaim := { program := "ytohdjlgghkcaoaa", sum := "f51437d0bd00604aa90a1a7ce9c50ebf964f55bade009143d912212142e88dee", func := "planchet/planchetlaw01.WeighPlans", spec := "weighPlans", unfollowed := true, recurses := true, plainKeys := false, apart := false, narrowed := true }
def WeighPlansUptoSaid : Prop := weighPlansUptoRow.holds Try.pinned (OpenSpec.upto weighPlansSpec)

end Rows
end Go.Proofs.Ytohdjlgghkcaoaa
