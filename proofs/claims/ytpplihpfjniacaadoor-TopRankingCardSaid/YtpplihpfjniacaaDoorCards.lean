/-
  DERIVED. GIVEN WITH THE SEED: THE CARDS: each row of YtpplihpfjniacaaDoorRows.lean that lists a variable, with what it lists TIED to the program's text (the seventh form; the later family's looks); each row that meets fmt, with fmt's text TOLD by the authors' own Lean function (tested against real Go, not proved from fmt's source: count such statements apart). THE CARD IS WHAT COUNTS. Prove the row's statement (the work); the ties are given (YtpplihpfjniacaaDoorTie.lean); close each card by the builder's one call (the guide's Derived/Test/ToyasCard.lean, 'card_holds'). Laid BY PROGRAM, IN A SANDBOX (cutbox-door.mjs). By AI agents, Wed Nov 11 2026. No macro, syntax, notation, axiom, sorry.
-/
import Derived.Test.YtpplihpfjniacaaDoorRows
import GoSem.ClaimSeven
namespace Go.Proofs.YtpplihpfjniacaaDoor
namespace Rows

/-- THE TIED CARD OF 'planchettop.TopQuestions'. -/
def topQuestionsCard : Claim7 := { stood := { row := topQuestionsRow, standIns := [], harness := (true, "22177fc809be2071d82dd911e8e159e200c84fc141871c1cdb42965f5ce27e00"), looks := false }, kinds := [], alts := [], laidByText := true, laidKinds := [.data], laidTests := true, laidLooks := .later }
def TopQuestionsCardSaid : Prop := Claim7.holds Tryd.pinned (.plain (OpenSpec.ofChange topQuestionsSpec)) topQuestionsCard

/-- THE TIED CARD OF 'planchettop.TopRanking'. -/
def topRankingCard : Claim7 := { stood := { row := topRankingRow, standIns := [], harness := (true, "22177fc809be2071d82dd911e8e159e200c84fc141871c1cdb42965f5ce27e00"), looks := false }, kinds := [], alts := [], laidByText := true, laidKinds := [.data, .data], laidTests := true, laidLooks := .later }
def TopRankingCardSaid : Prop := Claim7.holds Tryd.pinned (.plain (OpenSpec.ofChange topRankingSpec)) topRankingCard

/-- THE TIED CARD OF 'planchettop.TopDown'. -/
def topDownCard : Claim7 := { stood := { row := topDownRow, standIns := [], harness := (true, "22177fc809be2071d82dd911e8e159e200c84fc141871c1cdb42965f5ce27e00"), looks := false }, kinds := [], alts := [], laidByText := true, laidKinds := [.data], laidTests := true, laidLooks := .later }
def TopDownCardSaid : Prop := Claim7.holds Tryd.pinned (.plain (OpenSpec.ofChange topDownSpec)) topDownCard

/-- THE SECOND FORM's CARD OF 'planchettop.TopQuestions'. -/
def topQuestionsUptoCard : Claim7 := { stood := { row := topQuestionsUptoRow, standIns := [], harness := (true, "22177fc809be2071d82dd911e8e159e200c84fc141871c1cdb42965f5ce27e00"), looks := false }, kinds := [], alts := [], laidByText := true, laidKinds := [.data], laidTests := true, laidLooks := .later }
def TopQuestionsUptoCardSaid : Prop := Claim7.holds Tryd.pinned (.plain (OpenSpec.upto topQuestionsSpec)) topQuestionsUptoCard

/-- THE SECOND FORM's CARD OF 'planchettop.TopRanking'. -/
def topRankingUptoCard : Claim7 := { stood := { row := topRankingUptoRow, standIns := [], harness := (true, "22177fc809be2071d82dd911e8e159e200c84fc141871c1cdb42965f5ce27e00"), looks := false }, kinds := [], alts := [], laidByText := true, laidKinds := [.data, .data], laidTests := true, laidLooks := .later }
def TopRankingUptoCardSaid : Prop := Claim7.holds Tryd.pinned (.plain (OpenSpec.upto topRankingSpec)) topRankingUptoCard

/-- THE SECOND FORM's CARD OF 'planchettop.TopDown'. -/
def topDownUptoCard : Claim7 := { stood := { row := topDownUptoRow, standIns := [], harness := (true, "22177fc809be2071d82dd911e8e159e200c84fc141871c1cdb42965f5ce27e00"), looks := false }, kinds := [], alts := [], laidByText := true, laidKinds := [.data], laidTests := true, laidLooks := .later }
def TopDownUptoCardSaid : Prop := Claim7.holds Tryd.pinned (.plain (OpenSpec.upto topDownSpec)) topDownUptoCard
end Rows
end Go.Proofs.YtpplihpfjniacaaDoor
