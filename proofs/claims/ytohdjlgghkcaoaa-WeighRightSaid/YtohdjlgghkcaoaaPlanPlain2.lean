/- Plain: the search for a right plan of nine coins and more. -/
import Derived.Test.YtohdjlgghkcaoaaPlanPlain
namespace Go.Proofs.Ytohdjlgghkcaoaa.W
theorem checks3b : (List.range' 9 5).all (fun c => checkP c 3) = true := by decide +kernel
end Go.Proofs.Ytohdjlgghkcaoaa.W
