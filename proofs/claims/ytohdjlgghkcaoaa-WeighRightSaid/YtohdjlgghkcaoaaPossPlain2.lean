/- Plain: the reference's search for three weighings. -/
import Derived.Test.YtohdjlgghkcaoaaPossPlain
namespace Go.Proofs.Ytohdjlgghkcaoaa.W
theorem checkq3 : (List.range 12).all (fun c => checkQ (c + 1) 3) = true := by decide +kernel
end Go.Proofs.Ytohdjlgghkcaoaa.W
