/- Plain: the search for a right plan. -/
import Derived.Test.YtohdjlgghkcaoaaFindsPlain
namespace Go.Proofs.Ytohdjlgghkcaoaa.W

/-- The slices that begin so, and go on with m numbers. -/
def gs : Nat → Bool → List Int → List (List Int)
  | 0, begun, cur => if begun then [cur] else []
  | m + 1, begun, cur => (if begun then gs m begun (cur ++ [-1]) else []) ++ gs m begun (cur ++ [0]) ++ gs m true (cur ++ [1])
def slotsM (k : Nat) : List (List Int) := gs k false []
/-- So many more slots, from one on; each as it is or opposite. -/
def growM (all : List (List Int)) : Nat → Nat → List (List Int) → Option (List (List Int))
  | 0, _, p => if zeroT p then some p else none
  | m + 1, i, p => (List.range' i (all.length - m - i)).findSome? fun j => (growM all m (j + 1) (p ++ [all.getD j []])).or (growM all m (j + 1) (p ++ [neg (all.getD j [])]))
def planM (coins k : Nat) : Option (List (List Int)) := growM (slotsM k) coins 0 []
def most (k : Nat) : Nat := if k = 2 then 3 else if k = 3 then 12 else 0
def checkP (coins k : Nat) : Bool := match planM coins k with
  | some p => decide (3 ≤ coins ∧ coins ≤ most k) && isTab p && fairT p && decide (p.length = coins) && decide (cols p = k)
  | none => !decide (3 ≤ coins ∧ coins ≤ most k)
theorem checks1 : (List.range 13).all (fun c => checkP (c + 1) 1) = true := by decide +kernel
theorem checks2 : (List.range 13).all (fun c => checkP (c + 1) 2) = true := by decide +kernel
theorem checks3a : (List.range 8).all (fun c => checkP (c + 1) 3) = true := by decide +kernel
end Go.Proofs.Ytohdjlgghkcaoaa.W
