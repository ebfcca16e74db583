/- Walks: families: asker. -/
import Derived.Test.YtpplihpfjniacaaDoorEv6
import Derived.Test.YtpplihpfjniacaaDoorVMap
import Derived.Test.YtpplihpfjniacaaDoorTqPlain
namespace Go.Proofs.YtpplihpfjniacaaDoor
open Go.RowKit Go.Maps

/-- The asker's memory. -/
def Asker (w1 : World) (Ba bk bb n F : Nat) (w : World) (fk : Nat → Nat → Option Nat) : Prop :=
  Box w Ba #[.int .i64 (n : Int), .int .u64 (F : Int), .map (some bk), .map (some bb)] 100 ∧ VM.KnownM w bk fk ∧ VM.BestM w bb ∧ Chg [] w1 w
theorem Asker.keep {w1 w w' : World} {Ba bk bb n F : Nat} {fk : Nat → Nat → Option Nat} (h : Asker w1 Ba bk bb n F w fk) (hc : Chg [] w w') : Asker w1 Ba bk bb n F w' fk :=
  ⟨h.1.keep hc List.not_mem_nil, h.2.1.keep hc List.not_mem_nil, h.2.2.1.keep hc List.not_mem_nil, h.2.2.2.trans hc⟩
def Needs (n F : Nat) (fk : Nat → Nat → Option Nat) : Prop := ∀ a i m, a < 64 → i < 64 → fk a i = some m → m = E.need n (fun s => F.testBit s) a i
def AskIs (w1 : World) (Ba bk bb n F a i : Nat) (w w' : World) (e : Ending) : Prop :=
  e = .returned (.int .i64 (E.need n (fun s => F.testBit s) a i : Int)) ∧ ∃ fk', Asker w1 Ba bk bb n F w' fk' ∧ Needs n F fk' ∧ Chg [bk, bb] w w'
def AskOk (w1 : World) (Ba bk bb n F f : Nat) : Prop := ∀ (a i : Nat) (w : World) (fk : Nat → Nat → Option Nat), a < 2 ^ n → i < 2 ^ n → 2 ^ n - a < f → Asker w1 Ba bk bb n F w fk → Needs n F fk →
  Calls Tryd.prog 27 #[.pointer (some ⟨Ba, 0, none⟩), viewV a i] w fun e w' => AskIs w1 Ba bk bb n F a i w w' e

set_option maxRecDepth 100000 in
set_option maxHeartbeats 1000000 in
theorem asker_any (n F : Nat) (w : World) :
    Calls Tryd.prog 26 #[famV n F] w fun e w' => ∃ Ba bk bb, e = .returned (.pointer (some ⟨Ba, 0, none⟩)) ∧ Asker w Ba bk bb n F w' (fun _ _ => none) ∧ w.heap.size ≤ Ba ∧ w.heap.size ≤ bk ∧ w.heap.size ≤ bb ∧ Ba ≠ bk ∧ Ba ≠ bb ∧ bk ≠ bb := by
  unfold famV
  have hmm := @run_makeMap Tryd.prog
  go_enter Tryd.func26, Tryd.ntmps26
  go_wp2
  have ca := (Chg.refl [] w).alloc (.cells #[.int .i64 (n : Int), .int .u64 (F : Int)] 50)
  have hs1 : (w.alloc (.cells #[.int .i64 (n : Int), .int .u64 (F : Int)] 50)).heap.size = w.heap.size + 1 := by simp
  generalize w.alloc (.cells #[.int .i64 (n : Int), .int .u64 (F : Int)] 50) = W at *
  have hk := (VM.KnownM.new W).keep ((Chg.refl [] (W.alloc (.map #[] 0))).alloc (.map #[] 0)) List.not_mem_nil
  have hf := VM.KnownM.new (W.alloc (.map #[] 0))
  have hc : Chg [] W ((W.alloc (.map #[] 0)).alloc (.map #[] 0)) := ((Chg.refl [] W).alloc _).alloc _
  have hs2 : (W.alloc (.map #[] 0)).heap.size = W.heap.size + 1 := by simp
  rw [hs2, hs1] at hf
  rw [hs1] at hk
  have hs3 : ((W.alloc (.map #[] 0)).alloc (.map #[] 0)).heap.size = w.heap.size + 1 + 1 + 1 := by simp [hs1]
  generalize (W.alloc (.map #[] 0)).alloc (.map #[] 0) = w2 at *
  go_ret
  have bx := Box.new w2 #[.int .i64 (n : Int), .int .u64 (F : Int), .map (some (w.heap.size + 1)), .map (some (w.heap.size + 1 + 1))] 100
  rw [hs3] at bx
  have hca : Chg [] w2 (w2.alloc (.cells #[.int .i64 (n : Int), .int .u64 (F : Int), .map (some (w.heap.size + 1)), .map (some (w.heap.size + 1 + 1))] 100)) := (Chg.refl _ _).alloc _
  exact ⟨_, _, _, rfl, ⟨bx, hk.keep hca List.not_mem_nil, ⟨_, hf.keep hca List.not_mem_nil⟩, (ca.trans hc).trans hca⟩, by omega, by omega, by omega, by omega, by omega, by omega⟩
end Go.Proofs.YtpplihpfjniacaaDoor
