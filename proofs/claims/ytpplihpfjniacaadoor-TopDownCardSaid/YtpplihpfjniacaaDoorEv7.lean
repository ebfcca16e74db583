/- Walks: families: read. -/
import Derived.Test.YtpplihpfjniacaaDoorEv6
import Derived.Deep.RegionHeld3
import Derived.Laws.StructEq
namespace Go.Proofs.YtpplihpfjniacaaDoor
open Go.RowKit

def okR (n : Int) (l : List Int) : Bool := decide (1 ≤ n ∧ n ≤ 6 ∧ l.length ≤ 64) && Fam.readB n.toNat l
def ReadOut (n : Int) (l : List Int) (w : World) (e : Ending) (w' : World) : Prop :=
  Chg [] w w' ∧ ((okR n l = true ∧ e = .returned (.tuple #[famV n.toNat (Fam.setOf l), .bool true])) ∨ (okR n l = false ∧ ∃ (m : Int) (X : Nat), e = .returned (.tuple #[famI m X, .bool false])))
set_option maxRecDepth 100000 in
set_option maxHeartbeats 2000000 in
theorem read_bad (n : Int) (v : Value) (w : World) (hcol : ∀ ws, Chg [] w ws → Calls Tryd.prog 58 #[.int .i64 n, v] ws fun e w' => Chg [] ws w' ∧ ∃ (m : Int) (X : Nat), e = .returned (.tuple #[famI m X, .bool false])) :
    Calls Tryd.prog 25 #[.int .i64 n, v] w fun e w' => Chg [] w w' ∧ ∃ (m : Int) (X : Nat), e = .returned (.tuple #[famI m X, .bool false]) := by
  have HCo := hide hcol
  unfold famI at *
  clear hcol
  have HW := hide (show Box (w.alloc (.cells #[.int .i64 0, .int .u64 0] 50)) w.heap.size #[.int .i64 0, .int .u64 0] 50 ∧ Chg [] w (w.alloc (.cells #[.int .i64 0, .int .u64 0] 50)) from ⟨Box.new _ _ _, (Chg.refl _ _).alloc _⟩)
  go_enter Tryd.func25, Tryd.ntmps25
  go_wp2_with fail
  refine (HCo.out _ HW.out.2).mono ?_
  rintro e w1 ⟨hw, m, X, rfl⟩
  have b1 := (HW.out.1.keep hw List.not_mem_nil).old (.cells #[.int .i64 m, .int .u64 (X : Int)] 50)
  have b2 := Box.new w1 #[.int .i64 m, .int .u64 (X : Int)] 50
  have c2 := (HW.out.2.trans hw).alloc (.cells #[.int .i64 m, .int .u64 (X : Int)] 50)
  clear HW hw
  go_wp2
  generalize w1.alloc (.cells #[.int .i64 m, .int .u64 (X : Int)] 50) = W at b1 b2 c2 ⊢
  generalize w1.heap.size = B at b2 ⊢
  obtain ⟨A, hA⟩ : ∃ A, A = w.heap.size := ⟨_, rfl⟩
  have HA : Hid (w.heap.size ≤ A) := hide (Nat.le_of_eq hA.symm)
  rw [← hA] at b1 ⊢
  have q0 := b1.cell 0
  have q1 := b1.cell 1
  have g0 := b1.free 0
  have g1 := b1.free 1
  have l1 := b1.lt
  have p0 := b2.cell 0
  have p1 := b2.cell 1
  have l2 := b2.lt
  have HC := hide c2
  simp only [List.getElem?_toArray, List.getElem?_cons_zero, List.getElem?_cons_succ] at p0 p1 q0 q1
  clear b1 b2 c2 hA
  go_region
  all_goals
    go_wp2
    refine bodyPost_ret (v := .tuple #[.agg #[.int .i64 m, .int .u64 (X : Int)], .bool false]) ?_ rfl ⟨?_, m, X, rfl⟩
    · simp [results, Tryd.results25, go_sem, q0, q1]
    · have hA := HA.out
      have c3 := HC.out
      (repeat' (first | with_reducible exact Chg.refl _ _ | with_reducible assumption | with_reducible apply Chg.drewN | with_reducible apply Chg.drew | with_reducible apply Chg.alloc | (with_reducible refine Chg.setCell ?_ (Or.inr ?_) _) | (with_reducible refine Chg.trans ?_ (by assumption)) | (simp; done) | (simp; omega)))

theorem eq_i64 (a b : Int) (w : World) : (Op.equalIn 9999 3 (.int .i64 a) (.int .i64 b)).run Tryd.prog w = .ok (a == b) w := by kernel_rfl
theorem eq_u64 (a b : Int) (w : World) : (Op.equalIn 9999 48 (.int .u64 a) (.int .u64 b)).run Tryd.prog w = .ok (a == b) w := by kernel_rfl
theorem part_f0 (a b : Int) (w : World) : (part 3 #[.int .i64 a, .int .u64 b] 0).run Tryd.prog w = .ok (.int .i64 a) w := by kernel_rfl
theorem part_f1 (a b : Int) (w : World) : (part 48 #[.int .i64 a, .int .u64 b] 1).run Tryd.prog w = .ok (.int .u64 b) w := by kernel_rfl
theorem held_fam : Tryd.prog.stoodInHeld 50 = false := by kernel_rfl
theorem guard_fam : Tryd.prog.eqGuardType Tryd.prog.depth 50 = false := by kernel_rfl
theorem eq_fam (a b c d : Int) (w : World) : (Op.equalIn 10000 50 (.agg #[.int .i64 a, .int .u64 b]) (.agg #[.int .i64 c, .int .u64 d])).run Tryd.prog w = .ok (a == c && b == d) w := by
  refine (run_equalIn_struct (P := Tryd.prog) w 9999 50 _ _ (by unfold Program.fieldsOf; rw [Tryd.underlying50]) held_fam).trans ?_
  unfold Program.fieldsOf
  rw [Tryd.underlying50]
  simp [Op.eqFields, part_f0, part_f1, eq_i64, eq_u64]
  by_cases h1 : a = c
  · by_cases h2 : b = d
    · simp [h1, h2]
    · simp [h1, h2]
  · simp [h1]
@[go_sem] theorem run_eql_fam (a b c d : Int) (w : World) : (binOp .eql 50 (.agg #[.int .i64 a, .int .u64 b]) (.agg #[.int .i64 c, .int .u64 d])).run Tryd.prog w = .ok (.bool (a == c && b == d)) w := by
  rw [run_eql_struct, eq_fam]
  rfl
@[go_sem] theorem run_eqGuard_fam (op : BinOp) (x y : Operand) (xs ys : Array Value) (w : World) : (eqGuard op 50 x y (.agg xs) (.agg ys)).run Tryd.prog w = .ok () w := run_eqGuard_agg w op _ x y xs ys guard_fam
attribute [-go_sem] run_eql_struct
end Go.Proofs.YtpplihpfjniacaaDoor
