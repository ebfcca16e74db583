/- Walk: the reference's search for a plan. -/
import Derived.Test.YtohdjlgghkcaoaaPossPlain2
import Derived.Test.YtohdjlgghkcaoaaW12
import Derived.Test.YtohdjlgghkcaoaaHalt
import Derived.Deep.QuietTactic
namespace Go.Proofs.Ytohdjlgghkcaoaa
open Go.RowKit

/-- An array of three ints. -/
def A3 (w : World) (A : Nat) (f : Nat → Int) : Prop := Box w A #[.int .i64 (f 0), .int .i64 (f 1), .int .i64 (f 2)] 97
theorem A3.lt {w : World} {A : Nat} {f : Nat → Int} (h : A3 w A f) : A < w.heap.size := Box.lt h
theorem A3.keep {w w' : World} {A : Nat} {f : Nat → Int} {S : List Nat} (h : A3 w A f) (hc : Chg S w w') (hs : A ∉ S) : A3 w' A f := Box.keep h hc hs
theorem A3.cell {w : World} {A : Nat} {f : Nat → Int} (h : A3 w A f) {j : Nat} (hj : j < 3) : w.cell? ⟨A, j, none⟩ = some (.int .i64 (f j)) := by
  rw [Box.cell h]
  rcases (show j = 0 ∨ j = 1 ∨ j = 2 by omega) with rfl | rfl | rfl <;> rfl
theorem A3.free {w : World} {A : Nat} {f : Nat → Int} (h : A3 w A f) (j : Nat) : w.frozen? ⟨A, j, none⟩ = false := Box.free h j
theorem A3.set {w : World} {A : Nat} {f g : Nat → Int} (h : A3 w A f) {j : Nat} (hj : j < 3) (v : Int) (hg : ∀ q, q < 3 → g q = if q = j then v else f q) : A3 (w.setCell ⟨A, j, none⟩ (.int .i64 v)) A g := by
  have := Box.set h j (.int .i64 v)
  unfold A3
  rw [hg 0 (by omega), hg 1 (by omega), hg 2 (by omega)]
  rcases (show j = 0 ∨ j = 1 ∨ j = 2 by omega) with rfl | rfl | rfl <;> simpa using this
theorem A3.set' {w : World} {A : Nat} {f : Nat → Int} (h : A3 w A f) {p : Addr} (hp : A ≠ p.block) (v : Value) : A3 (w.setCell p v) A f := Box.set' h hp v

theorem poss_over {k c x : Nat} {s : Nat → Int} (h : ¬ x < 3 ^ k) : W.possM k (c + 1) x s = false := by
  unfold W.possM
  rw [show 3 ^ k - x = 0 by omega]
  rfl
theorem poss_step {k c x : Nat} {s : Nat → Int} (h : x < 3 ^ k) : W.possM k (c + 1) x s = ((decide (W.firstTo x k = 1) && ((W.okS (c + 1) k x s (-1) && W.possM k c (x + 1) (W.nextS k x s (-1))) || (W.okS (c + 1) k x s 1 && W.possM k c (x + 1) (W.nextS k x s 1)))) || W.possM k (c + 1) (x + 1) s) := by
  conv => lhs; unfold W.possM
  rw [show 3 ^ k - x = (3 ^ k - (x + 1)) + 1 by omega, List.range'_succ, List.any_cons]
  rfl

def PossOk (k c : Nat) : Prop := ∀ (i : Nat) (s : Nat → Int) (w : World), i ≤ 27 → (∀ j, j < 3 → -13 ≤ s j ∧ s j ≤ 13) →
  Calls Try.prog 74 #[.int .i64 (c : Int), .int .i64 (k : Int), .int .i64 (i : Int), .int .i64 (pw k : Int), .agg #[.int .i64 (s 0), .int .i64 (s 1), .int .i64 (s 2)]] w (Ret (.bool (W.possM k c i s)) w)

set_option maxRecDepth 100000 in
theorem eqA3 (d : Nat) (a b c : Int) (w : World) : (Op.equalIn (d + 2) 97 (.agg #[.int .i64 a, .int .i64 b, .int .i64 c]) (.agg #[.int .i64 0, .int .i64 0, .int .i64 0])).run Try.prog w = .ok (a == 0 && b == 0 && c == 0) w := by
  have hs : ∀ w, (sizeOf 3).run Try.prog w = .ok 1 w := fun w => by kernel_rfl
  have hp : ∀ (x y z : Int) (w : World), (part 3 #[.int .i64 x, .int .i64 y, .int .i64 z] 0).run Try.prog w = .ok (.int .i64 x) w ∧ (part 3 #[.int .i64 x, .int .i64 y, .int .i64 z] 1).run Try.prog w = .ok (.int .i64 y) w ∧ (part 3 #[.int .i64 x, .int .i64 y, .int .i64 z] 2).run Try.prog w = .ok (.int .i64 z) w := fun x y z w => ⟨by kernel_rfl, by kernel_rfl, by kernel_rfl⟩
  have he : ∀ (x y : Int) (w : World), (Op.equalIn (d + 1) 3 (.int .i64 x) (.int .i64 y)).run Try.prog w = .ok (x == y) w := fun x y w => run_equalIn_int w d _ _ _ x y Try.underlying3
  unfold Op.equalIn
  simp only [Sem.run_bind, run_underlying Try.underlying97, Result.andThen_ok, hs]
  rw [Std.Legacy.Range.forIn_eq_forIn_range']
  have hr : List.range' ([:3] : Std.Legacy.Range).start ([:3] : Std.Legacy.Range).size ([:3] : Std.Legacy.Range).step = [0, 1, 2] := rfl
  rw [hr]
  simp only [List.forIn_cons, List.forIn_nil, Sem.run_bind, Result.andThen_ok, Nat.mul_one, (hp _ _ _ _).1, he]
  cases ha : (a == 0)
  · simp
  · simp only [Bool.not_true, Bool.false_eq_true, if_false, Sem.run_pure, Result.andThen_ok, Sem.run_bind, (hp _ _ _ _).2.1, he]
    cases hb : (b == 0)
    · simp
    · simp only [Bool.not_true, Bool.false_eq_true, if_false, Sem.run_pure, Result.andThen_ok, Sem.run_bind, (hp _ _ _ _).2.2, he]
      cases hc : (c == 0) <;> simp
end Go.Proofs.Ytohdjlgghkcaoaa
