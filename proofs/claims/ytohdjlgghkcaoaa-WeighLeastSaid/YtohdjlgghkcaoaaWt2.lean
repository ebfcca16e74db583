/- Walk: up to which number weights weigh all; the reference's. -/
import Derived.Test.YtohdjlgghkcaoaaWt1
import Derived.Test.YtohdjlgghkcaoaaHalt
import Derived.Deep.WholeRow
namespace Go.Proofs.Ytohdjlgghkcaoaa
open Go.RowKit Go.Maps

theorem zeroB : Try.zeroCells91 = Array.replicate 1001 (.bool false) := by kernel_rfl
theorem infoB : (Try.prog.info? 91).map (·.size) = some 1001 := by kernel_rfl
def Bools (cur : Array Value) (f : Nat → Bool) : Prop := cur.size = 1001 ∧ ∀ i, i < 1001 → cur[i]? = some (.bool (f i))
/-- An array of 1001 bools. -/
def BArr (w : World) (A : Nat) (f : Nat → Bool) : Prop := ∃ cur, Box w A cur 91 ∧ Bools cur f
theorem BArr.lt {w : World} {A : Nat} {f : Nat → Bool} (h : BArr w A f) : A < w.heap.size := by obtain ⟨c, h, _⟩ := h; exact h.lt
theorem BArr.keep {w w' : World} {A : Nat} {f : Nat → Bool} {S : List Nat} (h : BArr w A f) (hc : Chg S w w') (hs : A ∉ S) : BArr w' A f := by
  obtain ⟨c, h, hc'⟩ := h
  exact ⟨c, h.keep hc hs, hc'⟩
theorem BArr.cell {w : World} {A : Nat} {f : Nat → Bool} (h : BArr w A f) {i : Nat} (hi : i < 1001) : w.cell? ⟨A, i, none⟩ = some (.bool (f i)) := by
  obtain ⟨c, h, _, hc⟩ := h
  rw [h.cell]; exact hc i hi
theorem BArr.free {w : World} {A : Nat} {f : Nat → Bool} (h : BArr w A f) (i : Nat) : w.frozen? ⟨A, i, none⟩ = false := by
  obtain ⟨c, h, _⟩ := h
  exact h.free i
theorem BArr.set {w : World} {A : Nat} {f g : Nat → Bool} (h : BArr w A f) (i : Nat) (hg : ∀ j, j < 1001 → g j = if j = i then true else f j) : BArr (w.setCell ⟨A, i, none⟩ (.bool true)) A g := by
  obtain ⟨c, h, hs, hc⟩ := h
  refine ⟨_, h.set i _, by simpa using hs, fun j hj => ?_⟩
  rw [hg j hj]
  by_cases hij : j = i
  · subst hij
    rw [Array.getElem?_setIfInBounds_self, if_pos (by omega), if_pos rfl]
  · rw [Array.getElem?_setIfInBounds_ne (Ne.symm hij), hc j hj, if_neg hij]
theorem BArr.other {w : World} {A : Nat} {f : Nat → Bool} (h : BArr w A f) {p : Addr} (hp : A ≠ p.block) (v : Value) : BArr (w.setCell p v) A f := by
  obtain ⟨c, h, hs⟩ := h
  exact ⟨c, h.set' hp v, hs⟩
theorem BArr.congr {w : World} {A : Nat} {f g : Nat → Bool} (h : BArr w A f) (e : ∀ j, j < 1001 → g j = f j) : BArr w A g := by
  obtain ⟨c, h, hs, hc⟩ := h
  exact ⟨c, h, hs, fun i hi => by rw [e i hi]; exact hc i hi⟩
theorem bools_zero : Bools Try.zeroCells91 (fun _ => false) := by
  rw [zeroB]
  exact ⟨by simp, fun i hi => by rw [Array.getElem?_replicate, if_pos hi]⟩
theorem load_row {w : World} {A : Nat} {cur : Array Value} {f : Nat → Bool} (h : Box w A cur 91) (hc : Bools cur f) :
    (Instr.loadAt 91 (.pointer (some ⟨A, 0, none⟩))).run Try.prog w = .ok (.agg cur) w := by
  simp only [Instr.loadAt, Instr.sureAddr, Sem.run_bind, Sem.run_pure, Result.andThen]
  exact run_loadVar_row _ _ _ _ cur (0, 0) _ h Try.underlying91 rfl (by rw [infoB, hc.1])
theorem Bools.one {cur : Array Value} {f : Nat → Bool} (hc : Bools cur f) : cur.all (·.oneCell') = true := by
  rw [Array.all_eq_true]
  intro i hi
  have := hc.2 i (by have := hc.1; omega)
  rw [Array.getElem?_eq_getElem hi] at this
  cases this' : cur[i] <;> rw [this'] at this <;> cases this
  rfl
theorem store_new {w : World} {cur c0 : Array Value} {f g : Nat → Bool} (hc : Bools cur f) (h0 : Bools c0 g) :
    (Instr.storeAt 91 (.pointer (some ⟨w.heap.size, 0, none⟩)) (.agg cur)).run Try.prog (w.alloc (.cells c0 91)) = .ok () (w.alloc (.cells cur 91)) :=
  run_storeAt_new w _ _ _ (by rw [infoB, hc.1]) (by rw [hc.1, h0.1]) hc.one
theorem store_row {w : World} {A : Nat} {cur c0 : Array Value} {f g : Nat → Bool} (hc : Bools cur f) (h0 : Bools c0 g) (h : Box w A c0 91) :
    (Instr.storeAt 91 (.pointer (some ⟨A, 0, none⟩)) (.agg cur)).run Try.prog w = .ok () (w.setRow A cur) := by
  simp only [Instr.storeAt, Instr.sureAddr, Sem.run_bind, Sem.run_pure, Result.andThen]
  exact run_storeVar_row w A _ _ c0 cur h (by rw [infoB, hc.1]) (by rw [hc.1, h0.1]) hc.one
theorem setRow_chg {w w0 : World} {A : Nat} {cur : Array Value} (h : Chg [] w0 w) (hA : w0.heap.size ≤ A) : Chg [] w0 (w.setRow A cur) := by
  refine ⟨h.os, h.tape, h.output, by have := h.size; simp [World.setRow]; omega, fun k hk hs => ?_⟩
  have h1 := h.block k hk hs
  rw [← h1]
  unfold World.setRow
  simp only [Array.getElem?_modify]
  rw [if_neg (by omega)]
theorem setRow_box {w : World} {A : Nat} {cur c0 : Array Value} {T : TypeId} (h : Box w A c0 T) : Box (w.setRow A cur) A cur T := by
  have h' : w.heap[A]? = some (.cells c0 T (0, 0)) := h
  unfold Box World.setRow
  simp only [Array.getElem?_modify, if_pos, h', Option.map_some]
theorem index_row {cur : Array Value} {f : Nat → Bool} (hc : Bools cur f) {i : Nat} (hi : i < 1001) (w : World) : (Instr.index 91 (.agg cur) (.int .i64 (i : Int))).run Try.prog w = .ok (.bool (f i)) w := by
  have hs : ∀ w, (sizeOf 4).run Try.prog w = .ok 1 w := fun w => by kernel_rfl
  have ha : ∀ w, (isAgg 4).run Try.prog w = .ok false w := fun w => by kernel_rfl
  simp [Instr.index, asIntOf, run_underlying Try.underlying91, Result.andThen, part, hs, ha, hc.2 i hi]
  omega

/-- A load of a whole array. -/
theorem wpList_load_arr {P : Program} (w : World) {ops : Array Oper} {rest : List Oper} {o : Oper} {a : Act} {Q : Exit → Act → World → Prop}
    (hg : o.guard = none) (t : TypeId) (p : Operand) (hop : o.op = Op.load t p) (ptr v : Value) (hp : a.eval p = ptr) (hrun : (Instr.loadAt t ptr).run P w = .ok v w)
    (hK : wpList P ops Q rest (a.put o.dst v) w) : wpList P ops Q (o :: rest) a w := by
  refine wpList_plain hg fun K' hK' => ?_
  unfold Oper.wp
  simp [execOp, hop, hp, hrun, Result.andThen]
  exact hK' _ _ hK
/-- A store of a whole array. -/
theorem wpList_store_arr {P : Program} (w : World) {ops : Array Oper} {rest : List Oper} {o : Oper} {a : Act} {Q : Exit → Act → World → Prop}
    (hg : o.guard = none) (t : TypeId) (p x : Operand) (hop : o.op = Op.store t p x) (ptr v : Value) (w' : World) (hp : a.eval p = ptr) (hx : a.eval x = v) (hrun : (Instr.storeAt t ptr v).run P w = .ok () w')
    (hK : wpList P ops Q rest (a.put o.dst undef) w') : wpList P ops Q (o :: rest) a w := by
  refine wpList_plain hg fun K' hK' => ?_
  unfold Oper.wp
  simp [execOp, hop, hp, hx, hrun, Result.andThen]
  exact hK' _ _ hK
end Go.Proofs.Ytohdjlgghkcaoaa
