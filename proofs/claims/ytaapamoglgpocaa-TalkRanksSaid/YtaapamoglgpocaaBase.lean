/- Words for the walks: what a call leaves as it was; regions whose callees make memory. -/
import Derived.Test.YtaapamoglgpocaaProg
import Derived.WalkKit
import Derived.WalkSpells
import Derived.WalkLawsBesides
import Derived.BigQuiet
namespace Go.Proofs.Ytaapamoglgpocaa
open Go.RowKit

theorem hide {p : Prop} (h : p) : Hid p := h

/-- Of the blocks that 'a' has none has turned in 'w' but those of S. -/
structure Chg (S : List Nat) (a w : World) : Prop where
  os : w.os = a.os
  tape : w.tape = a.tape
  output : w.output = a.output
  size : a.heap.size ≤ w.heap.size
  block : ∀ k, k < a.heap.size → k ∉ S → w.heap[k]? = a.heap[k]?

theorem Chg.refl (S : List Nat) (a : World) : Chg S a a := ⟨rfl, rfl, rfl, Nat.le_refl _, fun _ _ _ => rfl⟩
theorem Chg.trans {S : List Nat} {a b c : World} (h : Chg S a b) (k : Chg S b c) : Chg S a c :=
  ⟨k.os.trans h.os, k.tape.trans h.tape, k.output.trans h.output, Nat.le_trans h.size k.size, fun i hi hs => (k.block i (Nat.lt_of_lt_of_le hi h.size) hs).trans (h.block i hi hs)⟩
/-- As 'trans', but what turns in the second step may be new in the first. -/
theorem Chg.trans' {S T : List Nat} {a b c : World} (h : Chg S a b) (k : Chg T b c) (hT : ∀ x ∈ T, x ∈ S ∨ a.heap.size ≤ x) : Chg S a c :=
  ⟨k.os.trans h.os, k.tape.trans h.tape, k.output.trans h.output, Nat.le_trans h.size k.size, fun i hi hs =>
    (k.block i (Nat.lt_of_lt_of_le hi h.size) (fun hm => (hT i hm).elim hs (fun h' => by omega))).trans (h.block i hi hs)⟩
theorem Chg.mono {S T : List Nat} {a w : World} (h : Chg S a w) (hST : ∀ x ∈ S, x ∈ T) : Chg T a w := ⟨h.os, h.tape, h.output, h.size, fun k hk hs => h.block k hk (fun hm => hs (hST k hm))⟩
theorem Chg.toAny {T : List Nat} {a w : World} (h : Chg [] a w) : Chg T a w := h.mono (fun _ hx => by cases hx)
theorem Chg.drewN {S : List Nat} {a w : World} (h : Chg S a w) (n : Nat) : Chg S a (w.drewN n) := ⟨h.os, h.tape, h.output, h.size, h.block⟩
theorem Chg.drew {S : List Nat} {a w : World} (h : Chg S a w) : Chg S a w.drew := ⟨h.os, h.tape, h.output, h.size, h.block⟩
theorem Chg.alloc {S : List Nat} {a w : World} (h : Chg S a w) (o : Obj) : Chg S a (w.alloc o) :=
  h.trans ⟨rfl, rfl, rfl, by simp, fun k hk _ => Below.heap_alloc _ _ _ hk⟩
theorem Chg.setCell {S : List Nat} {a w : World} (h : Chg S a w) {p : Addr} (hp : p.block ∈ S ∨ a.heap.size ≤ p.block) (u : Value) : Chg S a (w.setCell p u) :=
  ⟨h.os, h.tape, h.output, by have := h.size; simpa [World.setCell] using this, fun k hk hs => (Below.heap_setCell _ _ _ _ (by
    rintro rfl
    rcases hp with hp | hp
    · exact hs hp
    · omega)).trans (h.block k hk hs)⟩
theorem Chg.grown {S : List Nat} {a w w' : World} {row : Option Nat} (h : Chg S a w) (hg : w.grownBy w' row) (hr : ∀ k, row = some k → k ∈ S ∨ a.heap.size ≤ k) : Chg S a w' :=
  ⟨hg.os.trans h.os, hg.tape.trans h.tape, hg.output.trans h.output, Nat.le_trans h.size hg.size, fun k hk hs =>
    (hg.block k (Nat.lt_of_lt_of_le hk h.size) (fun e => (hr k e.symm).elim hs (fun h' => by omega))).trans (h.block k hk hs)⟩
theorem Chg.below {a w : World} (h : Chg [] a w) : Below a.heap.size a w := ⟨h.os, h.tape, h.output, h.size, fun k hk => h.block k hk (by simp)⟩
theorem Chg.of_below {a w : World} (h : Below a.heap.size a w) : Chg [] a w := ⟨h.os, h.tape, h.output, h.size, fun k hk _ => h.block k hk⟩
theorem Chg.cell {S : List Nat} {a w : World} (h : Chg S a w) {b : Nat} (hb : b < a.heap.size) (hs : b ∉ S) (o : Nat) : w.cell? ⟨b, o, none⟩ = a.cell? ⟨b, o, none⟩ := World.cell?_of_block (h.block b hb hs)
theorem Chg.frozen {S : List Nat} {a w : World} (h : Chg S a w) {b : Nat} (hb : b < a.heap.size) (hs : b ∉ S) (o : Nat) : w.frozen? ⟨b, o, none⟩ = a.frozen? ⟨b, o, none⟩ := World.frozen?_of_block (h.block b hb hs)
/-- What the walk takes up behind a call that has turned nothing. -/
theorem Chg.reads {a w : World} (h : Chg [] a w) : (∀ b o, b < a.heap.size → w.cell? ⟨b, o, none⟩ = a.cell? ⟨b, o, none⟩) ∧ (∀ b o, b < a.heap.size → w.frozen? ⟨b, o, none⟩ = a.frozen? ⟨b, o, none⟩) :=
  ⟨fun _ o hb => h.cell hb (by simp) o, fun _ o hb => h.frozen hb (by simp) o⟩
theorem Chg.reads1 {s : Nat} {a w : World} (h : Chg [s] a w) : (∀ b o, b < a.heap.size → b ≠ s → w.cell? ⟨b, o, none⟩ = a.cell? ⟨b, o, none⟩) ∧ (∀ b o, b < a.heap.size → b ≠ s → w.frozen? ⟨b, o, none⟩ = a.frozen? ⟨b, o, none⟩) :=
  ⟨fun _ o hb hs => h.cell hb (by simpa using hs) o, fun _ o hb hs => h.frozen hb (by simpa using hs) o⟩

/-- The call hands back this, and has turned nothing. -/
def Ret (v : Value) (w : World) (e : Ending) (w' : World) : Prop := e = .returned v ∧ Chg [] w w'
theorem Ret.mk {v u : Value} {w w' : World} (h : u = v) (hc : Chg [] w w') : Ret v w (.returned u) w' := ⟨by rw [h], hc⟩

/-- The worlds that come of w by calls that turn nothing. -/
def ExtOf (w : World) : Type := { w' : World // Chg [] w w' }
instance (w : World) : Nonempty (ExtOf w) := ⟨⟨w, Chg.refl _ _⟩⟩
def ExtOf.at {w : World} (x : ExtOf w) : World := x.val
theorem ExtOf.chg {w : World} (x : ExtOf w) : Chg [] w x.at := x.property
@[go_sem] theorem ExtOf.cell {w : World} (x : ExtOf w) (b o : Nat) (h : b < w.heap.size) : x.at.cell? ⟨b, o, none⟩ = w.cell? ⟨b, o, none⟩ := x.chg.cell h (by simp) o
@[go_sem] theorem ExtOf.frozen {w : World} (x : ExtOf w) (b o : Nat) (h : b < w.heap.size) : x.at.frozen? ⟨b, o, none⟩ = w.frozen? ⟨b, o, none⟩ := x.chg.frozen h (by simp) o
@[go_sem] theorem ExtOf.all {w : World} {p : Prop} : (∀ _ : ExtOf w, p) ↔ p := ⟨fun h => h ⟨w, Chg.refl _ _⟩, fun h _ => h⟩

theorem calls_of_ret {P : Program} {f : FuncId} {args : Array Value} {v : Value} {w : World} {x : ExtOf w} (h : Calls P f args x.at (Ret v x.at)) :
    Calls P f args x.at fun e w'' => e = .returned v ∧ ∃ y : ExtOf w, w'' = y.at := h.mono fun _ w'' ⟨he, hb⟩ => ⟨he, ⟨w'', x.chg.trans hb⟩, rfl⟩

theorem wp_region_ext {P : Program} {id : Nat} {Q : Exit → Act → World → Prop} {a : Act} {w : World} {l : List Oper} (hm : P.follows .mixedOrders = true) (hB : Region.lexB .any l.toArray = true)
    (h : wpQuiet P l.toArray (fun w' => ∃ x : ExtOf w, w' = x.at) (fun a' => ∀ w', Chg [] w w' → Q .normal a' w') l a) : (Code.region id l.toArray true).wp P Q a w :=
  wp_region_quiet (C := fun w' => ∃ x : ExtOf w, w' = x.at) hm hB ⟨⟨w.drew, (Chg.refl _ _).drew⟩, rfl⟩ (by
    have hmono : ∀ (l' : List Oper) (a : Act), wpQuiet P l.toArray (fun w' => ∃ x : ExtOf w, w' = x.at) (fun a' => ∀ w', Chg [] w w' → Q .normal a' w') l' a →
        wpQuiet P l.toArray (fun w' => ∃ x : ExtOf w, w' = x.at) (fun a' => ∀ w', (∃ x : ExtOf w, w' = x.at) → Q .normal a' w') l' a := by
      intro l'
      induction l' with
      | nil => intro a h w' ⟨x, hx⟩; subst hx; exact h _ x.chg
      | cons o l' ih =>
        intro a h
        unfold wpQuiet at h ⊢
        split
        · rename_i hw; rw [if_pos hw] at h; exact Oper.quiet_mono (fun a h => ih a h) h
        · rename_i hw; rw [if_neg hw] at h; exact ih _ h
    simpa using hmono l a h)

/-! min, max without a fork -/
def imin (x y : Int) : Int := if y < x then y else x
def imax (x y : Int) : Int := if x < y then y else x
theorem run_min_2 {P : Program} (w : World) (ts : Array TypeId) (t : TypeId) (x y : Int) : (Builtin.min_ ts t #[.int .i64 x, .int .i64 y]).run P w = .ok (.int .i64 (imin x y)) w := by
  simp [Builtin.min_, Builtin.min2, imin]
theorem run_max_2 {P : Program} (w : World) (ts : Array TypeId) (t : TypeId) (x y : Int) : (Builtin.max_ ts t #[.int .i64 x, .int .i64 y]).run P w = .ok (.int .i64 (imax x y)) w := by
  simp [Builtin.max_, Builtin.max2, imax]
end Go.Proofs.Ytaapamoglgpocaa
