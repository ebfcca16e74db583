/- Words for the walks: what a call leaves as it was; regions whose callees make memory. -/
import Derived.Test.YtpplihpfjniacaaDoorProg
import Derived.WalkKit
import Derived.WalkSpells
import Derived.WalkLawsBesides
import Derived.BigQuiet
import Derived.Test.YtpplihpfjniacaaDoorTPlain2
import Derived.OwnWalk
import Derived.Deep.QuietTactic
import Derived.Laws.Cover3
namespace Go.Proofs.YtpplihpfjniacaaDoor
open Go.RowKit

theorem hide {p : Prop} (h : p) : Hid p := h

/-- Of the blocks that 'a' has none has turned in 'w' but those of S. -/
structure Chg (S : List Nat) (a w : World) : Prop where
  os : w.os = a.os
  tape : w.tape = a.tape
  output : w.output = a.output
  size : a.heap.size ≤ w.heap.size
  block : ∀ k, k < a.heap.size → k ∉ S → w.heap[k]? = a.heap[k]?

theorem Chg.refl (S : List Nat) (a : World) : Chg S a a := ⟨rfl, rfl, rfl, Nat.le_refl _, fun _ _ _ => rfl⟩
theorem Chg.trans {S : List Nat} {a b c : World} (h : Chg S a b) (k : Chg S b c) : Chg S a c :=
  ⟨k.os.trans h.os, k.tape.trans h.tape, k.output.trans h.output, Nat.le_trans h.size k.size, fun i hi hs => (k.block i (Nat.lt_of_lt_of_le hi h.size) hs).trans (h.block i hi hs)⟩
/-- As 'trans', but what turns in the second step may be new in the first. -/
theorem Chg.trans' {S T : List Nat} {a b c : World} (h : Chg S a b) (k : Chg T b c) (hT : ∀ x ∈ T, x ∈ S ∨ a.heap.size ≤ x) : Chg S a c :=
  ⟨k.os.trans h.os, k.tape.trans h.tape, k.output.trans h.output, Nat.le_trans h.size k.size, fun i hi hs =>
    (k.block i (Nat.lt_of_lt_of_le hi h.size) (fun hm => (hT i hm).elim hs (fun h' => by omega))).trans (h.block i hi hs)⟩
theorem Chg.mono {S T : List Nat} {a w : World} (h : Chg S a w) (hST : ∀ x ∈ S, x ∈ T) : Chg T a w := ⟨h.os, h.tape, h.output, h.size, fun k hk hs => h.block k hk (fun hm => hs (hST k hm))⟩
theorem Chg.toAny {T : List Nat} {a w : World} (h : Chg [] a w) : Chg T a w := h.mono (fun _ hx => by cases hx)
theorem Chg.drewN {S : List Nat} {a w : World} (h : Chg S a w) (n : Nat) : Chg S a (w.drewN n) := ⟨h.os, h.tape, h.output, h.size, h.block⟩
theorem Chg.drew {S : List Nat} {a w : World} (h : Chg S a w) : Chg S a w.drew := ⟨h.os, h.tape, h.output, h.size, h.block⟩
theorem Chg.alloc {S : List Nat} {a w : World} (h : Chg S a w) (o : Obj) : Chg S a (w.alloc o) :=
  h.trans ⟨rfl, rfl, rfl, by simp, fun k hk _ => Below.heap_alloc _ _ _ hk⟩
theorem Chg.setCell {S : List Nat} {a w : World} (h : Chg S a w) {p : Addr} (hp : p.block ∈ S ∨ a.heap.size ≤ p.block) (u : Value) : Chg S a (w.setCell p u) :=
  ⟨h.os, h.tape, h.output, by have := h.size; simpa [World.setCell] using this, fun k hk hs => (Below.heap_setCell _ _ _ _ (by
    rintro rfl
    rcases hp with hp | hp
    · exact hs hp
    · omega)).trans (h.block k hk hs)⟩
theorem Chg.grown {S : List Nat} {a w w' : World} {row : Option Nat} (h : Chg S a w) (hg : w.grownBy w' row) (hr : ∀ k, row = some k → k ∈ S ∨ a.heap.size ≤ k) : Chg S a w' :=
  ⟨hg.os.trans h.os, hg.tape.trans h.tape, hg.output.trans h.output, Nat.le_trans h.size hg.size, fun k hk hs =>
    (hg.block k (Nat.lt_of_lt_of_le hk h.size) (fun e => (hr k e.symm).elim hs (fun h' => by omega))).trans (h.block k hk hs)⟩
theorem Chg.below {a w : World} (h : Chg [] a w) : Below a.heap.size a w := ⟨h.os, h.tape, h.output, h.size, fun k hk => h.block k hk (by simp)⟩
theorem Chg.of_below {a w : World} (h : Below a.heap.size a w) : Chg [] a w := ⟨h.os, h.tape, h.output, h.size, fun k hk _ => h.block k hk⟩
theorem Chg.cell {S : List Nat} {a w : World} (h : Chg S a w) {b : Nat} (hb : b < a.heap.size) (hs : b ∉ S) (o : Nat) : w.cell? ⟨b, o, none⟩ = a.cell? ⟨b, o, none⟩ := World.cell?_of_block (h.block b hb hs)
theorem Chg.frozen {S : List Nat} {a w : World} (h : Chg S a w) {b : Nat} (hb : b < a.heap.size) (hs : b ∉ S) (o : Nat) : w.frozen? ⟨b, o, none⟩ = a.frozen? ⟨b, o, none⟩ := World.frozen?_of_block (h.block b hb hs)
/-- What the walk takes up behind a call that has turned nothing. -/
theorem Chg.reads {a w : World} (h : Chg [] a w) : (∀ b o, b < a.heap.size → w.cell? ⟨b, o, none⟩ = a.cell? ⟨b, o, none⟩) ∧ (∀ b o, b < a.heap.size → w.frozen? ⟨b, o, none⟩ = a.frozen? ⟨b, o, none⟩) :=
  ⟨fun _ o hb => h.cell hb (by simp) o, fun _ o hb => h.frozen hb (by simp) o⟩
theorem Chg.reads1 {s : Nat} {a w : World} (h : Chg [s] a w) : (∀ b o, b < a.heap.size → b ≠ s → w.cell? ⟨b, o, none⟩ = a.cell? ⟨b, o, none⟩) ∧ (∀ b o, b < a.heap.size → b ≠ s → w.frozen? ⟨b, o, none⟩ = a.frozen? ⟨b, o, none⟩) :=
  ⟨fun _ o hb hs => h.cell hb (by simpa using hs) o, fun _ o hb hs => h.frozen hb (by simpa using hs) o⟩

/-- The call hands back this, and has turned nothing. -/
def Ret (v : Value) (w : World) (e : Ending) (w' : World) : Prop := e = .returned v ∧ Chg [] w w'
theorem Ret.mk {v u : Value} {w w' : World} (h : u = v) (hc : Chg [] w w') : Ret v w (.returned u) w' := ⟨by rw [h], hc⟩

/-- The worlds that come of w by calls that turn nothing. -/
def ExtOf (w : World) : Type := { w' : World // Chg [] w w' }
instance (w : World) : Nonempty (ExtOf w) := ⟨⟨w, Chg.refl _ _⟩⟩
def ExtOf.at {w : World} (x : ExtOf w) : World := x.val
theorem ExtOf.chg {w : World} (x : ExtOf w) : Chg [] w x.at := x.property
@[go_sem] theorem ExtOf.cell {w : World} (x : ExtOf w) (b o : Nat) (h : b < w.heap.size) : x.at.cell? ⟨b, o, none⟩ = w.cell? ⟨b, o, none⟩ := x.chg.cell h (by simp) o
@[go_sem] theorem ExtOf.frozen {w : World} (x : ExtOf w) (b o : Nat) (h : b < w.heap.size) : x.at.frozen? ⟨b, o, none⟩ = w.frozen? ⟨b, o, none⟩ := x.chg.frozen h (by simp) o
@[go_sem] theorem ExtOf.all {w : World} {p : Prop} : (∀ _ : ExtOf w, p) ↔ p := ⟨fun h => h ⟨w, Chg.refl _ _⟩, fun h _ => h⟩

theorem calls_of_ret {P : Program} {f : FuncId} {args : Array Value} {v : Value} {w : World} {x : ExtOf w} (h : Calls P f args x.at (Ret v x.at)) :
    Calls P f args x.at fun e w'' => e = .returned v ∧ ∃ y : ExtOf w, w'' = y.at := h.mono fun _ w'' ⟨he, hb⟩ => ⟨he, ⟨w'', x.chg.trans hb⟩, rfl⟩

theorem wp_region_ext {P : Program} {id : Nat} {Q : Exit → Act → World → Prop} {a : Act} {w : World} {l : List Oper} (hm : P.follows .mixedOrders = true) (hB : Region.lexB .any l.toArray = true)
    (h : wpQuiet P l.toArray (fun w' => ∃ x : ExtOf w, w' = x.at) (fun a' => ∀ w', Chg [] w w' → Q .normal a' w') l a) : (Code.region id l.toArray true).wp P Q a w :=
  wp_region_quiet (C := fun w' => ∃ x : ExtOf w, w' = x.at) hm hB ⟨⟨w.drew, (Chg.refl _ _).drew⟩, rfl⟩ (by
    have hmono : ∀ (l' : List Oper) (a : Act), wpQuiet P l.toArray (fun w' => ∃ x : ExtOf w, w' = x.at) (fun a' => ∀ w', Chg [] w w' → Q .normal a' w') l' a →
        wpQuiet P l.toArray (fun w' => ∃ x : ExtOf w, w' = x.at) (fun a' => ∀ w', (∃ x : ExtOf w, w' = x.at) → Q .normal a' w') l' a := by
      intro l'
      induction l' with
      | nil => intro a h w' ⟨x, hx⟩; subst hx; exact h _ x.chg
      | cons o l' ih =>
        intro a h
        unfold wpQuiet at h ⊢
        split
        · rename_i hw; rw [if_pos hw] at h; exact Oper.quiet_mono (fun a h => ih a h) h
        · rename_i hw; rw [if_neg hw] at h; exact ih _ h
    simpa using hmono l a h)

/-! min, max without a fork -/
def imin (x y : Int) : Int := if y < x then y else x
def imax (x y : Int) : Int := if x < y then y else x
theorem run_min_2 {P : Program} (w : World) (ts : Array TypeId) (t : TypeId) (x y : Int) : (Builtin.min_ ts t #[.int .i64 x, .int .i64 y]).run P w = .ok (.int .i64 (imin x y)) w := by
  simp [Builtin.min_, Builtin.min2, imin]
theorem run_max_2 {P : Program} (w : World) (ts : Array TypeId) (t : TypeId) (x y : Int) : (Builtin.max_ ts t #[.int .i64 x, .int .i64 y]).run P w = .ok (.int .i64 (imax x y)) w := by
  simp [Builtin.max_, Builtin.max2, imax]
end Go.Proofs.YtpplihpfjniacaaDoor

/- Words for the walks: to stand still at an operation. -/
namespace Go.Proofs.YtpplihpfjniacaaDoor
open Go.RowKit

/-- The walk knows no step for this. -/
def Halt (p : Prop) : Prop := p
theorem Halt.go {p : Prop} (h : p) : Halt p := h
/-- The walk stands still where the operation writes slot d. -/
theorem halt_at (d : Nat) {P : Program} {ops : Array Oper} {Q : Exit → Act → World → Prop} {op : Op} {ty : TypeId} {pos : String} {after : Array Edge} {guard : Option (Nat × Bool)} {rest : List Oper} {a : Act} {w : World}
    (h : Halt (wpList P ops Q (⟨some d, op, ty, pos, after, guard⟩ :: rest) a w)) : wpList P ops Q (⟨some d, op, ty, pos, after, guard⟩ :: rest) a w := h
end Go.Proofs.YtpplihpfjniacaaDoor

/- Words for the walks: blocks, slices of ints, slices of slices of ints. -/
namespace Go.Proofs.YtpplihpfjniacaaDoor
open Go.RowKit

/-- A block of cells, none of them frozen. -/
def Box (w : World) (A : Nat) (cs : Array Value) (T : TypeId) : Prop := w.heap[A]? = some (.cells cs T (0, 0))
theorem Box.lt {w : World} {A : Nat} {cs : Array Value} {T : TypeId} (h : Box w A cs T) : A < w.heap.size := (Array.getElem?_eq_some_iff.1 h).1
theorem Box.keep {w w' : World} {A : Nat} {cs : Array Value} {T : TypeId} {S : List Nat} (h : Box w A cs T) (hc : Chg S w w') (hs : A ∉ S) : Box w' A cs T := (hc.block A h.lt hs).trans h
theorem Box.cell {w : World} {A : Nat} {cs : Array Value} {T : TypeId} (h : Box w A cs T) (o : Nat) : w.cell? ⟨A, o, none⟩ = cs[o]? := by
  unfold World.cell?
  rw [show w.heap[A]? = some (.cells cs T (0, 0)) from h]
  rfl
theorem Box.free {w : World} {A : Nat} {cs : Array Value} {T : TypeId} (h : Box w A cs T) (o : Nat) : w.frozen? ⟨A, o, none⟩ = false := by
  unfold World.frozen?
  rw [show w.heap[A]? = some (.cells cs T (0, 0)) from h]
  simp
theorem Box.new (w : World) (cs : Array Value) (T : TypeId) : Box (w.alloc (.cells cs T)) w.heap.size cs T := heap_alloc_new _ _
theorem Box.old {w : World} {A : Nat} {cs : Array Value} {T : TypeId} (h : Box w A cs T) (o : Obj) : Box (w.alloc o) A cs T := (Below.heap_alloc w o A h.lt).trans h

theorem Box.set {w : World} {A : Nat} {cs : Array Value} {T : TypeId} (h : Box w A cs T) (o : Nat) (v : Value) : Box (w.setCell ⟨A, o, none⟩ v) A (cs.setIfInBounds o v) T := by
  unfold Box at h ⊢
  simp only [World.setCell, Array.getElem?_modify, if_true, h, Option.map_some]
  rfl
theorem Box.set' {w : World} {A : Nat} {cs : Array Value} {T : TypeId} (h : Box w A cs T) {p : Addr} (hp : A ≠ p.block) (v : Value) : Box (w.setCell p v) A cs T := (Below.heap_setCell _ _ _ _ hp).trans h
theorem Box.set1 {w : World} {A : Nat} {v0 : Value} {T : TypeId} (h : Box w A #[v0] T) (u0 : Value) : Box (w.setCell ⟨A, 0, none⟩ u0) A #[u0] T := h.set 0 u0
theorem Box.at (w : World) (cs : Array Value) (T : TypeId) {n : Nat} (hn : n = w.heap.size) : Box (w.alloc (.cells cs T)) n cs T := by subst hn; exact Box.new _ _ _
theorem infoInt : (Tryd.prog.info? 3).map (fun i => (i.zero, i.size, i.bytes)) = some (some (.int .i64 0), 1, 8) := by kernel_rfl

/-- A slice of ints that nobody else writes. -/
def Ints (w : World) (v : Value) (xs : List Int) : Prop := w.ownsRow 0 3 1 v xs.length (xs.map (Value.int .i64))
theorem Chg.row {S : List Nat} {w w' : World} (h : Chg S w w') {base : Nat} {e : TypeId} {size : Nat} {v : Value} {n : Nat} {xs : List Value} (ho : w.ownsRow base e size v n xs) (hs : ∀ g, v.ownBlock = some g → g ∉ S) : w'.ownsRow base e size v n xs := by
  refine ⟨ho.1, ?_⟩
  rcases ho.2 with hn | ⟨g, cap, cur, rfl, hb, hg, rest⟩
  · exact .inl hn
  · refine .inr ⟨g, cap, cur, rfl, hb, ?_, rest⟩
    rw [h.block g (Array.getElem?_eq_some_iff.1 hg).1 (hs g rfl)]
    exact hg
theorem row_low {w : World} {base base' : Nat} {e : TypeId} {size : Nat} {v : Value} {n : Nat} {xs : List Value} (h : w.ownsRow base e size v n xs) (hb : base' ≤ base) : w.ownsRow base' e size v n xs := by
  refine ⟨h.1, ?_⟩
  rcases h.2 with hn | ⟨g, cap, cur, rfl, hb', rest⟩
  · exact .inl hn
  · exact .inr ⟨g, cap, cur, rfl, by omega, rest⟩
theorem Ints.keep {w w' : World} {v : Value} {xs : List Int} (h : Ints w v xs) (hc : Chg [] w w') : Ints w' v xs := hc.row h (fun _ _ => List.not_mem_nil)
theorem Ints.see {w : World} {v : Value} {xs : List Int} (h : Ints w v xs) : (v = .slice none 0 0 ∧ xs = []) ∨ ∃ g cap, v = .slice (some ⟨g, 0, none⟩) xs.length cap ∧ xs.length ≤ cap ∧ g < w.heap.size ∧ ∀ i, i < xs.length → w.cell? ⟨g, i, none⟩ = some (.int .i64 (xs.getD i 0)) := by
  rcases h.2 with ⟨rfl, hn⟩ | ⟨g, cap, cur, rfl, hb, hg, hle, hcap, hsz, ht⟩
  · exact .inl ⟨rfl, List.length_eq_zero_iff.1 hn⟩
  · refine .inr ⟨g, cap, rfl, hle, (Array.getElem?_eq_some_iff.1 hg).1, fun i hi => ?_⟩
    rw [cell_of_row w g i cur 3 (0, 0) hg]
    have e : (xs.map (Value.int .i64))[i]? = some (.int .i64 (xs.getD i 0)) := by
      rw [List.getElem?_map, List.getElem?_eq_getElem hi, List.getD_eq_getElem?_getD, List.getElem?_eq_getElem hi]
      rfl
    rw [← ht, List.getElem?_take] at e
    split at e
    · simpa using e
    · cases e
/-- What an append leaves. -/
theorem Chg.grew {w w1 w2 : World} {base : Nat} {v : Value} {e : TypeId} {size n : Nat} {xs : List Value} (h : Chg [] w w1) (ho : w1.ownsRow base e size v n xs) (hb : w.heap.size ≤ base) (hg : w1.grownBy w2 v.ownBlock) : Chg [] w w2 :=
  h.grown hg (fun k hk => .inr (Nat.le_trans hb (ho.lt k hk).1))



/-- A slice of these ints, wherever it lies. -/
def See (w : World) (v : Value) (xs : List Int) : Prop :=
  (xs = [] ∧ ∃ ao cap, v = .slice ao 0 cap) ∨ ∃ a cap, v = .slice (some a) xs.length cap ∧ xs.length ≤ cap ∧ a.block < w.heap.size ∧ ∀ i, i < xs.length → w.cell? (a.add i) = some (.int .i64 (xs.getD i 0))
theorem Chg.cellA {S : List Nat} {a w : World} (h : Chg S a w) {p : Addr} (hb : p.block < a.heap.size) (hs : p.block ∉ S) : w.cell? p = a.cell? p := World.cell?_of_block (h.block _ hb hs)
theorem add_block (a : Addr) (i : Nat) : (a.add i).block = a.block := by unfold Addr.add; split <;> rfl
theorem See.keep {w w' : World} {v : Value} {xs : List Int} (h : See w v xs) (hc : Chg [] w w') : See w' v xs := by
  rcases h with h | ⟨a, cap, e, hle, hb, hx⟩
  · exact .inl h
  · exact .inr ⟨a, cap, e, hle, Nat.lt_of_lt_of_le hb hc.size, fun i hi => (hc.cellA (by rw [add_block]; exact hb) List.not_mem_nil).trans (hx i hi)⟩
theorem add_zero_row (g i : Nat) : (⟨g, 0, none⟩ : Addr).add i = ⟨g, i, none⟩ := by unfold Addr.add; split <;> simp_all
theorem Ints.toSee {w : World} {v : Value} {xs : List Int} (h : Ints w v xs) : See w v xs := by
  rcases h.see with ⟨rfl, rfl⟩ | ⟨g, cap, e, hle, hb, hx⟩
  · exact .inl ⟨rfl, _, _, rfl⟩
  · exact .inr ⟨⟨g, 0, none⟩, cap, e, hle, hb, fun i hi => by rw [add_zero_row]; exact hx i hi⟩
theorem See.len {w : World} {v : Value} {xs : List Int} (h : See w v xs) : ∃ ao cap, v = .slice ao xs.length cap ∧ xs.length ≤ cap ∧ (xs ≠ [] → ∃ a, ao = some a ∧ a.block < w.heap.size ∧ ∀ i, i < xs.length → w.cell? (a.add i) = some (.int .i64 (xs.getD i 0))) := by
  rcases h with ⟨rfl, ao, cap, e⟩ | ⟨a, cap, e, hle, hb, hx⟩
  · exact ⟨ao, cap, e, Nat.zero_le _, fun h => absurd rfl h⟩
  · exact ⟨some a, cap, e, hle, fun _ => ⟨a, rfl, hb, hx⟩⟩

/-- So many of them are the same. -/
def sameTo (xs ys : List Int) (k : Nat) : Prop := ∀ i, i < k → xs.getD i 0 = ys.getD i 0
theorem sameTo_all {xs ys : List Int} (h : xs.length = ys.length) (hs : sameTo xs ys xs.length) : xs = ys := by
  apply List.ext_getElem h
  intro i h1 h2
  have := hs i h1
  simpa [List.getD_eq_getElem?_getD, List.getElem?_eq_getElem h1, List.getElem?_eq_getElem h2] using this
theorem sameTo_succ {xs ys : List Int} {k : Nat} (h : sameTo xs ys k) (he : xs.getD k 0 = ys.getD k 0) : sameTo xs ys (k + 1) := fun i hi => by
  rcases (show i < k ∨ i = k by omega) with h' | rfl
  · exact h i h'
  · exact he

set_option maxRecDepth 100000 in
set_option maxHeartbeats 1000000 in
theorem Equal_any (v u : Value) (xs ys : List Int) (w : World) (hv : See w v xs) (hu : See w u ys) (hl : xs.length < 1000000) :
    Calls Tryd.prog 21 #[v, u] w (Ret (.bool (decide (xs = ys))) w) := by
  obtain ⟨ao, cap, rfl, _, hA⟩ := hv.len
  obtain ⟨bo, cap', rfl, _, hB⟩ := hu.len
  by_cases he : xs.length = ys.length
  · have HA := hide hA
    have HB := hide hB
    have HE := hide he
    rw [← he]
    have d0 : ((xs.length : Int) == (xs.length : Int)) = true := by simp
    clear hA hB he hv hu
    generalize hn : xs.length = n at *
    have HN := hide hn
    clear hn
    go_enter Tryd.func21, Tryd.ntmps21
    go_wp2
    go_loopw [13] (fun i wr => ∃ k : Nat, k ≤ n ∧ i = .int .i64 (k : Int) ∧ Hid (sameTo xs ys k ∧ Chg [] w wr)) (fun i _ => (n - (intOf i).toNat))
    case atStart => exact ⟨0, Nat.zero_le _, rfl, hide ⟨fun i h => by omega, Chg.refl _ _⟩⟩
    case round =>
      obtain ⟨k, hk, rfl, hI⟩ := hrel
      by_cases hlt : k < n
      · have d1 : decide ((k : Int) < (n : Int)) = true := by simpa using hlt
        have nx : xs ≠ [] := fun h => by have := HN.out; rw [h] at this; simp at this; omega
        have ny : ys ≠ [] := fun h => by have := HE.out; rw [h] at this; simp at this; omega
        obtain ⟨a, rfl, ba, ca⟩ := HA.out nx
        obtain ⟨b, rfl, bb, cb⟩ := HB.out ny
        have fx := ((hI.out.2.cellA (by rw [add_block]; exact ba) List.not_mem_nil).trans (ca k hlt))
        have fy := ((hI.out.2.cellA (by rw [add_block]; exact bb) List.not_mem_nil).trans (cb k (by rw [← HE.out]; exact hlt)))
        have hs : sameTo xs ys (k + 1) ∨ xs.getD k 0 ≠ ys.getD k 0 := by
          by_cases h : xs.getD k 0 = ys.getD k 0
          · exact .inl (sameTo_succ hI.out.1 h)
          · exact .inr h
        have hs2 : xs.getD k 0 = ys.getD k 0 → sameTo xs ys (k + 1) := sameTo_succ hI.out.1
        have hs3 : xs.getD k 0 ≠ ys.getD k 0 → xs ≠ ys := fun h h' => h (by rw [h'])
        generalize xs.getD k 0 = x at fx hs2 hs3
        generalize ys.getD k 0 = y at fy hs2 hs3
        clear hs nx ny ba bb ca cb
        have HS2 := hide hs2
        have HS3 := hide hs3
        clear hs2 hs3
        by_cases hxy : x = y
        · have d2 : (x == y) = true := by simpa using hxy
          have HXY := hide hxy
          clear hxy
          go_wp2
          go_quiet (fail)
          go_wp2
          go_roundw
          case rel => exact ⟨k + 1, by omega, by go_num, hide ⟨HS2.out HXY.out, hI.out.2.drewN _⟩⟩
          case measure => simp [intOf]; omega
        · have d2 : (x == y) = false := by simpa using hxy
          have HXY := hide hxy
          clear hxy
          go_wp2
          go_quiet (fail)
          go_wp2
          go_ret
          exact ⟨by rw [decide_eq_false (HS3.out HXY.out)]; rfl, hI.out.2.drewN _⟩
      · have d1 : decide ((k : Int) < (n : Int)) = false := by simpa using hlt
        go_wp2
        go_ret
        obtain rfl : k = n := by omega
        exact ⟨by rw [decide_eq_true (sameTo_all (HN.out.trans HE.out) (by rw [HN.out]; exact hI.out.1))]; rfl, hI.out.2⟩
  · have d0 : ((xs.length : Int) == (ys.length : Int)) = false := by simp; omega
    have hne : xs ≠ ys := fun h => he (by rw [h])
    rw [decide_eq_false hne]
    clear hA hB hv hu he hne
    generalize xs.length = n at *
    generalize ys.length = m at *
    go_enter Tryd.func21, Tryd.ntmps21
    go_wp2
    go_ret
    exact ⟨rfl, Chg.refl _ _⟩
@[go_sem] theorem run_eql_ints_nil (w : World) (a : Option Addr) (l c : Nat) : (binOp .eql 22 (.slice a l c) (.slice none 0 0)).run Tryd.prog w = .ok (.bool a.isNone) w := by
  simp only [binOp]
  simp [run_equal_slice_nil w _ _ a l c Tryd.underlying22]

set_option maxRecDepth 100000 in
set_option maxHeartbeats 1000000 in
theorem Clone_new (v : Value) (xs : List Int) (w : World) (hv : See w v xs) (hl : xs.length ≤ 1000000) :
    Calls Tryd.prog 7 #[v] w fun e w' => ∃ v', e = .returned v' ∧ w'.ownsRow w.heap.size 3 1 v' xs.length (xs.map (Value.int .i64)) ∧ Chg [] w w' := by
  obtain ⟨i0, hi, hz0, hz1, hz2⟩ := info_parts infoInt
  obtain ⟨ao, cap, rfl, _, hA⟩ := hv.len
  have HA := hide hA
  clear hA hv
  cases ao with
  | none =>
    go_enter Tryd.func7, Tryd.ntmps7
    go_wp2
    go_ret
    have hnil : xs = [] := by
      by_cases h : xs = []
      · exact h
      · obtain ⟨a, h', _⟩ := HA.out h; cases h'
    subst hnil
    exact ⟨_, rfl, World.ownsRow_nil _ _ _ _, Chg.refl _ _⟩
  | some a =>
    have hcell : ∀ j u, (xs.map (Value.int .i64))[j]? = some u → a.block < w.heap.size ∧ w.cell? (a.add j) = some u := by
      intro j u hu
      rw [List.getElem?_map] at hu
      have hne : xs ≠ [] := by rintro rfl; simp at hu
      obtain ⟨a', e, hb, hc⟩ := HA.out hne
      cases e
      have hj : j < xs.length := by
        rcases Nat.lt_or_ge j xs.length with h | h
        · exact h
        · rw [List.getElem?_eq_none h] at hu; simp at hu
      refine ⟨hb, ?_⟩
      rw [hc j hj, List.getD_eq_getElem?_getD, List.getElem?_eq_getElem hj]
      rw [List.getElem?_eq_getElem hj] at hu
      simpa using hu
    have HC := hide hcell
    clear hcell
    generalize hn : xs.length = n at *
    have HN := hide hn
    clear hn
    go_enter Tryd.func7, Tryd.ntmps7
    go_wp2_with (at_builtin; refine wpList_append_own _ rfl _ _ 22 rfl w.heap.size 3 i0 (.int .i64 0) 1 8 Tryd.underlying22 hi hz0 hz1 hz2 rfl (by decide) _ _ _ rfl (World.ownsRow_made w #[] 0 (Nat.le_refl _) (Nat.zero_le _) rfl) a n cap (xs.map (Value.int .i64)) rfl (by rw [List.length_map, HN.out]; omega) (by intro j u hu; rw [((Chg.refl [] w).alloc _).cellA (by rw [add_block]; exact (HC.out j u hu).1) List.not_mem_nil]; exact (HC.out j u hu).2) (by intro u hu; obtain ⟨x, _, rfl⟩ := List.mem_map.1 hu; rfl) (by unfold maxLen; omega) (by omega) (by simp) ?_; intro v1 w1 hown1 hgrow1 _)
    go_ret
    refine ⟨_, rfl, ?_, ((Chg.refl [] w).alloc _).grew (World.ownsRow_made (base := w.heap.size) (e := 3) (size := 1) w #[] 0 (Nat.le_refl _) (Nat.zero_le _) rfl) (Nat.le_refl _) hgrow1⟩
    simpa using hown1
theorem Clone_any (v : Value) (xs : List Int) (w : World) (hv : See w v xs) (hl : xs.length ≤ 1000000) :
    Calls Tryd.prog 7 #[v] w fun e w' => ∃ v', e = .returned v' ∧ Ints w' v' xs ∧ Chg [] w w' :=
  (Clone_new v xs w hv hl).mono fun _ _ ⟨v', e, h, hc⟩ => ⟨v', e, row_low h (Nat.zero_le _), hc⟩

/-- A slice of slices of these ints, wherever it lies. -/
def See2 (w : World) (v : Value) (t : List (List Int)) : Prop :=
  ∃ ao cap, v = .slice ao t.length cap ∧ t.length ≤ cap ∧ (t ≠ [] → ∃ a, ao = some a ∧ a.block < w.heap.size ∧ ∀ i, i < t.length → ∃ u, w.cell? (a.add i) = some u ∧ See w u (t.getD i []))
theorem See2.keep {w w' : World} {v : Value} {t : List (List Int)} (h : See2 w v t) (hc : Chg [] w w') : See2 w' v t := by
  obtain ⟨ao, cap, e, hle, hA⟩ := h
  refine ⟨ao, cap, e, hle, fun hne => ?_⟩
  obtain ⟨a, rfl, hb, hx⟩ := hA hne
  refine ⟨a, rfl, Nat.lt_of_lt_of_le hb hc.size, fun i hi => ?_⟩
  obtain ⟨u, hu, hs⟩ := hx i hi
  exact ⟨u, (hc.cellA (by rw [add_block]; exact hb) List.not_mem_nil).trans hu, hs.keep hc⟩

theorem infoInts : (Tryd.prog.info? 22).map (fun i => (i.zero, i.size, i.bytes)) = some (some (.slice none 0 0), 1, 24) := by kernel_rfl

theorem Ints.shape {w : World} {v : Value} {xs : List Int} (h : Ints w v xs) : ∃ a n c, v = .slice a n c := by
  rcases h.see with ⟨e, _⟩ | ⟨g, cap, e, _⟩
  · exact ⟨_, _, _, e⟩
  · exact ⟨_, _, _, e⟩
/-- Rows that the call itself made, in a slice that the call itself made. -/
def Rows2 (w : World) (base : Nat) (v : Value) (t : List (List Int)) : Prop :=
  ∃ us : List Value, us.length = t.length ∧ w.ownsRow base 22 1 v t.length us ∧ ∀ i u, us[i]? = some u → Ints w u (t.getD i [])
theorem Rows2.nil (w : World) (base : Nat) : Rows2 w base (.slice none 0 0) [] := ⟨[], rfl, World.ownsRow_nil _ _ _ _, fun i u h => by simp at h⟩
theorem ints_apart {w w' : World} {base n m : Nat} {v u : Value} {us : List Value} {xs : List Int} (h : w.ownsRow base 22 m v n us) (hu : Ints w u xs) (hg : w.grownBy w' v.ownBlock) : Ints w' u xs := by
  refine World.ownsRow.kept hu hg ?_
  rcases hu.2 with ⟨rfl, _⟩ | ⟨g, cap, cur, rfl, _, hh, _⟩
  · exact .inl rfl
  · refine .inr ?_
    intro e
    rcases h.2 with ⟨rfl, _⟩ | ⟨g', cap', cur', rfl, _, hh', _⟩
    · cases e
    · simp only [Value.ownBlock, Option.some.injEq] at e
      subst e
      rw [hh] at hh'
      simp at hh'
theorem Rows2.push {w w' : World} {base : Nat} {v v' u : Value} {t : List (List Int)} {us : List Value} {xs : List Int} (hl : us.length = t.length) (ho : w.ownsRow base 22 1 v t.length us) (hr : ∀ i u, us[i]? = some u → Ints w u (t.getD i []))
    (hu : Ints w u xs) (hg : w.grownBy w' v.ownBlock) (ho' : w'.ownsRow base 22 1 v' (t.length + 1) (us ++ [u])) : Rows2 w' base v' (t ++ [xs]) := by
  refine ⟨us ++ [u], by simp [hl], by simpa using ho', fun i u' hi => ?_⟩
  rcases Nat.lt_or_ge i us.length with h | h
  · rw [List.getElem?_append_left h] at hi
    have := ints_apart ho (hr i u' hi) hg
    rw [List.getD_eq_getElem?_getD, List.getElem?_append_left (by omega), ← List.getD_eq_getElem?_getD]
    exact this
  · rw [List.getElem?_append_right h] at hi
    have hi0 : i - us.length = 0 := by
      rcases Nat.eq_zero_or_pos (i - us.length) with h' | h'
      · exact h'
      · rw [List.getElem?_eq_none (by simp; omega)] at hi; cases hi
    rw [hi0] at hi
    simp at hi
    subst hi
    have e : i = t.length := by omega
    rw [List.getD_eq_getElem?_getD, e, List.getElem?_append_right (Nat.le_refl _)]
    simpa using ints_apart ho hu hg
theorem Rows2.toSee2 {w : World} {base : Nat} {v : Value} {t : List (List Int)} (h : Rows2 w base v t) : See2 w v t := by
  obtain ⟨us, hl, ho, hr⟩ := h
  rcases ho.2 with ⟨rfl, hn⟩ | ⟨g, cap, cur, rfl, hb, hg, hle, hcap, hsz, ht⟩
  · exact ⟨none, 0, by rw [hn], by omega, fun hne => absurd (List.length_eq_zero_iff.1 hn) hne⟩
  · refine ⟨some ⟨g, 0, none⟩, cap, rfl, hle, fun _ => ⟨_, rfl, (Array.getElem?_eq_some_iff.1 hg).1, fun i hi => ?_⟩⟩
    obtain ⟨x, e⟩ : ∃ x, us[i]? = some x := ⟨_, List.getElem?_eq_getElem (by omega)⟩
    refine ⟨x, ?_, (hr i _ e).toSee⟩
    rw [add_zero_row, cell_of_row w g i cur 22 (0, 0) hg]
    rw [← ht, List.getElem?_take] at e
    split at e
    · simpa using e
    · cases e

/-- A slice of ints, opened once: its cells, in every later world. -/
theorem See.open {w : World} {v : Value} {xs : List Int} (h : See w v xs) (hne : xs ≠ []) : ∃ a cap, v = .slice (some a) xs.length cap ∧ ∀ wr, Chg [] w wr → ∀ i, i < xs.length → wr.cell? (a.add i) = some (.int .i64 (xs.getD i 0)) := by
  obtain ⟨ao, cap, e, _, hA⟩ := h.len
  obtain ⟨a, rfl, hb, hc⟩ := hA hne
  exact ⟨a, cap, e, fun wr hw i hi => (hw.cellA (by rw [add_block]; exact hb) List.not_mem_nil).trans (hc i hi)⟩
theorem See.shape {w : World} {v : Value} {xs : List Int} (h : See w v xs) : ∃ ao cap, v = .slice ao xs.length cap := by
  obtain ⟨ao, cap, e, _⟩ := h.len
  exact ⟨ao, cap, e⟩
theorem add_nought (a : Addr) : a.add 0 = a := by cases a; unfold Addr.add; split <;> simp_all
theorem getD_mem {xs : List Int} {i : Nat} (h : i < xs.length) : xs.getD i 0 ∈ xs := by
  rw [List.getD_eq_getElem?_getD, List.getElem?_eq_getElem h]; exact List.getElem_mem _

theorem imin_pick (x y : Int) : (imin x y = x ∨ imin x y = y) ∧ imin x y ≤ x ∧ imin x y ≤ y := by unfold imin; split <;> omega

theorem imax_pick (x y : Int) : (imax x y = x ∨ imax x y = y) ∧ x ≤ imax x y ∧ y ≤ imax x y := by unfold imax; split <;> omega

/-- A slice of slices, opened once: its rows, in every later world. -/
theorem See2.open {w : World} {v : Value} {t : List (List Int)} (h : See2 w v t) (hne : t ≠ []) : ∃ a cap, v = .slice (some a) t.length cap ∧ t.length ≤ cap ∧
    ∀ i, i < t.length → ∃ bo bc, ∀ wr, Chg [] w wr → wr.cell? (a.add i) = some (.slice bo (t.getD i []).length bc) ∧ See wr (.slice bo (t.getD i []).length bc) (t.getD i []) := by
  obtain ⟨ao, cap, e, hle, hA⟩ := h
  obtain ⟨a, rfl, hb, hc⟩ := hA hne
  refine ⟨a, cap, e, hle, fun i hi => ?_⟩
  obtain ⟨u, hu, hs⟩ := hc i hi
  obtain ⟨bo, bc, rfl⟩ := hs.shape
  exact ⟨bo, bc, fun wr hw => ⟨(hw.cellA (by rw [add_block]; exact hb) List.not_mem_nil).trans hu, hs.keep hw⟩⟩
theorem See2.shape {w : World} {v : Value} {t : List (List Int)} (h : See2 w v t) : ∃ ao cap, v = .slice ao t.length cap := by
  obtain ⟨ao, cap, e, _⟩ := h
  exact ⟨ao, cap, e⟩
theorem row0 {t : List (List Int)} : (t.getD 0 []).length = T.cols t := rfl

/-- A value's block is new, or none. -/
theorem Chg.set (w : World) (p : Addr) (u : Value) : Chg [p.block] w (w.setCell p u) := (Chg.refl _ _).setCell (.inl (by simp)) u
theorem row_set {w : World} {base n size : Nat} {e : TypeId} {v : Value} {xs : List Value} (h : w.ownsRow base e size v n xs) {p : Addr} (hp : p.block < base) (u : Value) : (w.setCell p u).ownsRow base e size v n xs :=
  (Chg.set w p u).row h (fun g hg => by
    have := (h.lt g hg).1
    simp
    omega)
theorem row_apart {w : World} {base base' n m : Nat} {e e' : TypeId} {size size' : Nat} {v u : Value} {xs ys : List Value} (h : w.ownsRow base e size v n xs) (h' : w.ownsRow base' e' size' u m ys) (hne : e ≠ e') : v.ownBlock = none ∨ v.ownBlock ≠ u.ownBlock := by
  rcases h.2 with ⟨rfl, _⟩ | ⟨g, cap, cur, rfl, _, hh, _⟩
  · exact .inl rfl
  · refine .inr fun e0 => ?_
    rcases h'.2 with ⟨rfl, _⟩ | ⟨g', cap', cur', rfl, _, hh', _⟩
    · cases e0
    · simp only [Value.ownBlock, Option.some.injEq] at e0
      subst e0
      rw [hh] at hh'
      simp at hh'
      exact hne hh'.2
theorem row_short {w : World} {base : Nat} {ao : Option Addr} {n cap : Nat} {xs : List Value} {x : Value} {e : TypeId} (h : w.ownsRow base e 1 (.slice ao (n + 1) cap) (n + 1) (xs ++ [x])) (hl : xs.length = n) : w.ownsRow base e 1 (.slice ao n cap) n xs := by
  refine ⟨by omega, ?_⟩
  rcases h.2 with ⟨e0, h0⟩ | ⟨g, cap', cur, e0, hb, hg, hle, hcap, hsz, ht⟩
  · omega
  · cases e0
    refine .inr ⟨g, cap, cur, rfl, hb, hg, by omega, hcap, hsz, ?_⟩
    have : (cur.toList.take ((n + 1) * 1)).take n = xs := by rw [ht, List.take_append_of_le_length (by omega), List.take_of_length_le (by omega)]
    rw [List.take_take] at this
    rw [← this]
    congr 1
    omega
theorem box_grown {w w' : World} {base n size B : Nat} {e T : TypeId} {v : Value} {xs : List Value} {cs : Array Value} (hB : Box w B cs T) (h : w.ownsRow base e size v n xs) (hg : w.grownBy w' v.ownBlock) (hlt : B < base) : Box w' B cs T :=
  (hg.block B hB.lt (fun e0 => by have := (h.lt B e0.symm).1; omega)).trans hB
theorem chg_grown {S : List Nat} {W0 w w' : World} {base n size : Nat} {e : TypeId} {v : Value} {xs : List Value} (hc : Chg S W0 w) (h : w.ownsRow base e size v n xs) (hb : W0.heap.size ≤ base) (hg : w.grownBy w' v.ownBlock) : Chg S W0 w' :=
  hc.grown hg (fun k hk => .inr (Nat.le_trans hb (h.lt k hk).1))
theorem row_shape {w : World} {base n size : Nat} {e : TypeId} {v : Value} {xs : List Value} (h : w.ownsRow base e size v n xs) : ∃ ao cap, v = .slice ao n cap ∧ n ≤ cap := by
  rcases h.2 with ⟨rfl, rfl⟩ | ⟨g, cap, cur, rfl, _, _, hle, _⟩
  · exact ⟨_, _, rfl, Nat.le_refl _⟩
  · exact ⟨_, _, rfl, hle⟩

end Go.Proofs.YtpplihpfjniacaaDoor

/- Walks: the least and greatest number of a row; a search among rows. -/
namespace Go.Proofs.YtpplihpfjniacaaDoor
open Go.RowKit

set_option maxRecDepth 100000 in
set_option maxHeartbeats 1000000 in
theorem Min_any (v : Value) (xs : List Int) (w : World) (hv : See w v xs) (hne : xs ≠ []) (hl : xs.length ≤ 1000000) :
    Calls Tryd.prog 66 #[v] w fun e w' => ∃ m, e = .returned (.int .i64 m) ∧ (m ∈ xs ∧ ∀ x ∈ xs, m ≤ x) ∧ Chg [] w w' := by
  have kmin := fun w ts t x y => @run_min_2 Tryd.prog w ts t x y
  obtain ⟨a, cap, rfl, hc⟩ := hv.open hne
  have HC := hide hc
  have h0 : 0 < xs.length := List.length_pos_iff.2 hne
  have f0 : w.cell? a = some (.int .i64 (xs.getD 0 0)) := by have := hc w (Chg.refl _ _) 0 h0; rwa [add_nought] at this
  obtain ⟨x0, hx0⟩ : ∃ x0, x0 = xs.getD 0 0 := ⟨_, rfl⟩
  rw [← hx0] at f0
  have HX0 := hide hx0
  clear hc hv hx0
  generalize hn : xs.length = n at *
  have HN := hide hn
  clear hn hne
  have d0 : decide ((n : Int) < 1) = false := by simp; omega
  go_enter Tryd.func66, Tryd.ntmps66
  go_wp2
  go_loopw [3, 4] (fun o i wr => ∃ (j : Nat) (m : Int), 1 ≤ j ∧ j ≤ n ∧ o = .int .i64 m ∧ i = .int .i64 (j : Int) ∧ Hid ((m ∈ xs ∧ ∀ q, q < j → m ≤ xs.getD q 0) ∧ Chg [] w wr)) (fun _ i _ => (n - (intOf i).toNat))
  case atStart => exact ⟨1, x0, Nat.le_refl _, h0, rfl, rfl, hide ⟨⟨by rw [HX0.out]; exact getD_mem (by rw [HN.out]; exact h0), fun q hq => by
    obtain rfl : q = 0 := by omega
    rw [HX0.out]; exact Int.le_refl _⟩, Chg.refl _ _⟩⟩
  case round =>
    obtain ⟨j, m, hj1, hj, rfl, rfl, hI⟩ := hrel
    by_cases hlt : j < n
    · have d1 : decide ((j : Int) < (n : Int)) = true := by simpa using hlt
      have fx := HC.out wr hI.out.2 j hlt
      obtain ⟨x, hxe⟩ : ∃ x, x = xs.getD j 0 := ⟨_, rfl⟩
      rw [← hxe] at fx
      have HXE := hide hxe
      have HP := hide (imin_pick m x)
      clear hxe
      go_wp2
      go_roundw
      case rel => exact ⟨j + 1, imin m x, by omega, by omega, rfl, by go_num, hide ⟨⟨by
        rcases HP.out.1 with h | h
        · rw [h]; exact hI.out.1.1
        · rw [h, HXE.out]; exact getD_mem (by rw [HN.out]; exact hlt), fun q hq => by
        rcases (show q < j ∨ q = j by omega) with h | rfl
        · exact Int.le_trans HP.out.2.1 (hI.out.1.2 q h)
        · rw [← HXE.out]; exact HP.out.2.2⟩, hI.out.2⟩⟩
      case measure => simp [intOf]; omega
    · have d1 : decide ((j : Int) < (n : Int)) = false := by simpa using hlt
      go_wp2
      go_ret
      refine ⟨m, rfl, ⟨hI.out.1.1, fun x hx => ?_⟩, hI.out.2⟩
      obtain ⟨q, hq, he⟩ := List.getElem_of_mem hx
      have := hI.out.1.2 q (by rw [HN.out] at hq; omega)
      rw [List.getD_eq_getElem?_getD, List.getElem?_eq_getElem hq] at this
      simpa [he] using this

set_option maxRecDepth 100000 in
set_option maxHeartbeats 1000000 in
theorem Max_any (v : Value) (xs : List Int) (w : World) (hv : See w v xs) (hne : xs ≠ []) (hl : xs.length ≤ 1000000) :
    Calls Tryd.prog 67 #[v] w fun e w' => ∃ m, e = .returned (.int .i64 m) ∧ (m ∈ xs ∧ ∀ x ∈ xs, x ≤ m) ∧ Chg [] w w' := by
  have kmax := fun w ts t x y => @run_max_2 Tryd.prog w ts t x y
  obtain ⟨a, cap, rfl, hc⟩ := hv.open hne
  have HC := hide hc
  have h0 : 0 < xs.length := List.length_pos_iff.2 hne
  have f0 : w.cell? a = some (.int .i64 (xs.getD 0 0)) := by have := hc w (Chg.refl _ _) 0 h0; rwa [add_nought] at this
  obtain ⟨x0, hx0⟩ : ∃ x0, x0 = xs.getD 0 0 := ⟨_, rfl⟩
  rw [← hx0] at f0
  have HX0 := hide hx0
  clear hc hv hx0
  generalize hn : xs.length = n at *
  have HN := hide hn
  clear hn hne
  have d0 : decide ((n : Int) < 1) = false := by simp; omega
  go_enter Tryd.func67, Tryd.ntmps67
  go_wp2
  go_loopw [3, 4] (fun o i wr => ∃ (j : Nat) (m : Int), 1 ≤ j ∧ j ≤ n ∧ o = .int .i64 m ∧ i = .int .i64 (j : Int) ∧ Hid ((m ∈ xs ∧ ∀ q, q < j → xs.getD q 0 ≤ m) ∧ Chg [] w wr)) (fun _ i _ => (n - (intOf i).toNat))
  case atStart => exact ⟨1, x0, Nat.le_refl _, h0, rfl, rfl, hide ⟨⟨by rw [HX0.out]; exact getD_mem (by rw [HN.out]; exact h0), fun q hq => by
    obtain rfl : q = 0 := by omega
    rw [HX0.out]; exact Int.le_refl _⟩, Chg.refl _ _⟩⟩
  case round =>
    obtain ⟨j, m, hj1, hj, rfl, rfl, hI⟩ := hrel
    by_cases hlt : j < n
    · have d1 : decide ((j : Int) < (n : Int)) = true := by simpa using hlt
      have fx := HC.out wr hI.out.2 j hlt
      obtain ⟨x, hxe⟩ : ∃ x, x = xs.getD j 0 := ⟨_, rfl⟩
      rw [← hxe] at fx
      have HXE := hide hxe
      have HP := hide (imax_pick m x)
      clear hxe
      go_wp2
      go_roundw
      case rel => exact ⟨j + 1, imax m x, by omega, by omega, rfl, by go_num, hide ⟨⟨by
        rcases HP.out.1 with h | h
        · rw [h]; exact hI.out.1.1
        · rw [h, HXE.out]; exact getD_mem (by rw [HN.out]; exact hlt), fun q hq => by
        rcases (show q < j ∨ q = j by omega) with h | rfl
        · exact Int.le_trans (hI.out.1.2 q h) HP.out.2.1
        · rw [← HXE.out]; exact HP.out.2.2⟩, hI.out.2⟩⟩
      case measure => simp [intOf]; omega
    · have d1 : decide ((j : Int) < (n : Int)) = false := by simpa using hlt
      go_wp2
      go_ret
      refine ⟨m, rfl, ⟨hI.out.1.1, fun x hx => ?_⟩, hI.out.2⟩
      obtain ⟨q, hq, he⟩ := List.getElem_of_mem hx
      have := hI.out.1.2 q (by rw [HN.out] at hq; omega)
      rw [List.getD_eq_getElem?_getD, List.getElem?_eq_getElem hq] at this
      simpa [he] using this
set_option maxRecDepth 100000 in
set_option maxHeartbeats 1000000 in
theorem Index_tab (F : FuncId) (cp : Array Value) (P : List Int → Bool) (v : Value) (t : List (List Int)) (w : World) (hv : See2 w v t) (hl : t.length ≤ 1000000)
    (hcall : ∀ args W, (callFunc F args).run Tryd.prog W = .ok (.enter F args) W) (hF : ∀ u r ws, r ∈ t → Chg [] w ws → See ws u r → Calls Tryd.prog F (#[u] ++ cp) ws (Ret (.bool (P r)) ws)) :
    Calls Tryd.prog 95 #[v, .func (.func F) #[] cp] w fun e w' => ∃ r : Int, e = .returned (.int .i64 r) ∧ decide (0 ≤ r) = t.any P ∧ Chg [] w w' := by
  obtain ⟨ao, cap, rfl⟩ := hv.shape
  have HV := hide hv
  have HF := hide hF
  clear hv hF
  generalize hn : t.length = n at *
  have HN := hide hn
  clear hn
  go_enter Tryd.func95, Tryd.ntmps95
  go_wp2
  go_loopw [8] (fun i wr => ∃ j : Nat, j ≤ n ∧ i = .int .i64 (j : Int) ∧ Hid ((∀ q, q < j → P (t.getD q []) = false) ∧ Chg [] w wr)) (fun i _ => (n - (intOf i).toNat))
  case atStart => exact ⟨0, Nat.zero_le _, rfl, hide ⟨fun q h => by omega, Chg.refl _ _⟩⟩
  case round =>
    obtain ⟨j, hj, rfl, hI⟩ := hrel
    by_cases hlt : j < n
    · have d1 : decide ((j : Int) < (n : Int)) = true := by simpa using hlt
      have nx : t ≠ [] := fun h => by have := HN.out; rw [h] at this; simp at this; omega
      obtain ⟨a, cap', e, _, hc⟩ := HV.out.open nx
      cases e
      obtain ⟨bo, bc, hrow⟩ := hc j (by rw [HN.out]; exact hlt)
      obtain ⟨fx, hs⟩ := hrow wr hI.out.2
      have HMem : Hid (t.getD j [] ∈ t) := hide (T.row_mem (by rw [HN.out]; exact hlt))
      have HC := hide (HF.out _ _ wr HMem.out hI.out.2 hs)
      obtain ⟨x, hxe⟩ : ∃ x, x = t.getD j [] := ⟨_, rfl⟩
      rw [← hxe] at fx HC HMem
      have HXE := hide hxe
      clear nx hc hxe hrow hs
      go_wp2_with fail
      refine HC.out.mono ?_
      rintro e w1 ⟨rfl, hw1⟩
      cases hp : P x with
      | true =>
        have HP := hide hp
        clear hp
        go_wp2
        go_ret
        refine ⟨_, rfl, ?_, hI.out.2.trans hw1⟩
        have : t.any P = true := List.any_eq_true.2 ⟨x, HMem.out, HP.out⟩
        rw [this]
        simp
      | false =>
        have HP := hide hp
        clear hp
        go_wp2
        go_roundw
        case rel => exact ⟨j + 1, by omega, by go_num, hide ⟨fun q hq => by
          rcases (show q < j ∨ q = j by omega) with h | rfl
          · exact hI.out.1 q h
          · rw [← HXE.out]; exact HP.out, hI.out.2.trans hw1⟩⟩
        case measure => simp [intOf]; omega
    · have d1 : decide ((j : Int) < (n : Int)) = false := by simpa using hlt
      go_wp2
      go_ret
      refine ⟨_, rfl, ?_, hI.out.2⟩
      have : t.any P = false := by
        rw [Bool.eq_false_iff]
        intro h
        obtain ⟨x, hx, hp⟩ := List.any_eq_true.1 h
        obtain ⟨q, hq, he⟩ := List.getElem_of_mem hx
        have := hI.out.1 q (by rw [HN.out] at hq; omega)
        rw [List.getD_eq_getElem?_getD, List.getElem?_eq_getElem hq] at this
        simp only [Option.getD_some, he, hp] at this
        cases this
      rw [this]
      decide

set_option maxRecDepth 100000 in
set_option maxHeartbeats 1000000 in
theorem Contains_tab (F : FuncId) (cp : Array Value) (P : List Int → Bool) (v : Value) (t : List (List Int)) (w : World) (hv : See2 w v t) (hl : t.length ≤ 1000000)
    (hcall : ∀ args W, (callFunc F args).run Tryd.prog W = .ok (.enter F args) W) (hF : ∀ u r ws, r ∈ t → Chg [] w ws → See ws u r → Calls Tryd.prog F (#[u] ++ cp) ws (Ret (.bool (P r)) ws)) :
    Calls Tryd.prog 64 #[v, .func (.func F) #[] cp] w (Ret (.bool (t.any P)) w) := by
  have HI := hide (Index_tab F cp P v t w hv hl hcall hF)
  clear hF hv hcall
  go_enter Tryd.func64, Tryd.ntmps64
  go_wp2_with fail
  refine HI.out.mono ?_
  rintro e w1 ⟨r, rfl, hr, hc⟩
  have HR := hide hr
  clear hr
  go_wp2
  go_ret
  exact ⟨by rw [← HR.out]; rfl, hc⟩
end Go.Proofs.YtpplihpfjniacaaDoor

/- Walk: what is a table. -/
namespace Go.Proofs.YtpplihpfjniacaaDoor
open Go.RowKit

theorem callV (args : Array Value) (W : World) : (callFunc 65 args).run Tryd.prog W = .ok (.enter 65 args) W := by kernel_rfl

set_option maxRecDepth 100000 in
set_option maxHeartbeats 1000000 in
theorem badV (u : Value) (r : List Int) (B : Nat) (v : Value) (t : List (List Int)) (w : World) (hu : See w u r) (hl : r.length ≤ 1000000) (hB : w.cell? ⟨B, 0, none⟩ = some v) (hv : See2 w v t) (hne : t ≠ []) (h1 : 1 ≤ T.cols t) (h4 : T.cols t ≤ 4) :
    Calls Tryd.prog 65 #[u, .pointer (some ⟨B, 0, none⟩)] w (Ret (.bool (!T.rowOk (T.cols t) r)) w) := by
  obtain ⟨ao, cap, rfl⟩ := hu.shape
  obtain ⟨a, cap', rfl, _, hc⟩ := hv.open hne
  obtain ⟨bo, bc, h0⟩ := hc 0 (List.length_pos_iff.2 hne)
  have f0 := (h0 w (Chg.refl _ _)).1
  rw [add_nought, row0] at f0
  have qb : w.cell? ⟨B, 0, none⟩ = some (.slice (some a) t.length cap') := hB
  have HU := hide hu
  have hpos : 0 < t.length := List.length_pos_iff.2 hne
  clear hc h0 hv hu hB hne
  generalize t.length = tl at *
  obtain ⟨c, hce⟩ : ∃ c, c = T.cols t := ⟨_, rfl⟩
  rw [← hce] at f0 h1 h4 ⊢
  clear hce
  by_cases he : r.length = c
  · have hr : r ≠ [] := by rintro rfl; simp at he; omega
    have HMin := hide fun ws (hw : Chg [] w ws) => Min_any _ r ws (HU.out.keep hw) hr hl
    have HMax := hide fun ws (hw : Chg [] w ws) => Max_any _ r ws (HU.out.keep hw) hr hl
    rw [he] at HMin HMax
    have HE := hide he
    rw [he]
    clear hr he hl
    have d0 : ((c : Int) == (c : Int)) = true := by simp
    go_enter Tryd.func65, Tryd.ntmps65
    go_wp2_with fail
    refine (HMin.out _ (Chg.refl _ _)).mono ?_
    rintro e w1 ⟨m, rfl, hm, hw1⟩
    have HM := hide hm
    clear hm
    by_cases hm1 : m < 0
    · have d1 : decide (m < 0) = true := by simpa using hm1
      have E : Hid (T.rowOk c r = false) := hide (by
        rw [Bool.eq_false_iff]
        intro h
        have := (T.rowOk_iff.1 h).2 m HM.out.1
        omega)
      go_wp2
      go_ret
      exact ⟨by rw [E.out]; rfl, hw1⟩
    · have d1 : decide (m < 0) = false := by simpa using hm1
      go_wp2_with fail
      refine (HMax.out _ hw1).mono ?_
      rintro e w2 ⟨M, rfl, hM, hw2⟩
      have HM2 := hide hM
      clear hM
      by_cases hM1 : 1 < M
      · have d2 : decide (1 < M) = true := by simpa using hM1
        have E : Hid (T.rowOk c r = false) := hide (by
          rw [Bool.eq_false_iff]
          intro h
          have := (T.rowOk_iff.1 h).2 M HM2.out.1
          omega)
        go_wp2
        go_ret
        exact ⟨by rw [E.out]; rfl, hw1.trans hw2⟩
      · have d2 : decide (1 < M) = false := by simpa using hM1
        have E : Hid (T.rowOk c r = true) := hide (T.rowOk_iff.2 ⟨HE.out, fun x hx => by
          have := HM.out.2 x hx
          have := HM2.out.2 x hx
          omega⟩)
        go_wp2
        go_ret
        exact ⟨by rw [E.out]; rfl, hw1.trans hw2⟩
  · have E : Hid (T.rowOk c r = false) := hide (by
      rw [Bool.eq_false_iff]
      intro h
      exact he (T.rowOk_iff.1 h).1)
    have d0 : ((r.length : Int) == (c : Int)) = false := by simp; omega
    go_enter Tryd.func65, Tryd.ntmps65
    go_wp2
    go_ret
    exact ⟨by rw [E.out]; rfl, Chg.refl _ _⟩

set_option maxRecDepth 100000 in
set_option maxHeartbeats 1000000 in
theorem valid_any (v : Value) (t : List (List Int)) (w : World) (hv : See2 w v t) (hl : ∀ r ∈ t, r.length ≤ 1000000) (ht : t.length ≤ 1000000) :
    Calls Tryd.prog 31 #[v] w (Ret (.bool (T.isTab t)) w) := by
  obtain ⟨ao, cap, rfl⟩ := hv.shape
  by_cases h1 : t.length < 1
  · rw [T.isTab_false (by omega)]
    have d1 : decide ((t.length : Int) < 1) = true := by simp; omega
    clear hv hl
    generalize t.length = n at *
    go_enter Tryd.func31, Tryd.ntmps31
    go_wp2
    go_ret
    exact ⟨rfl, (Chg.refl _ _).alloc _⟩
  · have d1 : decide ((t.length : Int) < 1) = false := by simp; omega
    by_cases h2 : 4 < t.length
    · rw [T.isTab_false (by omega)]
      have d2 : decide ((4 : Int) < (t.length : Int)) = true := by simp; omega
      clear hv hl
      generalize t.length = n at *
      go_enter Tryd.func31, Tryd.ntmps31
      go_wp2
      go_ret
      exact ⟨rfl, (Chg.refl _ _).alloc _⟩
    · have d2 : decide ((4 : Int) < (t.length : Int)) = false := by simp; omega
      have hne : t ≠ [] := by rintro rfl; simp at h1
      obtain ⟨a, cap', e, _, hc⟩ := hv.open hne
      cases e
      obtain ⟨bo, bc, h0⟩ := hc 0 (by omega)
      have f0 := (h0 _ ((Chg.refl [] w).alloc (.cells #[.slice (some a) t.length cap] 61))).1
      rw [add_nought, row0] at f0
      by_cases h3 : T.cols t < 1
      · rw [T.isTab_false (by omega)]
        have d3 : decide ((T.cols t : Int) < 1) = true := by simp; omega
        clear hv hl hc h0 hne
        generalize T.cols t = c at *
        generalize t.length = n at *
        go_enter Tryd.func31, Tryd.ntmps31
        go_wp2
        go_ret
        exact ⟨rfl, (Chg.refl _ _).alloc _⟩
      · have d3 : decide ((T.cols t : Int) < 1) = false := by simp; omega
        by_cases h4 : 4 < T.cols t
        · rw [T.isTab_false (by omega)]
          have d4 : decide ((4 : Int) < (T.cols t : Int)) = true := by simp; omega
          clear hv hl hc h0 hne
          generalize T.cols t = c at *
          generalize t.length = n at *
          go_enter Tryd.func31, Tryd.ntmps31
          go_wp2
          go_ret
          exact ⟨rfl, (Chg.refl _ _).alloc _⟩
        · have d4 : decide ((4 : Int) < (T.cols t : Int)) = false := by simp; omega
          have hca : Chg [] w (w.alloc (.cells #[.slice (some a) t.length cap] 61)) := (Chg.refl _ _).alloc _
          have bx := Box.new w #[.slice (some a) t.length cap] 61
          have hC := Contains_tab 65 #[.pointer (some ⟨w.heap.size, 0, none⟩)] (fun r => !T.rowOk (T.cols t) r) _ t _ (hv.keep hca) ht callV
            (fun u r ws hr hw hu => badV u r w.heap.size _ t ws hu (hl r hr) (by have := (bx.keep hw (by simp)).cell 0; simpa using this) ((hv.keep hca).keep hw) hne (by omega) (by omega))
          have E : t.any (fun r => !T.rowOk (T.cols t) r) = !T.isTab t := by
            rw [List.any_eq_not_all_not]
            simp only [Bool.not_not]
            congr 1
            unfold T.isTab
            rw [decide_eq_true (by omega)]
            simp
          rw [E] at hC
          have HC := hide hC
          clear hv hl hc h0 hne hC E bx hca
          generalize T.isTab t = b at *
          generalize T.cols t = c at *
          generalize t.length = n at *
          go_enter Tryd.func31, Tryd.ntmps31
          go_wp2_with fail
          refine HC.out.mono ?_
          rintro e w1 ⟨rfl, hw1⟩
          go_wp2
          go_ret
          exact ⟨by simp, ((Chg.refl _ _).alloc _).trans hw1⟩

end Go.Proofs.YtpplihpfjniacaaDoor
