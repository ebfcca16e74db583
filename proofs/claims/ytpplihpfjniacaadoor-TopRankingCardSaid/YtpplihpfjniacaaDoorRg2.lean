/- The elements of a set as a function to range over: the iterator's contract, and the laws of a loop over it. -/
import Derived.Test.YtpplihpfjniacaaDoorRg1
import Derived.Test.YtpplihpfjniacaaDoorEv2
import Derived.RangeFuncNested
import Derived.RangeFuncBound
import Derived.RangeFuncCalls
import Derived.RangeFuncLeaves
import Derived.Shelf.Abstract
import Derived.Shelf.RegionOpen
import Derived.WalkKit
import Derived.OwnWalkIn
import Derived.TacticsInMore
import Derived.LoopNIn
import Derived.LoopIn
import Derived.StillTailTactics
import Derived.OrdersIn
import Derived.TacticsIn
namespace Go.Proofs.YtpplihpfjniacaaDoor
open Go.RowKit Go.Shelf
attribute [local go_sem] Oper.semAt_some

set_option maxRecDepth 100000 in
theorem tz_core2 (x k idx : Nat) (w : World) (hx0 : ((x : Int) == 0) = false)
    (key : IntKind.u64.wrap (bits BinOp.and IntKind.u64 (x : Int) (IntKind.u64.wrap (-(x : Int))) * 285870213051353865) / 288230376151711744 = (idx : Int))
    (hi : idx < 64) (hk : k < 64) (hcell : w.cell? ⟨0, idx, none⟩ = some (.int .u8 k)) :
    Calls Tryd.prog 93 #[.int .u64 x] w fun e w' => e = .returned (.int .i64 k) ∧ w' = w := by
  have hwk : wrap64 (k : Int) = (k : Int) := by unfold wrap64; omega
  go_enter Tryd.func93, Tryd.ntmps93
  go_wp2_with (simp only [key])
  go_ret
  exact ⟨rfl, rfl⟩
theorem tz_any2 (x : Nat) (w : World) (h0 : x ≠ 0) (hx : x < 18446744073709551616) (hT : Tz w) :
    Calls Tryd.prog 93 #[.int .u64 x] w fun e w' => e = .returned (.int .i64 (Lib.ctz 64 x)) ∧ w' = w := by
  obtain ⟨hlow, hk⟩ := Lib.lowest_bit 64 x h0 hx
  obtain ⟨hi, htab⟩ := Lib.deBruijn64_at _ hk
  have hcell := hT _ hi
  rw [htab] at hcell
  exact tz_core2 x _ _ w (by simp; omega) (tz64_key x _ hx h0 hlow) hi hk hcell
set_option maxRecDepth 100000 in
theorem tzz_any (x : Nat) (w : World) (h0 : x ≠ 0) (hx : x < 18446744073709551616) (hT : Tz w) :
    Calls Tryd.prog 98 #[.int .u64 x] w fun e w' => e = .returned (.int .i64 (Lib.ctz 64 x)) ∧ w' = w := by
  have H := hide (tz_any2 x w h0 hx hT)
  clear h0 hx hT
  generalize Lib.ctz 64 x = k at *
  go_enter Tryd.func98, Tryd.ntmps98
  go_wp2_with fail
  refine H.out.mono ?_
  rintro e w2 ⟨rfl, rfl⟩
  go_wp2
  go_ret
  exact ⟨rfl, rfl⟩

/-- A box of an int. -/
def BoxI (w : World) (B x : Nat) : Prop := Boxed w B 3 (.int .i64 (x : Int))
/-- What such an iterator does, at its box B: whatever it calls for the lowest element keeps the box and the table. -/
def BitsK (n gf B : Nat) : Prop :=
  ∀ (l X : Nat) (J Jx : Nat → World → Prop) (W : World), X < 65536 → BoxI W B X → Tz W → (∀ Y W u, J Y W → J Y (W.setCell ⟨B, 0, none⟩ u)) →
    (∀ Y W1, Y ≠ 0 → Y < 65536 → J Y W1 → BoxI W1 B Y → Tz W1 → YieldAt Fence.wide (n - 1) Tryd.prog l #[.int .i64 (Lib.ctz 64 Y)] W1 fun e W' =>
      (e = .returned (.bool true) ∧ J (Y &&& (Y - 1)) W' ∧ BoxI W' B Y ∧ Tz W') ∨ (e = .returned (.bool false) ∧ Jx Y W')) →
    J X W → CallsIn Fence.wide n Tryd.prog gf #[.func (.yield l) #[] #[], .pointer (some ⟨B, 0, none⟩)] W fun e W' => (∃ v, e = .returned v) ∧ ((J 0 W' ∧ Tz W') ∨ ∃ Y, Y ≠ 0 ∧ Jx Y W')
def boxN (B : Nat) (w : World) : Nat := match w.cell? ⟨B, 0, none⟩ with
  | some (.int _ x) => x.toNat
  | _ => 0
theorem boxN_eq {w : World} {B x : Nat} (h : BoxI w B x) : boxN B w = x := by
  unfold boxN
  rw [h.cell]
  simp
theorem Tz.setBox {w : World} {B x : Nat} (h : Tz w) (hb : BoxI w B x) (u : Value) : Tz (w.setCell ⟨B, 0, none⟩ u) := fun j hj => by
  have h1 := h j hj
  by_cases e : B = 0
  · subst e
    by_cases hj0 : j = 0
    · subst hj0
      rw [hb.cell] at h1
      exact absurd h1 (by simp [Lib.deBruijn64tab])
    · have : (w.cell? ⟨0, j, none⟩) = none := by
        have hh : w.heap[0]? = _ := hb
        simp [World.cell?, hh, hj0]
      rw [this] at h1
      cases h1
  · rw [← h1]
    exact World.cell?_of_block (Below.heap_setCell _ _ _ _ (fun e' => e e'.symm))

set_option maxRecDepth 100000 in
set_option maxHeartbeats 2000000 in
theorem elems_in (n B : Nat) (hn : 1 ≤ n) : BitsK n 97 B := by
  intro l X J Jx W hX hB hT hJB hY h0
  have HJB := hide hJB
  have HTz := hide fun x ws (h0 : x ≠ 0) (hx : x < 65536) (h : Tz ws) => tzz_any x ws h0 (by omega) h
  have HY := hide hY
  refine callsIn_of_wp Tryd.func97 rfl trivial ?_ rfl
  simp only [Tryd.ntmps97, List.size_toArray, List.length_cons, List.length_nil, Nat.reduceAdd, Nat.reduceSub, Array.replicate_succ, Array.replicate_zero, List.push_toArray, List.append_toArray, List.nil_append, List.cons_append]
  have HB0 := hide (And.intro hB (And.intro hT h0))
  clear hB hT h0 hJB hY
  gi_wp2
  gi_loopw [3] (fun _ wr => ∃ Y : Nat, Y < 65536 ∧ Hid (BoxI wr B Y ∧ Tz wr ∧ J Y wr)) (fun _ wr => boxN B wr)
  case atStart => exact ⟨X, hX, HB0⟩
  case round =>
    obtain ⟨Y, hY65, hI⟩ := hrel
    have cB := hI.out.1.cell
    have fB := hI.out.1.frozen
    have lB := hI.out.1.lt
    by_cases hY0 : Y = 0
    · subst hY0
      gi_wp2
      go_end0
      exact ⟨⟨_, rfl⟩, .inl ⟨hI.out.2.2, hI.out.2.1⟩⟩
    · have d1 : ((Y : Int) != 0) = true := by simp; omega
      have eu : IntKind.u64.wrap (Y : Int) = (Y : Int) := by rw [IntKind.wrap_u64]; omega
      have HC := hide (HTz.out Y wr hY0 hY65 hI.out.2.1)
      obtain ⟨fn, tmps, assign, body, hy, hR⟩ := HY.out Y wr hY0 hY65 hI.out.2.2 hI.out.1 hI.out.2.1
      obtain ⟨Z, hZ⟩ : ∃ Z, Z = Y &&& (Y - 1) := ⟨_, rfl⟩
      have ea := land_nat Y (Y - 1) (by omega) (by omega)
      rw [← hZ] at ea
      have es : IntKind.i64.wrap ((Y : Int) - 1) = ((Y - 1 : Nat) : Int) := by rw [IntKind.wrap_i64]; omega
      have hZY : Z < Y := by rw [hZ]; have := Nat.and_le_right (n := Y) (m := Y - 1); omega
      have eZ := hide hZ.symm
      generalize Lib.ctz 64 Y = k at *
      have HR := hide hR
      rw [← hZ] at HR
      clear hZ hR
      generalize hYm : Y - 1 = Ym at ea es
      clear hYm
      gi_wp2_with fail
      refine ⟨trivial, callsIn_wide.2 (HC.out.mono ?_)⟩
      rintro e w2 ⟨rfl, rfl⟩
      clear cB fB lB
      gi_wp2
      refine HR.out.mono ?_
      rintro e W3 (⟨rfl, hJ3, hB3, hT3⟩ | ⟨rfl, hJx3⟩)
      · have c3 := hB3.cell
        have f3 := hB3.frozen
        have l3 := hB3.lt
        have HI3 : Hid (BoxI (W3.setCell ⟨B, 0, none⟩ (.int .i64 (Z : Int))) B Z ∧ Tz (W3.setCell ⟨B, 0, none⟩ (.int .i64 (Z : Int))) ∧ J Z (W3.setCell ⟨B, 0, none⟩ (.int .i64 (Z : Int)))) := hide ⟨hB3.set _, hT3.setBox hB3 _, HJB.out Z W3 _ hJ3⟩
        have eY := hide (boxN_eq hI.out.1)
        clear hJ3 hB3 hT3
        gi_wp2
        go_roundw
        case rel => exact ⟨Z, by omega, HI3⟩
        case measure => rw [boxN_eq HI3.out.1, eY.out]; exact hZY
      · gi_wp2
        refine bodyPost_ret (results_none rfl _ _ _) rfl ?_
        exact ⟨⟨_, rfl⟩, .inr ⟨Y, hY0, hJx3⟩⟩

set_option maxRecDepth 100000 in
set_option maxHeartbeats 2000000 in
theorem players_in (n B : Nat) (hn : 1 ≤ n) : BitsK n 99 B := by
  intro l X J Jx W hX hB hT hJB hY h0
  have HJB := hide hJB
  have HTz := hide fun x ws (h0 : x ≠ 0) (hx : x < 65536) (h : Tz ws) => tzz_any x ws h0 (by omega) h
  have HY := hide hY
  refine callsIn_of_wp Tryd.func99 rfl trivial ?_ rfl
  simp only [Tryd.ntmps99, List.size_toArray, List.length_cons, List.length_nil, Nat.reduceAdd, Nat.reduceSub, Array.replicate_succ, Array.replicate_zero, List.push_toArray, List.append_toArray, List.nil_append, List.cons_append]
  have HB0 := hide (And.intro hB (And.intro hT h0))
  clear hB hT h0 hJB hY
  gi_wp2
  gi_loopw [3] (fun _ wr => ∃ Y : Nat, Y < 65536 ∧ Hid (BoxI wr B Y ∧ Tz wr ∧ J Y wr)) (fun _ wr => boxN B wr)
  case atStart => exact ⟨X, hX, HB0⟩
  case round =>
    obtain ⟨Y, hY65, hI⟩ := hrel
    have cB := hI.out.1.cell
    have fB := hI.out.1.frozen
    have lB := hI.out.1.lt
    by_cases hY0 : Y = 0
    · subst hY0
      gi_wp2
      go_end0
      exact ⟨⟨_, rfl⟩, .inl ⟨hI.out.2.2, hI.out.2.1⟩⟩
    · have d1 : ((Y : Int) != 0) = true := by simp; omega
      have eu : IntKind.u64.wrap (Y : Int) = (Y : Int) := by rw [IntKind.wrap_u64]; omega
      have HC := hide (HTz.out Y wr hY0 hY65 hI.out.2.1)
      obtain ⟨fn, tmps, assign, body, hy, hR⟩ := HY.out Y wr hY0 hY65 hI.out.2.2 hI.out.1 hI.out.2.1
      obtain ⟨Z, hZ⟩ : ∃ Z, Z = Y &&& (Y - 1) := ⟨_, rfl⟩
      have ea := land_nat Y (Y - 1) (by omega) (by omega)
      rw [← hZ] at ea
      have es : IntKind.i64.wrap ((Y : Int) - 1) = ((Y - 1 : Nat) : Int) := by rw [IntKind.wrap_i64]; omega
      have hZY : Z < Y := by rw [hZ]; have := Nat.and_le_right (n := Y) (m := Y - 1); omega
      have eZ := hide hZ.symm
      generalize Lib.ctz 64 Y = k at *
      have HR := hide hR
      rw [← hZ] at HR
      clear hZ hR
      generalize hYm : Y - 1 = Ym at ea es
      clear hYm
      gi_wp2_with fail
      refine ⟨trivial, callsIn_wide.2 (HC.out.mono ?_)⟩
      rintro e w2 ⟨rfl, rfl⟩
      clear cB fB lB
      gi_wp2
      refine HR.out.mono ?_
      rintro e W3 (⟨rfl, hJ3, hB3, hT3⟩ | ⟨rfl, hJx3⟩)
      · have c3 := hB3.cell
        have f3 := hB3.frozen
        have l3 := hB3.lt
        have HI3 : Hid (BoxI (W3.setCell ⟨B, 0, none⟩ (.int .i64 (Z : Int))) B Z ∧ Tz (W3.setCell ⟨B, 0, none⟩ (.int .i64 (Z : Int))) ∧ J Z (W3.setCell ⟨B, 0, none⟩ (.int .i64 (Z : Int)))) := hide ⟨hB3.set _, hT3.setBox hB3 _, HJB.out Z W3 _ hJ3⟩
        have eY := hide (boxN_eq hI.out.1)
        clear hJ3 hB3 hT3
        gi_wp2
        go_roundw
        case rel => exact ⟨Z, by omega, HI3⟩
        case measure => rw [boxN_eq HI3.out.1, eY.out]; exact hZY
      · gi_wp2
        refine bodyPost_ret (results_none rfl _ _ _) rfl ?_
        exact ⟨⟨_, rfl⟩, .inr ⟨Y, hY0, hJx3⟩⟩

theorem Tz.putObj {w : World} (h : Tz w) {l : Nat} {o : Obj} (hl : w.heap[l]? = some o) (ho : o.isCells = false) (o' : Obj) : Tz (w.putObj l o') := fun j hj => by
  have h1 := h j hj
  rw [← h1]
  refine World.cell?_of_block (World.putObj_heap_other fun e => ?_)
  have e' : l = 0 := by first | exact e | exact e.symm
  subst e'
  cases o <;> simp [Obj.isCells] at ho <;> simp [World.cell?, hl] at h1
theorem BoxI.putObj {w : World} {B x l : Nat} (h : BoxI w B x) (hl : B ≠ l) (o' : Obj) : BoxI (w.putObj l o') B x := (World.putObj_heap_other (by first | exact hl | exact hl.symm)).trans h
theorem Tz.alloc {w : World} (h : Tz w) (o : Obj) : Tz (w.alloc o) := h.keep ((Chg.refl [] w).alloc o)
theorem BoxI.alloc {w : World} {B x : Nat} (h : BoxI w B x) (o : Obj) : BoxI (w.alloc o) B x := Boxed.alloc h o
theorem BoxI.keep {w w' : World} {B x : Nat} {S : List Nat} (h : BoxI w B x) (hc : Chg S w w') (hs : B ∉ S) : BoxI w' B x := (hc.block B h.lt hs).trans h
theorem Tz.keepS {w w' : World} {S : List Nat} (h : Tz w) (hc : Chg S w w') (hs : 0 ∉ S) : Tz w' := fun j hj => by
  rw [hc.cell h.lt hs]
  exact h j hj

/-- How the body of a round may be left. -/
def bitsPost (B0 B : Nat) (I : Nat → World → Prop) (Ix : Code → World → Prop) (Y : Nat) (W : World) : Exit → Act → World → Prop
  | .normal, _, W' => KeepsFrom B0 W W' ∧ BoxI W' B Y ∧ Tz W' ∧ I (Y &&& (Y - 1)) W'
  | .ret, _, W' => KeepsFrom B0 W W' ∧ Ix .ret W'
  | .exit id, _, W' => KeepsFrom B0 W W' ∧ Ix (.exit id) W'
  | .goto t, _, W' => KeepsFrom B0 W W' ∧ Ix (.goto t) W'
  | .panic _, _, _ => False
  | .outgrown, _, _ => False

variable {g : Operand} {ps : Array Tmp} {assign body : Code} {Q : Exit → Act → World → Prop} {a : Act} {w : World} {n gf B X : Nat}
/-- A loop over the elements of a set. -/
theorem wpIn_bits (h1 : 1 ≤ n) (hg : a.eval g = .func (.func gf) #[] #[.pointer (some ⟨B, 0, none⟩)]) (eg : ∀ args w, (callFunc gf args).run Tryd.prog w = .ok (.enter gf args) w)
    (hseq : BitsK (n - 1) gf B) (hps : ps.size = 1) (hX : X < 65536) (hB : BoxI w B X) (hT : Tz w)
    (I : Nat → World → Prop) (Ix : Code → World → Prop) (hI : OwnFrom w.heap.size I) (hIx : OwnFrom w.heap.size Ix) (hIB : ∀ Y W u, I Y W → I Y (W.setCell ⟨B, 0, none⟩ u)) (h0 : I X w)
    (Ax : Nat → Act → World → Prop) (hAx : ∀ x a', OwnFrom w.heap.size (fun (_ : Unit) W => Ax x a' W))
    (hassign : ∀ (l Y : Nat) (W : World) (K : Act → World → Prop), I Y W → BoxI W B Y → Tz W → (∀ a' W', KeepsFrom w.heap.size W W' → BoxI W' B Y → Tz W' → I Y W' → Ax Y a' W' → K a' W') →
      assign.wpIn (Fence.wide.inRound l) (n - 1 - 1) Tryd.prog (Exit.then K (fun _ _ _ => False)) { tmps := (ps.zip #[.int .i64 (Lib.ctz 64 Y)]).foldl (fun t (p, v) => t.setIfInBounds p v) a.tmps, defers := [] } W)
    (hbody : ∀ (l Y : Nat) (a' : Act) (W : World), w.heap.size ≤ l → (∃ r, W.heap[l]? = some (.loop r)) → Y ≠ 0 → Y < 65536 → I Y W → BoxI W B Y → Tz W → Ax Y a' W → body.wpIn (Fence.wide.inRound l) (n - 1 - 1) Tryd.prog (bitsPost w.heap.size B I Ix Y W) a' W)
    (hdone : ∀ (D : Nat) (W : World), w.heap.size ≤ D → I 0 W → Tz W → W.heap[D]? = some (.deferred (some [])) → Q .normal { a with defers := { target := .collected D, args := #[] } :: a.defers } W)
    (hstop : ∀ (D : Nat) (c : Code) (W : World), w.heap.size ≤ D → Ix c W → W.heap[D]? = some (.deferred (some [])) → c.wpIn Fence.wide n Tryd.prog Q { a with defers := { target := .collected D, args := #[] } :: a.defers } W) :
    (Code.rangeFunc g ps assign body).wpIn Fence.wide n Tryd.prog Q a w := by
  refine wpIn_rangeFunc ?_
  intro fn hfn
  rw [show Fence.wide.round = none from rfl]
  obtain ⟨rec, hrec⟩ : ∃ rec : LoopState → Option Code → Loop, rec = fun st pe => { state := st, pending := pe, fn, tmps := a.tmps, params := ps, assign, body, defers := w.heap.size } := ⟨_, rfl⟩
  obtain ⟨W1, hW1⟩ : ∃ W1, (w.alloc (.deferred (some []))).alloc (.loop (rec .ready none)) = W1 := ⟨_, rfl⟩
  have hL1 : W1.heap[w.heap.size + 1]? = some (.loop (rec .ready none)) := by
    rw [← hW1]; have := World.alloc_heap_new (w.alloc (.deferred (some []))) (.loop (rec .ready none)); rwa [World.size_alloc] at this
  have hK1 : W1.heap[w.heap.size]? = some (.deferred (some [])) := by
    rw [← hW1]; exact (Below.heap_alloc _ _ _ (by simp)).trans (World.alloc_heap_new w _)
  have hI1 : I X W1 := by rw [← hW1]; exact hI.alloc _ (hI.alloc _ h0)
  have hB1 : BoxI W1 B X := by rw [← hW1]; exact (hB.alloc _).alloc _
  have hT1 : Tz W1 := by rw [← hW1]; exact (hT.alloc _).alloc _
  have hBl : B < w.heap.size := hB.lt
  refine ⟨w.heap.size + 1, [{ target := .collected w.heap.size, args := #[] }], W1, { target := .fn (.func gf) #[.pointer (some ⟨B, 0, none⟩)], args := #[.func (.yield (w.heap.size + 1)) #[] #[]] }, W1, gf,
    #[.func (.yield (w.heap.size + 1)) #[] #[]] ++ #[.pointer (some ⟨B, 0, none⟩)], W1, ?_, ?_, ?_, ?_, fun _ => h1, ?_⟩
  · rw [← hW1, hrec]; exact run_enterLoop_outer _ _ _ _ _
  · simp only [resolve, hg]
    simp [go_sem]
  · intro f' hf'; trivial
  · simp [invoke, go_sem, eg]
  · have hset : ∀ (W : World) (k : Nat) (u : Value), w.heap.size ≤ k → (W.setCell ⟨B, 0, none⟩ u).heap[k]? = W.heap[k]? := fun W k u hk => Below.heap_setCell _ _ _ _ (fun e => by have : k = B := e; omega)
    refine (hseq (w.heap.size + 1) X
      (fun Y W => I Y W ∧ W.heap[w.heap.size + 1]? = some (.loop (rec .ready none)) ∧ W.heap[w.heap.size]? = some (.deferred (some [])))
      (fun _ W => ∃ c, Ix c W ∧ W.heap[w.heap.size + 1]? = some (.loop (rec .done (some c))) ∧ W.heap[w.heap.size]? = some (.deferred (some [])))
      W1 hX hB1 hT1
      (fun Y W u hs => ⟨hIB Y W u hs.1, (hset W _ u (by omega)).trans hs.2.1, (hset W _ u (Nat.le_refl _)).trans hs.2.2⟩)
      ?_ ⟨hI1, hL1, hK1⟩).mono ?_
    · rintro Y W hY0 hY65 ⟨hi, hl, hk⟩ hbx htz
      have hy := run_yield (P := Tryd.prog) (args := #[.int .i64 (Lib.ctz 64 Y)]) hl (by rw [hrec]; exact hps.symm)
      rw [hrec] at hy
      refine ⟨fn, _, assign, body, hy, roundIn_of_wpIn hfn (hassign _ Y W _ hi hbx htz ?_)⟩
      clear hy hi hbx htz
      intro a' Wa hkfa hba hta hia hax
      replace hl := hkfa.same _ _ (by omega) hl rfl
      replace hk := hkfa.same _ _ (Nat.le_refl _) hk rfl
      have hlt : w.heap.size + 1 < Wa.heap.size := (Array.getElem?_eq_some_iff.1 hl).1
      clear hkfa
      refine ⟨_, run_beginRound hl (by rw [hrec]), ?_⟩
      have hl2 : (Wa.putObj (w.heap.size + 1) (.loop { rec .ready none with state := .busy })).heap[w.heap.size + 1]? = some (.loop { rec .ready none with state := .busy }) := World.putObj_heap_same hlt
      have hk2 : (Wa.putObj (w.heap.size + 1) (.loop { rec .ready none with state := .busy })).heap[w.heap.size]? = some (.deferred (some [])) := (World.putObj_heap_other (by omega)).trans hk
      refine wpIn_mono (hbody _ Y a' _ (by omega) ⟨_, hl2⟩ hY0 hY65 (hI.putObj _ hia (by omega) hl rfl) (hba.putObj (by omega) _) (hta.putObj hl rfl _) ((hAx Y a').putObj (s := ()) _ hax (by omega) hl rfl)) ?_
      have fin : ∀ (jump : Option Code) (W3 : World), KeepsFrom w.heap.size (Wa.putObj (w.heap.size + 1) (.loop { rec .ready none with state := .busy })) W3 →
          (Instr.endRound (w.heap.size + 1) jump).run Tryd.prog W3 = .ok (.bool jump.isNone) (W3.putObj (w.heap.size + 1) (.loop (rec (if jump.isNone then .ready else .done) jump))) ∧
          W3.heap[w.heap.size + 1]? = some (.loop { rec .ready none with state := .busy }) ∧
          (W3.putObj (w.heap.size + 1) (.loop (rec (if jump.isNone then .ready else .done) jump))).heap[w.heap.size + 1]? = some (.loop (rec (if jump.isNone then .ready else .done) jump)) ∧
          (W3.putObj (w.heap.size + 1) (.loop (rec (if jump.isNone then .ready else .done) jump))).heap[w.heap.size]? = some (.deferred (some [])) := fun jump W3 hk3 => by
        have hl3 := hk3.same _ _ (by omega) hl2 rfl
        have := run_endRound (P := Tryd.prog) jump hl3
        rw [hrec] at this ⊢
        exact ⟨this, by rw [hrec] at hl3; exact hl3, World.putObj_heap_same (Array.getElem?_eq_some_iff.1 hl3).1, (World.putObj_heap_other (by omega)).trans (hk3.same _ _ (Nat.le_refl _) hk2 rfl)⟩
      rintro e a3 W3 hp
      cases e with
      | normal =>
        obtain ⟨hk3, hb3, ht3, hi3⟩ := hp
        obtain ⟨hr, hl3, hl4, hk4⟩ := fin none W3 hk3
        exact ⟨_, _, hr, .inl ⟨rfl, ⟨hI.putObj _ hi3 (by omega) hl3 rfl, hl4, hk4⟩, hb3.putObj (by omega) _, ht3.putObj hl3 rfl _⟩⟩
      | ret =>
        obtain ⟨hk3, hi3⟩ := hp
        obtain ⟨hr, hl3, hl4, hk4⟩ := fin (some .ret) W3 hk3
        exact ⟨_, _, hr, .inr ⟨rfl, .ret, hIx.putObj _ hi3 (by omega) hl3 rfl, hl4, hk4⟩⟩
      | exit id =>
        obtain ⟨hk3, hi3⟩ := hp
        obtain ⟨hr, hl3, hl4, hk4⟩ := fin (some (.exit id)) W3 hk3
        exact ⟨_, _, hr, .inr ⟨rfl, .exit id, hIx.putObj _ hi3 (by omega) hl3 rfl, hl4, hk4⟩⟩
      | goto t =>
        obtain ⟨hk3, hi3⟩ := hp
        obtain ⟨hr, hl3, hl4, hk4⟩ := fin (some (.goto t)) W3 hk3
        exact ⟨_, _, hr, .inr ⟨rfl, .goto t, hIx.putObj _ hi3 (by omega) hl3 rfl, hl4, hk4⟩⟩
      | panic ch => exact hp.elim
      | outgrown => exact hp.elim
    · rintro e W2 ⟨⟨v, rfl⟩, (⟨⟨hi, hl, hk⟩, ht⟩ | ⟨Y, hY0, c, hi, hl, hk⟩)⟩
      · exact ⟨none, _, by have := run_endLoop (P := Tryd.prog) hl (by rw [hrec]; simp); rw [hrec] at this; exact this, hdone _ _ (Nat.le_refl _) (hI.putObj _ hi (by omega) hl rfl) (ht.putObj hl rfl _) ((World.putObj_heap_other (by omega)).trans hk)⟩
      · exact ⟨some c, _, by have := run_endLoop (P := Tryd.prog) hl (by rw [hrec]; simp); rw [hrec] at this; exact this, hstop _ c _ (Nat.le_refl _) (hIx.putObj _ hi (by omega) hl rfl) ((World.putObj_heap_other (by omega)).trans hk)⟩
/-- A loop over the elements of a set within a round of another loop. -/
theorem wpIn_bitsN {l₀ : Nat} {r₀ : Loop} (hl₀ : w.heap[l₀]? = some (.loop r₀)) (h1 : 1 ≤ n) (hg : a.eval g = .func (.func gf) #[] #[.pointer (some ⟨B, 0, none⟩)]) (eg : ∀ args w, (callFunc gf args).run Tryd.prog w = .ok (.enter gf args) w)
    (hseq : BitsK (n - 1) gf B) (hps : ps.size = 1) (hX : X < 65536) (hB : BoxI w B X) (hT : Tz w)
    (I : Nat → World → Prop) (Ix : Code → World → Prop) (hI : OwnFrom w.heap.size I) (hIx : OwnFrom w.heap.size Ix) (hIB : ∀ Y W u, I Y W → I Y (W.setCell ⟨B, 0, none⟩ u)) (h0 : I X w)
    (Ax : Nat → Act → World → Prop) (hAx : ∀ x a', OwnFrom w.heap.size (fun (_ : Unit) W => Ax x a' W))
    (hassign : ∀ (l Y : Nat) (W : World) (K : Act → World → Prop), I Y W → BoxI W B Y → Tz W → (∀ a' W', KeepsFrom w.heap.size W W' → BoxI W' B Y → Tz W' → I Y W' → Ax Y a' W' → K a' W') →
      assign.wpIn (Fence.wide.inRound l) (n - 1 - 1) Tryd.prog (Exit.then K (fun _ _ _ => False)) { tmps := (ps.zip #[.int .i64 (Lib.ctz 64 Y)]).foldl (fun t (p, v) => t.setIfInBounds p v) a.tmps, defers := [] } W)
    (hbody : ∀ (l Y : Nat) (a' : Act) (W : World), w.heap.size ≤ l → (∃ r, W.heap[l]? = some (.loop r)) → Y ≠ 0 → Y < 65536 → I Y W → BoxI W B Y → Tz W → Ax Y a' W → body.wpIn (Fence.wide.inRound l) (n - 1 - 1) Tryd.prog (bitsPost w.heap.size B I Ix Y W) a' W)
    (hdone : ∀ (W : World), I 0 W → Tz W → Q .normal a W)
    (hstop : ∀ (c : Code) (W : World), Ix c W → c.wpIn (Fence.wide.inRound l₀) n Tryd.prog Q a W) :
    (Code.rangeFunc g ps assign body).wpIn (Fence.wide.inRound l₀) n Tryd.prog Q a w := by
  refine wpIn_rangeFunc ?_
  intro fn hfn
  rw [show (Fence.wide.inRound l₀).round = some l₀ from rfl]
  obtain ⟨rec, hrec⟩ : ∃ rec : LoopState → Option Code → Loop, rec = fun st pe => { state := st, pending := pe, fn, tmps := a.tmps, params := ps, assign, body, defers := r₀.defers } := ⟨_, rfl⟩
  obtain ⟨W1, hW1⟩ : ∃ W1, w.alloc (.loop (rec .ready none)) = W1 := ⟨_, rfl⟩
  have hL1 : W1.heap[w.heap.size]? = some (.loop (rec .ready none)) := by rw [← hW1]; exact World.alloc_heap_new w _
  have hI1 : I X W1 := by rw [← hW1]; exact hI.alloc _ h0
  have hB1 : BoxI W1 B X := by rw [← hW1]; exact hB.alloc _
  have hT1 : Tz W1 := by rw [← hW1]; exact hT.alloc _
  have hBl : B < w.heap.size := hB.lt
  refine ⟨w.heap.size, [], W1, { target := .fn (.func gf) #[.pointer (some ⟨B, 0, none⟩)], args := #[.func (.yield w.heap.size) #[] #[]] }, W1, gf,
    #[.func (.yield w.heap.size) #[] #[]] ++ #[.pointer (some ⟨B, 0, none⟩)], W1, ?_, ?_, ?_, ?_, fun _ => h1, ?_⟩
  · rw [← hW1, hrec]; exact run_enterLoop_inner hl₀ _ _ _ _ _
  · simp only [resolve, hg]
    simp [go_sem]
  · intro f' hf'; trivial
  · simp [invoke, go_sem, eg]
  · have hset : ∀ (W : World) (k : Nat) (u : Value), w.heap.size ≤ k → (W.setCell ⟨B, 0, none⟩ u).heap[k]? = W.heap[k]? := fun W k u hk => Below.heap_setCell _ _ _ _ (fun e => by have : k = B := e; omega)
    refine CallsIn.mono (CallsIn.inRound l₀ (hseq w.heap.size X
      (fun Y W => I Y W ∧ W.heap[w.heap.size]? = some (.loop (rec .ready none)))
      (fun _ W => ∃ c, Ix c W ∧ W.heap[w.heap.size]? = some (.loop (rec .done (some c))))
      W1 hX hB1 hT1
      (fun Y W u hs => ⟨hIB Y W u hs.1, (hset W _ u (Nat.le_refl _)).trans hs.2⟩)
      ?_ ⟨hI1, hL1⟩)) ?_
    · rintro Y W hY0 hY65 ⟨hi, hl⟩ hbx htz
      have hy := run_yield (P := Tryd.prog) (args := #[.int .i64 (Lib.ctz 64 Y)]) hl (by rw [hrec]; exact hps.symm)
      rw [hrec] at hy
      refine ⟨fn, _, assign, body, hy, roundIn_of_wpIn hfn (hassign _ Y W _ hi hbx htz ?_)⟩
      clear hy hi hbx htz
      intro a' Wa hkfa hba hta hia hax
      replace hl := hkfa.same _ _ (Nat.le_refl _) hl rfl
      have hlt : w.heap.size < Wa.heap.size := (Array.getElem?_eq_some_iff.1 hl).1
      clear hkfa
      refine ⟨_, run_beginRound hl (by rw [hrec]), ?_⟩
      have hl2 : (Wa.putObj w.heap.size (.loop { rec .ready none with state := .busy })).heap[w.heap.size]? = some (.loop { rec .ready none with state := .busy }) := World.putObj_heap_same hlt
      refine wpIn_mono (hbody _ Y a' _ (Nat.le_refl _) ⟨_, hl2⟩ hY0 hY65 (hI.putObj _ hia (Nat.le_refl _) hl rfl) (hba.putObj (by omega) _) (hta.putObj hl rfl _) ((hAx Y a').putObj (s := ()) _ hax (Nat.le_refl _) hl rfl)) ?_
      have fin : ∀ (jump : Option Code) (W3 : World), KeepsFrom w.heap.size (Wa.putObj w.heap.size (.loop { rec .ready none with state := .busy })) W3 →
          (Instr.endRound w.heap.size jump).run Tryd.prog W3 = .ok (.bool jump.isNone) (W3.putObj w.heap.size (.loop (rec (if jump.isNone then .ready else .done) jump))) ∧
          W3.heap[w.heap.size]? = some (.loop { rec .ready none with state := .busy }) ∧
          (W3.putObj w.heap.size (.loop (rec (if jump.isNone then .ready else .done) jump))).heap[w.heap.size]? = some (.loop (rec (if jump.isNone then .ready else .done) jump)) := fun jump W3 hk3 => by
        have hl3 := hk3.same _ _ (Nat.le_refl _) hl2 rfl
        have := run_endRound (P := Tryd.prog) jump hl3
        rw [hrec] at this ⊢
        exact ⟨this, by rw [hrec] at hl3; exact hl3, World.putObj_heap_same (Array.getElem?_eq_some_iff.1 hl3).1⟩
      rintro e a3 W3 hp
      cases e with
      | normal =>
        obtain ⟨hk3, hb3, ht3, hi3⟩ := hp
        obtain ⟨hr, hl3, hl4⟩ := fin none W3 hk3
        exact ⟨_, _, hr, .inl ⟨rfl, ⟨hI.putObj _ hi3 (Nat.le_refl _) hl3 rfl, hl4⟩, hb3.putObj (by omega) _, ht3.putObj hl3 rfl _⟩⟩
      | ret =>
        obtain ⟨hk3, hi3⟩ := hp
        obtain ⟨hr, hl3, hl4⟩ := fin (some .ret) W3 hk3
        exact ⟨_, _, hr, .inr ⟨rfl, .ret, hIx.putObj _ hi3 (Nat.le_refl _) hl3 rfl, hl4⟩⟩
      | exit id =>
        obtain ⟨hk3, hi3⟩ := hp
        obtain ⟨hr, hl3, hl4⟩ := fin (some (.exit id)) W3 hk3
        exact ⟨_, _, hr, .inr ⟨rfl, .exit id, hIx.putObj _ hi3 (Nat.le_refl _) hl3 rfl, hl4⟩⟩
      | goto t =>
        obtain ⟨hk3, hi3⟩ := hp
        obtain ⟨hr, hl3, hl4⟩ := fin (some (.goto t)) W3 hk3
        exact ⟨_, _, hr, .inr ⟨rfl, .goto t, hIx.putObj _ hi3 (Nat.le_refl _) hl3 rfl, hl4⟩⟩
      | panic ch => exact hp.elim
      | outgrown => exact hp.elim
    · rintro e W2 ⟨⟨v, rfl⟩, (⟨⟨hi, hl⟩, ht⟩ | ⟨Y, hY0, c, hi, hl⟩)⟩
      · exact ⟨none, _, by have := run_endLoop (P := Tryd.prog) hl (by rw [hrec]; simp); rw [hrec] at this; exact this, hdone _ (hI.putObj _ hi (Nat.le_refl _) hl rfl) (ht.putObj hl rfl _)⟩
      · exact ⟨some c, _, by have := run_endLoop (P := Tryd.prog) hl (by rw [hrec]; simp); rw [hrec] at this; exact this, hstop c _ (hIx.putObj _ hi (Nat.le_refl _) hl rfl)⟩
end Go.Proofs.YtpplihpfjniacaaDoor
