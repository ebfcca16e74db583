/- Walk: the iterator slices.Backward over nodes, as a contract for a loop over it. -/
import Derived.Test.YtaapamoglgpocaaRun4
import Derived.RangeFuncNested
import Derived.RangeFuncBound
import Derived.RangeFuncCalls
import Derived.RangeFuncLeaves
import Derived.Shelf.Abstract
import Derived.Shelf.RegionOpen
import Derived.WalkKit
import Derived.OwnWalkIn
import Derived.TacticsInMore
import Derived.LoopNIn
import Derived.LoopIn
import Derived.StillTailTactics
import Derived.OrdersIn
import Derived.TacticsIn
namespace Go.Proofs.Ytaapamoglgpocaa
open Go.RowKit Go.Shelf
attribute [local go_sem] Oper.semAt_some

/-- What a round keeps: the blocks below n₀, but for those of S. -/
def KP (n₀ : Nat) (S : List Nat) (a w : World) : Prop := w.os = a.os ∧ w.tape = a.tape ∧ w.output = a.output ∧ a.heap.size ≤ w.heap.size ∧ ∀ k, k < n₀ → k ∉ S → w.heap[k]? = a.heap[k]?
theorem KP.refl (n₀ : Nat) (S : List Nat) (a : World) : KP n₀ S a a := ⟨rfl, rfl, rfl, Nat.le_refl _, fun _ _ _ => rfl⟩
theorem KP.trans {n₀ : Nat} {S : List Nat} {a b c : World} (h : KP n₀ S a b) (k : KP n₀ S b c) : KP n₀ S a c := by
  obtain ⟨h1, h2, h3, h4, h5⟩ := h
  obtain ⟨k1, k2, k3, k4, k5⟩ := k
  exact ⟨k1.trans h1, k2.trans h2, k3.trans h3, Nat.le_trans h4 k4, fun i hi hs => (k5 i hi hs).trans (h5 i hi hs)⟩
theorem KP.put {n₀ : Nat} {S : List Nat} (W : World) (l : Nat) (o o' : Obj) (hl : n₀ ≤ l) (h : W.heap[l]? = some o) : KP n₀ S W (W.putObj l o') := by
  have hg := grownBy_putObj' W l o'
  exact ⟨hg.os, hg.tape, hg.output, hg.size, fun k hk _ => by
    by_cases hlt : k < W.heap.size
    · exact hg.block k hlt (fun e => by cases e; omega)
    · have := (Array.getElem?_eq_some_iff.1 h).1; omega⟩
theorem KP.ofChg {n₀ : Nat} {S : List Nat} {a w : World} (h : Chg S a w) (hn : n₀ ≤ a.heap.size) : KP n₀ S a w := ⟨h.os, h.tape, h.output, h.size, fun k hk hs => h.block k (by omega) hs⟩
theorem KP.mono {n₀ : Nat} {S T : List Nat} {a w : World} (h : KP n₀ S a w) (hS : ∀ x ∈ S, x ∈ T ∨ n₀ ≤ x) : KP n₀ T a w := by
  obtain ⟨h1, h2, h3, h4, h5⟩ := h
  exact ⟨h1, h2, h3, h4, fun k hk hs => h5 k hk (fun hm => by rcases hS k hm with h | h <;> first | exact hs h | omega)⟩
theorem KP.cell {n₀ : Nat} {S : List Nat} {a w : World} (h : KP n₀ S a w) {p : Addr} (hb : p.block < n₀) (hs : p.block ∉ S) : w.cell? p = a.cell? p := World.cell?_of_block (h.2.2.2.2 _ hb hs)

/-- The nodes of a slice, where they lie. -/
def NodesAt (W : World) (a : Addr) (ps : List Nd) : Prop := ∀ i, i < ps.length → ∀ k u, (ndCells (ps.getD i nd0))[k]? = some u → W.cell? (a.add (i * 6 + k)) = some u
theorem NodesAt.keep {n₀ : Nat} {S : List Nat} {W w : World} {a : Addr} {ps : List Nd} (h : NodesAt W a ps) (hk : KP n₀ S W w) (hb : a.block < n₀) (hs : a.block ∉ S) : NodesAt w a ps :=
  fun i hi k u hu => (hk.cell (by rw [add_block]; exact hb) (by rw [add_block]; exact hs)).trans (h i hi k u hu)
theorem NodesAt.cells {W : World} {a : Addr} {ps : List Nd} (h : NodesAt W a ps) {i : Nat} (hi : i < ps.length) :
    W.cell? (a.add (i * 6)) = some (.bool (ps.getD i nd0).leaf) ∧ W.cell? ⟨(a.add (i * 6)).block, (a.add (i * 6)).off + 1, none⟩ = some (.int .i64 (ps.getD i nd0).val) ∧ W.cell? ⟨(a.add (i * 6)).block, (a.add (i * 6)).off + 2, none⟩ = some (.int .i64 (ps.getD i nd0).who) ∧
    W.cell? ⟨(a.add (i * 6)).block, (a.add (i * 6)).off + 3, none⟩ = some (.int .i64 (ps.getD i nd0).set) ∧ W.cell? ⟨(a.add (i * 6)).block, (a.add (i * 6)).off + 4, none⟩ = some (.int .i64 (ps.getD i nd0).no) ∧ W.cell? ⟨(a.add (i * 6)).block, (a.add (i * 6)).off + 5, none⟩ = some (.int .i64 (ps.getD i nd0).yes) := by
  have key := h i hi
  refine ⟨key 0 _ rfl, ?_, ?_, ?_, ?_, ?_⟩
  · rw [← add_in a (i * 6) (j := 1) (by omega)]; exact key 1 _ rfl
  · rw [← add_in a (i * 6) (j := 2) (by omega)]; exact key 2 _ rfl
  · rw [← add_in a (i * 6) (j := 3) (by omega)]; exact key 3 _ rfl
  · rw [← add_in a (i * 6) (j := 4) (by omega)]; exact key 4 _ rfl
  · rw [← add_in a (i * 6) (j := 5) (by omega)]; exact key 5 _ rfl
/-- What has come: the indices from the last one down to k. -/
def downN (L k : Nat) : List Nat := (List.range (L - k)).map (fun j => L - 1 - j)
theorem downN_all (L : Nat) : downN L L = [] := by unfold downN; simp
theorem downN_more (L k : Nat) (h : k < L) : downN L k = downN L (k + 1) ++ [k] := by
  unfold downN
  rw [show L - k = (L - (k + 1)) + 1 by omega, List.range_succ, List.map_append]
  simp
  omega
theorem downN_len (L k : Nat) : (downN L k).length = L - k := by unfold downN; simp
abbrev Ix (L : Nat) := { i : Nat // i < L }
def encN (ps : List Nd) (x : Ix ps.length) : Array Value := #[.int .i64 (x.1 : Int), .agg (ndCells (ps.getD x.1 nd0))]

set_option maxRecDepth 100000 in
set_option maxHeartbeats 2000000 in
theorem back_in (F : Fence) (n : Nat) (hF : F.fn 106) (hro : F.round = none) (hn : 1 ≤ n) (l Bs n₀ cap : Nat) (a : Addr) (S : List Nat) (ps : List Nd) (hl : ps.length ≤ 1000) (hb : a.block < n₀ ∧ a.block ∉ S) (hB : Bs < n₀ ∧ Bs ∉ S) (J Jx : List (Ix ps.length) → World → Prop)
    (hY : ∀ pre x W, J pre W → pre.length < ps.length → YieldAt F (n - 1) Try.prog l (encN ps x) W fun e W' =>
      (e = .returned (.bool true) ∧ J (pre ++ [x]) W' ∧ KP n₀ S W W') ∨ (e = .returned (.bool false) ∧ Jx (pre ++ [x]) W'))
    (W : World) (hBs : W.cell? ⟨Bs, 0, none⟩ = some (.slice (some a) ps.length cap)) (hc : NodesAt W a ps) (h0 : J [] W) :
    CallsIn F n Try.prog 106 #[.func (.yield l) #[] #[], .pointer (some ⟨Bs, 0, none⟩)] W fun e W' => (∃ v, e = .returned v) ∧
      ((∃ ys, ys.map Subtype.val = downN ps.length 0 ∧ J ys W') ∨ (∃ pre, (∃ k, k ≤ ps.length ∧ pre.map Subtype.val = downN ps.length k) ∧ Jx pre W')) := by
  refine callsIn_of_wp Try.func106 rfl hF ?_ hro
  simp only [Try.ntmps106, List.size_toArray, List.length_cons, List.length_nil, Nat.reduceAdd, Nat.reduceSub, Array.replicate_succ, Array.replicate_zero, List.push_toArray, List.append_toArray, List.nil_append, List.cons_append]
  obtain ⟨L, hL⟩ : ∃ L, L = ps.length := ⟨_, rfl⟩
  have HL := hide hL
  have hl' : L ≤ 1000 := by omega
  rw [← hL] at hBs
  gi_wp2
  gi_loopw [3] (fun i wr => ∃ k : Nat, k ≤ L ∧ i = .int .i64 ((k : Int) - 1) ∧ (∃ pre : List (Ix ps.length), pre.map Subtype.val = downN ps.length k ∧ J pre wr) ∧ KP n₀ S W wr)
    (fun i _ => (intOf i + 1).toNat)
  case atStart => exact ⟨L, Nat.le_refl _, by go_num, ⟨[], by rw [HL.out, downN_all]; rfl, h0⟩, KP.refl _ _ _⟩
  case round =>
    obtain ⟨k, hk, rfl, ⟨pre, hpre, hJs⟩, hnx⟩ := hrel
    by_cases hj0 : k = 0
    · subst hj0
      have e0 : ((0 : Nat) : Int) - 1 = -1 := rfl
      rw [e0]
      have d1 : decide ((0 : Int) ≤ -1) = false := by decide
      clear e0
      gi_wp2
      go_end0
      exact ⟨⟨_, rfl⟩, .inl ⟨pre, hpre, hJs⟩⟩
    · obtain ⟨j, rfl⟩ : ∃ j, k = j + 1 := ⟨k - 1, by omega⟩
      have e0 : ((j + 1 : Nat) : Int) - 1 = (j : Int) := by omega
      rw [e0]
      have d1 : decide ((0 : Int) ≤ (j : Int)) = true := by simp
      have hjl : j < ps.length := by rw [← HL.out]; omega
      obtain ⟨m0, m1, m2, m3, m4, m5⟩ := (hc.keep hnx hb.1 hb.2).cells hjl
      have hBs' : wr.cell? ⟨Bs, 0, none⟩ = some (.slice (some a) L cap) := (hnx.cell (p := ⟨Bs, 0, none⟩) hB.1 hB.2).trans hBs
      have hplen : pre.length < ps.length := by
        have := congrArg List.length hpre
        rw [List.length_map, downN_len] at this
        omega
      obtain ⟨fn, tmps, assign, body, hy, hR⟩ := hY pre ⟨j, hjl⟩ wr hJs hplen
      have hgo : (pre ++ [(⟨j, hjl⟩ : Ix ps.length)]).map Subtype.val = downN ps.length j := by
        rw [List.map_append, hpre, downN_more ps.length j hjl]
        rfl
      unfold encN ndCells at hy
      dsimp only at hy
      generalize hx : ps.getD j nd0 = x at m0 m1 m2 m3 m4 m5 hy
      have hi0 : (0 : Int) ≤ (j : Int) := by omega
      have hi1 : (j : Int) < (L : Int) := by omega
      have HG := hide hgo
      have HN := hide hnx
      clear e0 hj0 hx hc hgo hpre hplen hnx
      gi_wp2
      refine hR.mono ?_
      rintro e W3 (⟨rfl, hJ3, hk3⟩ | ⟨rfl, hJx3⟩)
      · gi_wp2
        go_roundw
        case rel => exact ⟨j, by omega, by go_num, ⟨_, HG.out, hJ3⟩, HN.out.trans hk3⟩
        case measure => simp [intOf]
      · gi_wp2
        refine bodyPost_ret (results_none rfl _ _ _) rfl ?_
        exact ⟨⟨_, rfl⟩, .inr ⟨_, ⟨j, by omega, HG.out⟩, hJx3⟩⟩

set_option maxRecDepth 100000 in
set_option maxHeartbeats 1000000 in
theorem Backward_any (a : Option Addr) (len cap : Nat) (w : World) :
    Calls Try.prog 74 #[.slice a len cap] w fun e w' => e = .returned (.func (.func 106) #[] #[.pointer (some ⟨w.heap.size, 0, none⟩)]) ∧ w' = w.alloc (.cells #[.slice a len cap] 23) := by
  go_enter Try.func74, Try.ntmps74
  go_wp2
  go_ret
  exact ⟨rfl, rfl⟩
/-- The value that Backward hands back gives every node, from the last one to the first one. -/
theorem back_stops (F : Fence) (n : Nat) (hF : F.fn 106) (hro : F.round = none) (hn : 1 ≤ n) (Bs n₀ cap : Nat) (a : Addr) (S : List Nat) (ps : List Nd) (hl : ps.length ≤ 1000) (w : World) (hb : a.block < n₀ ∧ a.block ∉ S) (hB : Bs < n₀ ∧ Bs ∉ S) (hn₀ : n₀ ≤ w.heap.size)
    (hBs : w.cell? ⟨Bs, 0, none⟩ = some (.slice (some a) ps.length cap)) (hc : NodesAt w a ps) :
    SeqStopsK F n Try.prog 106 #[.pointer (some ⟨Bs, 0, none⟩)] (encN ps) (KP n₀ S) (fun ys => ys.map Subtype.val = downN ps.length 0)
      (fun pre => ∃ k, k ≤ ps.length ∧ pre.map Subtype.val = downN ps.length k) ps.length w := fun l J Jx W hW _ _ hY h0 => by
  have hk : KP n₀ S w W := ⟨hW.os, hW.tape, hW.output, hW.size, fun k hk _ => hW.block k (by omega)⟩
  exact back_in F n hF hro hn l Bs n₀ cap a S ps hl hb hB J Jx hY W ((hk.cell (p := ⟨Bs, 0, none⟩) hB.1 hB.2).trans hBs) (hc.keep hk hb.1 hb.2) h0
end Go.Proofs.Ytaapamoglgpocaa

/- Regions in a round of a loop over a function: what is shown at the wide fence serves there. -/
namespace Go.Proofs.Ytaapamoglgpocaa
open Go.RowKit

def noDefer (ops : Array Oper) : Bool := ops.all fun o => match o.op with | .defer _ => false | _ => true
theorem noDefer_at {ops : Array Oper} (h : noDefer ops = true) {i : Nat} {o : Oper} (ho : ops[i]? = some o) : ∀ c, o.op ≠ .defer c := by
  intro c hc
  unfold noDefer at h
  rw [Array.all_eq_true] at h
  obtain ⟨hi, he⟩ := Array.getElem?_eq_some_iff.1 ho
  have := h i hi
  rw [he, hc] at this
  cases this
variable {P : Program} {ops : Array Oper} {Q : Exit → Act → World → Prop} {md : Region.Mode}
theorem upon_round {l n : Nat} {o : Oper} {a : Act} {K : Act → World → Prop} {r : Result Next} (h : o.upon P a K Q r) : o.uponIn (Fence.wide.inRound l) n P a K Q r := by
  have hd : (Fence.wide.inRound l).depth.isSome = true → 1 ≤ n := fun h => by cases h
  cases r with
  | ok x w' =>
    cases x <;> simp only [Oper.upon] at h <;> simp only [Oper.uponIn] <;>
      first
        | exact h
        | exact ⟨hd, CallsIn.inRound l (callsIn_wide.2 h)⟩
        | exact ⟨hd, fun c cs _ => let ⟨v, w'', r, s⟩ := h c cs; ⟨v, w'', r, stepsIn_wide.2 s⟩⟩
  | halt x w' => cases x <;> simp only [Oper.upon] at h <;> simp only [Oper.uponIn] <;> exact h
theorem wpOp_round {l n : Nat} (hops : noDefer ops = true) (hL : ¬ LetsOut Q) {i : Nat} {K K' : Act → World → Prop} {a : Act} {w : World} (hK : ∀ a w, K a w → K' a w) (h : wpOp P ops Q i K a w) : wpOpIn (Fence.wide.inRound l) n P ops Q i K' a w := by
  unfold wpOp at h
  unfold wpOpIn
  cases ho : ops[i]? with
  | none => rw [ho] at h; exact hK _ _ h
  | some o =>
    rw [ho] at h
    simp only [] at h ⊢
    split at h
    · rename_i hw
      rw [if_pos hw]
      rcases h with h | ⟨_, h⟩
      · unfold Oper.wp at h
        refine ⟨fun _ _ => trivial, ?_⟩
        rw [show (Fence.wide.inRound l).round = some l from rfl, Oper.semAt_some l _ _ (noDefer_at hops ho)]
        exact upon_round (Oper.wp_mono (o := o) hK h)
      · exact absurd h hL
    · rename_i hw
      rw [if_neg hw]
      exact ⟨fun _ _ => trivial, hK _ _ h⟩
theorem any_round {l n : Nat} (hops : noDefer ops = true) (hL : ¬ LetsOut Q) : ∀ (fuel : Nat) (listed : Array Bool) (a : Act) (w : World), wpAny P md ops Q fuel listed a w → wpAnyIn (Fence.wide.inRound l) n P md ops Q fuel listed a w
  | 0, _, _, _, h => h
  | fuel + 1, _, _, _, h => ⟨h.1, fun i hi => wpOp_round hops hL (any_round hops hL fuel _) (h.2 i hi)⟩
/-- The post of a region that goes on. -/
def goesOn (K : Act → World → Prop) : Exit → Act → World → Prop
  | .normal, a, w => K a w
  | _, _, _ => False
theorem goesOn_lets (K : Act → World → Prop) : ¬ LetsOut (goesOn K) := by
  rintro ⟨a, w, h⟩
  exact h
theorem region_round {l n id : Nat} {a : Act} {w : World} (hops : noDefer ops = true) (hm : P.follows .mixedOrders = true)
    (h : wpAny P .any ops (goesOn (Q .normal)) ops.size (Array.replicate ops.size false) a { w with drawn := w.drawn + 1 }) : (Code.region id ops true).wpIn (Fence.wide.inRound l) n P Q a w := by
  refine wpIn_mono (wpIn_region_any hm (any_round hops (goesOn_lets _) _ _ _ _ h)) ?_
  intro e a w h
  cases e <;> first | exact h | exact False.elim h
theorem any_still_tail {a : Act} {w : World} {l : List Oper} (n : Nat) (hB : Region.lexTailB .any l.toArray n = true)
    (h : wpStill P l.toArray w (fun a' => wpList P l.toArray Q (l.drop n) a' w) (l.take n) a) : wpAny P .any l.toArray Q l.toArray.size (Array.replicate l.toArray.size false) a w := by
  simp only [Region.lexTailB, Bool.and_eq_true, decide_eq_true_eq] at hB
  obtain ⟨⟨⟨⟨hsel, hn⟩, hs⟩, hc⟩, hlex⟩ := hB
  have hn' : n < l.length := by simpa using hn
  have htl : (l.take n).length = n := by simp; omega
  have hdl : (l.drop n).length = l.toArray.size - n := by simp
  have inv0 : HeadInv .any l.toArray n (Array.replicate l.toArray.size false) :=
    ⟨by simp, fun j oj _ hl => (by rw [getD_replicate_false] at hl; cases hl), fun t _ ht => getD_in (by simpa using ht) (getD_replicate_false _ _)⟩
  have H := wpAnyL_lex (md := .any) (g := l.toArray.size - n) hsel hs hc hn (l.take n) 0 _ a (fun j hj => by
    have hj' : j < n := by rw [htl] at hj; exact hj
    simp [hj']) (by simpa using htl) inv0 (by rw [htl]; exact hlex) h
  have := wpAny_of_head (Q' := Q) (g := l.toArray.size - n) (fun listed a' hL => by
    have := wpAny_of_seq (md := .any) (Q' := Q) (l.drop n) n listed a' w (fun j => by simp [List.getElem?_drop]) (by rw [hdl]; exact hL.1) hL.2
    rwa [hdl] at this) _ _ _ H
  rw [htl, show n + (l.toArray.size - n) = l.toArray.size by omega] at this
  exact this
theorem region_round_still {l : List Oper} {m id k : Nat} {a : Act} {w : World} (n : Nat) (hm : P.follows .mixedOrders = true) (hops : noDefer l.toArray = true) (hB : Region.lexTailB .any l.toArray n = true)
    (h : wpStill P l.toArray w.drew (fun a' => wpList P l.toArray (goesOn (Q .normal)) (l.drop n) a' w.drew) (l.take n) a) : (Code.region id l.toArray true).wpIn (Fence.wide.inRound m) k P Q a w :=
  region_round hops hm (any_still_tail n hB h)
end Go.Proofs.Ytaapamoglgpocaa

/- A loop over a method value that is a function to range over: its receiver stands ahead of yield; no round leaves the loop. -/
namespace Go.Proofs.Ytaapamoglgpocaa
open Go.RowKit

/-- What such an iterator does: whatever the rounds keep (and Kp), it gives some elements that S allows, and ends. -/
def GivesB {α : Type} (F : Fence) (n : Nat) (P : Program) (g : Nat) (first : Array Value) (encs : α → Array Value) (Kp : World → World → Prop) (S : List α → Prop) (N : Nat) (w : World) : Prop :=
  ∀ (l : Nat) (J : List α → World → Prop) (W : World), w.heap.size ≤ W.heap.size → (∀ k, k < w.heap.size → W.heap[k]? = w.heap[k]?) → (W.os = w.os ∧ W.tape = w.tape ∧ W.output = w.output) → AbidesFrom W.heap.size J →
    (∀ pre x W1, J pre W1 → pre.length < N → YieldAt F (n - 1) P l (encs x) W1 fun e W' => e = .returned (.bool true) ∧ J (pre ++ [x]) W' ∧ Kp W1 W') →
    J [] W → CallsIn F n P g (first ++ #[.func (.yield l) #[] #[]]) W fun e W' => (∃ v, e = .returned v) ∧ ∃ xs, S xs ∧ J xs W'

/-- How a round ends. -/
def roundEnds {α : Type} (B : Nat) (Kp : World → World → Prop) (I : List α → World → Prop) (xs : List α) (W : World) : Exit → Act → World → Prop
  | .normal, _, W' => KeepsFrom B W W' ∧ Kp W W' ∧ I xs W'
  | _, _, _ => False

variable {F : Fence} {n : Nat} {P : Program} {w : World}

theorem wpIn_rangeBound {α : Type} {g : Operand} {ps : Array Tmp} {assign body : Code} {Q : Exit → Act → World → Prop} {a : Act}
    (hro : F.round = none) (h1 : 1 ≤ n) {gf : Nat} {first : Array Value} (hg : a.eval g = .func (.func gf) first #[]) (hFg : F.fn gf) (eg : ∀ args w, (callFunc gf args).run P w = .ok (.enter gf args) w)
    {encs : α → Array Value} {Kp : World → World → Prop} {S : List α → Prop} {N : Nat} (hseq : GivesB F (n - 1) P gf first encs Kp S N w)
    (hKt : ∀ {A B C : World}, Kp A B → Kp B C → Kp A C) (hKb : ∀ (W : World) (l : Nat) (o o' : Obj), w.heap.size ≤ l → W.heap[l]? = some o → o.isCells = false → o.isWalk = false → Kp W (W.putObj l o')) (hps : ∀ x, (encs x).size = ps.size)
    (I : List α → World → Prop) (hI : OwnFrom w.heap.size I) (h0 : I [] w) (Ax : α → Act → World → Prop) (hAx : ∀ x a', OwnFrom w.heap.size (fun (_ : Unit) W => Ax x a' W))
    (hassign : ∀ (l : Nat) (pre : List α) (x : α) (W : World) (K : Act → World → Prop), I pre W → (∀ a' W', KeepsFrom w.heap.size W W' → Kp W W' → I pre W' → Ax x a' W' → K a' W') →
      assign.wpIn (F.inRound l) (n - 1 - 1) P (Exit.then K (fun _ _ _ => False)) { tmps := (ps.zip (encs x)).foldl (fun t (p, v) => t.setIfInBounds p v) a.tmps, defers := [] } W)
    (hbody : ∀ (l : Nat) (pre : List α) (x : α) (a' : Act) (W : World), w.heap.size ≤ l → I pre W → Ax x a' W → pre.length < N → body.wpIn (F.inRound l) (n - 1 - 1) P (roundEnds w.heap.size Kp I (pre ++ [x]) W) a' W)
    (hdone : ∀ (D : Nat) (xs : List α) (W : World), w.heap.size ≤ D → S xs → I xs W → W.heap[D]? = some (.deferred (some [])) → Q .normal { a with defers := { target := .collected D, args := #[] } :: a.defers } W) :
    (Code.rangeFunc g ps assign body).wpIn F n P Q a w := by
  refine wpIn_rangeFunc fun fn hfn => ?_
  rw [hro]
  -- the record of the loop, by its state
  let rc : LoopState → Loop := fun st => { state := st, pending := none, fn, tmps := a.tmps, params := ps, assign, body, defers := w.heap.size }
  let W1 := (w.alloc (.deferred (some []))).alloc (.loop (rc .ready))
  have sD : (w.alloc (.deferred (some []))).heap.size = w.heap.size + 1 := by simp
  have hL : W1.heap[w.heap.size + 1]? = some (.loop (rc .ready)) := by
    have := World.alloc_heap_new (w.alloc (.deferred (some []))) (.loop (rc .ready))
    rwa [sD] at this
  have hD : W1.heap[w.heap.size]? = some (.deferred (some [])) := (Below.heap_alloc _ _ _ (by rw [sD]; omega)).trans (World.alloc_heap_new w _)
  have s1 : W1.heap.size = w.heap.size + 2 := by simp [W1]
  have i1 : I [] W1 := hI.alloc _ (hI.alloc _ h0)
  have old : ∀ k, k < w.heap.size → W1.heap[k]? = w.heap[k]? := fun k hk => (Below.heap_alloc _ _ _ (by rw [sD]; omega)).trans (Below.heap_alloc _ _ _ hk)
  refine ⟨w.heap.size + 1, [{ target := .collected w.heap.size, args := #[] }], W1, { target := .fn (.func gf) #[], args := first ++ #[.func (.yield (w.heap.size + 1)) #[] #[]] }, W1, gf,
    first ++ #[.func (.yield (w.heap.size + 1)) #[] #[]], W1, run_enterLoop_outer _ _ _ _ _, ?_, ?_, ?_, fun _ => h1, ?_⟩
  · simp only [resolve, hg]
    simp [go_sem, Deferred.ofValue]
  · intro f' hf'
    simp [Target.leads] at hf'
    subst hf'
    exact hFg
  · simp [invoke, go_sem, eg]
  · -- what the caller keeps, and the two blocks of the loop
    refine (hseq (w.heap.size + 1) (fun pre W => I pre W ∧ W.heap[w.heap.size + 1]? = some (.loop (rc .ready)) ∧ W.heap[w.heap.size]? = some (.deferred (some []))) W1
      (by omega) old ⟨rfl, rfl, rfl⟩ ?_ ?_ ⟨i1, hL, hD⟩).mono ?_
    · intro s A B row hs hgr hr
      have hr2 : ∀ r, row = some r → w.heap.size ≤ r ∧ ∃ o : Obj, A.heap[r]? = some o ∧ o.isCells = false := fun r e => by
        obtain ⟨hB, o, ho, hw⟩ := hr r e
        exact ⟨by omega, o, ho, Obj.not_cells_of_walk hw⟩
      have hr3 : ∀ r, row = some r → ∃ o : Obj, A.heap[r]? = some o ∧ o.isWalk = true := fun r e => (hr r e).2
      exact ⟨hI s A B row hs.1 hgr hr2, (grownBy_keeps hgr hr3 hs.2.1 rfl).trans hs.2.1, (grownBy_keeps hgr hr3 hs.2.2 rfl).trans hs.2.2⟩
    · rintro pre x W ⟨hi, hl, hd⟩ hlen
      have hy := run_yield (P := P) (args := encs x) hl (hps x)
      refine ⟨fn, _, assign, body, hy, roundIn_of_wpIn hfn (hassign _ pre x W _ hi fun a' Wa hk hkp hi' hax => ?_)⟩
      have hl' := hk.same _ _ (by omega) hl rfl
      have hd' := hk.same _ _ (Nat.le_refl _) hd rfl
      have hlt : w.heap.size + 1 < Wa.heap.size := (Array.getElem?_eq_some_iff.1 hl').1
      refine ⟨_, run_beginRound hl' rfl, ?_⟩
      have hl2 : (Wa.putObj (w.heap.size + 1) (.loop { rc .ready with state := .busy })).heap[w.heap.size + 1]? = some (.loop { rc .ready with state := .busy }) := World.putObj_heap_same hlt
      have hd2 : (Wa.putObj (w.heap.size + 1) (.loop { rc .ready with state := .busy })).heap[w.heap.size]? = some (.deferred (some [])) := (World.putObj_heap_other (by omega)).trans hd'
      have hk2 : Kp Wa (Wa.putObj (w.heap.size + 1) (.loop { rc .ready with state := .busy })) := hKb _ _ _ _ (by omega) hl' rfl rfl
      refine wpIn_mono (hbody _ pre x a' _ (by omega) (hI.putObj _ hi' (by omega) hl' rfl) ((hAx x a').putObj (s := ()) _ hax (by omega) hl' rfl) hlen) ?_
      rintro e a3 W3 hp
      cases e with
      | normal =>
        obtain ⟨hk3, hkp3, hi3⟩ := hp
        have hl3 := hk3.same _ _ (by omega) hl2 rfl
        have hd3 := hk3.same _ _ (Nat.le_refl _) hd2 rfl
        refine ⟨_, _, run_endRound (P := P) none hl3, .intro rfl ⟨⟨hI.putObj _ hi3 (by omega) hl3 rfl, World.putObj_heap_same (Array.getElem?_eq_some_iff.1 hl3).1, (World.putObj_heap_other (by omega)).trans hd3⟩, ?_⟩⟩
        exact hKt hkp (hKt (hKt hk2 hkp3) (hKb _ _ _ _ (by omega) hl3 rfl rfl))
      | ret => exact hp.elim
      | exit id => exact hp.elim
      | goto t => exact hp.elim
      | panic ch => exact hp.elim
      | outgrown => exact hp.elim
    · rintro e W2 ⟨⟨v, rfl⟩, xs, hS, hi, hl, hd⟩
      exact ⟨none, _, run_endLoop (P := P) hl (by simp [rc]), hdone _ xs _ (Nat.le_refl _) hS (hI.putObj _ hi (by omega) hl rfl) ((World.putObj_heap_other (by omega)).trans hd)⟩
end Go.Proofs.Ytaapamoglgpocaa
