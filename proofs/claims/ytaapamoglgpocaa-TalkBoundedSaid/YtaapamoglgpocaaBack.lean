/- Walk: the iterator slices.Backward over nodes, as a contract for a loop over it. -/
import Derived.Test.YtaapamoglgpocaaRun1
import Derived.RangeFuncNested
import Derived.RangeFuncBound
import Derived.RangeFuncCalls
import Derived.RangeFuncLeaves
import Derived.Shelf.Abstract
import Derived.Shelf.RegionOpen
import Derived.WalkKit
import Derived.OwnWalkIn
import Derived.TacticsInMore
import Derived.LoopNIn
import Derived.LoopIn
namespace Go.Proofs.Ytaapamoglgpocaa
open Go.RowKit Go.Shelf
attribute [local go_sem] Oper.semAt_some

/-- What a round keeps: the blocks below n₀, but for those of S. -/
def KP (n₀ : Nat) (S : List Nat) (a w : World) : Prop := w.os = a.os ∧ w.tape = a.tape ∧ w.output = a.output ∧ a.heap.size ≤ w.heap.size ∧ ∀ k, k < n₀ → k ∉ S → w.heap[k]? = a.heap[k]?
theorem KP.refl (n₀ : Nat) (S : List Nat) (a : World) : KP n₀ S a a := ⟨rfl, rfl, rfl, Nat.le_refl _, fun _ _ _ => rfl⟩
theorem KP.trans {n₀ : Nat} {S : List Nat} {a b c : World} (h : KP n₀ S a b) (k : KP n₀ S b c) : KP n₀ S a c := by
  obtain ⟨h1, h2, h3, h4, h5⟩ := h
  obtain ⟨k1, k2, k3, k4, k5⟩ := k
  exact ⟨k1.trans h1, k2.trans h2, k3.trans h3, Nat.le_trans h4 k4, fun i hi hs => (k5 i hi hs).trans (h5 i hi hs)⟩
theorem KP.put {n₀ : Nat} {S : List Nat} (W : World) (l : Nat) (o o' : Obj) (hl : n₀ ≤ l) (h : W.heap[l]? = some o) : KP n₀ S W (W.putObj l o') := by
  have hg := grownBy_putObj' W l o'
  exact ⟨hg.os, hg.tape, hg.output, hg.size, fun k hk _ => by
    by_cases hlt : k < W.heap.size
    · exact hg.block k hlt (fun e => by cases e; omega)
    · have := (Array.getElem?_eq_some_iff.1 h).1; omega⟩
theorem KP.ofChg {n₀ : Nat} {S : List Nat} {a w : World} (h : Chg S a w) (hn : n₀ ≤ a.heap.size) : KP n₀ S a w := ⟨h.os, h.tape, h.output, h.size, fun k hk hs => h.block k (by omega) hs⟩
theorem KP.mono {n₀ : Nat} {S T : List Nat} {a w : World} (h : KP n₀ S a w) (hS : ∀ x ∈ S, x ∈ T ∨ n₀ ≤ x) : KP n₀ T a w := by
  obtain ⟨h1, h2, h3, h4, h5⟩ := h
  exact ⟨h1, h2, h3, h4, fun k hk hs => h5 k hk (fun hm => by rcases hS k hm with h | h <;> first | exact hs h | omega)⟩
theorem KP.cell {n₀ : Nat} {S : List Nat} {a w : World} (h : KP n₀ S a w) {p : Addr} (hb : p.block < n₀) (hs : p.block ∉ S) : w.cell? p = a.cell? p := World.cell?_of_block (h.2.2.2.2 _ hb hs)

/-- The nodes of a slice, where they lie. -/
def NodesAt (W : World) (a : Addr) (ps : List Nd) : Prop := ∀ i, i < ps.length → ∀ k u, (ndCells (ps.getD i nd0))[k]? = some u → W.cell? (a.add (i * 6 + k)) = some u
theorem NodesAt.keep {n₀ : Nat} {S : List Nat} {W w : World} {a : Addr} {ps : List Nd} (h : NodesAt W a ps) (hk : KP n₀ S W w) (hb : a.block < n₀) (hs : a.block ∉ S) : NodesAt w a ps :=
  fun i hi k u hu => (hk.cell (by rw [add_block]; exact hb) (by rw [add_block]; exact hs)).trans (h i hi k u hu)
theorem NodesAt.cells {W : World} {a : Addr} {ps : List Nd} (h : NodesAt W a ps) {i : Nat} (hi : i < ps.length) :
    W.cell? (a.add (i * 6)) = some (.bool (ps.getD i nd0).leaf) ∧ W.cell? ⟨(a.add (i * 6)).block, (a.add (i * 6)).off + 1, none⟩ = some (.int .i64 (ps.getD i nd0).val) ∧ W.cell? ⟨(a.add (i * 6)).block, (a.add (i * 6)).off + 2, none⟩ = some (.int .i64 (ps.getD i nd0).who) ∧
    W.cell? ⟨(a.add (i * 6)).block, (a.add (i * 6)).off + 3, none⟩ = some (.int .i64 (ps.getD i nd0).set) ∧ W.cell? ⟨(a.add (i * 6)).block, (a.add (i * 6)).off + 4, none⟩ = some (.int .i64 (ps.getD i nd0).no) ∧ W.cell? ⟨(a.add (i * 6)).block, (a.add (i * 6)).off + 5, none⟩ = some (.int .i64 (ps.getD i nd0).yes) := by
  have key := h i hi
  refine ⟨key 0 _ rfl, ?_, ?_, ?_, ?_, ?_⟩
  · rw [← add_in a (i * 6) (j := 1) (by omega)]; exact key 1 _ rfl
  · rw [← add_in a (i * 6) (j := 2) (by omega)]; exact key 2 _ rfl
  · rw [← add_in a (i * 6) (j := 3) (by omega)]; exact key 3 _ rfl
  · rw [← add_in a (i * 6) (j := 4) (by omega)]; exact key 4 _ rfl
  · rw [← add_in a (i * 6) (j := 5) (by omega)]; exact key 5 _ rfl
/-- What has come: the indices from the last one down to k. -/
def downN (L k : Nat) : List Nat := (List.range (L - k)).map (fun j => L - 1 - j)
theorem downN_all (L : Nat) : downN L L = [] := by unfold downN; simp
theorem downN_more (L k : Nat) (h : k < L) : downN L k = downN L (k + 1) ++ [k] := by
  unfold downN
  rw [show L - k = (L - (k + 1)) + 1 by omega, List.range_succ, List.map_append]
  simp
  omega
theorem downN_len (L k : Nat) : (downN L k).length = L - k := by unfold downN; simp
abbrev Ix (L : Nat) := { i : Nat // i < L }
def encN (ps : List Nd) (x : Ix ps.length) : Array Value := #[.int .i64 (x.1 : Int), .agg (ndCells (ps.getD x.1 nd0))]

set_option maxRecDepth 100000 in
set_option maxHeartbeats 2000000 in
theorem back_in (F : Fence) (n : Nat) (hF : F.fn 106) (hro : F.round = none) (hn : 1 ≤ n) (l Bs n₀ cap : Nat) (a : Addr) (S : List Nat) (ps : List Nd) (hl : ps.length ≤ 1000) (hb : a.block < n₀ ∧ a.block ∉ S) (hB : Bs < n₀ ∧ Bs ∉ S) (J Jx : List (Ix ps.length) → World → Prop)
    (hY : ∀ pre x W, J pre W → pre.length < ps.length → YieldAt F (n - 1) Try.prog l (encN ps x) W fun e W' =>
      (e = .returned (.bool true) ∧ J (pre ++ [x]) W' ∧ KP n₀ S W W') ∨ (e = .returned (.bool false) ∧ Jx (pre ++ [x]) W'))
    (W : World) (hBs : W.cell? ⟨Bs, 0, none⟩ = some (.slice (some a) ps.length cap)) (hc : NodesAt W a ps) (h0 : J [] W) :
    CallsIn F n Try.prog 106 #[.func (.yield l) #[] #[], .pointer (some ⟨Bs, 0, none⟩)] W fun e W' => (∃ v, e = .returned v) ∧
      ((∃ ys, ys.map Subtype.val = downN ps.length 0 ∧ J ys W') ∨ (∃ pre, (∃ k, k ≤ ps.length ∧ pre.map Subtype.val = downN ps.length k) ∧ Jx pre W')) := by
  refine callsIn_of_wp Try.func106 rfl hF ?_ hro
  simp only [Try.ntmps106, List.size_toArray, List.length_cons, List.length_nil, Nat.reduceAdd, Nat.reduceSub, Array.replicate_succ, Array.replicate_zero, List.push_toArray, List.append_toArray, List.nil_append, List.cons_append]
  obtain ⟨L, hL⟩ : ∃ L, L = ps.length := ⟨_, rfl⟩
  have HL := hide hL
  have hl' : L ≤ 1000 := by omega
  rw [← hL] at hBs
  gi_wp2
  gi_loopw [3] (fun i wr => ∃ k : Nat, k ≤ L ∧ i = .int .i64 ((k : Int) - 1) ∧ (∃ pre : List (Ix ps.length), pre.map Subtype.val = downN ps.length k ∧ J pre wr) ∧ KP n₀ S W wr)
    (fun i _ => (intOf i + 1).toNat)
  case atStart => exact ⟨L, Nat.le_refl _, by go_num, ⟨[], by rw [HL.out, downN_all]; rfl, h0⟩, KP.refl _ _ _⟩
  case round =>
    obtain ⟨k, hk, rfl, ⟨pre, hpre, hJs⟩, hnx⟩ := hrel
    by_cases hj0 : k = 0
    · subst hj0
      have e0 : ((0 : Nat) : Int) - 1 = -1 := rfl
      rw [e0]
      have d1 : decide ((0 : Int) ≤ -1) = false := by decide
      clear e0
      gi_wp2
      go_end0
      exact ⟨⟨_, rfl⟩, .inl ⟨pre, hpre, hJs⟩⟩
    · obtain ⟨j, rfl⟩ : ∃ j, k = j + 1 := ⟨k - 1, by omega⟩
      have e0 : ((j + 1 : Nat) : Int) - 1 = (j : Int) := by omega
      rw [e0]
      have d1 : decide ((0 : Int) ≤ (j : Int)) = true := by simp
      have hjl : j < ps.length := by rw [← HL.out]; omega
      obtain ⟨m0, m1, m2, m3, m4, m5⟩ := (hc.keep hnx hb.1 hb.2).cells hjl
      have hBs' : wr.cell? ⟨Bs, 0, none⟩ = some (.slice (some a) L cap) := (hnx.cell (p := ⟨Bs, 0, none⟩) hB.1 hB.2).trans hBs
      have hplen : pre.length < ps.length := by
        have := congrArg List.length hpre
        rw [List.length_map, downN_len] at this
        omega
      obtain ⟨fn, tmps, assign, body, hy, hR⟩ := hY pre ⟨j, hjl⟩ wr hJs hplen
      have hgo : (pre ++ [(⟨j, hjl⟩ : Ix ps.length)]).map Subtype.val = downN ps.length j := by
        rw [List.map_append, hpre, downN_more ps.length j hjl]
        rfl
      unfold encN ndCells at hy
      dsimp only at hy
      generalize hx : ps.getD j nd0 = x at m0 m1 m2 m3 m4 m5 hy
      have hi0 : (0 : Int) ≤ (j : Int) := by omega
      have hi1 : (j : Int) < (L : Int) := by omega
      have HG := hide hgo
      have HN := hide hnx
      clear e0 hj0 hx hc hgo hpre hplen hnx
      gi_wp2
      refine hR.mono ?_
      rintro e W3 (⟨rfl, hJ3, hk3⟩ | ⟨rfl, hJx3⟩)
      · gi_wp2
        go_roundw
        case rel => exact ⟨j, by omega, by go_num, ⟨_, HG.out, hJ3⟩, HN.out.trans hk3⟩
        case measure => simp [intOf]
      · gi_wp2
        refine bodyPost_ret (results_none rfl _ _ _) rfl ?_
        exact ⟨⟨_, rfl⟩, .inr ⟨_, ⟨j, by omega, HG.out⟩, hJx3⟩⟩

set_option maxRecDepth 100000 in
set_option maxHeartbeats 1000000 in
theorem Backward_any (a : Option Addr) (len cap : Nat) (w : World) :
    Calls Try.prog 74 #[.slice a len cap] w fun e w' => e = .returned (.func (.func 106) #[] #[.pointer (some ⟨w.heap.size, 0, none⟩)]) ∧ w' = w.alloc (.cells #[.slice a len cap] 23) := by
  go_enter Try.func74, Try.ntmps74
  go_wp2
  go_ret
  exact ⟨rfl, rfl⟩
/-- The value that Backward hands back gives every node, from the last one to the first one. -/
theorem back_stops (F : Fence) (n : Nat) (hF : F.fn 106) (hro : F.round = none) (hn : 1 ≤ n) (Bs n₀ cap : Nat) (a : Addr) (S : List Nat) (ps : List Nd) (hl : ps.length ≤ 1000) (w : World) (hb : a.block < n₀ ∧ a.block ∉ S) (hB : Bs < n₀ ∧ Bs ∉ S) (hn₀ : n₀ ≤ w.heap.size)
    (hBs : w.cell? ⟨Bs, 0, none⟩ = some (.slice (some a) ps.length cap)) (hc : NodesAt w a ps) :
    SeqStopsK F n Try.prog 106 #[.pointer (some ⟨Bs, 0, none⟩)] (encN ps) (KP n₀ S) (fun ys => ys.map Subtype.val = downN ps.length 0)
      (fun pre => ∃ k, k ≤ ps.length ∧ pre.map Subtype.val = downN ps.length k) ps.length w := fun l J Jx W hW _ _ hY h0 => by
  have hk : KP n₀ S w W := ⟨hW.os, hW.tape, hW.output, hW.size, fun k hk _ => hW.block k (by omega)⟩
  exact back_in F n hF hro hn l Bs n₀ cap a S ps hl hb hB J Jx hY W ((hk.cell (p := ⟨Bs, 0, none⟩) hB.1 hB.2).trans hBs) (hc.keep hk hb.1 hb.2) h0
end Go.Proofs.Ytaapamoglgpocaa
