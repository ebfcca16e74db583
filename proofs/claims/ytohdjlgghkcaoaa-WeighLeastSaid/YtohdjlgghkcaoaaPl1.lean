/- Walks: the slots. The memory in which they are gathered. -/
import Derived.Test.YtohdjlgghkcaoaaS10
import Derived.Test.YtohdjlgghkcaoaaPlanPlain
import Derived.Test.YtohdjlgghkcaoaaHalt
import Derived.Deep.AppendLies
import Derived.Deep.RegionHeld3
namespace Go.Proofs.Ytohdjlgghkcaoaa
open Go.RowKit

/-- A value's block is new, or none. -/
theorem Chg.set (w : World) (p : Addr) (u : Value) : Chg [p.block] w (w.setCell p u) := (Chg.refl _ _).setCell (.inl (by simp)) u
theorem row_set {w : World} {base n size : Nat} {e : TypeId} {v : Value} {xs : List Value} (h : w.ownsRow base e size v n xs) {p : Addr} (hp : p.block < base) (u : Value) : (w.setCell p u).ownsRow base e size v n xs :=
  (Chg.set w p u).row h (fun g hg => by
    have := (h.lt g hg).1
    simp
    omega)
theorem row_apart {w : World} {base base' n m : Nat} {e e' : TypeId} {size size' : Nat} {v u : Value} {xs ys : List Value} (h : w.ownsRow base e size v n xs) (h' : w.ownsRow base' e' size' u m ys) (hne : e ≠ e') : v.ownBlock = none ∨ v.ownBlock ≠ u.ownBlock := by
  rcases h.2 with ⟨rfl, _⟩ | ⟨g, cap, cur, rfl, _, hh, _⟩
  · exact .inl rfl
  · refine .inr fun e0 => ?_
    rcases h'.2 with ⟨rfl, _⟩ | ⟨g', cap', cur', rfl, _, hh', _⟩
    · cases e0
    · simp only [Value.ownBlock, Option.some.injEq] at e0
      subst e0
      rw [hh] at hh'
      simp at hh'
      exact hne hh'.2
theorem row_short {w : World} {base : Nat} {ao : Option Addr} {n cap : Nat} {xs : List Value} {x : Value} {e : TypeId} (h : w.ownsRow base e 1 (.slice ao (n + 1) cap) (n + 1) (xs ++ [x])) (hl : xs.length = n) : w.ownsRow base e 1 (.slice ao n cap) n xs := by
  refine ⟨by omega, ?_⟩
  rcases h.2 with ⟨e0, h0⟩ | ⟨g, cap', cur, e0, hb, hg, hle, hcap, hsz, ht⟩
  · omega
  · cases e0
    refine .inr ⟨g, cap, cur, rfl, hb, hg, by omega, hcap, hsz, ?_⟩
    have : (cur.toList.take ((n + 1) * 1)).take n = xs := by rw [ht, List.take_append_of_le_length (by omega), List.take_of_length_le (by omega)]
    rw [List.take_take] at this
    rw [← this]
    congr 1
    omega
theorem box_grown {w w' : World} {base n size B : Nat} {e T : TypeId} {v : Value} {xs : List Value} {cs : Array Value} (hB : Box w B cs T) (h : w.ownsRow base e size v n xs) (hg : w.grownBy w' v.ownBlock) (hlt : B < base) : Box w' B cs T :=
  (hg.block B hB.lt (fun e0 => by have := (h.lt B e0.symm).1; omega)).trans hB
theorem chg_grown {S : List Nat} {W0 w w' : World} {base n size : Nat} {e : TypeId} {v : Value} {xs : List Value} (hc : Chg S W0 w) (h : w.ownsRow base e size v n xs) (hb : W0.heap.size ≤ base) (hg : w.grownBy w' v.ownBlock) : Chg S W0 w' :=
  hc.grown hg (fun k hk => .inr (Nat.le_trans hb (h.lt k hk).1))
theorem row_shape {w : World} {base n size : Nat} {e : TypeId} {v : Value} {xs : List Value} (h : w.ownsRow base e size v n xs) : ∃ ao cap, v = .slice ao n cap ∧ n ≤ cap := by
  rcases h.2 with ⟨rfl, rfl⟩ | ⟨g, cap, cur, rfl, _, _, hle, _⟩
  · exact ⟨_, _, rfl, Nat.le_refl _⟩
  · exact ⟨_, _, rfl, hle⟩

/-- Rows that are this call's own, none in this block, in a slice that is its own. -/
def RowsX (w : World) (base : Nat) (blk : Option Nat) (vo : Value) (outs : List (List Int)) : Prop :=
  ∃ us : List Value, us.length = outs.length ∧ w.ownsRow base 51 1 vo outs.length us ∧
    ∀ i u, us[i]? = some u → w.ownsRow base 3 1 u (outs.getD i []).length ((outs.getD i []).map (Value.int .i64)) ∧ (u.ownBlock = none ∨ u.ownBlock ≠ blk)
theorem ints_ne : (51 : TypeId) ≠ 3 := by decide
theorem RowsX.chg {w w' : World} {base : Nat} {blk : Option Nat} {vo : Value} {outs : List (List Int)} {S : List Nat} (h : RowsX w base blk vo outs) (hc : Chg S w w') (hS : ∀ s ∈ S, s < base) : RowsX w' base blk vo outs := by
  obtain ⟨us, h1, h2, h3⟩ := h
  refine ⟨us, h1, hc.row h2 (fun g hg hs => by have := hS g hs; have := (h2.lt g hg).1; omega), fun i u hu => ⟨hc.row (h3 i u hu).1 (fun g hg hs => by have := hS g hs; have := ((h3 i u hu).1.lt g hg).1; omega), (h3 i u hu).2⟩⟩
/-- A number is appended to the other row. -/
theorem RowsX.push {w w' : World} {base n : Nat} {vv vv' : Value} {vo : Value} {outs : List (List Int)} {xs : List Value} (h : RowsX w base vv.ownBlock vo outs) (hv : w.ownsRow base 3 1 vv n xs) (hg : w.grownBy w' vv.ownBlock) (hat : vv'.ownBlock = vv.ownBlock ∨ vv'.ownBlock = some w.heap.size) : RowsX w' base vv'.ownBlock vo outs := by
  obtain ⟨us, h1, h2, h3⟩ := h
  refine ⟨us, h1, h2.kept hg (row_apart h2 hv ints_ne), fun i u hu => ⟨(h3 i u hu).1.kept hg (h3 i u hu).2, ?_⟩⟩
  rcases hat with h | h
  · rw [h]; exact (h3 i u hu).2
  · rw [h]
    cases hb : u.ownBlock with
    | none => exact .inl rfl
    | some g =>
      have := ((h3 i u hu).1.lt g hb).2
      refine .inr (fun e => ?_)
      cases e
      omega
/-- A row is appended. -/
theorem RowsX.add {w w' : World} {base : Nat} {blk : Option Nat} {vo vo' u : Value} {outs : List (List Int)} {us : List Value} {xs : List Int} (h1 : us.length = outs.length) (h2 : w.ownsRow base 51 1 vo outs.length us)
    (h3 : ∀ i u, us[i]? = some u → w.ownsRow base 3 1 u (outs.getD i []).length ((outs.getD i []).map (Value.int .i64)) ∧ (u.ownBlock = none ∨ u.ownBlock ≠ blk))
    (hu : w.ownsRow base 3 1 u xs.length (xs.map (Value.int .i64))) (hub : u.ownBlock = none ∨ u.ownBlock ≠ blk) (hg : w.grownBy w' vo.ownBlock) (ho' : w'.ownsRow base 51 1 vo' (outs.length + 1) (us ++ [u])) : RowsX w' base blk vo' (outs ++ [xs]) := by
  refine ⟨us ++ [u], by simp [h1], by simpa using ho', fun i u' hi => ?_⟩
  rcases Nat.lt_or_ge i us.length with h | h
  · rw [List.getElem?_append_left h] at hi
    rw [List.getD_eq_getElem?_getD, List.getElem?_append_left (by omega), ← List.getD_eq_getElem?_getD]
    exact ⟨(h3 i u' hi).1.kept hg (row_apart (h3 i u' hi).1 h2 (Ne.symm ints_ne)), (h3 i u' hi).2⟩
  · rw [List.getElem?_append_right h] at hi
    have hi0 : i - us.length = 0 := by
      rcases Nat.eq_zero_or_pos (i - us.length) with h' | h'
      · exact h'
      · rw [List.getElem?_eq_none (by simp; omega)] at hi; cases hi
    rw [hi0] at hi
    simp at hi
    subst hi
    have e : i = outs.length := by omega
    rw [List.getD_eq_getElem?_getD, e, List.getElem?_append_right (Nat.le_refl _)]
    simp only [Nat.sub_self, List.getElem?_cons_zero, Option.getD_some]
    exact ⟨hu.kept hg (row_apart hu h2 (Ne.symm ints_ne)), hub⟩
theorem RowsX.toRows2 {w : World} {base : Nat} {blk : Option Nat} {vo : Value} {outs : List (List Int)} (h : RowsX w base blk vo outs) : Rows2 w base vo outs := by
  obtain ⟨us, h1, h2, h3⟩ := h
  exact ⟨us, h1, h2, fun i u hu => row_low (h3 i u hu).1 (Nat.zero_le _)⟩

/-- The memory of the slots' search: the row so far, what is gathered. -/
def SlotSt (W0 : World) (Bk Bo Bv Bg k : Nat) (w : World) (cur : List Int) (outs : List (List Int)) : Prop :=
  ∃ vv vo : Value, Box w Bk #[.int .i64 (k : Int)] 3 ∧ Box w Bg #[.func (.func 87) #[] #[.pointer (some ⟨Bv, 0, none⟩), .pointer (some ⟨Bk, 0, none⟩), .pointer (some ⟨Bo, 0, none⟩), .pointer (some ⟨Bg, 0, none⟩)]] 109 ∧
    Box w Bv #[vv] 51 ∧ Box w Bo #[vo] 62 ∧ w.ownsRow W0.heap.size 3 1 vv cur.length (cur.map (Value.int .i64)) ∧ RowsX w W0.heap.size vv.ownBlock vo outs ∧ Chg [Bv, Bo] W0 w
theorem call87 (args : Array Value) (W : World) : (callFunc 87 args).run Try.prog W = .ok (.enter 87 args) W := by kernel_rfl
end Go.Proofs.Ytohdjlgghkcaoaa
