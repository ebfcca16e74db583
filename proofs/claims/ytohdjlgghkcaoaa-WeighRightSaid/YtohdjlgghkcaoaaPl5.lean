/- Walks: the search for a plan: a slot taken and given back. -/
import Derived.Test.YtohdjlgghkcaoaaPl4
namespace Go.Proofs.Ytohdjlgghkcaoaa
open Go.RowKit

theorem ints_box {w : World} {B : Nat} {cs : Array Value} {u : Value} {xs : List Int} {T : TypeId} (hB : Box w B cs T) (hu : Ints w u xs) (hT : T ≠ 3) : ∀ g, u.ownBlock = some g → g ≠ B := by
  intro g hg e
  subst e
  rcases hu.2 with ⟨rfl, _⟩ | ⟨g', cap, cur, rfl, _, hh, _⟩
  · cases hg
  · simp only [Value.ownBlock, Option.some.injEq] at hg
    subst hg
    have := hB.symm.trans hh
    simp at this
    exact hT this.2
theorem Rows2.short {w : World} {base n cap : Nat} {ao : Option Addr} {t : List (List Int)} {x : List Int} (h : Rows2 w base (.slice ao (n + 1) cap) (t ++ [x])) (hl : t.length = n) : Rows2 w base (.slice ao n cap) t := by
  obtain ⟨us, h1, h2, h3⟩ := h
  have hl1 : us.length = n + 1 := by rw [h1]; simp [hl]
  have hne : us ≠ [] := by rintro rfl; simp at hl1
  have e : us = us.dropLast ++ [us.getLast hne] := (List.dropLast_concat_getLast hne).symm
  refine ⟨us.dropLast, by simp [hl1, hl], ?_, fun i u hu => ?_⟩
  · have h2' := h2
    rw [List.length_append, hl] at h2'
    simp only [List.length_singleton] at h2'
    rw [e] at h2'
    rw [hl]
    exact row_short h2' (by simp [hl1])
  · have hi : i < us.dropLast.length := by
      rcases Nat.lt_or_ge i us.dropLast.length with h | h
      · exact h
      · rw [List.getElem?_eq_none h] at hu; cases hu
    have hu' : us[i]? = some u := by rw [e, List.getElem?_append_left hi]; exact hu
    have := h3 i u hu'
    simp [hl1] at hi
    rw [List.getD_eq_getElem?_getD, List.getElem?_append_left (by omega), ← List.getD_eq_getElem?_getD] at this
    exact this
theorem Rows2.set {w : World} {base : Nat} {v : Value} {t : List (List Int)} {B : Nat} {cs : Array Value} {T : TypeId} (h : Rows2 w base v t) (hB : Box w B cs T) (hT : T ≠ 3) (hlt : B < base) (u : Value) : Rows2 (w.setCell ⟨B, 0, none⟩ u) base v t := by
  obtain ⟨us, h1, h2, h3⟩ := h
  exact ⟨us, h1, row_set h2 hlt u, fun i x hx => (h3 i x hx).move (Chg.set w ⟨B, 0, none⟩ u) (fun g hg hs => by simp at hs; exact ints_box hB (h3 i x hx) hT g hg hs)⟩

theorem ne62 : (62 : TypeId) ≠ 3 := by decide

theorem plan_push {w1 W0 wr wn : World} {Bp Bc Ba Bg coins k g cap' cap : Nat} {va : Value} {ao : Option Addr} {p : List (List Int)} {x : List Int} {xv : Value} (hB : Bp < W0.heap.size ∧ Bc < W0.heap.size ∧ Ba < W0.heap.size ∧ Bg < W0.heap.size) (n1 : Bp ≠ Bc) (n2 : Bp ≠ Ba) (n3 : Bp ≠ Bg) (hw1 : w1.heap.size ≤ Bp)
    (h : PlanSt w1 W0 Bp Bc Ba Bg coins k va wr (.slice ao p.length cap) p) (hx : Ints wr xv x) (hrk : W.rowOk k x = true) (o : Obj) (us : List Value) (hl : us.length = p.length) (ho : wr.ownsRow W0.heap.size 51 1 (.slice ao p.length cap) p.length us) (hr : ∀ i u, us[i]? = some u → Ints wr u (p.getD i []))
    (hown : wn.ownsRow W0.heap.size 51 1 (.slice (some ⟨g, 0, none⟩) (p.length + 1) cap') (p.length + 1) (us ++ [xv])) (hgrow : (wr.alloc o).grownBy wn (Value.slice ao p.length cap).ownBlock)
    (hat : (Value.slice ao p.length cap).ownBlock = some g ∨ g = wr.heap.size + 1) :
    PlanSt w1 W0 Bp Bc Ba Bg coins k va (wn.setCell ⟨Bp, 0, none⟩ (.slice (some ⟨g, 0, none⟩) (p.length + 1) cap')) (.slice (some ⟨g, 0, none⟩) (p.length + 1) cap') (p ++ [x]) ∧
    Chg (blks Bp (.slice ao p.length cap)) wr (wn.setCell ⟨Bp, 0, none⟩ (.slice (some ⟨g, 0, none⟩) (p.length + 1) cap')) ∧ Near wr (.slice ao p.length cap) (.slice (some ⟨g, 0, none⟩) (p.length + 1) cap') := by
  obtain ⟨b1, b2, b3, b4, _, hrp, hch, hch1⟩ := h
  have kA : Chg [] wr (wr.alloc o) := (Chg.refl _ _).alloc _
  have oA := ho.alloc o
  have q1 := box_grown (b1.old o) oA hgrow hB.1
  have hR := Rows2.push (w := wr.alloc o) hl oA (fun i u hu => (hr i u hu).keep kA) (hx.keep kA) hgrow hown
  have hW0 := hch.size
  have hbase : wr.heap.size ≤ wn.heap.size := by have := hgrow.size; simp at this; omega
  refine ⟨⟨q1.set1 _, (box_grown (b2.old o) oA hgrow hB.2.1).set' (Ne.symm n1) _, (box_grown (b3.old o) oA hgrow hB.2.2.1).set' (Ne.symm n2) _, (box_grown (b4.old o) oA hgrow hB.2.2.2).set' (Ne.symm n3) _, hR.set q1 ne62 hB.1 _, ?_, (chg_grown (hch.alloc o) oA (Nat.le_refl _) hgrow).setCell (.inl (by simp)) _, (chg_grown (hch1.alloc o) oA (by omega) hgrow).setCell (.inr hw1) _⟩, ?_, ?_⟩
  · intro r hr'
    rcases List.mem_append.1 hr' with h | h
    · exact hrp r h
    · rw [List.mem_singleton.1 h]; exact hrk
  · refine Chg.setCell (p := ⟨Bp, 0, none⟩) ?_ (.inl (mem_blks.2 (.inl rfl))) _
    refine (kA.toAny).grown hgrow (fun q hq => .inl (mem_blks.2 (.inr hq)))
  · intro q hq
    simp only [Value.ownBlock, Option.some.injEq] at hq
    subst hq
    rcases hat with h | h
    · exact .inl h
    · exact .inr (by omega)
theorem plan_pop {w1 W0 w : World} {Bp Bc Ba Bg coins k : Nat} {va vp : Value} {p : List (List Int)} {x : List Int} (hB : Bp < W0.heap.size ∧ Bc < W0.heap.size ∧ Ba < W0.heap.size ∧ Bg < W0.heap.size) (n1 : Bp ≠ Bc) (n2 : Bp ≠ Ba) (n3 : Bp ≠ Bg) (hw1 : w1.heap.size ≤ Bp)
    (h : PlanSt w1 W0 Bp Bc Ba Bg coins k va w vp (p ++ [x])) : ∃ g cap, vp = .slice (some ⟨g, 0, none⟩) (p.length + 1) cap ∧ p.length + 1 ≤ cap ∧
      PlanSt w1 W0 Bp Bc Ba Bg coins k va (w.setCell ⟨Bp, 0, none⟩ (.slice (some ⟨g, 0, none⟩) p.length cap)) (.slice (some ⟨g, 0, none⟩) p.length cap) p ∧ Chg (blks Bp vp) w (w.setCell ⟨Bp, 0, none⟩ (.slice (some ⟨g, 0, none⟩) p.length cap)) ∧ Near w vp (.slice (some ⟨g, 0, none⟩) p.length cap) := by
  obtain ⟨b1, b2, b3, b4, hx, hrp, hch, hch1⟩ := h
  have hx' := hx
  obtain ⟨us, u1, u2, u3⟩ := hx'
  have hl : (p ++ [x]).length = p.length + 1 := by simp
  rw [hl] at u2
  rcases u2.2 with ⟨_, h0⟩ | ⟨g, cap, cur, rfl, hb, hg, hle, _⟩
  · omega
  · refine ⟨g, cap, rfl, hle, ⟨b1.set1 _, b2.set' (Ne.symm n1) _, b3.set' (Ne.symm n2) _, b4.set' (Ne.symm n3) _, (hx.short rfl).set b1 ne62 hB.1 _, fun r hr => hrp r (List.mem_append_left _ hr), hch.setCell (.inl (by simp)) _, hch1.setCell (.inr hw1) _⟩, (Chg.refl _ _).setCell (p := ⟨Bp, 0, none⟩) (.inl (mem_blks.2 (.inl rfl))) _, fun q hq => .inl hq⟩
end Go.Proofs.Ytohdjlgghkcaoaa
