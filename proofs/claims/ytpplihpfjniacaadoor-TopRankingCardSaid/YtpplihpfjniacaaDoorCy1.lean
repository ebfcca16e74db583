/- Walk: tournaments: beats; cycles: what its loops keep. -/
import Derived.Test.YtpplihpfjniacaaDoorTrp
import Derived.Test.YtpplihpfjniacaaDoorOrP
namespace Go.Proofs.YtpplihpfjniacaaDoor
open Go.RowKit Go.Shelf
attribute [local go_sem] Oper.semAt_some

/-- A tournament's slice. -/
structure TourAt (w : World) (vt : Value) (l : List Int) (a : Addr) (cap : Nat) : Prop where
  eq : vt = .slice (some a) l.length cap
  cell : ∀ wr, Chg [] w wr → ∀ i, i < l.length → wr.cell? (a.add i) = some (.int .i64 (tb l i : Int))
theorem tour_at {w : World} {vt : Value} {l : List Int} (T : Tr.Tour l) (hv : See w vt l) : ∃ a cap, TourAt w vt l a cap := by
  have hne : l ≠ [] := fun e => by have := T.len.1; rw [e] at this; simp at this
  obtain ⟨a, cap, e, hc⟩ := hv.open hne
  exact ⟨a, cap, e, fun wr hw i hi => by rw [hc wr hw i hi, T.val i hi]⟩
theorem TourAt.keep {w w' : World} {vt : Value} {l : List Int} {a : Addr} {cap : Nat} (h : TourAt w vt l a cap) (hc : Chg [] w w') : TourAt w' vt l a cap := ⟨h.eq, fun wr hw i hi => h.cell wr (hc.trans hw) i hi⟩

set_option maxRecDepth 100000 in
theorem beats_any (w : World) (vt : Value) (l : List Int) (a : Addr) (cap i j : Nat) (h : TourAt w vt l a cap) (T : Tr.Tour l) (hi : i < l.length) (hj : j < 64) :
    Calls Tryd.prog 77 #[vt, .int .i64 (i : Int), .int .i64 (j : Int)] w (Ret (.bool (Tr.bt l i j)) w) := by
  have fx := h.cell w (Chg.refl _ _) i hi
  have HR : Hid (Tr.bt l i j = (tb l i).testBit j) := hide rfl
  have ep := pt_bit (s := tb l i) (x := j) (by have := tb_lt T i; omega)
  rw [h.eq]
  generalize Tr.bt l i j = R at *
  have i0 : (0 : Int) ≤ (i : Int) := by omega
  have i1 : (i : Int) < (l.length : Int) := by omega
  have j0 : (0 : Int) ≤ (j : Int) := by omega
  have j1 : (j : Int) < 64 := by omega
  generalize tb l i = s at *
  generalize l.length = n at *
  clear h T hi hj
  cases hb : s.testBit j with
  | true =>
    rw [hb, if_pos rfl] at ep
    rw [hb] at HR
    clear hb
    go_enter Tryd.func77, Tryd.ntmps77
    go_wp2
    go_ret
    exact ⟨by rw [HR.out]; rfl, Chg.refl _ _⟩
  | false =>
    rw [hb, if_neg (by decide)] at ep
    rw [hb] at HR
    clear hb
    go_enter Tryd.func77, Tryd.ntmps77
    go_wp2
    go_ret
    exact ⟨by rw [HR.out]; rfl, Chg.refl _ _⟩

/-- The cycles that were found. -/
def Sound (l : List Int) (ts : List Tri) : Prop := ∀ t ∈ ts, ∃ x y z : Nat, t = ((x : Int), (y : Int), (z : Int)) ∧ Tr.bt l x y = true ∧ Tr.bt l y z = true ∧ Tr.bt l z x = true
def OutC (l : List Int) (ts : List Tri) (a : Nat) : Prop := ts = [] → ∀ a', a' < a → ∀ b c, Tr.bt l a' b = true → Tr.bt l b c = true → a' < b → a' < c → Tr.bt l c a' = false
def MidC (l : List Int) (ts : List Tri) (a Y : Nat) : Prop := OutC l ts a ∧ (ts = [] → ∀ b, Tr.bt l a b = true → Y.testBit b = false → ∀ c, Tr.bt l b c = true → a < b → a < c → Tr.bt l c a = false)
def InC (l : List Int) (ts : List Tri) (a Y b Y2 : Nat) : Prop := MidC l ts a Y ∧ (ts = [] → ∀ c, Tr.bt l b c = true → Y2.testBit c = false → a < b → a < c → Tr.bt l c a = false)
theorem mid_start {l : List Int} {ts : List Tri} {a : Nat} (h : OutC l ts a) : MidC l ts a (tb l a) := ⟨h, fun _ b hb hn => by unfold Tr.bt at hb; rw [hb] at hn; cases hn⟩
theorem in_start {l : List Int} {ts : List Tri} {a Y b : Nat} (h : MidC l ts a Y) : InC l ts a Y b (tb l b) := ⟨h, fun _ c hc hn => by unfold Tr.bt at hc; rw [hc] at hn; cases hn⟩
theorem out_next {l : List Int} {ts : List Tri} {a : Nat} (h : MidC l ts a 0) : OutC l ts (a + 1) := fun e a' ha b c h1 h2 h3 h4 => by
  by_cases hx : a' = a
  · subst hx
    exact h.2 e b h1 (by simp) c h2 h3 h4
  · exact h.1 e a' (by omega) b c h1 h2 h3 h4
theorem mid_next {l : List Int} {ts : List Tri} {a Y : Nat} (h0 : Y ≠ 0) (hY : Y < 65536) (h : InC l ts a Y (Lib.ctz 64 Y) 0) : MidC l ts a (Y &&& (Y - 1)) := ⟨h.1.1, fun e b h1 h2 c h3 h4 h5 => by
  have hl := (Fam.low_test h0 (show Y < 2 ^ 64 by omega) b).2.2
  rw [hl] at h2
  by_cases hx : b = Lib.ctz 64 Y
  · subst hx
    exact h.2 e c h3 (by simp) h4 h5
  · exact h.1.2 e b h1 (by simpa [hx] using h2) c h3 h4 h5⟩
theorem in_next {l : List Int} {ts : List Tri} {a Y b Y2 : Nat} (h0 : Y2 ≠ 0) (hY : Y2 < 65536) (h : InC l ts a Y b Y2) (hc : a < b → a < Lib.ctz 64 Y2 → Tr.bt l (Lib.ctz 64 Y2) a = false) : InC l ts a Y b (Y2 &&& (Y2 - 1)) := ⟨h.1, fun e c h1 h2 h3 h4 => by
  have hl := (Fam.low_test h0 (show Y2 < 2 ^ 64 by omega) c).2.2
  rw [hl] at h2
  by_cases hx : c = Lib.ctz 64 Y2
  · subst hx
    exact hc h3 h4
  · exact h.2 e c h1 (by simpa [hx] using h2) h3 h4⟩
theorem in_some {l : List Int} {ts : List Tri} {a Y b Y2 : Nat} (h : ts ≠ []) : InC l ts a Y b Y2 := ⟨⟨fun e => absurd e h, fun e => absurd e h⟩, fun e => absurd e h⟩
/-- All cycles, each from its least player on. -/
theorem acy_iff {l : List Int} (T : Tr.Tour l) {ts : List Tri} (hs : Sound l ts) (hc : OutC l ts l.length) : ts = [] ↔ Tr.Acy l := by
  constructor
  · intro e a b c h1 h2
    cases h3 : Tr.bt l c a with
    | false => rfl
    | true =>
      have ab : a ≠ b := fun e => by subst e; rw [T.irr] at h1; cases h1
      have bc : b ≠ c := fun e => by subst e; rw [T.irr] at h2; cases h2
      have ca : c ≠ a := fun e => by subst e; rw [T.irr] at h3; cases h3
      have la := (T.out _ _ h1).1
      have lb := (T.out _ _ h2).1
      have lc := (T.out _ _ h3).1
      rcases (show (a < b ∧ a < c) ∨ (b < c ∧ b < a) ∨ (c < a ∧ c < b) by omega) with ⟨p, q⟩ | ⟨p, q⟩ | ⟨p, q⟩
      · rw [hc e a la b c h1 h2 p q] at h3; cases h3
      · rw [hc e b lb c a h2 h3 p q] at h1; cases h1
      · rw [hc e c lc a b h3 h1 p q] at h2; cases h2
  · intro hA
    refine Classical.byContradiction fun hne => ?_
    obtain ⟨t, ht⟩ : ∃ t, t ∈ ts := by
      cases ts with
      | nil => exact absurd rfl hne
      | cons t ts => exact ⟨t, List.mem_cons_self ..⟩
    obtain ⟨x, y, z, _, h1, h2, h3⟩ := hs t ht
    rw [hA x y z h1 h2] at h3; cases h3

/-- What the loops keep: the tournament, the cycles so far; the blocks Bs are none of theirs. -/
def CyS (w : World) (Z : Nat) (vt : Value) (ts : List Tri) (Bs : List Nat) (W : World) : Prop :=
  Box W Z #[vt] 78 ∧ (∃ ov, Box W (Z + 1) #[ov] 38 ∧ W.ownsRow (Z + 2) 81 3 ov ts.length (flatT ts) ∧ ∀ g, ov.ownBlock = some g → g ∉ Bs) ∧ Chg [] w W ∧ Z + 2 ≤ W.heap.size
theorem CyS.keep {w W W' : World} {Z : Nat} {vt : Value} {ts : List Tri} {Bs : List Nat} (h : CyS w Z vt ts Bs W) (hc : Chg [] W W') : CyS w Z vt ts Bs W' := by
  obtain ⟨h1, ⟨ov, h2, h3, h4⟩, h5, h6⟩ := h
  exact ⟨h1.keep hc List.not_mem_nil, ⟨ov, h2.keep hc List.not_mem_nil, hc.row h3 (fun _ _ => List.not_mem_nil), h4⟩, h5.trans hc, Nat.le_trans h6 hc.size⟩
theorem CyS.row {B : Nat} {row : Option Nat} {w W W' : World} {Z : Nat} {vt : Value} {ts : List Tri} {Bs : List Nat} (h : CyS w Z vt ts Bs W) (hB : w.heap.size ≤ B) (hg : W.grownBy W' row) (hr : ∀ r, row = some r → B ≤ r ∧ ∃ o : Obj, W.heap[r]? = some o ∧ o.isCells = false) : CyS w Z vt ts Bs W' := by
  obtain ⟨h1, ⟨ov, h2, h3, h4⟩, h5, h6⟩ := h
  exact ⟨h1.row hg hr, ⟨ov, h2.row hg hr, own_row h3 hg hr, h4⟩, h5.row' hB hg hr, Nat.le_trans h6 hg.size⟩
theorem CyS.more {w W : World} {Z B : Nat} {vt : Value} {ts : List Tri} {Bs : List Nat} {cs : Array Value} (h : CyS w Z vt ts Bs W) (hb : Box W B cs 3) : CyS w Z vt ts (B :: Bs) W := by
  obtain ⟨h1, ⟨ov, h2, h3, h4⟩, h5⟩ := h
  refine ⟨h1, ⟨ov, h2, h3, fun g hg hm => ?_⟩, h5⟩
  rcases List.mem_cons.1 hm with e | hm
  · exact box_row_ne hb h3 (by decide) g hg e
  · exact h4 g hg hm
theorem CyS.less {w W : World} {Z : Nat} {vt : Value} {ts : List Tri} {Bs Cs : List Nat} (h : CyS w Z vt ts Bs W) (hs : ∀ x ∈ Cs, x ∈ Bs) : CyS w Z vt ts Cs W := by
  obtain ⟨h1, ⟨ov, h2, h3, h4⟩, h5⟩ := h
  exact ⟨h1, ⟨ov, h2, h3, fun g hg hm => h4 g hg (hs g hm)⟩, h5⟩
theorem CyS.set {w W : World} {Z B : Nat} {vt : Value} {ts : List Tri} {Bs : List Nat} (h : CyS w Z vt ts Bs W) (hm : B ∈ Bs) (hB : Z + 2 ≤ B) (hw : w.heap.size ≤ B) (u : Value) : CyS w Z vt ts Bs (W.setCell ⟨B, 0, none⟩ u) := by
  obtain ⟨h1, ⟨ov, h2, h3, h4⟩, h5, h6⟩ := h
  have cs := Chg.set W ⟨B, 0, none⟩ u
  refine ⟨h1.set' (by show Z ≠ B; omega) _, ⟨ov, h2.set' (by show Z + 1 ≠ B; omega) _, cs.row h3 (fun g hg hm' => ?_), h4⟩, h5.setCell (.inr hw) _, Nat.le_trans h6 cs.size⟩
  rw [List.mem_singleton] at hm'
  have e : g = B := hm'
  subst e
  exact h4 g hg hm
end Go.Proofs.YtpplihpfjniacaaDoor
