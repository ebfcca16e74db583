/- Walks: the search for a plan: its memory. -/
import Derived.Test.YtohdjlgghkcaoaaPl3
namespace Go.Proofs.Ytohdjlgghkcaoaa
open Go.RowKit

theorem Rows2.keep {w w' : World} {base : Nat} {v : Value} {t : List (List Int)} (h : Rows2 w base v t) (hc : Chg [] w w') : Rows2 w' base v t := by
  obtain ⟨us, h1, h2, h3⟩ := h
  exact ⟨us, h1, hc.row h2 (fun _ _ => List.not_mem_nil), fun i u hu => (h3 i u hu).keep hc⟩
theorem Rows2.open {w : World} {base : Nat} {v : Value} {t : List (List Int)} (h : Rows2 w base v t) {i : Nat} (hi : i < t.length) : ∃ g cap bo bc, v = .slice (some ⟨g, 0, none⟩) t.length cap ∧ base ≤ g ∧ g < w.heap.size ∧ w.cell? ⟨g, i, none⟩ = some (.slice bo (t.getD i []).length bc) ∧ Ints w (.slice bo (t.getD i []).length bc) (t.getD i []) := by
  obtain ⟨us, h1, h2, h3⟩ := h
  rcases h2.2 with ⟨_, h0⟩ | ⟨g, cap, cur, rfl, hb, hg, hle, hcap, hsz, ht⟩
  · omega
  · obtain ⟨u, hu⟩ : ∃ u, us[i]? = some u := ⟨_, List.getElem?_eq_getElem (by omega)⟩
    have hI := h3 i u hu
    obtain ⟨bo, bc, rfl⟩ := hI.toSee.shape
    refine ⟨g, cap, bo, bc, rfl, hb, (Array.getElem?_eq_some_iff.1 hg).1, ?_, hI⟩
    rw [cell_of_row w g i cur 51 (0, 0) hg]
    rw [← ht, List.getElem?_take] at hu
    split at hu
    · simpa using hu
    · cases hu
theorem Ints.move {w w' : World} {u : Value} {xs : List Int} {S : List Nat} (h : Ints w u xs) (hc : Chg S w w') (hs : ∀ g, u.ownBlock = some g → g ∉ S) : Ints w' u xs := hc.row h hs

/-- A later value of the slice: in the same block, or a new one. -/
def Near (w : World) (v v' : Value) : Prop := ∀ g, v'.ownBlock = some g → v.ownBlock = some g ∨ w.heap.size ≤ g
theorem Near.refl (w : World) (v : Value) : Near w v v := fun _ h => .inl h
theorem Near.trans {w w' : World} {a b c : Value} (h : Near w a b) (h' : Near w' b c) (hs : w.heap.size ≤ w'.heap.size) : Near w a c := fun g hg => by
  rcases h' g hg with h1 | h1
  · exact h g h1
  · exact .inr (by omega)
def blks (B : Nat) (v : Value) : List Nat := match v.ownBlock with | some g => [B, g] | none => [B]
theorem mem_blks {B : Nat} {v : Value} {x : Nat} : x ∈ blks B v ↔ x = B ∨ v.ownBlock = some x := by
  unfold blks
  cases v.ownBlock with
  | none => simp
  | some g => simp [eq_comm]
theorem chg_near {B : Nat} {w w1 w2 : World} {v v1 : Value} (h : Chg (blks B v) w w1) (hn : Near w v v1) (h' : Chg (blks B v1) w1 w2) : Chg (blks B v) w w2 :=
  h.trans' h' (fun x hx => by
    rcases mem_blks.1 hx with rfl | hx
    · exact .inl (mem_blks.2 (.inl rfl))
    · rcases hn x hx with h1 | h1
      · exact .inl (mem_blks.2 (.inr h1))
      · exact .inr h1)

/-- The memory of the search for a plan. w1: as it was when the slots had been made. -/
def PlanSt (w1 W0 : World) (Bp Bc Ba Bg coins k : Nat) (va : Value) (w : World) (vp : Value) (p : List (List Int)) : Prop :=
  Box w Bp #[vp] 62 ∧ Box w Bc #[.int .i64 (coins : Int)] 3 ∧ Box w Ba #[va] 62 ∧
  Box w Bg #[.func (.func 72) #[] #[.pointer (some ⟨Bp, 0, none⟩), .pointer (some ⟨Bc, 0, none⟩), .pointer (some ⟨Ba, 0, none⟩), .pointer (some ⟨Bg, 0, none⟩)]] 56 ∧
  Rows2 w W0.heap.size vp p ∧ (∀ r ∈ p, W.rowOk k r = true) ∧ Chg [Bp] W0 w ∧ Chg [] w1 w
theorem call72 (args : Array Value) (W : World) : (callFunc 72 args).run Try.prog W = .ok (.enter 72 args) W := by kernel_rfl

theorem grow_step {all : List (List Int)} {m i : Nat} {p : List (List Int)} (h : i + m < all.length) : W.growM all (m + 1) i p = ((W.growM all m (i + 1) (p ++ [all.getD i []])).or (W.growM all m (i + 1) (p ++ [W.neg (all.getD i [])]))).or (W.growM all (m + 1) (i + 1) p) := by
  have e : all.length - m - i = (all.length - m - (i + 1)) + 1 := by omega
  have e2 : List.range' i (all.length - m - i) = i :: List.range' (i + 1) (all.length - m - (i + 1)) := by rw [e, List.range'_succ]
  conv => lhs; unfold W.growM
  rw [e2, List.findSome?_cons]
  conv => rhs; rw [show W.growM all (m + 1) (i + 1) p = (List.range' (i + 1) (all.length - m - (i + 1))).findSome? fun j => (W.growM all m (j + 1) (p ++ [all.getD j []])).or (W.growM all m (j + 1) (p ++ [W.neg (all.getD j [])])) from rfl]
  cases (W.growM all m (i + 1) (p ++ [all.getD i []])).or (W.growM all m (i + 1) (p ++ [W.neg (all.getD i [])])) <;> rfl
theorem grow_over {all : List (List Int)} {m i : Nat} {p : List (List Int)} (h : ¬ i + m < all.length) : W.growM all (m + 1) i p = none := by
  unfold W.growM
  rw [show all.length - m - i = 0 by omega]
  rfl

/-- What the search answers, and leaves. -/
def GrowOk (w1 W0 : World) (Bp Bc Ba Bg coins k : Nat) (va : Value) (all : List (List Int)) (m : Nat) : Prop := ∀ (i : Nat) (p : List (List Int)) (w : World) (vp : Value), p.length + m = coins → i ≤ all.length → PlanSt w1 W0 Bp Bc Ba Bg coins k va w vp p →
  Calls Try.prog 72 #[.int .i64 (i : Int), .pointer (some ⟨Bp, 0, none⟩), .pointer (some ⟨Bc, 0, none⟩), .pointer (some ⟨Ba, 0, none⟩), .pointer (some ⟨Bg, 0, none⟩)] w
    fun e w' => ∃ vp', Chg (blks Bp vp) w w' ∧ Near w vp vp' ∧ ((e = .returned (.bool true) ∧ ∃ q, W.growM all m i p = some q ∧ PlanSt w1 W0 Bp Bc Ba Bg coins k va w' vp' q) ∨ (e = .returned (.bool false) ∧ W.growM all m i p = none ∧ PlanSt w1 W0 Bp Bc Ba Bg coins k va w' vp' p))

theorem plan_tab {p : List (List Int)} {k coins : Nat} (hl : p.length = coins) (h1 : 1 ≤ coins) (h13 : coins ≤ 13) (hk1 : 1 ≤ k) (hk3 : k ≤ 3) (hr : ∀ r ∈ p, W.rowOk k r = true) : W.isTab p = true ∧ W.cols p = k := by
  have hc : W.cols p = k := by
    unfold W.cols
    exact (W.rowOk_iff.1 (hr _ (W.row_mem (by omega)))).1
  exact ⟨W.isTab_iff.2 ⟨by omega, by rw [hc]; exact hr⟩, hc⟩

set_option maxRecDepth 100000 in
set_option maxHeartbeats 2000000 in
theorem grow_end (w1 W0 : World) (Bp Bc Ba Bg coins k : Nat) (va : Value) (all : List (List Int)) (hc1 : 1 ≤ coins) (hc13 : coins ≤ 13) (hk1 : 1 ≤ k) (hk3 : k ≤ 3) : GrowOk w1 W0 Bp Bc Ba Bg coins k va all 0 := by
  intro i p w vp hl hi h
  have hlen : p.length = coins := by omega
  obtain ⟨ht, _⟩ := plan_tab hlen hc1 hc13 hk1 hk3 h.2.2.2.2.2.1
  have HST := hide h
  obtain ⟨b1, b2, b3, b4, hx, hr, hch, hch1⟩ := h
  have hs := hx.toSee2
  obtain ⟨ao, cap, rfl⟩ := hs.shape
  have HZ := hide fun ws (hw : Chg [] w ws) => zero_any _ p ws (hs.keep hw) ht
  have c1 := b1.cell 0
  have c2 := b2.cell 0
  simp at c1 c2
  rw [hlen] at c1 HZ
  have d0 : ((coins : Int) == (coins : Int)) = true := by simp
  clear b1 b2 b3 b4 hx hr hch hch1 hs hl ht
  go_enter Try.func72, Try.ntmps72
  go_wp2_with fail
  refine (HZ.out _ (Chg.refl _ _)).mono ?_
  rintro e w2 ⟨rfl, hw2⟩
  have HW2 := hide hw2
  clear hw2
  have HST2 : Hid (PlanSt w1 W0 Bp Bc Ba Bg coins k va w2 (.slice ao p.length cap) p) := hide (by
    obtain ⟨b1, b2, b3, b4, hx, hr, hch, hch1⟩ := HST.out
    exact ⟨b1.keep HW2.out List.not_mem_nil, b2.keep HW2.out List.not_mem_nil, b3.keep HW2.out List.not_mem_nil, b4.keep HW2.out List.not_mem_nil, hx.keep HW2.out, hr, hch.trans HW2.out.toAny, hch1.trans HW2.out⟩)
  cases hz : W.zeroT p with
  | true =>
    have E : Hid (W.growM all 0 i p = some p) := hide (by unfold W.growM; rw [if_pos hz])
    clear hz
    go_wp2
    go_ret
    exact ⟨_, HW2.out.toAny, Near.refl _ _, .inl ⟨rfl, p, E.out, HST2.out⟩⟩
  | false =>
    have E : Hid (W.growM all 0 i p = none) := hide (by unfold W.growM; rw [if_neg (by rw [hz]; decide)])
    clear hz
    go_wp2
    go_ret
    exact ⟨_, HW2.out.toAny, Near.refl _ _, .inr ⟨rfl, E.out, HST2.out⟩⟩
end Go.Proofs.Ytohdjlgghkcaoaa
