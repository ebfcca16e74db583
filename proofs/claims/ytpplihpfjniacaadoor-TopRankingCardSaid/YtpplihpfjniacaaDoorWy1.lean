/- Walk: tournaments: the first way: what the search keeps. -/
import Derived.Test.YtpplihpfjniacaaDoorCy1
import Derived.Test.YtpplihpfjniacaaDoorLn1
namespace Go.Proofs.YtpplihpfjniacaaDoor
open Go.RowKit Go.Shelf

set_option maxRecDepth 100000 in
theorem allT_any (ao : Option Addr) (n cap : Nat) (w : World) (h8 : n ≤ 8) : Calls Tryd.prog 83 #[.slice ao n cap] w (Ret (.int .i64 ((2 ^ n - 1 : Nat) : Int)) w) := by
  have ew := wrap_pow (m := n) h8
  have hp := Nat.two_pow_pos n
  have hp6 : 2 ^ n ≤ 2 ^ 8 := Nat.pow_le_pow_right (by decide) h8
  obtain ⟨P, hP⟩ : ∃ P, P = 2 ^ n := ⟨_, rfl⟩
  rw [← hP] at ew hp hp6 ⊢
  have es : IntKind.i64.wrap ((P : Int) - 1) = ((P - 1 : Nat) : Int) := by rw [IntKind.wrap_i64]; omega
  have n0 : (0 : Int) ≤ (n : Int) := by omega
  have n1 : (n : Int) < 64 := by omega
  generalize P - 1 = R at es ⊢
  clear hP hp hp6 h8
  go_enter Tryd.func83, Tryd.ntmps83
  go_wp2
  go_ret
  exact ⟨rfl, Chg.refl _ _⟩
theorem isYes_any (v : Value) (w : World) : Calls Tryd.prog 51 #[v] w (Ret (.bool true) w) := by
  go_enter Tryd.func51, Tryd.ntmps51
  go_wp2
  go_ret
  exact ⟨rfl, Chg.refl _ _⟩

def wyCap (Z : Nat) : Array Value := #[.pointer (some ⟨Z + 1 + 1 + 1, 0, none⟩), .pointer (some ⟨Z + 1, 0, none⟩), .pointer (some ⟨Z + 1 + 1, 0, none⟩), .pointer (some ⟨Z, 0, none⟩), .pointer (some ⟨Z + 1 + 1 + 1 + 1, 0, none⟩)]
/-- What all calls of the search find. -/
def WyC (l : List Int) (w0 : World) (Z : Nat) (a : Addr) (cap : Nat) (W : World) : Prop :=
  Box W Z #[.slice (some a) l.length cap] 78 ∧ Box W (Z + 1) #[.int .i64 (l.length : Int)] 3 ∧ Box W (Z + 1 + 1) #[.func (.func 51) #[] #[]] 33 ∧
    Box W (Z + 1 + 1 + 1 + 1) #[.func (.func 82) #[] (wyCap Z)] 74 ∧ Chg [] w0 W ∧ Z + 1 + 1 + 1 + 1 + 1 ≤ W.heap.size ∧ w0.heap.size ≤ Z
/-- The players that stand already. -/
def WyS (l : List Int) (w0 : World) (Z : Nat) (a : Addr) (cap : Nat) (lv : Value) (lst : List Nat) (W : World) : Prop :=
  WyC l w0 Z a cap W ∧ Box W (Z + 1 + 1 + 1) #[lv] 22 ∧ W.ownsRow (Z + 1 + 1 + 1 + 1 + 1) 3 1 lv lst.length (natsV lst)
variable {l : List Int} {w0 W W' : World} {Z : Nat} {a : Addr} {cap : Nat} {lv : Value} {lst : List Nat}
theorem WyC.keep {S : List Nat} (h : WyC l w0 Z a cap W) (hc : Chg S W W') (hS : ∀ s ∈ S, s = Z + 1 + 1 + 1 ∨ Z + 1 + 1 + 1 + 1 + 1 ≤ s) : WyC l w0 Z a cap W' := by
  obtain ⟨h1, h2, h3, h4, h5, h6, h7⟩ := h
  exact ⟨h1.keep hc (fun hm => by have := hS _ hm; omega), h2.keep hc (fun hm => by have := hS _ hm; omega), h3.keep hc (fun hm => by have := hS _ hm; omega), h4.keep hc (fun hm => by have := hS _ hm; omega), h5.trans' hc (fun s hs => .inr (by have := hS s hs; omega)), Nat.le_trans h6 hc.size, h7⟩
theorem WyC.keep0 (h : WyC l w0 Z a cap W) (hc : Chg [] W W') : WyC l w0 Z a cap W' := h.keep hc (fun _ h => by cases h)
theorem WyC.row {B : Nat} {row : Option Nat} (h : WyC l w0 Z a cap W) (hB : Z ≤ B) (hg : W.grownBy W' row) (hr : ∀ r, row = some r → B ≤ r ∧ ∃ o : Obj, W.heap[r]? = some o ∧ o.isCells = false) : WyC l w0 Z a cap W' := by
  obtain ⟨h1, h2, h3, h4, h5, h6, h7⟩ := h
  exact ⟨h1.row hg hr, h2.row hg hr, h3.row hg hr, h4.row hg hr, h5.row' (Nat.le_trans h7 hB) hg hr, Nat.le_trans h6 hg.size, h7⟩
theorem WyS.keep (h : WyS l w0 Z a cap lv lst W) (hc : Chg [] W W') : WyS l w0 Z a cap lv lst W' := ⟨h.1.keep0 hc, h.2.1.keep hc List.not_mem_nil, hc.row h.2.2 (fun _ _ => List.not_mem_nil)⟩
theorem WyS.row {B : Nat} {row : Option Nat} (h : WyS l w0 Z a cap lv lst W) (hB : Z ≤ B) (hg : W.grownBy W' row) (hr : ∀ r, row = some r → B ≤ r ∧ ∃ o : Obj, W.heap[r]? = some o ∧ o.isCells = false) : WyS l w0 Z a cap lv lst W' := ⟨h.1.row hB hg hr, h.2.1.row hg hr, own_row h.2.2 hg hr⟩
theorem WyS.set {B : Nat} (h : WyS l w0 Z a cap lv lst W) (hB : Z + 1 + 1 + 1 + 1 + 1 ≤ B) (hne : ∀ g, lv.ownBlock = some g → g ≠ B) (u : Value) : WyS l w0 Z a cap lv lst (W.setCell ⟨B, 0, none⟩ u) := by
  have cs := Chg.set W ⟨B, 0, none⟩ u
  have hn : ∀ y, y ≠ B → y ∉ [(⟨B, 0, none⟩ : Addr).block] := fun y hy hm => hy (List.mem_singleton.1 hm)
  exact ⟨h.1.keep cs (fun s hs => by rw [List.mem_singleton] at hs; have hs : s = B := hs; omega), h.2.1.keep cs (hn _ (by omega)), cs.row h.2.2 (fun g hg => hn _ (hne g hg))⟩
theorem WyS.shape (h : WyS l w0 Z a cap lv lst W) : ∃ ao c, lv = .slice ao lst.length c ∧ lst.length ≤ c := row_shape h.2.2
/-- The last player is taken back. -/
theorem WyS.pop {k : Nat} {ao : Option Addr} {c : Nat} (h : WyS l w0 Z a cap (.slice ao (lst.length + 1) c) (lst ++ [k]) W) : WyS l w0 Z a cap (.slice ao lst.length c) lst (W.setCell ⟨Z + 1 + 1 + 1, 0, none⟩ (.slice ao lst.length c)) := by
  have cs := Chg.set W ⟨Z + 1 + 1 + 1, 0, none⟩ (.slice ao lst.length c)
  have h3 := h.2.2
  rw [List.length_append, natsV_snoc] at h3
  have h4 := row_short h3 (by unfold natsV; rw [List.length_map])
  refine ⟨h.1.keep cs (fun s hs => by rw [List.mem_singleton] at hs; exact .inl hs), h.2.1.set1 _, cs.row h4 (fun g hg hm => ?_)⟩
  rw [List.mem_singleton] at hm
  have hm : g = Z + 1 + 1 + 1 := hm
  have := (h4.lt g hg).1
  omega
/-- The last player that stands beats all that are left. -/
def Good (l : List Int) (lst : List Nat) (left : Nat) : Prop := ∀ z, lst.getLast? = some z → ∀ y, left.testBit y = true → Tr.bt l z y = true
/-- The search, where so much is left at most. -/
def GrowW (l : List Int) (w0 : World) (Z : Nat) (a : Addr) (cap N : Nat) : Prop := ∀ (left : Nat) (lv : Value) (lst : List Nat) (W : World), left < N → left < 2 ^ l.length → lst.length + Tr.card left = l.length → (∀ z ∈ lst, z < l.length) → WyS l w0 Z a cap lv lst W →
  Calls Tryd.prog 82 (#[.int .i64 (left : Int)] ++ wyCap Z) W fun e W' => ∃ (b : Bool) (lv' : Value) (lst' : List Nat), e = .returned (.bool b) ∧ WyS l w0 Z a cap lv' lst' W' ∧
    (Good l lst left → b = true ∧ ∃ xs, Tr.Desc l left xs ∧ lst' = lst ++ xs) ∧ (¬ Good l lst left → b = false ∧ lst' = lst) ∧
    Chg ((Z + 1 + 1 + 1) :: lv.ownBlock.toList) W W' ∧ (∀ g, lv'.ownBlock = some g → lv.ownBlock = some g ∨ W.heap.size ≤ g) ∧ KeepsFrom 0 W W'
theorem good_max {l : List Int} (T : Tr.Tour l) (hA : Tr.Acy l) {lst : List Nat} {left mx k : Nat} (hl : left < 2 ^ l.length) (hm : left.testBit mx = true) (hmx : ∀ y, left.testBit y = true → y ≠ mx → Tr.bt l mx y = true) (hk : left.testBit k = true)
    (hp : ∀ z, lst.getLast? = some z → Tr.bt l z k = true) : Good l (lst ++ [k]) (Tr.del left k) ↔ Good l lst left ∧ k = mx := by
  have hl16 : left < 65536 := Nat.lt_trans hl (Tr.pow16 T.len.2)
  have dt := Tr.del_test hl16 (Tr.bit_lt hl16 hk)
  constructor
  · intro h
    have h1 : ∀ y, left.testBit y = true → y ≠ k → Tr.bt l k y = true := fun y hy hne => h k (by simp) y (by rw [dt, hy]; simp [hne])
    refine ⟨fun z hz y hy => ?_, ?_⟩
    · by_cases e : y = k
      · subst e; exact hp z hz
      · exact T.trans hA (hp z hz) (h1 y hy e)
    · by_cases e : k = mx
      · exact e
      · have h2 := h1 mx hm (Ne.symm e)
        have h3 := hmx k hk e
        rw [T.asym h2] at h3; cases h3
  · rintro ⟨_, rfl⟩ z hz y hy
    simp at hz
    subst hz
    rw [dt] at hy
    simp at hy
    exact hmx y hy.1 hy.2
end Go.Proofs.YtpplihpfjniacaaDoor
