/- Walk: orders: lines: what the search keeps. -/
import Derived.Test.YtpplihpfjniacaaDoorRd1
import Derived.Test.YtpplihpfjniacaaDoorITab
namespace Go.Proofs.YtpplihpfjniacaaDoor
open Go.RowKit Go.Shelf

/-- Elements as ints; as cells. -/
def natsI (xs : List Nat) : List Int := xs.map fun (x : Nat) => (x : Int)
def natsV (xs : List Nat) : List Value := xs.map fun (x : Nat) => (.int .i64 (x : Int) : Value)
theorem natsI_map (xs : List Nat) : (natsI xs).map (Value.int .i64) = natsV xs := by unfold natsI natsV; rw [List.map_map]; rfl
theorem natsI_len (xs : List Nat) : (natsI xs).length = xs.length := by unfold natsI; rw [List.length_map]
theorem natsV_snoc (xs : List Nat) (x : Nat) : natsV (xs ++ [x]) = natsV xs ++ [.int .i64 (x : Int)] := by unfold natsV; rw [List.map_append]; rfl
theorem row_one {w : World} {base n : Nat} {v : Value} {xs : List Int} (h : w.ownsRow base 3 1 v n (xs.map (Value.int .i64))) (hn : n = xs.length) : Ints w v xs := by subst hn; exact row_low h (Nat.zero_le _)

def lnCap (Z : Nat) : Array Value := #[.pointer (some ⟨Z + 1, 0, none⟩), .pointer (some ⟨Z + 1 + 1, 0, none⟩), .pointer (some ⟨Z, 0, none⟩), .pointer (some ⟨Z + 1 + 1 + 1, 0, none⟩)]
/-- What all calls of the search find: the order, the search itself. -/
def LnC (l : List Int) (w0 : World) (Z : Nat) (W : World) : Prop :=
  Box W Z (ordC l.length (Tr.upA l)) 72 ∧ Box W (Z + 1 + 1 + 1) #[.func (.func 80) #[] (lnCap Z)] 121 ∧ Chg [] w0 W ∧ Z + 1 + 1 + 1 + 1 ≤ W.heap.size ∧ w0.heap.size ≤ Z
/-- Ahead of the line: the elements that stand already. -/
def Ln0 (l : List Int) (w0 : World) (Z : Nat) (lv : Value) (lst : List Nat) (W : World) : Prop :=
  LnC l w0 Z W ∧ Box W (Z + 1 + 1) #[lv] 22 ∧ W.ownsRow (Z + 1 + 1 + 1 + 1) 3 1 lv lst.length (natsV lst) ∧ Box W (Z + 1) #[.slice none 0 0] 29
/-- Behind the line: it lies in blocks from fl on, and in none of Bs. -/
def Ln1 (l : List Int) (w0 : World) (Z k : Nat) (xs : List Nat) (fl : Nat) (Bs : List Nat) (W : World) : Prop :=
  LnC l w0 Z W ∧ (∃ ao cap, k ≤ cap ∧ Box W (Z + 1 + 1) #[.slice ao k cap] 22) ∧ ∃ ov u, Box W (Z + 1) #[ov] 29 ∧ W.ownsRow (Z + 1 + 1 + 1 + 1) 22 1 ov 1 [u] ∧ W.ownsRow (Z + 1 + 1 + 1 + 1) 3 1 u xs.length (natsV xs) ∧
    (∀ g, ov.ownBlock = some g → fl ≤ g ∧ g ∉ Bs) ∧ (∀ g, u.ownBlock = some g → fl ≤ g ∧ g ∉ Bs)
theorem LnC.keep {l : List Int} {w0 W W' : World} {Z : Nat} {S : List Nat} (h : LnC l w0 Z W) (hc : Chg S W W') (hS : ∀ s ∈ S, s = Z + 1 ∨ s = Z + 1 + 1 ∨ Z + 1 + 1 + 1 + 1 ≤ s) : LnC l w0 Z W' := by
  obtain ⟨h1, h2, h3, h4, h5⟩ := h
  exact ⟨h1.keep hc (fun hm => by have := hS _ hm; omega), h2.keep hc (fun hm => by have := hS _ hm; omega), h3.trans' hc (fun s hs => .inr (by have := hS s hs; omega)), Nat.le_trans h4 hc.size, h5⟩
theorem LnC.keep0 {l : List Int} {w0 W W' : World} {Z : Nat} (h : LnC l w0 Z W) (hc : Chg [] W W') : LnC l w0 Z W' := h.keep hc (fun _ h => by cases h)
theorem LnC.row {B : Nat} {row : Option Nat} {l : List Int} {w0 W W' : World} {Z : Nat} (h : LnC l w0 Z W) (hB : Z ≤ B) (hg : W.grownBy W' row) (hr : ∀ r, row = some r → B ≤ r ∧ ∃ o : Obj, W.heap[r]? = some o ∧ o.isCells = false) : LnC l w0 Z W' := by
  obtain ⟨h1, h2, h3, h4, h5⟩ := h
  exact ⟨h1.row hg hr, h2.row hg hr, h3.row' (Nat.le_trans h5 hB) hg hr, Nat.le_trans h4 hg.size, h5⟩
theorem Ln0.keep {l : List Int} {w0 W W' : World} {Z : Nat} {lv : Value} {lst : List Nat} (h : Ln0 l w0 Z lv lst W) (hc : Chg [] W W') : Ln0 l w0 Z lv lst W' :=
  ⟨h.1.keep0 hc, h.2.1.keep hc List.not_mem_nil, hc.row h.2.2.1 (fun _ _ => List.not_mem_nil), h.2.2.2.keep hc List.not_mem_nil⟩
theorem Ln0.row {B : Nat} {row : Option Nat} {l : List Int} {w0 W W' : World} {Z : Nat} {lv : Value} {lst : List Nat} (h : Ln0 l w0 Z lv lst W) (hB : Z ≤ B) (hg : W.grownBy W' row) (hr : ∀ r, row = some r → B ≤ r ∧ ∃ o : Obj, W.heap[r]? = some o ∧ o.isCells = false) : Ln0 l w0 Z lv lst W' :=
  ⟨h.1.row hB hg hr, h.2.1.row hg hr, own_row h.2.2.1 hg hr, h.2.2.2.row hg hr⟩
theorem Ln0.set {l : List Int} {w0 W : World} {Z B : Nat} {lv : Value} {lst : List Nat} (h : Ln0 l w0 Z lv lst W) (hB : Z + 1 + 1 + 1 + 1 ≤ B) (hne : ∀ g, lv.ownBlock = some g → g ≠ B) (u : Value) : Ln0 l w0 Z lv lst (W.setCell ⟨B, 0, none⟩ u) := by
  have cs := Chg.set W ⟨B, 0, none⟩ u
  have hn : ∀ y, y ≠ B → y ∉ [(⟨B, 0, none⟩ : Addr).block] := fun y hy hm => hy (List.mem_singleton.1 hm)
  exact ⟨h.1.keep cs (fun s hs => by rw [List.mem_singleton] at hs; have hs : s = B := hs; omega), h.2.1.keep cs (hn _ (by omega)), cs.row h.2.2.1 (fun g hg => hn _ (hne g hg)), h.2.2.2.keep cs (hn _ (by omega))⟩
theorem Ln1.keep {l : List Int} {w0 W W' : World} {Z k fl : Nat} {xs : List Nat} {Bs : List Nat} (h : Ln1 l w0 Z k xs fl Bs W) (hc : Chg [] W W') : Ln1 l w0 Z k xs fl Bs W' := by
  obtain ⟨h1, ⟨ao, cap, h2, h3⟩, ov, u, h4, h5, h6, h7⟩ := h
  exact ⟨h1.keep0 hc, ⟨ao, cap, h2, h3.keep hc List.not_mem_nil⟩, ov, u, h4.keep hc List.not_mem_nil, hc.row h5 (fun _ _ => List.not_mem_nil), hc.row h6 (fun _ _ => List.not_mem_nil), h7⟩
theorem Ln1.row {B : Nat} {row : Option Nat} {l : List Int} {w0 W W' : World} {Z k fl : Nat} {xs : List Nat} {Bs : List Nat} (h : Ln1 l w0 Z k xs fl Bs W) (hB : Z ≤ B) (hg : W.grownBy W' row) (hr : ∀ r, row = some r → B ≤ r ∧ ∃ o : Obj, W.heap[r]? = some o ∧ o.isCells = false) : Ln1 l w0 Z k xs fl Bs W' := by
  obtain ⟨h1, ⟨ao, cap, h2, h3⟩, ov, u, h4, h5, h6, h7⟩ := h
  exact ⟨h1.row hB hg hr, ⟨ao, cap, h2, h3.row hg hr⟩, ov, u, h4.row hg hr, own_row h5 hg hr, own_row h6 hg hr, h7⟩
theorem Ln1.set {l : List Int} {w0 W : World} {Z k fl B : Nat} {xs : List Nat} {Bs : List Nat} (h : Ln1 l w0 Z k xs fl Bs W) (hB : Z + 1 + 1 + 1 + 1 ≤ B) (hm : B ∈ Bs) (u : Value) : Ln1 l w0 Z k xs fl Bs (W.setCell ⟨B, 0, none⟩ u) := by
  obtain ⟨h1, ⟨ao, cap, h2, h3⟩, ov, u', h4, h5, h6, h7, h8⟩ := h
  have cs := Chg.set W ⟨B, 0, none⟩ u
  have hn : ∀ y, y ≠ B → y ∉ [(⟨B, 0, none⟩ : Addr).block] := fun y hy hm => hy (List.mem_singleton.1 hm)
  exact ⟨h1.keep cs (fun s hs => by rw [List.mem_singleton] at hs; have hs : s = B := hs; omega), ⟨ao, cap, h2, h3.keep cs (hn _ (by omega))⟩, ov, u', h4.keep cs (hn _ (by omega)), cs.row h5 (fun g hg => hn _ (fun e => (h7 g hg).2 (by rw [e]; exact hm))), cs.row h6 (fun g hg => hn _ (fun e => (h8 g hg).2 (by rw [e]; exact hm))), h7, h8⟩
/-- Blocks that were there ahead are none of the line's. -/
theorem Ln1.apart {l : List Int} {w0 W : World} {Z k fl fl' : Nat} {xs : List Nat} {Bs Cs : List Nat} (h : Ln1 l w0 Z k xs fl Bs W) (hf : fl' ≤ fl) (hC : ∀ b ∈ Cs, b < fl) : Ln1 l w0 Z k xs fl' Cs W := by
  obtain ⟨h1, h2, ov, u, h4, h5, h6, h7, h8⟩ := h
  exact ⟨h1, h2, ov, u, h4, h5, h6, fun g hg => ⟨by have := (h7 g hg).1; omega, fun hm => by have := (h7 g hg).1; have := hC g hm; omega⟩, fun g hg => ⟨by have := (h8 g hg).1; omega, fun hm => by have := (h8 g hg).1; have := hC g hm; omega⟩⟩
/-- The last element is taken back. -/
theorem Ln1.pop {l : List Int} {w0 W : World} {Z k fl : Nat} {xs : List Nat} {Bs : List Nat} {ao : Option Addr} {cap : Nat} (h : Ln1 l w0 Z (k + 1) xs fl Bs W) (hk : k ≤ cap) :
    Ln1 l w0 Z k xs fl Bs (W.setCell ⟨Z + 1 + 1, 0, none⟩ (.slice ao k cap)) := by
  obtain ⟨h1, ⟨ao', cap', h2, h3⟩, ov, u', h4, h5, h6, h7, h8⟩ := h
  have cs := Chg.set W ⟨Z + 1 + 1, 0, none⟩ (.slice ao k cap)
  have hn : ∀ y, y ≠ Z + 1 + 1 → y ∉ [(⟨Z + 1 + 1, 0, none⟩ : Addr).block] := fun y hy hm => hy (List.mem_singleton.1 hm)
  exact ⟨h1.keep cs (fun s hs => by rw [List.mem_singleton] at hs; have hs : s = Z + 1 + 1 := hs; omega), ⟨ao, cap, hk, h3.set1 _⟩, ov, u', h4.keep cs (hn _ (by omega)), cs.row h5 (fun g hg => hn _ (by have := (h5.lt g hg).1; omega)), cs.row h6 (fun g hg => hn _ (by have := (h6.lt g hg).1; omega)), h7, h8⟩
theorem Ln0.shape {l : List Int} {w0 W : World} {Z : Nat} {lv : Value} {lst : List Nat} (h : Ln0 l w0 Z lv lst W) : ∃ ao cap, lv = .slice ao lst.length cap ∧ lst.length ≤ cap := row_shape h.2.2.1
/-- The search, where so much is left at most. -/
def GrowL (l : List Int) (w0 : World) (Z N : Nat) : Prop := ∀ (left : Nat) (lv : Value) (lst : List Nat) (W : World), left < N → left < 2 ^ l.length → lst.length + Tr.card left ≤ 8 → Ln0 l w0 Z lv lst W →
  Calls Tryd.prog 80 (#[.int .i64 (left : Int)] ++ lnCap Z) W fun e W' => (∃ v, e = .returned v) ∧ (∃ xs, Tr.Asc l left xs ∧ Ln1 l w0 Z lst.length (lst ++ xs) W.heap.size [] W') ∧ Chg ((Z + 1) :: (Z + 1 + 1) :: lv.ownBlock.toList) W W' ∧ KeepsFrom 0 W W'
theorem below_up {l : List Int} (T : Tr.Tour l) (k : Nat) : Lr.wb (Tr.upA l) k l.length = tb l k := Nat.eq_of_testBit_eq fun i => by
  rw [Lr.wb_test, Tr.up_test T]
  cases hb : Tr.bt l k i with
  | false => unfold Tr.bt at hb; rw [hb, Bool.and_false]
  | true =>
    have := (T.out _ _ hb).2
    unfold Tr.bt at hb
    rw [hb]
    simp [this]
end Go.Proofs.YtpplihpfjniacaaDoor
