/- Plain: what grow finds; the memory of Cover's search; its inner closure. -/
import Derived.Test.YtaapamoglgpocaaGr3
namespace Go.Proofs.Ytaapamoglgpocaa
open Go.RowKit

def covM (S : List (Nat × Nat)) : Nat → List Pr → Option (List (Nat × Nat))
  | 0, left => if left = [] then some [] else none
  | s + 1, left => if left = [] then some [] else S.findSome? fun r => if hasP (toP r) (left.getD 0 pr0) = true then (covM S s (left.filter fun e => !hasP (toP r) e)).map (r :: ·) else none
theorem covM_nil (S : List (Nat × Nat)) (s : Nat) : covM S s [] = some [] := by cases s <;> simp [covM]
theorem covM_zero {S : List (Nat × Nat)} {left : List Pr} (h : left ≠ []) : covM S 0 left = none := by simp [covM, h]
/-- What the search tries with one rectangle. -/
def tryM (S : List (Nat × Nat)) (s : Nat) (left : List Pr) (r : Nat × Nat) : Option (List (Nat × Nat)) := if hasP (toP r) (left.getD 0 pr0) = true then (covM S s (left.filter fun e => !hasP (toP r) e)).map (r :: ·) else none
theorem covM_succ {S : List (Nat × Nat)} {s : Nat} {left : List Pr} (h : left ≠ []) : covM S (s + 1) left = S.findSome? (tryM S s left) := by
  rw [covM, if_neg h]; rfl
theorem findSome_take {α β : Type} {f : α → Option β} : ∀ (l : List α) (k : Nat) (d : α), k < l.length → (l.take k).findSome? f = none → f (l.getD k d) = none → (l.take (k + 1)).findSome? f = none := by
  intro l k d hk h1 h2
  rw [List.take_add_one, List.getElem?_eq_getElem hk, List.findSome?_append, h1]
  rw [List.getD_eq_getElem?_getD, List.getElem?_eq_getElem hk] at h2
  simpa using h2
theorem findSome_hit {α β : Type} {f : α → Option β} {y : β} : ∀ (l : List α) (k : Nat) (d : α), k < l.length → (l.take k).findSome? f = none → f (l.getD k d) = some y → l.findSome? f = some y := by
  intro l k d hk h1 h2
  have e : l = l.take k ++ (l.getD k d :: l.drop (k + 1)) := by
    rw [List.getD_eq_getElem?_getD, List.getElem?_eq_getElem hk, Option.getD_some, ← List.drop_eq_getElem_cons hk, List.take_append_drop]
  rw [e, List.findSome?_append, h1, List.findSome?_cons, h2]
  rfl

structure CB where
  s : Nat
  o : Nat
  g : Nat
def CB.caps (B : CB) : Array Value := #[.pointer (some ⟨B.s, 0, none⟩), .pointer (some ⟨B.o, 0, none⟩), .pointer (some ⟨B.g, 0, none⟩)]
structure CvFix (W0 : World) (B : CB) (sv : Value) (S : List (Nat × Nat)) : Prop where
  bs : Box W0 B.s #[sv] 111
  bg : Box W0 B.g #[.func (.func 87) #[] #[.pointer (some ⟨B.s, 0, none⟩), .pointer (some ⟨B.o, 0, none⟩), .pointer (some ⟨B.g, 0, none⟩)]] 113
  see : ∀ w, Chg [B.o] W0 w → SeeP w sv (S.map toP)
  few : ∀ x ∈ S, x.1 < 16 ∧ x.2 < 16
  len : S.length ≤ 256
  ne : B.s ≠ B.o ∧ B.g ≠ B.o
  lo : B.o < W0.heap.size
structure CvSt (W0 : World) (B : CB) (w : World) (ov : Value) (l : List (Nat × Nat)) : Prop where
  bo : Box w B.o #[ov] 111
  row : w.ownsRow W0.heap.size 75 2 ov l.length (flatP (l.map toP))
  ch : Chg [B.o] W0 w
theorem CvSt.keep {W0 w w' : World} {B : CB} {ov : Value} {l : List (Nat × Nat)} (h : CvSt W0 B w ov l) (hc : Chg [] w w') : CvSt W0 B w' ov l :=
  ⟨h.bo.keep hc List.not_mem_nil, hc.row h.row (fun _ _ => List.not_mem_nil), h.ch.trans hc.toAny⟩
theorem CvFix.at {W0 w : World} {B : CB} {sv : Value} {S : List (Nat × Nat)} (h : CvFix W0 B sv S) (hc : Chg [B.o] W0 w) : Box w B.s #[sv] 111 ∧ Box w B.g #[.func (.func 87) #[] #[.pointer (some ⟨B.s, 0, none⟩), .pointer (some ⟨B.o, 0, none⟩), .pointer (some ⟨B.g, 0, none⟩)]] 113 :=
  ⟨h.bs.keep hc (by simpa using h.ne.1), h.bg.keep hc (by simpa using h.ne.2)⟩
/-- What a call may change beside what is new: the box and the row that it holds. -/
def CvMay (B : CB) (ov : Value) : List Nat := B.o :: ov.ownBlock.toList
/-- From one state of the search to a later one. -/
def CvTo (B : CB) (ov : Value) (w : World) (ov' : Value) (w' : World) : Prop := Chg (CvMay B ov) w w' ∧ ∀ g, ov'.ownBlock = some g → ov.ownBlock = some g ∨ w.heap.size ≤ g
theorem CvTo.refl (B : CB) (ov : Value) (w : World) : CvTo B ov w ov w := ⟨Chg.refl _ _, fun _ h => .inl h⟩
theorem CvTo.trans {B : CB} {o1 o2 o3 : Value} {w1 w2 w3 : World} (h : CvTo B o1 w1 o2 w2) (k : CvTo B o2 w2 o3 w3) : CvTo B o1 w1 o3 w3 := by
  refine ⟨h.1.trans' k.1 (fun x hx => ?_), fun g hg => ?_⟩
  · unfold CvMay at hx ⊢
    rcases List.mem_cons.1 hx with rfl | hx
    · exact .inl (List.mem_cons_self ..)
    · rcases h.2 x (Option.mem_toList.1 hx) with h' | h'
      · exact .inl (List.mem_cons_of_mem _ (Option.mem_toList.2 h'))
      · exact .inr h'
  · rcases k.2 g hg with h' | h'
    · exact h.2 g h'
    · exact .inr (Nat.le_trans h.1.size h')
theorem CvTo.ext {B : CB} {ov o2 : Value} {w w' w2 : World} (h : CvTo B ov w o2 w') (hc : Chg [] w' w2) : CvTo B ov w o2 w2 := ⟨h.1.trans hc.toAny, h.2⟩
/-- A row of pairs lies apart from all that may change. -/
theorem CvTo.pairs {W0 w w' : World} {B : CB} {ov o2 lv : Value} {l : List (Nat × Nat)} {base n : Nat} {xs : List Value} (h : CvTo B ov w o2 w') (hs : CvSt W0 B w ov l) (hr : w.ownsRow base 60 2 lv n xs) : w'.ownsRow base 60 2 lv n xs := by
  refine h.1.row hr (fun g hg hm => ?_)
  unfold CvMay at hm
  rcases List.mem_cons.1 hm with rfl | hm
  · exact box_row_ne hs.bo hr (by decide) _ hg rfl
  · rcases row_apart hr hs.row (by decide) with h' | h'
    · rw [hg] at h'; cases h'
    · rw [hg, Option.mem_toList.1 hm] at h'
      exact h' rfl
/-- So does a box. -/
theorem CvTo.box {w w' : World} {B : CB} {ov o2 : Value} {A : Nat} {cs : Array Value} {T : TypeId} (h : CvTo B ov w o2 w') (hb : Box w A cs T) (hA : A ≠ B.o) (hn : ∀ g, ov.ownBlock = some g → g ≠ A) : Box w' A cs T := by
  refine hb.keep h.1 (fun hm => ?_)
  unfold CvMay at hm
  rcases List.mem_cons.1 hm with h' | hm
  · exact hA h'
  · exact hn A (Option.mem_toList.1 hm) rfl
theorem row_pop2 {w : World} {base : Nat} {ao : Option Addr} {n cap : Nat} {xs : List Pr} {x : Pr} {e : TypeId} (h : w.ownsRow base e 2 (.slice ao (n + 1) cap) (n + 1) (flatP (xs ++ [x]))) (hl : xs.length = n) : w.ownsRow base e 2 (.slice ao n cap) n (flatP xs) := by
  refine ⟨by rw [flatP_len, hl], ?_⟩
  rcases h.2 with ⟨e0, h0⟩ | ⟨g, cap', cur, e0, hb, hg, hle, hcap, hsz, ht⟩
  · omega
  · cases e0
    refine .inr ⟨g, cap, cur, rfl, hb, hg, by omega, hcap, hsz, ?_⟩
    have : (cur.toList.take ((n + 1) * 2)).take (n * 2) = flatP xs := by
      rw [ht, flatP_snoc, List.take_append_of_le_length (by rw [flatP_len]; omega), List.take_of_length_le (by rw [flatP_len]; omega)]
    rw [List.take_take] at this
    rw [← this]
    congr 1
    omega
theorem CvSt.append {W0 w w1 : World} {B : CB} {ov : Value} {l : List (Nat × Nat)} {x : Nat × Nat} {g cap : Nat} {o : Obj} (h : CvSt W0 B w ov l) (hlo : B.o < W0.heap.size)
    (hown : w1.ownsRow W0.heap.size 75 2 (.slice (some ⟨g, 0, none⟩) (l.length + 1) cap) (l.length + 1) (flatP (l.map toP) ++ (prCells (toP x)).toList)) (hg : (w.alloc o).grownBy w1 ov.ownBlock) (hat : ov.ownBlock = some g ∨ g = (w.alloc o).heap.size) :
    CvSt W0 B (w1.setCell ⟨B.o, 0, none⟩ (.slice (some ⟨g, 0, none⟩) (l.length + 1) cap)) (.slice (some ⟨g, 0, none⟩) (l.length + 1) cap) (l ++ [x]) ∧ CvTo B ov w (.slice (some ⟨g, 0, none⟩) (l.length + 1) cap) (w1.setCell ⟨B.o, 0, none⟩ (.slice (some ⟨g, 0, none⟩) (l.length + 1) cap)) := by
  have hb1 := box_grown (h.bo.old o) (h.row.alloc o) hg hlo
  refine ⟨⟨hb1.set1 _, ?_, ((h.ch.alloc o).grown hg (fun k hk => .inr (h.row.lt k hk).1)).setCell (.inl (by simp)) _⟩, ?_, fun k hk => ?_⟩
  · rw [List.map_append, List.length_append]
    show World.ownsRow _ _ _ _ _ _ (flatP (l.map toP ++ [toP x]))
    rw [flatP_snoc]
    exact row_set hown hlo _
  · unfold CvMay
    exact (((Chg.refl _ w).alloc o).grown hg (fun k hk => .inl (List.mem_cons_of_mem _ (Option.mem_toList.2 hk)))).setCell (p := ⟨B.o, 0, none⟩) (.inl (List.mem_cons_self ..)) _
  · cases hk
    rcases hat with h' | h'
    · exact .inl h'
    · right
      show _ ≤ g
      rw [h']
      simp
theorem CvSt.pop {W0 w : World} {B : CB} {ao : Option Addr} {n cap : Nat} {l : List (Nat × Nat)} {x : Nat × Nat} (h : CvSt W0 B w (.slice ao (n + 1) cap) (l ++ [x])) (hlo : B.o < W0.heap.size) (hn : l.length = n) :
    CvSt W0 B (w.setCell ⟨B.o, 0, none⟩ (.slice ao n cap)) (.slice ao n cap) l ∧ CvTo B (.slice ao (n + 1) cap) w (.slice ao n cap) (w.setCell ⟨B.o, 0, none⟩ (.slice ao n cap)) := by
  have hr : w.ownsRow W0.heap.size 75 2 (.slice ao (n + 1) cap) (n + 1) (flatP (l.map toP ++ [toP x])) := by
    have := h.row
    rw [List.map_append, List.length_append, hn] at this
    exact this
  have hr2 := row_pop2 hr (by rw [List.length_map, hn])
  refine ⟨⟨h.bo.set1 _, ?_, h.ch.setCell (.inl (by simp)) _⟩, (Chg.refl _ w).setCell (p := ⟨B.o, 0, none⟩) (.inl (List.mem_cons_self ..)) _, fun k hk => .inl (by
    cases ao with
    | none => cases hk
    | some a => exact hk)⟩
  rw [hn]
  exact row_set hr2 hlo _
def GrowC (W0 : World) (B : CB) (S : List (Nat × Nat)) (N : Nat) : Prop := ∀ (s : Nat) (left : List Pr) (lv : Value) (w : World) (ov : Value) (l : List (Nat × Nat)), s < N → l.length + s ≤ 100 → left.length ≤ 16 → CvSt W0 B w ov l → w.ownsRow W0.heap.size 60 2 lv left.length (flatP left) → (∀ x ∈ left, ∃ i j : Nat, i < 4 ∧ j < 4 ∧ x = ((i : Int), (j : Int))) →
  Calls Try.prog 87 #[lv, .int .i64 (s : Int), .pointer (some ⟨B.s, 0, none⟩), .pointer (some ⟨B.o, 0, none⟩), .pointer (some ⟨B.g, 0, none⟩)] w fun e w' => ∃ ov', e = .returned (.bool (covM S s left).isSome) ∧ CvSt W0 B w' ov' (l ++ (covM S s left).getD []) ∧ CvTo B ov w ov' w'

set_option maxRecDepth 100000 in
set_option maxHeartbeats 1000000 in
/-- The closure of Cover: is an entry in the rectangle? -/
theorem inRect2 (B r c i j : Nat) (w : World) (hB : Box w B #[.int .i64 (r : Int), .int .i64 (c : Int)] 75) (hr : r < 65536) (hc : c < 65536) (hi : i ≤ 62) (hj : j ≤ 62) :
    Calls Try.prog 90 #[.agg #[.int .i64 (i : Int), .int .i64 (j : Int)], .pointer (some ⟨B, 0, none⟩)] w (Ret (.bool (T.has r c i j)) w) := by
  have HH := hide fun ws => has_any r c i j ws hr hc hi hj
  have b0 := hB.cell 0
  have b1 := hB.cell 1
  simp only [List.getElem?_toArray, List.getElem?_cons_zero, List.getElem?_cons_succ] at b0 b1
  have lB := hB.lt
  clear hr hc hi hj hB
  go_enter Try.func90, Try.ntmps90
  go_wp2_with fail
  refine (HH.out _).mono ?_
  rintro e w1 ⟨rfl, hw1⟩
  have HC : Hid (Chg [] w w1) := hide (by (repeat' (first | with_reducible exact Chg.refl _ _ | with_reducible assumption | with_reducible apply Chg.drewN | with_reducible apply Chg.drew | with_reducible apply Chg.alloc | (with_reducible refine Chg.setCell ?_ (Or.inr ?_) _) | (with_reducible refine Chg.trans ?_ (by assumption)) | (simp; done) | (simp; omega))))
  clear hw1
  go_wp2
  go_ret
  exact ⟨rfl, HC.out⟩
theorem callCover2 (args : Array Value) (W : World) : (callFunc 90 args).run Try.prog W = .ok (.enter 90 args) W := by kernel_rfl
theorem callCover1 (args : Array Value) (W : World) : (callFunc 87 args).run Try.prog W = .ok (.enter 87 args) W := by kernel_rfl
end Go.Proofs.Ytaapamoglgpocaa
