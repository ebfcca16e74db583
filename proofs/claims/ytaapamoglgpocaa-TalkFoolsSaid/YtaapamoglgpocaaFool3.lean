/- The memory of Fool's search; its inner closure. -/
import Derived.Test.YtaapamoglgpocaaFool2
namespace Go.Proofs.Ytaapamoglgpocaa
open Go.RowKit

/-- The greater one of two sets, the elder one if they are equal. -/
def updM (now best : List Pr) : List Pr := if best.length < now.length then now else best
def okB (t : List (List Int)) (v : Int) (now : List Pr) (e : Pr) : Bool := !(now.any fun a => !(fooledB t v a e))
def growM (t : List (List Int)) (v : Int) : List Pr → List Pr → List Pr → List Pr
  | [], _, best => best
  | e :: rest, now, best => growM t v rest now (if okB t v now e = true then growM t v rest (now ++ [e]) (updM (now ++ [e]) best) else best)

/-- The blocks of the boxes: the set so far, the best one, all entries, the table, the value, the function. -/
structure FB where
  n : Nat
  b : Nat
  a : Nat
  t : Nat
  v : Nat
  g : Nat
def FB.caps (B : FB) : Array Value := #[.pointer (some ⟨B.n, 0, none⟩), .pointer (some ⟨B.b, 0, none⟩), .pointer (some ⟨B.a, 0, none⟩), .pointer (some ⟨B.t, 0, none⟩), .pointer (some ⟨B.v, 0, none⟩), .pointer (some ⟨B.g, 0, none⟩)]
/-- What does not change: all entries, the table, the value, the function. -/
structure FoolFix (W0 : World) (B : FB) (allv vt : Value) (t : List (List Int)) (v : Int) (all : List Pr) : Prop where
  ba : Box W0 B.a #[allv] 46
  bt : Box W0 B.t #[vt] 69
  bv : Box W0 B.v #[.int .i64 v] 3
  bg : Box W0 B.g #[.func (.func 69) #[] #[.pointer (some ⟨B.n, 0, none⟩), .pointer (some ⟨B.b, 0, none⟩), .pointer (some ⟨B.a, 0, none⟩), .pointer (some ⟨B.t, 0, none⟩), .pointer (some ⟨B.v, 0, none⟩), .pointer (some ⟨B.g, 0, none⟩)]] 88
  sa : SeeP W0 allv all
  st : See2 W0 vt t
  tab : T.isTab t = true
  ins : ∀ x ∈ all, InT t x
  few : all.length ≤ 16
  nb : B.n ≠ B.b
  n1 : B.n ∉ [B.a, B.t, B.v, B.g]
  b1 : B.b ∉ [B.a, B.t, B.v, B.g]
  ln : B.n < W0.heap.size
  lb : B.b < W0.heap.size
  -- what is read lies apart from the two boxes
  an : ∀ w, Chg [B.n, B.b] W0 w → SeeP w allv all ∧ See2 w vt t
/-- What changes: the set so far and the best one, each in a row of the search's own. -/
structure FoolSt (W0 : World) (B : FB) (w : World) (nv bv : Value) (now best : List Pr) : Prop where
  bn : Box w B.n #[nv] 46
  bb : Box w B.b #[bv] 46
  on : w.ownsRow W0.heap.size 60 2 nv now.length (flatP now)
  ob : w.ownsRow W0.heap.size 60 2 bv best.length (flatP best)
  ap : bv.ownBlock = none ∨ bv.ownBlock ≠ nv.ownBlock
  ch : Chg [B.n, B.b] W0 w

theorem FoolFix.atA {W0 w : World} {B : FB} {allv vt : Value} {t : List (List Int)} {v : Int} {all : List Pr} (h : FoolFix W0 B allv vt t v all) (hc : Chg [B.n, B.b] W0 w) : Box w B.a #[allv] 46 ∧ Box w B.t #[vt] 69 ∧ Box w B.v #[.int .i64 v] 3 ∧ Box w B.g #[.func (.func 69) #[] #[.pointer (some ⟨B.n, 0, none⟩), .pointer (some ⟨B.b, 0, none⟩), .pointer (some ⟨B.a, 0, none⟩), .pointer (some ⟨B.t, 0, none⟩), .pointer (some ⟨B.v, 0, none⟩), .pointer (some ⟨B.g, 0, none⟩)]] 88 := by
  have h1 := h.n1
  have h2 := h.b1
  simp only [List.mem_cons, List.not_mem_nil, or_false, not_or] at h1 h2
  exact ⟨h.ba.keep hc (by simp; exact ⟨Ne.symm h1.1, Ne.symm h2.1⟩), h.bt.keep hc (by simp; exact ⟨Ne.symm h1.2.1, Ne.symm h2.2.1⟩), h.bv.keep hc (by simp; exact ⟨Ne.symm h1.2.2.1, Ne.symm h2.2.2.1⟩), h.bg.keep hc (by simp; exact ⟨Ne.symm h1.2.2.2, Ne.symm h2.2.2.2⟩)⟩

/-- A cell reads alike wherever only new blocks came. -/
theorem extCell {W : World} {p : Addr} {u : Value} (h : W.cell? p = some u) : ∀ x : ExtOf W, x.at.cell? p = some u := fun x => (x.chg.cellA (lt_of_cell h) List.not_mem_nil).trans h
theorem extLt {W : World} {b : Nat} (h : b < W.heap.size) : ∀ x : ExtOf W, b < x.at.heap.size := fun x => Nat.lt_of_lt_of_le h x.chg.size

set_option maxRecDepth 100000 in
set_option maxHeartbeats 1000000 in
theorem notFooled (Bt Bv Ba Bi : Nat) (vt allv : Value) (t : List (List Int)) (v : Int) (all : List Pr) (i : Nat) (x : Pr) (w : World) (h1 : w.cell? ⟨Bt, 0, none⟩ = some vt) (h2 : w.cell? ⟨Bv, 0, none⟩ = some (.int .i64 v)) (h3 : w.cell? ⟨Ba, 0, none⟩ = some allv) (h4 : w.cell? ⟨Bi, 0, none⟩ = some (.int .i64 (i : Int)))
    (hs : See2 w vt t) (ha : SeeP w allv all) (ht : T.isTab t = true) (hi : i < all.length) (hx : InT t x) (hin : ∀ y ∈ all, InT t y) :
    Calls Try.prog 71 (#[prV x] ++ #[.pointer (some ⟨Bt, 0, none⟩), .pointer (some ⟨Bv, 0, none⟩), .pointer (some ⟨Ba, 0, none⟩), .pointer (some ⟨Bi, 0, none⟩)]) w (Ret (.bool (!fooledB t v x (all.getD i pr0))) w) := by
  have hmem : all.getD i pr0 ∈ all := by
    rw [List.getD_eq_getElem?_getD, List.getElem?_eq_getElem hi]
    exact List.getElem_mem _
  have HF := hide fun ws (hw : Chg [] w ws) => fooled_any vt t v x (all.getD i pr0) ws (hs.keep hw) ht hx (hin _ hmem)
  have hne : all ≠ [] := by rintro rfl; simp at hi
  obtain ⟨a, cap, rfl, lba, hc⟩ := ha.open hne
  obtain ⟨m0, m1⟩ := hc (w.alloc (.cells (prCells x) 60)) ((Chg.refl [] w).alloc _) i hi
  have ca : Chg [] w (w.alloc (.cells (prCells x) 60)) := (Chg.refl [] w).alloc _
  have l1 := lt_of_cell h1
  have l2 := lt_of_cell h2
  have l3 := lt_of_cell h3
  have l4 := lt_of_cell h4
  have g1 := (ca.cell l1 List.not_mem_nil 0).trans h1
  have g2 := (ca.cell l2 List.not_mem_nil 0).trans h2
  have g3 := (ca.cell l3 List.not_mem_nil 0).trans h3
  have g4 := (ca.cell l4 List.not_mem_nil 0).trans h4
  have bx := Box.new w (prCells x) 60
  have x0 := bx.cell 0
  have x1 := bx.cell 1
  have lx := bx.lt
  obtain ⟨y, hy⟩ : ∃ y, y = all.getD i pr0 := ⟨_, rfl⟩
  rw [← hy] at HF m0 m1 ⊢
  unfold prV prCells at *
  simp only [List.getElem?_toArray, List.getElem?_cons_zero, List.getElem?_cons_succ] at x0 x1
  have HC := hide ca
  obtain ⟨R, hR⟩ : ∃ R, R = fooledB t v x y := ⟨_, rfl⟩
  rw [← hR] at HF ⊢
  have i0 : (0 : Int) ≤ (i : Int) := by omega
  have i1 : (i : Int) < (all.length : Int) := by omega
  generalize all.length = n at *
  obtain ⟨xa, xb⟩ := x
  obtain ⟨ya, yb⟩ := y
  clear h1 h2 h3 h4 hs ha ht hi hx hin hmem hne hc ca l1 l2 l3 l4 bx hy hR
  go_enter Try.func71, Try.ntmps71
  go_wp2
  generalize hW : w.alloc (.cells #[.int .i64 xa, .int .i64 xb] 60) = W at *
  clear hW
  replace g1 := extCell g1
  replace g2 := extCell g2
  replace g3 := extCell g3
  replace g4 := extCell g4
  replace x0 := extCell x0
  replace x1 := extCell x1
  replace m0 := extCell m0
  replace m1 := extCell m1
  replace lx := extLt lx
  refine wp_region_ext (by kernel_rfl) (by kernel_rfl) ?_
  repeat (first | go_big_quiet_step ((go_at_call 72; exact calls_of_ret (HF.out _ (HC.out.trans (ExtOf.chg _))))) | quiet_step ((go_at_call 72; exact calls_of_ret (HF.out _ (HC.out.trans (ExtOf.chg _))))))
  refine wpQuiet_nil ?_
  intro wx hx
  go_wp2
  go_ret
  exact ⟨rfl, HC.out.trans hx⟩
theorem callFool (args : Array Value) (W : World) : (callFunc 71 args).run Try.prog W = .ok (.enter 71 args) W := by kernel_rfl
theorem callGrow (args : Array Value) (W : World) : (callFunc 69 args).run Try.prog W = .ok (.enter 69 args) W := by kernel_rfl
end Go.Proofs.Ytaapamoglgpocaa
