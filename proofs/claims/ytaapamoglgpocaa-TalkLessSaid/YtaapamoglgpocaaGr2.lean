/- Walk: greatest. -/
import Derived.Test.YtaapamoglgpocaaGr1
import Derived.Test.YtaapamoglgpocaaRects2
import Derived.Deep.AppendLies
import Derived.OwnWalkIn
namespace Go.Proofs.Ytaapamoglgpocaa
open Go.RowKit
attribute [local go_sem] Oper.semAt_some

theorem wpListIn_append_lies {F : Fence} {n : Nat} {P : Program} (w : World) {ops : Array Oper} {rest : List Oper} {o : Oper} {a : Act} {Q : Exit → Act → World → Prop}
    (hg : o.guard = none) (s x : Operand) (t : TypeId) (hop : o.op = Op.call { callee := Callee.builtin Builtin.append, args := #[s, x], argTypes := #[t, t] })
    (base : Nat) (e : TypeId) (i : TypeInfo) (z : Value) (size bytes : Nat) (h1 : P.underlying t = some (.slice e)) (h2 : P.info? e = some i) (h3 : i.zero = some z) (h4 : i.size = size) (h5 : i.bytes = bytes) (h6 : z.cells.size = size) (h7 : 0 < size)
    (v : Value) (k : Nat) (xs : List Value) (hs : a.eval s = v) (hown : w.ownsRow base e size v k xs) (ad : Addr) (m c : Nat) (news : List Value) (hx : a.eval x = .slice (some ad) m c) (hn : news.length = m * size)
    (hc : ∀ j u, news[j]? = some u → w.cell? (ad.add j) = some u) (h1c : ∀ u ∈ news, u.oneCell' = true) (hm : 0 < m) (b1 : k + m ≤ maxLen) (b2 : (k + m) * bytes ≤ 140737488355328) (b3 : base ≤ w.heap.size) (H : Nat) (hH : w.heap.size = H)
    (hK : ∀ g cap w', w'.ownsRow base e size (.slice (some ⟨g, 0, none⟩) (k + m) cap) (k + m) (xs ++ news) → w.grownBy w' v.ownBlock → (v.ownBlock = some g ∨ g = H) → g < w'.heap.size → wpListIn F n P ops Q rest (a.put o.dst (.slice (some ⟨g, 0, none⟩) (k + m) cap)) w') :
    wpListIn F n P ops Q (o :: rest) a w := by
  refine wpListIn_plain hg fun K hK' => ?_
  obtain ⟨g, cap, w', hrun, r1, r2, r3, r4⟩ := run_append_lies (P := P) w t o.type base e i z size bytes h1 h2 h3 h4 h5 h6 h7 v k xs hown ad m c news hn hc h1c hm b1 b2 b3 H hH
  unfold Oper.wpIn
  refine ⟨?_, ?_⟩
  · simp [Oper.about, hop, resolve, Target.leads, Sem.run_pure]
  · rw [Oper.semAt_plain F _ _ (by rw [hop]; intro c hc'; cases hc')]
    simp [execOp, hop, resolve, invoke, builtin, hs, hx, hrun, Result.andThen]
    exact hK' _ _ (hK g cap w' r1 r2 r3 r4)

def toP (p : Nat × Nat) : Pr := ((p.1 : Int), (p.2 : Int))
/-- The clear rectangles with a value; those that are in no other one. -/
def clrG (t : List (List Int)) (v : Int) (p : Nat × Nat) : Bool := decide (T.clrM t p.1 p.2 = some v)
def allG (t : List (List Int)) (v : Int) : List (Nat × Nat) := (allRects t).filter (clrG t v)
def topG (t : List (List Int)) (v : Int) : List (Nat × Nat) := (allG t v).filter fun r => !(allG t v).any (outB r)

def GSt (w : World) (Z : Nat) (vt : Value) (v : Int) (l : List Pr) (W : World) : Prop :=
  Box W Z #[vt] 69 ∧ Box W (Z + 1) #[.int .i64 v] 3 ∧ (∃ av, Box W (Z + 1 + 1) #[av] 111 ∧ W.ownsRow (Z + 3) 75 2 av l.length (flatP l)) ∧ Chg [] w W ∧ Z + 3 ≤ W.heap.size
theorem GSt.keep {w W W' : World} {Z : Nat} {vt : Value} {v : Int} {l : List Pr} (h : GSt w Z vt v l W) (hc : Chg [] W W') : GSt w Z vt v l W' := by
  obtain ⟨h1, h2, ⟨av, h3, h4⟩, h5, h6⟩ := h
  exact ⟨h1.keep hc List.not_mem_nil, h2.keep hc List.not_mem_nil, ⟨av, h3.keep hc List.not_mem_nil, hc.row h4 (fun _ _ => List.not_mem_nil)⟩, h5.trans hc, Nat.le_trans h6 hc.size⟩
theorem own_row {B : Nat} {W W' : World} {row : Option Nat} {base : Nat} {e : TypeId} {size n : Nat} {v : Value} {xs : List Value} (h : W.ownsRow base e size v n xs) (hg : W.grownBy W' row) (hr : ∀ r, row = some r → B ≤ r ∧ ∃ o : Obj, W.heap[r]? = some o ∧ o.isCells = false) : W'.ownsRow base e size v n xs := by
  refine h.kept hg ?_
  rcases h.2 with ⟨rfl, _⟩ | ⟨g, cap, cur, rfl, _, hgb, _⟩
  · exact .inl rfl
  · refine .inr fun e' => ?_
    obtain ⟨_, o, ho, hc⟩ := hr g e'.symm
    rw [hgb] at ho
    cases ho
    cases hc
theorem GSt.row {B : Nat} {w W W' : World} {row : Option Nat} {Z : Nat} {vt : Value} {v : Int} {l : List Pr} (h : GSt w Z vt v l W) (hw : w.heap.size ≤ B) (hg : W.grownBy W' row) (hr : ∀ r, row = some r → B ≤ r ∧ ∃ o : Obj, W.heap[r]? = some o ∧ o.isCells = false) : GSt w Z vt v l W' := by
  obtain ⟨h1, h2, ⟨av, h3, h4⟩, h5, h6⟩ := h
  exact ⟨h1.row hg hr, h2.row hg hr, ⟨av, h3.row hg hr, own_row h4 hg hr⟩, h5.row' hw hg hr, Nat.le_trans h6 hg.size⟩
theorem filter_snoc {α : Type} (p : α → Bool) (l : List α) (x : α) : (l ++ [x]).filter p = l.filter p ++ (if p x = true then [x] else []) := by
  rw [List.filter_append]
  congr 1
  cases h : p x <;> simp [h]
/-- What a round that appends keeps. -/
theorem KO.append {Z g : Nat} {a w1 : World} {av nv : Value} {T : TypeId} (hz : Box a Z #[av] T) (hc : Chg av.ownBlock.toList a w1) (hnv : nv.ownBlock = some g) (hg : av.ownBlock = some g ∨ a.heap.size ≤ g) (hne : ∀ k, av.ownBlock = some k → k ≠ Z) : KO Z a (w1.setCell ⟨Z, 0, none⟩ nv) := by
  have hz1 : Box w1 Z #[av] T := hz.keep hc (fun hm => hne Z (Option.mem_toList.1 hm) rfl)
  have hcs := Chg.set w1 ⟨Z, 0, none⟩ nv
  have hsz : a.heap.size ≤ (w1.setCell ⟨Z, 0, none⟩ nv).heap.size := Nat.le_trans hc.size hcs.size
  refine ⟨⟨hcs.os.trans hc.os, hcs.tape.trans hc.tape, hcs.output.trans hc.output, hsz⟩, fun k o hk hn ho _ => ?_, fun k hk => ?_⟩
  · have hlt := (Array.getElem?_eq_some_iff.1 ho).1
    have e1 : w1.heap[k]? = a.heap[k]? := hc.block k hlt (fun hm => hn ⟨av, T, hz, Option.mem_toList.1 hm⟩)
    exact ((hcs.block k (Nat.lt_of_lt_of_le hlt hc.size) (fun hm => hk (List.mem_singleton.1 hm))).trans e1).trans ho
  · obtain ⟨v, T', hv, hvk⟩ := hk
    have := hz1.set1 nv
    rw [show (w1.setCell ⟨Z, 0, none⟩ nv).heap[Z]? = some (.cells #[nv] T (0, 0)) from this] at hv
    simp only [Option.some.injEq, Obj.cells.injEq] at hv
    have e : v = nv := by
      have := congrArg (fun x => x.getD 0 undef) hv.1
      simpa using this.symm
    rw [e, hnv] at hvk
    cases hvk
    rcases hg with h | h
    · exact .inl ⟨av, T, hz, h⟩
    · exact .inr h
/-- Those among the first k that are in no other one. -/
def topK (t : List (List Int)) (v : Int) (k : Nat) : List (Nat × Nat) := ((allG t v).take k).filter fun r => !(allG t v).any (outB r)
theorem topK_succ {t : List (List Int)} {v : Int} {k : Nat} (h : k < (allG t v).length) : topK t v (k + 1) = topK t v k ++ (if (allG t v).any (outB ((allG t v).getD k (0, 0))) = true then [] else [(allG t v).getD k (0, 0)]) := by
  unfold topK
  rw [List.take_add_one, List.getElem?_eq_getElem h, Option.toList_some, filter_snoc, List.getD_eq_getElem?_getD, List.getElem?_eq_getElem h]
  congr 1
  simp only [Option.getD_some]
  cases (allG t v).any (outB (allG t v)[k]) <;> rfl
theorem topK_all (t : List (List Int)) (v : Int) : topK t v (allG t v).length = topG t v := by unfold topK; rw [List.take_length]; rfl
theorem topK_len (t : List (List Int)) (v : Int) (k : Nat) : (topK t v k).length ≤ k := by
  unfold topK
  refine Nat.le_trans (List.length_filter_le _ _) ?_
  rw [List.length_take]; omega
theorem allG_mem {t : List (List Int)} (ht : T.isTab t = true) {v : Int} {p : Nat × Nat} (h : p ∈ allG t v) : (1 ≤ p.1 ∧ p.1 < 2 ^ t.length ∧ 1 ≤ p.2 ∧ p.2 < 2 ^ T.cols t) ∧ T.clrM t p.1 p.2 = some v := by
  obtain ⟨h1, h2⟩ := List.mem_filter.1 h
  exact ⟨(mem_allRects ht).1 h1, of_decide_eq_true h2⟩
theorem allG_len {t : List (List Int)} (ht : T.isTab t = true) (v : Int) : (allG t v).length ≤ 256 := by
  obtain ⟨⟨t1, t2, t3, t4⟩, _⟩ := T.isTab_iff.1 ht
  refine Nat.le_trans (List.length_filter_le _ _) ?_
  unfold allRects
  rw [rectsTo_len]
  have h3 := (pow_le16 t2).2
  have h4 := (pow_le16 t4).2
  exact Nat.le_trans (Nat.mul_le_mul (show 2 ^ t.length - 1 ≤ 16 by omega) (show 2 ^ T.cols t - 1 ≤ 16 by omega)) (by decide)
theorem own_cells {W : World} {base n size : Nat} {e : TypeId} {v : Value} {xs : List Value} (h : W.ownsRow base e size v n xs) {g : Nat} (hg : v.ownBlock = some g) : ∀ o, W.heap[g]? = some o → o.isCells = true := by
  intro o ho
  rcases h.2 with ⟨rfl, _⟩ | ⟨g', cap, cur, rfl, _, hgb, _⟩
  · cases hg
  · simp only [Value.ownBlock, Option.some.injEq] at hg
    subst hg
    rw [hgb] at ho
    cases ho
    rfl
end Go.Proofs.Ytaapamoglgpocaa
