/- How the arguments of the statements are read: ints, bools, slices of ints, slices of them, plans. -/
import Derived.Test.YtaapamoglgpocaaNodes2
import Derived.ProofKit
import Derived.OpenShut
import Derived.Carry
import Derived.ChangeSlices
import Derived.Test.YtaapamoglgpocaaPlanPlain
import Derived.StillTailTactics
import Derived.Test.YtaapamoglgpocaaRLen2
import Derived.Test.YtaapamoglgpocaaRun4
namespace Go.Proofs.Ytaapamoglgpocaa
open Go.ChangeShapes Go.WideShapes Go.ChangeAt Go.RowKit

def fits64 (x : Int) : Prop := -9223372036854775808 ≤ x ∧ x ≤ 9223372036854775807
/-- An int; a bool. -/
def IsInt (v : Value) : Prop := ∃ x : Int, v = .int .i64 x ∧ fits64 x
def IsBool (v : Value) : Prop := ∃ x : Bool, v = .bool x
theorem read_int {x : Int} (h : (Lit.int .i64 x).wf = true) : IsInt (.int .i64 x) := ⟨x, rfl, bounds_i64 h⟩
theorem cellsOfInt : Try.prog.cellsOf 3 = 1 := by kernel_rfl
theorem cellsOfBool : Try.prog.cellsOf 4 = 1 := by kernel_rfl
theorem cellsOfInts : Try.prog.cellsOf 38 = 1 := by kernel_rfl
theorem cellsOfNode : Try.prog.cellsOf 77 = 6 := by kernel_rfl

/-- A slice of ints; a slice of such; a slice of nodes. -/
def IsInts (w : World) (v : Value) : Prop := ∃ xs, See w v xs ∧ xs.length ≤ 9223372036854775807
def IsRows (w : World) (v : Value) : Prop := ∃ t, See2 w v t ∧ t.length ≤ 9223372036854775807 ∧ ∀ r ∈ t, r.length ≤ 9223372036854775807
def IsNodes (w : World) (v : Value) : Prop := ∃ ps, SeeN w v ps ∧ ps.length ≤ 9223372036854775807

section
variable {H : Type} {enc : TypeId × Value → H} {w : World} {base : Nat} {spare : Nat → Bool} {held : Bool}
theorem cell_int {n : Nat} {c : Value} {x : Option (DataW H × List MemPlace)} (h : DataW.trod enc Try.prog w base spare held n 3 [c] = x) (hx : x.isSome = true) : ∃ k, c = .int .i64 k ∧ fits64 k := by
  obtain ⟨y, rfl⟩ := Option.isSome_iff_exists.1 hx
  obtain ⟨k, h1, _, h2⟩ := DataW.trod_int Try.underlying3 h
  simp at h1
  exact ⟨k, h1, bounds_i64 h2⟩
theorem cell_bool {n : Nat} {c : Value} {x : Option (DataW H × List MemPlace)} (h : DataW.trod enc Try.prog w base spare held n 4 [c] = x) (hx : x.isSome = true) : ∃ k, c = .bool k := by
  obtain ⟨y, rfl⟩ := Option.isSome_iff_exists.1 hx
  obtain ⟨k, h1, _⟩ := DataW.trod_bool Try.underlying4 h
  simp at h1
  exact ⟨k, h1⟩
theorem lt_of_cell {a : Addr} {u : Value} (h : w.cell? a = some u) : a.block < w.heap.size := World.block_lt_of_cell? w a h
theorem see_cell {n : Nat} {c : Value} {x : Option (DataW H × List MemPlace)} (h : DataW.trod enc Try.prog w base spare held n 38 [c] = x) (hx : x.isSome = true) : IsInts w c := by
  obtain ⟨y, rfl⟩ := Option.isSome_iff_exists.1 hx
  rcases open_ints Try.underlying38 Try.underlying3 cellsOfInt h with ⟨e, _⟩ | ⟨a, len, cap, zs, e, _, hle, hcap, hzl, _, hc, _⟩
  · simp only [List.cons.injEq, and_true] at e
    subst e
    exact ⟨[], .inl ⟨rfl, _, _, rfl⟩, by simp⟩
  · simp only [List.cons.injEq, and_true] at e
    subst e
    have hzl' : len ≤ zs.length := by split at hzl <;> omega
    have hl : (zs.take len).length = len := by rw [List.length_take]; omega
    refine ⟨zs.take len, ?_, by unfold maxLen at hcap; omega⟩
    by_cases h0 : len = 0
    · subst h0
      exact .inl ⟨by simp, _, _, rfl⟩
    · have c0 := hc 0 (by omega)
      have hb := lt_of_cell c0
      rw [add_block] at hb
      refine .inr ⟨a, cap, by rw [hl], by omega, hb, fun i hi => ?_⟩
      rw [hl] at hi
      rw [hc i (by omega), List.getD_eq_getElem?_getD, List.getD_eq_getElem?_getD, List.getElem?_take, if_pos hi]
set_option maxRecDepth 100000 in
theorem open_ints' {r : Reach} {b0 : Nat} {v : Value} {d : DataW H} {ps : List MemPlace} (hv : Value.okWide Try.prog w r b0 38 v) (h : DataW.Trod enc Try.prog w base spare held 38 v d ps) : IsInts w v := by
  obtain ⟨a, len, cap, rfl⟩ := okWide_slice Try.underlying38 hv
  obtain ⟨fuel, hf⟩ := h
  exact see_cell hf rfl
set_option maxRecDepth 100000 in
theorem open_rows' {r : Reach} {b0 : Nat} {v : Value} {d : DataW H} {ps : List MemPlace} (hv : Value.okWide Try.prog w r b0 22 v) (h : DataW.Trod enc Try.prog w base spare held 22 v d ps) : IsRows w v := by
  obtain ⟨a0, len0, cap0, rfl⟩ := okWide_slice Try.underlying22 hv
  obtain ⟨fuel, hf⟩ := h
  rcases DataW.trod_slice Try.underlying22 hf with ⟨e, _⟩ | ⟨a, len, cap, elems, rest, n, _, e, _, _, hle, hcap, hlen, hel, _, _⟩
  · have e' : Value.slice a0 len0 cap0 = .slice none 0 0 := by simpa [Value.cells] using e
    cases e'
    exact ⟨[], ⟨none, 0, rfl, by simp, fun h => absurd rfl h⟩, by simp, fun r hr => by simp at hr⟩
  · have e' : Value.slice a0 len0 cap0 = .slice (some a) len cap := by simpa [Value.cells] using e
    rw [e']
    have each : ∀ i, ∃ xs : List Int, i < len → (∃ u, w.cell? (a.add i) = some u ∧ See w u xs) ∧ xs.length ≤ 9223372036854775807 := by
      intro i
      by_cases hi : i < len
      · have hb := hel i hi
        rw [cellsOfInts, Nat.mul_one] at hb
        obtain ⟨y, hy⟩ : ∃ y, elems[i]? = some y := ⟨_, List.getElem?_eq_getElem (by omega)⟩
        rw [hy, Option.bind_eq_some_iff] at hb
        obtain ⟨cs', hcs, hy'⟩ := hb
        obtain ⟨_, hl1, hc0⟩ := World.cells?_some hcs
        match cs', hl1 with
        | [c], _ =>
          have hc := hc0 0 (by omega)
          obtain ⟨xs, hs, hx⟩ := see_cell hy' rfl
          refine ⟨xs, fun _ => ⟨⟨c, ?_, hs⟩, hx⟩⟩
          simpa using cell_of_cells?_one hcs
      · exact ⟨[], fun h => absurd h hi⟩
    obtain ⟨f, hf⟩ := Classical.axiomOfChoice each
    have hl : ((List.range len).map f).length = len := by simp
    have hg : ∀ i, i < len → ((List.range len).map f).getD i [] = f i := fun i hi => by
      rw [List.getD_eq_getElem?_getD, List.getElem?_map, List.getElem?_range hi]; rfl
    refine ⟨(List.range len).map f, ⟨some a, cap, by rw [hl], by rw [hl]; exact hle, fun hne => ⟨a, rfl, ?_, fun i hi => ?_⟩⟩, by rw [hl]; unfold maxLen at hcap; omega, fun r hr => ?_⟩
    · have h0 : 0 < len := by
        rcases Nat.eq_zero_or_pos len with h | h
        · subst h; simp at hne
        · exact h
      obtain ⟨⟨u, hu, _⟩, _⟩ := hf 0 h0
      have := lt_of_cell hu
      rwa [add_block] at this
    · rw [hl] at hi
      rw [hg i hi]
      exact (hf i hi).1
    · obtain ⟨i, hi, rfl⟩ := List.mem_map.1 hr
      exact (hf i (List.mem_range.1 hi)).2
set_option maxRecDepth 100000 in
theorem node_cells {n : Nat} {cs : List Value} {x : Option (DataW H × List MemPlace)} (hl : cs.length = 6) (h : DataW.trod enc Try.prog w base spare held n 77 cs = x) (hx : x.isSome = true) :
    ∃ y : Nd, cs = [.bool y.leaf, .int .i64 y.val, .int .i64 y.who, .int .i64 y.set, .int .i64 y.no, .int .i64 y.yes] := by
  obtain ⟨z, rfl⟩ := Option.isSome_iff_exists.1 hx
  obtain ⟨xs, m, _, _, _, hxl, hg⟩ := DataW.trod_struct Try.underlying77 h
  match cs, hl with
  | [c0, c1, c2, c3, c4, c5], _ =>
    have g0 : DataW.trod enc Try.prog w base spare held m 4 [c0] = xs[0]? := by simpa [cellsOfInt, cellsOfBool, Value.cells] using hg 0 _ rfl
    have g1 : DataW.trod enc Try.prog w base spare held m 3 [c1] = xs[1]? := by simpa [cellsOfInt, cellsOfBool, Value.cells] using hg 1 _ rfl
    have g2 : DataW.trod enc Try.prog w base spare held m 3 [c2] = xs[2]? := by simpa [cellsOfInt, cellsOfBool, Value.cells] using hg 2 _ rfl
    have g3 : DataW.trod enc Try.prog w base spare held m 3 [c3] = xs[3]? := by simpa [cellsOfInt, cellsOfBool, Value.cells] using hg 3 _ rfl
    have g4 : DataW.trod enc Try.prog w base spare held m 3 [c4] = xs[4]? := by simpa [cellsOfInt, cellsOfBool, Value.cells] using hg 4 _ rfl
    have g5 : DataW.trod enc Try.prog w base spare held m 3 [c5] = xs[5]? := by simpa [cellsOfInt, cellsOfBool, Value.cells] using hg 5 _ rfl
    have hl6 : xs.length = 6 := hxl
    obtain ⟨b, rfl⟩ := cell_bool g0 (by simp [hl6])
    obtain ⟨k1, rfl, _⟩ := cell_int g1 (by simp [hl6])
    obtain ⟨k2, rfl, _⟩ := cell_int g2 (by simp [hl6])
    obtain ⟨k3, rfl, _⟩ := cell_int g3 (by simp [hl6])
    obtain ⟨k4, rfl, _⟩ := cell_int g4 (by simp [hl6])
    obtain ⟨k5, rfl, _⟩ := cell_int g5 (by simp [hl6])
    exact ⟨⟨b, k1, k2, k3, k4, k5⟩, rfl⟩
set_option maxRecDepth 100000 in
theorem open_nodes' {r : Reach} {b0 : Nat} {v : Value} {d : DataW H} {ps : List MemPlace} (hv : Value.okWide Try.prog w r b0 30 v) (h : DataW.Trod enc Try.prog w base spare held 30 v d ps) : IsNodes w v := by
  obtain ⟨a0, len0, cap0, rfl⟩ := okWide_slice Try.underlying30 hv
  obtain ⟨fuel, hf⟩ := h
  rcases DataW.trod_slice Try.underlying30 hf with ⟨e, _⟩ | ⟨a, len, cap, elems, rest, n, _, e, _, _, hle, hcap, hlen, hel, _, _⟩
  · have e' : Value.slice a0 len0 cap0 = .slice none 0 0 := by simpa [Value.cells] using e
    cases e'
    exact ⟨[], ⟨none, 0, rfl, by simp, fun h => absurd rfl h⟩, by simp⟩
  · have e' : Value.slice a0 len0 cap0 = .slice (some a) len cap := by simpa [Value.cells] using e
    rw [e']
    have each : ∀ i, ∃ y : Nd, i < len → ∀ k u, ([.bool y.leaf, .int .i64 y.val, .int .i64 y.who, .int .i64 y.set, .int .i64 y.no, .int .i64 y.yes] : List Value)[k]? = some u → w.cell? (a.add (i * 6 + k)) = some u := by
      intro i
      by_cases hi : i < len
      · have hb := hel i hi
        rw [cellsOfNode] at hb
        obtain ⟨y, hy⟩ : ∃ y, elems[i]? = some y := ⟨_, List.getElem?_eq_getElem (by omega)⟩
        rw [hy, Option.bind_eq_some_iff] at hb
        obtain ⟨cs', hcs, hy'⟩ := hb
        obtain ⟨_, hl1, hc0⟩ := World.cells?_some hcs
        obtain ⟨z, rfl⟩ := node_cells hl1 hy' rfl
        refine ⟨z, fun _ k u hk => ?_⟩
        have hk6 : k < 6 := by
          have := (List.getElem?_eq_some_iff.1 hk).1
          simpa using this
        have hc := hc0 k hk6
        have e2 : (a.add (i * 6)).add k = a.add (i * 6 + k) := by
          by_cases h0 : k = 0
          · subst h0; rw [add_nought]; rfl
          · rw [add_in a (i * 6) (by omega : 1 ≤ k)]
            unfold Addr.add
            rw [if_neg h0]
        rw [e2] at hc
        rw [hc]
        exact hk
      · exact ⟨nd0, fun h => absurd h hi⟩
    obtain ⟨f, hf⟩ := Classical.axiomOfChoice each
    have hl : ((List.range len).map f).length = len := by simp
    have hg : ∀ i, i < len → ((List.range len).map f).getD i nd0 = f i := fun i hi => by
      rw [List.getD_eq_getElem?_getD, List.getElem?_map, List.getElem?_range hi]; rfl
    refine ⟨(List.range len).map f, ⟨some a, cap, by rw [hl], by rw [hl]; exact hle, fun hne => ⟨a, rfl, ?_, fun i hi => ?_⟩⟩, by rw [hl]; unfold maxLen at hcap; omega⟩
    · have h0 : 0 < len := by
        rcases Nat.eq_zero_or_pos len with h | h
        · subst h; simp at hne
        · exact h
      have := lt_of_cell (hf 0 h0 0 _ rfl)
      rwa [add_block] at this
    · rw [hl] at hi
      rw [hg i hi]
      have h6 := hf i hi
      exact ⟨h6 0 _ rfl, h6 1 _ rfl, h6 2 _ rfl, h6 3 _ rfl, h6 4 _ rfl, h6 5 _ rfl⟩
end
end Go.Proofs.Ytaapamoglgpocaa

/- Walk: the length of a plan, the reference's. -/
namespace Go.Proofs.Ytaapamoglgpocaa
open Go.RowKit

/-- A row of ints that the call itself writes. -/
def IntTab (w : World) (A n : Nat) (f : Nat → Int) : Prop := ∃ cur, Box w A cur 3 ∧ cur.size = n ∧ ∀ i, i < n → cur[i]? = some (.int .i64 (f i))
theorem IntTab.lt {w : World} {A n : Nat} {f : Nat → Int} (h : IntTab w A n f) : A < w.heap.size := by obtain ⟨c, h, _⟩ := h; exact h.lt
theorem IntTab.keep {w w' : World} {A n : Nat} {f : Nat → Int} {S : List Nat} (h : IntTab w A n f) (hc : Chg S w w') (hs : A ∉ S) : IntTab w' A n f := by
  obtain ⟨c, h, hc'⟩ := h
  exact ⟨c, h.keep hc hs, hc'⟩
theorem IntTab.cell {w : World} {A n : Nat} {f : Nat → Int} (h : IntTab w A n f) {i : Nat} (hi : i < n) : w.cell? ⟨A, i, none⟩ = some (.int .i64 (f i)) := by
  obtain ⟨c, h, _, hc⟩ := h
  rw [h.cell]; exact hc i hi
theorem IntTab.free {w : World} {A n : Nat} {f : Nat → Int} (h : IntTab w A n f) (i : Nat) : w.frozen? ⟨A, i, none⟩ = false := by
  obtain ⟨c, h, _⟩ := h
  exact h.free i
theorem IntTab.set {w : World} {A n : Nat} {f g : Nat → Int} (h : IntTab w A n f) (i : Nat) (v : Int) (hg : ∀ j, j < n → g j = if j = i then v else f j) : IntTab (w.setCell ⟨A, i, none⟩ (.int .i64 v)) A n g := by
  obtain ⟨c, h, hs, hc⟩ := h
  refine ⟨_, h.set i _, by simpa using hs, fun j hj => ?_⟩
  rw [hg j hj]
  by_cases hij : j = i
  · subst hij
    rw [Array.getElem?_setIfInBounds_self, if_pos (by omega), if_pos rfl]
  · rw [Array.getElem?_setIfInBounds_ne (Ne.symm hij), hc j hj, if_neg hij]
theorem IntTab.see {w : World} {A n : Nat} {f : Nat → Int} {xs : List Int} (h : IntTab w A n f) (hl : xs.length = n) (hx : ∀ i, i < n → xs.getD i 0 = f i) : See w (.slice (some ⟨A, 0, none⟩) n n) xs :=
  .inr ⟨⟨A, 0, none⟩, n, by rw [hl], by rw [hl]; exact Nat.le_refl _, h.lt, fun i hi => by rw [add_zero_row, hx i (by omega)]; exact h.cell (by omega)⟩
theorem IntTab.made {w : World} {g n base : Nat} (h : w.ownsRow base 3 1 (.slice (some ⟨g, 0, none⟩) n n) n (madeCells (Value.int .i64 0).cells (n * 1)).toList) : IntTab w g n (fun _ => 0) := by
  rcases h.2 with ⟨h, _⟩ | ⟨g', cap', cur, he, hb, hg, hle, hm, hsz, ht⟩
  · cases h
  · cases he
    have hcells : (Value.int .i64 0).cells = #[.int .i64 0] := rfl
    rw [hcells, toList_madeCells_one, Nat.mul_one] at ht
    refine ⟨cur, hg, by omega, fun i hi => ?_⟩
    have e : (List.replicate n (Value.int .i64 0))[i]? = some (.int .i64 0) := by rw [List.getElem?_replicate, if_pos hi]
    rw [← ht, List.getElem?_take, if_pos hi] at e
    simpa using e


theorem IntTab.congr {w : World} {A n : Nat} {f g : Nat → Int} (h : IntTab w A n f) (hg : ∀ i, i < n → g i = f i) : IntTab w A n g := by
  obtain ⟨c, h, hs, hc⟩ := h
  exact ⟨c, h, hs, fun i hi => by rw [hg i hi]; exact hc i hi⟩
/-- The lengths that are known, from j on. -/
def depT (ps : List Nd) (j p : Nat) : Int := if j ≤ p then (depA ps p : Int) else 0
theorem depT_more (ps : List Nd) (j i : Nat) : depT ps j i = if i = j then (depA ps j : Int) else depT ps (j + 1) i := by
  unfold depT
  by_cases h : i = j
  · subst h
    rw [if_pos (Nat.le_refl _), if_pos rfl]
  · rw [if_neg h]
    by_cases h2 : j ≤ i
    · rw [if_pos h2, if_pos (by omega)]
    · rw [if_neg h2, if_neg (by omega)]
theorem imaxD (a b : Nat) : imax (a : Int) (b : Int) = ((max a b : Nat) : Int) := by unfold imax; split <;> omega

set_option maxRecDepth 100000 in
set_option maxHeartbeats 2000000 in
theorem RDepth_any (u : Value) (ps : List Nd) (w : World) (hu : SeeN w u ps) (hp : isPl ps = true) :
    Calls Try.prog 24 #[u] w (Ret (.int .i64 (depA ps 0 : Int)) w) := by
  have kmax := fun w ts t x y => @run_max_2 Try.prog w ts t x y
  obtain ⟨hl1, hl100, _⟩ := isPl_iff.1 hp
  have HP := hide hp
  have hne : ps ≠ [] := by rintro rfl; simp at hl1
  obtain ⟨a, cap, rfl, hcell⟩ := hu.open hne
  have HC := hide hcell
  obtain ⟨L, hL⟩ : ∃ L, L = ps.length := ⟨_, rfl⟩
  have HL := hide hL
  rw [← hL] at hl1 hl100 ⊢
  clear hp hu hne hcell hL
  obtain ⟨i0, hi, hz0, hz1, hz2⟩ := info_parts infoInt
  go_enter Try.func24, Try.ntmps24
  go_wp2_with (at_make; refine wpList_make_full _ rfl _ _ 38 rfl 0 3 i0 (.int .i64 0) 1 Try.underlying38 hi hz0 hz1 _ _ _ _ L rfl rfl rfl rfl (by rw [hz2]; omega) (by unfold maxLen; omega) (Nat.zero_le _) ?_; intro w5 hown hgrow)
  have T5 := hide (IntTab.made (by simpa using hown))
  have C5 : Hid (Chg [] w w5) := hide ((Chg.refl [] w).grown hgrow (fun k hk => by cases hk))
  have hA : Hid (w.heap.size ≤ w.heap.size) := hide (Nat.le_refl _)
  clear hown hgrow hi hz0 hz1 hz2
  generalize hAe : (w.heap.size : Nat) = A at T5 hA ⊢
  go_loopw [4] (fun iv wr => ∃ j : Nat, j ≤ L ∧ iv = .int .i64 ((j : Int) - 1) ∧ Hid (IntTab wr A L (depT ps j) ∧ Chg [] w wr)) (fun iv _ => (intOf iv + 1).toNat)
  case atStart => exact ⟨L, Nat.le_refl _, rfl, hide ⟨T5.out.congr fun i hi => if_neg (by omega), C5.out⟩⟩
  case round =>
    obtain ⟨j, hj, rfl, hI⟩ := hrel
    by_cases hj0 : j = 0
    · subst hj0
      have e0 : ((0 : Nat) : Int) - 1 = -1 := rfl
      rw [e0]
      have d1 : decide ((0 : Int) ≤ -1) = false := by decide
      have k0 := hI.out.1.cell (i := 0) (by omega)
      rw [show depT ps 0 0 = (depA ps 0 : Int) from if_pos (Nat.le_refl _)] at k0
      have lt0 := hI.out.1.lt
      have i0 : (0 : Int) < (L : Int) := by omega
      clear e0
      go_wp2
      go_ret
      exact ⟨rfl, hI.out.2⟩
    · obtain ⟨k, rfl⟩ : ∃ k, j = k + 1 := ⟨j - 1, by omega⟩
      have e0 : ((k + 1 : Nat) : Int) - 1 = (k : Int) := by omega
      rw [e0]
      have d1 : decide ((0 : Int) ≤ (k : Int)) = true := by simp
      have hk : k < ps.length := by rw [← HL.out]; omega
      obtain ⟨m0, m1, m2, m3, m4, m5⟩ := HC.out wr hI.out.2 k hk
      obtain ⟨y, hy⟩ : ∃ y, y = ps.getD k nd0 := ⟨_, rfl⟩
      rw [← hy] at m0 m1 m2 m3 m4 m5
      have hi0 : (0 : Int) ≤ (k : Int) := by omega
      have hi1 : (k : Int) < (L : Int) := by omega
      have HY := hide hy
      clear e0 hj0 hy
      obtain ⟨lf, hlf⟩ : ∃ b, b = y.leaf := ⟨_, rfl⟩
      rw [← hlf] at m0
      cases lf with
      | true =>
        have D : Hid (depA ps k = 0) := hide (depA_leaf hk (by rw [← HY.out]; exact hlf.symm))
        clear hlf hk
        go_wp2
        go_roundw
        case rel => exact ⟨k, by omega, by go_num, hide ⟨hI.out.1.congr fun i hi => by
          rw [depT_more]
          by_cases hik : i = k
          · subst hik
            rw [if_pos rfl, D.out]
            exact (if_neg (by omega)).symm
          · rw [if_neg hik], hI.out.2⟩⟩
        case measure => simp [intOf]
      | false =>
        have hlf' : (ps.getD k nd0).leaf = false := by rw [← HY.out]; exact hlf.symm
        have D := depA_node HP.out hk hlf'
        obtain ⟨⟨n1, n2⟩, n3, n4⟩ := node_next HP.out hk hlf'
        have ok := (ndOk_node hlf').1 ((isPl_iff.1 HP.out).2.2 k hk)
        rw [← HY.out] at D n1 n2 n3 n4 ok
        rw [← HL.out] at n2 n4
        obtain ⟨p, hp⟩ := Int.eq_ofNat_of_zero_le (show 0 ≤ y.no by omega)
        obtain ⟨q, hq⟩ := Int.eq_ofNat_of_zero_le (show 0 ≤ y.yes by omega)
        rw [hp] at m4 D n1 n2
        rw [hq] at m5 D n3 n4
        simp only [Int.toNat_natCast] at D n1 n2 n3 n4
        have c1 := hI.out.1.cell n2
        have c2 := hI.out.1.cell n4
        rw [show depT ps (k + 1) p = (depA ps p : Int) from if_pos (by omega)] at c1
        rw [show depT ps (k + 1) q = (depA ps q : Int) from if_pos (by omega)] at c2
        have b1 := depA_le HP.out p
        have b2 := depA_le HP.out q
        have HM := imaxD (depA ps p) (depA ps q)
        obtain ⟨M, hM⟩ : ∃ M, M = max (depA ps p) (depA ps q) := ⟨_, rfl⟩
        have hM1 : M ≤ 100 := by omega
        rw [← hM] at HM D
        have D := hide D
        have hw : IntKind.i64.wrap (1 + (M : Int)) = ((1 + M : Nat) : Int) := by rw [show (1 : Int) + (M : Int) = ((1 + M : Nat) : Int) by omega]; exact wraps_i64 _ (by omega) (by omega)
        have lt0 := hI.out.1.lt
        have HDr := hide ((Chg.refl [] wr).drew)
        have p0 : (0 : Int) ≤ (p : Int) := by omega
        have p1 : (p : Int) < (L : Int) := by omega
        have q0 : (0 : Int) ≤ (q : Int) := by omega
        have q1 : (q : Int) < (L : Int) := by omega
        have kL : k < L := by omega
        clear hlf hk hlf' ok hp hq hM n1 n3
        generalize depA ps p = x1 at c1 b1 HM
        generalize depA ps q = x2 at c2 b2 HM
        go_wp2
        go_still_tail 21, (by kernel_rfl)
        try change wpList _ _ _ _ _ wr.drew
        have T6 := hide (hI.out.1.keep HDr.out List.not_mem_nil)
        have C6 : Hid (Chg [] w wr.drew) := hide (hI.out.2.trans HDr.out)
        clear c1 c2 m0 m1 m2 m3 m4 m5 HDr lt0
        generalize wr.drew = W at T6 C6 ⊢
        have lt0 := T6.out.lt
        have fz := T6.out.free k
        have ck := T6.out.cell kL
        go_wp2
        go_roundw
        case rel => exact ⟨k, by omega, by go_num, hide ⟨T6.out.set k _ (fun i _ => by
          rw [depT_more, D.out, Int.natCast_add]; rfl), C6.out.setCell (.inr (by rw [← hAe]; exact Nat.le_refl _)) _⟩⟩
        case measure => simp [intOf]
end Go.Proofs.Ytaapamoglgpocaa

/- Walk: whether a plan is right, the reference's. -/
namespace Go.Proofs.Ytaapamoglgpocaa
open Go.RowKit

theorem runM_pos {ps : List Nd} (h : isPl ps = true) (row col : Nat) : 1 ≤ (runM ps row col).length ∧ (runM ps row col).length ≤ 101 := by
  have h1 := (isPl_iff.1 h).1
  have h2 := runA_len h row col ps.length 0 (by omega) (by omega)
  have h3 := depA_le h 0
  rw [← runA_start] at h2
  omega
theorem ints_last {w : World} {v : Value} {xs : List Int} (h : Ints w v xs) (hn : 1 ≤ xs.length) : ∃ g cap, v = .slice (some ⟨g, 0, none⟩) xs.length cap ∧ g < w.heap.size ∧ w.cell? ⟨g, xs.length - 1, none⟩ = some (.int .i64 (xs.getD (xs.length - 1) 0)) := by
  rcases h.see with ⟨_, rfl⟩ | ⟨g, cap, e, _, hg, hc⟩
  · simp at hn
  · exact ⟨g, cap, e, hg, hc _ (by omega)⟩

set_option maxRecDepth 100000 in
set_option maxHeartbeats 2000000 in
theorem RRight_any (v u : Value) (t : List (List Int)) (ps : List Nd) (w : World) (hv : See2 w v t) (hu : SeeN w u ps) (ht : T.isTab t = true) (hp : isPl ps = true) :
    Calls Try.prog 23 #[v, u] w (Ret (.bool (rightM t ps)) w) := by
  obtain ⟨⟨t1, t2, t3, t4⟩, _⟩ := T.isTab_iff.1 ht
  have hne : t ≠ [] := by rintro rfl; simp at t1
  obtain ⟨a, cap, rfl, _, hcc⟩ := hv.open hne
  have HC := hide hcc
  have HT := hide ht
  obtain ⟨n, hn⟩ : ∃ n, n = t.length := ⟨_, rfl⟩
  have HN := hide hn
  rw [← hn] at t1 t2 ⊢
  obtain ⟨m, hm⟩ : ∃ m, m = T.cols t := ⟨_, rfl⟩
  have HM := hide hm
  rw [← hm] at t3 t4
  have HRn := hide fun ws (hw : Chg [] w ws) (i j : Nat) (hi : i < 4) (hj : j < 4) => RRun_any u ps i j ws (hu.keep hw) hp hi hj
  have HPos := hide fun i j => runM_pos hp i j
  have HIf := hide (rightM_iff (t := t) (ps := ps))
  rw [← hn, ← hm] at HIf
  obtain ⟨R, hR⟩ : ∃ R, R = rightM t ps := ⟨_, rfl⟩
  rw [← hR] at HIf ⊢
  clear hcc hv hu hne ht hp hn hm hR
  go_enter Try.func23, Try.ntmps23
  go_wp2
  go_loopw [12] (fun iv wr => ∃ (i : Nat), i ≤ n ∧ iv = .int .i64 (i : Int) ∧ Hid ((∀ a q, a < n → q < m → T.met i 0 a q → lastM ps a q = T.ent t a q) ∧ Chg [] w wr)) (fun iv _ => n - (intOf iv).toNat)
  case atStart => exact ⟨0, Nat.zero_le _, rfl, hide ⟨fun a q _ _ h => by unfold T.met at h; omega, Chg.refl _ _⟩⟩
  case round =>
    obtain ⟨i, hi, rfl, hI⟩ := hrel
    by_cases hlt : i < n
    · have d1 : decide ((i : Int) < (n : Int)) = true := by simpa using hlt
      obtain ⟨bo, bc, hrow⟩ := HC.out i (by rw [← HN.out]; exact hlt)
      have hlen : (t.getD i []).length = m := by rw [HM.out]; exact T.tab_row HT.out (by rw [← HN.out]; exact hlt)
      obtain ⟨fr, hs⟩ := hrow wr hI.out.2
      rw [hlen] at fr hs
      have HLen := hide hlen
      have HRow := hide hrow
      rw [hlen] at HRow
      clear hrow hs hlen
      go_wp2
      go_loopw [19] (fun jv wq => ∃ (j : Nat), j ≤ m ∧ jv = .int .i64 (j : Int) ∧ Hid ((∀ a q, a < n → q < m → T.met i j a q → lastM ps a q = T.ent t a q) ∧ Chg [] w wq)) (fun jv _ => m - (intOf jv).toNat)
      case atStart => exact ⟨0, Nat.zero_le _, rfl, hide ⟨hI.out.1, hI.out.2⟩⟩
      case round =>
        obtain ⟨j, hj, rfl, hJ⟩ := hrel
        by_cases hlj : j < m
        · have d2 : decide ((j : Int) < (m : Int)) = true := by simpa using hlj
          obtain ⟨_, hs⟩ := HRow.out wr hJ.out.2
          have hrn : t.getD i [] ≠ [] := by intro h; have := HLen.out; rw [h] at this; simp at this; omega
          obtain ⟨a2, cap2, e2, hx⟩ := hs.open hrn
          rw [HLen.out] at e2
          cases e2
          have fx0 := hx wr (Chg.refl _ _) j (by rw [HLen.out]; exact hlj)
          obtain ⟨z, hz⟩ : ∃ z, z = T.ent t i j := ⟨_, rfl⟩
          have fx : wr.cell? (a2.add j) = some (.int .i64 z) := by rw [hz]; exact fx0
          clear fx0
          have HZ := hide hz
          have HCall := hide (HRn.out wr hJ.out.2 i j (by omega) (by omega))
          obtain ⟨p1, p2⟩ := HPos.out i j
          clear hs hrn hx hz
          go_wp2_with fail
          refine HCall.out.mono ?_
          rintro e w3 ⟨v3, rfl, hI3, hw3⟩
          obtain ⟨g, cap3, rfl, hg, fl⟩ := ints_last hI3 p1
          have C3 : Hid (Chg [] w w3) := hide (hJ.out.2.trans hw3)
          obtain ⟨y, hy⟩ : ∃ y, y = lastM ps i j := ⟨_, rfl⟩
          have fl : w3.cell? ⟨g, (runM ps i j).length - 1, none⟩ = some (.int .i64 y) := by rw [hy]; exact fl
          have HY := hide hy
          obtain ⟨K, hK⟩ : ∃ K, (runM ps i j).length = K + 1 := ⟨(runM ps i j).length - 1, by omega⟩
          rw [hK] at fl p1 p2 ⊢
          rw [Nat.add_sub_cancel] at fl
          have hK1 : ((K + 1 : Nat) : Int) - 1 = (K : Int) := by omega
          have hw : IntKind.i64.wrap (((K + 1 : Nat) : Int) - 1) = (K : Int) := by rw [hK1]; exact wraps_i64 _ (by omega) (by omega)
          have i1 : (0 : Int) ≤ (K : Int) := by omega
          have i2 : (K : Int) < ((K + 1 : Nat) : Int) := by omega
          clear hw3 hI3 hy hK hK1
          by_cases hyz : y = z
          · have d4 : (y != z) = false := by simp [hyz]
            have HE := hide hyz
            clear hyz
            go_wp2
            go_roundw
            case rel => exact ⟨j + 1, by omega, by go_num, hide ⟨fun a q ha hq hm => by
              by_cases he : a = i ∧ q = j
              · obtain ⟨rfl, rfl⟩ := he
                rw [← HY.out, ← HZ.out]; exact HE.out
              · exact hJ.out.1 a q ha hq (by unfold T.met at hm ⊢; omega), C3.out⟩⟩
            case measure => simp [intOf]; omega
          · have d4 : (y != z) = true := by simpa using hyz
            have E : Hid (R = false) := hide (by
              cases R with
              | false => rfl
              | true => exact absurd (HIf.out.1 rfl i j hlt hlj) (by rw [← HY.out, ← HZ.out]; exact hyz))
            clear hyz
            go_wp2
            go_ret
            exact ⟨by rw [E.out]; rfl, C3.out⟩
        · have d2 : decide ((j : Int) < (m : Int)) = false := by simpa using hlj
          obtain rfl : j = m := by omega
          go_wp2
          go_roundw
          case rel => exact ⟨i + 1, by omega, by go_num, hide ⟨fun a q ha hq hm => hJ.out.1 a q ha hq (by unfold T.met at hm ⊢; omega), hJ.out.2⟩⟩
          case measure => simp [intOf]; omega
    · have d1 : decide ((i : Int) < (n : Int)) = false := by simpa using hlt
      obtain rfl : i = n := by omega
      have E : Hid (R = true) := hide (HIf.out.2 (fun a q ha hq => hI.out.1 a q ha hq (by unfold T.met; omega)))
      go_wp2
      go_ret
      exact ⟨by rw [E.out]; rfl, hI.out.2⟩
end Go.Proofs.Ytaapamoglgpocaa
