/- A row of ints that a call makes and writes. -/
import Derived.Test.YtpplihpfjniacaaDoorLoopW
namespace Go.Proofs.YtpplihpfjniacaaDoor
open Go.RowKit

/-- A row of ints that the call itself writes. -/
def IntTab (w : World) (A n : Nat) (f : Nat → Int) : Prop := ∃ cur, Box w A cur 3 ∧ cur.size = n ∧ ∀ i, i < n → cur[i]? = some (.int .i64 (f i))
theorem IntTab.lt {w : World} {A n : Nat} {f : Nat → Int} (h : IntTab w A n f) : A < w.heap.size := by obtain ⟨c, h, _⟩ := h; exact h.lt
theorem IntTab.keep {w w' : World} {A n : Nat} {f : Nat → Int} {S : List Nat} (h : IntTab w A n f) (hc : Chg S w w') (hs : A ∉ S) : IntTab w' A n f := by
  obtain ⟨c, h, hc'⟩ := h
  exact ⟨c, h.keep hc hs, hc'⟩
theorem IntTab.cell {w : World} {A n : Nat} {f : Nat → Int} (h : IntTab w A n f) {i : Nat} (hi : i < n) : w.cell? ⟨A, i, none⟩ = some (.int .i64 (f i)) := by
  obtain ⟨c, h, _, hc⟩ := h
  rw [h.cell]; exact hc i hi
theorem IntTab.free {w : World} {A n : Nat} {f : Nat → Int} (h : IntTab w A n f) (i : Nat) : w.frozen? ⟨A, i, none⟩ = false := by
  obtain ⟨c, h, _⟩ := h
  exact h.free i
theorem IntTab.set {w : World} {A n : Nat} {f g : Nat → Int} (h : IntTab w A n f) (i : Nat) (v : Int) (hg : ∀ j, j < n → g j = if j = i then v else f j) : IntTab (w.setCell ⟨A, i, none⟩ (.int .i64 v)) A n g := by
  obtain ⟨c, h, hs, hc⟩ := h
  refine ⟨_, h.set i _, by simpa using hs, fun j hj => ?_⟩
  rw [hg j hj]
  by_cases hij : j = i
  · subst hij
    rw [Array.getElem?_setIfInBounds_self, if_pos (by omega), if_pos rfl]
  · rw [Array.getElem?_setIfInBounds_ne (Ne.symm hij), hc j hj, if_neg hij]
theorem IntTab.see {w : World} {A n : Nat} {f : Nat → Int} {xs : List Int} (h : IntTab w A n f) (hl : xs.length = n) (hx : ∀ i, i < n → xs.getD i 0 = f i) : See w (.slice (some ⟨A, 0, none⟩) n n) xs :=
  .inr ⟨⟨A, 0, none⟩, n, by rw [hl], by rw [hl]; exact Nat.le_refl _, h.lt, fun i hi => by rw [add_zero_row, hx i (by omega)]; exact h.cell (by omega)⟩
theorem IntTab.made {w : World} {g n base : Nat} (h : w.ownsRow base 3 1 (.slice (some ⟨g, 0, none⟩) n n) n (madeCells (Value.int .i64 0).cells (n * 1)).toList) : IntTab w g n (fun _ => 0) := by
  rcases h.2 with ⟨h, _⟩ | ⟨g', cap', cur, he, hb, hg, hle, hm, hsz, ht⟩
  · cases h
  · cases he
    have hcells : (Value.int .i64 0).cells = #[.int .i64 0] := rfl
    rw [hcells, toList_madeCells_one, Nat.mul_one] at ht
    refine ⟨cur, hg, by omega, fun i hi => ?_⟩
    have e : (List.replicate n (Value.int .i64 0))[i]? = some (.int .i64 0) := by rw [List.getElem?_replicate, if_pos hi]
    rw [← ht, List.getElem?_take, if_pos hi] at e
    simpa using e


theorem IntTab.congr {w : World} {A n : Nat} {f g : Nat → Int} (h : IntTab w A n f) (hg : ∀ i, i < n → g i = f i) : IntTab w A n g := by
  obtain ⟨c, h, hs, hc⟩ := h
  exact ⟨c, h, hs, fun i hi => by rw [hg i hi]; exact hc i hi⟩

theorem IntTab.ints {w : World} {A n : Nat} {f : Nat → Int} (h : IntTab w A n f) (hn : n ≤ 1000) : Ints w (.slice (some ⟨A, 0, none⟩) n n) ((List.range n).map f) := by
  obtain ⟨cur, hb, hs, hc⟩ := h
  unfold Ints
  rw [List.length_map, List.length_range]
  refine ⟨by simp, .inr ⟨A, n, cur, rfl, Nat.zero_le _, hb, Nat.le_refl _, by unfold maxLen; omega, by omega, ?_⟩⟩
  apply List.ext_getElem?
  intro i
  rw [List.getElem?_take]
  by_cases hi : i < n
  · rw [if_pos (by omega), Array.getElem?_toList, hc i hi]
    simp [hi]
  · rw [if_neg (by omega)]
    symm
    simp
    omega

end Go.Proofs.YtpplihpfjniacaaDoor
