/- Walk: slices.Reverse on a row of its own. -/
import Derived.Test.YtpplihpfjniacaaDoorLn1
namespace Go.Proofs.YtpplihpfjniacaaDoor
open Go.RowKit Go.Shelf

/-- A block whose first cells are these ints. -/
def RowF (w : World) (g n c : Nat) (f : Nat → Int) : Prop := ∃ cur : Array Value, Box w g cur 3 ∧ cur.size = c ∧ n ≤ c ∧ ∀ i, i < n → cur[i]? = some (.int .i64 (f i))
theorem RowF.lt {w : World} {g n c : Nat} {f : Nat → Int} (h : RowF w g n c f) : g < w.heap.size := by obtain ⟨_, h, _⟩ := h; exact h.lt
theorem RowF.cell {w : World} {g n c : Nat} {f : Nat → Int} (h : RowF w g n c f) {i : Nat} (hi : i < n) : w.cell? ⟨g, i, none⟩ = some (.int .i64 (f i)) := by obtain ⟨cur, h, _, _, hc⟩ := h; rw [h.cell]; exact hc i hi
theorem RowF.free {w : World} {g n c : Nat} {f : Nat → Int} (h : RowF w g n c f) (i : Nat) : w.frozen? ⟨g, i, none⟩ = false := by obtain ⟨_, h, _⟩ := h; exact h.free i
theorem RowF.keep {w w' : World} {g n c : Nat} {f : Nat → Int} {S : List Nat} (h : RowF w g n c f) (hc : Chg S w w') (hs : g ∉ S) : RowF w' g n c f := by
  obtain ⟨cur, h, h2⟩ := h
  exact ⟨cur, h.keep hc hs, h2⟩
theorem RowF.set {w : World} {g n c : Nat} {f e : Nat → Int} (h : RowF w g n c f) (i : Nat) (v : Int) (he : ∀ q, q < n → e q = if q = i then v else f q) : RowF (w.setCell ⟨g, i, none⟩ (.int .i64 v)) g n c e := by
  obtain ⟨cur, h, hs, hn, hc⟩ := h
  refine ⟨_, h.set i _, by simpa using hs, hn, fun q hq => ?_⟩
  rw [he q hq]
  by_cases hqi : q = i
  · subst hqi
    rw [Array.getElem?_setIfInBounds_self, if_pos (by omega), if_pos rfl]
  · rw [Array.getElem?_setIfInBounds_ne (Ne.symm hqi), hc q hq, if_neg hqi]
theorem RowF.congr {w : World} {g n c : Nat} {f e : Nat → Int} (h : RowF w g n c f) (he : ∀ q, q < n → e q = f q) : RowF w g n c e := by
  obtain ⟨cur, h, hs, hn, hc⟩ := h
  exact ⟨cur, h, hs, hn, fun q hq => by rw [he q hq]; exact hc q hq⟩
/-- What stands where when the outer ones were turned. -/
def revF (n i : Nat) (f : Nat → Int) (q : Nat) : Int := if q < i ∨ n - 1 - i < q then f (n - 1 - q) else f q
theorem natsV_get {xs : List Nat} {i : Nat} (h : i < xs.length) : (natsV xs)[i]? = some (.int .i64 ((xs.getD i 0 : Nat) : Int)) := by
  unfold natsV
  rw [List.getElem?_map, List.getD_eq_getElem?_getD, List.getElem?_eq_getElem h]
  rfl

set_option maxRecDepth 100000 in
set_option maxHeartbeats 2000000 in
theorem Reverse_row (g n c d : Nat) (f : Nat → Int) (w : World) (h1 : 1 ≤ n) (hn : n ≤ 1000) (h : RowF w g n c f) :
    Calls Tryd.prog 20 #[.slice (some ⟨g, 0, none⟩) n d] w fun e w' => (∃ u, e = .returned u) ∧ RowF w' g n c (fun q => f (n - 1 - q)) ∧ Chg [g] w w' := by
  have HR := hide h
  have hw : IntKind.i64.wrap ((n : Int) - 1) = ((n - 1 : Nat) : Int) := by rw [IntKind.wrap_i64]; omega
  clear h
  go_enter Tryd.func20, Tryd.ntmps20
  go_wp2
  go_loopw [2, 3] (fun iv jv wr => ∃ i j : Nat, (i + j = n - 1 ∧ i ≤ j + 1) ∧ iv = .int .i64 (i : Int) ∧ jv = .int .i64 (j : Int) ∧ Hid (RowF wr g n c (revF n i f) ∧ Chg [g] w wr)) (fun iv _ _ => n - (intOf iv).toNat)
  case atStart => exact ⟨0, n - 1, ⟨by omega, by omega⟩, rfl, by first | rfl | rw [hw], hide ⟨HR.out.congr (fun q hq => by unfold revF; rw [if_neg (by omega)]), Chg.refl _ _⟩⟩
  case round =>
    obtain ⟨i, j, ⟨hij, hle⟩, rfl, rfl, hI⟩ := hrel
    by_cases hlt : i < j
    · have d5 : decide ((i : Int) < (j : Int)) = true := by simp; omega
      have fi := hI.out.1.cell (show i < n by omega)
      have fj := hI.out.1.cell (show j < n by omega)
      have gi := hI.out.1.free i
      have gj := hI.out.1.free j
      have lg := hI.out.1.lt
      obtain ⟨x, hx⟩ : ∃ x, x = revF n i f i := ⟨_, rfl⟩
      obtain ⟨y, hy⟩ : ∃ y, y = revF n i f j := ⟨_, rfl⟩
      rw [← hx] at fi
      rw [← hy] at fj
      have hne : j ≠ i := by omega
      have R2 := hI.out.1.set (e := fun q => if q = i then y else revF n i f q) i y (fun q _ => rfl)
      have fj2 := R2.cell (show j < n by omega)
      have gj2 := R2.free j
      have lg2 := R2.lt
      have hxe : x = f i := by rw [hx]; unfold revF; rw [if_neg (by omega)]
      have hye : y = f j := by rw [hy]; unfold revF; rw [if_neg (by omega)]
      have R3 := hide (R2.set (e := revF n (i + 1) f) j x (fun q hq => by
        unfold revF
        by_cases e1 : q = j
        · subst e1
          rw [if_pos rfl, hxe, if_pos (by omega), show n - 1 - q = i by omega]
        · rw [if_neg e1]
          by_cases e2 : q = i
          · subst e2
            rw [if_pos rfl, hye, if_pos (by omega), show n - 1 - q = j by omega]
          · rw [if_neg e2]
            by_cases e3 : q < i ∨ n - 1 - i < q
            · rw [if_pos e3, if_pos (by omega)]
            · rw [if_neg e3, if_neg (by omega)]))
      have HC := hide hI.out.2
      have i0 : (0 : Int) ≤ (i : Int) := by omega
      have i1 : (i : Int) < (n : Int) := by omega
      have j0 : (0 : Int) ≤ (j : Int) := by omega
      have j1 : (j : Int) < (n : Int) := by omega
      have ew1 := wraps_i64' ((i : Int) + 1) (by omega) (by omega)
      have ew2 : IntKind.i64.wrap ((j : Int) - 1) = ((j - 1 : Nat) : Int) := by rw [IntKind.wrap_i64]; omega
      simp only [if_neg hne] at fj2
      rw [← hy] at fj2
      have fj3 : (wr.setCell ⟨g, i, none⟩ (.int .i64 y)).drew.cell? ⟨g, j, none⟩ = some (.int .i64 y) := fj2
      have gj3 : (wr.setCell ⟨g, i, none⟩ (.int .i64 y)).drew.frozen? ⟨g, j, none⟩ = false := gj2
      clear hx hy hxe hye hI R2
      go_wp2
      go_region
      have HRn := hide (R3.out.keep (Chg.refl [] _).drew List.not_mem_nil)
      have HCn : Hid (Chg [g] w ((wr.setCell ⟨g, i, none⟩ (.int .i64 y)).setCell ⟨g, j, none⟩ (.int .i64 x)).drew) := hide ((HC.out.setCell (.inl (by simp)) _).setCell (.inl (by simp)) _).drew
      clear fj2 gj2 lg2 fj3 gj3 fi fj gi gj lg R3 HC
      generalize ((wr.setCell ⟨g, i, none⟩ (.int .i64 y)).setCell ⟨g, j, none⟩ (.int .i64 x)).drew = W4 at HRn HCn ⊢
      go_wp2
      go_roundw
      case rel => exact ⟨i + 1, j - 1, ⟨by omega, by omega⟩, by go_num, by first | rfl | go_num, hide ⟨HRn.out, HCn.out⟩⟩
      case measure => simp [intOf]; omega
    · have d5 : decide ((i : Int) < (j : Int)) = false := by simp; omega
      go_wp2
      go_end0
      refine ⟨⟨_, rfl⟩, hI.out.1.congr (fun q hq => ?_), hI.out.2⟩
      unfold revF
      by_cases e : q < i ∨ n - 1 - i < q
      · rw [if_pos e]
      · rw [if_neg e, show n - 1 - q = q by omega]
/-- Reverse of a row that a call has made. -/
theorem Reverse_own (base : Nat) (v : Value) (xs : List Nat) (w : World) (h : w.ownsRow base 3 1 v xs.length (natsV xs)) (h1 : xs ≠ []) (hn : xs.length ≤ 1000) :
    Calls Tryd.prog 20 #[v] w fun e w' => (∃ u, e = .returned u) ∧ See w' v (natsI xs.reverse) ∧ ∃ g, base ≤ g ∧ Chg [g] w w' := by
  have hl : 1 ≤ xs.length := List.length_pos_iff.2 h1
  rcases h.2 with ⟨_, h0⟩ | ⟨g, c, cur, rfl, hb, hg, hle, hcap, hsz, ht⟩
  · omega
  · have hR : RowF w g xs.length cur.size (fun i => ((xs.getD i 0 : Nat) : Int)) := ⟨cur, hg, rfl, by omega, fun i hi => by
      have e := natsV_get hi
      rw [← ht, List.getElem?_take, if_pos (by omega)] at e
      simpa using e⟩
    refine (Reverse_row g xs.length cur.size c _ w hl hn hR).mono ?_
    rintro e w' ⟨hu, h2, h3⟩
    refine ⟨hu, .inr ⟨⟨g, 0, none⟩, c, by rw [natsI_len, List.length_reverse], by rw [natsI_len, List.length_reverse]; exact hle, h2.lt, fun i hi => ?_⟩, g, hb, h3⟩
    rw [natsI_len, List.length_reverse] at hi
    rw [add_zero_row, h2.cell hi]
    unfold natsI
    simp only [List.getD_eq_getElem?_getD, List.getElem?_map, List.getElem?_reverse hi]
    rw [List.getElem?_eq_getElem (by omega)]
    rfl
end Go.Proofs.YtpplihpfjniacaaDoor
