/- Plain: fixed plans. -/
import Derived.Test.YtohdjlgghkcaoaaPansPlain
namespace Go.Proofs.Ytohdjlgghkcaoaa.W

def smallI (x : Int) : Bool := decide (-1 ≤ x ∧ x ≤ 1)
theorem smallI_iff {x : Int} : smallI x = true ↔ -1 ≤ x ∧ x ≤ 1 := by simp [smallI]
def rowOk (c : Nat) (r : List Int) : Bool := decide (r.length = c) && r.all smallI
theorem rowOk_iff {c : Nat} {r : List Int} : rowOk c r = true ↔ r.length = c ∧ ∀ x ∈ r, -1 ≤ x ∧ x ≤ 1 := by simp [rowOk, smallI_iff]
/-- The columns. -/
def cols (t : List (List Int)) : Nat := (t.getD 0 []).length
def isTab (t : List (List Int)) : Bool := decide (1 ≤ t.length ∧ t.length ≤ 13 ∧ 1 ≤ cols t ∧ cols t ≤ 4) && t.all (rowOk (cols t))
theorem isTab_iff {t : List (List Int)} : isTab t = true ↔ (1 ≤ t.length ∧ t.length ≤ 13 ∧ 1 ≤ cols t ∧ cols t ≤ 4) ∧ ∀ r ∈ t, rowOk (cols t) r = true := by simp [isTab]
def cut (t : List (List Int)) : List (List Int) := (t.take 16).map (·.take 16)
theorem cut_len (t : List (List Int)) : (cut t).length = min 16 t.length := by simp [cut]
theorem cols_cut (t : List (List Int)) : cols (cut t) = min 16 (cols t) := by
  cases t with
  | nil => rfl
  | cons r t => simp [cols, cut]
theorem cut_of_isTab {t : List (List Int)} (h : isTab t = true) : cut t = t := by
  obtain ⟨⟨h1, h2, h3, h4⟩, h5⟩ := isTab_iff.1 h
  unfold cut
  rw [List.take_of_length_le (by omega)]
  conv => rhs; rw [← List.map_id t]
  apply List.map_congr_left
  intro r hr
  have := (rowOk_iff.1 (h5 r hr)).1
  simp only [id]
  exact List.take_of_length_le (by omega)
theorem isTab_cut (t : List (List Int)) : isTab (cut t) = isTab t := by
  cases h : isTab t with
  | true => rw [cut_of_isTab h, h]
  | false =>
    rw [Bool.eq_false_iff]
    intro hc
    obtain ⟨⟨h1, h2, h3, h4⟩, h5⟩ := isTab_iff.1 hc
    rw [cut_len] at h1 h2
    rw [cols_cut] at h3 h4 h5
    have e : ∀ r ∈ t, r.length ≤ 16 → r.take 16 = r := fun r _ h => List.take_of_length_le h
    have : isTab t = true := by
      refine isTab_iff.2 ⟨⟨by omega, by omega, by omega, by omega⟩, fun r hr => ?_⟩
      have hm : r.take 16 ∈ cut t := by
        unfold cut
        rw [List.take_of_length_le (by omega)]
        exact List.mem_map.2 ⟨r, hr, rfl⟩
      have := h5 _ hm
      rw [show min 16 (cols t) = cols t by omega] at this
      have hl := (rowOk_iff.1 this).1
      rw [List.length_take] at hl
      rw [e r hr (by omega)] at this
      exact this
    rw [h] at this
    cases this

def neg (r : List Int) : List Int := r.map (fun x => -x)
theorem neg_neg (r : List Int) : neg (neg r) = r := by simp [neg, Function.comp_def]
theorem neg_len (r : List Int) : (neg r).length = r.length := by simp [neg]
def allZero (r : List Int) : Bool := r.all (fun x => x == 0)
def clash (a b : List Int) : Bool := decide (a = b) || decide (a = neg b)
/-- Of the rows the sum of a column. -/
def colSum (t : List (List Int)) (j : Nat) : Int := (t.map (fun r => r.getD j 0)).sum
def zeroT (t : List (List Int)) : Bool := (List.range (cols t)).all (fun j => colSum t j == 0)
/-- A row is not all 0, and of those before it none is it or its opposite. -/
def rowFair (t : List (List Int)) (i : Nat) : Bool := !allZero (t.getD i []) && (List.range i).all (fun j => !clash (t.getD i []) (t.getD j []))
def fairT (t : List (List Int)) : Bool := (List.range t.length).all (rowFair t) && zeroT t

/-- The coin that the results show. -/
def look (res : List Int) : List (List Int) → Nat → Int × Int × Int
  | [], _ => (0, 0, 4)
  | r :: t, i => if r = res then ((i : Int), 1, 0) else if r = neg res then ((i : Int), -1, 0) else look res t (i + 1)
def readT (t : List (List Int)) (res : List Int) : Int × Int × Int := if fairT t = true then (if allZero res = true then (-1, 0, 0) else look res t 0) else (0, 0, 4)
theorem look_none {res : List Int} : ∀ {t : List (List Int)} {i : Nat}, (∀ r ∈ t, r ≠ res ∧ r ≠ neg res) → look res t i = (0, 0, 4)
  | [], _, _ => rfl
  | r :: t, i, h => by
    have h0 := h r (by simp)
    unfold look
    rw [if_neg h0.1, if_neg h0.2]
    exact look_none (fun r' hr' => h r' (by simp [hr']))
theorem allZero_neg {r : List Int} : allZero (neg r) = allZero r := by
  unfold allZero neg
  rw [List.all_map]
  congr 1
  funext x
  simp only [Function.comp]
  cases h : (x == 0) <;> simp_all
theorem fair_row {t : List (List Int)} (h : fairT t = true) {r : List Int} (hr : r ∈ t) : allZero r = false := by
  obtain ⟨i, hi, he⟩ := List.getElem_of_mem hr
  unfold fairT at h
  simp only [Bool.and_eq_true, List.all_eq_true, List.mem_range] at h
  have := h.1 i hi
  unfold rowFair at this
  simp only [Bool.and_eq_true, Bool.not_eq_true'] at this
  rw [List.getD_eq_getElem?_getD, List.getElem?_eq_getElem hi] at this
  simp only [Option.getD_some, he] at this
  exact this.1
/-- No result at all: no coin shows it. -/
theorem look_zero {t : List (List Int)} (h : fairT t = true) {res : List Int} (hz : allZero res = true) : look res t 0 = (0, 0, 4) := by
  refine look_none fun r hr => ⟨?_, ?_⟩
  · rintro rfl; rw [fair_row h hr] at hz; cases hz
  · intro e
    have := fair_row h hr
    rw [e, allZero_neg, hz] at this; cases this
theorem look_drop {res : List Int} {t : List (List Int)} {j : Nat} (h : j < t.length) : look res (t.drop j) j = if t.getD j [] = res then ((j : Int), 1, 0) else if t.getD j [] = neg res then ((j : Int), -1, 0) else look res (t.drop (j + 1)) (j + 1) := by
  rw [List.drop_eq_getElem_cons h, List.getD_eq_getElem?_getD, List.getElem?_eq_getElem h]
  rfl
theorem row_mem {t : List (List Int)} {i : Nat} (h : i < t.length) : t.getD i [] ∈ t := by
  rw [List.getD_eq_getElem?_getD, List.getElem?_eq_getElem h]
  exact List.getElem_mem _
end Go.Proofs.Ytohdjlgghkcaoaa.W
