/- Plain: the search for the fewest weights. -/
import Derived.Test.YtohdjlgghkcaoaaWtPlain
namespace Go.Proofs.Ytohdjlgghkcaoaa.W

/-- The least number that may come next. -/
def fromW (w : List Int) : Nat := if w = [] then 1 else (w.getD (w.length - 1) 0).toNat + 1
def growW (n : Nat) : Nat → List Int → Option (List Int)
  | 0, w => if n ≤ far w then some w else none
  | m + 1, w => (List.range' (fromW w) (61 - fromW w)).findSome? fun x : Nat => growW n m (w ++ [(x : Int)])
def sizeW (n : Nat) : Nat := if n ≤ 1 then 1 else if n ≤ 4 then 2 else if n ≤ 13 then 3 else 4
def fewW (n : Nat) : List Int := (growW n (sizeW n) []).getD []
def lexLe : List Int → List Int → Bool
  | [], _ => true
  | _ :: _, [] => false
  | x :: l, y :: u => decide (x < y) || (decide (x = y) && lexLe l u)
/-- Rising, from 1 to 60. -/
def Asc (w : List Int) : Prop := ∀ i, i < w.length → 1 ≤ w.getD i 0 ∧ w.getD i 0 ≤ 60 ∧ (i = 0 ∨ w.getD (i - 1) 0 < w.getD i 0)
theorem growW_shape {n : Nat} : ∀ (m : Nat) (w l : List Int), growW n m w = some l → ∃ s, l = w ++ s ∧ s.length = m ∧ n ≤ far l
  | 0, w, l, h => by
    unfold growW at h
    split at h
    · rename_i hf
      cases h
      exact ⟨[], by simp, rfl, hf⟩
    · cases h
  | m + 1, w, l, h => by
    unfold growW at h
    obtain ⟨x, _, hx⟩ := List.exists_of_findSome?_eq_some h
    obtain ⟨s, rfl, hs, hf⟩ := growW_shape m _ _ hx
    exact ⟨(x : Int) :: s, by simp, by simp [hs], hf⟩
theorem findSome_range {α : Type} {f : Nat → Option α} : ∀ (len a y : Nat), a ≤ y → y < a + len → (f y).isSome = true → ∃ x, a ≤ x ∧ x ≤ y ∧ (f x).isSome = true ∧ (List.range' a len).findSome? f = f x
  | 0, a, y, h1, h2, _ => by omega
  | len + 1, a, y, h1, h2, h3 => by
    rw [List.range'_succ, List.findSome?_cons]
    cases hf : f a with
    | some v => exact ⟨a, Nat.le_refl _, h1, by rw [hf]; rfl, by rw [hf]⟩
    | none =>
      have hne : a ≠ y := by rintro rfl; rw [hf] at h3; cases h3
      obtain ⟨x, h4, h5, h6, h7⟩ := findSome_range len (a + 1) y (by omega) (by omega) h3
      exact ⟨x, by omega, h5, h6, h7⟩
theorem fromW_le {w : List Int} {y : Int} {s : List Int} (h : Asc (w ++ y :: s)) : (fromW w : Int) ≤ y ∧ y ≤ 60 := by
  have hl : w.length < (w ++ y :: s).length := by simp
  obtain ⟨h1, h2, h3⟩ := h w.length hl
  have e : (w ++ y :: s).getD w.length 0 = y := by simp [List.getD_eq_getElem?_getD]
  rw [e] at h1 h2 h3
  refine ⟨?_, h2⟩
  unfold fromW
  split
  · omega
  · rename_i hne
    have hp : 0 < w.length := List.length_pos_iff.2 hne
    rcases h3 with h3 | h3
    · omega
    · have e' : (w ++ y :: s).getD (w.length - 1) 0 = w.getD (w.length - 1) 0 := by
        rw [List.getD_eq_getElem?_getD, List.getD_eq_getElem?_getD, List.getElem?_append_left (by omega)]
      rw [e'] at h3
      have := (h (w.length - 1) (by simp; omega)).1
      rw [e'] at this
      omega
theorem growW_least {n : Nat} : ∀ (m : Nat) (w s : List Int), s.length = m → Asc (w ++ s) → n ≤ far (w ++ s) → ∃ l, growW n m w = some (w ++ l) ∧ lexLe l s = true
  | 0, w, s, hs, _, hf => by
    obtain rfl : s = [] := List.length_eq_zero_iff.1 hs
    rw [List.append_nil] at hf
    exact ⟨[], by unfold growW; rw [if_pos hf, List.append_nil], rfl⟩
  | m + 1, w, [], hs, _, _ => by cases hs
  | m + 1, w, y :: s, hs, ha, hf => by
    obtain ⟨h1, h2⟩ := fromW_le ha
    obtain ⟨l, hl, hle⟩ := growW_least (n := n) m (w ++ [y]) s (by simpa using hs) (by simpa using ha) (by simpa using hf)
    have hy : ((y.toNat : Nat) : Int) = y := by omega
    have hsome : (growW n m (w ++ [((y.toNat : Nat) : Int)])).isSome = true := by rw [hy, hl]; rfl
    obtain ⟨x, x1, x2, x3, x4⟩ := findSome_range (f := fun x => growW n m (w ++ [(x : Int)])) (61 - fromW w) (fromW w) y.toNat (by omega) (by omega) hsome
    unfold growW
    rw [x4]
    by_cases hxy : x = y.toNat
    · refine ⟨y :: l, ?_, ?_⟩
      · rw [hxy, hy, hl]; simp
      · unfold lexLe; rw [hle]; simp
    · obtain ⟨r, hr⟩ := Option.isSome_iff_exists.1 x3
      have hr' : growW n m (w ++ [(x : Int)]) = some r := hr
      obtain ⟨s', rfl, _, _⟩ := growW_shape m _ _ hr'
      refine ⟨(x : Int) :: s', ?_, ?_⟩
      · rw [hr']; simp
      · unfold lexLe; rw [decide_eq_true (show (x : Int) < y by omega)]; rfl
theorem far1 : 1 ≤ far [1] := by decide +kernel
theorem far2 : 4 ≤ far [1, 3] := by decide +kernel
theorem far3 : 13 ≤ far [1, 3, 9] := by decide +kernel
theorem far4 : 40 ≤ far [1, 3, 9, 27] := by decide +kernel
theorem far5 : far [1, 3, 9, 27, 81] = 121 := by decide +kernel
theorem asc_of {w : List Int} (h : (List.range w.length).all (fun i => decide (1 ≤ w.getD i 0 ∧ w.getD i 0 ≤ 60 ∧ (i = 0 ∨ w.getD (i - 1) 0 < w.getD i 0))) = true) : Asc w := fun i hi => by
  have := List.all_eq_true.1 h i (List.mem_range.2 hi)
  exact of_decide_eq_true this
theorem growW_some {n : Nat} (h40 : n ≤ 40) : growW n (sizeW n) [] = some (fewW n) := by
  have key : ∃ l, growW n (sizeW n) [] = some l := by
    unfold sizeW
    split
    · obtain ⟨l, h, _⟩ := growW_least (n := n) 1 [] [1] rfl (asc_of (by decide)) (Nat.le_trans (by omega) far1); exact ⟨_, h⟩
    · split
      · obtain ⟨l, h, _⟩ := growW_least (n := n) 2 [] [1, 3] rfl (asc_of (by decide)) (Nat.le_trans (by omega) far2); exact ⟨_, h⟩
      · split
        · obtain ⟨l, h, _⟩ := growW_least (n := n) 3 [] [1, 3, 9] rfl (asc_of (by decide)) (Nat.le_trans (by omega) far3); exact ⟨_, h⟩
        · obtain ⟨l, h, _⟩ := growW_least (n := n) 4 [] [1, 3, 9, 27] rfl (asc_of (by decide)) (Nat.le_trans (by omega) far4); exact ⟨_, h⟩
  obtain ⟨l, h⟩ := key
  unfold fewW
  rw [h]; rfl
theorem fewW_len {n : Nat} (h40 : n ≤ 40) : (fewW n).length = sizeW n ∧ n ≤ far (fewW n) := by
  obtain ⟨s, h1, h2, h3⟩ := growW_shape _ _ _ (growW_some h40)
  rw [List.nil_append] at h1
  subst h1
  exact ⟨h2, h3⟩
theorem fewW_least {n : Nat} (h40 : n ≤ 40) {u : List Int} (hu : u.length = sizeW n) (ha : Asc u) (hf : n ≤ far u) : lexLe (fewW n) u = true := by
  obtain ⟨l, h1, h2⟩ := growW_least (n := n) (sizeW n) [] u hu ha hf
  rw [growW_some h40, List.nil_append] at h1
  cases h1
  exact h2
theorem sizeW_le {n m : Nat} (h1 : 1 ≤ n) (h : 2 * n + 1 ≤ 3 ^ m) (h40 : n ≤ 40) : sizeW n ≤ m := by
  unfold sizeW
  have k : ∀ j, m ≤ j → 3 ^ m ≤ 3 ^ j := fun j hj => Nat.pow_le_pow_right (by decide) hj
  have k0 := k 0
  have k1 := k 1
  have k2 := k 2
  have k3 := k 3
  simp only [Nat.pow_zero, Nat.pow_one, show (3 : Nat) ^ 2 = 9 from rfl, show (3 : Nat) ^ 3 = 27 from rfl] at k0 k1 k2 k3
  split
  · omega
  · split
    · omega
    · split <;> omega
/-- What is found rises, from 1 to 60. -/
theorem growW_asc {n : Nat} : ∀ (m : Nat) (w l : List Int), Asc w → growW n m w = some l → Asc l
  | 0, w, l, ha, h => by
    unfold growW at h
    split at h
    · cases h; exact ha
    · cases h
  | m + 1, w, l, ha, h => by
    unfold growW at h
    obtain ⟨x, hx, hl⟩ := List.exists_of_findSome?_eq_some h
    obtain ⟨x1, x2⟩ := List.mem_range'_1.1 hx
    refine growW_asc m _ l (fun i hi => ?_) hl
    rw [List.length_append, List.length_singleton] at hi
    rcases (show i < w.length ∨ i = w.length by omega) with h1 | rfl
    · obtain ⟨a1, a2, a3⟩ := ha i h1
      have e : ∀ j, j < w.length → (w ++ [(x : Int)]).getD j 0 = w.getD j 0 := fun j hj => by
        rw [List.getD_eq_getElem?_getD, List.getD_eq_getElem?_getD, List.getElem?_append_left hj]
      rw [e i h1]
      refine ⟨a1, a2, ?_⟩
      rcases a3 with a3 | a3
      · exact .inl a3
      · exact .inr (by rw [e (i - 1) (by omega)]; exact a3)
    · have e : (w ++ [(x : Int)]).getD w.length 0 = (x : Int) := by simp [List.getD_eq_getElem?_getD]
      rw [e]
      unfold fromW at x1 x2
      by_cases hw : w = []
      · rw [if_pos hw] at x1 x2
        subst hw
        exact ⟨by omega, by omega, .inl rfl⟩
      · rw [if_neg hw] at x1 x2
        have hp : 0 < w.length := List.length_pos_iff.2 hw
        obtain ⟨a1, a2, _⟩ := ha (w.length - 1) (by omega)
        have e' : (w ++ [(x : Int)]).getD (w.length - 1) 0 = w.getD (w.length - 1) 0 := by
          rw [List.getD_eq_getElem?_getD, List.getD_eq_getElem?_getD, List.getElem?_append_left (by omega)]
        rw [e']
        exact ⟨by omega, by omega, .inr (by omega)⟩
theorem fewW_asc {n : Nat} (h40 : n ≤ 40) : Asc (fewW n) := growW_asc _ _ _ (fun i hi => by cases hi) (growW_some h40)
theorem Asc.isW {u : List Int} (h : Asc u) (h1 : 1 ≤ u.length) (h5 : u.length ≤ 5) : isW u 60 = true := isW_iff.2 ⟨h1, h5, h⟩
theorem isW_mono {u : List Int} {a b : Int} (h : isW u a = true) (hab : a ≤ b) : isW u b = true := by
  obtain ⟨h1, h2, h3⟩ := isW_iff.1 h
  exact isW_iff.2 ⟨h1, h2, fun i hi => by have := h3 i hi; omega⟩
end Go.Proofs.Ytohdjlgghkcaoaa.W
