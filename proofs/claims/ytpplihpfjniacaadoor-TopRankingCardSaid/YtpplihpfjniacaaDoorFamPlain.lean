/- Plain: families as numbers; a list is a family just where it is read as one. -/
namespace Go.Proofs.YtpplihpfjniacaaDoor
namespace Fam

theorem tb_iff (m s : Nat) : m.testBit s = true ↔ m / 2 ^ s % 2 = 1 := by rw [Nat.testBit_eq_decide_div_mod_eq, decide_eq_true_eq]
def setOf (l : List Int) : Nat := l.foldl (fun m s => m ||| 2 ^ s.toNat) 0
theorem fold_test (k : Nat) : ∀ (l : List Int) (m : Nat), (l.foldl (fun m s => m ||| 2 ^ s.toNat) m).testBit k = (m.testBit k || l.any fun s => decide (s.toNat = k))
  | [], m => by simp
  | x :: l, m => by
    rw [List.foldl_cons, fold_test k l, List.any_cons, Nat.testBit_or, Nat.testBit_two_pow, Bool.or_assoc]
theorem setOf_test (l : List Int) (k : Nat) : (setOf l).testBit k = l.any fun s => decide (s.toNat = k) := by
  unfold setOf
  rw [fold_test, Nat.zero_testBit, Bool.false_or]
theorem fold_lt {n : Nat} : ∀ (l : List Int) (m : Nat), m < 2 ^ n → (∀ s ∈ l, s.toNat < n) → l.foldl (fun m s => m ||| 2 ^ s.toNat) m < 2 ^ n
  | [], m, hm, _ => hm
  | x :: l, m, hm, h => by
    rw [List.foldl_cons]
    exact fold_lt l _ (Nat.or_lt_two_pow hm (Nat.pow_lt_pow_right (by decide) (h x (List.mem_cons_self ..)))) fun s hs => h s (List.mem_cons_of_mem _ hs)
theorem setOf_lt {n : Nat} {l : List Int} (h : ∀ s ∈ l, s.toNat < n) : setOf l < 2 ^ n := fold_lt l 0 (Nat.two_pow_pos n) h
def bitsList (X : Nat) : List Int := ((List.range 64).filter fun k => X.testBit k).map fun (k : Nat) => (k : Int)
theorem mem_bits {X : Nat} {s : Int} : s ∈ bitsList X ↔ ∃ k : Nat, k < 64 ∧ X.testBit k = true ∧ s = (k : Int) := by
  unfold bitsList
  rw [List.mem_map]
  constructor
  · rintro ⟨k, hk, rfl⟩
    obtain ⟨a, b⟩ := List.mem_filter.1 hk
    exact ⟨k, List.mem_range.1 a, b, rfl⟩
  · rintro ⟨k, a, b, rfl⟩
    exact ⟨k, List.mem_filter.2 ⟨List.mem_range.2 a, b⟩, rfl⟩
theorem bits_sorted (X : Nat) : (bitsList X).Pairwise (· < ·) := by
  unfold bitsList
  rw [List.pairwise_map]
  exact (List.pairwise_lt_range.filter _).imp fun h => by omega
theorem sorted_ext : ∀ {l u : List Int}, l.Pairwise (· < ·) → u.Pairwise (· < ·) → (∀ x, x ∈ l ↔ x ∈ u) → l = u
  | [], [], _, _, _ => rfl
  | [], y :: u, _, _, h => absurd ((h y).2 (List.mem_cons_self ..)) List.not_mem_nil
  | x :: l, [], _, _, h => absurd ((h x).1 (List.mem_cons_self ..)) List.not_mem_nil
  | x :: l, y :: u, h1, h2, h => by
    rw [List.pairwise_cons] at h1 h2
    have hxy : x = y := by
      rcases List.mem_cons.1 ((h x).1 (List.mem_cons_self ..)) with e | e
      · exact e
      · rcases List.mem_cons.1 ((h y).2 (List.mem_cons_self ..)) with e' | e'
        · exact e'.symm
        · have := h1.1 y e'
          have := h2.1 x e
          omega
    subst hxy
    rw [sorted_ext h1.2 h2.2 fun z => ⟨fun hz => by
      rcases List.mem_cons.1 ((h z).1 (List.mem_cons_of_mem _ hz)) with e | e
      · have := h1.1 z hz
        omega
      · exact e, fun hz => by
      rcases List.mem_cons.1 ((h z).2 (List.mem_cons_of_mem _ hz)) with e | e
      · have := h2.1 z hz
        omega
      · exact e⟩]
def sets (n : Nat) (l : List Int) : Bool := l.all fun s => decide (0 ≤ s ∧ s < 2 ^ n)
theorem sets_iff {n : Nat} {l : List Int} : sets n l = true ↔ ∀ s ∈ l, 0 ≤ s ∧ s < 2 ^ n := by simp [sets]
theorem mem_setOf {n : Nat} {l : List Int} (hs : sets n l = true) {k : Nat} : (setOf l).testBit k = true ↔ (k : Int) ∈ l := by
  rw [setOf_test, List.any_eq_true]
  constructor
  · rintro ⟨s, h1, h2⟩
    have := (sets_iff.1 hs s h1).1
    have e : s = (k : Int) := by have := of_decide_eq_true h2; omega
    rw [← e]
    exact h1
  · intro h
    exact ⟨(k : Int), h, by simp⟩
theorem pow_64 {n : Nat} (h : n ≤ 6) : (2 : Nat) ^ n ≤ 64 := Nat.pow_le_pow_right (n := 2) (by decide) h
theorem sets_nat {n : Nat} {l : List Int} (hs : sets n l = true) {s : Int} (h : s ∈ l) : s.toNat < 2 ^ n ∧ s = (s.toNat : Int) := by
  obtain ⟨a, b⟩ := sets_iff.1 hs s h
  have : ((2 ^ n : Nat) : Int) = 2 ^ n := by simp
  omega
theorem bits_eq {n : Nat} {l : List Int} (hn : n ≤ 6) (hs : sets n l = true) : bitsList (setOf l) = l ↔ l.Pairwise (· < ·) := by
  constructor
  · intro h
    rw [← h]
    exact bits_sorted _
  · intro h
    refine sorted_ext (bits_sorted _) h fun x => ?_
    rw [mem_bits]
    constructor
    · rintro ⟨k, _, a, rfl⟩
      exact (mem_setOf hs).1 a
    · intro hx
      obtain ⟨a, b⟩ := sets_nat hs hx
      have := pow_64 hn
      exact ⟨x.toNat, by omega, (mem_setOf hs).2 (by rw [← b]; exact hx), b⟩
/-- What one set brings, for the first elements; what all sets from one on downward bring. -/
def addTo (s X : Nat) : Nat → Nat
  | 0 => X
  | x + 1 => if (addTo s X x).testBit s && s.testBit x then addTo s X x ||| 2 ^ (s - 2 ^ x) else addTo s X x
def closeFrom (n : Nat) : Nat → Nat → Nat
  | X, 0 => X
  | X, s + 1 => closeFrom n (addTo (s + 1) X n) s
def closed (n X : Nat) : Nat := closeFrom n X (2 ^ n - 1)
def Le (X Y : Nat) : Prop := ∀ k, X.testBit k = true → Y.testBit k = true
theorem Le.rfl {X : Nat} : Le X X := fun _ h => h
theorem Le.trans {X Y Z : Nat} (h : Le X Y) (k : Le Y Z) : Le X Z := fun i hi => k i (h i hi)
theorem Le.eq {X Y : Nat} (h : Le X Y) (k : Le Y X) : X = Y := Nat.eq_of_testBit_eq fun i => by
  cases hX : X.testBit i with
  | true => rw [h i hX]
  | false =>
    cases hY : Y.testBit i with
    | false => rfl
    | true => rw [k i hY] at hX; cases hX
theorem le_or (X Y : Nat) : Le X (X ||| Y) := fun i h => by rw [Nat.testBit_or, h, Bool.true_or]
theorem add_le (s X : Nat) : ∀ x d, Le (addTo s X x) (addTo s X (x + d))
  | _, 0 => Le.rfl
  | x, d + 1 => by
    refine (add_le s X x d).trans ?_
    show Le (addTo s X (x + d)) (addTo s X (x + d + 1))
    rw [addTo]
    split
    · exact le_or _ _
    · exact Le.rfl
theorem close_le (n : Nat) : ∀ s X, Le X (closeFrom n X s)
  | 0, X => Le.rfl
  | s + 1, X => by
    rw [closeFrom]
    have := add_le (s + 1) X 0 n
    rw [Nat.zero_add] at this
    exact Le.trans (show Le X (addTo (s + 1) X 0) from Le.rfl) (this.trans (close_le n s _))
def Down (n X s : Nat) : Prop := X.testBit s = true → ∀ x, x < n → s.testBit x = true → X.testBit (s - 2 ^ x) = true
theorem add_id {s X : Nat} {n : Nat} (h : Down n X s) : ∀ x, x ≤ n → addTo s X x = X
  | 0, _ => rfl
  | x + 1, hx => by
    rw [addTo, add_id h x (by omega)]
    split
    · rename_i hc
      rw [Bool.and_eq_true] at hc
      have := h hc.1 x (by omega) hc.2
      apply Nat.eq_of_testBit_eq
      intro i
      rw [Nat.testBit_or, Nat.testBit_two_pow]
      by_cases hi : s - 2 ^ x = i
      · rw [← hi, this]; simp
      · simp [hi]
    · rfl
theorem close_id {n X : Nat} : ∀ s, (∀ s', 0 < s' → s' ≤ s → Down n X s') → closeFrom n X s = X
  | 0, _ => rfl
  | s + 1, h => by
    rw [closeFrom, add_id (h (s + 1) (by omega) (Nat.le_refl _)) n (Nat.le_refl _)]
    exact close_id s fun s' h1 h2 => h s' h1 (by omega)
theorem id_close {n X : Nat} : ∀ s, closeFrom n X s = X → ∀ s', 0 < s' → s' ≤ s → Down n X s'
  | 0, _, s', h1, h2 => by omega
  | s + 1, h, s', h1, h2 => by
    have l1 : Le X (addTo (s + 1) X n) := by
      have := add_le (s + 1) X 0 n
      rw [Nat.zero_add] at this
      exact this
    have l2 : Le (addTo (s + 1) X n) X := by
      have := close_le n s (addTo (s + 1) X n)
      rw [closeFrom] at h
      rw [h] at this
      exact this
    have e : addTo (s + 1) X n = X := (l2.eq l1)
    by_cases hs : s' = s + 1
    · subst hs
      intro hX x hx hsx
      have a1 : Le (addTo (s + 1) X (x + 1)) X := by
        have := add_le (s + 1) X (x + 1) (n - (x + 1))
        rw [show x + 1 + (n - (x + 1)) = n by omega, e] at this
        exact this
      have a0 : Le X (addTo (s + 1) X x) := by
        have := add_le (s + 1) X 0 x
        rw [Nat.zero_add] at this
        exact this
      apply a1
      rw [addTo, if_pos (by rw [a0 _ hX, hsx]; rfl), Nat.testBit_or, Nat.testBit_two_pow_self, Bool.or_true]
    · rw [closeFrom, e] at h
      exact id_close s h s' h1 (by omega)
theorem closed_iff {n X : Nat} : closed n X = X ↔ ∀ s, 0 < s → s < 2 ^ n → Down n X s := by
  constructor
  · intro h s h1 h2
    exact id_close _ h s h1 (by omega)
  · intro h
    exact close_id _ fun s h1 h2 => h s h1 (by have := Nat.two_pow_pos n; omega)
/-- A set without an element. -/
def wo (s x : Nat) : Nat := if s.testBit x = true then s - 2 ^ x else s
def less (l : List Int) : Nat → Bool
  | 0 => true
  | 1 => true
  | i + 2 => less l (i + 1) && decide (l.getD i 0 < l.getD (i + 1) 0)
theorem less_iff {l : List Int} : less l l.length = true ↔ l.Pairwise (· < ·) := by
  have h1 : ∀ i, less l i = true ↔ ∀ j, j + 1 < i → l.getD j 0 < l.getD (j + 1) 0 := fun i => by
    induction i with
    | zero => simp [less]
    | succ i ih =>
      cases i with
      | zero => simp [less]
      | succ i =>
        rw [less, Bool.and_eq_true, ih, decide_eq_true_eq]
        constructor
        · rintro ⟨a, b⟩ j hj
          by_cases e : j = i
          · rw [e]; exact b
          · exact a j (by omega)
        · intro a
          exact ⟨fun j hj => a j (by omega), a i (by omega)⟩
  rw [h1]
  constructor
  · intro h
    have up : ∀ d j, j + d + 1 < l.length → l.getD j 0 < l.getD (j + d + 1) 0 := fun d => by
      induction d with
      | zero => exact fun j hj => h j hj
      | succ d ih => exact fun j hj => Int.lt_trans (ih j (by omega)) (h (j + d + 1) hj)
    refine List.pairwise_iff_getElem.2 fun i j hi hj hij => ?_
    have := up (j - i - 1) i (by omega)
    rw [show i + (j - i - 1) + 1 = j by omega, List.getD_eq_getElem?_getD, List.getD_eq_getElem?_getD, List.getElem?_eq_getElem hi, List.getElem?_eq_getElem hj] at this
    exact this
  · intro h j hj
    have := List.pairwise_iff_getElem.1 h j (j + 1) (by omega) hj (by omega)
    rw [List.getD_eq_getElem?_getD, List.getD_eq_getElem?_getD, List.getElem?_eq_getElem hj, List.getElem?_eq_getElem (show j < l.length by omega)]
    exact this
/-- A family, as it is read; a family, as it is said. -/
def readB (n : Nat) (l : List Int) : Bool := sets n l && decide (bitsList (setOf l) = l) && decide (closed n (setOf l) = setOf l)
def famB (n : Nat) (l : List Int) : Bool := sets n l && less l l.length && l.all fun s => (List.range n).all fun x => decide (((wo s.toNat x : Nat) : Int) ∈ l)
theorem read_fam {n : Nat} {l : List Int} (hn : n ≤ 6) : readB n l = famB n l := by
  unfold readB famB
  cases hs : sets n l with
  | false => rfl
  | true =>
    rw [Bool.true_and, Bool.true_and]
    have e1 : decide (bitsList (setOf l) = l) = less l l.length := by
      rw [Bool.eq_iff_iff, decide_eq_true_eq, less_iff, bits_eq hn hs]
    rw [e1]
    congr 1
    rw [Bool.eq_iff_iff, decide_eq_true_eq, closed_iff, List.all_eq_true]
    constructor
    · intro h s hsl
      obtain ⟨a, b⟩ := sets_nat hs hsl
      refine List.all_eq_true.2 fun x hx => ?_
      rw [decide_eq_true_eq]
      unfold wo
      split
      · rename_i hb
        have hpos : 0 < s.toNat := by
          rcases Nat.eq_zero_or_pos s.toNat with h0 | h0
          · rw [h0, Nat.zero_testBit] at hb; cases hb
          · exact h0
        exact (mem_setOf hs).1 (h s.toNat hpos a ((mem_setOf hs).2 (by rw [← b]; exact hsl)) x (List.mem_range.1 hx) hb)
      · rw [← b]; exact hsl
    · intro h s h0 hlt hX x hx hb
      have hsl := (mem_setOf hs).1 hX
      have := of_decide_eq_true (List.all_eq_true.1 (h _ hsl) x (List.mem_range.2 hx))
      rw [Int.toNat_natCast] at this
      unfold wo at this
      rw [if_pos hb] at this
      exact (mem_setOf hs).2 this
end Fam
end Go.Proofs.YtpplihpfjniacaaDoor
