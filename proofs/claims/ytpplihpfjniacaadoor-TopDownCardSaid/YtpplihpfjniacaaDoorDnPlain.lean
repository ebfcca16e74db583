/- Plain: families as classes: the key of the empty concept, the dimension. -/
import Derived.Test.YtpplihpfjniacaaDoorKy3
import Derived.Test.YtpplihpfjniacaaDoorFm3
namespace Go.Proofs.YtpplihpfjniacaaDoor

/-- The union of the first sets. -/
def unionTo (l : List Int) : Nat → Nat
  | 0 => 0
  | i + 1 => unionTo l i ||| cf l i
theorem unionTo_test (l : List Int) (x : Nat) : ∀ i, (unionTo l i).testBit x = true ↔ ∃ j, j < i ∧ (cf l j).testBit x = true
  | 0 => by simp [unionTo]
  | i + 1 => by
    rw [unionTo, Nat.testBit_or, Bool.or_eq_true, unionTo_test l x i]
    constructor
    · rintro (⟨j, h1, h2⟩ | h)
      · exact ⟨j, by omega, h2⟩
      · exact ⟨i, by omega, h⟩
    · rintro ⟨j, h1, h2⟩
      rcases (show j < i ∨ j = i by omega) with h | rfl
      · exact .inl ⟨j, h, h2⟩
      · exact .inr h2
theorem unionTo_lt {p : Nat} {l : List Int} (h : ∀ i, i < l.length → cf l i < 2 ^ p) : ∀ i, i ≤ l.length → unionTo l i < 2 ^ p
  | 0, _ => Nat.two_pow_pos p
  | i + 1, hi => Nat.or_lt_two_pow (unionTo_lt h i (by omega)) (h i (by omega))
/-- The size of the greatest of the first sets. -/
def mostTo (l : List Int) : Nat → Nat
  | 0 => 0
  | i + 1 => max (mostTo l i) (Lr.cnt (cf l i) 16)
theorem mostTo_le {l : List Int} {d : Nat} : ∀ i, (∀ j, j < i → Lr.cnt (cf l j) 16 ≤ d) → mostTo l i ≤ d
  | 0, _ => Nat.zero_le _
  | i + 1, h => by
    have h1 := mostTo_le i fun j hj => h j (by omega)
    have h2 := h i (by omega)
    unfold mostTo
    omega
/-- A family, as a class. -/
structure IsFam (p : Nat) (l : List Int) : Prop where
  ok : okC p l
  down : ∀ i, i < l.length → ∀ x, x < p → ∃ j, j < l.length ∧ cf l j = Fam.wo (cf l i) x
theorem IsFam.of {p : Nat} {l : List Int} (h : familyB (p : Int) l = true) (h5 : p ≤ 5) (h1 : 1 ≤ l.length) (h16 : l.length ≤ 16) : IsFam p l := by
  unfold familyB at h
  rw [Bool.and_eq_true] at h
  obtain ⟨ha, hb⟩ := h
  obtain ⟨p1, _, _⟩ := of_decide_eq_true ha
  rw [Int.toNat_natCast] at hb
  have hb' := hb
  unfold Fam.famB at hb
  rw [Bool.and_eq_true, Bool.and_eq_true] at hb
  have hs := Fam.sets_iff.1 hb.1.1
  have hso := Fam.less_iff.1 hb.1.2
  refine ⟨⟨by omega, h5, h1, h16, hs, hso⟩, fun i hi x hx => ?_⟩
  have hd := fam_down hb' hi hx
  obtain ⟨j, hj, e⟩ := List.getElem_of_mem hd
  refine ⟨j, hj, ?_⟩
  have : l.getD j 0 = ((Fam.wo (l.getD i 0).toNat x : Nat) : Int) := by
    rw [List.getD_eq_getElem?_getD, List.getElem?_eq_getElem hj, Option.getD_some, e]
  unfold cf
  rw [this, Int.toNat_natCast]
theorem wo_test' : (List.range 64).all (fun s => (List.range 6).all fun x => (List.range 6).all fun y => ((Fam.wo s x).testBit y == (s.testBit y && !decide (y = x)))) = true := by decide +kernel
theorem wo_test {s x y : Nat} (hs : s < 64) (hx : x < 6) (hy : y < 6) : (Fam.wo s x).testBit y = (s.testBit y && !decide (y = x)) :=
  eq_of_beq (List.all_eq_true.1 (List.all_eq_true.1 (List.all_eq_true.1 wo_test' s (List.mem_range.2 hs)) x (List.mem_range.2 hx)) y (List.mem_range.2 hy))
/-- A set, without what another one lacks among the first elements. -/
def partTo (s U : Nat) : Nat → Nat
  | 0 => s
  | x + 1 => if U.testBit x = true then partTo s U x else Fam.wo (partTo s U x) x
theorem partTo_le (s U : Nat) : ∀ x, partTo s U x ≤ s
  | 0 => Nat.le_refl _
  | x + 1 => by
    have := partTo_le s U x
    unfold partTo
    split
    · exact this
    · exact Nat.le_trans (Fam.wo_le _ _) this
theorem partTo_test {s U : Nat} (hs : s < 64) : ∀ x, x ≤ 6 → ∀ y, y < 6 → (partTo s U x).testBit y = (s.testBit y && (decide (x ≤ y) || U.testBit y))
  | 0, _, y, _ => by simp [partTo]
  | x + 1, hx, y, hy => by
    have ih := partTo_test (U := U) hs x (by omega) y hy
    have hle := partTo_le s U x
    unfold partTo
    by_cases hU : U.testBit x = true
    · rw [if_pos hU, ih]
      by_cases e : y = x
      · subst e; simp [hU]
      · rw [show decide (x + 1 ≤ y) = decide (x ≤ y) by rw [Bool.eq_iff_iff, decide_eq_true_eq, decide_eq_true_eq]; omega]
    · rw [if_neg hU, wo_test (by omega) (by omega) hy, ih]
      by_cases e : y = x
      · subst e; simp [hU]
      · rw [show decide (x + 1 ≤ y) = decide (x ≤ y) by rw [Bool.eq_iff_iff, decide_eq_true_eq, decide_eq_true_eq]; omega]
        simp [e]
theorem IsFam.lt64 {p : Nat} {l : List Int} (h : IsFam p l) {i : Nat} (hi : i < l.length) : cf l i < 32 := by
  have h1 := (h.ok.at hi).2
  have : (2 : Nat) ^ p ≤ 2 ^ 5 := Nat.pow_le_pow_right (by decide) h.ok.2.1
  omega
/-- Each part of a set of a family is in it. -/
theorem IsFam.sub {p : Nat} {l : List Int} (h : IsFam p l) {i U : Nat} (hi : i < l.length) (hU : U &&& cf l i = U) : ∃ j, j < l.length ∧ cf l j = U := by
  have h5 := h.ok.2.1
  have h64 := h.lt64 hi
  have key : ∀ x, x ≤ p → ∃ j, j < l.length ∧ cf l j = partTo (cf l i) U x := fun x => by
    induction x with
    | zero => intro _; exact ⟨i, hi, rfl⟩
    | succ x ih =>
      intro hx
      obtain ⟨j, hj, e⟩ := ih (by omega)
      unfold partTo
      split
      · exact ⟨j, hj, e⟩
      · obtain ⟨j', hj', e'⟩ := h.down j hj x (by omega)
        exact ⟨j', hj', by rw [e', e]⟩
  obtain ⟨j, hj, e⟩ := key p (Nat.le_refl _)
  refine ⟨j, hj, ?_⟩
  rw [e]
  have hp := (h.ok.at hi).2
  have hUp : U < 2 ^ p := by rw [← hU]; exact Nat.lt_of_le_of_lt Nat.and_le_right hp
  apply Nat.eq_of_testBit_eq
  intro y
  by_cases hy : y < p
  · rw [partTo_test (by omega) p (by omega) y (by omega), show decide (p ≤ y) = false by simp; omega, Bool.false_or]
    have := congrArg (fun n => n.testBit y) hU
    simp only [Nat.testBit_and] at this
    rw [Bool.and_comm]
    exact this
  · have hpy : (2 : Nat) ^ p ≤ 2 ^ y := Nat.pow_le_pow_right (by decide) (by omega)
    have := partTo_le (cf l i) U p
    rw [Nat.testBit_lt_two_pow (show U < 2 ^ y by omega), Nat.testBit_lt_two_pow (show partTo (cf l i) U p < 2 ^ y by omega)]
theorem okC.rise {p : Nat} {l : List Int} (h : okC p l) {i j : Nat} (hij : i < j) (hj : j < l.length) : cf l i < cf l j := by
  have := List.pairwise_iff_getElem.1 h.2.2.2.2.2 i j (by omega) hj hij
  have h1 := (h.at (i := i) (by omega)).1
  have h2 := (h.at hj).1
  rw [List.getD_eq_getElem?_getD, List.getElem?_eq_getElem (show i < l.length by omega), Option.getD_some] at h1
  rw [List.getD_eq_getElem?_getD, List.getElem?_eq_getElem hj, Option.getD_some] at h2
  omega
theorem okC.ge {p : Nat} {l : List Int} (h : okC p l) : ∀ i, i < l.length → i ≤ cf l i
  | 0, _ => Nat.zero_le _
  | i + 1, hi => by
    have h1 := okC.ge h i (by omega)
    have h2 := h.rise (show i < i + 1 by omega) hi
    omega
theorem okC.few {p : Nat} {l : List Int} (h : okC p l) : l.length ≤ 2 ^ p := by
  have h1 := h.2.2.1
  have h2 := h.ge (l.length - 1) (by omega)
  have h3 := (h.at (i := l.length - 1) (by omega)).2
  omega
theorem IsFam.zero {p : Nat} {l : List Int} (h : IsFam p l) : cf l 0 = 0 := by
  have h1 := h.ok.2.2.1
  obtain ⟨j, hj, e⟩ := h.sub (i := 0) (U := 0) (by omega) (Nat.zero_and _)
  rcases Nat.eq_zero_or_pos j with rfl | hj0
  · exact e
  · have := h.ok.rise hj0 hj
    omega
theorem IsFam.first {p : Nat} {l : List Int} (h : IsFam p l) : l.getD 0 0 = 0 := by
  have h1 := h.ok.2.2.1
  rw [(h.ok.at (i := 0) (by omega)).1, h.zero]
  rfl
theorem IsFam.key {p : Nat} {l : List Int} (h : IsFam p l) : keysTo (cf l) l.length (2 ^ p) ≠ [] ∧ keyN p l = unionTo l l.length := by
  have h5 := h.ok.2.1
  have p5 : (2 : Nat) ^ p ≤ 2 ^ 5 := Nat.pow_le_pow_right (by decide) h5
  have hAl : unionTo l l.length < 2 ^ p := unionTo_lt (fun i hi => (h.ok.at hi).2) _ (Nat.le_refl _)
  have hsub : ∀ j, j < l.length → cf l j &&& unionTo l l.length = cf l j := fun j hj => by
    apply Nat.eq_of_testBit_eq
    intro x
    rw [Nat.testBit_and]
    cases hb : (cf l j).testBit x with
    | false => rfl
    | true => rw [(unionTo_test l x _).2 ⟨j, hj, hb⟩]; rfl
  have hA : unionTo l l.length ∈ keysTo (cf l) l.length (2 ^ p) := by
    refine keysTo_mem.2 ⟨hAl, (aloneB_iff _ _ _).2 fun j hj => ?_⟩
    rcases Nat.eq_zero_or_pos j with rfl | hj0
    · exact .inl rfl
    · right
      rw [hsub j hj]
      have := h.ok.rise hj0 hj
      omega
  have hne : keysTo (cf l) l.length (2 ^ p) ≠ [] := fun e => by rw [e] at hA; cases hA
  refine ⟨hne, ?_⟩
  generalize hAe : unionTo l l.length = A at *
  have hkey : ∀ k, k ∈ keysTo (cf l) l.length (2 ^ p) → A &&& k = A := fun k hk => by
    have hal := (aloneB_iff _ _ _).1 (keysTo_mem.1 hk).2
    apply Nat.eq_of_testBit_eq
    intro x
    rw [Nat.testBit_and]
    cases hb : A.testBit x with
    | false => rfl
    | true =>
      rw [← hAe] at hb
      obtain ⟨j, hj, hbj⟩ := (unionTo_test l x _).1 hb
      have hU : 2 ^ x &&& cf l j = 2 ^ x := by
        apply Nat.eq_of_testBit_eq
        intro y
        rw [Nat.testBit_and, Nat.testBit_two_pow]
        by_cases e : x = y
        · subst e; simp [hbj]
        · simp [e]
      obtain ⟨i, hi, ei⟩ := h.sub hj hU
      rcases hal i hi with rfl | hn
      · rw [h.zero] at ei
        have := Nat.two_pow_pos x
        omega
      · rw [ei] at hn
        cases hk2 : k.testBit x with
        | true => rfl
        | false =>
          refine absurd ?_ hn
          apply Nat.eq_of_testBit_eq
          intro y
          rw [Nat.testBit_and, Nat.testBit_two_pow, Nat.zero_testBit]
          by_cases e : x = y
          · subst e; simp [hk2]
          · simp [e]
  have hlt : ∀ k ∈ keysTo (cf l) l.length (2 ^ p), k ≠ A → ltK A k = true ∧ ltK k A = false := fun k hk hkA => by
    have h1 := hkey k hk
    have hk1 := (keysTo_mem.1 hk).1
    have hs := Lr.cnt_split (s := k) (a := A) (b := k ^^^ A) 16 fun y _ => by
      have := congrArg (fun n => n.testBit y) h1
      simp only [Nat.testBit_and] at this
      rw [Nat.testBit_xor]
      revert this
      cases A.testBit y <;> cases k.testBit y <;> simp
    have hx : k ^^^ A < 2 ^ 16 := Nat.xor_lt_two_pow (by omega) (by omega)
    have hp : 1 ≤ Lr.cnt (k ^^^ A) 16 := Lr.cnt_pos hx fun e => hkA (by
      apply Nat.eq_of_testBit_eq
      intro y
      have := congrArg (fun n => n.testBit y) e
      simp only [Nat.testBit_xor, Nat.zero_testBit] at this
      revert this
      cases A.testBit y <;> cases k.testBit y <;> simp)
    refine ⟨(ltK_iff A k).2 (.inl (by omega)), ?_⟩
    cases hb : ltK k A with
    | false => rfl
    | true =>
      rcases (ltK_iff k A).1 hb with h' | h' <;> omega
  unfold keyN
  have hpos := List.length_pos_iff.2 hne
  obtain ⟨j, hj, ej⟩ := List.getElem_of_mem hA
  refine minTo_least hne hlt _ (by omega) ⟨j, by omega, ?_⟩
  rw [List.getD_eq_getElem?_getD, List.getElem?_eq_getElem hj, Option.getD_some, ej]
theorem IsFam.dim {p : Nat} {l : List Int} (h : IsFam p l) : mostTo l l.length ≤ Lr.dimN (cf l) l.length p (allC l) := by
  refine mostTo_le _ fun i hi => ?_
  have h16 := h.ok.2.2.2.1
  have hp := (h.ok.at hi).2
  rw [Lr.cnt16 (show p ≤ 16 by have := h.ok.2.1; omega) hp]
  refine Lr.cube_dim h16 _ (cf l i) 0 (allC l) (allC_ok h.ok).1 hp rfl ⟨Nat.and_zero _, fun U hU => ?_⟩
  obtain ⟨j, hj, e⟩ := h.sub hi hU
  refine ⟨j, hj, ?_, by rw [e, Nat.or_zero]⟩
  unfold allC
  rw [Nat.testBit_two_pow_sub_one, decide_eq_true hj]
theorem IsFam.ask {p : Nat} {l : List Int} (h : IsFam p l) : Lr.dimN (cf l) l.length p (allC l) ≤ Lr.askN (cf l) l.length p (allC l) :=
  Lr.dim_ask h.ok.2.2.2.1 h.ok.few (allC_ok h.ok).1 (allC_ok h.ok).2
end Go.Proofs.YtpplihpfjniacaaDoor
