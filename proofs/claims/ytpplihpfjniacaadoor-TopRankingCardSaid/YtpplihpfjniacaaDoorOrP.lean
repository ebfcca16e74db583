/- Plain: tournaments and orders. No program in sight. -/
import Derived.Test.YtpplihpfjniacaaDoorRg1
import Derived.Test.YtpplihpfjniacaaDoorOnes
namespace Go.Proofs.YtpplihpfjniacaaDoor
namespace Tr

/-- One beats another. -/
def bt (l : List Int) (i j : Nat) : Bool := (tb l i).testBit j
structure Tour (l : List Int) : Prop where
  len : 1 ≤ l.length ∧ l.length ≤ 8
  val : ∀ i, i < l.length → l.getD i 0 = (tb l i : Int)
  lt : ∀ i, tb l i < 2 ^ l.length
  irr : ∀ i, bt l i i = false
  one : ∀ i j, i < l.length → j < l.length → i ≠ j → bt l i j = !bt l j i
  out : ∀ i j, bt l i j = true → i < l.length ∧ j < l.length
theorem tour_of {l : List Int} (hl : 1 ≤ l.length ∧ l.length ≤ 8) (h : tourV l = true) : Tour l := by
  have hA := fun i hi => tvU_at h i hi
  have h0 : ∀ i, ¬ i < l.length → tb l i = 0 := fun i hi => by
    unfold tb
    rw [List.getD_eq_getElem?_getD, List.getElem?_eq_none (by omega)]
    rfl
  have hv : ∀ i, i < l.length → l.getD i 0 = (tb l i : Int) := fun i hi => by
    have := (hA i hi).1
    unfold tb; omega
  have hlt : ∀ i, tb l i < 2 ^ l.length := fun i => by
    by_cases hi : i < l.length
    · have h1 := (hA i hi).2.1
      rw [hv i hi] at h1
      omega
    · rw [h0 i hi]; exact Nat.two_pow_pos _
  have hout : ∀ i j, bt l i j = true → i < l.length ∧ j < l.length := fun i j hb => by
    unfold bt at hb
    refine ⟨Nat.lt_of_not_le fun hi => ?_, Nat.lt_of_not_le fun hj => ?_⟩
    · rw [h0 i (by omega)] at hb
      simp at hb
    · rw [Nat.testBit_lt_two_pow (Nat.lt_of_lt_of_le (hlt i) (Nat.pow_le_pow_right (by decide) hj))] at hb
      cases hb
  refine ⟨hl, hv, hlt, fun i => ?_, fun i j hi hj hne => ?_, hout⟩
  · by_cases hi : i < l.length
    · exact (hA i hi).2.2.1
    · unfold bt; rw [h0 i hi]; simp
  · unfold bt
    rcases Nat.lt_or_gt_of_ne hne with h1 | h1
    · have := tvR_at (hA j hj).2.2.2 i h1
      revert this
      cases (tb l i).testBit j <;> cases (tb l j).testBit i <;> simp
    · have := tvR_at (hA i hi).2.2.2 j h1
      revert this
      cases (tb l i).testBit j <;> cases (tb l j).testBit i <;> simp
theorem Tour.asym {l : List Int} (T : Tour l) {i j : Nat} (h : bt l i j = true) : bt l j i = false := by
  obtain ⟨hi, hj⟩ := T.out i j h
  by_cases e : i = j
  · subst e; exact T.irr _
  · have := T.one i j hi hj e
    rw [h] at this
    cases hb : bt l j i with
    | false => rfl
    | true => rw [hb] at this; cases this
def Acy (l : List Int) : Prop := ∀ a b c, bt l a b = true → bt l b c = true → bt l c a = false
theorem Tour.trans {l : List Int} (T : Tour l) (A : Acy l) {a b c : Nat} (h : bt l a b = true) (k : bt l b c = true) : bt l a c = true := by
  by_cases e : a = c
  · subst e
    rw [T.asym h] at k; cases k
  · rw [T.one a c (T.out _ _ h).1 (T.out _ _ k).2 e, A a b c h k]; rfl

/-! Orders: what is above each element. -/
structure Ord (n : Nat) (A : Nat → Nat) : Prop where
  lt : ∀ k, A k < 2 ^ n
  out : ∀ k, n ≤ k → A k = 0
  irr : ∀ k, (A k).testBit k = false
  tr : ∀ x y z, (A x).testBit y = true → (A y).testBit z = true → (A x).testBit z = true
def addN (n : Nat) (A : Nat → Nat) (i j : Nat) : Nat → Nat := fun k => if (Lr.wb A i n ||| 2 ^ i).testBit k = true then A k ||| (A j ||| 2 ^ j) else A k
theorem dn_test (n : Nat) (A : Nat → Nat) (i x : Nat) : (Lr.wb A i n ||| 2 ^ i).testBit x = true ↔ (x = i ∨ (x < n ∧ (A x).testBit i = true)) := by
  rw [Nat.testBit_or, Nat.testBit_two_pow, Lr.wb_test]
  simp only [Bool.or_eq_true, Bool.and_eq_true, decide_eq_true_eq]
  constructor
  · rintro (h | h)
    · exact .inr h
    · exact .inl h.symm
  · rintro (h | h)
    · exact .inr h.symm
    · exact .inl h
theorem add_test (n : Nat) (A : Nat → Nat) (i j x y : Nat) : (addN n A i j x).testBit y = true ↔ (A x).testBit y = true ∨ ((x = i ∨ (x < n ∧ (A x).testBit i = true)) ∧ (y = j ∨ (A j).testBit y = true)) := by
  unfold addN
  have h1 := dn_test n A i x
  split
  · rename_i h
    rw [Nat.testBit_or, Nat.testBit_or, Nat.testBit_two_pow]
    simp only [Bool.or_eq_true, decide_eq_true_eq]
    constructor
    · rintro (k | k | k)
      · exact .inl k
      · exact .inr ⟨h1.1 h, .inr k⟩
      · exact .inr ⟨h1.1 h, .inl k.symm⟩
    · rintro (k | ⟨_, k | k⟩)
      · exact .inl k
      · exact .inr (.inr k.symm)
      · exact .inr (.inl k)
  · rename_i h
    constructor
    · exact .inl
    · rintro (k | ⟨k, _⟩)
      · exact k
      · exact absurd (h1.2 k) h
theorem ord_add {n : Nat} {A : Nat → Nat} (o : Ord n A) {i j : Nat} (hi : i < n) (hj : j < n) (hne : i ≠ j) (hno : (A j).testBit i = false) : Ord n (addN n A i j) := by
  refine ⟨fun k => ?_, fun k hk => ?_, fun k => ?_, fun x y z => ?_⟩
  · unfold addN
    split
    · exact Nat.or_lt_two_pow (o.lt k) (Nat.or_lt_two_pow (o.lt j) (Nat.pow_lt_pow_right (by decide) hj))
    · exact o.lt k
  · unfold addN
    rw [if_neg]
    · exact o.out k hk
    · intro h
      rcases (dn_test n A i k).1 h with h | h <;> omega
  · cases hb : (addN n A i j k).testBit k with
    | false => rfl
    | true =>
      rcases (add_test n A i j k k).1 hb with h | ⟨h1, h2⟩
      · rw [o.irr] at h; cases h
      · rcases h1 with rfl | ⟨_, h1⟩
        · rcases h2 with h2 | h2
          · exact absurd h2 hne
          · rw [hno] at h2; cases h2
        · rcases h2 with rfl | h2
          · rw [hno] at h1; cases h1
          · rw [o.tr j k i h2 h1] at hno; cases hno
  · rw [add_test, add_test, add_test]
    rintro (h | ⟨h1, h2⟩) (k | ⟨k1, k2⟩)
    · exact .inl (o.tr x y z h k)
    · refine .inr ⟨?_, k2⟩
      have hx : x < n := Nat.lt_of_not_le fun hh => by rw [o.out x hh] at h; simp at h
      rcases k1 with rfl | ⟨_, k1⟩
      · exact .inr ⟨hx, h⟩
      · exact .inr ⟨hx, o.tr x y i h k1⟩
    · refine .inr ⟨h1, ?_⟩
      rcases h2 with rfl | h2
      · exact .inr k
      · exact .inr (o.tr j y z h2 k)
    · exact .inr ⟨h1, k2⟩
theorem ord_zero (n : Nat) : Ord n (fun _ => 0) := ⟨fun _ => Nat.two_pow_pos _, fun _ _ => rfl, fun k => by simp, fun x y z h => by simp at h⟩
def closeN (n : Nat) : List (Nat × Nat) → (Nat → Nat) → Option (Nat → Nat)
  | [], A => some A
  | p :: ps, A => if p.1 = p.2 ∨ (A p.2).testBit p.1 = true then none else closeN n ps (addN n A p.1 p.2)
theorem close_sound {n : Nat} : ∀ (ps : List (Nat × Nat)) {A B : Nat → Nat}, Ord n A → (∀ p ∈ ps, p.1 < n ∧ p.2 < n) → closeN n ps A = some B →
    Ord n B ∧ (∀ x y, (A x).testBit y = true → (B x).testBit y = true) ∧ ∀ p ∈ ps, (B p.1).testBit p.2 = true
  | [], A, B, o, _, h => by
    cases h
    exact ⟨o, fun _ _ h => h, fun p hp => absurd hp List.not_mem_nil⟩
  | p :: ps, A, B, o, hp, h => by
    rw [closeN] at h
    split at h
    · cases h
    · rename_i hc
      obtain ⟨h1, h2⟩ := hp p (List.mem_cons_self ..)
      have hno : (A p.2).testBit p.1 = false := by
        cases hb : (A p.2).testBit p.1 with
        | false => rfl
        | true => exact absurd (.inr hb) hc
      obtain ⟨k1, k2, k3⟩ := close_sound ps (ord_add o h1 h2 (fun e => hc (.inl e)) hno) (fun q hq => hp q (List.mem_cons_of_mem _ hq)) h
      refine ⟨k1, fun x y hxy => k2 x y ((add_test ..).2 (.inl hxy)), fun q hq => ?_⟩
      rcases List.mem_cons.1 hq with rfl | hq
      · exact k2 _ _ ((add_test ..).2 (.inr ⟨.inl rfl, .inl rfl⟩))
      · exact k3 q hq
theorem close_below {n : Nat} (R : Nat → Nat → Bool) (hR : ∀ x y z, R x y = true → R y z = true → R x z = true) (hI : ∀ x, R x x = false) : ∀ (ps : List (Nat × Nat)) {A : Nat → Nat},
    (∀ x y, (A x).testBit y = true → R x y = true) → (∀ p ∈ ps, R p.1 p.2 = true) → ∃ B, closeN n ps A = some B ∧ ∀ x y, (B x).testBit y = true → R x y = true
  | [], A, h, _ => ⟨A, rfl, h⟩
  | p :: ps, A, h, hp => by
    have hpp := hp p (List.mem_cons_self ..)
    have hc : ¬ (p.1 = p.2 ∨ (A p.2).testBit p.1 = true) := by
      rintro (e | e)
      · rw [e, hI] at hpp; cases hpp
      · have := hR _ _ _ (h _ _ e) hpp
        rw [hI] at this; cases this
    rw [closeN, if_neg hc]
    refine close_below R hR hI ps (fun x y hxy => ?_) fun q hq => hp q (List.mem_cons_of_mem _ hq)
    rcases (add_test ..).1 hxy with k | ⟨k1, k2⟩
    · exact h _ _ k
    · have e1 : R x p.2 = true := by
        rcases k1 with rfl | ⟨_, k1⟩
        · exact hpp
        · exact hR _ _ _ (h _ _ k1) hpp
      rcases k2 with rfl | k2
      · exact e1
      · exact hR _ _ _ e1 (h _ _ k2)

/-! The pairs of a tournament. -/
def rowP (l : List Int) (i : Nat) : Nat → List (Nat × Nat)
  | 0 => []
  | j + 1 => rowP l i j ++ (if bt l i j = true then [(j, i)] else [])
def allP (l : List Int) : Nat → List (Nat × Nat)
  | 0 => []
  | i + 1 => allP l i ++ rowP l i l.length
theorem mem_rowP {l : List Int} {i : Nat} {p : Nat × Nat} : ∀ {m}, p ∈ rowP l i m ↔ ∃ j, j < m ∧ bt l i j = true ∧ p = (j, i)
  | 0 => by simp [rowP]
  | m + 1 => by
    rw [rowP, List.mem_append, mem_rowP]
    constructor
    · rintro (⟨j, h1, h2, h3⟩ | h)
      · exact ⟨j, by omega, h2, h3⟩
      · split at h
        · rename_i hb
          exact ⟨m, by omega, hb, List.mem_singleton.1 h⟩
        · cases h
    · rintro ⟨j, h1, h2, h3⟩
      by_cases e : j = m
      · subst e
        right
        rw [if_pos h2]
        exact List.mem_singleton.2 h3
      · exact .inl ⟨j, by omega, h2, h3⟩
theorem mem_allP {l : List Int} {p : Nat × Nat} : ∀ {m}, p ∈ allP l m ↔ ∃ i j, i < m ∧ j < l.length ∧ bt l i j = true ∧ p = (j, i)
  | 0 => by simp [allP]
  | m + 1 => by
    rw [allP, List.mem_append, mem_allP, mem_rowP]
    constructor
    · rintro (⟨i, j, h1, h2, h3, h4⟩ | ⟨j, h1, h2, h3⟩)
      · exact ⟨i, j, by omega, h2, h3, h4⟩
      · exact ⟨m, j, by omega, h1, h2, h3⟩
    · rintro ⟨i, j, h1, h2, h3, h4⟩
      by_cases e : i = m
      · subst e
        exact .inr ⟨j, h2, h3, h4⟩
      · exact .inl ⟨i, j, by omega, h2, h3, h4⟩
theorem len_rowP {l : List Int} (T : Tour l) (i : Nat) : ∀ m, (rowP l i m).length + (if i < m then 1 else 0) ≤ m
  | 0 => by simp [rowP]
  | m + 1 => by
    have ih := len_rowP T i m
    rw [rowP, List.length_append]
    by_cases e : i = m
    · subst e
      rw [T.irr]
      simp at ih ⊢
      omega
    · have h1 : ((if bt l i m = true then [(m, i)] else []) : List (Nat × Nat)).length ≤ 1 := by split <;> simp
      generalize ((if bt l i m = true then [(m, i)] else []) : List (Nat × Nat)).length = q at h1 ⊢
      by_cases h2 : i < m
      · rw [if_pos h2] at ih
        rw [if_pos (by omega)]
        omega
      · rw [if_neg (by omega)]
        rw [if_neg h2] at ih
        omega
theorem len_allP {l : List Int} (T : Tour l) : ∀ m, m ≤ l.length → (allP l m).length ≤ m * (l.length - 1)
  | 0, _ => by simp [allP]
  | m + 1, h => by
    have ih := len_allP T m (by omega)
    have h1 := len_rowP T m l.length
    rw [if_pos (by omega)] at h1
    rw [allP, List.length_append, Nat.add_mul]
    omega
theorem len_P {l : List Int} (T : Tour l) (h6 : l.length ≤ 6) : (allP l l.length).length ≤ 30 := by
  have h1 := len_allP T l.length (Nat.le_refl _)
  have h2 : l.length * (l.length - 1) ≤ 6 * 5 := Nat.mul_le_mul h6 (by omega)
  omega
theorem len_rows {l : List Int} (T : Tour l) {i j : Nat} (hi : i < l.length) (hj : j ≤ l.length) : (allP l i ++ rowP l i j).length ≤ 64 := by
  have h1 := len_allP T i (by omega)
  have h2 := len_rowP T i j
  have h3 := T.len.2
  rw [List.length_append]
  have h4 : i * (l.length - 1) ≤ 7 * 7 := Nat.mul_le_mul (by omega) (by omega)
  omega

/-- Who beats one. -/
def upA (l : List Int) (j : Nat) : Nat := Lr.wb (tb l) j l.length
theorem up_test {l : List Int} (T : Tour l) (j i : Nat) : (upA l j).testBit i = bt l i j := by
  unfold upA
  rw [Lr.wb_test]
  cases hb : bt l i j with
  | false => unfold bt at hb; rw [hb, Bool.and_false]
  | true =>
    have := (T.out _ _ hb).1
    unfold bt at hb; rw [hb]; simp [this]
theorem close_acy {l : List Int} (T : Tour l) (hA : Acy l) : closeN l.length (allP l l.length) (fun _ => 0) = some (upA l) := by
  obtain ⟨B, hB, h1⟩ := close_below (n := l.length) (fun x y => bt l y x) (fun x y z h k => T.trans hA k h) T.irr (allP l l.length) (A := fun _ => 0) (fun x y h => by simp at h) (fun p hp => by
    obtain ⟨i, j, _, _, hb, rfl⟩ := mem_allP.1 hp
    exact hb)
  rw [hB]
  obtain ⟨_, _, h3⟩ := close_sound _ (ord_zero l.length) (fun p hp => by
    obtain ⟨i, j, h1, h2, _, rfl⟩ := mem_allP.1 hp
    exact ⟨h2, h1⟩) hB
  congr 1
  funext x
  refine Nat.eq_of_testBit_eq fun y => ?_
  rw [up_test T]
  cases hb : bt l y x with
  | true => exact h3 (x, y) (mem_allP.2 ⟨y, x, (T.out _ _ hb).1, (T.out _ _ hb).2, hb, rfl⟩)
  | false =>
    cases hc : (B x).testBit y with
    | false => rfl
    | true => exact absurd (h1 x y hc) (by rw [hb]; decide)
theorem close_cyc {l : List Int} (hA : ¬ Acy l) (T : Tour l) : closeN l.length (allP l l.length) (fun _ => 0) = none := by
  cases hB : closeN l.length (allP l l.length) (fun _ => 0) with
  | none => rfl
  | some B =>
    obtain ⟨o, _, h3⟩ := close_sound _ (ord_zero l.length) (fun p hp => by
      obtain ⟨i, j, h1, h2, _, rfl⟩ := mem_allP.1 hp
      exact ⟨h2, h1⟩) hB
    have hb : ∀ x y, bt l y x = true → (B x).testBit y = true := fun x y h => h3 (x, y) (mem_allP.2 ⟨y, x, (T.out _ _ h).1, (T.out _ _ h).2, h, rfl⟩)
    exact absurd (fun a b c h1 h2 => by
      cases h4 : bt l c a with
      | false => rfl
      | true =>
        have := o.tr _ _ _ (hb _ _ h2) (o.tr _ _ _ (hb _ _ h1) (hb _ _ h4))
        rw [o.irr] at this; cases this) hA
theorem up_ord {l : List Int} (T : Tour l) (hA : Acy l) : Ord l.length (upA l) :=
  (close_sound _ (ord_zero l.length) (fun p hp => by
    obtain ⟨i, j, h1, h2, _, rfl⟩ := mem_allP.1 hp
    exact ⟨h2, h1⟩) (close_acy T hA)).1

/-! A set without one; how many there are. -/
def del (s x : Nat) : Nat := andnN s (2 ^ x)
theorem del_test {s x : Nat} (hs : s < 65536) (hx : x < 16) (i : Nat) : (del s x).testBit i = (s.testBit i && !decide (i = x)) := by
  unfold del
  have hp : (2 : Nat) ^ x < 2 ^ 64 := Nat.pow_lt_pow_right (by decide) (by omega)
  rw [andnN_test (by omega) hp, Nat.testBit_two_pow]
  by_cases e : x = i
  · subst e; simp
  · simp [e, Ne.symm e]
theorem del_le (s x : Nat) : del s x ≤ s := andnN_le _ _
theorem bit_lt {s x : Nat} (hs : s < 65536) (h : s.testBit x = true) : x < 16 := Nat.lt_of_not_le fun hx => by
  rw [Nat.testBit_lt_two_pow (Nat.lt_of_lt_of_le hs (Nat.pow_le_pow_right (n := 2) (by decide) hx))] at h
  cases h
theorem bit_ltn {s x n : Nat} (hs : s < 2 ^ n) (h : s.testBit x = true) : x < n := Nat.lt_of_not_le fun hx => by
  rw [Nat.testBit_lt_two_pow (Nat.lt_of_lt_of_le hs (Nat.pow_le_pow_right (n := 2) (by decide) hx))] at h
  cases h
theorem del_lt {s x : Nat} (hs : s < 65536) (h : s.testBit x = true) : del s x < s := by
  have h1 := del_le s x
  refine Nat.lt_of_le_of_ne h1 fun e => ?_
  have h2 := del_test hs (bit_lt hs h) x
  rw [e, h] at h2
  simp at h2
def cd (s : Nat) : Nat → Nat
  | 0 => 0
  | k + 1 => cd s k + (if s.testBit k = true then 1 else 0)
theorem cd_del {s x : Nat} (hs : s < 65536) (h : s.testBit x = true) : ∀ k, cd (del s x) k + (if x < k then 1 else 0) = cd s k
  | 0 => rfl
  | k + 1 => by
    have ih := cd_del hs h k
    rw [cd, cd, del_test hs (bit_lt hs h)]
    by_cases e : k = x
    · subst e
      simp [h] at ih ⊢
      omega
    · have e1 : (decide (k = x)) = false := decide_eq_false e
      rw [e1, Bool.not_false, Bool.and_true]
      split <;> split at ih <;> split <;> omega
def card (s : Nat) : Nat := cd s 16
theorem card_del {s x : Nat} (hs : s < 65536) (h : s.testBit x = true) : card (del s x) + 1 = card s := by
  have := cd_del hs h 16
  rwa [if_pos (bit_lt hs h)] at this
theorem card_zero : card 0 = 0 := by decide
theorem card_pos {s : Nat} (h0 : s ≠ 0) (hs : s < 65536) : 0 < card s := by
  obtain ⟨x, hx⟩ : ∃ x, s.testBit x = true := by
    refine Classical.byContradiction fun h => h0 (Nat.eq_of_testBit_eq fun i => ?_)
    rw [Nat.zero_testBit]
    cases hb : s.testBit i with
    | false => rfl
    | true => exact absurd ⟨i, hb⟩ h
  have := card_del hs hx
  omega
theorem some_bit {s : Nat} (h0 : s ≠ 0) : ∃ x, s.testBit x = true := by
  refine Classical.byContradiction fun h => h0 (Nat.eq_of_testBit_eq fun i => ?_)
  rw [Nat.zero_testBit]
  cases hb : s.testBit i with
  | false => rfl
  | true => exact absurd ⟨i, hb⟩ h
theorem card_all : ∀ n, n < 9 → card (2 ^ n - 1) = n := by decide +kernel
theorem cnt_all : ∀ n, n < 9 → Lr.cnt (2 ^ n - 1) 16 = n := by decide +kernel
theorem cnt_less' : (List.range 7).all (fun n => (List.range (2 ^ n - 1)).all fun s => Nat.blt (Lr.cnt s 16) n) = true := by decide +kernel
theorem cnt_less {n s : Nat} (hn : n < 7) (hs : s < 2 ^ n - 1) : Lr.cnt s 16 < n := by
  have h1 := List.all_eq_true.1 (List.all_eq_true.1 cnt_less' n (List.mem_range.2 hn)) s (List.mem_range.2 hs)
  exact Nat.le_of_ble_eq_true h1

/-! Lines: rising and falling. -/
inductive Asc (l : List Int) : Nat → List Nat → Prop
  | nil : Asc l 0 []
  | cons {s x : Nat} {xs : List Nat} : s.testBit x = true → (∀ y, s.testBit y = true → bt l x y = false) → Asc l (del s x) xs → Asc l s (x :: xs)
inductive Desc (l : List Int) : Nat → List Nat → Prop
  | nil : Desc l 0 []
  | cons {s x : Nat} {xs : List Nat} : s.testBit x = true → (∀ y, s.testBit y = true → y ≠ x → bt l x y = true) → Desc l (del s x) xs → Desc l s (x :: xs)
theorem least_one {l : List Int} (T : Tour l) {s x y : Nat} (hs : s < 2 ^ l.length) (hx : s.testBit x = true) (hy : s.testBit y = true) (mx : ∀ z, s.testBit z = true → bt l x z = false) (my : ∀ z, s.testBit z = true → bt l y z = false) : x = y := by
  by_cases e : x = y
  · exact e
  · have := T.one x y (bit_ltn hs hx) (bit_ltn hs hy) e
    rw [mx y hy, my x hx] at this
    cases this
theorem asc_one {l : List Int} (T : Tour l) {s : Nat} {xs ys : List Nat} (hs : s < 2 ^ l.length) (h : Asc l s xs) (k : Asc l s ys) : xs = ys := by
  induction h generalizing ys with
  | nil =>
    cases k with
    | nil => rfl
    | cons hx _ _ => simp at hx
  | cons hx mx h ih =>
    cases k with
    | nil => simp at hx
    | cons hy my k =>
      obtain rfl := least_one T hs hx hy mx my
      rw [ih (Nat.lt_of_le_of_lt (del_le _ _) hs) k]
theorem pow16 {n : Nat} (h : n ≤ 8) : 2 ^ n < 65536 := Nat.lt_of_le_of_lt (Nat.pow_le_pow_right (n := 2) (by decide) h) (by decide)
theorem asc_snoc {l : List Int} (T : Tour l) {s x : Nat} {ys : List Nat} (h : Asc l s ys) : s < 65536 → s.testBit x = false → (∀ y, s.testBit y = true → bt l x y = true) →
    ∀ s', s' < 65536 → (∀ i, s'.testBit i = (s.testBit i || decide (i = x))) → Asc l s' (ys ++ [x]) := by
  induction h with
  | nil =>
    intro _ _ _ s' hs' ht
    have hx : s'.testBit x = true := by rw [ht]; simp
    refine .cons hx (fun y hy => ?_) ?_
    · rw [ht] at hy
      simp at hy
      subst hy; exact T.irr _
    · have : del s' x = 0 := Nat.eq_of_testBit_eq fun i => by
        rw [del_test hs' (bit_lt hs' hx), ht]
        by_cases e : i = x <;> simp [e]
      rw [this]
      exact .nil
  | @cons s y ys hy my h ih =>
    intro hs hxs hb s' hs' ht
    have hyx : y ≠ x := fun e => by rw [e, hxs] at hy; cases hy
    have hy' : s'.testBit y = true := by rw [ht, hy]; rfl
    refine .cons hy' (fun z hz => ?_) ?_
    · rw [ht, Bool.or_eq_true] at hz
      rcases hz with hz | hz
      · exact my z hz
      · obtain rfl : z = x := by simpa using hz
        exact T.asym (hb y hy)
    · have dt := del_test hs (bit_lt hs hy)
      refine ih (Nat.lt_of_le_of_lt (del_le _ _) hs) (by rw [dt, hxs]; rfl) (fun z hz => ?_) _ (Nat.lt_of_le_of_lt (del_le _ _) hs') fun i => ?_
      · rw [dt, Bool.and_eq_true] at hz
        exact hb z hz.1
      · rw [del_test hs' (bit_lt hs hy), ht, dt]
        by_cases e : i = x
        · subst e
          simp [Ne.symm hyx]
        · simp [e]
theorem desc_asc {l : List Int} (T : Tour l) {s : Nat} {xs : List Nat} (h : Desc l s xs) : s < 65536 → Asc l s xs.reverse := by
  induction h with
  | nil => intro _; exact .nil
  | @cons s x xs hx mx h ih =>
    intro hs
    rw [List.reverse_cons]
    have dt := del_test hs (bit_lt hs hx)
    refine asc_snoc T (ih (Nat.lt_of_le_of_lt (del_le _ _) hs)) (Nat.lt_of_le_of_lt (del_le _ _) hs) (by rw [dt]; simp) (fun y hy => ?_) s hs fun i => ?_
    · rw [dt] at hy
      simp at hy
      exact mx y hy.1 hy.2
    · rw [dt]
      by_cases e : i = x
      · subst e; simp [hx]
      · simp [e]
theorem desc_len {l : List Int} {s : Nat} {xs : List Nat} (h : Desc l s xs) : s < 65536 → xs.length = card s := by
  induction h with
  | nil => intro _; rfl
  | cons hx _ _ ih =>
    intro hs
    rw [List.length_cons, ih (Nat.lt_of_le_of_lt (del_le _ _) hs), card_del hs hx]
theorem asc_len {l : List Int} {s : Nat} {xs : List Nat} (h : Asc l s xs) : s < 65536 → xs.length = card s := by
  induction h with
  | nil => intro _; rfl
  | cons hx _ _ ih =>
    intro hs
    rw [List.length_cons, ih (Nat.lt_of_le_of_lt (del_le _ _) hs), card_del hs hx]
theorem ex_min {l : List Int} (T : Tour l) (hA : Acy l) : ∀ (m s : Nat), s ≤ m → s ≠ 0 → s < 2 ^ l.length → ∃ x, s.testBit x = true ∧ ∀ y, s.testBit y = true → bt l x y = false
  | 0, s, h1, h2, _ => by omega
  | m + 1, s, h1, h2, h3 => by
    have h16 : s < 65536 := Nat.lt_trans h3 (pow16 T.len.2)
    obtain ⟨x, hx⟩ := some_bit h2
    have dt := del_test h16 (bit_lt h16 hx)
    have hd := del_lt h16 hx
    by_cases h0 : del s x = 0
    · refine ⟨x, hx, fun y hy => ?_⟩
      have := dt y
      rw [h0, hy, Nat.zero_testBit] at this
      obtain rfl : y = x := by simpa using this
      exact T.irr _
    · obtain ⟨z, hz, mz⟩ := ex_min T hA m (del s x) (by omega) h0 (by omega)
      rw [dt] at hz
      simp at hz
      cases hb : bt l z x with
      | true =>
        refine ⟨x, hx, fun y hy => ?_⟩
        by_cases e : y = x
        · subst e; exact T.irr _
        · cases hc : bt l x y with
          | false => rfl
          | true =>
            have := mz y (by rw [dt, hy]; simp [e])
            rw [T.trans hA hb hc] at this
            cases this
      | false =>
        refine ⟨z, hz.1, fun y hy => ?_⟩
        by_cases e : y = x
        · subst e; exact hb
        · exact mz y (by rw [dt, hy]; simp [e])
theorem ex_max {l : List Int} (T : Tour l) (hA : Acy l) : ∀ (m s : Nat), s ≤ m → s ≠ 0 → s < 2 ^ l.length → ∃ x, s.testBit x = true ∧ ∀ y, s.testBit y = true → y ≠ x → bt l x y = true
  | 0, s, h1, h2, _ => by omega
  | m + 1, s, h1, h2, h3 => by
    have h16 : s < 65536 := Nat.lt_trans h3 (pow16 T.len.2)
    obtain ⟨x, hx⟩ := some_bit h2
    have dt := del_test h16 (bit_lt h16 hx)
    have hd := del_lt h16 hx
    by_cases h0 : del s x = 0
    · refine ⟨x, hx, fun y hy hne => ?_⟩
      have := dt y
      rw [h0, hy, Nat.zero_testBit] at this
      exact absurd (by simpa using this) hne
    · obtain ⟨z, hz, mz⟩ := ex_max T hA m (del s x) (by omega) h0 (by omega)
      rw [dt] at hz
      simp at hz
      cases hb : bt l x z with
      | true =>
        refine ⟨x, hx, fun y hy hne => ?_⟩
        by_cases e : y = z
        · subst e; exact hb
        · exact T.trans hA hb (mz y (by rw [dt, hy]; simp [hne]) e)
      | false =>
        have hzx : bt l z x = true := by
          rw [T.one z x (bit_ltn h3 hz.1) (bit_ltn h3 hx) hz.2, hb]; rfl
        refine ⟨z, hz.1, fun y hy hne => ?_⟩
        by_cases e : y = x
        · subst e; exact hzx
        · exact mz y (by rw [dt, hy]; simp [e]) hne
end Tr
theorem tb_lt {l : List Int} (T : Tr.Tour l) (i : Nat) : tb l i < 256 := Nat.lt_of_lt_of_le (T.lt i) (Nat.pow_le_pow_right (n := 2) (by decide) T.len.2)
end Go.Proofs.YtpplihpfjniacaaDoor
