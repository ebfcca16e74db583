/- Plain: sets of entries as numbers; how few sets cover or part some entries. -/
import Derived.Test.YtaapamoglgpocaaPartP
namespace Go.Proofs.Ytaapamoglgpocaa
open Go.RowKit

/-- The set of the numbers below k with a property. -/
def setB (p : Nat → Bool) : Nat → Nat
  | 0 => 0
  | k + 1 => if p k = true then setB p k ||| 2 ^ k else setB p k
theorem setB_test (p : Nat → Bool) : ∀ k e, (setB p k).testBit e = (decide (e < k) && p e)
  | 0, e => by simp [setB]
  | k + 1, e => by
    have ih := setB_test p k e
    rw [setB]
    by_cases h1 : e = k
    · subst h1
      cases hp : p e with
      | true => rw [if_pos rfl, Nat.testBit_or, ih, Nat.testBit_two_pow]; simp
      | false => rw [if_neg (by simp), ih]; simp
    · have h2 : decide (e < k + 1) = decide (e < k) := by
        apply decide_eq_decide.2
        omega
      have h3 : ¬ k = e := fun h => h1 h.symm
      rw [h2, ← ih]
      split
      · rw [Nat.testBit_or, Nat.testBit_two_pow]; simp [h3]
      · rfl
theorem setB_lt (p : Nat → Bool) : ∀ k, setB p k < 2 ^ k
  | 0 => by simp [setB]
  | k + 1 => by
    have := setB_lt p k
    rw [setB]
    have hp : 2 ^ (k + 1) = 2 ^ k + 2 ^ k := by rw [Nat.pow_succ]; omega
    split
    · exact Nat.or_lt_two_pow (by omega) (Nat.pow_lt_pow_right (by decide) (Nat.lt_succ_self k))
    · omega
theorem setB_congr {p q : Nat → Bool} {k : Nat} (h : ∀ e, e < k → p e = q e) : setB p k = setB q k := by
  apply Nat.eq_of_testBit_eq
  intro e
  rw [setB_test, setB_test]
  by_cases he : e < k
  · rw [h e he]
  · simp [he]
theorem bits_high {a e : Nat} (h : a < 65536) (he : 16 ≤ e) : a.testBit e = false :=
  Nat.testBit_lt_two_pow (Nat.lt_of_lt_of_le (show a < 2 ^ 16 from h) (Nat.pow_le_pow_right (by decide) he))
theorem bits_low {a e : Nat} (h : a < 65536) (ht : a.testBit e = true) : e < 16 := by
  rcases Nat.lt_or_ge e 16 with h' | h'
  · exact h'
  · rw [bits_high h h'] at ht; cases ht
theorem bits_ext {a b : Nat} (ha : a < 65536) (hb : b < 65536) (h : ∀ e, e < 16 → a.testBit e = b.testBit e) : a = b := by
  apply Nat.eq_of_testBit_eq
  intro e
  rcases Nat.lt_or_ge e 16 with h' | h'
  · exact h e h'
  · rw [bits_high ha h', bits_high hb h']
theorem bitsN_test (r c e : Nat) : (bitsN r c).testBit e = (decide (e < 16) && T.has r c (e / 4) (e % 4)) := bitsTo_test r c 16 e

/-! The entries with a value. -/
def entP (t : List (List Int)) (v : Int) (i j e : Nat) : Bool := decide (e / 4 < i ∨ (e / 4 = i ∧ e % 4 < j)) && decide (e % 4 < T.cols t) && decide (T.ent t (e / 4) (e % 4) = v)
def entTo (t : List (List Int)) (v : Int) (i j : Nat) : Nat := setB (entP t v i j) 16
def entN (t : List (List Int)) (v : Int) : Nat := entTo t v t.length 0
theorem entTo_lt (t : List (List Int)) (v : Int) (i j : Nat) : entTo t v i j < 65536 := setB_lt _ 16
theorem entN_lt (t : List (List Int)) (v : Int) : entN t v < 65536 := setB_lt _ 16
theorem entTo_zero (t : List (List Int)) (v : Int) : entTo t v 0 0 = 0 := by
  apply bits_ext (entTo_lt _ _ _ _) (by decide)
  intro e he
  unfold entTo entP
  rw [setB_test, Nat.zero_testBit]
  simp
theorem entTo_row {t : List (List Int)} {v : Int} {i j : Nat} (hj : T.cols t ≤ j) : entTo t v (i + 1) 0 = entTo t v i j := by
  unfold entTo
  apply setB_congr
  intro e _
  unfold entP
  by_cases hc : e % 4 < T.cols t
  · have : (e / 4 < i + 1 ∨ (e / 4 = i + 1 ∧ e % 4 < 0)) ↔ (e / 4 < i ∨ (e / 4 = i ∧ e % 4 < j)) := by omega
    rw [decide_eq_decide.2 this]
  · simp [hc]
theorem entTo_next {t : List (List Int)} {v : Int} {i j : Nat} (hi : i < 4) (hj : j < T.cols t) (h4 : T.cols t ≤ 4) : entTo t v i (j + 1) = if T.ent t i j = v then entTo t v i j ||| 2 ^ (4 * i + j) else entTo t v i j := by
  have hp : 2 ^ (4 * i + j) < 65536 := (show 2 ^ (4 * i + j) < 2 ^ 16 from Nat.pow_lt_pow_right (by decide) (by omega))
  have hm : ∀ e, (decide (e / 4 < i ∨ (e / 4 = i ∧ e % 4 < j + 1))) = (decide (e / 4 < i ∨ (e / 4 = i ∧ e % 4 < j)) || decide (4 * i + j = e)) := fun e => by
    rw [← Bool.decide_or]
    apply decide_eq_decide.2
    omega
  apply bits_ext (entTo_lt _ _ _ _) (by split; exact Nat.or_lt_two_pow (n := 16) (entTo_lt _ _ _ _) hp; exact entTo_lt _ _ _ _)
  intro e he
  have hd : decide (e < 16) = true := by simpa using he
  by_cases hE : 4 * i + j = e
  · have h1 : e / 4 = i := by omega
    have h2 : e % 4 = j := by omega
    split
    · rename_i hv
      rw [Nat.testBit_or, Nat.testBit_two_pow]
      unfold entTo
      rw [setB_test, hd, Bool.true_and]
      unfold entP
      rw [hm, h1, h2]
      simp [hE, hj, hv]
    · rename_i hv
      unfold entTo
      rw [setB_test, setB_test, hd, Bool.true_and, Bool.true_and]
      unfold entP
      rw [hm, h1, h2]
      simp [hE, hv]
  · have e1 : (entTo t v i (j + 1)).testBit e = (entTo t v i j).testBit e := by
      unfold entTo
      rw [setB_test, setB_test]
      unfold entP
      rw [hm]
      simp [hE]
    split
    · rw [Nat.testBit_or, Nat.testBit_two_pow, e1]; simp [hE]
    · exact e1
theorem entN_test {t : List (List Int)} {v : Int} (e : Nat) (hl : t.length ≤ 4) : (entN t v).testBit e = (decide (e / 4 < t.length) && decide (e % 4 < T.cols t) && decide (T.ent t (e / 4) (e % 4) = v)) := by
  unfold entN entTo
  rw [setB_test]
  unfold entP
  by_cases h : e < 16
  · simp [h]
  · have : ¬ e / 4 < t.length := by omega
    simp [h, this]

/-! The entries of a rectangle, row by row. -/
theorem tb_eq (a i : Nat) : a.testBit i = decide (a / 2 ^ i % 2 = 1) := by
  rw [Nat.testBit_eq_decide_div_mod_eq]
theorem has_tb (r c i j : Nat) : T.has r c i j = (r.testBit i && c.testBit j) := by rw [tb_eq, tb_eq]; rfl
def cellTo (r c k : Nat) : Nat := setB (fun e => decide (e / 4 < k) && T.has r c (e / 4) (e % 4)) 16
theorem cellTo_lt (r c k : Nat) : cellTo r c k < 65536 := setB_lt _ 16
theorem cellTo_zero (r c : Nat) : cellTo r c 0 = 0 := by
  apply bits_ext (cellTo_lt _ _ _) (by decide)
  intro e he
  unfold cellTo
  rw [setB_test, Nat.zero_testBit]
  simp
theorem cellTo_all (r c : Nat) : cellTo r c 4 = bitsN r c := by
  apply bits_ext (cellTo_lt _ _ _) (bitsN_lt _ _)
  intro e he
  unfold cellTo
  rw [setB_test, bitsN_test]
  have : e / 4 < 4 := by omega
  simp [this]
theorem shl_lt {c k : Nat} (hc : c < 16) (hk : k < 4) : c * 2 ^ (4 * k) < 65536 := by
  have h1 : 2 ^ (4 * k) ≤ 2 ^ 12 := Nat.pow_le_pow_right (by decide) (by omega)
  have h2 : c * 2 ^ (4 * k) ≤ 15 * 2 ^ 12 := Nat.mul_le_mul (by omega) h1
  omega
theorem cellTo_next {r c k : Nat} (hc : c < 16) (hk : k < 4) : cellTo r c (k + 1) = if r.testBit k = true then cellTo r c k ||| c * 2 ^ (4 * k) else cellTo r c k := by
  have hs := shl_lt hc hk
  apply bits_ext (cellTo_lt _ _ _) (by split; exact Nat.or_lt_two_pow (n := 16) (cellTo_lt _ _ _) hs; exact cellTo_lt _ _ _)
  intro e he
  have hd : decide (e < 16) = true := by simpa using he
  have hb : (c * 2 ^ (4 * k)).testBit e = (decide (e / 4 = k) && c.testBit (e % 4)) := by
    rw [Nat.testBit_mul_two_pow]
    by_cases h : e / 4 = k
    · have h1 : e - 4 * k = e % 4 := by omega
      have h2 : 4 * k ≤ e := by omega
      simp [h, h1, h2]
    · rcases Nat.lt_or_ge e (4 * k) with h' | h'
      · have : ¬ 4 * k ≤ e := by omega
        simp [h, this]
      · have h3 : c.testBit (e - 4 * k) = false := Nat.testBit_lt_two_pow (Nat.lt_of_lt_of_le hc (Nat.pow_le_pow_right (n := 2) (i := 4) (by decide) (by omega)))
        simp [h, h3]
  have hm : decide (e / 4 < k + 1) = (decide (e / 4 < k) || decide (e / 4 = k)) := by
    rw [← Bool.decide_or]
    apply decide_eq_decide.2
    omega
  have e1 : (cellTo r c (k + 1)).testBit e = ((cellTo r c k).testBit e || (decide (e / 4 = k) && (r.testBit k && c.testBit (e % 4)))) := by
    unfold cellTo
    rw [setB_test, setB_test, hd, Bool.true_and, Bool.true_and, hm, has_tb]
    by_cases h : e / 4 = k
    · rw [h]; simp
    · simp [h]
  rw [e1]
  split
  · rename_i h
    rw [Nat.testBit_or, hb, h]
    simp
  · rename_i h
    have : r.testBit k = false := by simpa using h
    rw [this]; simp

/-! Clear rectangles with a value. -/
def rectOk (t : List (List Int)) (v : Int) (r c : Nat) : Bool := T.clear t r c && decide (andnN (bitsN r c) (entN t v) = 0)
def rectI (t : List (List Int)) (v x y : Int) : Bool := decide (1 ≤ x ∧ x < ((2 ^ t.length : Nat) : Int) ∧ 1 ≤ y ∧ y < ((2 ^ T.cols t : Nat) : Int)) && rectOk t v x.toNat y.toNat
def setOk (t : List (List Int)) (v : Int) (q : Nat) : Bool := rectI t v ((q / 2 ^ T.cols t : Nat) : Int) ((q % 2 ^ T.cols t : Nat) : Int)
def setsTo (t : List (List Int)) (v : Int) (k : Nat) : List Nat := ((List.range k).filter (setOk t v)).map fun q => bitsN (q / 2 ^ T.cols t) (q % 2 ^ T.cols t)
def setsN (t : List (List Int)) (v : Int) : List Nat := setsTo t v (2 ^ t.length * 2 ^ T.cols t)
theorem setsTo_zero (t : List (List Int)) (v : Int) : setsTo t v 0 = [] := rfl
theorem setsTo_succ (t : List (List Int)) (v : Int) (k : Nat) : setsTo t v (k + 1) = if setOk t v k = true then setsTo t v k ++ [bitsN (k / 2 ^ T.cols t) (k % 2 ^ T.cols t)] else setsTo t v k := by
  unfold setsTo
  rw [List.range_succ, List.filter_append, List.map_append]
  split
  · rename_i h; simp [h]
  · rename_i h; simp [h]
theorem setsTo_len (t : List (List Int)) (v : Int) (k : Nat) : (setsTo t v k).length ≤ k := by
  unfold setsTo
  rw [List.length_map]
  exact Nat.le_trans (List.length_filter_le _ _) (by simp)
theorem setsN_lt {t : List (List Int)} {v : Int} {s : Nat} (h : s ∈ setsN t v) : s < 65536 := by
  unfold setsN setsTo at h
  obtain ⟨q, _, rfl⟩ := List.mem_map.1 h
  exact bitsN_lt _ _
theorem mem_setsN {t : List (List Int)} {v : Int} {s : Nat} : s ∈ setsN t v ↔ ∃ r c, 1 ≤ r ∧ r < 2 ^ t.length ∧ 1 ≤ c ∧ c < 2 ^ T.cols t ∧ rectOk t v r c = true ∧ s = bitsN r c := by
  unfold setsN setsTo
  rw [List.mem_map]
  constructor
  · rintro ⟨q, hq, rfl⟩
    rw [List.mem_filter, List.mem_range] at hq
    obtain ⟨hq, hok⟩ := hq
    unfold setOk rectI at hok
    rw [Bool.and_eq_true, decide_eq_true_eq] at hok
    obtain ⟨⟨h1, h2, h3, h4⟩, h5⟩ := hok
    simp only [Int.toNat_natCast] at h5
    exact ⟨_, _, by omega, by omega, by omega, by omega, h5, rfl⟩
  · rintro ⟨r, c, h1, h2, h3, h4, h5, rfl⟩
    have e1 : (r * 2 ^ T.cols t + c) / 2 ^ T.cols t = r := by
      rw [Nat.mul_comm, Nat.mul_add_div (by omega), Nat.div_eq_of_lt h4, Nat.add_zero]
    have e2 : (r * 2 ^ T.cols t + c) % 2 ^ T.cols t = c := by
      rw [Nat.mul_comm, Nat.mul_add_mod, Nat.mod_eq_of_lt h4]
    refine ⟨r * 2 ^ T.cols t + c, ?_, by rw [e1, e2]⟩
    rw [List.mem_filter, List.mem_range]
    refine ⟨?_, ?_⟩
    · have : (r + 1) * 2 ^ T.cols t ≤ 2 ^ t.length * 2 ^ T.cols t := Nat.mul_le_mul_right _ h2
      rw [Nat.succ_mul] at this
      omega
    · unfold setOk rectI
      rw [e1, e2, Bool.and_eq_true, decide_eq_true_eq]
      exact ⟨⟨by omega, by omega, by omega, by omega⟩, h5⟩

/-! How few sets. -/
def okF (once : Bool) (left s : Nat) : Bool := !decide (s &&& lowN left = 0) && (!once || decide (andnN s left = 0))
def stepF (once : Bool) (rec : Nat → Nat) (left b s : Nat) : Nat := if okF once left s = true then min b (1 + rec (andnN left s)) else b
def fewF (S : List Nat) (once : Bool) : Nat → Nat → Nat
  | 0, _ => 17
  | f + 1, left => if left = 0 then 0 else S.foldl (stepF once (fewF S once f) left) 17
def fewN (S : List Nat) (once : Bool) (left : Nat) : Nat := fewF S once (left + 1) left
theorem and_low {s e : Nat} : (s &&& 2 ^ e = 0) ↔ s.testBit e = false := by
  constructor
  · intro h
    have := congrArg (fun x => x.testBit e) h
    simp only [Nat.testBit_and, Nat.testBit_two_pow_self, Nat.zero_testBit, Bool.and_true] at this
    exact this
  · intro h
    apply Nat.eq_of_testBit_eq
    intro i
    rw [Nat.testBit_and, Nat.testBit_two_pow, Nat.zero_testBit]
    by_cases hi : e = i
    · subst hi; simp [h]
    · simp [hi]
theorem andn_zero {s l : Nat} (hs : s < 65536) (hl : l < 65536) : andnN s l = 0 ↔ ∀ e, s.testBit e = true → l.testBit e = true := by
  constructor
  · intro h e he
    have := congrArg (fun x => x.testBit e) h
    simp only [andnN_test (show s < 2 ^ 64 by omega) (show l < 2 ^ 64 by omega), Nat.zero_testBit, he, Bool.true_and] at this
    simpa using this
  · intro h
    apply Nat.eq_of_testBit_eq
    intro i
    rw [andnN_test (by omega) (by omega), Nat.zero_testBit]
    cases hi : s.testBit i with
    | false => rfl
    | true => rw [h i hi]; rfl
theorem andn_less {left s e : Nat} (hl : left < 65536) (hs : s < 65536) (h1 : left.testBit e = true) (h2 : s.testBit e = true) : andnN left s < left := by
  have hle := andnN_le left s
  have hne : andnN left s ≠ left := fun e' => by
    have := andnN_test (a := left) (b := s) (by omega) (by omega) e
    rw [e', h1, h2] at this
    cases this
  omega
theorem okF_less {once : Bool} {left s : Nat} (h0 : left ≠ 0) (h16 : left < 65536) (hs : s < 65536) (h : okF once left s = true) : andnN left s < left := by
  unfold okF at h
  rw [Bool.and_eq_true, Bool.not_eq_true', decide_eq_false_iff_not] at h
  obtain ⟨e, he, hb, -, hl⟩ := lowN_bit (n := 16) h0 h16 (by decide)
  rw [hl, and_low] at h
  exact andn_less h16 hs hb (by simpa using h.1)
theorem stepF_le (once : Bool) (rec : Nat → Nat) (left : Nat) : ∀ (l : List Nat) (b : Nat), l.foldl (stepF once rec left) b ≤ b
  | [], b => Nat.le_refl b
  | p :: l, b => by
    rw [List.foldl_cons]
    refine Nat.le_trans (stepF_le once rec left l _) ?_
    unfold stepF
    split <;> omega
theorem fewF_le (S : List Nat) (once : Bool) (f left : Nat) : fewF S once f left ≤ 17 := by
  cases f with
  | zero => exact Nat.le_refl 17
  | succ f =>
    rw [fewF]
    split
    · omega
    · exact stepF_le _ _ _ _ _
theorem fewN_le (S : List Nat) (once : Bool) (left : Nat) : fewN S once left ≤ 17 := fewF_le _ _ _ _
theorem foldl_congr_mem {α : Type} {f g : Nat → α → Nat} : ∀ (l : List α) (b : Nat), (∀ b p, p ∈ l → f b p = g b p) → l.foldl f b = l.foldl g b
  | [], _, _ => rfl
  | p :: l, b, h => by
    rw [List.foldl_cons, List.foldl_cons, h b p (List.mem_cons_self ..)]
    exact foldl_congr_mem l _ fun b q hq => h b q (List.mem_cons_of_mem _ hq)
theorem fewF_fuel {S : List Nat} (hS : ∀ s ∈ S, s < 65536) (once : Bool) : ∀ (f g left : Nat), left < 65536 → left < f → left < g → fewF S once f left = fewF S once g left
  | 0, _, _, _, h, _ => absurd h (Nat.not_lt_zero _)
  | _ + 1, 0, _, _, _, h => absurd h (Nat.not_lt_zero _)
  | f + 1, g + 1, left, h16, hf, hg => by
    rw [fewF, fewF]
    split
    · rfl
    · rename_i h0
      refine foldl_congr_mem _ _ fun b p hp => ?_
      unfold stepF
      split
      · rename_i h
        have := okF_less h0 h16 (hS p hp) h
        rw [fewF_fuel hS once f g _ (by omega) (by omega) (by omega)]
      · rfl
theorem fewN_eq {S : List Nat} (hS : ∀ s ∈ S, s < 65536) (once : Bool) {left : Nat} (h16 : left < 65536) : fewN S once left = if left = 0 then 0 else S.foldl (stepF once (fewN S once) left) 17 := by
  unfold fewN
  rw [fewF]
  split
  · rfl
  · rename_i h0
    refine foldl_congr_mem _ _ fun b p hp => ?_
    unfold stepF
    split
    · rename_i h
      have := okF_less h0 h16 (hS p hp) h
      rw [fewF_fuel hS once left (andnN left p + 1) _ (by omega) this (Nat.lt_succ_self _)]
    · rfl

/-! What the recurrence finds. -/
theorem fold_min {α : Type} (ok : α → Bool) (g : α → Nat) : ∀ (l : List α) (b : Nat), l.foldl (fun b p => if ok p = true then min b (1 + g p) else b) b ≤ b ∧
    (∀ p ∈ l, ok p = true → l.foldl (fun b p => if ok p = true then min b (1 + g p) else b) b ≤ 1 + g p) ∧
    (l.foldl (fun b p => if ok p = true then min b (1 + g p) else b) b = b ∨ ∃ p ∈ l, ok p = true ∧ l.foldl (fun b p => if ok p = true then min b (1 + g p) else b) b = 1 + g p)
  | [], b => ⟨Nat.le_refl _, fun _ h => (List.not_mem_nil h).elim, .inl rfl⟩
  | q :: l, b => by
    rw [List.foldl_cons]
    obtain ⟨h1, h2, h3⟩ := fold_min ok g l (if ok q = true then min b (1 + g q) else b)
    refine ⟨Nat.le_trans h1 (by split <;> omega), fun p hp hok => ?_, ?_⟩
    · rcases List.mem_cons.1 hp with rfl | hp
      · refine Nat.le_trans h1 ?_
        rw [if_pos hok]; omega
      · exact h2 p hp hok
    · rcases h3 with h3 | ⟨p, hp, hok, he⟩
      · rw [h3]
        by_cases hq : ok q = true
        · rw [if_pos hq]
          by_cases hb : b ≤ 1 + g q
          · exact .inl (by omega)
          · exact .inr ⟨q, List.mem_cons_self .., hq, by omega⟩
        · rw [if_neg hq]; exact .inl rfl
      · exact .inr ⟨p, List.mem_cons_of_mem _ hp, hok, he⟩
/-- A number that is made by the recurrence: over the things L, each a set; each once. -/
structure ExRec {α : Type} (L : List α) (st : α → Nat) (ok : α → Bool) (once : Bool) (D : Nat) (g : Nat → Nat) : Prop where
  low : ∀ p ∈ L, st p < 65536
  big : 16 ≤ D
  eq : ∀ left, left < 65536 → g left = if left = 0 then 0 else L.foldl (fun b p => if (!decide (st p &&& lowN left = 0) && (!once || decide (andnN (st p) left = 0)) && ok p) = true then min b (1 + g (andnN left (st p))) else b) D
def IsSet {α : Type} (L : List α) (st : α → Nat) (ok : α → Bool) (s : Nat) : Prop := ∃ p ∈ L, ok p = true ∧ st p = s
/-- The sets of l have together each of the entries, once (or at least once). -/
def Parts (once : Bool) (l : List Nat) (left : Nat) : Prop := ∀ e, left.testBit e = true ∧ 1 ≤ l.countP (fun s => s.testBit e) ∨ left.testBit e = false ∧ (once = true → l.countP (fun s => s.testBit e) = 0)
def OnceOk (once : Bool) (l : List Nat) : Prop := once = true → ∀ e, l.countP (fun s => s.testBit e) ≤ 1
theorem tested_le {l : List Nat} {s e : Nat} (h : s ∈ l) (ht : s.testBit e = true) : 1 ≤ l.countP (fun s => s.testBit e) := List.countP_pos_iff.2 ⟨s, h, ht⟩
theorem countP_erase_of {l : List Nat} {s : Nat} (h : s ∈ l) (p : Nat → Bool) : (l.erase s).countP p + (if p s = true then 1 else 0) = l.countP p := by
  have hp := List.perm_cons_erase h
  rw [hp.countP_eq p, List.countP_cons]
theorem ex_lower {α : Type} {L : List α} {st : α → Nat} {ok : α → Bool} {once : Bool} {D : Nat} {g : Nat → Nat} (hg : ExRec L st ok once D g) : ∀ (n : Nat) (left : Nat) (l : List Nat), l.length = n → left < 65536 → (∀ s ∈ l, IsSet L st ok s) → Parts once l left → OnceOk once l → g left ≤ n
  | n, left, l, hn, h16, hl, hp, ho => by
    by_cases h0 : left = 0
    · rw [hg.eq left h16, if_pos h0]; exact Nat.zero_le _
    · obtain ⟨e, he, hb, -, hlow⟩ := lowN_bit (n := 16) h0 h16 (by decide)
      have h1 : 1 ≤ l.countP (fun s => s.testBit e) := by
        rcases hp e with h | h
        · exact h.2
        · rw [hb] at h; cases h.1
      obtain ⟨s, hs, hse⟩ := List.countP_pos_iff.1 h1
      obtain ⟨p, hpL, hok, rfl⟩ := hl s hs
      have hs16 := hg.low p hpL
      cases n with
      | zero => rw [List.length_eq_zero_iff.1 hn] at hs; cases hs
      | succ n =>
        have hwithin : once = true → andnN (st p) left = 0 := fun h => (andn_zero hs16 h16).2 fun i hi => by
          rcases hp i with h' | h'
          · exact h'.1
          · have := tested_le hs hi
            have := h'.2 h
            omega
        have hcond : (!decide (st p &&& lowN left = 0) && (!once || decide (andnN (st p) left = 0)) && ok p) = true := by
          rw [hok, Bool.and_true, hlow, decide_eq_false (by rw [and_low]; simp [hse])]
          cases once with
          | false => rfl
          | true => simp [hwithin rfl]
        have hstep : g left ≤ 1 + g (andnN left (st p)) := by
          rw [hg.eq left h16, if_neg h0]
          exact (fold_min (fun p => !decide (st p &&& lowN left = 0) && (!once || decide (andnN (st p) left = 0)) && ok p) (fun p => g (andnN left (st p))) L D).2.1 p hpL hcond
        have hless := andn_less h16 hs16 hb hse
        have ih := ex_lower hg n (andnN left (st p)) (l.erase (st p)) (by rw [List.length_erase_of_mem hs]; omega) (by omega) (fun s hs' => hl s (List.mem_of_mem_erase hs')) (fun i => by
          have hc := countP_erase_of hs (fun s => s.testBit i)
          rw [andnN_test (by omega) (by omega)]
          cases hi : (st p).testBit i with
          | true =>
            right
            refine ⟨by simp, fun h => ?_⟩
            have := ho h i
            rw [hi, if_pos rfl] at hc
            omega
          | false =>
            rw [hi, if_neg (by simp), Nat.add_zero] at hc
            rw [hc]
            rcases hp i with h | h
            · exact .inl ⟨by simp [h.1], h.2⟩
            · exact .inr ⟨by simp [h.1], h.2⟩) (fun h i => by
          have := ho h i
          have hc := countP_erase_of hs (fun s => s.testBit i)
          omega)
        omega
/-- All single entries are sets. -/
theorem count_eq (e : Nat) : ∀ n, (List.range n).countP (fun i => decide (i = e)) = if e < n then 1 else 0
  | 0 => by simp
  | n + 1 => by
    rw [List.range_succ, List.countP_append, count_eq e n]
    by_cases h : n = e
    · subst h; simp
    · have h1 : e < n + 1 ↔ e < n := by omega
      simp [h, h1]
def singles (left : Nat) : List Nat := ((List.range 16).filter fun e => left.testBit e).map (2 ^ ·)
theorem singles_len (left : Nat) : (singles left).length ≤ 16 := by
  unfold singles
  rw [List.length_map]
  exact Nat.le_trans (List.length_filter_le _ _) (by simp)
theorem singles_count {left e : Nat} (h : left < 65536) : (singles left).countP (fun s => s.testBit e) = if left.testBit e = true then 1 else 0 := by
  unfold singles
  rw [List.countP_map, List.countP_filter]
  have : (List.range 16).countP (fun i => ((fun s : Nat => s.testBit e) ∘ fun x => 2 ^ x) i && left.testBit i) = (List.range 16).countP (fun i => decide (i = e) && left.testBit e) := by
    apply List.countP_congr
    intro i _
    simp only [Function.comp, Nat.testBit_two_pow, Bool.and_eq_true, decide_eq_true_eq]
    constructor
    · rintro ⟨rfl, h⟩; exact ⟨rfl, h⟩
    · rintro ⟨rfl, h⟩; exact ⟨rfl, h⟩
  rw [this]
  cases he : left.testBit e with
  | false => simp
  | true => simp only [Bool.and_true]; rw [count_eq, if_pos (bits_low h he)]; simp
theorem singles_parts {left : Nat} (h : left < 65536) (once : Bool) : Parts once (singles left) left ∧ OnceOk once (singles left) := by
  refine ⟨fun e => ?_, fun _ e => ?_⟩
  · rw [singles_count h]
    cases left.testBit e with
    | true => exact .inl ⟨rfl, by simp⟩
    | false => exact .inr ⟨rfl, by simp⟩
  · rw [singles_count h]; split <;> omega
theorem ex_upper {α : Type} {L : List α} {st : α → Nat} {ok : α → Bool} {once : Bool} {D : Nat} {g : Nat → Nat} (hg : ExRec L st ok once D g) : ∀ (n left : Nat), left < n → left < 65536 → (∀ e, left.testBit e = true → IsSet L st ok (2 ^ e)) → ∃ l, (∀ s ∈ l, IsSet L st ok s) ∧ Parts once l left ∧ OnceOk once l ∧ l.length = g left
  | 0, _, h, _, _ => absurd h (Nat.not_lt_zero _)
  | n + 1, left, hn, h16, hsg => by
    have hsl : ∀ s ∈ singles left, IsSet L st ok s := fun s hs => by
      unfold singles at hs
      obtain ⟨e, he, rfl⟩ := List.mem_map.1 hs
      exact hsg e (List.mem_filter.1 he).2
    obtain ⟨sp1, sp2⟩ := singles_parts h16 once
    have hlow := ex_lower hg _ left (singles left) rfl h16 hsl sp1 sp2
    have hlen := singles_len left
    by_cases h0 : left = 0
    · refine ⟨[], fun s h => (List.not_mem_nil h).elim, fun e => .inr ⟨by rw [h0]; exact Nat.zero_testBit e, fun _ => rfl⟩, fun _ e => Nat.zero_le _, ?_⟩
      rw [hg.eq left h16, if_pos h0]; rfl
    · have hf := (fold_min (fun p => !decide (st p &&& lowN left = 0) && (!once || decide (andnN (st p) left = 0)) && ok p) (fun p => g (andnN left (st p))) L D).2.2
      have heq := hg.eq left h16
      rw [if_neg h0] at heq
      rw [← heq] at hf
      rcases hf with hD | ⟨p, hpL, hcond, he⟩
      · have := hg.big
        exact ⟨singles left, hsl, sp1, sp2, by omega⟩
      · rw [Bool.and_eq_true, Bool.and_eq_true, Bool.not_eq_true', decide_eq_false_iff_not] at hcond
        obtain ⟨⟨c1, c2⟩, c3⟩ := hcond
        obtain ⟨b, hb16, hb, -, hlw⟩ := lowN_bit (n := 16) h0 h16 (by decide)
        rw [hlw, and_low] at c1
        have hs16 := hg.low p hpL
        have hless := andn_less h16 hs16 hb (by simpa using c1)
        obtain ⟨l, k1, k2, k3, k4⟩ := ex_upper hg n (andnN left (st p)) (by omega) (by omega) (fun e he => hsg e (by
          rw [andnN_test (by omega) (by omega)] at he
          simp at he
          exact he.1))
        refine ⟨st p :: l, fun s hs => ?_, fun e => ?_, fun ho e => ?_, by rw [List.length_cons, k4, he, Nat.add_comm]⟩
        · rcases List.mem_cons.1 hs with rfl | hs
          · exact ⟨p, hpL, c3, rfl⟩
          · exact k1 s hs
        · rw [List.countP_cons]
          have hk := k2 e
          rw [andnN_test (by omega) (by omega)] at hk
          cases hi : (st p).testBit e with
          | true =>
            cases hle : left.testBit e with
            | true => exact .inl ⟨rfl, by simp⟩
            | false =>
              refine .inr ⟨rfl, fun ho => ?_⟩
              rw [ho, Bool.not_true, Bool.false_or, decide_eq_true_eq, andn_zero hs16 h16] at c2
              rw [c2 e hi] at hle
              cases hle
          | false =>
            rw [hi] at hk
            simpa using hk
        · rw [List.countP_cons]
          have hk := k2 e
          have hk3 := k3 ho e
          rw [andnN_test (by omega) (by omega)] at hk
          cases hi : (st p).testBit e with
          | true =>
            rw [hi] at hk
            simp only [Bool.not_true, Bool.and_false] at hk
            rcases hk with h | h
            · cases h.1
            · rw [h.2 ho]; simp
          | false => simpa using hk3
theorem fewN_rec {S : List Nat} (hS : ∀ s ∈ S, s < 65536) (once : Bool) : ExRec S id (fun _ => true) once 17 (fewN S once) :=
  ⟨hS, by decide, fun left h16 => by
    rw [fewN_eq hS once h16]
    split
    · rfl
    · refine foldl_congr_mem _ _ fun b p _ => ?_
      unfold stepF okF
      simp only [Bool.and_true, id]⟩
theorem leastN_rec (t : List (List Int)) : ExRec (allRects t) (fun p => bitsN p.1 p.2) (fun p => T.clear t p.1 p.2) true 16 (leastN t) :=
  ⟨fun p _ => bitsN_lt _ _, by decide, fun left h16 => by
    rw [leastN_eq h16]
    split
    · rfl
    · refine foldl_congr_mem _ _ fun b p _ => ?_
      unfold stepL okL
      simp only [Bool.not_true, Bool.false_or]⟩
end Go.Proofs.Ytaapamoglgpocaa
