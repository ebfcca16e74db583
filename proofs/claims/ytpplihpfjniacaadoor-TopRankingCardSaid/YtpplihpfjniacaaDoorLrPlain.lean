/- Plain: classes of concepts; questions and dimension. No program in sight. -/
import Derived.Test.YtpplihpfjniacaaDoorValid
import Derived.Laws.BitsLemmas
namespace Go.Proofs.YtpplihpfjniacaaDoor
open Go.RowKit
theorem wraps_i64' (n : Int) (h0 : 0 ≤ n) (h1 : n < 2 ^ 63) : IntKind.i64.wrap n = n := by rw [IntKind.wrap_i64]; omega
theorem land_nat (a b : Nat) (ha : a < 2 ^ 63) (hb : b < 2 ^ 63) : bits .and .i64 (a : Int) (b : Int) = ((a &&& b : Nat) : Int) := (bits_nat .i64 63 (by decide) wraps_i64' a b ha hb).1
theorem lor_nat (a b : Nat) (ha : a < 2 ^ 63) (hb : b < 2 ^ 63) : bits .or .i64 (a : Int) (b : Int) = ((a ||| b : Nat) : Int) := (bits_nat .i64 63 (by decide) wraps_i64' a b ha hb).2
def andnN (a b : Nat) : Nat := a &&& (2 ^ 64 - (b + 1))
theorem andnN_test {a b : Nat} (ha : a < 2 ^ 64) (hb : b < 2 ^ 64) (i : Nat) : (andnN a b).testBit i = (a.testBit i && !b.testBit i) := by
  unfold andnN
  rw [Nat.testBit_and, Nat.testBit_two_pow_sub_succ hb]
  cases h : a.testBit i with
  | false => rfl
  | true =>
    have : i < 64 := Nat.lt_of_not_le fun hi => by
      rw [Nat.testBit_lt_two_pow (Nat.lt_of_lt_of_le ha (Nat.pow_le_pow_right (by decide) hi))] at h
      cases h
    simp [this]
theorem andnN_le (a b : Nat) : andnN a b ≤ a := Nat.and_le_left
theorem and_not {a b : Nat} (ha : a < 65536) (hb : b < 65536) : bits .andNot .i64 (a : Int) (b : Int) = (andnN a b : Int) := by
  have e1 : (BitVec.ofInt 64 (a : Int)).toNat = a := by rw [BitVec.toNat_ofInt]; omega
  have e2 : (~~~ BitVec.ofInt 64 (b : Int)).toNat = 2 ^ 64 - (b + 1) := by rw [BitVec.toNat_not, BitVec.toNat_ofInt]; omega
  have h1 : andnN a b ≤ a := andnN_le _ _
  have e3 : (BitVec.ofInt 64 (a : Int) &&& ~~~ BitVec.ofInt 64 (b : Int)).toNat = andnN a b := by
    rw [BitVec.toNat_and, e1, e2]; rfl
  show IntKind.i64.wrap ((BitVec.ofInt 64 (a : Int) &&& ~~~ BitVec.ofInt 64 (b : Int)).toNat : Int) = _
  rw [e3, IntKind.wrap_i64]
  omega
namespace Lr

/-- The concepts, up to one, that have a point. -/
def wb (c : Nat → Nat) (x : Nat) : Nat → Nat
  | 0 => 0
  | i + 1 => if (c i).testBit x = true then wb c x i ||| 2 ^ i else wb c x i
theorem wb_test (c : Nat → Nat) (x : Nat) : ∀ m i, (wb c x m).testBit i = (decide (i < m) && (c i).testBit x)
  | 0, i => by simp [wb]
  | m + 1, i => by
    unfold wb
    split
    · rename_i h
      rw [Nat.testBit_or, wb_test c x m i, Nat.testBit_two_pow]
      by_cases e : m = i
      · subst e; simp [h]
      · simp [e, show (i < m + 1) = (i < m) by simp; omega]
    · rename_i h
      rw [wb_test c x m i]
      by_cases e : m = i
      · subst e; simp [h]
      · simp [show (i < m + 1) = (i < m) by simp; omega]
theorem wb_lt (c : Nat → Nat) (x : Nat) : ∀ m, wb c x m < 2 ^ m
  | 0 => by simp [wb]
  | m + 1 => by
    have h := wb_lt c x m
    have h2 : (2 : Nat) ^ m < 2 ^ (m + 1) := Nat.pow_lt_pow_right (by decide) (by omega)
    unfold wb
    split
    · exact Nat.or_lt_two_pow (by omega) h2
    · omega
def withN (c : Nat → Nat) (m set x : Nat) : Nat := wb c x m &&& set
theorem with_le (c : Nat → Nat) (m set x : Nat) : withN c m set x ≤ set := Nat.and_le_right
theorem with_test {c : Nat → Nat} {m set x : Nat} (hs : set < 2 ^ m) (i : Nat) : (withN c m set x).testBit i = (set.testBit i && (c i).testBit x) := by
  unfold withN
  rw [Nat.testBit_and, wb_test]
  cases h : set.testBit i with
  | false => simp
  | true =>
    have : i < m := Nat.lt_of_not_le fun hi => by
      rw [Nat.testBit_lt_two_pow (Nat.lt_of_lt_of_le hs (Nat.pow_le_pow_right (by decide) hi))] at h
      cases h
    simp [this]
theorem rest_test {c : Nat → Nat} {m set x : Nat} (hm : m ≤ 16) (hs : set < 2 ^ m) (i : Nat) : (andnN set (withN c m set x)).testBit i = (set.testBit i && !(c i).testBit x) := by
  have h1 : (2 : Nat) ^ m ≤ 2 ^ 16 := Nat.pow_le_pow_right (by decide) hm
  have h2 := with_le c m set x
  rw [andnN_test (by omega) (by omega), with_test hs]
  cases set.testBit i <;> cases (c i).testBit x <;> rfl
/-- How many there are. -/
def cnt (s : Nat) : Nat → Nat
  | 0 => 0
  | n + 1 => cnt s n + if s.testBit n = true then 1 else 0
theorem cnt_le (s : Nat) : ∀ n, cnt s n ≤ n
  | 0 => Nat.le_refl _
  | n + 1 => by
    have := cnt_le s n
    unfold cnt
    split <;> omega
theorem cnt_split {s a b : Nat} : ∀ n, (∀ i, i < n → (s.testBit i = true ↔ a.testBit i = true ∨ b.testBit i = true) ∧ ¬ (a.testBit i = true ∧ b.testBit i = true)) → cnt s n = cnt a n + cnt b n
  | 0, _ => rfl
  | n + 1, h => by
    have ih := cnt_split n fun i hi => h i (by omega)
    obtain ⟨h1, h2⟩ := h n (by omega)
    unfold cnt
    rw [ih]
    cases ha : a.testBit n <;> cases hb : b.testBit n <;> cases hs : s.testBit n <;> simp [ha, hb, hs] at h1 h2 ⊢ <;> omega
theorem cnt_zero {s : Nat} : ∀ {n}, cnt s n = 0 → ∀ i, i < n → s.testBit i = false
  | n + 1, h, i, hi => by
    unfold cnt at h
    rcases (show i < n ∨ i = n by omega) with h' | rfl
    · exact cnt_zero (by omega) i h'
    · cases hs : s.testBit i with
      | false => rfl
      | true => rw [hs] at h; simp at h
theorem zero_of {s m : Nat} (hs : s < 2 ^ m) (h : ∀ i, i < m → s.testBit i = false) : s = 0 := by
  apply Nat.eq_of_testBit_eq
  intro i
  rw [Nat.zero_testBit]
  by_cases hi : i < m
  · exact h i hi
  · exact Nat.testBit_lt_two_pow (Nat.lt_of_lt_of_le hs (Nat.pow_le_pow_right (by decide) (by omega)))
theorem cnt_pos {s m : Nat} (hs : s < 2 ^ m) (h : s ≠ 0) : 1 ≤ cnt s m := by
  rcases Nat.eq_zero_or_pos (cnt s m) with h0 | h0
  · exact absurd (zero_of hs (cnt_zero h0)) h
  · exact h0
theorem parts {c : Nat → Nat} {m set x : Nat} (hm : m ≤ 16) (hs : set < 2 ^ m) : cnt set m = cnt (withN c m set x) m + cnt (andnN set (withN c m set x)) m := by
  refine cnt_split m fun i _ => ?_
  rw [with_test hs, rest_test hm hs]
  cases set.testBit i <;> cases (c i).testBit x <;> simp
theorem rest_lt {c : Nat → Nat} {m set x : Nat} (hm : m ≤ 16) (hs : set < 2 ^ m) (h : withN c m set x ≠ 0) : andnN set (withN c m set x) < set := by
  refine Nat.lt_of_le_of_ne (andnN_le _ _) fun e => h ?_
  have hw := Nat.lt_of_le_of_lt (with_le c m set x) hs
  refine zero_of hw fun i _ => ?_
  have h1 := rest_test (c := c) (x := x) hm hs i
  have h2 := with_test (c := c) (x := x) hs i
  rw [e] at h1
  rw [h2]
  cases h3 : set.testBit i with
  | false => rfl
  | true =>
    rw [h3] at h1
    cases h4 : (c i).testBit x with
    | false => rfl
    | true => rw [h4] at h1; cases h1
theorem rest_zero {c : Nat → Nat} {m set x : Nat} (hm : m ≤ 16) (hs : set < 2 ^ m) : andnN set (withN c m set x) = 0 ↔ withN c m set x = set := by
  have h1 : (2 : Nat) ^ m ≤ 2 ^ 16 := Nat.pow_le_pow_right (by decide) hm
  constructor
  · intro h
    apply Nat.eq_of_testBit_eq
    intro i
    have h1 := rest_test (c := c) (x := x) hm hs i
    rw [h, Nat.zero_testBit] at h1
    rw [with_test hs]
    revert h1
    cases set.testBit i <;> cases (c i).testBit x <;> simp
  · intro h
    rw [h]
    apply Nat.eq_of_testBit_eq
    intro i
    rw [andnN_test (by omega) (by omega), Nat.zero_testBit]
    cases set.testBit i <;> rfl

/-- The least number of questions, over the points below one. -/
def bestA (c : Nat → Nat) (m p : Nat) (rec : Nat → Nat) (set : Nat) : Nat → Nat
  | 0 => p
  | x + 1 => if withN c m set x ≠ 0 ∧ withN c m set x ≠ set then min (bestA c m p rec set x) (1 + max (rec (withN c m set x)) (rec (andnN set (withN c m set x)))) else bestA c m p rec set x
theorem bestA_le (c : Nat → Nat) (m p : Nat) (rec : Nat → Nat) (set : Nat) : ∀ x, bestA c m p rec set x ≤ p
  | 0 => Nat.le_refl _
  | x + 1 => by
    have := bestA_le c m p rec set x
    unfold bestA
    split <;> omega
theorem bestA_cong {c : Nat → Nat} {m p : Nat} {r r' : Nat → Nat} {set : Nat} (hm : m ≤ 16) (hs : set < 2 ^ m) (h : ∀ s, s < set → r s = r' s) : ∀ x, bestA c m p r set x = bestA c m p r' set x
  | 0 => rfl
  | x + 1 => by
    unfold bestA
    rw [bestA_cong hm hs h x]
    split
    · rename_i hc
      rw [h _ (Nat.lt_of_le_of_ne (with_le c m set x) hc.2), h _ (rest_lt hm hs hc.1)]
    · rfl
def askF (c : Nat → Nat) (m p : Nat) : Nat → Nat → Nat
  | 0, _ => 0
  | f + 1, set => if cnt set m = 1 then 0 else bestA c m p (askF c m p f) set p
theorem askF_fuel {c : Nat → Nat} {m p : Nat} (hm : m ≤ 16) : ∀ f g set, set < 2 ^ m → set < f → set < g → askF c m p f set = askF c m p g set
  | 0, _, _, _, h, _ => by omega
  | _ + 1, 0, _, _, _, h => by omega
  | f + 1, g + 1, set, hs, hf, hg => by
    unfold askF
    split
    · rfl
    · exact bestA_cong hm hs (fun s h => askF_fuel hm f g s (by omega) (by omega) (by omega)) p
def askN (c : Nat → Nat) (m p set : Nat) : Nat := askF c m p (set + 1) set
theorem askN_eq {c : Nat → Nat} {m p set : Nat} (hm : m ≤ 16) (hs : set < 2 ^ m) : askN c m p set = if cnt set m = 1 then 0 else bestA c m p (askN c m p) set p := by
  unfold askN
  rw [askF]
  split
  · rfl
  · exact bestA_cong hm hs (fun s h => askF_fuel hm _ _ s (by omega) (by omega) (by omega)) p
theorem askN_le {c : Nat → Nat} {m p set : Nat} (hm : m ≤ 16) (hs : set < 2 ^ m) : askN c m p set ≤ p := by
  rw [askN_eq hm hs]
  split
  · omega
  · exact bestA_le _ _ _ _ _ _
theorem two_max {a b k l : Nat} (h1 : a ≤ 2 ^ k) (h2 : b ≤ 2 ^ l) : a + b ≤ 2 ^ (1 + max k l) := by
  have h3 : (2 : Nat) ^ k ≤ 2 ^ max k l := Nat.pow_le_pow_right (by decide) (by omega)
  have h4 : (2 : Nat) ^ l ≤ 2 ^ max k l := Nat.pow_le_pow_right (by decide) (by omega)
  rw [Nat.add_comm 1, Nat.pow_succ]
  omega
theorem bestA_cnt {c : Nat → Nat} {m p : Nat} {r : Nat → Nat} {set : Nat} (hm : m ≤ 16) (hs : set < 2 ^ m) (hp : m ≤ 2 ^ p) (h : ∀ s, s < set → cnt s m ≤ 2 ^ r s) : ∀ x, cnt set m ≤ 2 ^ bestA c m p r set x
  | 0 => Nat.le_trans (cnt_le set m) hp
  | x + 1 => by
    have ih := bestA_cnt (c := c) hm hs hp h x
    unfold bestA
    split
    · rename_i hc
      have h1 := two_max (h _ (Nat.lt_of_le_of_ne (with_le c m set x) hc.2)) (h _ (rest_lt hm hs hc.1))
      rw [← parts hm hs] at h1
      rcases Nat.le_total (bestA c m p r set x) (1 + max (r (withN c m set x)) (r (andnN set (withN c m set x)))) with hle | hle
      · rw [Nat.min_eq_left hle]; exact ih
      · rw [Nat.min_eq_right hle]; exact h1
    · exact ih
/-- So many questions tell no more concepts apart. -/
theorem cnt_ask {c : Nat → Nat} {m p : Nat} (hm : m ≤ 16) (hp : m ≤ 2 ^ p) : ∀ f set, set < f → set < 2 ^ m → cnt set m ≤ 2 ^ askN c m p set
  | 0, _, h, _ => by omega
  | f + 1, set, hf, hs => by
    rw [askN_eq hm hs]
    split
    · rename_i h; rw [h]; exact Nat.le_refl _
    · exact bestA_cnt hm hs hp (fun s h => cnt_ask hm hp f s (by omega) (by omega)) p

/-- The greatest dimension, over the points below one. -/
def bestD (c : Nat → Nat) (m : Nat) (rec : Nat → Nat) (set : Nat) : Nat → Nat
  | 0 => 0
  | x + 1 => if andnN set (withN c m set x) ≠ 0 ∧ withN c m set x ≠ 0 then max (bestD c m rec set x) (1 + min (rec (andnN set (withN c m set x))) (rec (withN c m set x))) else bestD c m rec set x
theorem bestD_cong {c : Nat → Nat} {m : Nat} {r r' : Nat → Nat} {set : Nat} (hm : m ≤ 16) (hs : set < 2 ^ m) (h : ∀ s, s < set → r s = r' s) : ∀ x, bestD c m r set x = bestD c m r' set x
  | 0 => rfl
  | x + 1 => by
    unfold bestD
    rw [bestD_cong hm hs h x]
    split
    · rename_i hc
      rw [h _ (Nat.lt_of_le_of_ne (with_le c m set x) fun e => hc.1 ((rest_zero hm hs).2 e)), h _ (rest_lt hm hs hc.2)]
    · rfl
def dimF (c : Nat → Nat) (m p : Nat) : Nat → Nat → Nat
  | 0, _ => 0
  | f + 1, set => bestD c m (dimF c m p f) set p
theorem dimF_fuel {c : Nat → Nat} {m p : Nat} (hm : m ≤ 16) : ∀ f g set, set < 2 ^ m → set < f → set < g → dimF c m p f set = dimF c m p g set
  | 0, _, _, _, h, _ => by omega
  | _ + 1, 0, _, _, _, h => by omega
  | f + 1, g + 1, set, hs, hf, hg => by
    unfold dimF
    exact bestD_cong hm hs (fun s h => dimF_fuel hm f g s (by omega) (by omega) (by omega)) p
def dimN (c : Nat → Nat) (m p set : Nat) : Nat := dimF c m p (set + 1) set
theorem dimN_eq {c : Nat → Nat} {m p set : Nat} (hm : m ≤ 16) (hs : set < 2 ^ m) : dimN c m p set = bestD c m (dimN c m p) set p := by
  unfold dimN
  rw [dimF]
  exact bestD_cong hm hs (fun s h => dimF_fuel hm _ _ s (by omega) (by omega) (by omega)) p
theorem two_min {a b k l : Nat} (h1 : 2 ^ k ≤ a) (h2 : 2 ^ l ≤ b) : 2 ^ (1 + min k l) ≤ a + b := by
  have h3 : (2 : Nat) ^ min k l ≤ 2 ^ k := Nat.pow_le_pow_right (by decide) (by omega)
  have h4 : (2 : Nat) ^ min k l ≤ 2 ^ l := Nat.pow_le_pow_right (by decide) (by omega)
  rw [Nat.add_comm 1, Nat.pow_succ]
  omega
theorem bestD_cnt {c : Nat → Nat} {m : Nat} {r : Nat → Nat} {set : Nat} (hm : m ≤ 16) (hs : set < 2 ^ m) (h0 : set ≠ 0) (h : ∀ s, s < set → s ≠ 0 → 2 ^ r s ≤ cnt s m) : ∀ x, 2 ^ bestD c m r set x ≤ cnt set m
  | 0 => cnt_pos hs h0
  | x + 1 => by
    have ih := bestD_cnt (c := c) hm hs h0 h x
    unfold bestD
    split
    · rename_i hc
      have h1 := two_min (h _ (rest_lt hm hs hc.2) hc.1) (h _ (Nat.lt_of_le_of_ne (with_le c m set x) fun e => hc.1 ((rest_zero hm hs).2 e)) hc.2)
      rw [Nat.add_comm (cnt _ _), ← parts hm hs] at h1
      rcases Nat.le_total (bestD c m r set x) (1 + min (r (andnN set (withN c m set x))) (r (withN c m set x))) with hle | hle
      · rw [Nat.max_eq_right hle]; exact h1
      · rw [Nat.max_eq_left hle]; exact ih
    · exact ih
/-- A dimension wants so many concepts. -/
theorem cnt_dim {c : Nat → Nat} {m p : Nat} (hm : m ≤ 16) : ∀ f set, set < f → set < 2 ^ m → set ≠ 0 → 2 ^ dimN c m p set ≤ cnt set m
  | 0, _, h, _, _ => by omega
  | f + 1, set, hf, hs, h0 => by
    rw [dimN_eq hm hs]
    exact bestD_cnt hm hs h0 (fun s h hn => cnt_dim hm f s (by omega) (by omega) hn) p
theorem dim_ask {c : Nat → Nat} {m p set : Nat} (hm : m ≤ 16) (hp : m ≤ 2 ^ p) (hs : set < 2 ^ m) (h0 : set ≠ 0) : dimN c m p set ≤ askN c m p set := by
  have h1 := cnt_dim (c := c) (p := p) hm _ set (Nat.lt_succ_self _) hs h0
  have h2 := cnt_ask (c := c) hm hp _ set (Nat.lt_succ_self _) hs
  exact (Nat.pow_le_pow_iff_right (by decide)).1 (Nat.le_trans h1 h2)
theorem bestD_le {c : Nat → Nat} {m : Nat} {r : Nat → Nat} {set x : Nat} (h : andnN set (withN c m set x) ≠ 0 ∧ withN c m set x ≠ 0) : ∀ p, x < p → 1 + min (r (andnN set (withN c m set x))) (r (withN c m set x)) ≤ bestD c m r set p
  | p + 1, hx => by
    unfold bestD
    rcases (show x < p ∨ x = p by omega) with h' | rfl
    · have := bestD_le (r := r) h p h'
      split <;> omega
    · rw [if_pos h]; omega
/-- All of a cube of concepts: some points free, the others fixed. -/
def Cube (c : Nat → Nat) (m set T R : Nat) : Prop := T &&& R = 0 ∧ ∀ U, U &&& T = U → ∃ i, i < m ∧ set.testBit i = true ∧ c i = U ||| R
theorem cube_dim {c : Nat → Nat} {m p : Nat} (hm : m ≤ 16) : ∀ k T R set, set < 2 ^ m → T < 2 ^ p → cnt T p = k → Cube c m set T R → k ≤ dimN c m p set
  | 0, _, _, _, _, _, _, _ => Nat.zero_le _
  | k + 1, T, R, set, hs, hT, hk, hC => by
    have hx : ∃ x, x < p ∧ T.testBit x = true := Classical.byContradiction fun hn => by
      have : T = 0 := zero_of hT fun i hi => by
        cases h : T.testBit i with
        | false => rfl
        | true => exact absurd ⟨i, hi, h⟩ hn
      subst this
      have : ∀ n, cnt 0 n = 0 := fun n => by
        induction n with
        | zero => rfl
        | succ n ih => simp [cnt, ih]
      rw [this] at hk
      cases hk
    obtain ⟨x, hxp, hTx⟩ := hx
    have hRx : R.testBit x = false := by
      have := congrArg (fun n => n.testBit x) hC.1
      simp only [Nat.testBit_and, hTx, Nat.zero_testBit, Bool.true_and] at this
      exact this
    obtain ⟨T', hT'⟩ : ∃ T', T' = T ^^^ 2 ^ x := ⟨_, rfl⟩
    have hb : ∀ i, T'.testBit i = (T.testBit i && decide (i ≠ x)) := fun i => by
      rw [hT', Nat.testBit_xor, Nat.testBit_two_pow]
      by_cases e : x = i
      · subst e; simp [hTx]
      · simp [e, show i ≠ x from fun h => e h.symm]
    have hT2 : T' < 2 ^ p := by rw [hT']; exact Nat.xor_lt_two_pow hT (Nat.pow_lt_pow_right (by decide) hxp)
    have hcT : cnt T' p = k := by
      have h1 := cnt_split (s := T) (a := T') (b := 2 ^ x) p fun i _ => by
        rw [hb, Nat.testBit_two_pow]
        by_cases e : x = i
        · subst e; simp [hTx]
        · simp [e, show i ≠ x from fun h => e h.symm]
      have h2 : ∀ n, x < n → cnt (2 ^ x) n = 1 := fun n => by
        induction n with
        | zero => intro h; omega
        | succ n ih =>
          intro h
          unfold cnt
          rw [Nat.testBit_two_pow]
          rcases (show x < n ∨ x = n by omega) with h' | rfl
          · rw [ih h', if_neg (by simp; omega)]
          · have h3 : ∀ q, q ≤ x → cnt (2 ^ x) q = 0 := fun q => by
              induction q with
              | zero => intro _; rfl
              | succ q ih => intro hq; unfold cnt; rw [ih (by omega), Nat.testBit_two_pow, if_neg (by simp; omega)]
            rw [h3 x (Nat.le_refl _)]
            simp
      rw [h2 p hxp, hk] at h1
      omega
    have sub : ∀ U, U &&& T' = U → U &&& T = U ∧ U.testBit x = false := fun U hU => by
      have hbit : ∀ i, U.testBit i = (U.testBit i && (T.testBit i && decide (i ≠ x))) := fun i => by
        have := congrArg (fun n => n.testBit i) hU
        simp only [Nat.testBit_and, hb] at this
        exact this.symm
      constructor
      · apply Nat.eq_of_testBit_eq
        intro i
        rw [Nat.testBit_and]
        have := hbit i
        revert this
        cases U.testBit i <;> cases T.testBit i <;> simp
      · have := hbit x
        simpa using this
    have hT0 : T' &&& R = 0 := by
      apply Nat.eq_of_testBit_eq
      intro i
      have := congrArg (fun n => n.testBit i) hC.1
      simp only [Nat.testBit_and, Nat.zero_testBit] at this
      rw [Nat.testBit_and, hb, Nat.zero_testBit]
      revert this
      cases T.testBit i <;> cases R.testBit i <;> simp
    have hA : Cube c m (andnN set (withN c m set x)) T' R := ⟨hT0, fun U hU => by
      obtain ⟨u1, u2⟩ := sub U hU
      obtain ⟨i, h1, h2, h3⟩ := hC.2 U u1
      refine ⟨i, h1, ?_, h3⟩
      rw [rest_test hm hs, h2, h3, Nat.testBit_or, u2, hRx]
      rfl⟩
    have hB : Cube c m (withN c m set x) T' (R ||| 2 ^ x) := ⟨by
      apply Nat.eq_of_testBit_eq
      intro i
      have := congrArg (fun n => n.testBit i) hT0
      simp only [Nat.testBit_and, Nat.zero_testBit] at this
      rw [Nat.testBit_and, Nat.testBit_or, Nat.testBit_two_pow, Nat.zero_testBit]
      by_cases e : x = i
      · subst e; rw [hb]; simp
      · simp only [e, decide_false, Bool.or_false]; exact this, fun U hU => by
      obtain ⟨u1, u2⟩ := sub U hU
      have hu : (U ||| 2 ^ x) &&& T = U ||| 2 ^ x := by
        apply Nat.eq_of_testBit_eq
        intro i
        have := congrArg (fun n => n.testBit i) u1
        simp only [Nat.testBit_and] at this
        rw [Nat.testBit_and, Nat.testBit_or, Nat.testBit_two_pow]
        by_cases e : x = i
        · subst e; simp [hTx]
        · simp only [e, decide_false, Bool.or_false]; exact this
      obtain ⟨i, h1, h2, h3⟩ := hC.2 _ hu
      refine ⟨i, h1, ?_, by rw [h3, Nat.or_assoc, Nat.or_comm (2 ^ x)]⟩
      rw [with_test hs, h2, h3, Nat.testBit_or, Nat.testBit_or, Nat.testBit_two_pow_self]
      simp⟩
    have ne : ∀ {s T R}, Cube c m s T R → s ≠ 0 := fun hc e => by
      obtain ⟨i, _, h, _⟩ := hc.2 0 (Nat.zero_and _)
      rw [e, Nat.zero_testBit] at h
      cases h
    have hw := Nat.lt_of_le_of_lt (with_le c m set x) hs
    have hr := Nat.lt_of_le_of_lt (andnN_le set (withN c m set x)) hs
    have i1 := cube_dim hm k T' R _ hr hT2 hcT hA
    have i2 := cube_dim hm k T' (R ||| 2 ^ x) _ hw hT2 hcT hB
    have := bestD_le (r := dimN c m p) ⟨ne hA, ne hB⟩ p hxp
    rw [dimN_eq hm hs]
    omega
end Lr
end Go.Proofs.YtpplihpfjniacaaDoor
