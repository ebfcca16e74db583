/- Plain: what is said in a plan. -/
import Derived.Test.YtaapamoglgpocaaNodes2
import Derived.Test.YtaapamoglgpocaaLen3
namespace Go.Proofs.Ytaapamoglgpocaa

/-- What is said at a node, and where that leads. -/
def sayN (x : Nd) (row col : Nat) : Nat := x.set.toNat / 2 ^ (if x.who = 0 then row else col) % 2
def nextN (x : Nd) (s : Nat) : Nat := if s = 0 then x.no.toNat else x.yes.toNat
def runF (ps : List Nd) (row col : Nat) : Nat → Nat → List Int
  | 0, _ => []
  | f + 1, i => if (ps.getD i nd0).leaf = true then [(ps.getD i nd0).val] else (sayN (ps.getD i nd0) row col : Int) :: runF ps row col f (nextN (ps.getD i nd0) (sayN (ps.getD i nd0) row col))
def runM (ps : List Nd) (row col : Nat) : List Int := runF ps row col ps.length 0
theorem next_gt {ps : List Nd} (h : isPl ps = true) {i : Nat} (hi : i < ps.length) (hl : (ps.getD i nd0).leaf = false) (s : Nat) : i < nextN (ps.getD i nd0) s ∧ nextN (ps.getD i nd0) s < ps.length := by
  have := (ndOk_node hl).1 ((isPl_iff.1 h).2.2 i hi)
  unfold nextN
  split <;> omega
theorem runF_fuel {ps : List Nd} (h : isPl ps = true) (row col : Nat) : ∀ (f g i : Nat), i < ps.length → ps.length ≤ f + i → ps.length ≤ g + i → runF ps row col f i = runF ps row col g i
  | 0, _, _, h1, h2, _ => by omega
  | _ + 1, 0, _, h1, _, h3 => by omega
  | f + 1, g + 1, i, h1, h2, h3 => by
    unfold runF
    cases hl : (ps.getD i nd0).leaf with
    | true => rfl
    | false =>
      obtain ⟨n1, n2⟩ := next_gt h h1 hl (sayN (ps.getD i nd0) row col)
      rw [runF_fuel h row col f g _ n2 (by omega) (by omega)]
/-- What is said from a node on. -/
def runA (ps : List Nd) (row col i : Nat) : List Int := runF ps row col (ps.length - i) i
theorem runA_start (ps : List Nd) (row col : Nat) : runM ps row col = runA ps row col 0 := rfl
theorem runA_leaf {ps : List Nd} {row col i : Nat} (hi : i < ps.length) (hl : (ps.getD i nd0).leaf = true) : runA ps row col i = [(ps.getD i nd0).val] := by
  unfold runA
  rw [show ps.length - i = (ps.length - i - 1) + 1 by omega]
  unfold runF
  rw [if_pos hl]
theorem runA_node {ps : List Nd} (h : isPl ps = true) {row col i : Nat} (hi : i < ps.length) (hl : (ps.getD i nd0).leaf = false) : runA ps row col i = (sayN (ps.getD i nd0) row col : Int) :: runA ps row col (nextN (ps.getD i nd0) (sayN (ps.getD i nd0) row col)) := by
  obtain ⟨n1, n2⟩ := next_gt h hi hl (sayN (ps.getD i nd0) row col)
  unfold runA
  rw [show ps.length - i = (ps.length - i - 1) + 1 by omega]
  conv => lhs; unfold runF
  rw [hl, if_neg (by decide), runF_fuel h row col (ps.length - i - 1) (ps.length - nextN (ps.getD i nd0) (sayN (ps.getD i nd0) row col)) _ n2 (by omega) (by omega)]
end Go.Proofs.Ytaapamoglgpocaa

/- Plain: the plans that a debate lays: they are plans, they are right, and they have the least length. -/
namespace Go.Proofs.Ytaapamoglgpocaa

def leafN (v : Int) : Nd := ⟨true, v, 0, 0, 0, 0⟩
def forkN (who s no yes : Nat) : Nd := ⟨false, 0, who, s, no, yes⟩
/-- The two parts of a rectangle. -/
def rOf (r who s : Nat) (b : Bool) : Nat := if who = 0 then (if b = true then s else r - s) else r
def cOf (c who s : Nat) (b : Bool) : Nat := if who = 0 then c else (if b = true then s else c - s)
/-- The nodes for a rectangle, from the index k on. -/
inductive Pl (t : List (List Int)) : Nat → Nat → Nat → List Nd → Prop
  | leaf {r c k : Nat} {v : Int} (h : T.clrM t r c = some v) : Pl t r c k [leafN v]
  | fork {r c k who s : Nat} {ys zs : List Nd} (hcl : T.clear t r c = false) (hg : GoodS t r c who s) (h0 : Pl t (rOf r who s false) (cOf c who s false) (k + 1) ys) (h1 : Pl t (rOf r who s true) (cOf c who s true) (k + 1 + ys.length) zs) :
      Pl t r c k (forkN who s (k + 1) (k + 1 + ys.length) :: (ys ++ zs))

/-- A rectangle that is not empty, within the table. -/
def Within (t : List (List Int)) (r c : Nat) : Prop := r ≠ 0 ∧ c ≠ 0 ∧ r < 2 ^ t.length ∧ c < 2 ^ T.cols t ∧ r < 16 ∧ c < 16
theorem Within.part {t : List (List Int)} {r c who s : Nat} (h : Within t r c) (hg : GoodS t r c who s) (b : Bool) : Within t (rOf r who s b) (cOf c who s b) := by
  obtain ⟨h1, h2, h3, h4, h5, h6⟩ := h
  unfold Within rOf cOf
  rcases hg.1 with ⟨rfl, hs⟩ | ⟨rfl, hs⟩
  · obtain ⟨m1, m2, _, m4, m5, _⟩ := T.subs_mem h5 hs
    cases b <;> simp <;> omega
  · obtain ⟨m1, m2, _, m4, m5, _⟩ := T.subs_mem h6 hs
    cases b <;> simp <;> omega
theorem bit_of' : (List.range 4).all (fun n => (List.range 16).all fun a => !(decide (a ≠ 0) && decide (a < 2 ^ (n + 1))) || (List.range (n + 1)).any fun i => decide (a / 2 ^ i % 2 = 1)) = true := by decide +kernel
theorem bit_of {n a : Nat} (hn : 1 ≤ n ∧ n ≤ 4) (h16 : a < 16) (h0 : a ≠ 0) (h : a < 2 ^ n) : ∃ i, i < n ∧ a / 2 ^ i % 2 = 1 := by
  obtain ⟨m, rfl⟩ : ∃ m, n = m + 1 := ⟨n - 1, by omega⟩
  have := List.all_eq_true.1 (List.all_eq_true.1 bit_of' m (List.mem_range.2 (by omega))) a (List.mem_range.2 h16)
  rw [decide_eq_true h0, decide_eq_true h] at this
  simp only [Bool.and_self, Bool.not_true, Bool.false_or, List.any_eq_true, decide_eq_true_eq, List.mem_range] at this
  exact this
theorem Within.some {t : List (List Int)} (ht : T.isTab t = true) {r c : Nat} (h : Within t r c) : ∃ i j, i < t.length ∧ j < T.cols t ∧ T.has r c i j = true := by
  obtain ⟨⟨t1, t2, t3, t4⟩, _⟩ := T.isTab_iff.1 ht
  obtain ⟨h1, h2, h3, h4, h5, h6⟩ := h
  obtain ⟨i, hi, bi⟩ := bit_of ⟨t1, t2⟩ h5 h1 h3
  obtain ⟨j, hj, bj⟩ := bit_of ⟨t3, t4⟩ h6 h2 h4
  exact ⟨i, j, hi, hj, by unfold T.has; rw [decide_eq_true bi, decide_eq_true bj]; rfl⟩
theorem leaf_val {t : List (List Int)} (ht : T.isTab t = true) {r c : Nat} {v : Int} (h : Within t r c) (hv : T.clrM t r c = some v) : v = 0 ∨ v = 1 := by
  obtain ⟨i, j, hi, hj, hh⟩ := h.some ht
  have := T.clrM_val ht hv hi hj hh
  have := T.ent_val ht (i := i) (j := j)
  omega

/-! How many nodes. -/
theorem pop_part {t : List (List Int)} {r c who s : Nat} (h : Within t r c) (hg : GoodS t r c who s) :
    T.pop (rOf r who s false) * T.pop (cOf c who s false) + T.pop (rOf r who s true) * T.pop (cOf c who s true) = T.pop r * T.pop c := by
  unfold rOf cOf
  rcases hg.1 with ⟨rfl, hs⟩ | ⟨rfl, hs⟩
  · obtain ⟨e, _, _⟩ := T.pop_subs h.2.2.2.2.1 hs
    simp only [if_pos, Bool.false_eq_true, if_false]
    rw [← e, Nat.add_mul, Nat.add_comm]
  · obtain ⟨e, _, _⟩ := T.pop_subs h.2.2.2.2.2 hs
    simp only [if_true, Nat.one_ne_zero, Bool.false_eq_true, if_false]
    rw [← e, Nat.mul_add, Nat.add_comm]
theorem Pl.few {t : List (List Int)} {r c k : Nat} {xs : List Nd} (h : Pl t r c k xs) : Within t r c → xs.length + 1 ≤ 2 * (T.pop r * T.pop c) ∧ 1 ≤ xs.length := by
  induction h with
  | leaf h =>
    rename_i r c k v
    intro hw
    have h1 := T.pop_pos hw.2.2.2.2.1 hw.1
    have h2 := T.pop_pos hw.2.2.2.2.2 hw.2.1
    have := Nat.mul_le_mul h1 h2
    simp
    omega
  | fork hcl hg h0 h1 ih0 ih1 =>
    intro hw
    have e := pop_part hw hg
    have i0 := (ih0 (hw.part hg false)).1
    have i1 := (ih1 (hw.part hg true)).1
    rw [List.length_cons, List.length_append]
    omega
theorem Pl.small {t : List (List Int)} {r c k : Nat} {xs : List Nd} (h : Pl t r c k xs) (hw : Within t r c) : xs.length ≤ 31 := by
  have h1 := T.pop_le hw.2.2.2.2.1
  have h2 := T.pop_le hw.2.2.2.2.2
  have := Nat.mul_le_mul h1 h2
  have := (h.few hw).1
  omega

/-! The nodes lie in a plan from the index k on. -/
def Lies (ps : List Nd) (k : Nat) (xs : List Nd) : Prop := k + xs.length ≤ ps.length ∧ ∀ i, i < xs.length → ps.getD (k + i) nd0 = xs.getD i nd0
theorem Lies.all (xs : List Nd) : Lies xs 0 xs := ⟨by omega, fun i _ => by rw [Nat.zero_add]⟩
theorem Lies.head {ps : List Nd} {k : Nat} {x : Nd} {ys zs : List Nd} (h : Lies ps k (x :: (ys ++ zs))) : ps.getD k nd0 = x ∧ Lies ps (k + 1) ys ∧ Lies ps (k + 1 + ys.length) zs := by
  obtain ⟨h1, h2⟩ := h
  rw [List.length_cons, List.length_append] at h1 h2
  refine ⟨?_, ⟨by omega, fun i hi => ?_⟩, by omega, fun i hi => ?_⟩
  · have := h2 0 (by omega)
    rw [Nat.add_zero] at this
    exact this
  · have := h2 (i + 1) (by omega)
    rw [show k + 1 + i = k + (i + 1) by omega, this]
    show (ys ++ zs).getD i nd0 = _
    rw [List.getD_eq_getElem?_getD, List.getElem?_append_left hi, ← List.getD_eq_getElem?_getD]
  · have := h2 (i + ys.length + 1) (by omega)
    rw [show k + 1 + ys.length + i = k + (i + ys.length + 1) by omega, this]
    show (ys ++ zs).getD (i + ys.length) nd0 = _
    rw [List.getD_eq_getElem?_getD, List.getElem?_append_right (by omega), show i + ys.length - ys.length = i by omega, ← List.getD_eq_getElem?_getD]
theorem Pl.ok {t : List (List Int)} (ht : T.isTab t = true) {r c k : Nat} {xs : List Nd} (h : Pl t r c k xs) : Within t r c → ∀ N, k + xs.length ≤ N → ∀ i, i < xs.length → ndOk N (k + i) (xs.getD i nd0) = true := by
  induction h with
  | leaf h =>
    rename_i r c k v
    intro hw N hN i hi
    obtain rfl : i = 0 := by simp at hi; omega
    exact (ndOk_leaf rfl).2 ⟨leaf_val ht hw h, rfl, rfl, rfl, rfl⟩
  | fork hcl hg h0 h1 ih0 ih1 =>
    rename_i r c k who s ys zs
    intro hw N hN i hi
    rw [List.length_cons, List.length_append] at hN hi
    have w0 := hw.part hg false
    have w1 := hw.part hg true
    have p0 := (h0.few w0).2
    have p1 := (h1.few w1).2
    rcases (show i = 0 ∨ (1 ≤ i ∧ i ≤ ys.length) ∨ ys.length < i by omega) with rfl | hi' | hi'
    · refine (ndOk_node rfl).2 ⟨⟨rfl, ?_⟩, ?_⟩
      · show ((who : Int) = 0 ∨ (who : Int) = 1)
        rcases hg.1 with ⟨h, _⟩ | ⟨h, _⟩ <;> omega
      · show 0 ≤ (s : Int) ∧ (s : Int) ≤ 15 ∧ ((k + 0 : Nat) : Int) < ((k + 1 : Nat) : Int) ∧ ((k + 1 : Nat) : Int) < (N : Int) ∧ ((k + 0 : Nat) : Int) < ((k + 1 + ys.length : Nat) : Int) ∧ ((k + 1 + ys.length : Nat) : Int) < (N : Int)
        have hs : s < 16 := by
          rcases hg.1 with ⟨_, h⟩ | ⟨_, h⟩
          · have := (T.subs_mem hw.2.2.2.2.1 h).2.1; have := hw.2.2.2.2.1; omega
          · have := (T.subs_mem hw.2.2.2.2.2 h).2.1; have := hw.2.2.2.2.2; omega
        omega
    · obtain ⟨j, rfl⟩ : ∃ j, i = j + 1 := ⟨i - 1, by omega⟩
      have := ih0 w0 N (by omega) j (by omega)
      rw [show k + (j + 1) = k + 1 + j by omega]
      show ndOk N _ ((ys ++ zs).getD j nd0) = true
      rw [List.getD_eq_getElem?_getD, List.getElem?_append_left (by omega), ← List.getD_eq_getElem?_getD]
      exact this
    · obtain ⟨j, rfl⟩ : ∃ j, i = j + ys.length + 1 := ⟨i - ys.length - 1, by omega⟩
      have := ih1 w1 N (by omega) j (by omega)
      rw [show k + (j + ys.length + 1) = k + 1 + ys.length + j by omega]
      show ndOk N _ ((ys ++ zs).getD (j + ys.length) nd0) = true
      rw [List.getD_eq_getElem?_getD, List.getElem?_append_right (by omega), show j + ys.length - ys.length = j by omega, ← List.getD_eq_getElem?_getD]
      exact this

/-! The length of a plan. -/
def depF (ps : List Nd) : Nat → Nat → Nat
  | 0, _ => 0
  | f + 1, i => if (ps.getD i nd0).leaf = true then 0 else 1 + max (depF ps f (ps.getD i nd0).no.toNat) (depF ps f (ps.getD i nd0).yes.toNat)
def depA (ps : List Nd) (i : Nat) : Nat := depF ps (ps.length - i) i
theorem depF_le (ps : List Nd) : ∀ f i, depF ps f i ≤ f
  | 0, _ => Nat.le_refl _
  | f + 1, i => by
    unfold depF
    split
    · omega
    · have := depF_le ps f (ps.getD i nd0).no.toNat
      have := depF_le ps f (ps.getD i nd0).yes.toNat
      omega
theorem node_next {ps : List Nd} (h : isPl ps = true) {i : Nat} (hi : i < ps.length) (hl : (ps.getD i nd0).leaf = false) : (i < (ps.getD i nd0).no.toNat ∧ (ps.getD i nd0).no.toNat < ps.length) ∧ i < (ps.getD i nd0).yes.toNat ∧ (ps.getD i nd0).yes.toNat < ps.length := by
  have := (ndOk_node hl).1 ((isPl_iff.1 h).2.2 i hi)
  omega
theorem depF_fuel {ps : List Nd} (h : isPl ps = true) : ∀ (f g i : Nat), i < ps.length → ps.length ≤ f + i → ps.length ≤ g + i → depF ps f i = depF ps g i
  | 0, _, _, h1, h2, _ => by omega
  | _ + 1, 0, _, h1, _, h3 => by omega
  | f + 1, g + 1, i, h1, h2, h3 => by
    unfold depF
    cases hl : (ps.getD i nd0).leaf with
    | true => rfl
    | false =>
      obtain ⟨⟨n1, n2⟩, n3, n4⟩ := node_next h h1 hl
      rw [depF_fuel h f g _ n2 (by omega) (by omega), depF_fuel h f g _ n4 (by omega) (by omega)]
theorem depA_leaf {ps : List Nd} {i : Nat} (hi : i < ps.length) (hl : (ps.getD i nd0).leaf = true) : depA ps i = 0 := by
  unfold depA
  rw [show ps.length - i = (ps.length - i - 1) + 1 by omega]
  unfold depF
  rw [if_pos hl]
theorem depA_node {ps : List Nd} (h : isPl ps = true) {i : Nat} (hi : i < ps.length) (hl : (ps.getD i nd0).leaf = false) : depA ps i = 1 + max (depA ps (ps.getD i nd0).no.toNat) (depA ps (ps.getD i nd0).yes.toNat) := by
  obtain ⟨⟨n1, n2⟩, n3, n4⟩ := node_next h hi hl
  unfold depA
  rw [show ps.length - i = (ps.length - i - 1) + 1 by omega]
  conv => lhs; unfold depF
  rw [hl, if_neg (by decide), depF_fuel h (ps.length - i - 1) (ps.length - (ps.getD i nd0).no.toNat) _ n2 (by omega) (by omega), depF_fuel h (ps.length - i - 1) (ps.length - (ps.getD i nd0).yes.toNat) _ n4 (by omega) (by omega)]
theorem depA_le {ps : List Nd} (h : isPl ps = true) (i : Nat) : depA ps i ≤ 100 := by
  have := depF_le ps (ps.length - i) i
  have := (isPl_iff.1 h).2.1
  unfold depA
  omega
theorem cost_parts {t : List (List Int)} {r c who s : Nat} (hg : GoodS t r c who s) : T.len t r c = 1 + max (T.len t (rOf r who s false) (cOf c who s false)) (T.len t (rOf r who s true) (cOf c who s true)) := by
  rw [← hg.2]
  unfold T.cost rOf cOf
  rcases hg.1 with ⟨rfl, hs⟩ | ⟨rfl, hs⟩
  · simp
  · simp
theorem Pl.depth {t : List (List Int)} {r c k : Nat} {xs : List Nd} (h : Pl t r c k xs) : Within t r c → ∀ ps, isPl ps = true → Lies ps k xs → depA ps k = T.len t r c := by
  induction h with
  | leaf h =>
    rename_i r c k v
    intro hw ps hp hL
    have h1 := hL.1
    have h2 := hL.2 0 (by simp)
    rw [Nat.add_zero] at h2
    rw [depA_leaf (by simp at h1; omega) (by rw [h2]; rfl), T.len_eq hw.2.2.2.2.1 hw.2.2.2.2.2, if_pos (by unfold T.clear; rw [h]; rfl)]
  | fork hcl hg h0 h1 ih0 ih1 =>
    rename_i r c k who s ys zs
    intro hw ps hp hL
    obtain ⟨e, l0, l1⟩ := hL.head
    have hk : k < ps.length := by have := hL.1; rw [List.length_cons] at this; omega
    rw [depA_node hp hk (by rw [e]; rfl), e, cost_parts hg]
    have e0 := ih0 (hw.part hg false) ps hp l0
    have e1 := ih1 (hw.part hg true) ps hp l1
    show 1 + max (depA ps ((k + 1 : Nat) : Int).toNat) (depA ps ((k + 1 + ys.length : Nat) : Int).toNat) = _
    rw [Int.toNat_natCast, Int.toNat_natCast, e0, e1]

/-! What is said. -/
theorem has_part' : (List.range 16).all (fun a => (T.subs a).all fun s => (List.range 4).all fun i => !(decide (a / 2 ^ i % 2 = 1)) || (if s / 2 ^ i % 2 = 1 then true else decide ((a - s) / 2 ^ i % 2 = 1))) = true := by decide +kernel
theorem has_part {a s i : Nat} (ha : a < 16) (hs : s ∈ T.subs a) (hi : i < 4) (h : a / 2 ^ i % 2 = 1) (hn : s / 2 ^ i % 2 ≠ 1) : (a - s) / 2 ^ i % 2 = 1 := by
  have := List.all_eq_true.1 (List.all_eq_true.1 (List.all_eq_true.1 has_part' a (List.mem_range.2 ha)) s hs) i (List.mem_range.2 hi)
  rw [decide_eq_true h, if_neg hn] at this
  simpa using this
theorem has_iff {r c i j : Nat} : T.has r c i j = true ↔ r / 2 ^ i % 2 = 1 ∧ c / 2 ^ j % 2 = 1 := by unfold T.has; simp
/-- The part in which an entry lies is what is said. -/
theorem part_said {t : List (List Int)} {r c who s row col : Nat} (hw : Within t r c) (hg : GoodS t r c who s) (hr : row < 4) (hc : col < 4) (hh : T.has r c row col = true) :
    T.has (rOf r who s (decide (s / 2 ^ (if who = 0 then row else col) % 2 = 1))) (cOf c who s (decide (s / 2 ^ (if who = 0 then row else col) % 2 = 1))) row col = true := by
  obtain ⟨b1, b2⟩ := has_iff.1 hh
  unfold rOf cOf
  rcases hg.1 with ⟨rfl, hs⟩ | ⟨rfl, hs⟩
  · simp only [if_true]
    by_cases h : s / 2 ^ row % 2 = 1
    · rw [decide_eq_true h, if_pos rfl]; exact has_iff.2 ⟨h, b2⟩
    · rw [decide_eq_false h, if_neg (by decide)]; exact has_iff.2 ⟨has_part hw.2.2.2.2.1 hs hr b1 h, b2⟩
  · simp only [Nat.one_ne_zero, if_false]
    by_cases h : s / 2 ^ col % 2 = 1
    · rw [decide_eq_true h, if_pos rfl]; exact has_iff.2 ⟨b1, h⟩
    · rw [decide_eq_false h, if_neg (by decide)]; exact has_iff.2 ⟨b1, has_part hw.2.2.2.2.2 hs hc b2 h⟩
theorem Pl.said {t : List (List Int)} (ht : T.isTab t = true) {r c k : Nat} {xs : List Nd} (h : Pl t r c k xs) : Within t r c → ∀ ps, isPl ps = true → Lies ps k xs → ∀ row col, row < t.length → col < T.cols t → T.has r c row col = true →
    ∃ pre, runA ps row col k = pre ++ [T.ent t row col] := by
  obtain ⟨⟨t1, t2, t3, t4⟩, _⟩ := T.isTab_iff.1 ht
  induction h with
  | leaf h =>
    rename_i r c k v
    intro hw ps hp hL row col hr hc hh
    have h1 := hL.1
    have h2 := hL.2 0 (by simp)
    rw [Nat.add_zero] at h2
    refine ⟨[], ?_⟩
    rw [runA_leaf (by simp at h1; omega) (by rw [h2]; rfl), h2, T.clrM_val ht h hr hc hh]
    rfl
  | fork hcl hg h0 h1 ih0 ih1 =>
    rename_i r c k who s ys zs
    intro hw ps hp hL row col hr hc hh
    obtain ⟨e, l0, l1⟩ := hL.head
    have hk : k < ps.length := by have := hL.1; rw [List.length_cons] at this; omega
    rw [runA_node hp hk (by rw [e]; rfl), e]
    have hpt := part_said hw hg (show row < 4 by omega) (show col < 4 by omega) hh
    have hsay : sayN (forkN who s (k + 1) (k + 1 + ys.length)) row col = s / 2 ^ (if who = 0 then row else col) % 2 := by
      unfold sayN forkN
      simp only [Int.toNat_natCast]
      rcases hg.1 with ⟨rfl, _⟩ | ⟨rfl, _⟩ <;> simp
    rw [hsay]
    by_cases hb : s / 2 ^ (if who = 0 then row else col) % 2 = 1
    · rw [decide_eq_true hb] at hpt
      obtain ⟨pre, he⟩ := ih1 (hw.part hg true) ps hp l1 row col hr hc hpt
      rw [hb]
      refine ⟨1 :: pre, ?_⟩
      show (1 : Int) :: runA ps row col ((k + 1 + ys.length : Nat) : Int).toNat = _
      rw [Int.toNat_natCast, he]
      rfl
    · rw [decide_eq_false hb] at hpt
      obtain ⟨pre, he⟩ := ih0 (hw.part hg false) ps hp l0 row col hr hc hpt
      have hz : s / 2 ^ (if who = 0 then row else col) % 2 = 0 := by omega
      rw [hz]
      refine ⟨0 :: pre, ?_⟩
      show (0 : Int) :: runA ps row col ((k + 1 : Nat) : Int).toNat = _
      rw [Int.toNat_natCast, he]
      rfl
/-- A run is no longer than the length, and its end. -/
theorem runA_len {ps : List Nd} (h : isPl ps = true) (row col : Nat) : ∀ (f i : Nat), i < ps.length → ps.length ≤ f + i → 1 ≤ (runA ps row col i).length ∧ (runA ps row col i).length ≤ depA ps i + 1
  | 0, _, h1, h2 => by omega
  | f + 1, i, h1, h2 => by
    cases hl : (ps.getD i nd0).leaf with
    | true => rw [runA_leaf h1 hl, depA_leaf h1 hl]; simp
    | false =>
      rw [runA_node h h1 hl, depA_node h h1 hl]
      obtain ⟨n1, n2⟩ := next_gt h h1 hl (sayN (ps.getD i nd0) row col)
      have ih := runA_len h row col f _ n2 (by omega)
      rw [List.length_cons]
      have : depA ps (nextN (ps.getD i nd0) (sayN (ps.getD i nd0) row col)) ≤ max (depA ps (ps.getD i nd0).no.toNat) (depA ps (ps.getD i nd0).yes.toNat) := by
        unfold nextN
        split <;> omega
      omega
/-- The value at the end of what is said. -/
def lastM (ps : List Nd) (row col : Nat) : Int := (runM ps row col).getD ((runM ps row col).length - 1) 0
def rightM (t : List (List Int)) (ps : List Nd) : Bool := (List.range t.length).all fun i => (List.range (T.cols t)).all fun j => decide (lastM ps i j = T.ent t i j)
theorem rightM_iff {t : List (List Int)} {ps : List Nd} : rightM t ps = true ↔ ∀ i j, i < t.length → j < T.cols t → lastM ps i j = T.ent t i j := by
  unfold rightM
  simp only [List.all_eq_true, List.mem_range, decide_eq_true_eq]
  exact ⟨fun h i j hi hj => h i hi j hj, fun h i hi j hj => h i j hi hj⟩
theorem whole_within {t : List (List Int)} (ht : T.isTab t = true) : Within t (2 ^ t.length - 1) (2 ^ T.cols t - 1) := by
  obtain ⟨⟨t1, t2, t3, t4⟩, _⟩ := T.isTab_iff.1 ht
  obtain ⟨p1, p2⟩ := whole_lt t1 t2
  obtain ⟨q1, q2⟩ := whole_lt t3 t4
  have h1 : 0 < 2 ^ t.length := Nat.two_pow_pos _
  have h2 : 0 < 2 ^ T.cols t := Nat.two_pow_pos _
  exact ⟨p2, q2, by omega, by omega, p1, q1⟩
theorem whole_bit' : (List.range 4).all (fun n => (List.range (n + 1)).all fun i => decide ((2 ^ (n + 1) - 1) / 2 ^ i % 2 = 1)) = true := by decide +kernel
theorem whole_bit {n i : Nat} (hn : n ≤ 4) (hi : i < n) : (2 ^ n - 1) / 2 ^ i % 2 = 1 := by
  obtain ⟨m, rfl⟩ : ∃ m, n = m + 1 := ⟨n - 1, by omega⟩
  exact of_decide_eq_true (List.all_eq_true.1 (List.all_eq_true.1 whole_bit' m (List.mem_range.2 (by omega))) i (List.mem_range.2 hi))
theorem whole_has {t : List (List Int)} (ht : T.isTab t = true) {i j : Nat} (hi : i < t.length) (hj : j < T.cols t) : T.has (2 ^ t.length - 1) (2 ^ T.cols t - 1) i j = true := by
  obtain ⟨⟨t1, t2, t3, t4⟩, _⟩ := T.isTab_iff.1 ht
  exact has_iff.2 ⟨whole_bit t2 hi, whole_bit t4 hj⟩
/-- What a plan of the whole table is. -/
theorem Pl.whole {t : List (List Int)} (ht : T.isTab t = true) {xs : List Nd} (h : Pl t (2 ^ t.length - 1) (2 ^ T.cols t - 1) 0 xs) : isPl xs = true ∧ xs.length ≤ 31 ∧ rightM t xs = true ∧ depA xs 0 = T.len t (2 ^ t.length - 1) (2 ^ T.cols t - 1) := by
  have hw := whole_within ht
  have hs := h.small hw
  have hf := (h.few hw).2
  have hp : isPl xs = true := isPl_iff.2 ⟨hf, by omega, fun i hi => by
    have := h.ok ht hw xs.length (by omega) i hi
    rwa [Nat.zero_add] at this⟩
  refine ⟨hp, hs, rightM_iff.2 fun i j hi hj => ?_, h.depth hw xs hp (Lies.all xs)⟩
  obtain ⟨pre, he⟩ := h.said ht hw xs hp (Lies.all xs) i j hi hj (whole_has ht hi hj)
  unfold lastM
  rw [runA_start, he, List.length_append, List.getD_eq_getElem?_getD]
  simp
end Go.Proofs.Ytaapamoglgpocaa
