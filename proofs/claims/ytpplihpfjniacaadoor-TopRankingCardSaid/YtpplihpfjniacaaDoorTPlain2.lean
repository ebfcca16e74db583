/- Plain: tables of two values, rectangles, and the least talk about them. No program in sight. -/

namespace Go.Proofs.YtpplihpfjniacaaDoor
namespace T

def cols (t : List (List Int)) : Nat := (t.getD 0 []).length
def val (x : Int) : Bool := decide (0 ≤ x ∧ x ≤ 1)
theorem val_iff {x : Int} : val x = true ↔ 0 ≤ x ∧ x ≤ 1 := by simp [val]
def rowOk (c : Nat) (r : List Int) : Bool := decide (r.length = c) && r.all val
theorem rowOk_iff {c : Nat} {r : List Int} : rowOk c r = true ↔ r.length = c ∧ ∀ x ∈ r, 0 ≤ x ∧ x ≤ 1 := by simp [rowOk, val_iff]
def isTab (t : List (List Int)) : Bool := decide (1 ≤ t.length ∧ t.length ≤ 4 ∧ 1 ≤ cols t ∧ cols t ≤ 4) && t.all (rowOk (cols t))
theorem isTab_iff {t : List (List Int)} : isTab t = true ↔ (1 ≤ t.length ∧ t.length ≤ 4 ∧ 1 ≤ cols t ∧ cols t ≤ 4) ∧ ∀ r ∈ t, rowOk (cols t) r = true := by simp [isTab]
theorem isTab_false {t : List (List Int)} (h : ¬ (1 ≤ t.length ∧ t.length ≤ 4 ∧ 1 ≤ cols t ∧ cols t ≤ 4)) : isTab t = false := by
  rw [Bool.eq_false_iff]
  intro h'
  exact h (isTab_iff.1 h').1
def cut (t : List (List Int)) : List (List Int) := (t.take 6).map (·.take 6)
theorem cut_len (t : List (List Int)) : (cut t).length = min 6 t.length := by simp [cut]
theorem cols_cut (t : List (List Int)) : cols (cut t) = min 6 (cols t) := by
  cases t with
  | nil => rfl
  | cons r t => simp [cols, cut]
theorem cut_of_isTab {t : List (List Int)} (h : isTab t = true) : cut t = t := by
  obtain ⟨⟨h1, h2, h3, h4⟩, h5⟩ := isTab_iff.1 h
  unfold cut
  rw [List.take_of_length_le (by omega)]
  conv => rhs; rw [← List.map_id t]
  apply List.map_congr_left
  intro r hr
  have := (rowOk_iff.1 (h5 r hr)).1
  simp only [id]
  exact List.take_of_length_le (by omega)
theorem isTab_cut (t : List (List Int)) : isTab (cut t) = isTab t := by
  cases h : isTab t with
  | true => rw [cut_of_isTab h, h]
  | false =>
    rw [Bool.eq_false_iff]
    intro hc
    obtain ⟨⟨h1, h2, h3, h4⟩, h5⟩ := isTab_iff.1 hc
    rw [cut_len] at h1 h2
    rw [cols_cut] at h3 h4 h5
    have e : ∀ r : List Int, r.length ≤ 6 → r.take 6 = r := fun r h => List.take_of_length_le h
    have : isTab t = true := by
      refine isTab_iff.2 ⟨⟨by omega, by omega, by omega, by omega⟩, fun r hr => ?_⟩
      have hr' : r.take 6 ∈ cut t := by
        unfold cut
        rw [List.take_of_length_le (by omega)]
        exact List.mem_map_of_mem hr
      have h6 := rowOk_iff.1 (h5 _ hr')
      rw [List.length_take] at h6
      have hl : r.length ≤ 6 := by omega
      rw [e r hl] at h6
      exact rowOk_iff.2 ⟨by omega, h6.2⟩
    rw [h] at this
    cases this
theorem row_mem {t : List (List Int)} {i : Nat} (h : i < t.length) : t.getD i [] ∈ t := by
  rw [List.getD_eq_getElem?_getD, List.getElem?_eq_getElem h]
  exact List.getElem_mem h
theorem tab_row {t : List (List Int)} (h : isTab t = true) {i : Nat} (hi : i < t.length) : (t.getD i []).length = cols t := (rowOk_iff.1 ((isTab_iff.1 h).2 _ (row_mem hi))).1
/-- An entry. -/
def ent (t : List (List Int)) (i j : Nat) : Int := (t.getD i []).getD j 0
theorem ent_val {t : List (List Int)} (h : isTab t = true) {i j : Nat} : 0 ≤ ent t i j ∧ ent t i j ≤ 1 := by
  unfold ent
  by_cases hi : i < t.length
  · have hr := (rowOk_iff.1 ((isTab_iff.1 h).2 _ (row_mem hi))).2
    generalize t.getD i [] = r at hr
    by_cases hj : j < r.length
    · rw [List.getD_eq_getElem?_getD, List.getElem?_eq_getElem hj]
      exact hr _ (List.getElem_mem hj)
    · rw [List.getD_eq_getElem?_getD, List.getElem?_eq_none (by omega)]
      simp
  · have e : t.getD i [] = [] := by rw [List.getD_eq_getElem?_getD, List.getElem?_eq_none (by omega)]; rfl
    rw [e]
    simp

/-! Rectangles: sets of rows and of columns. -/
def has (r c i j : Nat) : Bool := decide (r / 2 ^ i % 2 = 1) && decide (c / 2 ^ j % 2 = 1)
/-- What is known of the values of a rectangle: nothing (-1), one value, or that there are two. -/
def step (s : Option Int) (b : Bool) (x : Int) : Option Int := match s with
  | none => none
  | some v => if b = true then (if 0 ≤ v ∧ v ≠ x then none else some x) else some v
def rowTo (t : List (List Int)) (r c i : Nat) (s : Option Int) : Nat → Option Int
  | 0 => s
  | j + 1 => step (rowTo t r c i s j) (has r c i j) (ent t i j)
def tabTo (t : List (List Int)) (r c : Nat) : Nat → Option Int
  | 0 => some (-1)
  | i + 1 => rowTo t r c i (tabTo t r c i) (cols t)
def clrM (t : List (List Int)) (r c : Nat) : Option Int := tabTo t r c t.length
def clear (t : List (List Int)) (r c : Nat) : Bool := (clrM t r c).isSome
theorem rowTo_none (t : List (List Int)) (r c i : Nat) {s : Option Int} {j : Nat} : ∀ d, rowTo t r c i s j = none → rowTo t r c i s (j + d) = none
  | 0, h => h
  | d + 1, h => by
    have := rowTo_none t r c i d h
    show step (rowTo t r c i s (j + d)) _ _ = none
    rw [this]; rfl
theorem rowTo_start (t : List (List Int)) (r c i : Nat) : ∀ j, rowTo t r c i none j = none
  | 0 => rfl
  | j + 1 => by unfold rowTo; rw [rowTo_start t r c i j]; rfl
theorem tabTo_none (t : List (List Int)) (r c : Nat) {i : Nat} : ∀ d, tabTo t r c i = none → tabTo t r c (i + d) = none
  | 0, h => h
  | d + 1, h => by
    have := tabTo_none t r c d h
    show rowTo t r c (i + d) (tabTo t r c (i + d)) (cols t) = none
    rw [this]; exact rowTo_start t r c _ _
theorem clrM_none {t : List (List Int)} {r c i j : Nat} (hi : i < t.length) (hj : j ≤ cols t) (h : rowTo t r c i (tabTo t r c i) j = none) : clrM t r c = none := by
  have h1 : tabTo t r c (i + 1) = none := by
    unfold tabTo
    have := rowTo_none t r c i (cols t - j) h
    rwa [show j + (cols t - j) = cols t by omega] at this
  unfold clrM
  have := tabTo_none t r c (t.length - (i + 1)) h1
  rwa [show i + 1 + (t.length - (i + 1)) = t.length by omega] at this

/-! The least talk. -/
/-- The sets within a, from x downwards. -/
def rem (a x : Nat) : List Nat := (List.range (x + 1)).reverse.filter fun s => decide (s ≠ 0) && (s &&& a == s)
theorem rem_step' : (List.range 16).all (fun a => (List.range 16).all fun x => !(decide (x ≠ 0) && (x &&& a == x)) || (rem a x == x :: rem a ((x - 1) &&& a) && decide ((x - 1) &&& a < x) && (((x - 1) &&& a) &&& a == (x - 1) &&& a))) = true := by decide +kernel
theorem rem_step {a x : Nat} (ha : a < 16) (hx : x < 16) (h0 : x ≠ 0) (h : x &&& a = x) : rem a x = x :: rem a ((x - 1) &&& a) ∧ (x - 1) &&& a < x ∧ ((x - 1) &&& a) &&& a = (x - 1) &&& a := by
  have := List.all_eq_true.1 (List.all_eq_true.1 rem_step' a (List.mem_range.2 ha)) x (List.mem_range.2 hx)
  rw [decide_eq_true h0, h] at this
  simp only [beq_self_eq_true, Bool.and_self, Bool.not_true, Bool.false_or, Bool.and_eq_true, beq_iff_eq, decide_eq_true_eq] at this
  exact ⟨this.1.1, this.1.2, this.2⟩
theorem rem_zero (a : Nat) : rem a 0 = [] := by simp [rem]
/-- The sets within a that are not empty, nor all of it. -/
def subs (a : Nat) : List Nat := rem a (a &&& (a - 1))
theorem subs_mem' : (List.range 16).all (fun a => (subs a).all fun s => decide (s ≠ 0) && decide (s < a) && (s &&& a == s) && decide (a - s ≠ 0) && decide (a - s < a) && ((a - s) &&& a == a - s)) = true := by decide +kernel
theorem subs_mem {a s : Nat} (ha : a < 16) (h : s ∈ subs a) : s ≠ 0 ∧ s < a ∧ s &&& a = s ∧ a - s ≠ 0 ∧ a - s < a ∧ (a - s) &&& a = a - s := by
  have := List.all_eq_true.1 (List.all_eq_true.1 subs_mem' a (List.mem_range.2 ha)) s h
  simp only [Bool.and_eq_true, beq_iff_eq, decide_eq_true_eq, and_assoc] at this
  exact this
theorem mem_subs' : (List.range 16).all (fun a => (List.range 16).all fun s => !(decide (s ≠ 0) && decide (s ≠ a) && (s &&& a == s)) || decide (s ∈ subs a)) = true := by decide +kernel
theorem mem_subs {a s : Nat} (ha : a < 16) (hs : s < 16) (h0 : s ≠ 0) (h1 : s ≠ a) (h : s &&& a = s) : s ∈ subs a := by
  have := List.all_eq_true.1 (List.all_eq_true.1 mem_subs' a (List.mem_range.2 ha)) s (List.mem_range.2 hs)
  rw [decide_eq_true h0, decide_eq_true h1, h] at this
  simpa using this
def best (l : List Nat) : Nat := l.foldr min 8
theorem best_nil : best [] = 8 := rfl
theorem best_cons (x : Nat) (l : List Nat) : best (x :: l) = min x (best l) := rfl
theorem best_append (l u : List Nat) : best (l ++ u) = min (best l) (best u) := by
  induction l with
  | nil =>
    have : best u ≤ 8 := by
      induction u with
      | nil => exact Nat.le_refl _
      | cons x u ih => rw [best_cons]; omega
    rw [List.nil_append, best_nil]; omega
  | cons x l ih => rw [List.cons_append, best_cons, best_cons, ih]; omega
theorem best_le : ∀ (l : List Nat) (x : Nat), x ∈ l → best l ≤ x
  | y :: l, x, h => by
    rw [best_cons]
    rcases List.mem_cons.1 h with rfl | h
    · omega
    · have := best_le l x h; omega
theorem best_mem : ∀ (l : List Nat), best l = 8 ∨ best l ∈ l
  | [] => .inl rfl
  | x :: l => by
    rw [best_cons]
    rcases best_mem l with h | h
    · by_cases hx : x ≤ 8
      · exact .inr (by rw [Nat.min_eq_left (by omega)]; exact List.mem_cons_self ..)
      · exact .inl (by omega)
    · by_cases hx : x ≤ best l
      · exact .inr (by rw [Nat.min_eq_left hx]; exact List.mem_cons_self ..)
      · exact .inr (by rw [Nat.min_eq_right (by omega)]; exact List.mem_cons_of_mem _ h)
/-- The least talk about a rectangle. -/
def lenF (t : List (List Int)) : Nat → Nat → Nat → Nat
  | 0, _, _ => 0
  | f + 1, r, c => if clear t r c = true then 0 else best ((subs r).map (fun s => 1 + max (lenF t f (r - s) c) (lenF t f s c)) ++ (subs c).map (fun s => 1 + max (lenF t f r (c - s)) (lenF t f r s)))
theorem lenF_fuel (t : List (List Int)) : ∀ (f g r c : Nat), r < 16 → c < 16 → r + c < f → r + c < g → lenF t f r c = lenF t g r c
  | 0, _, _, _, _, _, h, _ => by omega
  | _ + 1, 0, _, _, _, _, _, h => by omega
  | f + 1, g + 1, r, c, hr, hc, h1, h2 => by
    unfold lenF
    congr 2
    congr 1
    · apply List.map_congr_left
      intro s hs
      obtain ⟨m1, m2, _, m4, m5, _⟩ := subs_mem hr hs
      rw [lenF_fuel t f g (r - s) c (by omega) hc (by omega) (by omega), lenF_fuel t f g s c (by omega) hc (by omega) (by omega)]
    · apply List.map_congr_left
      intro s hs
      obtain ⟨m1, m2, _, m4, m5, _⟩ := subs_mem hc hs
      rw [lenF_fuel t f g r (c - s) hr (by omega) (by omega) (by omega), lenF_fuel t f g r s hr (by omega) (by omega) (by omega)]
def len (t : List (List Int)) (r c : Nat) : Nat := lenF t (r + c + 1) r c
/-- What a split costs: who 0 splits the rows, 1 the columns. -/
def cost (t : List (List Int)) (r c who s : Nat) : Nat := if who = 0 then 1 + max (len t (r - s) c) (len t s c) else 1 + max (len t r (c - s)) (len t r s)
theorem len_eq {t : List (List Int)} {r c : Nat} (hr : r < 16) (hc : c < 16) : len t r c = if clear t r c = true then 0 else best ((subs r).map (cost t r c 0) ++ (subs c).map (cost t r c 1)) := by
  unfold len
  conv => lhs; unfold lenF
  congr 2
  congr 1
  · apply List.map_congr_left
    intro s hs
    obtain ⟨m1, m2, _, m4, m5, _⟩ := subs_mem hr hs
    unfold cost len
    rw [if_pos rfl, lenF_fuel t (r + c) _ (r - s) c (by omega) hc (by omega) (Nat.lt_succ_self _), lenF_fuel t (r + c) _ s c (by omega) hc (by omega) (Nat.lt_succ_self _)]
  · apply List.map_congr_left
    intro s hs
    obtain ⟨m1, m2, _, m4, m5, _⟩ := subs_mem hc hs
    unfold cost len
    rw [if_neg (by omega), lenF_fuel t (r + c) _ r (c - s) hr (by omega) (by omega) (Nat.lt_succ_self _), lenF_fuel t (r + c) _ r s hr (by omega) (by omega) (Nat.lt_succ_self _)]
end T
end Go.Proofs.YtpplihpfjniacaaDoor

/- Plain: what a clear rectangle is; the least talk is short. -/
namespace Go.Proofs.YtpplihpfjniacaaDoor.T

/-- What the search for two values has met: all entries of the first i rows, and the first j of the next one. -/
def met (i j a b : Nat) : Prop := a < i ∨ (a = i ∧ b < j)
def StepOk (t : List (List Int)) (r c i j : Nat) (s : Option Int) : Prop := match s with
  | none => ∃ a b a' b', a < t.length ∧ b < cols t ∧ a' < t.length ∧ b' < cols t ∧ has r c a b = true ∧ has r c a' b' = true ∧ ent t a b ≠ ent t a' b'
  | some v => (∀ a b, a < t.length → b < cols t → met i j a b → has r c a b = true → ent t a b = v) ∧ (v = -1 ∨ (0 ≤ v ∧ ∃ a b, a < t.length ∧ b < cols t ∧ has r c a b = true ∧ ent t a b = v))
theorem step_ok {t : List (List Int)} (ht : isTab t = true) {r c i j : Nat} (hi : i < t.length) (hj : j < cols t) {s : Option Int} (h : StepOk t r c i j s) : StepOk t r c i (j + 1) (step s (has r c i j) (ent t i j)) := by
  have h01 := ent_val ht (i := i) (j := j)
  cases s with
  | none => exact h
  | some v =>
    obtain ⟨h1, h2⟩ := h
    unfold step
    simp only []
    have hm : ∀ a b, met i (j + 1) a b → met i j a b ∨ (a = i ∧ b = j) := fun a b hm => by
      unfold met at hm ⊢
      omega
    cases hb : has r c i j with
    | false =>
      simp only [Bool.false_eq_true, if_false]
      refine ⟨fun a b ha hb' hm' hh => ?_, h2⟩
      rcases hm a b hm' with h3 | ⟨rfl, rfl⟩
      · exact h1 a b ha hb' h3 hh
      · rw [hb] at hh; cases hh
    | true =>
      simp only [if_true]
      split
      · rename_i hv
        rcases h2 with h2 | ⟨_, a, b, ha, hb', hh, he⟩
        · omega
        · exact ⟨a, b, i, j, ha, hb', hi, hj, hh, hb, fun e => hv.2 (by rw [← he, e])⟩
      · rename_i hv
        refine ⟨fun a b ha hb' hm' hh => ?_, .inr ⟨h01.1, i, j, hi, hj, hb, rfl⟩⟩
        rcases hm a b hm' with h3 | ⟨rfl, rfl⟩
        · have := h1 a b ha hb' h3 hh
          by_cases hv0 : 0 ≤ v
          · have hve : v = ent t i j := by
              by_cases hne : v = ent t i j
              · exact hne
              · exact absurd ⟨hv0, hne⟩ hv
            rw [this, hve]
          · have := ent_val ht (i := a) (j := b)
            omega
        · rfl
theorem row_ok {t : List (List Int)} (ht : isTab t = true) {r c i : Nat} (hi : i < t.length) {s : Option Int} (h : StepOk t r c i 0 s) : ∀ j, j ≤ cols t → StepOk t r c i j (rowTo t r c i s j)
  | 0, _ => h
  | j + 1, hj => step_ok ht hi (by omega) (row_ok ht hi h j (by omega))
theorem tab_ok {t : List (List Int)} (ht : isTab t = true) {r c : Nat} : ∀ i, i ≤ t.length → StepOk t r c i 0 (tabTo t r c i)
  | 0, _ => ⟨fun a b _ _ hm _ => by unfold met at hm; omega, .inl rfl⟩
  | i + 1, hi => by
    have := row_ok ht (by omega) (tab_ok ht (r := r) (c := c) i (by omega)) (cols t) (Nat.le_refl _)
    unfold tabTo
    cases hs : rowTo t r c i (tabTo t r c i) (cols t) with
    | none => rw [hs] at this; exact this
    | some v =>
      rw [hs] at this
      refine ⟨fun a b ha hb hm hh => this.1 a b ha hb ?_ hh, this.2⟩
      unfold met at hm ⊢
      omega
/-- All entries of the rectangle are the same. -/
def Mono (t : List (List Int)) (r c : Nat) : Prop := ∀ a b a' b', a < t.length → b < cols t → a' < t.length → b' < cols t → has r c a b = true → has r c a' b' = true → ent t a b = ent t a' b'
theorem clear_iff {t : List (List Int)} (ht : isTab t = true) {r c : Nat} : clear t r c = true ↔ Mono t r c := by
  have h := tab_ok ht (r := r) (c := c) t.length (Nat.le_refl _)
  unfold clear clrM
  cases hs : tabTo t r c t.length with
  | none =>
    rw [hs] at h
    obtain ⟨a, b, a', b', ha, hb, ha', hb', h1, h2, hne⟩ := h
    exact ⟨fun h => absurd h (by simp), fun hm => absurd (hm a b a' b' ha hb ha' hb' h1 h2) hne⟩
  | some v =>
    rw [hs] at h
    refine ⟨fun _ a b a' b' ha hb ha' hb' h1 h2 => ?_, fun _ => rfl⟩
    rw [h.1 a b ha hb (.inl ha) h1, h.1 a' b' ha' hb' (.inl ha') h2]
/-- The value of a clear rectangle that is not empty. -/
theorem clrM_val {t : List (List Int)} (ht : isTab t = true) {r c a b : Nat} {v : Int} (h : clrM t r c = some v) (ha : a < t.length) (hb : b < cols t) (hh : has r c a b = true) : ent t a b = v := by
  have h' := tab_ok ht (r := r) (c := c) t.length (Nat.le_refl _)
  unfold clrM at h
  rw [h] at h'
  exact h'.1 a b ha hb (.inl ha) hh

/-! How many. -/
def pop (n : Nat) : Nat := n % 2 + n / 2 % 2 + n / 4 % 2 + n / 8 % 2
theorem pop_subs' : (List.range 16).all (fun a => (subs a).all fun s => decide (pop s + pop (a - s) = pop a ∧ 1 ≤ pop s ∧ 1 ≤ pop (a - s))) = true := by decide +kernel
theorem pop_subs {a s : Nat} (ha : a < 16) (h : s ∈ subs a) : pop s + pop (a - s) = pop a ∧ 1 ≤ pop s ∧ 1 ≤ pop (a - s) :=
  of_decide_eq_true (List.all_eq_true.1 (List.all_eq_true.1 pop_subs' a (List.mem_range.2 ha)) s h)
theorem pop_one' : (List.range 16).all (fun a => !((subs a).isEmpty && decide (a ≠ 0)) || ((List.range 4).any fun k => decide (a = 2 ^ k))) = true := by decide +kernel
theorem pop_one {a : Nat} (ha : a < 16) (h0 : a ≠ 0) (h : subs a = []) : ∃ k, k < 4 ∧ a = 2 ^ k := by
  have := List.all_eq_true.1 pop_one' a (List.mem_range.2 ha)
  rw [h, decide_eq_true h0] at this
  simp only [List.isEmpty_nil, Bool.and_self, Bool.not_true, Bool.false_or, List.any_eq_true, List.mem_range, decide_eq_true_eq] at this
  exact this
theorem pop_le' : (List.range 16).all (fun a => decide (pop a ≤ 4)) = true := by decide +kernel
theorem pop_le {a : Nat} (ha : a < 16) : pop a ≤ 4 := of_decide_eq_true (List.all_eq_true.1 pop_le' a (List.mem_range.2 ha))
theorem pop_pos' : (List.range 16).all (fun a => decide (a = 0) || decide (1 ≤ pop a)) = true := by decide +kernel
theorem pop_pos {a : Nat} (ha : a < 16) (h : a ≠ 0) : 1 ≤ pop a := by
  have := List.all_eq_true.1 pop_pos' a (List.mem_range.2 ha)
  rw [decide_eq_false h] at this
  simpa using this
theorem bit_one' : (List.range 4).all (fun k => (List.range 4).all fun i => decide (2 ^ k / 2 ^ i % 2 = 1) == decide (i = k)) = true := by decide +kernel
theorem bit_one {k i : Nat} (hk : k < 4) (hi : i < 4) : decide (2 ^ k / 2 ^ i % 2 = 1) = decide (i = k) :=
  eq_of_beq (List.all_eq_true.1 (List.all_eq_true.1 bit_one' k (List.mem_range.2 hk)) i (List.mem_range.2 hi))
theorem clear_one {t : List (List Int)} (ht : isTab t = true) {k l : Nat} (hk : k < 4) (hl : l < 4) : clear t (2 ^ k) (2 ^ l) = true := by
  obtain ⟨⟨t1, t2, t3, t4⟩, _⟩ := isTab_iff.1 ht
  refine (clear_iff ht).2 fun a b a' b' ha hb ha' hb' h1 h2 => ?_
  unfold has at h1 h2
  rw [bit_one hk (by omega), bit_one hl (by omega)] at h1 h2
  simp only [Bool.and_eq_true, decide_eq_true_eq] at h1 h2
  rw [h1.1, h1.2, h2.1, h2.2]
theorem cost_sub {t : List (List Int)} {r c : Nat} (hr : r < 16) (hc : c < 16) (hcl : clear t r c = false) {s : Nat} : (s ∈ subs r → len t r c ≤ cost t r c 0 s) ∧ (s ∈ subs c → len t r c ≤ cost t r c 1 s) := by
  rw [len_eq hr hc, hcl, if_neg (by decide)]
  exact ⟨fun h => best_le _ _ (List.mem_append_left _ (List.mem_map_of_mem h)), fun h => best_le _ _ (List.mem_append_right _ (List.mem_map_of_mem h))⟩
theorem len_pop {t : List (List Int)} (ht : isTab t = true) : ∀ (f r c : Nat), r + c < f → r < 16 → c < 16 → r ≠ 0 → c ≠ 0 → len t r c + 2 ≤ pop r + pop c
  | 0, _, _, h, _, _, _, _ => by omega
  | f + 1, r, c, hf, hr, hc, hr0, hc0 => by
    have p1 := pop_pos hr hr0
    have p2 := pop_pos hc hc0
    cases hcl : clear t r c with
    | true => rw [len_eq hr hc, hcl, if_pos rfl]; omega
    | false =>
      have hcs := fun s => cost_sub (t := t) hr hc hcl (s := s)
      cases hs : subs r with
      | cons s l =>
        have hm : s ∈ subs r := by rw [hs]; exact List.mem_cons_self ..
        obtain ⟨m1, m2, _, m4, m5, _⟩ := subs_mem hr hm
        obtain ⟨q1, q2, q3⟩ := pop_subs hr hm
        have h1 := len_pop ht f (r - s) c (by omega) (by omega) hc m4 hc0
        have h2 := len_pop ht f s c (by omega) (by omega) hc m1 hc0
        have h3 := (hcs s).1 hm
        unfold cost at h3
        rw [if_pos rfl] at h3
        omega
      | nil =>
        cases hs2 : subs c with
        | cons s l =>
          have hm : s ∈ subs c := by rw [hs2]; exact List.mem_cons_self ..
          obtain ⟨m1, m2, _, m4, m5, _⟩ := subs_mem hc hm
          obtain ⟨q1, q2, q3⟩ := pop_subs hc hm
          have h1 := len_pop ht f r (c - s) (by omega) hr (by omega) hr0 m4
          have h2 := len_pop ht f r s (by omega) hr (by omega) hr0 m1
          have h3 := (hcs s).2 hm
          unfold cost at h3
          rw [if_neg (by omega)] at h3
          omega
        | nil =>
          obtain ⟨k, hk, rfl⟩ := pop_one hr hr0 hs
          obtain ⟨l, hl, rfl⟩ := pop_one hc hc0 hs2
          rw [clear_one ht hk hl] at hcl
          cases hcl
theorem len_lt {t : List (List Int)} (ht : isTab t = true) {r c : Nat} (hr : r < 16) (hc : c < 16) (hr0 : r ≠ 0) (hc0 : c ≠ 0) : len t r c ≤ 6 := by
  have := len_pop ht (r + c + 1) r c (Nat.lt_succ_self _) hr hc hr0 hc0
  have := pop_le hr
  have := pop_le hc
  omega
theorem top_ok' : (List.range 16).all (fun a => decide (a = 0) || (((a &&& (a - 1)) &&& a == a &&& (a - 1)) && decide (a &&& (a - 1) < a))) = true := by decide +kernel
theorem top_ok {a : Nat} (ha : a < 16) (h0 : a ≠ 0) : (a &&& (a - 1)) &&& a = a &&& (a - 1) ∧ a &&& (a - 1) < a := by
  have := List.all_eq_true.1 top_ok' a (List.mem_range.2 ha)
  rw [decide_eq_false h0] at this
  simp only [Bool.false_or, Bool.and_eq_true, beq_iff_eq, decide_eq_true_eq] at this
  exact this
end Go.Proofs.YtpplihpfjniacaaDoor.T
