/- Plain: what a clear rectangle is; the least talk is short. -/
import Derived.Test.YtaapamoglgpocaaTPlain
namespace Go.Proofs.Ytaapamoglgpocaa.T

/-- What the search for two values has met: all entries of the first i rows, and the first j of the next one. -/
def met (i j a b : Nat) : Prop := a < i ∨ (a = i ∧ b < j)
def StepOk (t : List (List Int)) (r c i j : Nat) (s : Option Int) : Prop := match s with
  | none => ∃ a b a' b', a < t.length ∧ b < cols t ∧ a' < t.length ∧ b' < cols t ∧ has r c a b = true ∧ has r c a' b' = true ∧ ent t a b ≠ ent t a' b'
  | some v => (∀ a b, a < t.length → b < cols t → met i j a b → has r c a b = true → ent t a b = v) ∧ (v = -1 ∨ (0 ≤ v ∧ ∃ a b, a < t.length ∧ b < cols t ∧ has r c a b = true ∧ ent t a b = v))
theorem step_ok {t : List (List Int)} (ht : isTab t = true) {r c i j : Nat} (hi : i < t.length) (hj : j < cols t) {s : Option Int} (h : StepOk t r c i j s) : StepOk t r c i (j + 1) (step s (has r c i j) (ent t i j)) := by
  have h01 := ent_val ht (i := i) (j := j)
  cases s with
  | none => exact h
  | some v =>
    obtain ⟨h1, h2⟩ := h
    unfold step
    simp only []
    have hm : ∀ a b, met i (j + 1) a b → met i j a b ∨ (a = i ∧ b = j) := fun a b hm => by
      unfold met at hm ⊢
      omega
    cases hb : has r c i j with
    | false =>
      simp only [Bool.false_eq_true, if_false]
      refine ⟨fun a b ha hb' hm' hh => ?_, h2⟩
      rcases hm a b hm' with h3 | ⟨rfl, rfl⟩
      · exact h1 a b ha hb' h3 hh
      · rw [hb] at hh; cases hh
    | true =>
      simp only [if_true]
      split
      · rename_i hv
        rcases h2 with h2 | ⟨_, a, b, ha, hb', hh, he⟩
        · omega
        · exact ⟨a, b, i, j, ha, hb', hi, hj, hh, hb, fun e => hv.2 (by rw [← he, e])⟩
      · rename_i hv
        refine ⟨fun a b ha hb' hm' hh => ?_, .inr ⟨h01.1, i, j, hi, hj, hb, rfl⟩⟩
        rcases hm a b hm' with h3 | ⟨rfl, rfl⟩
        · have := h1 a b ha hb' h3 hh
          by_cases hv0 : 0 ≤ v
          · have hve : v = ent t i j := by
              by_cases hne : v = ent t i j
              · exact hne
              · exact absurd ⟨hv0, hne⟩ hv
            rw [this, hve]
          · have := ent_val ht (i := a) (j := b)
            omega
        · rfl
theorem row_ok {t : List (List Int)} (ht : isTab t = true) {r c i : Nat} (hi : i < t.length) {s : Option Int} (h : StepOk t r c i 0 s) : ∀ j, j ≤ cols t → StepOk t r c i j (rowTo t r c i s j)
  | 0, _ => h
  | j + 1, hj => step_ok ht hi (by omega) (row_ok ht hi h j (by omega))
theorem tab_ok {t : List (List Int)} (ht : isTab t = true) {r c : Nat} : ∀ i, i ≤ t.length → StepOk t r c i 0 (tabTo t r c i)
  | 0, _ => ⟨fun a b _ _ hm _ => by unfold met at hm; omega, .inl rfl⟩
  | i + 1, hi => by
    have := row_ok ht (by omega) (tab_ok ht (r := r) (c := c) i (by omega)) (cols t) (Nat.le_refl _)
    unfold tabTo
    cases hs : rowTo t r c i (tabTo t r c i) (cols t) with
    | none => rw [hs] at this; exact this
    | some v =>
      rw [hs] at this
      refine ⟨fun a b ha hb hm hh => this.1 a b ha hb ?_ hh, this.2⟩
      unfold met at hm ⊢
      omega
/-- All entries of the rectangle are the same. -/
def Mono (t : List (List Int)) (r c : Nat) : Prop := ∀ a b a' b', a < t.length → b < cols t → a' < t.length → b' < cols t → has r c a b = true → has r c a' b' = true → ent t a b = ent t a' b'
theorem clear_iff {t : List (List Int)} (ht : isTab t = true) {r c : Nat} : clear t r c = true ↔ Mono t r c := by
  have h := tab_ok ht (r := r) (c := c) t.length (Nat.le_refl _)
  unfold clear clrM
  cases hs : tabTo t r c t.length with
  | none =>
    rw [hs] at h
    obtain ⟨a, b, a', b', ha, hb, ha', hb', h1, h2, hne⟩ := h
    exact ⟨fun h => absurd h (by simp), fun hm => absurd (hm a b a' b' ha hb ha' hb' h1 h2) hne⟩
  | some v =>
    rw [hs] at h
    refine ⟨fun _ a b a' b' ha hb ha' hb' h1 h2 => ?_, fun _ => rfl⟩
    rw [h.1 a b ha hb (.inl ha) h1, h.1 a' b' ha' hb' (.inl ha') h2]
/-- The value of a clear rectangle that is not empty. -/
theorem clrM_val {t : List (List Int)} (ht : isTab t = true) {r c a b : Nat} {v : Int} (h : clrM t r c = some v) (ha : a < t.length) (hb : b < cols t) (hh : has r c a b = true) : ent t a b = v := by
  have h' := tab_ok ht (r := r) (c := c) t.length (Nat.le_refl _)
  unfold clrM at h
  rw [h] at h'
  exact h'.1 a b ha hb (.inl ha) hh

/-! How many. -/
def pop (n : Nat) : Nat := n % 2 + n / 2 % 2 + n / 4 % 2 + n / 8 % 2
theorem pop_subs' : (List.range 16).all (fun a => (subs a).all fun s => decide (pop s + pop (a - s) = pop a ∧ 1 ≤ pop s ∧ 1 ≤ pop (a - s))) = true := by decide +kernel
theorem pop_subs {a s : Nat} (ha : a < 16) (h : s ∈ subs a) : pop s + pop (a - s) = pop a ∧ 1 ≤ pop s ∧ 1 ≤ pop (a - s) :=
  of_decide_eq_true (List.all_eq_true.1 (List.all_eq_true.1 pop_subs' a (List.mem_range.2 ha)) s h)
theorem pop_one' : (List.range 16).all (fun a => !((subs a).isEmpty && decide (a ≠ 0)) || ((List.range 4).any fun k => decide (a = 2 ^ k))) = true := by decide +kernel
theorem pop_one {a : Nat} (ha : a < 16) (h0 : a ≠ 0) (h : subs a = []) : ∃ k, k < 4 ∧ a = 2 ^ k := by
  have := List.all_eq_true.1 pop_one' a (List.mem_range.2 ha)
  rw [h, decide_eq_true h0] at this
  simp only [List.isEmpty_nil, Bool.and_self, Bool.not_true, Bool.false_or, List.any_eq_true, List.mem_range, decide_eq_true_eq] at this
  exact this
theorem pop_le' : (List.range 16).all (fun a => decide (pop a ≤ 4)) = true := by decide +kernel
theorem pop_le {a : Nat} (ha : a < 16) : pop a ≤ 4 := of_decide_eq_true (List.all_eq_true.1 pop_le' a (List.mem_range.2 ha))
theorem pop_pos' : (List.range 16).all (fun a => decide (a = 0) || decide (1 ≤ pop a)) = true := by decide +kernel
theorem pop_pos {a : Nat} (ha : a < 16) (h : a ≠ 0) : 1 ≤ pop a := by
  have := List.all_eq_true.1 pop_pos' a (List.mem_range.2 ha)
  rw [decide_eq_false h] at this
  simpa using this
theorem bit_one' : (List.range 4).all (fun k => (List.range 4).all fun i => decide (2 ^ k / 2 ^ i % 2 = 1) == decide (i = k)) = true := by decide +kernel
theorem bit_one {k i : Nat} (hk : k < 4) (hi : i < 4) : decide (2 ^ k / 2 ^ i % 2 = 1) = decide (i = k) :=
  eq_of_beq (List.all_eq_true.1 (List.all_eq_true.1 bit_one' k (List.mem_range.2 hk)) i (List.mem_range.2 hi))
theorem clear_one {t : List (List Int)} (ht : isTab t = true) {k l : Nat} (hk : k < 4) (hl : l < 4) : clear t (2 ^ k) (2 ^ l) = true := by
  obtain ⟨⟨t1, t2, t3, t4⟩, _⟩ := isTab_iff.1 ht
  refine (clear_iff ht).2 fun a b a' b' ha hb ha' hb' h1 h2 => ?_
  unfold has at h1 h2
  rw [bit_one hk (by omega), bit_one hl (by omega)] at h1 h2
  simp only [Bool.and_eq_true, decide_eq_true_eq] at h1 h2
  rw [h1.1, h1.2, h2.1, h2.2]
theorem cost_sub {t : List (List Int)} {r c : Nat} (hr : r < 16) (hc : c < 16) (hcl : clear t r c = false) {s : Nat} : (s ∈ subs r → len t r c ≤ cost t r c 0 s) ∧ (s ∈ subs c → len t r c ≤ cost t r c 1 s) := by
  rw [len_eq hr hc, hcl, if_neg (by decide)]
  exact ⟨fun h => best_le _ _ (List.mem_append_left _ (List.mem_map_of_mem h)), fun h => best_le _ _ (List.mem_append_right _ (List.mem_map_of_mem h))⟩
theorem len_pop {t : List (List Int)} (ht : isTab t = true) : ∀ (f r c : Nat), r + c < f → r < 16 → c < 16 → r ≠ 0 → c ≠ 0 → len t r c + 2 ≤ pop r + pop c
  | 0, _, _, h, _, _, _, _ => by omega
  | f + 1, r, c, hf, hr, hc, hr0, hc0 => by
    have p1 := pop_pos hr hr0
    have p2 := pop_pos hc hc0
    cases hcl : clear t r c with
    | true => rw [len_eq hr hc, hcl, if_pos rfl]; omega
    | false =>
      have hcs := fun s => cost_sub (t := t) hr hc hcl (s := s)
      cases hs : subs r with
      | cons s l =>
        have hm : s ∈ subs r := by rw [hs]; exact List.mem_cons_self ..
        obtain ⟨m1, m2, _, m4, m5, _⟩ := subs_mem hr hm
        obtain ⟨q1, q2, q3⟩ := pop_subs hr hm
        have h1 := len_pop ht f (r - s) c (by omega) (by omega) hc m4 hc0
        have h2 := len_pop ht f s c (by omega) (by omega) hc m1 hc0
        have h3 := (hcs s).1 hm
        unfold cost at h3
        rw [if_pos rfl] at h3
        omega
      | nil =>
        cases hs2 : subs c with
        | cons s l =>
          have hm : s ∈ subs c := by rw [hs2]; exact List.mem_cons_self ..
          obtain ⟨m1, m2, _, m4, m5, _⟩ := subs_mem hc hm
          obtain ⟨q1, q2, q3⟩ := pop_subs hc hm
          have h1 := len_pop ht f r (c - s) (by omega) hr (by omega) hr0 m4
          have h2 := len_pop ht f r s (by omega) hr (by omega) hr0 m1
          have h3 := (hcs s).2 hm
          unfold cost at h3
          rw [if_neg (by omega)] at h3
          omega
        | nil =>
          obtain ⟨k, hk, rfl⟩ := pop_one hr hr0 hs
          obtain ⟨l, hl, rfl⟩ := pop_one hc hc0 hs2
          rw [clear_one ht hk hl] at hcl
          cases hcl
theorem len_lt {t : List (List Int)} (ht : isTab t = true) {r c : Nat} (hr : r < 16) (hc : c < 16) (hr0 : r ≠ 0) (hc0 : c ≠ 0) : len t r c ≤ 6 := by
  have := len_pop ht (r + c + 1) r c (Nat.lt_succ_self _) hr hc hr0 hc0
  have := pop_le hr
  have := pop_le hc
  omega
theorem top_ok' : (List.range 16).all (fun a => decide (a = 0) || (((a &&& (a - 1)) &&& a == a &&& (a - 1)) && decide (a &&& (a - 1) < a))) = true := by decide +kernel
theorem top_ok {a : Nat} (ha : a < 16) (h0 : a ≠ 0) : (a &&& (a - 1)) &&& a = a &&& (a - 1) ∧ a &&& (a - 1) < a := by
  have := List.all_eq_true.1 top_ok' a (List.mem_range.2 ha)
  rw [decide_eq_false h0] at this
  simp only [Bool.false_or, Bool.and_eq_true, beq_iff_eq, decide_eq_true_eq] at this
  exact this
end Go.Proofs.Ytaapamoglgpocaa.T
