/- Plain facts about weighings, continued: the need, its bound, twelve and thirteen coins. No program in sight. -/
import Derived.Test.YtohdjlgghkcaoaaPlain
namespace Go.Proofs.Ytohdjlgghkcaoaa
namespace W

def need (m : Nat) (k : K) : Option Nat := (List.range m).find? fun n => wins n k

theorem find_range {p : Nat → Bool} {n : Nat} : ∀ {m}, p n = true → (∀ j, j < n → p j = false) → n < m → (List.range m).find? p = some n := by
  intro m hp hl hm
  rw [List.find?_eq_some_iff_append]
  refine ⟨hp, List.range n, (List.range (m - n - 1)).map (fun x => n + 1 + x), ?_, fun a ha => by simp [hl a (List.mem_range.1 ha)]⟩
  rw [show n :: (List.range (m - n - 1)).map (fun x => n + 1 + x) = [n] ++ (List.range (m - n - 1)).map (fun x => n + 1 + x) from rfl, ← List.append_assoc, ← List.range_succ, ← List.range_add]
  congr 1; omega

theorem find_range_none {p : Nat → Bool} {m : Nat} : (List.range m).find? p = none ↔ ∀ j, j < m → p j = false := by
  simp [List.find?_eq_none]

theorem least_of {p : Nat → Bool} : ∀ {m}, (∃ n, n < m ∧ p n = true) → ∃ n, n < m ∧ p n = true ∧ ∀ j, j < n → p j = false := by
  intro m
  induction m with
  | zero => rintro ⟨n, h, _⟩; omega
  | succ m ih =>
    rintro ⟨n, hn, hp⟩
    by_cases h : ∃ n, n < m ∧ p n = true
    · obtain ⟨a, h1, h2, h3⟩ := ih h; exact ⟨a, by omega, h2, h3⟩
    · have hnm : n = m := by
        rcases Nat.lt_or_ge n m with h' | h'
        · exact absurd ⟨n, h', hp⟩ h
        · omega
      subst hnm
      refine ⟨n, by omega, hp, fun j hj => ?_⟩
      cases hj' : p j
      · rfl
      · exact absurd ⟨j, hj, hj'⟩ h

theorem need_some {m n : Nat} {k : K} : need m k = some n ↔ n < m ∧ wins n k = true ∧ ∀ j, j < n → wins j k = false := by
  constructor
  · intro h
    have h0 := List.find?_eq_some_iff_append.1 h
    have hm := List.mem_of_find?_eq_some h
    have hlt := List.mem_range.1 hm
    obtain ⟨a, h1, h2, h3⟩ := least_of (p := fun n => wins n k) ⟨n, hlt, h0.1⟩
    have := find_range (p := fun n => wins n k) h2 h3 h1
    rw [need, this] at h
    obtain rfl := Option.some.inj h
    exact ⟨h1, h2, h3⟩
  · rintro ⟨h1, h2, h3⟩; exact find_range h2 h3 h1

theorem need_none {m : Nat} {k : K} : need m k = none ↔ ∀ j, j < m → wins j k = false := find_range_none

theorem poss_to (k : K) (b h l : Nat) (n : Bool) : (k.to b h l n).poss = 2 * b + h + l + (if n then 1 else 0) := rfl

theorem g_to {k : K} {b h l : Nat} {n : Bool} (hc : k.coins ≤ 13) (hg : 1 ≤ k.g) (hle : b + h + l ≤ k.coins) : 1 ≤ (k.to b h l n).g := by
  simp only [K.to]; omega

/-- With a good coin three weighings settle one coin of each sort. -/
theorem wins_few {h l : Nat} {b : Nat} {n : Bool} {g : Nat} (hb : b ≤ 1) (hh : h ≤ 1) (hl : l ≤ 1) (hg : 1 ≤ g) (hp : 1 ≤ (K.mk b h l g n).poss) : wins 3 ⟨b, h, l, g, n⟩ = true := by
  have step : ∀ (m : Nat) (k : K), 1 ≤ k.poss → k.poss ≤ 3 ^ (m + 1) → 1 ≤ k.g → (∃ x, fits k x = true ∧ good (wins m) k x = true) → wins (m + 1) k = true := fun m k _ h2 _ h3 => wins_succ.2 (.inr ⟨h2, h3⟩)
  -- no coin in question: one possibility
  have z : ∀ m g, wins m ⟨0, 0, 0, g, true⟩ = true := fun m g => wins_one_poss rfl
  -- a light one
  have c1 : ∀ (l : Nat) (g : Nat) (n : Bool), l ≤ 1 → 1 ≤ g → fine (wins 1) ⟨0, 0, l, g, n⟩ = true := by
    intro l g n hl hg
    rcases (show l = 0 ∨ l = 1 by omega) with rfl | rfl
    · cases n
      · exact fine_iff.2 (.inl rfl)
      · exact fine_iff.2 (.inr (z _ _))
    · cases n
      · exact fine_iff.2 (.inr (wins_one_poss rfl))
      · refine fine_iff.2 (.inr (step 0 _ (by simp [K.poss]) (by simp [K.poss]) hg ⟨⟨0, 0, 0, 0, 1, 0⟩, fits_iff.2 ?_, good_iff.2 ⟨fine_iff.2 (.inl rfl), fine_iff.2 (.inr (wins_one_poss rfl)), fine_iff.2 (.inr (wins_one_poss rfl))⟩⟩))
        simp [L.g0, L.g1, L.left, L.right]; omega
  have c2 : ∀ (h l : Nat) (g : Nat) (n : Bool), h ≤ 1 → l ≤ 1 → 1 ≤ g → fine (wins 2) ⟨0, h, l, g, n⟩ = true := by
    intro h l g n hh hl hg
    rcases (show h = 0 ∨ h = 1 by omega) with rfl | rfl
    · exact fine_iff.2 ((fine_iff.1 (c1 l g n hl hg)).imp (fun e => e) wins_mono)
    · refine fine_iff.2 (.inr (step 1 _ ?_ ?_ hg ⟨⟨0, 0, 1, 0, 0, 0⟩, fits_iff.2 ?_, good_iff.2 ⟨fine_iff.2 (.inr (wins_one_poss rfl)), ?_, fine_iff.2 (.inl rfl)⟩⟩))
      · simp only [K.poss]; omega
      · simp only [K.poss]; split <;> omega
      · simp [L.g0, L.g1, L.left, L.right]; omega
      · have := c1 l (min 13 (g + (0 + 1 + l) - (0 + 0 + l))) n hl (by omega)
        simpa [aftE, K.to, K.coins] using this
  rcases (show b = 0 ∨ b = 1 by omega) with rfl | rfl
  · rcases fine_iff.1 (c2 h l g n hh hl hg) with h0 | h0
    · omega
    · exact wins_mono h0
  · refine step 2 _ hp ?_ hg ⟨⟨1, 0, 0, 0, 0, 0⟩, fits_iff.2 ?_, good_iff.2 ⟨fine_iff.2 (.inr (wins_one_poss rfl)), ?_, fine_iff.2 (.inr (wins_one_poss rfl))⟩⟩
    · simp only [K.poss]; split <;> omega
    · simp [L.g0, L.g1, L.left, L.right]; omega
    · have := c2 h l (min 13 (g + (1 + h + l) - (0 + h + l))) n hh hl (by omega)
      simpa [aftE, K.to, K.coins] using this

/-- With a good coin four weighings settle all that is allowed. -/
theorem wins_four {k : K} (hc : k.coins ≤ 13) (hp : 1 ≤ k.poss) (hg : 1 ≤ k.g) : wins 4 k = true := by
  obtain ⟨b, h, l, g, n⟩ := k
  simp only [K.coins] at hc hg
  by_cases hsm : b ≤ 1 ∧ h ≤ 1 ∧ l ≤ 1
  · exact wins_mono (wins_few hsm.1 hsm.2.1 hsm.2.2 hg hp)
  · have hl : ∀ a c g', a + c ≤ 13 → 1 ≤ g' → fine (wins 3) ⟨0, a, c, g', false⟩ = true := by
      intro a c g' hac hg'
      rcases Nat.eq_zero_or_pos (a + c) with h0 | h0
      · exact fine_iff.2 (.inl (by simp only [K.poss]; simp; omega))
      · exact fine_iff.2 (.inr (wins_hl h0 (by omega) hg'))
    refine wins_succ.2 (.inr ⟨by simp only [K.poss]; split <;> omega, ⟨b / 2, b / 2, h / 2, h / 2, l / 2, l / 2⟩, fits_iff.2 ?_, good_iff.2 ⟨?_, ?_, ?_⟩⟩)
    · simp only [L.g0, L.g1, L.left, L.right]; omega
    · exact hl _ _ _ (by simp only []; omega) (by simp only [K.coins]; omega)
    · refine fine_iff.2 ?_
      by_cases h0 : (aftE ⟨b, h, l, g, n⟩ ⟨b / 2, b / 2, h / 2, h / 2, l / 2, l / 2⟩).poss = 0
      · exact .inl h0
      · exact .inr (wins_few (by simp only []; omega) (by simp only []; omega) (by simp only []; omega) (by simp only [K.coins]; omega) (Nat.pos_of_ne_zero h0))
    · exact hl _ _ _ (by simp only []; omega) (by simp only [K.coins]; omega)

/-- Without a good one, but with three coins, five. -/
theorem wins_five {k : K} (hc : k.coins ≤ 13) (hp : 1 ≤ k.poss) (h3 : 3 ≤ k.coins) : wins 5 k = true := by
  rcases Nat.eq_zero_or_pos k.g with hg | hg
  · have four : ∀ b h l n, b + h + l ≤ 13 → b + h + l < k.coins → fine (wins 4) (k.to b h l n) = true := by
      intro b h l n h1 h2
      rcases Nat.eq_zero_or_pos (k.to b h l n).poss with h0 | h0
      · exact fine_iff.2 (.inl h0)
      · exact fine_iff.2 (.inr (wins_four (by simp only [K.to, K.coins]; exact h1) h0 (by simp only [K.to]; omega)))
    obtain ⟨b, h, l, g, n⟩ := k
    simp only [K.coins] at hc h3 four
    have hle : (K.mk b h l g n).poss ≤ 3 ^ 5 := by simp only [K.poss]; split <;> omega
    have fin : ∀ x : L, x.b0 + x.b1 ≤ b → x.h0 + x.h1 ≤ h → x.l0 + x.l1 ≤ l → x.left = 1 → x.right = 1 → wins 5 ⟨b, h, l, g, n⟩ = true := by
      intro x h1 h2 h4 h5 h6
      have e0 : x.g0 = 0 := by simp only [L.g0]; omega
      have e1 : x.g1 = 0 := by simp only [L.g1]; omega
      simp only [L.left, L.right] at h5 h6
      refine wins_succ.2 (.inr ⟨hle, x, fits_iff.2 ⟨h1, h2, h4, by omega, by omega, by simp only [L.left]; omega⟩, good_iff.2 ⟨four _ _ _ _ ?_ ?_, four _ _ _ _ ?_ ?_, four _ _ _ _ ?_ ?_⟩⟩) <;> (try simp only []) <;> omega
    by_cases b2 : 2 ≤ b
    · exact fin ⟨1, 1, 0, 0, 0, 0⟩ b2 (Nat.zero_le _) (Nat.zero_le _) rfl rfl
    by_cases h2 : 2 ≤ h
    · exact fin ⟨0, 0, 1, 1, 0, 0⟩ (Nat.zero_le _) h2 (Nat.zero_le _) rfl rfl
    by_cases l2 : 2 ≤ l
    · exact fin ⟨0, 0, 0, 0, 1, 1⟩ (Nat.zero_le _) (Nat.zero_le _) l2 rfl rfl
    · exact fin ⟨1, 0, 0, 1, 0, 0⟩ (by simp only []; omega) (by simp only []; omega) (Nat.zero_le _) rfl rfl
  · exact wins_mono (wins_four hc hp hg)

theorem wins_small : ∀ b, b < 3 → ∀ h, h < 3 → ∀ l, l < 3 → ∀ n : Bool, b + h + l ≤ 2 → wins 6 ⟨b, h, l, 0, n⟩ = true → wins 5 ⟨b, h, l, 0, n⟩ = true := by decide +kernel

theorem wins_six {k : K} (hc : k.coins ≤ 13) (hp : 1 ≤ k.poss) (h6 : wins 6 k = true) : wins 5 k = true := by
  rcases Nat.eq_zero_or_pos k.g with hg | hg
  · by_cases h3 : 3 ≤ k.coins
    · exact wins_five hc hp h3
    · obtain ⟨b, h, l, g, n⟩ := k
      obtain rfl : g = 0 := hg
      simp only [K.coins] at h3
      exact wins_small b (by omega) h (by omega) l (by omega) n (by omega) h6
  · exact wins_mono (wins_four hc hp hg)

theorem need_eq {k : K} (hc : k.coins ≤ 13) (hp : 1 ≤ k.poss) : need 7 k = need 6 k := by
  cases h : need 6 k with
  | none =>
    rw [need_none] at h ⊢
    intro j hj
    rcases (show j < 6 ∨ j = 6 by omega) with h' | rfl
    · exact h j h'
    · cases h6 : wins 6 k
      · rfl
      · have := wins_six hc hp h6; rw [h 5 (by omega)] at this; cases this
  | some n =>
    obtain ⟨h1, h2, h3⟩ := need_some.1 h
    exact need_some.2 ⟨by omega, h2, h3⟩

/-- The bound by counting. -/
def bound (k : K) : Nat := ((List.range 4).find? fun n => decide (k.poss ≤ 3 ^ n)).getD 4

theorem bound_le {k : K} {n : Nat} (h : k.poss ≤ 3 ^ n) : bound k ≤ n ∨ 4 ≤ n := by
  by_cases hn : n < 4
  · left
    obtain ⟨a, h1, h2, h3⟩ := least_of (p := fun n => decide (k.poss ≤ 3 ^ n)) ⟨n, hn, by simpa using h⟩
    rw [bound, find_range h2 h3 h1]
    rcases Nat.lt_or_ge n a with h' | h'
    · have := h3 n h'; simp at this; omega
    · exact h'
  · exact .inr (by omega)

theorem bound_lt4 {k : K} (hc : k.coins ≤ 13) : bound k < 4 ∧ k.poss ≤ 3 ^ bound k ∧ ∀ j, j < bound k → 3 ^ j < k.poss := by
  have hp : k.poss ≤ 3 ^ 3 := by obtain ⟨b, h, l, g, n⟩ := k; simp only [K.coins, K.poss] at hc ⊢; split <;> omega
  obtain ⟨a, h1, h2, h3⟩ := least_of (p := fun n => decide (k.poss ≤ 3 ^ n)) (m := 4) ⟨3, by omega, by simpa using hp⟩
  have e : bound k = a := by rw [bound, find_range h2 h3 h1]; rfl
  rw [e]
  exact ⟨h1, by simpa using h2, fun j hj => by have := h3 j hj; simp at this; omega⟩

theorem need_bound {k : K} (hc : k.coins ≤ 13) {m n : Nat} (h : need m k = some n) : bound k ≤ n := by
  obtain ⟨_, h2, _⟩ := need_some.1 h
  rcases bound_le (wins_le h2) with h' | h'
  · exact h'
  · have := (bound_lt4 hc).1; omega

theorem need_hl {h l g : Nat} (hc : h + l ≤ 13) (h1 : 1 ≤ h + l) (hg : 1 ≤ g) : need 6 ⟨0, h, l, g, false⟩ = some (bound ⟨0, h, l, g, false⟩) := by
  have hk : (K.mk 0 h l g false).coins ≤ 13 := by simp only [K.coins]; omega
  obtain ⟨b4, bp, bl⟩ := bound_lt4 hk
  refine need_some.2 ⟨by omega, ?_, fun j hj => ?_⟩
  · exact wins_hl h1 (by simp only [K.poss] at bp; simp at bp; omega) hg
  · cases hw : wins j ⟨0, h, l, g, false⟩
    · rfl
    · have := wins_le hw; have := bl j hj; omega

theorem four_two (g : Nat) (hg : 3 ≤ g) (n : Bool) : wins 2 ⟨4, 0, 0, g, n⟩ = true := by
  refine wins_succ.2 (.inr ⟨by simp only [K.poss]; split <;> omega, ⟨3, 0, 0, 0, 0, 0⟩, fits_iff.2 ?_, good_iff.2 ⟨fine_iff.2 (.inr (wins_hl (by simp) (by simp) (by simp only [K.coins]; omega))), fine_iff.2 (.inr ?_), fine_iff.2 (.inr (wins_hl (by simp) (by simp) (by simp only [K.coins]; omega)))⟩⟩)
  · simp [L.g0, L.g1, L.left, L.right]; omega
  · refine wins_succ.2 (.inr ⟨by rw [aftE, poss_to]; cases n <;> simp, ⟨1, 0, 0, 0, 0, 0⟩, fits_iff.2 ?_, good_iff.2 ⟨fine_iff.2 (.inr (wins_one_poss rfl)), ?_, fine_iff.2 (.inr (wins_one_poss rfl))⟩⟩)
    · simp [aftE, K.to, K.coins, L.g0, L.g1, L.left, L.right]; omega
    · cases n
      · exact fine_iff.2 (.inl rfl)
      · exact fine_iff.2 (.inr (wins_one_poss rfl))

theorem need_twelve (n : Bool) : need 6 ⟨12, 0, 0, 0, n⟩ = some 3 := by
  refine need_some.2 ⟨by omega, ?_, fun j hj => ?_⟩
  · refine wins_succ.2 (.inr ⟨by simp only [K.poss]; split <;> omega, ⟨4, 4, 0, 0, 0, 0⟩, by decide +revert, good_iff.2 ⟨fine_iff.2 (.inr (wins_hl (by decide) (by decide) (by decide +revert))), fine_iff.2 (.inr (four_two _ (by decide +revert) _)), fine_iff.2 (.inr (wins_hl (by decide) (by decide) (by decide +revert)))⟩⟩)
  · cases hw : wins j ⟨12, 0, 0, 0, n⟩
    · rfl
    · have h1 := wins_le (wins_mono_le (show j ≤ 2 by omega) hw); simp only [K.poss] at h1; split at h1 <;> omega

theorem need_thirteen_good (n : Bool) (g : Nat) (hg : 1 ≤ g) : need 6 ⟨13, 0, 0, g, n⟩ = some 3 := by
  refine need_some.2 ⟨by omega, ?_, fun j hj => ?_⟩
  · refine wins_succ.2 (.inr ⟨by simp only [K.poss]; split <;> omega, ⟨5, 4, 0, 0, 0, 0⟩, fits_iff.2 ?_, good_iff.2 ⟨fine_iff.2 (.inr (wins_hl (by decide) (by decide) (by simp only [K.coins]; omega))), fine_iff.2 (.inr (four_two _ (by simp only [K.coins]; omega) _)), fine_iff.2 (.inr (wins_hl (by decide) (by decide) (by simp only [K.coins]; omega)))⟩⟩)
    simp [L.g0, L.g1, L.left, L.right]; omega
  · cases hw : wins j ⟨13, 0, 0, g, n⟩
    · rfl
    · have h1 := wins_le (wins_mono_le (show j ≤ 2 by omega) hw); simp only [K.poss] at h1; split at h1 <;> omega

theorem need_thirteen (n : Bool) : need 6 ⟨13, 0, 0, 0, n⟩ = some 4 := by
  have no3 : wins 3 ⟨13, 0, 0, 0, n⟩ = false := by
    cases hw : wins 3 ⟨13, 0, 0, 0, n⟩
    · rfl
    · exfalso
      rcases wins_succ.1 hw with h1 | ⟨_, x, hf, hg⟩
      · simp only [K.poss] at h1; split at h1 <;> omega
      · obtain ⟨f1, f2, f3, f4, f5, f6⟩ := fits_iff.1 hf
        obtain ⟨g1, g2, g3⟩ := good_iff.1 hg
        simp only [L.g0, L.g1, L.left, L.right] at f1 f2 f3 f4 f5 f6
        have q1 : (aftL ⟨13, 0, 0, 0, n⟩ x).poss ≤ 9 := (fine_iff.1 g1).elim (fun e => by omega) (fun e => wins_le e)
        have q2 : (aftE ⟨13, 0, 0, 0, n⟩ x).poss ≤ 9 := (fine_iff.1 g2).elim (fun e => by omega) (fun e => wins_le e)
        rw [aftL, poss_to] at q1
        rw [aftE, poss_to] at q2
        simp only [] at q1 q2
        simp at q1 q2
        obtain ⟨b0, b1, h0, h1, l0, l1⟩ := x
        simp only [] at *
        omega
  refine need_some.2 ⟨by omega, ?_, fun j hj => ?_⟩
  · refine wins_succ.2 (.inr ⟨by simp only [K.poss]; split <;> omega, ⟨4, 4, 0, 0, 0, 0⟩, by decide +revert, good_iff.2 ⟨fine_iff.2 (.inr (wins_hl (by decide) (by decide) (by decide +revert))), fine_iff.2 (.inr ?_), fine_iff.2 (.inr (wins_hl (by decide) (by decide) (by decide +revert)))⟩⟩)
    refine wins_succ.2 (.inr ⟨by cases n <;> decide +revert, ⟨3, 0, 0, 0, 0, 0⟩, by decide +revert, good_iff.2 ⟨fine_iff.2 (.inr (wins_hl (by decide) (by decide) (by decide +revert))), fine_iff.2 (.inr ?_), fine_iff.2 (.inr (wins_hl (by decide) (by decide) (by decide +revert)))⟩⟩)
    refine wins_succ.2 (.inr ⟨by cases n <;> decide +revert, ⟨1, 0, 0, 0, 0, 0⟩, by decide +revert, good_iff.2 ⟨fine_iff.2 (.inr (wins_hl (by decide) (by decide) (by decide +revert))), fine_iff.2 (.inr ?_), fine_iff.2 (.inr (wins_hl (by decide) (by decide) (by decide +revert)))⟩⟩)
    refine wins_succ.2 (.inr ⟨by cases n <;> decide +revert, ⟨1, 0, 0, 0, 0, 0⟩, by decide +revert, good_iff.2 ⟨fine_iff.2 (.inr (wins_one_poss rfl)), ?_, fine_iff.2 (.inr (wins_one_poss rfl))⟩⟩)
    cases n
    · exact fine_iff.2 (.inl rfl)
    · exact fine_iff.2 (.inr (wins_one_poss rfl))
  · cases hw : wins j ⟨13, 0, 0, 0, n⟩
    · rfl
    · have := wins_mono_le (show j ≤ 3 by omega) hw; rw [no3] at this; cases this

theorem never_hl : ∀ m, wins m ⟨0, 1, 1, 0, false⟩ = false := by
  intro m
  induction m with
  | zero => rfl
  | succ m ih =>
    cases hw : wins (m + 1) ⟨0, 1, 1, 0, false⟩
    · rfl
    · exfalso
      rcases wins_succ.1 hw with h1 | ⟨_, x, hf, hg⟩
      · simp [K.poss] at h1
      · obtain ⟨f1, f2, f3, f4, f5, f6⟩ := fits_iff.1 hf
        obtain ⟨g1, g2, g3⟩ := good_iff.1 hg
        obtain ⟨b0, b1, h0, h1, l0, l1⟩ := x
        simp only [L.g0, L.g1, L.left, L.right] at f1 f2 f3 f4 f5 f6
        rcases (show (b0 = 0 ∧ b1 = 0 ∧ h0 = 1 ∧ h1 = 0 ∧ l0 = 0 ∧ l1 = 1) ∨ (b0 = 0 ∧ b1 = 0 ∧ h0 = 0 ∧ h1 = 1 ∧ l0 = 1 ∧ l1 = 0) by omega) with ⟨rfl, rfl, rfl, rfl, rfl, rfl⟩ | ⟨rfl, rfl, rfl, rfl, rfl, rfl⟩
        · rcases fine_iff.1 g1 with h | h
          · exact absurd h (by decide)
          · exact absurd (ih.symm.trans h) (by decide)
        · rcases fine_iff.1 g3 with h | h
          · exact absurd h (by decide)
          · exact absurd (ih.symm.trans h) (by decide)

theorem need_two : need 6 ⟨2, 0, 0, 0, false⟩ = none := by
  refine need_none.2 fun j _ => ?_
  cases j with
  | zero => rfl
  | succ m =>
    cases hw : wins (m + 1) ⟨2, 0, 0, 0, false⟩
    · rfl
    · exfalso
      rcases wins_succ.1 hw with h1 | ⟨_, x, hf, hg⟩
      · simp [K.poss] at h1
      · obtain ⟨f1, f2, f3, f4, f5, f6⟩ := fits_iff.1 hf
        obtain ⟨g1, g2, g3⟩ := good_iff.1 hg
        obtain ⟨b0, b1, h0, h1, l0, l1⟩ := x
        simp only [L.g0, L.g1, L.left, L.right] at f1 f2 f3 f4 f5 f6
        obtain ⟨rfl, rfl, rfl, rfl, rfl, rfl⟩ : b0 = 1 ∧ b1 = 1 ∧ h0 = 0 ∧ h1 = 0 ∧ l0 = 0 ∧ l1 = 0 := by omega
        rcases fine_iff.1 g1 with h | h
        · exact absurd h (by decide)
        · exact absurd ((never_hl m).symm.trans h) (by decide)

theorem need_awake : need 6 ⟨0, 2, 0, 0, false⟩ = some 1 := by
  refine need_some.2 ⟨by omega, ?_, fun j hj => ?_⟩
  · exact wins_succ.2 (.inr ⟨by decide, ⟨0, 0, 1, 1, 0, 0⟩, by decide +revert, good_iff.2 ⟨fine_iff.2 (.inr (wins_one_poss rfl)), fine_iff.2 (.inl rfl), fine_iff.2 (.inr (wins_one_poss rfl))⟩⟩)
  · obtain rfl : j = 0 := by omega
    rfl

/-- The possibilities behind a weighing sum to those before. -/
theorem poss_sum {k : K} {x : L} (hf : fits k x = true) : (aftL k x).poss + (aftE k x).poss + (aftR k x).poss = k.poss := by
  obtain ⟨f1, f2, f3, _⟩ := fits_iff.1 hf
  rw [aftL, aftE, aftR, poss_to, poss_to, poss_to]
  unfold K.poss
  simp
  omega

end W
end Go.Proofs.Ytohdjlgghkcaoaa
