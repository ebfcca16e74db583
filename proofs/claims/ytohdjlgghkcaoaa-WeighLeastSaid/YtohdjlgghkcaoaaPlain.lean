/- Plain facts about weighings: which states a number of weighings settles. No program in sight. -/
namespace Go.Proofs.Ytohdjlgghkcaoaa
namespace W

/-- What is known: coins of each sort, and whether there may be no false one. -/
structure K where
  b : Nat
  h : Nat
  l : Nat
  g : Nat
  n : Bool
  deriving DecidableEq

def K.poss (k : K) : Nat := 2 * k.b + k.h + k.l + (if k.n then 1 else 0)
def K.coins (k : K) : Nat := k.b + k.h + k.l
def K.ok (k : K) : Prop := k.coins ≤ 13 ∧ k.g ≤ 13 ∧ 1 ≤ k.poss

/-- What is put on both pans; the good coins are those that make them level. -/
structure L where
  b0 : Nat
  b1 : Nat
  h0 : Nat
  h1 : Nat
  l0 : Nat
  l1 : Nat
  deriving DecidableEq

def L.left (x : L) : Nat := x.b0 + x.h0 + x.l0
def L.right (x : L) : Nat := x.b1 + x.h1 + x.l1
def L.g0 (x : L) : Nat := x.right - x.left
def L.g1 (x : L) : Nat := x.left - x.right

def fits (k : K) (x : L) : Bool :=
  decide (x.b0 + x.b1 ≤ k.b) && decide (x.h0 + x.h1 ≤ k.h) && decide (x.l0 + x.l1 ≤ k.l) && decide (x.g0 ≤ k.g) && decide (x.g1 ≤ k.g) && decide (1 ≤ x.left + x.g0)

/-- The state in which some coins are left in question. -/
def K.to (k : K) (b h l : Nat) (n : Bool) : K := ⟨b, h, l, min 13 (k.g + k.coins - (b + h + l)), n⟩
def aftL (k : K) (x : L) : K := k.to 0 (x.b0 + x.h0) (x.b1 + x.l1) false
def aftE (k : K) (x : L) : K := k.to (k.b - x.b0 - x.b1) (k.h - x.h0 - x.h1) (k.l - x.l0 - x.l1) k.n
def aftR (k : K) (x : L) : K := k.to 0 (x.b1 + x.h1) (x.b0 + x.l0) false

def pairs (n : Nat) : List (Nat × Nat) := (List.range (n + 1)).flatMap fun a => (List.range (n - a + 1)).map fun b => (a, b)
def loads (k : K) : List L := (pairs k.b).flatMap fun p => (pairs k.h).flatMap fun q => (pairs k.l).map fun r => ⟨p.1, p.2, q.1, q.2, r.1, r.2⟩

def fine (w : K → Bool) (k : K) : Bool := k.poss == 0 || w k
def good (w : K → Bool) (k : K) (x : L) : Bool := fine w (aftL k x) && fine w (aftE k x) && fine w (aftR k x)

def wins : Nat → K → Bool
  | 0, k => k.poss == 1
  | n + 1, k => k.poss == 1 || (decide (k.poss ≤ 3 ^ (n + 1)) && (loads k).any fun x => fits k x && good (wins n) k x)

def best (n : Nat) (k : K) : Option L := (loads k).find? fun x => fits k x && good (wins n) k x

theorem mem_pairs {n a b : Nat} : (a, b) ∈ pairs n ↔ a + b ≤ n := by
  simp only [pairs, List.mem_flatMap, List.mem_range, List.mem_map, Prod.mk.injEq]
  constructor
  · rintro ⟨x, hx, y, hy, rfl, rfl⟩; omega
  · intro h; exact ⟨a, by omega, b, by omega, rfl, rfl⟩

theorem mem_loads {k : K} {x : L} : x ∈ loads k ↔ x.b0 + x.b1 ≤ k.b ∧ x.h0 + x.h1 ≤ k.h ∧ x.l0 + x.l1 ≤ k.l := by
  obtain ⟨b0, b1, h0, h1, l0, l1⟩ := x
  simp only [loads, List.mem_flatMap, List.mem_map, L.mk.injEq, Prod.exists]
  constructor
  · rintro ⟨a, b, hp, c, d, hq, e, f, hr, rfl, rfl, rfl, rfl, rfl, rfl⟩
    exact ⟨mem_pairs.1 hp, mem_pairs.1 hq, mem_pairs.1 hr⟩
  · rintro ⟨h1, h2, h3⟩
    exact ⟨_, _, mem_pairs.2 h1, _, _, mem_pairs.2 h2, _, _, mem_pairs.2 h3, rfl, rfl, rfl, rfl, rfl, rfl⟩

theorem fits_iff {k : K} {x : L} : fits k x = true ↔ x.b0 + x.b1 ≤ k.b ∧ x.h0 + x.h1 ≤ k.h ∧ x.l0 + x.l1 ≤ k.l ∧ x.g0 ≤ k.g ∧ x.g1 ≤ k.g ∧ 1 ≤ x.left + x.g0 := by
  simp only [fits, Bool.and_eq_true, decide_eq_true_eq, and_assoc]

theorem fine_iff {w : K → Bool} {k : K} : fine w k = true ↔ k.poss = 0 ∨ w k = true := by simp [fine]

theorem good_iff {w : K → Bool} {k : K} {x : L} : good w k x = true ↔ fine w (aftL k x) = true ∧ fine w (aftE k x) = true ∧ fine w (aftR k x) = true := by
  simp only [good, Bool.and_eq_true, and_assoc]

theorem wins_succ {n : Nat} {k : K} : wins (n + 1) k = true ↔ k.poss = 1 ∨ (k.poss ≤ 3 ^ (n + 1) ∧ ∃ x, fits k x = true ∧ good (wins n) k x = true) := by
  simp only [wins, Bool.or_eq_true, beq_iff_eq, Bool.and_eq_true, decide_eq_true_eq, List.any_eq_true]
  constructor
  · rintro (h | ⟨h, x, _, hx⟩)
    · exact .inl h
    · exact .inr ⟨h, x, hx⟩
  · rintro (h | ⟨h, x, hx⟩)
    · exact .inl h
    · exact .inr ⟨h, x, mem_loads.2 ⟨(fits_iff.1 hx.1).1, (fits_iff.1 hx.1).2.1, (fits_iff.1 hx.1).2.2.1⟩, hx⟩

theorem wins_zero {k : K} : wins 0 k = true ↔ k.poss = 1 := by simp [wins]

theorem wins_one_poss {n : Nat} {k : K} (h : k.poss = 1) : wins n k = true := by
  cases n with
  | zero => exact wins_zero.2 h
  | succ n => exact wins_succ.2 (.inl h)

theorem pow_pos3 (n : Nat) : 1 ≤ 3 ^ n := Nat.pow_pos (by decide)

theorem wins_le {n : Nat} {k : K} (h : wins n k = true) : k.poss ≤ 3 ^ n := by
  cases n with
  | zero => rw [wins_zero.1 h]; exact Nat.le_refl _
  | succ n =>
    rcases wins_succ.1 h with h | h
    · rw [h]; exact pow_pos3 _
    · exact h.1

theorem pow_le_succ (n : Nat) : 3 ^ n ≤ 3 ^ (n + 1) := Nat.pow_le_pow_right (by decide) (by omega)

theorem wins_mono {n : Nat} : ∀ {k : K}, wins n k = true → wins (n + 1) k = true := by
  induction n with
  | zero => intro k h; exact wins_one_poss (wins_zero.1 h)
  | succ n ih =>
    intro k h
    rcases wins_succ.1 h with h | ⟨hp, x, hf, hg⟩
    · exact wins_one_poss h
    · have up : ∀ k', fine (wins n) k' = true → fine (wins (n + 1)) k' = true := fun k' h' => fine_iff.2 ((fine_iff.1 h').imp id ih)
      obtain ⟨g1, g2, g3⟩ := good_iff.1 hg
      exact wins_succ.2 (.inr ⟨Nat.le_trans hp (pow_le_succ _), x, hf, good_iff.2 ⟨up _ g1, up _ g2, up _ g3⟩⟩)

theorem wins_mono_le {n m : Nat} (hnm : n ≤ m) {k : K} (h : wins n k = true) : wins m k = true := by
  induction hnm with
  | refl => exact h
  | step _ ih => exact wins_mono ih

/-- More good coins do no harm. -/
theorem wins_more {n : Nat} : ∀ {k k' : K}, k'.b = k.b → k'.h = k.h → k'.l = k.l → k'.n = k.n → k.g ≤ k'.g → wins n k = true → wins n k' = true := by
  induction n with
  | zero => intro k k' hb hh hl hn _ h; rw [wins_zero] at h ⊢; simp only [K.poss, hb, hh, hl, hn] at h ⊢; exact h
  | succ n ih =>
    intro k k' hb hh hl hn hg h
    have hp : k'.poss = k.poss := by simp only [K.poss, hb, hh, hl, hn]
    have hc : k'.coins = k.coins := by simp only [K.coins, hb, hh, hl]
    rcases wins_succ.1 h with h | ⟨hle, x, hf, hgd⟩
    · exact wins_one_poss (hp.trans h)
    · obtain ⟨f1, f2, f3, f4, f5, f6⟩ := fits_iff.1 hf
      have up : ∀ b h l n', fine (wins n) (k.to b h l n') = true → fine (wins n) (k'.to b h l n') = true := by
        intro b h l n' h'
        refine fine_iff.2 ((fine_iff.1 h').imp (fun e => e) fun h'' => ih (k := k.to b h l n') rfl rfl rfl rfl ?_ h'')
        simp only [K.to, hc]; omega
      obtain ⟨g1, g2, g3⟩ := good_iff.1 hgd
      refine wins_succ.2 (.inr ⟨by rw [hp]; exact hle, x, fits_iff.2 ⟨by omega, by omega, by omega, by omega, by omega, f6⟩, good_iff.2 ⟨up _ _ _ _ g1, ?_, up _ _ _ _ g3⟩⟩)
      have := up _ _ _ _ g2
      simp only [aftE, hb, hh, hl, hn]; exact this

def K.swap (k : K) : K := ⟨k.b, k.l, k.h, k.g, k.n⟩
def L.swap (x : L) : L := ⟨x.b1, x.b0, x.l1, x.l0, x.h1, x.h0⟩

theorem poss_swap (k : K) : k.swap.poss = k.poss := by unfold K.poss; rw [show k.swap.b = k.b from rfl, show k.swap.h = k.l from rfl, show k.swap.l = k.h from rfl, show k.swap.n = k.n from rfl]; omega
theorem to_swap (k : K) (b h l : Nat) (n : Bool) : (k.to b h l n).swap = k.swap.to b l h n := by
  simp only [K.swap, K.to, K.coins, K.mk.injEq, true_and, and_true]; omega

theorem wins_swap_of {n : Nat} : ∀ {k : K}, wins n k = true → wins n k.swap = true := by
  induction n with
  | zero => intro k h; rw [wins_zero] at h ⊢; rw [poss_swap]; exact h
  | succ n ih =>
    intro k h
    rcases wins_succ.1 h with h | ⟨hle, x, hf, hgd⟩
    · exact wins_one_poss (by rw [poss_swap]; exact h)
    · obtain ⟨f1, f2, f3, f4, f5, f6⟩ := fits_iff.1 hf
      have up : ∀ k', fine (wins n) k' = true → fine (wins n) k'.swap = true := fun k' h' => fine_iff.2 ((fine_iff.1 h').imp (fun e => by rw [poss_swap]; exact e) ih)
      obtain ⟨g1, g2, g3⟩ := good_iff.1 hgd
      simp only [L.g0, L.g1, L.left, L.right] at f4 f5 f6
      refine wins_succ.2 (.inr ⟨by rw [poss_swap]; exact hle, x.swap, fits_iff.2 ?_, good_iff.2 ⟨?_, ?_, ?_⟩⟩)
      · simp only [L.swap, K.swap, L.g0, L.g1, L.left, L.right]; omega
      · have := up _ g1; rw [aftL, to_swap] at this; exact this
      · have := up _ g2; rw [aftE, to_swap] at this
        simp only [aftE, K.swap, L.swap] at this ⊢
        rw [show k.b - x.b1 - x.b0 = k.b - x.b0 - x.b1 by omega, show k.l - x.l1 - x.l0 = k.l - x.l0 - x.l1 by omega, show k.h - x.h1 - x.h0 = k.h - x.h0 - x.h1 by omega]
        exact this
      · have := up _ g3; rw [aftR, to_swap] at this; exact this

theorem wins_swap {n : Nat} {k : K} : wins n k.swap = wins n k := by
  rw [Bool.eq_iff_iff]
  exact ⟨fun h => by have := wins_swap_of h; exact this, wins_swap_of⟩

/-- Heavy and light coins alone, a good one by: as many as results. -/
theorem wins_hl {n : Nat} : ∀ {h l g : Nat}, 1 ≤ h + l → h + l ≤ 3 ^ n → 1 ≤ g → wins n ⟨0, h, l, g, false⟩ = true := by
  induction n with
  | zero => intro h l g h1 h2 _; rw [wins_zero]; simp only [K.poss]; simp at h2; simp; omega
  | succ n ih =>
    intro h l g h1 h2 hg
    by_cases hs : h + l ≤ 3 ^ n
    · exact wins_mono (ih h1 hs hg)
    · by_cases h11 : h = 1 ∧ l = 1
      · obtain ⟨rfl, rfl⟩ := h11
        refine wins_succ.2 (.inr ⟨by simpa [K.poss] using h2, ⟨0, 0, 1, 0, 0, 0⟩, fits_iff.2 ?_, good_iff.2 ⟨fine_iff.2 (.inr (ih ?_ ?_ ?_)), fine_iff.2 (.inr (ih ?_ ?_ ?_)), fine_iff.2 (.inl ?_)⟩⟩)
        · simp only [L.g0, L.g1, L.left, L.right]; omega
        · simp
        · simpa using pow_pos3 n
        · simp only [K.coins]; omega
        · simp
        · simpa using pow_pos3 n
        · simp only [K.coins]; omega
        · rfl
      · have hpow : 3 ^ (n + 1) = 3 * 3 ^ n := by rw [Nat.pow_succ]; omega
        have hp1 : 1 ≤ 3 ^ n := pow_pos3 n
        have hp3 : n = 0 ∨ 3 ≤ 3 ^ n := by
          cases n with
          | zero => exact .inl rfl
          | succ m => right; have := pow_pos3 m; rw [Nat.pow_succ]; omega
        have hz : n = 0 → 3 ^ n = 1 := fun e => by rw [e]
        generalize 3 ^ n = p at *
        -- s pairs: i of heavy ones, j of light ones
        obtain ⟨i, j, hi, hj, hij1, hij2, hij3⟩ : ∃ i j, 2 * i ≤ h ∧ 2 * j ≤ l ∧ i + j ≤ p ∧ h + l - 2 * (i + j) ≤ p ∧ 1 ≤ i + j := by
          have hsum : (h + l - p + 1) / 2 ≤ h / 2 + l / 2 := by omega
          by_cases hcase : (h + l - p + 1) / 2 ≤ h / 2
          · exact ⟨(h + l - p + 1) / 2, 0, by omega, by omega, by omega, by omega, by omega⟩
          · exact ⟨h / 2, (h + l - p + 1) / 2 - h / 2, by omega, by omega, by omega, by omega, by omega⟩
        have hE : ∀ a b c, 1 ≤ c → fine (wins n) ⟨0, a, b, c, false⟩ = true ∨ ¬ (a + b ≤ p) := by
          intro a b c hc
          by_cases hab : a + b ≤ p
          · left
            rcases Nat.eq_zero_or_pos (a + b) with h0 | h0
            · exact fine_iff.2 (.inl (by simp only [K.poss]; simp; omega))
            · exact fine_iff.2 (.inr (ih h0 hab hc))
          · exact .inr hab
        refine wins_succ.2 (.inr ⟨by simp only [K.poss]; simp; omega, ⟨0, 0, i, i, j, j⟩, fits_iff.2 ?_, good_iff.2 ⟨?_, ?_, ?_⟩⟩)
        · simp only [L.g0, L.g1, L.left, L.right]; omega
        · exact (hE _ _ _ (by simp only [K.coins]; omega)).resolve_right (by simp only []; omega)
        · have := (hE (h - i - i) (l - j - j) (min 13 (g + (0 + h + l) - (0 + (h - i - i) + (l - j - j)))) (by omega)).resolve_right (by omega)
          simpa [aftE, K.to, K.coins] using this
        · exact (hE _ _ _ (by simp only [K.coins]; omega)).resolve_right (by simp only []; omega)

end W
end Go.Proofs.Ytohdjlgghkcaoaa
