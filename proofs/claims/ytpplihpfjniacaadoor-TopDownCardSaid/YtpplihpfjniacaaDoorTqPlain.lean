/- Plain: two juries that each know half of a set talk no longer than one asks who must ask for its elements. -/
import Derived.Test.YtpplihpfjniacaaDoorTPlain2
namespace Go.Proofs.YtpplihpfjniacaaDoor

namespace E
/-- Whether some set, below k, that agrees with a view is in a family; whether all are. -/
def someTo (h : Nat → Bool) (a i : Nat) : Nat → Bool
  | 0 => false
  | k + 1 => if k &&& a = i then someTo h a i k || h k else someTo h a i k
def allTo (h : Nat → Bool) (a i : Nat) : Nat → Bool
  | 0 => true
  | k + 1 => if k &&& a = i then allTo h a i k && h k else allTo h a i k
theorem someTo_iff (h : Nat → Bool) (a i : Nat) : ∀ k, someTo h a i k = true ↔ ∃ s, s < k ∧ s &&& a = i ∧ h s = true
  | 0 => by simp [someTo]
  | k + 1 => by
    unfold someTo
    have ih := someTo_iff h a i k
    constructor
    · intro hs
      by_cases hk : k &&& a = i
      · rw [if_pos hk, Bool.or_eq_true] at hs
        rcases hs with hs | hs
        · obtain ⟨s, h1, h2, h3⟩ := ih.1 hs
          exact ⟨s, by omega, h2, h3⟩
        · exact ⟨k, by omega, hk, hs⟩
      · rw [if_neg hk] at hs
        obtain ⟨s, h1, h2, h3⟩ := ih.1 hs
        exact ⟨s, by omega, h2, h3⟩
    · rintro ⟨s, h1, h2, h3⟩
      by_cases he : s = k
      · subst he
        rw [if_pos h2, h3, Bool.or_true]
      · have := ih.2 ⟨s, by omega, h2, h3⟩
        split
        · rw [this, Bool.true_or]
        · exact this
theorem allTo_iff (h : Nat → Bool) (a i : Nat) : ∀ k, allTo h a i k = true ↔ ∀ s, s < k → s &&& a = i → h s = true
  | 0 => by simp [allTo]
  | k + 1 => by
    unfold allTo
    have ih := allTo_iff h a i k
    constructor
    · intro hs s h1 h2
      by_cases hk : k &&& a = i
      · rw [if_pos hk, Bool.and_eq_true] at hs
        by_cases he : s = k
        · rw [he]; exact hs.2
        · exact ih.1 hs.1 s (by omega) h2
      · rw [if_neg hk] at hs
        exact ih.1 hs s (by have : s ≠ k := fun e => hk (by rw [← e]; exact h2); omega) h2
    · intro hs
      have := ih.2 fun s h1 h2 => hs s (by omega) h2
      split
      · rename_i hk
        rw [this, hs k (by omega) hk]; rfl
      · exact this
def settled (n : Nat) (h : Nat → Bool) (a i : Nat) : Bool := !someTo h a i (2 ^ n) || allTo h a i (2 ^ n)
theorem settled_iff {n : Nat} {h : Nat → Bool} {a i : Nat} : settled n h a i = true ↔ ∀ s s', s < 2 ^ n → s' < 2 ^ n → s &&& a = i → s' &&& a = i → h s = h s' := by
  unfold settled
  rw [Bool.or_eq_true, Bool.not_eq_true', ← Bool.not_eq_true, someTo_iff, allTo_iff]
  constructor
  · rintro (h1 | h1) s s' a1 a2 b1 b2
    · have e : ∀ s, s < 2 ^ n → s &&& a = i → h s = false := fun s p q => by
        cases hh : h s with
        | false => rfl
        | true => exact absurd ⟨s, p, q, hh⟩ h1
      rw [e s a1 b1, e s' a2 b2]
    · rw [h1 s a1 b1, h1 s' a2 b2]
  · intro hs
    by_cases h1 : ∃ s, s < 2 ^ n ∧ s &&& a = i ∧ h s = true
    · obtain ⟨s, p, q, r⟩ := h1
      exact .inr fun s' p' q' => by rw [hs s' s p' p q' q]; exact r
    · exact .inl h1
/-- The least of what is found at the elements below k that were not asked. -/
def leastTo (n : Nat) (c : Nat → Nat) (a : Nat) : Nat → Nat
  | 0 => n + 1
  | x + 1 => if a / 2 ^ x % 2 = 1 then leastTo n c a x else if c x < leastTo n c a x then c x else leastTo n c a x
theorem leastTo_le {n : Nat} {c : Nat → Nat} {a x : Nat} (hx : ¬ a / 2 ^ x % 2 = 1) : ∀ k, x < k → leastTo n c a k ≤ c x
  | 0, h => absurd h (Nat.not_lt_zero _)
  | k + 1, h => by
    unfold leastTo
    by_cases he : x = k
    · subst he
      rw [if_neg hx]
      split <;> omega
    · have := leastTo_le (n := n) (c := c) hx k (by omega)
      split
      · exact this
      · split <;> omega
theorem leastTo_mem (n : Nat) (c : Nat → Nat) (a : Nat) : ∀ k, leastTo n c a k = n + 1 ∨ ∃ x, x < k ∧ ¬ a / 2 ^ x % 2 = 1 ∧ leastTo n c a k = c x
  | 0 => .inl rfl
  | k + 1 => by
    unfold leastTo
    have ih : leastTo n c a k = n + 1 ∨ ∃ x, x < k + 1 ∧ ¬ a / 2 ^ x % 2 = 1 ∧ leastTo n c a k = c x := by
      rcases leastTo_mem n c a k with h | ⟨x, h1, h2, h3⟩
      · exact .inl h
      · exact .inr ⟨x, by omega, h2, h3⟩
    split
    · exact ih
    · rename_i hk
      split
      · exact .inr ⟨k, by omega, hk, rfl⟩
      · exact ih
theorem leastTo_cong {n : Nat} {c d : Nat → Nat} {a : Nat} : ∀ k, (∀ x, x < k → ¬ a / 2 ^ x % 2 = 1 → c x = d x) → leastTo n c a k = leastTo n d a k
  | 0, _ => rfl
  | k + 1, h => by
    unfold leastTo
    rw [leastTo_cong k fun x hx => h x (by omega)]
    split
    · rfl
    · rename_i hk
      rw [h k (by omega) hk]
def needF (n : Nat) (h : Nat → Bool) : Nat → Nat → Nat → Nat
  | 0, _, _ => 0
  | f + 1, a, i => if settled n h a i = true then 0 else leastTo n (fun x => 1 + max (needF n h f (a ||| 2 ^ x) i) (needF n h f (a ||| 2 ^ x) (i ||| 2 ^ x))) a n
theorem lt_or {n a x : Nat} (ha : a < 2 ^ n) (hx : x < n) : a ||| 2 ^ x < 2 ^ n := Nat.or_lt_two_pow ha (Nat.pow_lt_pow_right (by decide) hx)
theorem or_gt {a x : Nat} (h : ¬ a / 2 ^ x % 2 = 1) : a < a ||| 2 ^ x := by
  refine Nat.lt_of_le_of_ne Nat.left_le_or fun e => h ?_
  have : (a ||| 2 ^ x).testBit x = true := by rw [Nat.testBit_or, Nat.testBit_two_pow_self, Bool.or_true]
  rw [← e] at this
  rw [Nat.testBit_eq_decide_div_mod_eq] at this
  exact of_decide_eq_true this
theorem needF_fuel (n : Nat) (h : Nat → Bool) : ∀ (f g a i : Nat), a < 2 ^ n → 2 ^ n - a ≤ f → 2 ^ n - a ≤ g → needF n h f a i = needF n h g a i
  | 0, _, _, _, ha, hf, _ => by omega
  | _ + 1, 0, _, _, ha, _, hg => by omega
  | f + 1, g + 1, a, i, ha, hf, hg => by
    unfold needF
    split
    · rfl
    · refine leastTo_cong n fun x hx hax => ?_
      have h1 := lt_or ha hx
      have h2 := or_gt hax
      rw [needF_fuel n h f g _ i h1 (by omega) (by omega), needF_fuel n h f g _ (i ||| 2 ^ x) h1 (by omega) (by omega)]
def need (n : Nat) (h : Nat → Bool) (a i : Nat) : Nat := needF n h (2 ^ n - a) a i
theorem need_eq {n : Nat} {h : Nat → Bool} {a i : Nat} (ha : a < 2 ^ n) : need n h a i = if settled n h a i = true then 0 else leastTo n (fun x => 1 + max (need n h (a ||| 2 ^ x) i) (need n h (a ||| 2 ^ x) (i ||| 2 ^ x))) a n := by
  unfold need
  rw [show 2 ^ n - a = (2 ^ n - a - 1) + 1 by omega]
  rw [needF]
  split
  · rfl
  · refine leastTo_cong n fun x hx hax => ?_
    have h1 := lt_or ha hx
    have h2 := or_gt hax
    rw [needF_fuel n h _ (2 ^ n - (a ||| 2 ^ x)) _ i h1 (by omega) (by omega), needF_fuel n h _ (2 ^ n - (a ||| 2 ^ x)) _ (i ||| 2 ^ x) h1 (by omega) (by omega)]
end E

/-- The table of a family of four elements: the first jury knows two of them, the second the others. -/
def famT (h : Nat → Bool) : List (List Int) := (List.range 4).map fun r => (List.range 4).map fun c => if h (r ||| c <<< 2) = true then 1 else 0
theorem famT_at (h : Nat → Bool) {r c : Nat} (hr : r < 4) (hc : c < 4) : T.ent (famT h) r c = if h (r ||| c <<< 2) = true then 1 else 0 := by
  have e : (famT h).getD r [] = (List.range 4).map fun c => if h (r ||| c <<< 2) = true then (1 : Int) else 0 := by
    unfold famT
    rw [List.getD_eq_getElem?_getD, List.getElem?_map, List.getElem?_range hr]
    rfl
  unfold T.ent
  rw [e, List.getD_eq_getElem?_getD, List.getElem?_map, List.getElem?_range hc]
  rfl
theorem famT_len (h : Nat → Bool) : (famT h).length = 4 := by simp [famT]
theorem famT_cols (h : Nat → Bool) : T.cols (famT h) = 4 := by simp [T.cols, famT]
theorem famT_tab (h : Nat → Bool) : T.isTab (famT h) = true := by
  rw [T.isTab_iff, famT_len, famT_cols]
  refine ⟨by decide, fun r hr => ?_⟩
  obtain ⟨k, hk, rfl⟩ := List.mem_map.1 hr
  rw [T.rowOk_iff]
  refine ⟨by simp, fun x hx => ?_⟩
  obtain ⟨c, hc, rfl⟩ := List.mem_map.1 hx
  split <;> omega
/-- The rows and columns that agree with a view. -/
def rowM (a i : Nat) : Nat := (List.range 4).foldl (fun m r => if r &&& (a % 4) = i % 4 then m ||| 2 ^ r else m) 0
def colM (a i : Nat) : Nat := (List.range 4).foldl (fun m c => if c &&& (a / 4) = i / 4 then m ||| 2 ^ c else m) 0
theorem cut_ok' : (List.range 16).all (fun a => (List.range 16).all fun i => !(i &&& a == i) || ((List.range 4).all fun x => decide (a / 2 ^ x % 2 = 1) ||
    (((i &&& (a ||| 2 ^ x)) == i) && (((i ||| 2 ^ x) &&& (a ||| 2 ^ x)) == (i ||| 2 ^ x)) &&
      if x < 2 then decide (rowM (a ||| 2 ^ x) (i ||| 2 ^ x) ∈ T.subs (rowM a i)) && decide (rowM a i - rowM (a ||| 2 ^ x) (i ||| 2 ^ x) = rowM (a ||| 2 ^ x) i) && decide (colM (a ||| 2 ^ x) i = colM a i) && decide (colM (a ||| 2 ^ x) (i ||| 2 ^ x) = colM a i)
      else decide (colM (a ||| 2 ^ x) (i ||| 2 ^ x) ∈ T.subs (colM a i)) && decide (colM a i - colM (a ||| 2 ^ x) (i ||| 2 ^ x) = colM (a ||| 2 ^ x) i) && decide (rowM (a ||| 2 ^ x) i = rowM a i) && decide (rowM (a ||| 2 ^ x) (i ||| 2 ^ x) = rowM a i)))) = true := by decide +kernel
theorem cut_ok {a i x : Nat} (ha : a < 16) (hi : i < 16) (hx : x < 4) (h : i &&& a = i) (hax : ¬ a / 2 ^ x % 2 = 1) :
    i &&& (a ||| 2 ^ x) = i ∧ (i ||| 2 ^ x) &&& (a ||| 2 ^ x) = i ||| 2 ^ x ∧
    ((x < 2 ∧ rowM (a ||| 2 ^ x) (i ||| 2 ^ x) ∈ T.subs (rowM a i) ∧ rowM a i - rowM (a ||| 2 ^ x) (i ||| 2 ^ x) = rowM (a ||| 2 ^ x) i ∧ colM (a ||| 2 ^ x) i = colM a i ∧ colM (a ||| 2 ^ x) (i ||| 2 ^ x) = colM a i)
    ∨ (2 ≤ x ∧ colM (a ||| 2 ^ x) (i ||| 2 ^ x) ∈ T.subs (colM a i) ∧ colM a i - colM (a ||| 2 ^ x) (i ||| 2 ^ x) = colM (a ||| 2 ^ x) i ∧ rowM (a ||| 2 ^ x) i = rowM a i ∧ rowM (a ||| 2 ^ x) (i ||| 2 ^ x) = rowM a i)) := by
  have h1 := List.all_eq_true.1 (List.all_eq_true.1 cut_ok' a (List.mem_range.2 ha)) i (List.mem_range.2 hi)
  rw [h] at h1
  simp only [beq_self_eq_true, Bool.not_true, Bool.false_or] at h1
  have h2 := List.all_eq_true.1 h1 x (List.mem_range.2 hx)
  rw [Bool.or_eq_true, decide_eq_true_eq] at h2
  rcases h2 with h2 | h2
  · exact absurd h2 hax
  · rw [Bool.and_eq_true, Bool.and_eq_true] at h2
    refine ⟨eq_of_beq h2.1.1, eq_of_beq h2.1.2, ?_⟩
    by_cases hx2 : x < 2
    · have h3 := h2.2
      rw [if_pos hx2] at h3
      simp only [Bool.and_eq_true, decide_eq_true_eq] at h3
      exact .inl ⟨hx2, h3.1.1.1, h3.1.1.2, h3.1.2, h3.2⟩
    · have h3 := h2.2
      rw [if_neg hx2] at h3
      simp only [Bool.and_eq_true, decide_eq_true_eq] at h3
      exact .inr ⟨by omega, h3.1.1.1, h3.1.1.2, h3.1.2, h3.2⟩
theorem mask_ok' : (List.range 16).all (fun a => (List.range 16).all fun i => !(i &&& a == i) || (decide (rowM a i < 16) && decide (colM a i < 16) && decide (rowM a i ≠ 0) && decide (colM a i ≠ 0) && (List.range 4).all fun r => (List.range 4).all fun c => !T.has (rowM a i) (colM a i) r c || ((r ||| c <<< 2) &&& a == i))) = true := by decide +kernel
theorem mask_ok {a i : Nat} (ha : a < 16) (hi : i < 16) (h : i &&& a = i) : rowM a i < 16 ∧ colM a i < 16 ∧ rowM a i ≠ 0 ∧ colM a i ≠ 0 ∧ ∀ r c, r < 4 → c < 4 → T.has (rowM a i) (colM a i) r c = true → (r ||| c <<< 2) &&& a = i := by
  have h1 := List.all_eq_true.1 (List.all_eq_true.1 mask_ok' a (List.mem_range.2 ha)) i (List.mem_range.2 hi)
  rw [h] at h1
  simp only [beq_self_eq_true, Bool.not_true, Bool.false_or, Bool.and_eq_true, decide_eq_true_eq] at h1
  refine ⟨h1.1.1.1.1, h1.1.1.1.2, h1.1.1.2, h1.1.2, fun r c hr hc hh => ?_⟩
  have h2 := List.all_eq_true.1 (List.all_eq_true.1 h1.2 r (List.mem_range.2 hr)) c (List.mem_range.2 hc)
  rw [hh] at h2
  exact eq_of_beq (by simpa using h2)
theorem cell_lt' : (List.range 4).all (fun r => (List.range 4).all fun c => decide (r ||| c <<< 2 < 16)) = true := by decide +kernel
theorem cell_lt {r c : Nat} (hr : r < 4) (hc : c < 4) : r ||| c <<< 2 < 16 := of_decide_eq_true (List.all_eq_true.1 (List.all_eq_true.1 cell_lt' r (List.mem_range.2 hr)) c (List.mem_range.2 hc))
theorem not_all' : (List.range 15).all (fun a => (List.range 4).any fun x => !decide (a / 2 ^ x % 2 = 1)) = true := by decide +kernel
theorem pop_or' : (List.range 16).all (fun a => (List.range 4).all fun x => decide (a / 2 ^ x % 2 = 1) || decide (T.pop (a ||| 2 ^ x) = T.pop a + 1)) = true := by decide +kernel
theorem settled_full (h : Nat → Bool) {i : Nat} : E.settled 4 h 15 i = true := by
  rw [E.settled_iff]
  intro s s' h1 h2 e1 e2
  have e : ∀ s, s < 16 → s &&& 15 = s := by decide +kernel
  rw [e s h1] at e1
  rw [e s' h2] at e2
  rw [e1, e2]
theorem need_le (h : Nat → Bool) : ∀ (f a i : Nat), 16 - a ≤ f → a < 16 → E.need 4 h a i ≤ 4 - T.pop a
  | 0, _, _, hf, ha => by omega
  | f + 1, a, i, hf, ha => by
    rw [E.need_eq (n := 4) ha]
    split
    · exact Nat.zero_le _
    · rename_i hs
      have h15 : a < 15 := by
        rcases Nat.lt_or_ge a 15 with h' | h'
        · exact h'
        · have : a = 15 := by omega
          subst this
          exact absurd (settled_full h) hs
      obtain ⟨x, hx, hax⟩ := List.any_eq_true.1 (List.all_eq_true.1 not_all' a (List.mem_range.2 h15))
      have hx4 := List.mem_range.1 hx
      have hax' : ¬ a / 2 ^ x % 2 = 1 := by simpa using hax
      have hp := List.all_eq_true.1 (List.all_eq_true.1 pop_or' a (List.mem_range.2 ha)) x hx
      rw [Bool.or_eq_true, decide_eq_true_eq, decide_eq_true_eq] at hp
      have hp' : T.pop (a ||| 2 ^ x) = T.pop a + 1 := hp.resolve_left hax'
      have h1 := E.lt_or (n := 4) ha hx4
      have h2 := E.or_gt hax'
      have i1 := need_le h f (a ||| 2 ^ x) i (by omega) h1
      have i2 := need_le h f (a ||| 2 ^ x) (i ||| 2 ^ x) (by omega) h1
      have p4 := T.pop_le (show a ||| 2 ^ x < 16 from h1)
      refine Nat.le_trans (E.leastTo_le hax' 4 hx4) ?_
      omega
theorem len_need (h : Nat → Bool) : ∀ (f a i : Nat), 16 - a ≤ f → a < 16 → i < 16 → i &&& a = i → T.len (famT h) (rowM a i) (colM a i) ≤ E.need 4 h a i
  | 0, _, _, hf, ha, _, _ => by omega
  | f + 1, a, i, hf, ha, hi, hia => by
    obtain ⟨m1, m2, m3, m4, m5⟩ := mask_ok ha hi hia
    rw [E.need_eq (n := 4) ha]
    by_cases hs : E.settled 4 h a i = true
    · rw [if_pos hs]
      rw [E.settled_iff] at hs
      have : T.clear (famT h) (rowM a i) (colM a i) = true := (T.clear_iff (famT_tab h)).2 fun r c r' c' hr hc hr' hc' h1 h2 => by
        rw [famT_len] at hr hr'
        rw [famT_cols] at hc hc'
        rw [famT_at h hr hc, famT_at h hr' hc', hs _ _ (cell_lt hr hc) (cell_lt hr' hc') (m5 r c hr hc h1) (m5 r' c' hr' hc' h2)]
      rw [T.len_eq m1 m2, if_pos this]
      exact Nat.le_refl _
    · rw [if_neg hs]
      cases hcl : T.clear (famT h) (rowM a i) (colM a i) with
      | true => rw [T.len_eq m1 m2, if_pos hcl]; exact Nat.zero_le _
      | false =>
        rcases E.leastTo_mem 4 (fun x => 1 + max (E.need 4 h (a ||| 2 ^ x) i) (E.need 4 h (a ||| 2 ^ x) (i ||| 2 ^ x))) a 4 with h5 | ⟨x, hx, hax, he⟩
        · have h6 := need_le h _ a i (Nat.le_refl _) ha
          rw [E.need_eq (n := 4) ha, if_neg hs, h5] at h6
          omega
        · rw [he]
          obtain ⟨c1, c2, c3⟩ := cut_ok ha hi hx hia hax
          have h1 := E.lt_or (n := 4) ha hx
          have h2 := E.or_gt hax
          have hix := E.lt_or (n := 4) hi hx
          have i1 := len_need h f (a ||| 2 ^ x) i (by omega) h1 hi c1
          have i2 := len_need h f (a ||| 2 ^ x) (i ||| 2 ^ x) (by omega) h1 hix c2
          rcases c3 with ⟨_, d1, d2, d3, d4⟩ | ⟨_, d1, d2, d3, d4⟩
          · have := (T.cost_sub m1 m2 hcl).1 d1
            unfold T.cost at this
            rw [if_pos rfl, d2] at this
            rw [d3] at i1
            rw [d4] at i2
            omega
          · have := (T.cost_sub m1 m2 hcl).2 d1
            unfold T.cost at this
            rw [if_neg (by decide), d2] at this
            rw [d3] at i1
            rw [d4] at i2
            omega
end Go.Proofs.YtpplihpfjniacaaDoor
