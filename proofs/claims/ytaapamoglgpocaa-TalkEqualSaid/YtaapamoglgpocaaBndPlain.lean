/- Plain: the law of TalkBounded: how one jury's words bound the talk. -/
import Derived.Test.YtaapamoglgpocaaOnce
import Derived.Test.YtaapamoglgpocaaOver
namespace Go.Proofs.Ytaapamoglgpocaa

/-- The set of the numbers below 4 that fulfil something. -/
def setN (f : Nat → Bool) : Nat := (if f 0 = true then 1 else 0) + (if f 1 = true then 2 else 0) + (if f 2 = true then 4 else 0) + (if f 3 = true then 8 else 0)
theorem setN_lt (f : Nat → Bool) : setN f < 16 := by
  unfold setN
  split <;> split <;> split <;> split <;> omega
theorem setN_bit (f : Nat → Bool) {i : Nat} (hi : i < 4) : setN f / 2 ^ i % 2 = 1 ↔ f i = true := by
  unfold setN
  match i, hi with
  | 0, _ => cases f 0 <;> cases f 1 <;> cases f 2 <;> cases f 3 <;> decide
  | 1, _ => cases f 0 <;> cases f 1 <;> cases f 2 <;> cases f 3 <;> decide
  | 2, _ => cases f 0 <;> cases f 1 <;> cases f 2 <;> cases f 3 <;> decide
  | 3, _ => cases f 0 <;> cases f 1 <;> cases f 2 <;> cases f 3 <;> decide
theorem sub_bits' : (List.range 16).all (fun a => (List.range 16).all fun s => !(decide (s ≠ 0) && decide (s ≠ a) && (List.range 4).all fun j => !decide (s / 2 ^ j % 2 = 1) || decide (a / 2 ^ j % 2 = 1)) || decide (s ∈ T.subs a)) = true := by decide +kernel
theorem sub_bits {a s : Nat} (hs : s < 16) (ha : a < 16) (h0 : s ≠ 0) (h1 : s ≠ a) (h : ∀ j, j < 4 → s / 2 ^ j % 2 = 1 → a / 2 ^ j % 2 = 1) : s ∈ T.subs a := by
  have := List.all_eq_true.1 (List.all_eq_true.1 sub_bits' a (List.mem_range.2 ha)) s (List.mem_range.2 hs)
  have hb : ((List.range 4).all fun j => !decide (s / 2 ^ j % 2 = 1) || decide (a / 2 ^ j % 2 = 1)) = true := List.all_eq_true.2 fun j hj => by
    by_cases hx : s / 2 ^ j % 2 = 1
    · simp [hx, h j (List.mem_range.1 hj) hx]
    · simp [hx]
  rw [hb] at this
  simpa [h0, h1] using this
theorem diff_bit' : (List.range 16).all (fun a => (T.subs a).all fun s => (List.range 4).all fun j => !decide ((a - s) / 2 ^ j % 2 = 1) || (decide (a / 2 ^ j % 2 = 1) && decide (s / 2 ^ j % 2 ≠ 1))) = true := by decide +kernel
theorem diff_bit {a s j : Nat} (ha : a < 16) (hs : s ∈ T.subs a) (hj : j < 4) (h : (a - s) / 2 ^ j % 2 = 1) : a / 2 ^ j % 2 = 1 ∧ ¬ (s / 2 ^ j % 2 = 1) := by
  have := List.all_eq_true.1 (List.all_eq_true.1 (List.all_eq_true.1 diff_bit' a (List.mem_range.2 ha)) s hs) j (List.mem_range.2 hj)
  simpa [h] using this
def lineR (t : List (List Int)) (i : Nat) : List Int := t.getD i []
theorem lineR_ent {t : List (List Int)} {i j : Nat} (_ : j < T.cols t) : T.ent t i j = (lineR t i).getD j 0 := rfl
def lineC (t : List (List Int)) (j : Nat) : List Int := t.map (·.getD j 0)
theorem lineC_ent {t : List (List Int)} {i j : Nat} (hi : i < t.length) : T.ent t i j = (lineC t j).getD i 0 := by
  unfold lineC T.ent
  rw [List.getD_eq_getElem?_getD (l := t.map _), List.getElem?_map, List.getD_eq_getElem?_getD (l := t), List.getElem?_eq_getElem hi]
  rfl

theorem uni_rows {t : List (List Int)} (ht : T.isTab t = true) {r c : Nat} (hw : Within t r c) (hag : ∀ i i' j, i < t.length → i' < t.length → j < T.cols t → r / 2 ^ i % 2 = 1 → r / 2 ^ i' % 2 = 1 → c / 2 ^ j % 2 = 1 → T.ent t i j = T.ent t i' j) : T.len t r c ≤ 1 := by
  obtain ⟨⟨t1, t2, t3, t4⟩, _⟩ := T.isTab_iff.1 ht
  obtain ⟨w1, w2, w3, w4, w5, w6⟩ := id hw
  cases hcl : T.clear t r c with
  | true => rw [T.len_eq w5 w6, if_pos hcl]; omega
  | false =>
    obtain ⟨i0, hi0, hb0⟩ := bit_of ⟨t1, t2⟩ w5 w1 w3
    have hs16 := setN_lt (fun j => decide (c / 2 ^ j % 2 = 1) && decide (T.ent t i0 j = 1) && decide (j < T.cols t))
    obtain ⟨s, hs⟩ : ∃ s, s = setN (fun j => decide (c / 2 ^ j % 2 = 1) && decide (T.ent t i0 j = 1) && decide (j < T.cols t)) := ⟨_, rfl⟩
    rw [← hs] at hs16
    have hbs : ∀ j, j < 4 → (s / 2 ^ j % 2 = 1 ↔ c / 2 ^ j % 2 = 1 ∧ T.ent t i0 j = 1 ∧ j < T.cols t) := fun j hj => by
      rw [hs, setN_bit _ hj]
      simp [and_assoc]
    have hmono : ∀ k : Int, (∀ j, j < T.cols t → c / 2 ^ j % 2 = 1 → T.ent t i0 j = k) → T.clear t r c = true := fun k hk => (T.clear_iff ht).2 fun a b a' b' ha hb ha' hb' h h' => by
      rw [has_iff] at h h'
      rw [hag a i0 b ha hi0 hb h.1 hb0 h.2, hag a' i0 b' ha' hi0 hb' h'.1 hb0 h'.2, hk b hb h.2, hk b' hb' h'.2]
    have h0 : s ≠ 0 := fun e => by
      rw [hmono 0 (fun j hj hc => by
        have hn : ¬ (s / 2 ^ j % 2 = 1) := by rw [e]; simp
        rw [hbs j (by omega)] at hn
        have hv := T.ent_val ht (i := i0) (j := j)
        have : T.ent t i0 j ≠ 1 := fun he => hn ⟨hc, he, hj⟩
        omega)] at hcl
      cases hcl
    have h1 : s ≠ c := fun e => by
      rw [hmono 1 (fun j hj hc => by
        rw [← e] at hc
        exact ((hbs j (by omega)).1 hc).2.1)] at hcl
      cases hcl
    have hsub : s ∈ T.subs c := sub_bits hs16 w6 h0 h1 (fun j hj h => ((hbs j hj).1 h).1)
    have hle := (T.cost_sub w5 w6 hcl (s := s)).2 hsub
    have hm := T.subs_mem w6 hsub
    have clr : ∀ x, x < 16 → (∀ j, j < T.cols t → x / 2 ^ j % 2 = 1 → c / 2 ^ j % 2 = 1) → (∃ k : Int, ∀ j, j < T.cols t → x / 2 ^ j % 2 = 1 → T.ent t i0 j = k) → T.len t r x = 0 := fun x hx hxc ⟨k, hk⟩ => by
      rw [T.len_eq w5 hx, if_pos]
      refine (T.clear_iff ht).2 fun a b a' b' ha hb ha' hb' h h' => ?_
      rw [has_iff] at h h'
      rw [hag a i0 b ha hi0 hb h.1 hb0 (hxc b hb h.2), hag a' i0 b' ha' hi0 hb' h'.1 hb0 (hxc b' hb' h'.2), hk b hb h.2, hk b' hb' h'.2]
    have e1 := clr s hs16 (fun j hj h => ((hbs j (by omega)).1 h).1) ⟨1, fun j hj h => ((hbs j (by omega)).1 h).2.1⟩
    have e2 := clr (c - s) (by omega) (fun j hj h => (diff_bit w6 hsub (by omega) h).1) ⟨0, fun j hj h => by
      obtain ⟨u1, u2⟩ := diff_bit w6 hsub (show j < 4 by omega) h
      rw [hbs j (by omega)] at u2
      have hv := T.ent_val ht (i := i0) (j := j)
      have : T.ent t i0 j ≠ 1 := fun he => u2 ⟨u1, he, hj⟩
      omega⟩
    unfold T.cost at hle
    rw [if_neg (by decide), e1, e2] at hle
    exact hle

/-- Rows of few kinds: as many words as it takes to name a kind, and one. -/
theorem kinds_rows {t : List (List Int)} (ht : T.isTab t = true) {c : Nat} : ∀ (k : Nat) (L : List (List Int)) (r : Nat), Within t r c → L.length ≤ 2 ^ k → (∀ i, i < t.length → r / 2 ^ i % 2 = 1 → lineR t i ∈ L) → T.len t r c ≤ k + 1
  | 0, L, r, hw, hL, hin => uni_rows ht hw fun i i' j hi hi' hj h h' _ => by
    have e1 := hin i hi h
    have e2 := hin i' hi' h'
    match L, hL, e1, e2 with
    | [], _, e1, _ => cases e1
    | [x], _, e1, e2 =>
      rw [List.mem_singleton] at e1 e2
      rw [lineR_ent hj, lineR_ent hj, e1, e2]
    | _ :: _ :: _, hL, _, _ => simp at hL
  | k + 1, L, r, hw, hL, hin => by
    obtain ⟨⟨t1, t2, t3, t4⟩, _⟩ := T.isTab_iff.1 ht
    obtain ⟨w1, w2, w3, w4, w5, w6⟩ := id hw
    have hp : 2 ^ (k + 1) = 2 * 2 ^ k := by rw [Nat.pow_succ]; omega
    cases hcl : T.clear t r c with
    | true => rw [T.len_eq w5 w6, if_pos hcl]; omega
    | false =>
      have hs16 := setN_lt (fun i => decide (r / 2 ^ i % 2 = 1) && decide (lineR t i ∈ L.take (2 ^ k)) && decide (i < t.length))
      obtain ⟨s, hs⟩ : ∃ s, s = setN (fun i => decide (r / 2 ^ i % 2 = 1) && decide (lineR t i ∈ L.take (2 ^ k)) && decide (i < t.length)) := ⟨_, rfl⟩
      rw [← hs] at hs16
      have hbs : ∀ i, i < 4 → (s / 2 ^ i % 2 = 1 ↔ r / 2 ^ i % 2 = 1 ∧ lineR t i ∈ L.take (2 ^ k) ∧ i < t.length) := fun i hi => by
        rw [hs, setN_bit _ hi]
        simp [and_assoc]
      have hrest : ∀ i, i < t.length → r / 2 ^ i % 2 = 1 → ¬ (s / 2 ^ i % 2 = 1) → lineR t i ∈ L.drop (2 ^ k) := fun i hi h hn => by
        rw [hbs i (by omega)] at hn
        have hm := hin i hi h
        rw [← List.take_append_drop (2 ^ k) L] at hm
        rcases List.mem_append.1 hm with h' | h'
        · exact absurd ⟨h, h', hi⟩ hn
        · exact h'
      by_cases h0 : s = 0
      · have := kinds_rows ht k (L.drop (2 ^ k)) r hw (by rw [List.length_drop]; omega) (fun i hi h => hrest i hi h (by rw [h0]; simp))
        omega
      · by_cases h1 : s = r
        · have := kinds_rows ht k (L.take (2 ^ k)) r hw (by rw [List.length_take]; omega) (fun i hi h => by
            rw [← h1] at h
            exact ((hbs i (by omega)).1 h).2.1)
          omega
        · have hsub : s ∈ T.subs r := sub_bits hs16 w5 h0 h1 (fun j hj h => ((hbs j hj).1 h).1)
          have hle := (T.cost_sub w5 w6 hcl (s := s)).1 hsub
          have hm := T.subs_mem w5 hsub
          have e1 := kinds_rows ht k (L.take (2 ^ k)) s ⟨h0, w2, by omega, w4, hs16, w6⟩ (by rw [List.length_take]; omega) (fun i hi h => ((hbs i (by omega)).1 h).2.1)
          have e2 := kinds_rows ht k (L.drop (2 ^ k)) (r - s) ⟨by omega, w2, by omega, w4, by omega, w6⟩ (by rw [List.length_drop]; omega) (fun i hi h => by
            obtain ⟨u1, u2⟩ := diff_bit w5 hsub (show i < 4 by omega) h
            exact hrest i hi u1 u2)
          unfold T.cost at hle
          rw [if_pos rfl] at hle
          omega


theorem uniqT_mem (t : List (List Int)) : ∀ n, n ≤ t.length → ∀ i, i < n → t.getD i [] ∈ uniqT (t.take n)
  | 0, _, i, h => by omega
  | n + 1, h, i, hi => by
    have e : t.take (n + 1) = t.take n ++ [t.getD n []] := by
      rw [List.take_add_one, List.getElem?_eq_getElem (by omega), List.getD_eq_getElem?_getD, List.getElem?_eq_getElem (by omega)]
      rfl
    rw [e, uniqT_snoc]
    by_cases hin : i = n
    · subst hin
      by_cases ha : (uniqT (t.take i)).any (fun s => decide (t.getD i [] = s)) = true
      · rw [if_pos ha]
        obtain ⟨s, hs, hd⟩ := List.any_eq_true.1 ha
        rw [of_decide_eq_true hd]
        exact hs
      · rw [if_neg ha]
        exact List.mem_append_right _ (List.mem_singleton.2 rfl)
    · have ih := uniqT_mem t n (by omega) i (by omega)
      split
      · exact ih
      · exact List.mem_append_left _ ih
theorem uniqT_all {t : List (List Int)} {i : Nat} (hi : i < t.length) : t.getD i [] ∈ uniqT t := by
  have := uniqT_mem t t.length (Nat.le_refl _) i hi
  rwa [List.take_length] at this
theorem words_pow {d : Nat} (h : d ≤ 4) : d ≤ 2 ^ wordsN d := by
  rcases (show d = 0 ∨ d = 1 ∨ d = 2 ∨ d = 3 ∨ d = 4 by omega) with rfl | rfl | rfl | rfl | rfl <;> decide
theorem len_once {t : List (List Int)} (ht : T.isTab t = true) : lenT t ≤ onceN t + 1 := by
  obtain ⟨⟨t1, t2, t3, t4⟩, _⟩ := T.isTab_iff.1 ht
  have hl := uniqT_len t t.length (Nat.le_refl _)
  rw [List.take_length] at hl
  exact kinds_rows ht _ (uniqT t) _ (whole_within ht) (words_pow (by omega)) (fun i hi _ => uniqT_all hi)
theorem overT_get {t : List (List Int)} {j : Nat} (hj : j < T.cols t) : (overT t).getD j [] = lineC t j := by
  unfold overT overTo lineC
  rw [List.getD_eq_getElem?_getD, List.getElem?_map, List.getElem?_range hj]
  rfl
theorem overT_length (t : List (List Int)) : (overT t).length = T.cols t := overTo_len _ _
/-- The length is 0 just where all values are the same. -/
theorem len_zero {t : List (List Int)} (ht : T.isTab t = true) {xs : List Nd} (h : Pl t (2 ^ t.length - 1) (2 ^ T.cols t - 1) 0 xs) : lenT t = 0 ↔ ¬ ((∃ i j, i < t.length ∧ j < T.cols t ∧ T.ent t i j = 0) ∧ ∃ i j, i < t.length ∧ j < T.cols t ∧ T.ent t i j = 1) := by
  have hw := whole_within ht
  have key : lenT t = 0 ↔ T.clear t (2 ^ t.length - 1) (2 ^ T.cols t - 1) = true := by
    unfold lenT
    constructor
    · intro h0
      generalize 2 ^ t.length - 1 = r at *
      generalize 2 ^ T.cols t - 1 = c at *
      cases h with
      | leaf h => unfold T.clear; rw [h]; rfl
      | fork hcl hg _ _ => have := cost_parts hg; omega
    · intro hcl
      rw [T.len_eq hw.2.2.2.2.1 hw.2.2.2.2.2, if_pos hcl]
  rw [key, T.clear_iff ht]
  constructor
  · rintro hm ⟨⟨i, j, hi, hj, h0⟩, i', j', hi', hj', h1⟩
    have := hm i j i' j' hi hj hi' hj' (whole_has ht hi hj) (whole_has ht hi' hj')
    omega
  · intro hn a b a' b' ha hb ha' hb' _ _
    have v1 := T.ent_val ht (i := a) (j := b)
    have v2 := T.ent_val ht (i := a') (j := b')
    by_cases he : T.ent t a b = T.ent t a' b'
    · exact he
    · exfalso
      rcases (show (T.ent t a b = 0 ∧ T.ent t a' b' = 1) ∨ (T.ent t a b = 1 ∧ T.ent t a' b' = 0) by omega) with ⟨h1, h2⟩ | ⟨h1, h2⟩
      · exact hn ⟨⟨a, b, ha, hb, h1⟩, a', b', ha', hb', h2⟩
      · exact hn ⟨⟨a', b', ha', hb', h2⟩, a, b, ha, hb, h1⟩
theorem over_isTab {t : List (List Int)} (ht : T.isTab t = true) : T.isTab (overT t) = true := by
  obtain ⟨⟨t1, t2, t3, t4⟩, hr⟩ := T.isTab_iff.1 ht
  have hc : T.cols (overT t) = t.length := by
    have e : T.cols (overT t) = ((overT t).getD 0 []).length := rfl
    rw [e, overT_get (by omega)]
    unfold lineC
    rw [List.length_map]
  refine T.isTab_iff.2 ⟨⟨by rw [overT_length]; exact t3, by rw [overT_length]; exact t4, by rw [hc]; exact t1, by rw [hc]; exact t2⟩, fun r hrm => ?_⟩
  obtain ⟨j, hj, he⟩ := List.getElem_of_mem hrm
  rw [overT_length] at hj
  have e : r = lineC t j := by
    rw [← he, ← overT_get hj, List.getD_eq_getElem?_getD, List.getElem?_eq_getElem (by rw [overT_length]; exact hj)]
    rfl
  rw [hc, e, T.rowOk_iff]
  refine ⟨by unfold lineC; rw [List.length_map], fun x hx => ?_⟩
  unfold lineC at hx
  obtain ⟨row, hrow, rfl⟩ := List.mem_map.1 hx
  obtain ⟨i, hi, hie⟩ := List.getElem_of_mem hrow
  have := T.ent_val ht (i := i) (j := j)
  unfold T.ent at this
  rw [List.getD_eq_getElem?_getD (l := t), List.getElem?_eq_getElem hi, Option.getD_some, hie] at this
  exact this
theorem over_ent {t : List (List Int)} {i j : Nat} (hi : i < t.length) (hj : j < T.cols t) : T.ent (overT t) j i = T.ent t i j := by
  rw [lineC_ent hi]
  unfold T.ent
  rw [overT_get hj]
theorem over_cols {t : List (List Int)} (ht : T.isTab t = true) : T.cols (overT t) = t.length := by
  obtain ⟨⟨t1, t2, t3, t4⟩, _⟩ := T.isTab_iff.1 ht
  have e : T.cols (overT t) = ((overT t).getD 0 []).length := rfl
  rw [e, overT_get (by omega)]
  unfold lineC
  rw [List.length_map]
theorem over_clear {t : List (List Int)} (ht : T.isTab t = true) (r c : Nat) : T.clear (overT t) c r = T.clear t r c := by
  rw [Bool.eq_iff_iff, T.clear_iff (over_isTab ht), T.clear_iff ht]
  unfold T.Mono
  rw [overT_length, over_cols ht]
  constructor
  · intro h a b a' b' ha hb ha' hb' hh hh'
    rw [has_iff] at hh hh'
    have := h b a b' a' hb ha hb' ha' (has_iff.2 ⟨hh.2, hh.1⟩) (has_iff.2 ⟨hh'.2, hh'.1⟩)
    rwa [over_ent ha hb, over_ent ha' hb'] at this
  · intro h a b a' b' ha hb ha' hb' hh hh'
    rw [has_iff] at hh hh'
    rw [over_ent hb ha, over_ent hb' ha']
    exact h b a b' a' hb ha hb' ha' (has_iff.2 ⟨hh.2, hh.1⟩) (has_iff.2 ⟨hh'.2, hh'.1⟩)
/-- A talk about a table turned over is as long. -/
theorem over_len {t : List (List Int)} (ht : T.isTab t = true) : ∀ (f r c : Nat), r + c < f → r < 16 → c < 16 → T.len (overT t) c r = T.len t r c
  | 0, _, _, h, _, _ => by omega
  | f + 1, r, c, h, hr, hc => by
    rw [T.len_eq hc hr, T.len_eq hr hc, over_clear ht]
    congr 1
    rw [T.best_append, T.best_append, Nat.min_comm]
    congr 1
    · congr 1
      apply List.map_congr_left
      intro s hs
      have hm := T.subs_mem hr hs
      unfold T.cost
      rw [if_neg (by decide), if_pos rfl, over_len ht f (r - s) c (by omega) (by omega) hc, over_len ht f s c (by omega) (by omega) hc]
    · congr 1
      apply List.map_congr_left
      intro s hs
      have hm := T.subs_mem hc hs
      unfold T.cost
      rw [if_pos rfl, if_neg (by decide), over_len ht f r (c - s) (by omega) hr (by omega), over_len ht f r s (by omega) hr (by omega)]
theorem over_lenT {t : List (List Int)} (ht : T.isTab t = true) : lenT (overT t) = lenT t := by
  have hw := whole_within ht
  unfold lenT
  rw [over_cols ht, overT_length]
  exact over_len ht _ _ _ (Nat.lt_succ_self _) hw.2.2.2.2.1 hw.2.2.2.2.2
theorem len_once_over {t : List (List Int)} (ht : T.isTab t = true) : lenT t ≤ onceN (overT t) + 1 := by
  rw [← over_lenT ht]
  exact len_once (over_isTab ht)
end Go.Proofs.Ytaapamoglgpocaa
