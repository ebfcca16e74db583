/- Plain: what the search of Cover finds is a cover with the fewest rectangles. -/
import Derived.Test.YtaapamoglgpocaaCo1
namespace Go.Proofs.Ytaapamoglgpocaa
open Go.RowKit

theorem covM_sound (S : List (Nat × Nat)) : ∀ (s : Nat) (left : List Pr) (l : List (Nat × Nat)), covM S s left = some l → (∀ x ∈ l, x ∈ S) ∧ l.length ≤ s ∧ ∀ e ∈ left, ∃ x ∈ l, hasP (toP x) e = true
  | 0, left, l, h => by
    rw [covM] at h
    split at h
    · rename_i hn
      cases h
      rw [hn]
      exact ⟨fun x hx => (List.not_mem_nil hx).elim, Nat.le_refl _, fun e he => (List.not_mem_nil he).elim⟩
    · cases h
  | s + 1, left, l, h => by
    by_cases hn : left = []
    · rw [hn, covM_nil] at h
      cases h
      rw [hn]
      exact ⟨fun x hx => (List.not_mem_nil hx).elim, Nat.zero_le _, fun e he => (List.not_mem_nil he).elim⟩
    · rw [covM_succ hn] at h
      obtain ⟨r, hr, ht⟩ := List.exists_of_findSome?_eq_some h
      unfold tryM at ht
      split at ht
      · obtain ⟨l', hl', rfl⟩ := Option.map_eq_some_iff.1 ht
        obtain ⟨h1, h2, h3⟩ := covM_sound S s _ _ hl'
        refine ⟨fun x hx => ?_, by rw [List.length_cons]; omega, fun e he => ?_⟩
        · rcases List.mem_cons.1 hx with rfl | hx
          · exact hr
          · exact h1 x hx
        · cases hh : hasP (toP r) e with
          | true => exact ⟨r, List.mem_cons_self .., hh⟩
          | false =>
            obtain ⟨x, hx, hxe⟩ := h3 e (List.mem_filter.2 ⟨he, by rw [hh]; rfl⟩)
            exact ⟨x, List.mem_cons_of_mem _ hx, hxe⟩
      · cases ht
theorem covM_complete (S : List (Nat × Nat)) : ∀ (s : Nat) (left : List Pr) (L : List (Nat × Nat)), (∀ x ∈ L, x ∈ S) → L.length ≤ s → (∀ e ∈ left, ∃ x ∈ L, hasP (toP x) e = true) → (covM S s left).isSome = true
  | 0, left, L, _, hl, hc => by
    by_cases hn : left = []
    · rw [hn, covM_nil]; rfl
    · obtain ⟨x, hx, _⟩ := hc _ (getDP_mem (List.length_pos_iff.2 hn))
      rw [List.length_eq_zero_iff.1 (Nat.le_zero.1 hl)] at hx
      cases hx
  | s + 1, left, L, hS, hl, hc => by
    by_cases hn : left = []
    · rw [hn, covM_nil]; rfl
    · obtain ⟨x, hx, hxe⟩ := hc _ (getDP_mem (List.length_pos_iff.2 hn))
      rw [covM_succ hn]
      have ih := covM_complete S s (left.filter fun e => !hasP (toP x) e) (L.erase x) (fun y hy => hS y (List.mem_of_mem_erase hy)) (by rw [List.length_erase_of_mem hx]; omega) (fun e he => by
        obtain ⟨he1, he2⟩ := List.mem_filter.1 he
        obtain ⟨y, hy, hye⟩ := hc e he1
        refine ⟨y, (List.mem_erase_of_ne fun h => ?_).2 hy, hye⟩
        rw [h] at hye
        rw [hye] at he2
        cases he2)
      rw [List.findSome?_isSome_iff]
      refine ⟨x, hS x hx, ?_⟩
      unfold tryM
      rw [if_pos hxe]
      simpa using ih
theorem inB_bits {a c R C : Nat} (h1 : a < 16) (h2 : c < 16) (h3 : R < 16) (h4 : C < 16) : inB a c R C = true ↔ (∀ i, a.testBit i = true → R.testBit i = true) ∧ ∀ i, c.testBit i = true → C.testBit i = true := by
  unfold inB
  rw [Bool.and_eq_true, decide_eq_true_eq, decide_eq_true_eq, andn_zero (by omega) (by omega), andn_zero (by omega) (by omega)]
theorem sub_le {a b : Nat} (h : ∀ i, a.testBit i = true → b.testBit i = true) : a ≤ b := by
  have e : a &&& b = a := by
    apply Nat.eq_of_testBit_eq
    intro i
    rw [Nat.testBit_and]
    cases hi : a.testBit i with
    | false => rfl
    | true => rw [h i hi]; rfl
  rw [← e]
  exact Nat.and_le_right
theorem allG_small {t : List (List Int)} (ht : T.isTab t = true) {v : Int} {p : Nat × Nat} (h : p ∈ allG t v) : p.1 < 16 ∧ p.2 < 16 := by
  obtain ⟨⟨t1, t2, t3, t4⟩, _⟩ := T.isTab_iff.1 ht
  have h1 := (allG_mem ht h).1
  have h3 := (pow_le16 t2).2
  have h4 := (pow_le16 t4).2
  omega
/-- Each clear rectangle lies in one that lies in no other one. -/
theorem top_over {t : List (List Int)} (ht : T.isTab t = true) {v : Int} : ∀ (n : Nat) (p : Nat × Nat), 32 ≤ n + (p.1 + p.2) → p ∈ allG t v → ∃ q ∈ topG t v, (∀ i, p.1.testBit i = true → q.1.testBit i = true) ∧ ∀ i, p.2.testBit i = true → q.2.testBit i = true
  | 0, p, hn, hp => by
    have := allG_small ht hp
    omega
  | n + 1, p, hn, hp => by
    by_cases hany : (allG t v).any (outB p) = true
    · obtain ⟨s, hs, ho⟩ := List.any_eq_true.1 hany
      unfold outB at ho
      rw [Bool.and_eq_true, decide_eq_true_eq] at ho
      have hsm := allG_small ht hs
      have hpm := allG_small ht hp
      obtain ⟨b1, b2⟩ := (inB_bits hpm.1 hpm.2 hsm.1 hsm.2).1 ho.2
      have l1 := sub_le b1
      have l2 := sub_le b2
      have hlt : p.1 + p.2 < s.1 + s.2 := by
        rcases Nat.lt_or_ge (p.1 + p.2) (s.1 + s.2) with h | h
        · exact h
        · exfalso
          apply ho.1
          apply Prod.ext <;> omega
      obtain ⟨q, hq, c1, c2⟩ := top_over ht n s (by omega) hs
      exact ⟨q, hq, fun i hi => c1 i (b1 i hi), fun i hi => c2 i (b2 i hi)⟩
    · exact ⟨p, List.mem_filter.2 ⟨hp, by simpa using hany⟩, fun _ h => h, fun _ h => h⟩
theorem topG_sub {t : List (List Int)} {v : Int} {p : Nat × Nat} (h : p ∈ topG t v) : p ∈ allG t v := (List.mem_filter.1 h).1
theorem allG_set {t : List (List Int)} (ht : T.isTab t = true) {v : Int} {p : Nat × Nat} (h : p ∈ allG t v) : bitsN p.1 p.2 ∈ setsN t v ∧ rectI t v (toP p).1 (toP p).2 = true := by
  obtain ⟨⟨h1, h2, h3, h4⟩, h5⟩ := allG_mem ht h
  have hr : rectI t v (p.1 : Int) (p.2 : Int) = true := by
    rw [rectI_clr ht h1 h2 h3 h4, h5]; simp
  refine ⟨?_, hr⟩
  have := (rectI_iff.1 hr).2
  rw [Int.toNat_natCast, Int.toNat_natCast] at this
  exact mem_setsN.2 ⟨p.1, p.2, h1, h2, h3, h4, this, rfl⟩
theorem set_allG {t : List (List Int)} (ht : T.isTab t = true) {v : Int} {s : Nat} (h : s ∈ setsN t v) : ∃ p ∈ allG t v, s = bitsN p.1 p.2 := by
  obtain ⟨r, c, h1, h2, h3, h4, h5, rfl⟩ := mem_setsN.1 h
  refine ⟨(r, c), List.mem_filter.2 ⟨(mem_allRects ht).2 ⟨h1, h2, h3, h4⟩, ?_⟩, rfl⟩
  have hr : rectI t v (r : Int) (c : Int) = true := rectI_iff.2 ⟨⟨by omega, by omega, by omega, by omega⟩, by rw [Int.toNat_natCast, Int.toNat_natCast]; exact h5⟩
  rw [rectI_clr ht h1 h2 h3 h4] at hr
  unfold clrG
  cases hm : T.clrM t r c with
  | none => rw [hm] at hr; cases hr
  | some y =>
    rw [hm] at hr
    have hy : y = v := of_decide_eq_true hr
    exact decide_eq_true (by rw [hy])
theorem toP_has (p : Nat × Nat) (i j : Nat) : hasP (toP p) ((i : Int), (j : Int)) = T.has p.1 p.2 i j := rfl
/-- Whatever covers has at least the fewest. -/
theorem cov_low {t : List (List Int)} (ht : T.isTab t = true) {v : Int} {l : List (Nat × Nat)} (hl : ∀ x ∈ l, x ∈ allG t v) (hc : ∀ e ∈ ents t v, ∃ x ∈ l, hasP (toP x) e = true) : fewN (setsN t v) false (entN t v) ≤ l.length := by
  have := few_low (t := t) (v := v) (once := false) (l := l.map fun p => bitsN p.1 p.2) (fun s hs => by
    obtain ⟨p, hp, rfl⟩ := List.mem_map.1 hs
    exact (allG_set ht (hl p hp)).1) (fun e => by
    cases he : (entN t v).testBit e with
    | false => exact .inr ⟨rfl, fun h => by cases h⟩
    | true =>
      refine .inl ⟨rfl, ?_⟩
      have hx := (ents_bit ht).1 he
      obtain ⟨x, hxl, hxe⟩ := hc _ hx
      refine tested_le (s := bitsN x.1 x.2) (List.mem_map.2 ⟨x, hxl, rfl⟩) ?_
      rw [toP_has] at hxe
      rw [bitsN_test, hxe]
      have := bits_low (entN_lt _ _) he
      simp [this]) (fun h => by cases h)
  rwa [List.length_map] at this
theorem cov_some {t : List (List Int)} (ht : T.isTab t = true) {v : Int} {s : Nat} (h : fewN (setsN t v) false (entN t v) ≤ s) : (covM (topG t v) s (ents t v)).isSome = true := by
  obtain ⟨l, h1, h2, _, h4⟩ := few_list ht v false
  have hL : ∀ (l : List Nat), (∀ s ∈ l, s ∈ setsN t v) → ∃ L : List (Nat × Nat), L.length = l.length ∧ (∀ x ∈ L, x ∈ topG t v) ∧ ∀ s ∈ l, ∃ q ∈ L, ∀ e, s.testBit e = true → (bitsN q.1 q.2).testBit e = true := by
    intro l
    induction l with
    | nil => exact fun _ => ⟨[], rfl, fun x hx => (List.not_mem_nil hx).elim, fun s hs => (List.not_mem_nil hs).elim⟩
    | cons a l ih =>
      intro hl
      obtain ⟨L, k1, k2, k3⟩ := ih fun s hs => hl s (List.mem_cons_of_mem _ hs)
      obtain ⟨p, hp, rfl⟩ := set_allG ht (hl a (List.mem_cons_self ..))
      obtain ⟨q, hq, c1, c2⟩ := top_over ht 32 p (by omega) hp
      refine ⟨q :: L, by rw [List.length_cons, List.length_cons, k1], fun x hx => ?_, fun s hs => ?_⟩
      · rcases List.mem_cons.1 hx with rfl | hx
        · exact hq
        · exact k2 x hx
      · rcases List.mem_cons.1 hs with rfl | hs
        · refine ⟨q, List.mem_cons_self .., fun e he => ?_⟩
          rw [bitsN_test, Bool.and_eq_true, has_tb, Bool.and_eq_true] at he ⊢
          exact ⟨he.1, c1 _ he.2.1, c2 _ he.2.2⟩
        · obtain ⟨y, hy, hye⟩ := k3 s hs
          exact ⟨y, List.mem_cons_of_mem _ hy, hye⟩
  obtain ⟨L, k1, k2, k3⟩ := hL l h1
  refine covM_complete _ s _ L k2 (by omega) fun e he => ?_
  obtain ⟨i, j, hi, hj, rfl, hb⟩ := ents_form ht he
  rcases h2 (4 * i + j) with h | h
  · obtain ⟨a, ha, hae⟩ := List.countP_pos_iff.1 h.2
    obtain ⟨q, hq, hqe⟩ := k3 a ha
    have := hqe _ hae
    rw [bits_has hi hj] at this
    exact ⟨q, hq, this⟩
  · rw [hb] at h; cases h.1
/-- The first size at which something is found: a cover with the fewest. -/
theorem cov_fin {t : List (List Int)} (ht : T.isTab t = true) {v : Int} {s : Nat} {l : List (Nat × Nat)} (hs : s ≤ fewN (setsN t v) false (entN t v)) (h : covM (topG t v) s (ents t v) = some l) : covB t v (l.map toP) = true ∧ l.length = fewN (setsN t v) false (entN t v) ∧ ∀ x ∈ l, x ∈ allG t v := by
  obtain ⟨h1, h2, h3⟩ := covM_sound _ _ _ _ h
  have hall : ∀ x ∈ l, x ∈ allG t v := fun x hx => topG_sub (h1 x hx)
  have hlow := cov_low ht hall h3
  refine ⟨?_, by omega, hall⟩
  unfold covB
  rw [Bool.and_eq_true, List.all_eq_true, List.all_eq_true]
  refine ⟨fun y hy => ?_, fun e he => ?_⟩
  · obtain ⟨x, hx, rfl⟩ := List.mem_map.1 hy
    exact (allG_set ht (hall x hx)).2
  · obtain ⟨x, hx, hxe⟩ := h3 e he
    exact List.any_eq_true.2 ⟨toP x, List.mem_map.2 ⟨x, hx, rfl⟩, hxe⟩
end Go.Proofs.Ytaapamoglgpocaa
