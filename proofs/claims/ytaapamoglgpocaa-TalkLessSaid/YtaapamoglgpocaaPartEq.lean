/- Plain: the partings of both are the same; a parting is two covers. -/
import Derived.Test.YtaapamoglgpocaaRCov4
import Derived.Test.YtaapamoglgpocaaPart3
namespace Go.Proofs.Ytaapamoglgpocaa
open Go.RowKit

theorem mem_allRects {t : List (List Int)} (ht : T.isTab t = true) {p : Nat × Nat} : p ∈ allRects t ↔ 1 ≤ p.1 ∧ p.1 < 2 ^ t.length ∧ 1 ≤ p.2 ∧ p.2 < 2 ^ T.cols t := by
  obtain ⟨⟨t1, t2, t3, t4⟩, _⟩ := T.isTab_iff.1 ht
  obtain ⟨C, hC⟩ : ∃ C, C = 2 ^ T.cols t - 1 := ⟨_, rfl⟩
  have hC1 : 1 ≤ C := by
    have : 2 ^ 1 ≤ 2 ^ T.cols t := Nat.pow_le_pow_right (by decide) t3
    omega
  have hR1 : 1 ≤ 2 ^ t.length := Nat.one_le_two_pow
  unfold allRects rectsTo
  rw [← hC, List.mem_map]
  constructor
  · rintro ⟨k, hk, rfl⟩
    rw [List.mem_range] at hk
    unfold rectAt
    have h1 : k / C < 2 ^ t.length - 1 := Nat.div_lt_of_lt_mul (by rw [Nat.mul_comm]; exact hk)
    have h2 := Nat.mod_lt k hC1
    refine ⟨by simp, ?_, by simp, ?_⟩
    · show k / C + 1 < _
      omega
    · show k % C + 1 < _
      omega
  · rintro ⟨h1, h2, h3, h4⟩
    refine ⟨(p.1 - 1) * C + (p.2 - 1), ?_, ?_⟩
    · rw [List.mem_range]
      have : ((p.1 - 1) + 1) * C ≤ (2 ^ t.length - 1) * C := Nat.mul_le_mul_right _ (by omega)
      rw [Nat.succ_mul] at this
      omega
    · rw [rectAt_eq (by omega)]
      apply Prod.ext
      · show p.1 - 1 + 1 = p.1; omega
      · show p.2 - 1 + 1 = p.2; omega
theorem bit_lt {a i n : Nat} (h : a < 2 ^ n) (hb : a.testBit i = true) : i < n := by
  rcases Nat.lt_or_ge i n with h' | h'
  · exact h'
  · rw [Nat.testBit_lt_two_pow (Nat.lt_of_lt_of_le h (Nat.pow_le_pow_right (by decide) h'))] at hb
    cases hb
theorem whole_test {t : List (List Int)} (ht : T.isTab t = true) (e : Nat) : (bitsN (2 ^ t.length - 1) (2 ^ T.cols t - 1)).testBit e = (decide (e / 4 < t.length) && decide (e % 4 < T.cols t)) := by
  obtain ⟨⟨t1, t2, t3, t4⟩, _⟩ := T.isTab_iff.1 ht
  rw [bitsN_test, has_tb, Nat.testBit_two_pow_sub_one, Nat.testBit_two_pow_sub_one]
  by_cases h : e < 16
  · simp [h]
  · have : ¬ e / 4 < t.length := by omega
    simp [h, this]
/-- A rectangle's entries lie in the table. -/
theorem rect_in {t : List (List Int)} {r c e : Nat} (hr : r < 2 ^ t.length) (hc : c < 2 ^ T.cols t) (h : (bitsN r c).testBit e = true) : e / 4 < t.length ∧ e % 4 < T.cols t ∧ e < 16 ∧ T.has r c (e / 4) (e % 4) = true := by
  rw [bitsN_test, Bool.and_eq_true, decide_eq_true_eq] at h
  have h2 := h.2
  rw [has_tb, Bool.and_eq_true] at h2
  exact ⟨bit_lt hr h2.1, bit_lt hc h2.2, h.1, h.2⟩
theorem rect_some {t : List (List Int)} (ht : T.isTab t = true) {r c : Nat} (hr1 : 1 ≤ r) (hr : r < 2 ^ t.length) (hc1 : 1 ≤ c) (hc : c < 2 ^ T.cols t) : ∃ e, (bitsN r c).testBit e = true := by
  obtain ⟨⟨t1, t2, t3, t4⟩, _⟩ := T.isTab_iff.1 ht
  obtain ⟨i, hi⟩ := Nat.exists_testBit_of_ne_zero (x := r) (by omega)
  obtain ⟨j, hj⟩ := Nat.exists_testBit_of_ne_zero (x := c) (by omega)
  have h1 := bit_lt hr hi
  have h2 := bit_lt hc hj
  refine ⟨i * 4 + j, ?_⟩
  rw [bitsN_test, has_tb, show (i * 4 + j) / 4 = i by omega, show (i * 4 + j) % 4 = j by omega, hi, hj]
  have : i * 4 + j < 16 := by omega
  simp [this]
theorem clear_same {t : List (List Int)} (ht : T.isTab t = true) {r c e e' : Nat} (hr : r < 2 ^ t.length) (hc : c < 2 ^ T.cols t) (hcl : T.clear t r c = true) (h : (bitsN r c).testBit e = true) (h' : (bitsN r c).testBit e' = true) : T.ent t (e / 4) (e % 4) = T.ent t (e' / 4) (e' % 4) := by
  obtain ⟨a1, a2, _, a4⟩ := rect_in hr hc h
  obtain ⟨b1, b2, _, b4⟩ := rect_in hr hc h'
  exact (T.clear_iff ht).1 hcl _ _ _ _ a1 a2 b1 b2 a4 b4
/-- The clear rectangles as sets. -/
def IsRect (t : List (List Int)) (s : Nat) : Prop := ∃ r c, 1 ≤ r ∧ r < 2 ^ t.length ∧ 1 ≤ c ∧ c < 2 ^ T.cols t ∧ T.clear t r c = true ∧ s = bitsN r c
theorem least_isSet {t : List (List Int)} (ht : T.isTab t = true) {s : Nat} : IsSet (allRects t) (fun p => bitsN p.1 p.2) (fun p => T.clear t p.1 p.2) s ↔ IsRect t s := by
  constructor
  · rintro ⟨p, hp, h1, h2⟩
    obtain ⟨k1, k2, k3, k4⟩ := (mem_allRects ht).1 hp
    exact ⟨p.1, p.2, k1, k2, k3, k4, h1, h2.symm⟩
  · rintro ⟨r, c, k1, k2, k3, k4, h1, h2⟩
    exact ⟨(r, c), (mem_allRects ht).2 ⟨k1, k2, k3, k4⟩, h1, h2.symm⟩
theorem few_isSet {t : List (List Int)} {v : Int} {s : Nat} : IsSet (setsN t v) id (fun _ => true) s ↔ s ∈ setsN t v := by
  constructor
  · rintro ⟨p, hp, _, h2⟩
    rw [← h2]; exact hp
  · exact fun h => ⟨s, h, rfl, rfl⟩
theorem mem_sets {t : List (List Int)} {v : Int} {s : Nat} : s ∈ setsN t v ↔ IsRect t s ∧ ∀ e, s.testBit e = true → (entN t v).testBit e = true := by
  rw [mem_setsN]
  constructor
  · rintro ⟨r, c, h1, h2, h3, h4, h5, rfl⟩
    unfold rectOk at h5
    rw [Bool.and_eq_true, decide_eq_true_eq, andn_zero (bitsN_lt _ _) (entN_lt _ _)] at h5
    exact ⟨⟨r, c, h1, h2, h3, h4, h5.1, rfl⟩, h5.2⟩
  · rintro ⟨⟨r, c, h1, h2, h3, h4, h5, rfl⟩, h6⟩
    refine ⟨r, c, h1, h2, h3, h4, ?_, rfl⟩
    unfold rectOk
    rw [Bool.and_eq_true, decide_eq_true_eq, andn_zero (bitsN_lt _ _) (entN_lt _ _)]
    exact ⟨h5, h6⟩
theorem IsRect.lt {t : List (List Int)} {s : Nat} (h : IsRect t s) : s < 65536 := by
  obtain ⟨r, c, _, _, _, _, _, rfl⟩ := h
  exact bitsN_lt _ _
/-- Each rectangle lies in the entries of one value. -/
theorem rect_value {t : List (List Int)} (ht : T.isTab t = true) {s e : Nat} (h : IsRect t s) (he : s.testBit e = true) : ∀ i, s.testBit i = true → (entN t (T.ent t (e / 4) (e % 4))).testBit i = true := by
  obtain ⟨⟨t1, t2, t3, t4⟩, _⟩ := T.isTab_iff.1 ht
  obtain ⟨r, c, h1, h2, h3, h4, h5, rfl⟩ := h
  intro i hi
  obtain ⟨a1, a2, _, _⟩ := rect_in h2 h4 hi
  rw [entN_test i t2, decide_eq_true a1, decide_eq_true a2, clear_same ht h2 h4 h5 hi he]
  simp
theorem single_rect {t : List (List Int)} (ht : T.isTab t = true) {e : Nat} (h1 : e / 4 < t.length) (h2 : e % 4 < T.cols t) : IsRect t (2 ^ e) := by
  obtain ⟨⟨t1, t2, t3, t4⟩, _⟩ := T.isTab_iff.1 ht
  refine ⟨2 ^ (e / 4), 2 ^ (e % 4), Nat.one_le_two_pow, Nat.pow_lt_pow_right (by decide) h1, Nat.one_le_two_pow, Nat.pow_lt_pow_right (by decide) h2, T.clear_one ht (by omega) (by omega), ?_⟩
  apply Nat.eq_of_testBit_eq
  intro i
  rw [bitsN_test, has_tb, Nat.testBit_two_pow, Nat.testBit_two_pow, Nat.testBit_two_pow, ← Bool.decide_and, ← Bool.decide_and]
  apply decide_eq_decide.2
  omega
theorem single_sets {t : List (List Int)} (ht : T.isTab t = true) {v : Int} {e : Nat} (h : (entN t v).testBit e = true) : 2 ^ e ∈ setsN t v := by
  obtain ⟨⟨t1, t2, t3, t4⟩, _⟩ := T.isTab_iff.1 ht
  have h' := h
  rw [entN_test e t2, Bool.and_eq_true, Bool.and_eq_true, decide_eq_true_eq, decide_eq_true_eq, decide_eq_true_eq] at h'
  refine mem_sets.2 ⟨single_rect ht h'.1.1 h'.1.2, fun i hi => ?_⟩
  rw [Nat.testBit_two_pow, decide_eq_true_eq] at hi
  rw [← hi]; exact h
theorem ent_or {t : List (List Int)} (ht : T.isTab t = true) (e : Nat) : (bitsN (2 ^ t.length - 1) (2 ^ T.cols t - 1)).testBit e = ((entN t 0).testBit e || (entN t 1).testBit e) := by
  obtain ⟨⟨t1, t2, t3, t4⟩, _⟩ := T.isTab_iff.1 ht
  rw [whole_test ht, entN_test e t2, entN_test e t2]
  have hv := T.ent_val ht (i := e / 4) (j := e % 4)
  rcases (show T.ent t (e / 4) (e % 4) = 0 ∨ T.ent t (e / 4) (e % 4) = 1 by omega) with h | h
  · rw [h]; simp
  · rw [h]; simp
theorem ent_not {t : List (List Int)} (ht : T.isTab t = true) {e : Nat} (h : (entN t 0).testBit e = true) : (entN t 1).testBit e = false := by
  obtain ⟨⟨t1, t2, t3, t4⟩, _⟩ := T.isTab_iff.1 ht
  rw [entN_test e t2, Bool.and_eq_true, decide_eq_true_eq] at h
  rw [entN_test e t2, h.2]
  simp
/-- The sets of a list that lie in the entries of a value. -/
def pickV (t : List (List Int)) (v : Int) (l : List Nat) : List Nat := l.filter fun s => decide (andnN s (entN t v) = 0)
theorem pickV_parts {t : List (List Int)} (ht : T.isTab t = true) {l : List Nat} (hl : ∀ s ∈ l, IsRect t s) {v : Int} (hin : ∀ e, (entN t v).testBit e = true → (bitsN (2 ^ t.length - 1) (2 ^ T.cols t - 1)).testBit e = true) (h1 : Parts true l (bitsN (2 ^ t.length - 1) (2 ^ T.cols t - 1))) (h2 : OnceOk true l) :
    (∀ s ∈ pickV t v l, s ∈ setsN t v) ∧ Parts true (pickV t v l) (entN t v) ∧ OnceOk true (pickV t v l) := by
  obtain ⟨⟨t1, t2, t3, t4⟩, _⟩ := T.isTab_iff.1 ht
  have hle : ∀ e, (pickV t v l).countP (fun s => s.testBit e) ≤ l.countP (fun s => s.testBit e) := fun e => List.filter_sublist.countP_le
  refine ⟨fun s hs => ?_, fun e => ?_, fun ho e => Nat.le_trans (hle e) (h2 ho e)⟩
  · obtain ⟨hs1, hs2⟩ := List.mem_filter.1 hs
    rw [decide_eq_true_eq, andn_zero (hl s hs1).lt (entN_lt _ _)] at hs2
    exact mem_sets.2 ⟨hl s hs1, hs2⟩
  · cases he : (entN t v).testBit e with
    | true =>
      refine .inl ⟨rfl, ?_⟩
      have hw := hin e he
      rcases h1 e with h | h
      · obtain ⟨s, hs, hse⟩ := List.countP_pos_iff.1 h.2
        refine tested_le (s := s) (List.mem_filter.2 ⟨hs, ?_⟩) hse
        rw [decide_eq_true_eq, andn_zero (hl s hs).lt (entN_lt _ _)]
        intro i hi
        have := rect_value ht (hl s hs) hse i hi
        have he' := he
        rw [entN_test e t2, Bool.and_eq_true, decide_eq_true_eq] at he'
        rw [he'.2] at this
        exact this
      · rw [hw] at h; cases h.1
    | false =>
      refine .inr ⟨rfl, fun _ => ?_⟩
      rw [List.countP_eq_zero]
      intro s hs hse
      obtain ⟨hs1, hs2⟩ := List.mem_filter.1 hs
      rw [decide_eq_true_eq, andn_zero (hl s hs1).lt (entN_lt _ _)] at hs2
      rw [hs2 e hse] at he
      cases he
theorem pickV_len {t : List (List Int)} (ht : T.isTab t = true) {l : List Nat} (hl : ∀ s ∈ l, IsRect t s) : (pickV t 0 l).length + (pickV t 1 l).length ≤ l.length := by
  unfold pickV
  induction l with
  | nil => simp
  | cons s l ih =>
    have ih := ih fun s hs => hl s (List.mem_cons_of_mem _ hs)
    have hs := hl s (List.mem_cons_self ..)
    have hno : ¬ (andnN s (entN t 0) = 0 ∧ andnN s (entN t 1) = 0) := by
      rintro ⟨h0, h1⟩
      rw [andn_zero hs.lt (entN_lt _ _)] at h0 h1
      obtain ⟨r, c, k1, k2, k3, k4, _, rfl⟩ := hs
      obtain ⟨e, he⟩ := rect_some ht k1 k2 k3 k4
      have := ent_not ht (h0 e he)
      rw [h1 e he] at this
      cases this
    rw [List.filter_cons, List.filter_cons]
    by_cases h0 : andnN s (entN t 0) = 0
    · have h1 : ¬ andnN s (entN t 1) = 0 := fun h => hno ⟨h0, h⟩
      simp only [h0, h1, decide_true, decide_false, if_true, Bool.false_eq_true, if_false, List.length_cons]
      omega
    · by_cases h1 : andnN s (entN t 1) = 0
      · simp only [h0, h1, decide_true, decide_false, if_true, Bool.false_eq_true, if_false, List.length_cons]
        omega
      · simp only [h0, h1, decide_false, Bool.false_eq_true, if_false, List.length_cons]
        omega
theorem few_list {t : List (List Int)} (ht : T.isTab t = true) (v : Int) (once : Bool) : ∃ l, (∀ s ∈ l, s ∈ setsN t v) ∧ Parts once l (entN t v) ∧ OnceOk once l ∧ l.length = fewN (setsN t v) once (entN t v) := by
  obtain ⟨l, h1, h2, h3, h4⟩ := ex_upper (fewN_rec (S := setsN t v) (fun _ => setsN_lt) once) (entN t v + 1) (entN t v) (Nat.lt_succ_self _) (entN_lt _ _) (fun e he => few_isSet.2 (single_sets ht he))
  exact ⟨l, fun s hs => few_isSet.1 (h1 s hs), h2, h3, h4⟩
theorem few_low {t : List (List Int)} {v : Int} {once : Bool} {l : List Nat} (h1 : ∀ s ∈ l, s ∈ setsN t v) (h2 : Parts once l (entN t v)) (h3 : OnceOk once l) : fewN (setsN t v) once (entN t v) ≤ l.length :=
  ex_lower (fewN_rec (S := setsN t v) (fun _ => setsN_lt) once) l.length (entN t v) l rfl (entN_lt _ _) (fun s hs => few_isSet.2 (h1 s hs)) h2 h3
theorem part_list {t : List (List Int)} (ht : T.isTab t = true) : ∃ l, (∀ s ∈ l, IsRect t s) ∧ Parts true l (bitsN (2 ^ t.length - 1) (2 ^ T.cols t - 1)) ∧ OnceOk true l ∧ l.length = partN t := by
  obtain ⟨l, h1, h2, h3, h4⟩ := ex_upper (leastN_rec t) (bitsN (2 ^ t.length - 1) (2 ^ T.cols t - 1) + 1) _ (Nat.lt_succ_self _) (bitsN_lt _ _) (fun e he => (least_isSet ht).2 (by
    rw [whole_test ht, Bool.and_eq_true, decide_eq_true_eq, decide_eq_true_eq] at he
    exact single_rect ht he.1 he.2))
  exact ⟨l, fun s hs => (least_isSet ht).1 (h1 s hs), h2, h3, h4⟩
theorem part_low {t : List (List Int)} (ht : T.isTab t = true) {l : List Nat} (h1 : ∀ s ∈ l, IsRect t s) (h2 : Parts true l (bitsN (2 ^ t.length - 1) (2 ^ T.cols t - 1))) (h3 : OnceOk true l) : partN t ≤ l.length :=
  ex_lower (leastN_rec t) l.length _ l rfl (bitsN_lt _ _) (fun s hs => (least_isSet ht).2 (h1 s hs)) h2 h3
theorem Parts.weak {once : Bool} {l : List Nat} {left : Nat} (h : Parts true l left) : Parts once l left := fun e => by
  rcases h e with h | h
  · exact .inl h
  · exact .inr ⟨h.1, fun _ => h.2 rfl⟩
/-- A parting of the table parts the entries of both values. -/
theorem part_both {t : List (List Int)} (ht : T.isTab t = true) (once : Bool) : fewN (setsN t 0) once (entN t 0) + fewN (setsN t 1) once (entN t 1) ≤ partN t := by
  obtain ⟨l, h1, h2, h3, h4⟩ := part_list ht
  have h0 := pickV_parts ht h1 (v := 0) (fun e he => by rw [ent_or ht, he]; rfl) h2 h3
  have h5 := pickV_parts ht h1 (v := 1) (fun e he => by rw [ent_or ht, he]; simp) h2 h3
  have hlen := pickV_len ht h1
  have l0 := few_low (once := once) h0.1 h0.2.1.weak (fun _ => h0.2.2 rfl)
  have l1 := few_low (once := once) h5.1 h5.2.1.weak (fun _ => h5.2.2 rfl)
  omega
theorem part_eq {t : List (List Int)} (ht : T.isTab t = true) : partR t = partN t := by
  refine Nat.le_antisymm ?_ ?_
  · have := part_both ht true
    show 0 + fewV t 0 + fewV t 1 ≤ _
    unfold fewV
    omega
  · obtain ⟨l0, a1, a2, a3, a4⟩ := few_list ht 0 true
    obtain ⟨l1, b1, b2, b3, b4⟩ := few_list ht 1 true
    have := part_low ht (l := l0 ++ l1) (fun s hs => by
      rcases List.mem_append.1 hs with h | h
      · exact (mem_sets.1 (a1 s h)).1
      · exact (mem_sets.1 (b1 s h)).1) (fun e => by
      rw [ent_or ht, List.countP_append]
      have k0 := a2 e
      have k1 := b2 e
      cases he : (entN t 0).testBit e with
      | true =>
        rw [he] at k0
        rcases k0 with h | h
        · exact .inl ⟨rfl, by omega⟩
        · cases h.1
      | false =>
        rw [he] at k0
        rcases k0 with h | h
        · cases h.1
        · rw [h.2 rfl, Nat.zero_add, Bool.false_or]; exact k1) (fun _ e => by
      rw [List.countP_append]
      have k0 := a2 e
      have k1 := b2 e
      have c0 := a3 rfl e
      have c1 := b3 rfl e
      cases he : (entN t 0).testBit e with
      | true =>
        have hn := ent_not ht he
        rw [hn] at k1
        rcases k1 with h | h
        · cases h.1
        · rw [h.2 rfl]; omega
      | false =>
        rw [he] at k0
        rcases k0 with h | h
        · cases h.1
        · rw [h.2 rfl]; omega)
    rw [List.length_append, a4, b4] at this
    show _ ≤ 0 + fewV t 0 + fewV t 1
    unfold fewV
    omega
end Go.Proofs.Ytaapamoglgpocaa
