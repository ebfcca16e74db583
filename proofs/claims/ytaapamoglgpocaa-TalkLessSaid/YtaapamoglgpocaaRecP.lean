/- Plain: talks part the table; the rank is no greater than a parting. -/
import Derived.Test.YtaapamoglgpocaaCoP
import Derived.Test.YtaapamoglgpocaaTurnW
namespace Go.Proofs.Ytaapamoglgpocaa
open Go.RowKit

def rowIn (s i : Nat) : Bool := (List.range 4).any fun q => s.testBit (4 * i + q)
def colIn (s q : Nat) : Bool := (List.range 4).any fun i => s.testBit (4 * i + q)
def vecS (s : Nat) : Nat → Int := fun q => if colIn s q = true then 1 else 0
def rsum (i : Nat) : List Nat → Nat → Int
  | [] => fun _ => 0
  | s :: l => fun q => (if rowIn s i = true then 1 else 0) * vecS s q + 1 * rsum i l q
theorem rsum_spn {n : Nat} {W : (Nat → Int) → Prop} (i : Nat) : ∀ l : List Nat, (∀ s ∈ l, W (vecS s)) → Spn 0 n W (rsum i l)
  | [], _ => .zero fun _ _ => Int.dvd_refl 0
  | s :: l, h => .lin _ _ (.base (h s (List.mem_cons_self ..))) (rsum_spn i l fun s hs => h s (List.mem_cons_of_mem _ hs))
theorem some_bit {r n : Nat} (h : n ≤ 4) (h1 : 1 ≤ r) (hr : r < 2 ^ n) : ∃ i, i < 4 ∧ r.testBit i = true := by
  obtain ⟨i, hi⟩ := Nat.exists_testBit_of_ne_zero (x := r) (by omega)
  have := bit_lt hr hi
  exact ⟨i, by omega, hi⟩
theorem rect_bits {t : List (List Int)} (ht : T.isTab t = true) {s : Nat} (hs : IsRect t s) {i q : Nat} (hi : i < 4) (hq : q < 4) : s.testBit (4 * i + q) = (rowIn s i && colIn s q) := by
  obtain ⟨⟨t1, t2, t3, t4⟩, _⟩ := T.isTab_iff.1 ht
  obtain ⟨r, c, h1, h2, h3, h4, _, rfl⟩ := hs
  obtain ⟨i0, hi0, hr0⟩ := some_bit t2 h1 h2
  obtain ⟨q0, hq0, hc0⟩ := some_bit t4 h3 h4
  have e1 : rowIn (bitsN r c) i = r.testBit i := by
    unfold rowIn
    rw [Bool.eq_iff_iff, List.any_eq_true]
    constructor
    · rintro ⟨q', hq', h⟩
      rw [bits_has hi (List.mem_range.1 hq'), has_tb, Bool.and_eq_true] at h
      exact h.1
    · intro h
      exact ⟨q0, List.mem_range.2 hq0, by rw [bits_has hi hq0, has_tb, h, hc0]; rfl⟩
  have e2 : colIn (bitsN r c) q = c.testBit q := by
    unfold colIn
    rw [Bool.eq_iff_iff, List.any_eq_true]
    constructor
    · rintro ⟨i', hi', h⟩
      rw [bits_has (List.mem_range.1 hi') hq, has_tb, Bool.and_eq_true] at h
      exact h.2
    · intro h
      exact ⟨i0, List.mem_range.2 hi0, by rw [bits_has hi0 hq, has_tb, h, hr0]; rfl⟩
  rw [e1, e2, bits_has hi hq, has_tb]
theorem rsum_count {t : List (List Int)} (ht : T.isTab t = true) {i q : Nat} (hi : i < 4) (hq : q < 4) : ∀ l : List Nat, (∀ s ∈ l, IsRect t s) → rsum i l q = ((l.countP fun s => s.testBit (4 * i + q) : Nat) : Int)
  | [], _ => rfl
  | s :: l, h => by
    have ih := rsum_count ht hi hq l fun s hs => h s (List.mem_cons_of_mem _ hs)
    show (if rowIn s i = true then 1 else 0) * vecS s q + 1 * rsum i l q = _
    rw [ih, List.countP_cons, rect_bits ht (h s (List.mem_cons_self ..)) hi hq]
    unfold vecS
    cases rowIn s i <;> cases colIn s q <;> simp <;> omega
/-- The rank is no greater than a parting. -/
theorem rank_part {t : List (List Int)} (ht : T.isTab t = true) : rankN 0 t ≤ partN t := by
  obtain ⟨⟨t1, t2, t3, t4⟩, _⟩ := T.isTab_iff.1 ht
  obtain ⟨l, h1, h2, h3, h4⟩ := part_list ht
  obtain ⟨k1, k2, k3⟩ := pickV_parts ht h1 (v := 1) (fun e he => by rw [ent_or ht, he]; simp) h2 h3
  have hlen : (pickV t 1 l).length ≤ l.length := List.length_filter_le _ _
  have hrk := (rankN_base (.inl rfl) ht).1.1
  have hW : Rk 0 (T.cols t) (· ∈ (pickV t 1 l).map vecS) (rankN 0 t) := hrk.spn prim_zero fun x ⟨i, hi, hx⟩ => by
    subst hx
    refine (rsum_spn i (pickV t 1 l) fun s hs => List.mem_map.2 ⟨s, hs, rfl⟩).cong fun c hc => ?_
    rw [rsum_count ht (by omega) (by omega) _ fun s hs => ((mem_sets).1 (k1 s hs)).1]
    have he := k2 (4 * i + c)
    have ho := k3 rfl (4 * i + c)
    rw [entN_test _ t2, show (4 * i + c) / 4 = i by omega, show (4 * i + c) % 4 = c by omega] at he
    have hv := T.ent_val ht (i := i) (j := c)
    by_cases h1' : T.ent t i c = 1
    · rcases he with he | he
      · rw [h1', show ((pickV t 1 l).countP fun s => s.testBit (4 * i + c)) = 1 by omega]; exact ⟨0, by decide⟩
      · rw [h1'] at he
        simp [hi, hc] at he
    · rcases he with he | he
      · have := he.1
        simp [h1'] at this
      · rw [he.2 rfl, show T.ent t i c = 0 by omega]; exact ⟨0, by decide⟩
  have := hW.le
  rw [List.length_map] at this
  omega

theorem sub_cut' : (List.range 16).all (fun a => (T.subs a).all fun s => (List.range 4).all fun j => (a.testBit j == (s.testBit j || (a - s).testBit j)) && !(s.testBit j && (a - s).testBit j)) = true := by decide +kernel
theorem sub_cut {a s j : Nat} (ha : a < 16) (hs : s ∈ T.subs a) (hj : j < 4) : a.testBit j = (s.testBit j || (a - s).testBit j) ∧ (s.testBit j && (a - s).testBit j) = false := by
  have := List.all_eq_true.1 (List.all_eq_true.1 (List.all_eq_true.1 sub_cut' a (List.mem_range.2 ha)) s hs) j (List.mem_range.2 hj)
  rw [Bool.and_eq_true, beq_iff_eq, Bool.not_eq_true'] at this
  exact this
/-- Two partings of two parts are one of the whole. -/
theorem parts_join {l1 l2 : List Nat} {a b c : Nat} (h1 : Parts true l1 a) (h2 : Parts true l2 b) (o1 : OnceOk true l1) (o2 : OnceOk true l2) (hc : ∀ e, c.testBit e = (a.testBit e || b.testBit e)) (hd : ∀ e, (a.testBit e && b.testBit e) = false) : Parts true (l1 ++ l2) c ∧ OnceOk true (l1 ++ l2) := by
  refine ⟨fun e => ?_, fun ho e => ?_⟩
  · rw [hc, List.countP_append]
    have p1 := h1 e
    have p2 := h2 e
    cases ha : a.testBit e with
    | true =>
      rw [ha] at p1
      rcases p1 with p1 | p1
      · exact .inl ⟨rfl, by omega⟩
      · cases p1.1
    | false =>
      rw [ha] at p1
      rcases p1 with p1 | p1
      · cases p1.1
      · rw [p1.2 rfl, Nat.zero_add, Bool.false_or]; exact p2
  · rw [List.countP_append]
    have p1 := h1 e
    have p2 := h2 e
    have q1 := o1 ho e
    have q2 := o2 ho e
    have hd := hd e
    cases ha : a.testBit e with
    | true =>
      rw [ha, Bool.true_and] at hd
      rw [hd] at p2
      rcases p2 with p2 | p2
      · cases p2.1
      · rw [p2.2 rfl]; omega
    | false =>
      rw [ha] at p1
      rcases p1 with p1 | p1
      · cases p1.1
      · rw [p1.2 rfl]; omega
theorem has_high {r c e : Nat} (h : ¬ e < 16) : (bitsN r c).testBit e = false := by rw [bitsN_test]; simp [h]
/-- A talk parts its rectangle. -/
theorem talk_parts {t : List (List Int)} (ht : T.isTab t = true) : ∀ (n r c : Nat), r + c < n → 1 ≤ r → r < 2 ^ t.length → 1 ≤ c → c < 2 ^ T.cols t → ∃ l, (∀ s ∈ l, IsRect t s) ∧ Parts true l (bitsN r c) ∧ OnceOk true l ∧ l.length ≤ 2 ^ T.len t r c
  | 0, _, _, h, _, _, _, _ => absurd h (Nat.not_lt_zero _)
  | n + 1, r, c, hn, h1, h2, h3, h4 => by
    obtain ⟨⟨t1, t2, t3, t4⟩, _⟩ := T.isTab_iff.1 ht
    have r16 : r < 16 := by have := (pow_le16 t2).2; omega
    have c16 : c < 16 := by have := (pow_le16 t4).2; omega
    have hle := T.len_lt ht r16 c16 (by omega) (by omega)
    by_cases hcl : T.clear t r c = true
    · refine ⟨[bitsN r c], fun s hs => ?_, fun e => ?_, fun _ e => ?_, ?_⟩
      · rw [List.mem_singleton.1 hs]; exact ⟨r, c, h1, h2, h3, h4, hcl, rfl⟩
      · rw [List.countP_cons, List.countP_nil]
        cases (bitsN r c).testBit e with
        | true => exact .inl ⟨rfl, by simp⟩
        | false => exact .inr ⟨rfl, by simp⟩
      · rw [List.countP_cons, List.countP_nil]; split <;> omega
      · exact Nat.one_le_two_pow
    · have heq := T.len_eq (t := t) r16 c16
      rw [if_neg hcl] at heq
      have hmem := T.best_mem ((T.subs r).map (T.cost t r c 0) ++ (T.subs c).map (T.cost t r c 1))
      rw [← heq] at hmem
      rcases hmem with h8 | hmem
      · omega
      · rcases List.mem_append.1 hmem with hm | hm
        · obtain ⟨s, hs, he⟩ := List.mem_map.1 hm
          obtain ⟨m1, m2, m3, m4, m5, m6⟩ := T.subs_mem r16 hs
          unfold T.cost at he
          rw [if_pos rfl] at he
          obtain ⟨l1, a1, a2, a3, a4⟩ := talk_parts ht n s c (by omega) (by omega) (by omega) h3 h4
          obtain ⟨l2, b1, b2, b3, b4⟩ := talk_parts ht n (r - s) c (by omega) (by omega) (by omega) h3 h4
          obtain ⟨j1, j2⟩ := parts_join a2 b2 a3 b3 (c := bitsN r c) (fun e => by
            by_cases he16 : e < 16
            · rw [bitsN_test, bitsN_test, bitsN_test, has_tb, has_tb, has_tb, (sub_cut r16 hs (show e / 4 < 4 by omega)).1]
              cases s.testBit (e / 4) <;> cases (r - s).testBit (e / 4) <;> cases c.testBit (e % 4) <;> simp
            · rw [has_high he16, has_high he16, has_high he16]; rfl) (fun e => by
            by_cases he16 : e < 16
            · have := (sub_cut r16 hs (show e / 4 < 4 by omega)).2
              rw [bitsN_test, bitsN_test, has_tb, has_tb]
              cases h5 : s.testBit (e / 4) <;> cases h6 : (r - s).testBit (e / 4) <;> simp [h5, h6] at this ⊢
            · rw [has_high he16]; rfl)
          refine ⟨l1 ++ l2, fun x hx => (List.mem_append.1 hx).elim (a1 x) (b1 x), j1, j2, ?_⟩
          have hp1 : 2 ^ T.len t s c ≤ 2 ^ max (T.len t (r - s) c) (T.len t s c) := Nat.pow_le_pow_right (by decide) (Nat.le_max_right _ _)
          have hp2 : 2 ^ T.len t (r - s) c ≤ 2 ^ max (T.len t (r - s) c) (T.len t s c) := Nat.pow_le_pow_right (by decide) (Nat.le_max_left _ _)
          rw [← he, Nat.add_comm, Nat.pow_succ, List.length_append]
          omega
        · obtain ⟨s, hs, he⟩ := List.mem_map.1 hm
          obtain ⟨m1, m2, m3, m4, m5, m6⟩ := T.subs_mem c16 hs
          unfold T.cost at he
          rw [if_neg (by decide)] at he
          obtain ⟨l1, a1, a2, a3, a4⟩ := talk_parts ht n r s (by omega) h1 h2 (by omega) (by omega)
          obtain ⟨l2, b1, b2, b3, b4⟩ := talk_parts ht n r (c - s) (by omega) h1 h2 (by omega) (by omega)
          obtain ⟨j1, j2⟩ := parts_join a2 b2 a3 b3 (c := bitsN r c) (fun e => by
            by_cases he16 : e < 16
            · rw [bitsN_test, bitsN_test, bitsN_test, has_tb, has_tb, has_tb, (sub_cut c16 hs (show e % 4 < 4 by omega)).1]
              cases s.testBit (e % 4) <;> cases (c - s).testBit (e % 4) <;> cases r.testBit (e / 4) <;> simp
            · rw [has_high he16, has_high he16, has_high he16]; rfl) (fun e => by
            by_cases he16 : e < 16
            · have := (sub_cut c16 hs (show e % 4 < 4 by omega)).2
              rw [bitsN_test, bitsN_test, has_tb, has_tb]
              cases h5 : s.testBit (e % 4) <;> cases h6 : (c - s).testBit (e % 4) <;> simp [h5, h6] at this ⊢
            · rw [has_high he16]; rfl)
          refine ⟨l1 ++ l2, fun x hx => (List.mem_append.1 hx).elim (a1 x) (b1 x), j1, j2, ?_⟩
          have hp1 : 2 ^ T.len t r s ≤ 2 ^ max (T.len t r (c - s)) (T.len t r s) := Nat.pow_le_pow_right (by decide) (Nat.le_max_right _ _)
          have hp2 : 2 ^ T.len t r (c - s) ≤ 2 ^ max (T.len t r (c - s)) (T.len t r s) := Nat.pow_le_pow_right (by decide) (Nat.le_max_left _ _)
          rw [← he, Nat.add_comm, Nat.pow_succ, List.length_append]
          omega
theorem part_talk {t : List (List Int)} (ht : T.isTab t = true) : partN t ≤ 2 ^ T.len t (2 ^ t.length - 1) (2 ^ T.cols t - 1) := by
  obtain ⟨⟨t1, t2, t3, t4⟩, _⟩ := T.isTab_iff.1 ht
  have h1 := whole_lt t1 t2
  have h2 := whole_lt t3 t4
  have p1 := (pow_le16 t2).1
  have p2 := (pow_le16 t4).1
  obtain ⟨l, k1, k2, k3, k4⟩ := talk_parts ht _ (2 ^ t.length - 1) (2 ^ T.cols t - 1) (Nat.lt_succ_self _) (by omega) (by omega) (by omega) (by omega)
  exact Nat.le_trans (part_low ht k1 k2 k3) k4
end Go.Proofs.Ytaapamoglgpocaa
