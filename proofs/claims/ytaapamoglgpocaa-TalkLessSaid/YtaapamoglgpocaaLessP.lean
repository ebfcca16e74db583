/- Plain: a table whose rows are rows of another one is no harder. -/
import Derived.Test.YtaapamoglgpocaaRecP
import Derived.Test.YtaapamoglgpocaaFoP
namespace Go.Proofs.Ytaapamoglgpocaa
open Go.RowKit

/-- Each row of u is a row of t. -/
structure Rows1 (t u : List (List Int)) (f : Nat → Nat) : Prop where
  ht : T.isTab t = true
  hu : T.isTab u = true
  hc : T.cols u = T.cols t
  hf : ∀ i, i < u.length → f i < t.length ∧ ∀ c, c < T.cols t → T.ent u i c = T.ent t (f i) c
def preR (u : List (List Int)) (f : Nat → Nat) (R : Nat) : Nat := setB (fun i => decide (i < u.length) && R.testBit (f i)) 4
theorem preR_lt (u : List (List Int)) (f : Nat → Nat) (R : Nat) : preR u f R < 16 := setB_lt _ 4
theorem preR_test {u : List (List Int)} {f : Nat → Nat} (hl : u.length ≤ 4) (R i : Nat) : (preR u f R).testBit i = (decide (i < u.length) && R.testBit (f i)) := by
  unfold preR
  rw [setB_test]
  by_cases h : i < u.length
  · have : i < 4 := by omega
    simp [h, this]
  · simp [h]
theorem ext16 {a b : Nat} (ha : a < 16) (hb : b < 16) (h : ∀ i, i < 4 → a.testBit i = b.testBit i) : a = b := by
  apply Nat.eq_of_testBit_eq
  intro i
  rcases Nat.lt_or_ge i 4 with h' | h'
  · exact h i h'
  · have e : ∀ x, x < 16 → x.testBit i = false := fun x hx => Nat.testBit_lt_two_pow (Nat.lt_of_lt_of_le (show x < 2 ^ 4 from hx) (Nat.pow_le_pow_right (by decide) h'))
    rw [e a ha, e b hb]
theorem Rows1.small {t u : List (List Int)} {f : Nat → Nat} (h : Rows1 t u f) : u.length ≤ 4 ∧ 1 ≤ u.length := by
  obtain ⟨⟨t1, t2, _, _⟩, _⟩ := T.isTab_iff.1 h.hu
  exact ⟨t2, t1⟩
theorem Rows1.clear {t u : List (List Int)} {f : Nat → Nat} (h : Rows1 t u f) {R C : Nat} (hcl : T.clear t R C = true) : T.clear u (preR u f R) C = true := by
  have hm := (T.clear_iff h.ht).1 hcl
  refine (T.clear_iff h.hu).2 fun a b a' b' ha hb ha' hb' h1 h2 => ?_
  rw [has_tb, Bool.and_eq_true, preR_test h.small.1, Bool.and_eq_true] at h1 h2
  rw [h.hc] at hb hb'
  rw [(h.hf a ha).2 b hb, (h.hf a' ha').2 b' hb']
  exact hm _ _ _ _ (h.hf a ha).1 hb (h.hf a' ha').1 hb' (by rw [has_tb, h1.1.2, h1.2]; rfl) (by rw [has_tb, h2.1.2, h2.2]; rfl)
theorem bit_up {a i n : Nat} (hn : n ≤ 4) (h : a < 2 ^ n) (hb : a.testBit i = true) : i < 4 := by have := bit_lt h hb; omega
theorem Rows1.len {t u : List (List Int)} {f : Nat → Nat} (h : Rows1 t u f) : ∀ (n R C : Nat), R + C < n → 1 ≤ R → R < 2 ^ t.length → 1 ≤ C → C < 2 ^ T.cols t → preR u f R ≠ 0 → T.len u (preR u f R) C ≤ T.len t R C
  | 0, _, _, hn, _, _, _, _, _ => absurd hn (Nat.not_lt_zero _)
  | n + 1, R, C, hn, h1, h2, h3, h4, h0 => by
    obtain ⟨⟨t1, t2, t3, t4⟩, _⟩ := T.isTab_iff.1 h.ht
    have r16 : R < 16 := by have := (pow_le16 t2).2; omega
    have c16 : C < 16 := by have := (pow_le16 t4).2; omega
    have p16 := preR_lt u f R
    cases hu : T.clear u (preR u f R) C with
    | true => rw [T.len_eq p16 c16, if_pos hu]; exact Nat.zero_le _
    | false =>
      have hcl : ¬ T.clear t R C = true := fun hc => by rw [h.clear hc] at hu; cases hu
      have hle := T.len_lt h.ht r16 c16 (by omega) (by omega)
      have heq := T.len_eq (t := t) r16 c16
      rw [if_neg hcl] at heq
      have hmem := T.best_mem ((T.subs R).map (T.cost t R C 0) ++ (T.subs C).map (T.cost t R C 1))
      rw [← heq] at hmem
      rcases hmem with h8 | hmem
      · omega
      · rcases List.mem_append.1 hmem with hm | hm
        · obtain ⟨s, hs, he⟩ := List.mem_map.1 hm
          obtain ⟨m1, m2, m3, m4, m5, m6⟩ := T.subs_mem r16 hs
          unfold T.cost at he
          rw [if_pos rfl] at he
          have hcut : ∀ i, (preR u f R).testBit i = ((preR u f s).testBit i || (preR u f (R - s)).testBit i) ∧ ((preR u f s).testBit i && (preR u f (R - s)).testBit i) = false := fun i => by
            rw [preR_test h.small.1, preR_test h.small.1, preR_test h.small.1]
            by_cases hi : i < u.length
            · have hfi := (h.hf i hi).1
              have := sub_cut r16 hs (show f i < 4 by omega)
              rw [this.1]
              simp only [hi, decide_true, Bool.true_and]
              exact ⟨trivial, this.2⟩
            · simp [hi]
          by_cases ha : preR u f s = 0
          · have e : preR u f R = preR u f (R - s) := ext16 p16 (preR_lt _ _ _) fun i _ => by rw [(hcut i).1, ha, Nat.zero_testBit, Bool.false_or]
            have ih := h.len n (R - s) C (by omega) (by omega) (by omega) h3 h4 (by rw [← e]; exact h0)
            rw [← e] at ih
            have := Nat.le_max_left (T.len t (R - s) C) (T.len t s C)
            omega
          · by_cases hb : preR u f (R - s) = 0
            · have e : preR u f R = preR u f s := ext16 p16 (preR_lt _ _ _) fun i _ => by rw [(hcut i).1, hb, Nat.zero_testBit, Bool.or_false]
              have ih := h.len n s C (by omega) (by omega) (by omega) h3 h4 (by rw [← e]; exact h0)
              rw [← e] at ih
              have := Nat.le_max_right (T.len t (R - s) C) (T.len t s C)
              omega
            · have hne : preR u f s ≠ preR u f R := fun e => by
                obtain ⟨i, hi⟩ := Nat.exists_testBit_of_ne_zero hb
                have k1 := (hcut i).1
                have k2 := (hcut i).2
                rw [e, hi] at k2
                rw [hi, Bool.or_true] at k1
                rw [k1] at k2
                cases k2
              have hand : preR u f s &&& preR u f R = preR u f s := by
                apply Nat.eq_of_testBit_eq
                intro i
                rw [Nat.testBit_and, (hcut i).1]
                cases (preR u f s).testBit i <;> simp
              have hsub := T.mem_subs p16 (preR_lt u f s) ha hne hand
              have hdiff : preR u f R - preR u f s = preR u f (R - s) := ext16 (by omega) (preR_lt _ _ _) fun i hi => by
                have k := sub_cut p16 hsub hi
                have k1 := (hcut i).1
                have k2 := (hcut i).2
                have k3 := k.1
                have k4 := k.2
                cases ha' : (preR u f s).testBit i with
                | true =>
                  rw [ha', Bool.true_and] at k2 k4
                  rw [k2, k4]
                | false =>
                  rw [ha', Bool.false_or] at k1 k3
                  rw [← k1, k3]
              have hc := (T.cost_sub p16 c16 hu (s := preR u f s)).1 hsub
              unfold T.cost at hc
              rw [if_pos rfl, hdiff] at hc
              have i1 := h.len n (R - s) C (by omega) (by omega) (by omega) h3 h4 hb
              have i2 := h.len n s C (by omega) (by omega) (by omega) h3 h4 ha
              omega
        · obtain ⟨s, hs, he⟩ := List.mem_map.1 hm
          obtain ⟨m1, m2, m3, m4, m5, m6⟩ := T.subs_mem c16 hs
          unfold T.cost at he
          rw [if_neg (by decide)] at he
          have hc := (T.cost_sub p16 c16 hu (s := s)).2 hs
          unfold T.cost at hc
          rw [if_neg (by decide)] at hc
          have i1 := h.len n R (C - s) (by omega) h1 h2 (by omega) (by omega) h0
          have i2 := h.len n R s (by omega) h1 h2 (by omega) (by omega) h0
          omega
theorem Rows1.whole {t u : List (List Int)} {f : Nat → Nat} (h : Rows1 t u f) : preR u f (2 ^ t.length - 1) = 2 ^ u.length - 1 := by
  have := (pow_le16 h.small.1).2
  refine ext16 (preR_lt _ _ _) (by omega) fun i _ => ?_
  rw [preR_test h.small.1, Nat.testBit_two_pow_sub_one, Nat.testBit_two_pow_sub_one]
  by_cases hi : i < u.length
  · simp [hi, (h.hf i hi).1]
  · simp [hi]
theorem Rows1.lenT {t u : List (List Int)} {f : Nat → Nat} (h : Rows1 t u f) : lenT u ≤ lenT t := by
  obtain ⟨⟨t1, t2, t3, t4⟩, _⟩ := T.isTab_iff.1 h.ht
  have a1 := whole_lt t1 t2
  have a2 := whole_lt t3 t4
  have a3 := whole_lt h.small.2 h.small.1
  have p1 := (pow_le16 t2).1
  have p2 := (pow_le16 t4).1
  have := h.len _ (2 ^ t.length - 1) (2 ^ T.cols t - 1) (Nat.lt_succ_self _) (by omega) (by omega) (by omega) (by omega) (by rw [h.whole]; exact a3.2)
  rw [h.whole] at this
  unfold Go.Proofs.Ytaapamoglgpocaa.lenT
  rw [h.hc]
  exact this
/-- A set of entries of t, drawn back to u. -/
def backS (u : List (List Int)) (f : Nat → Nat) (s : Nat) : Nat := setB (fun e => decide (e / 4 < u.length) && s.testBit (4 * f (e / 4) + e % 4)) 16
theorem backS_test {u : List (List Int)} {f : Nat → Nat} (hl : u.length ≤ 4) (s e : Nat) : (backS u f s).testBit e = (decide (e / 4 < u.length) && s.testBit (4 * f (e / 4) + e % 4)) := by
  unfold backS
  rw [setB_test]
  by_cases h : e / 4 < u.length
  · have : e < 16 := by omega
    simp [h, this]
  · simp [h]
theorem Rows1.back {t u : List (List Int)} {f : Nat → Nat} (h : Rows1 t u f) {r c : Nat} : backS u f (bitsN r c) = bitsN (preR u f r) c := by
  obtain ⟨⟨t1, t2, t3, t4⟩, _⟩ := T.isTab_iff.1 h.ht
  apply bits_ext (setB_lt _ 16) (bitsN_lt _ _)
  intro e he
  show (backS u f (bitsN r c)).testBit e = _
  have hR : (bitsN (preR u f r) c).testBit e = (decide (e < 16) && (decide (e / 4 < u.length) && r.testBit (f (e / 4)) && c.testBit (e % 4))) := by
    rw [bitsN_test (preR u f r) c e, has_tb, preR_test h.small.1]
  rw [backS_test h.small.1, hR]
  by_cases hi : e / 4 < u.length
  · have hfi := (h.hf _ hi).1
    rw [bits_has (by omega) (by omega), has_tb]
    simp [hi, he]
  · simp [hi]
theorem Rows1.rect {t u : List (List Int)} {f : Nat → Nat} (h : Rows1 t u f) {s : Nat} (hs : IsRect t s) (h0 : backS u f s ≠ 0) : IsRect u (backS u f s) := by
  obtain ⟨r, c, h1, h2, h3, h4, h5, rfl⟩ := hs
  rw [h.back] at h0 ⊢
  have hp : preR u f r ≠ 0 := fun e => h0 (by
    rw [e]
    apply bits_ext (bitsN_lt _ _) (by decide)
    intro i _
    rw [bitsN_test, has_tb, Nat.zero_testBit]
    simp)
  refine ⟨preR u f r, c, by omega, ?_, h3, by rw [h.hc]; exact h4, h.clear h5, rfl⟩
  apply Nat.lt_pow_two_of_testBit
  intro i hi
  rw [preR_test h.small.1]
  have : ¬ i < u.length := by omega
  simp [this]
theorem Rows1.part {t u : List (List Int)} {f : Nat → Nat} (h : Rows1 t u f) : partN u ≤ partN t := by
  obtain ⟨⟨t1, t2, t3, t4⟩, _⟩ := T.isTab_iff.1 h.ht
  obtain ⟨l, k1, k2, k3, k4⟩ := part_list h.ht
  have hcount : ∀ e, ((l.map (backS u f)).filter fun s => decide (s ≠ 0)).countP (fun s => s.testBit e) = if e / 4 < u.length then l.countP (fun s => s.testBit (4 * f (e / 4) + e % 4)) else 0 := fun e => by
    rw [List.countP_filter, List.countP_map]
    by_cases hi : e / 4 < u.length
    · rw [if_pos hi]
      apply List.countP_congr
      intro s _
      simp only [Function.comp, Bool.and_eq_true, decide_eq_true_eq]
      rw [backS_test h.small.1]
      constructor
      · rintro ⟨a, _⟩
        rw [Bool.and_eq_true] at a
        exact a.2
      · intro a
        refine ⟨by rw [a]; simp [hi], fun e0 => ?_⟩
        have := backS_test (f := f) h.small.1 s e
        rw [e0, Nat.zero_testBit, a] at this
        simp [hi] at this
    · rw [if_neg hi, List.countP_eq_zero]
      intro s _
      simp only [Function.comp]
      rw [backS_test h.small.1]
      simp [hi]
  have := part_low h.hu (l := (l.map (backS u f)).filter fun s => decide (s ≠ 0)) (fun s hs => by
    obtain ⟨a, b⟩ := List.mem_filter.1 hs
    obtain ⟨x, hx, rfl⟩ := List.mem_map.1 a
    exact h.rect (k1 x hx) (of_decide_eq_true b)) (fun e => by
    rw [hcount, whole_test h.hu]
    by_cases hi : e / 4 < u.length
    · rw [if_pos hi]
      have hfi := (h.hf _ hi).1
      have := k2 (4 * f (e / 4) + e % 4)
      rw [whole_test h.ht, show (4 * f (e / 4) + e % 4) / 4 = f (e / 4) by omega, show (4 * f (e / 4) + e % 4) % 4 = e % 4 by omega] at this
      rw [h.hc]
      simpa [hi, hfi] using this
    · rw [if_neg hi]
      exact .inr ⟨by simp [hi], fun _ => rfl⟩) (fun ho e => by
    rw [hcount]
    split
    · exact k3 ho _
    · omega)
  refine Nat.le_trans this ?_
  rw [← k4]
  refine Nat.le_trans (List.length_filter_le _ _) ?_
  simp
theorem Rows1.rank {t u : List (List Int)} {f : Nat → Nat} (h : Rows1 t u f) {p : Int} (hp : p = 0 ∨ p = 2) : rankN p u ≤ rankN p t :=
  rank_alike hp h.hu h.ht h.hc.symm fun i hi => ⟨f i, (h.hf i hi).1, fun c hcc => (h.hf i hi).2 c (by rw [← h.hc]; exact hcc)⟩
/-- Entries that all fool each other, in whatever order, are no more than the greatest fooling set. -/
theorem fool_any {t : List (List Int)} {v : Int} {L : List Pr} (h1 : L.Pairwise (fun a b => fooledB t v a b = true)) (h2 : ∀ x ∈ L, x ∈ ents t v) : L.length ≤ (foolM t v).length := by
  have self : ∀ x ∈ ents t v, fooledB t v x x = false := fun x hx => by
    obtain ⟨i, q, _, _, h3, rfl⟩ := ents_mem.1 hx
    unfold fooledB
    simp [h3]
  have nd : L.Nodup := by
    refine List.Pairwise.imp_of_mem (R := fun a b => fooledB t v a b = true) (fun {a b} ha _ hab e => ?_) h1
    subst e
    rw [self a (h2 a ha)] at hab
    cases hab
  have all : ∀ x ∈ L, ∀ y ∈ L, x ≠ y → fooledB t v x y = true := by
    intro x hx y hy hne
    have := List.Pairwise.forall_of_forall_of_flip (l := L) (R := fun a b => a ≠ b → fooledB t v a b = true) (fun a ha e => absurd rfl e) (h1.imp (S := fun a b => a ≠ b → fooledB t v a b = true) fun hab _ => hab) (h1.imp (S := fun a b => b ≠ a → fooledB t v b a = true) fun hab _ => by rw [fooled_comm]; exact hab)
    exact this hx hy hne
  have hle : L.length ≤ ((ents t v).filter fun x => decide (x ∈ L)).length := nodup_le nd fun x hx => List.mem_filter.2 ⟨h2 x hx, decide_eq_true hx⟩
  refine Nat.le_trans hle ?_
  refine foolM_max ?_
  have hs : ((ents t v).filter fun x => decide (x ∈ L)).Pairwise (fun a b => ltB a b = true) := (ents_sorted t v).filter _
  generalize hM : (ents t v).filter (fun x => decide (x ∈ L)) = M at hs ⊢
  have hmem : ∀ x ∈ M, x ∈ L ∧ x ∈ ents t v := fun x hx => by
    rw [← hM] at hx
    obtain ⟨a, b⟩ := List.mem_filter.1 hx
    exact ⟨of_decide_eq_true b, a⟩
  refine fools_true fun i hi => ?_
  have hgi := List.getElem_mem hi
  unfold stepB
  rw [List.getD_eq_getElem?_getD, List.getElem?_eq_getElem hi, Option.getD_some, Bool.and_eq_true, Bool.and_eq_true]
  refine ⟨⟨ents_place.2 (hmem _ hgi).2, ?_⟩, List.all_eq_true.2 fun y hy => ?_⟩
  · rw [Bool.or_eq_true]
    by_cases h0 : i = 0
    · left; subst h0; simp
    · right
      have e : lastP (M.take i) = M[i - 1] := by
        unfold lastP
        rw [List.length_take, Nat.min_eq_left (by omega), List.getD_eq_getElem?_getD, List.getElem?_take, if_pos (by omega), List.getElem?_eq_getElem (by omega)]
        rfl
      rw [e]
      exact List.pairwise_iff_getElem.1 hs (i - 1) i (by omega) hi (by omega)
  · obtain ⟨j, hj, rfl⟩ := List.getElem_of_mem hy
    rw [List.length_take] at hj
    rw [List.getElem_take]
    have hlt := List.pairwise_iff_getElem.1 hs j i (by omega) hi (by omega)
    refine all _ (hmem _ hgi).1 _ (hmem _ (List.getElem_mem _)).1 fun e => ?_
    rw [e, ltB_irr] at hlt
    cases hlt
theorem Rows1.fool {t u : List (List Int)} {f : Nat → Nat} (h : Rows1 t u f) (v : Int) : (foolM u v).length ≤ (foolM t v).length := by
  obtain ⟨_, k2, k3⟩ := fools_all (foolM_fools u v)
  have := fool_any (t := t) (v := v) (L := (foolM u v).map fun x => (((f x.1.toNat : Nat) : Int), x.2)) (List.pairwise_map.2 (k2.imp_of_mem fun {a b} ha hb hab => by
    obtain ⟨i, q, a1, a2, _, rfl⟩ := ents_mem.1 (k3 a ha)
    obtain ⟨i', q', b1, b2, _, rfl⟩ := ents_mem.1 (k3 b hb)
    rw [h.hc] at a2 b2
    unfold fooledB at hab ⊢
    dsimp only at hab ⊢
    simp only [Int.toNat_natCast] at hab ⊢
    rw [(h.hf i a1).2 q' b2, (h.hf i' b1).2 q a2] at hab
    exact hab)) (fun x hx => by
    obtain ⟨y, hy, rfl⟩ := List.mem_map.1 hx
    obtain ⟨i, q, a1, a2, a3, rfl⟩ := ents_mem.1 (k3 y hy)
    rw [h.hc] at a2
    dsimp only
    rw [Int.toNat_natCast]
    exact ents_mem.2 ⟨f i, q, (h.hf i a1).1, a2, by rw [← (h.hf i a1).2 q a2]; exact a3, rfl⟩)
  rwa [List.length_map] at this
end Go.Proofs.Ytaapamoglgpocaa
