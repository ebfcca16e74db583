/- Plain: fooling sets are no greater than covers; the greatest one. -/
import Derived.Test.YtaapamoglgpocaaCoP
import Derived.Test.YtaapamoglgpocaaFoolsP
namespace Go.Proofs.Ytaapamoglgpocaa
open Go.RowKit

theorem updM_len (now best : List Pr) : best.length ≤ (updM now best).length ∧ now.length ≤ (updM now best).length := by
  unfold updM
  split <;> omega
theorem growG_mono (ok : List Pr → Pr → Bool) : ∀ (rest now best : List Pr), best.length ≤ (growG ok rest now best).length
  | [], _, _ => Nat.le_refl _
  | e :: rest, now, best => by
    rw [growG_cons]
    refine Nat.le_trans ?_ (growG_mono ok rest now _)
    split
    · exact Nat.le_trans (updM_len (now ++ [e]) best).1 (growG_mono ok rest (now ++ [e]) _)
    · exact Nat.le_refl _
theorem foolsM_left {t : List (List Int)} {v : Int} {l l' : List Pr} (h : foolsM t v (l ++ l') = true) : foolsM t v l = true := by
  refine fools_true fun i hi => ?_
  have := List.all_eq_true.1 h i (List.mem_range.2 (by rw [List.length_append]; omega))
  rw [List.take_append_of_le_length (by omega), List.getD_eq_getElem?_getD, List.getElem?_append_left hi, ← List.getD_eq_getElem?_getD] at this
  exact this
theorem growG_max (t : List (List Int)) (v : Int) : ∀ (rest now best L : List Pr), L.Sublist rest → foolsM t v (now ++ L) = true → now.length ≤ best.length → (now ++ L).length ≤ (growG (okR t v) rest now best).length
  | [], now, best, L, hs, _, hl => by
    cases hs
    rw [List.append_nil]; exact hl
  | e :: rest, now, best, L, hs, hf, hl => by
    rw [growG_cons]
    cases hs with
    | cons _ hs =>
      refine growG_max t v rest now _ L hs hf ?_
      split
      · exact Nat.le_trans hl (Nat.le_trans (updM_len (now ++ [e]) best).1 (growG_mono _ rest (now ++ [e]) _))
      · exact hl
    | @cons_cons L' _ _ hs =>
      have hf2 : foolsM t v ((now ++ [e]) ++ L') = true := by rw [List.append_assoc]; exact hf
      have hok : okR t v now e = true := foolsM_left hf2
      rw [if_pos hok]
      have ih := growG_max t v rest (now ++ [e]) (updM (now ++ [e]) best) L' hs hf2 (updM_len (now ++ [e]) best).2
      refine Nat.le_trans ?_ (growG_mono _ rest now _)
      refine Nat.le_trans ?_ ih
      simp
theorem growG_sound (t : List (List Int)) (v : Int) : ∀ (rest now best : List Pr), foolsM t v best = true → foolsM t v (growG (okR t v) rest now best) = true
  | [], _, _, h => h
  | e :: rest, now, best, h => by
    rw [growG_cons]
    refine growG_sound t v rest now _ ?_
    split
    · rename_i hok
      refine growG_sound t v rest (now ++ [e]) _ ?_
      unfold updM
      split
      · exact hok
      · exact h
    · exact h
theorem foolM_fools (t : List (List Int)) (v : Int) : foolsM t v (foolM t v) = true := by
  rw [← rfoolM_eq]
  exact growG_sound t v _ _ _ rfl
theorem ltB_iff {a b : Pr} : ltB a b = true ↔ a.1 < b.1 ∨ (a.1 = b.1 ∧ a.2 < b.2) := by
  unfold ltB
  rw [Bool.or_eq_true, Bool.and_eq_true, decide_eq_true_eq, decide_eq_true_eq, decide_eq_true_eq]
theorem ltB_trans {a b c : Pr} (h : ltB a b = true) (k : ltB b c = true) : ltB a c = true := by
  rw [ltB_iff] at *
  omega
theorem ltB_irr (a : Pr) : ltB a a = false := by
  rw [Bool.eq_false_iff]
  intro h
  rw [ltB_iff] at h
  omega
theorem fools_take_all {t : List (List Int)} {v : Int} {l : List Pr} (h : foolsM t v l = true) : ∀ k, k ≤ l.length → (l.take k).Pairwise (fun a b => ltB a b = true) ∧ (l.take k).Pairwise (fun a b => fooledB t v a b = true) ∧ (∀ x ∈ l.take k, placeB t v x = true) ∧ ∀ x ∈ l.take k, x = lastP (l.take k) ∨ ltB x (lastP (l.take k)) = true
  | 0, _ => by simp
  | k + 1, hk => by
    obtain ⟨h1, h2, h3, h4⟩ := fools_take_all h k (by omega)
    have hs := List.all_eq_true.1 h k (List.mem_range.2 (by omega))
    unfold stepB at hs
    rw [Bool.and_eq_true, Bool.and_eq_true] at hs
    obtain ⟨⟨s1, s2⟩, s3⟩ := hs
    rw [takeP_snoc (by omega)]
    generalize l.getD k pr0 = x at *
    generalize l.take k = p at *
    have hlt : ∀ y ∈ p, ltB y x = true := fun y hy => by
      rw [Bool.or_eq_true] at s2
      rcases s2 with s2 | s2
      · rw [List.isEmpty_iff] at s2
        rw [s2] at hy
        cases hy
      · rcases h4 y hy with e | e
        · rw [e]; exact s2
        · exact ltB_trans e s2
    refine ⟨List.pairwise_append.2 ⟨h1, List.pairwise_singleton _ _, fun a ha b hb => by rw [List.mem_singleton.1 hb]; exact hlt a ha⟩, List.pairwise_append.2 ⟨h2, List.pairwise_singleton _ _, fun a ha b hb => ?_⟩, fun y hy => ?_, fun y hy => ?_⟩
    · rw [List.mem_singleton.1 hb, fooled_comm]
      exact List.all_eq_true.1 s3 a ha
    · rcases List.mem_append.1 hy with h | h
      · exact h3 y h
      · rw [List.mem_singleton.1 h]; exact s1
    · rw [lastP_snoc]
      rcases List.mem_append.1 hy with h | h
      · exact .inr (hlt y h)
      · exact .inl (List.mem_singleton.1 h)
theorem fools_all {t : List (List Int)} {v : Int} {l : List Pr} (h : foolsM t v l = true) : l.Pairwise (fun a b => ltB a b = true) ∧ l.Pairwise (fun a b => fooledB t v a b = true) ∧ ∀ x ∈ l, x ∈ ents t v := by
  obtain ⟨h1, h2, h3, _⟩ := fools_take_all h l.length (Nat.le_refl _)
  rw [List.take_length] at h1 h2 h3
  exact ⟨h1, h2, fun x hx => ents_place.1 (h3 x hx)⟩
theorem sorted_sub : ∀ (M l : List Pr), M.Pairwise (fun a b => ltB a b = true) → l.Pairwise (fun a b => ltB a b = true) → (∀ x ∈ l, x ∈ M) → l.Sublist M
  | [], l, _, _, h => by
    cases l with
    | nil => exact List.Sublist.slnil
    | cons a l => exact absurd (h a (List.mem_cons_self ..)) List.not_mem_nil
  | m :: M, [], _, _, _ => List.nil_sublist _
  | m :: M, a :: l, hM, hl, h => by
    have hM' := List.pairwise_cons.1 hM
    have hl' := List.pairwise_cons.1 hl
    rcases List.mem_cons.1 (h a (List.mem_cons_self ..)) with e | e
    · subst e
      refine (sorted_sub M l hM'.2 hl'.2 fun x hx => ?_).cons_cons _
      rcases List.mem_cons.1 (h x (List.mem_cons_of_mem _ hx)) with e | e
      · have := hl'.1 x hx
        rw [e, ltB_irr] at this
        cases this
      · exact e
    · refine (sorted_sub M (a :: l) hM'.2 hl fun x hx => ?_).cons _
      rcases List.mem_cons.1 (h x hx) with e' | e'
      · exfalso
        have h1 := hM'.1 a e
        rcases List.mem_cons.1 hx with e2 | e2
        · rw [← e', ← e2, ltB_irr] at h1
          cases h1
        · have h2 := ltB_trans h1 (hl'.1 x e2)
          rw [← e', ltB_irr] at h2
          cases h2
      · exact e'
/-- No fooling set is greater. -/
theorem foolM_max {t : List (List Int)} {v : Int} {l : List Pr} (h : foolsM t v l = true) : l.length ≤ (foolM t v).length := by
  obtain ⟨h1, h2, h3⟩ := fools_all h
  have hs : l.Sublist (ents t v) := sorted_sub _ _ (ents_sorted t v) h1 h3
  have := growG_max t v (cellsT t.length (T.cols t)) [] [] l (by
    rw [ents_filter] at hs
    exact hs.trans List.filter_sublist) h (Nat.le_refl _)
  rw [← rfoolM_eq]
  exact this
/-- Two entries in one clear rectangle fool nobody. -/
theorem not_fooled {t : List (List Int)} (ht : T.isTab t = true) {v : Int} {p : Nat × Nat} (hp : p ∈ allG t v) {y z : Pr} (hy : y ∈ ents t v) (hz : z ∈ ents t v) (h1 : hasP (toP p) y = true) (h2 : hasP (toP p) z = true) : fooledB t v y z = false := by
  obtain ⟨i, j, a1, a2, a3, rfl⟩ := ents_mem.1 hy
  obtain ⟨i', j', b1, b2, b3, rfl⟩ := ents_mem.1 hz
  rw [toP_has, has_tb, Bool.and_eq_true] at h1 h2
  have hc := (allG_mem ht hp).2
  have e1 := T.clrM_val ht hc a1 b2 (by rw [has_tb, h1.1, h2.2]; rfl)
  have e2 := T.clrM_val ht hc b1 a2 (by rw [has_tb, h2.1, h1.2]; rfl)
  unfold fooledB
  simp [e1, e2]
theorem fool_once {t : List (List Int)} (ht : T.isTab t = true) {v : Int} {p : Nat × Nat} (hp : p ∈ allG t v) : ∀ (F : List Pr), F.Pairwise (fun a b => fooledB t v a b = true) → (∀ x ∈ F, x ∈ ents t v) → F.countP (hasP (toP p)) ≤ 1
  | [], _, _ => by simp
  | y :: F, hF, he => by
    have hF' := List.pairwise_cons.1 hF
    rw [List.countP_cons]
    cases hy : hasP (toP p) y with
    | false =>
      have := fool_once ht hp F hF'.2 fun x hx => he x (List.mem_cons_of_mem _ hx)
      simpa using this
    | true =>
      have h0 : F.countP (hasP (toP p)) = 0 := by
        rw [List.countP_eq_zero]
        intro z hz hzp
        have := hF'.1 z hz
        rw [not_fooled ht hp (he y (List.mem_cons_self ..)) (he z (List.mem_cons_of_mem _ hz)) hy hzp] at this
        cases this
      rw [h0]; simp
theorem fool_cover {t : List (List Int)} (ht : T.isTab t = true) {v : Int} : ∀ (l : List (Nat × Nat)) (F : List Pr), (∀ x ∈ l, x ∈ allG t v) → F.Pairwise (fun a b => fooledB t v a b = true) → (∀ x ∈ F, x ∈ ents t v) → (∀ y ∈ F, ∃ x ∈ l, hasP (toP x) y = true) → F.length ≤ l.length
  | [], F, _, _, _, hc => by
    cases F with
    | nil => exact Nat.le_refl _
    | cons y F =>
      obtain ⟨x, hx, _⟩ := hc y (List.mem_cons_self ..)
      cases hx
  | p :: l, F, hl, hF, he, hc => by
    have h1 := fool_once ht (hl p (List.mem_cons_self ..)) F hF he
    have ih := fool_cover ht l (F.filter fun y => !hasP (toP p) y) (fun x hx => hl x (List.mem_cons_of_mem _ hx)) (hF.filter _) (fun x hx => he x (List.mem_filter.1 hx).1) (fun y hy => by
      obtain ⟨hy1, hy2⟩ := List.mem_filter.1 hy
      obtain ⟨x, hx, hxy⟩ := hc y hy1
      rcases List.mem_cons.1 hx with rfl | hx
      · rw [hxy] at hy2; cases hy2
      · exact ⟨x, hx, hxy⟩)
    have hsum : F.countP (hasP (toP p)) + (F.filter fun y => !hasP (toP p) y).length = F.length := by
      rw [← List.countP_eq_length_filter]
      have := List.length_eq_countP_add_countP (l := F) (hasP (toP p))
      simpa using this.symm
    rw [List.length_cons]
    omega
theorem covB_covers {t : List (List Int)} {v : Int} {l : List (Nat × Nat)} (h : covB t v (l.map toP) = true) : ∀ y ∈ ents t v, ∃ x ∈ l, hasP (toP x) y = true := fun y hy => by
  unfold covB at h
  rw [Bool.and_eq_true, List.all_eq_true, List.all_eq_true] at h
  obtain ⟨x, hx, hxy⟩ := List.any_eq_true.1 (h.2 y hy)
  obtain ⟨p, hp, rfl⟩ := List.mem_map.1 hx
  exact ⟨p, hp, hxy⟩
end Go.Proofs.Ytaapamoglgpocaa
