/- Plain: both searches for fooling sets answer alike, both tests too. -/
import Derived.Test.YtaapamoglgpocaaFoolsU
namespace Go.Proofs.Ytaapamoglgpocaa
open Go.RowKit

theorem range_cells (n m : Nat) : List.range ((n + 1) * m) = List.range (n * m) ++ (List.range m).map fun q => n * m + q := by
  rw [Nat.add_mul, Nat.one_mul, List.range_add]
theorem cellsT_succ (n m : Nat) : cellsT (n + 1) m = cellsT n m ++ (List.range m).map fun q => (((n : Nat) : Int), ((q : Nat) : Int)) := by
  unfold cellsT
  rw [range_cells, List.map_append, List.map_map]
  congr 1
  refine List.map_congr_left fun q hq => ?_
  have hq := List.mem_range.1 hq
  have h1 : (n * m + q) / m = n := by
    rw [Nat.mul_comm, Nat.mul_add_div (by omega), Nat.div_eq_of_lt hq]; rfl
  have h2 : (n * m + q) % m = q := by
    rw [Nat.mul_comm, Nat.mul_add_mod, Nat.mod_eq_of_lt hq]
  simp only [Function.comp, h1, h2]
def valB (t : List (List Int)) (v : Int) (e : Pr) : Bool := decide (T.ent t e.1.toNat e.2.toNat = v)
theorem entsRow_filter (t : List (List Int)) (v : Int) (i m : Nat) : entsRow t v i m = ((List.range m).map fun q => (((i : Nat) : Int), ((q : Nat) : Int))).filter (valB t v) := by
  unfold entsRow
  rw [List.filter_map]
  generalize List.range m = l
  induction l with
  | nil => rfl
  | cons q l ih =>
    rw [List.filterMap_cons, List.filter_cons]
    by_cases h : T.ent t i q = v
    · have e : (valB t v ∘ fun (q : Nat) => (((i : Nat) : Int), ((q : Nat) : Int))) q = true := by simp [valB, h]
      rw [if_pos h, if_pos e, List.map_cons, ← ih]
    · have e : (valB t v ∘ fun (q : Nat) => (((i : Nat) : Int), ((q : Nat) : Int))) q = false := by simp [valB, h]
      rw [if_neg h, if_neg (by rw [e]; decide), ← ih]
theorem ents_filter (t : List (List Int)) (v : Int) : ents t v = (cellsT t.length (T.cols t)).filter (valB t v) := by
  unfold ents
  generalize t.length = n
  induction n with
  | zero => simp [entsTo, cellsT]
  | succ n ih => rw [entsTo_succ, cellsT_succ, List.filter_append, ← entsRow_filter, ih]
theorem cells_sorted (n m : Nat) : (cellsT n m).Pairwise (fun a b => ltB a b = true) := by
  unfold cellsT
  rw [List.pairwise_map]
  refine List.Pairwise.imp ?_ List.pairwise_lt_range
  intro a b hab
  unfold ltB
  simp only [Bool.or_eq_true, Bool.and_eq_true, decide_eq_true_eq]
  have h1 := Nat.div_le_div_right (c := m) (Nat.le_of_lt hab)
  rcases Nat.lt_or_ge (a / m) (b / m) with h | h
  · exact .inl (by omega)
  · have h2 : a / m = b / m := by omega
    refine .inr ⟨by omega, ?_⟩
    have h3 := Nat.div_add_mod a m
    have h4 := Nat.div_add_mod b m
    rw [h2] at h3
    omega
theorem ents_sorted (t : List (List Int)) (v : Int) : (ents t v).Pairwise (fun a b => ltB a b = true) := by
  rw [ents_filter]
  exact (cells_sorted _ _).filter _
theorem ents_place {t : List (List Int)} {v : Int} {x : Pr} : placeB t v x = true ↔ x ∈ ents t v := by
  rw [placeB_iff, ents_mem]
  constructor
  · rintro ⟨h1, h2, h3, h4, h5⟩
    obtain ⟨a, b⟩ := x
    obtain ⟨p, rfl⟩ := Int.eq_ofNat_of_zero_le h1
    obtain ⟨q, rfl⟩ := Int.eq_ofNat_of_zero_le h3
    simp only [Int.toNat_natCast] at h5
    exact ⟨p, q, by simp only [] at h2; omega, by simp only [] at h4; omega, h5, rfl⟩
  · rintro ⟨p, q, h1, h2, h3, rfl⟩
    simp only [Int.toNat_natCast]
    exact ⟨by omega, by omega, by omega, by omega, h3⟩
theorem fooled_comm (t : List (List Int)) (v : Int) (a b : Pr) : fooledB t v a b = fooledB t v b a := by
  unfold fooledB
  rw [Bool.or_comm]
theorem all_not_any {α : Type} (l : List α) (f : α → Bool) : l.all f = !(l.any fun y => !f y) := by
  induction l with
  | nil => rfl
  | cons x l ih => rw [List.all_cons, List.any_cons, ih]; cases f x <;> simp
theorem growM_growG (t : List (List Int)) (v : Int) : ∀ (rest now best : List Pr), growM t v rest now best = growG (okB t v) rest now best
  | [], _, _ => rfl
  | e :: rest, now, best => by
    unfold growM growG
    rw [growM_growG t v rest, growM_growG t v rest]
theorem growG_cons (ok : List Pr → Pr → Bool) (e : Pr) (rest now best : List Pr) : growG ok (e :: rest) now best = growG ok rest now (if ok now e = true then growG ok rest (now ++ [e]) (updM (now ++ [e]) best) else best) := rfl
theorem growG_filter (ok : List Pr → Pr → Bool) (p : Pr → Bool) : ∀ (rest now best : List Pr), (∀ e ∈ rest, p e = false → ∀ now, ok now e = false) → growG ok rest now best = growG ok (rest.filter p) now best
  | [], _, _, _ => rfl
  | e :: rest, now, best, h => by
    have hr : ∀ e ∈ rest, p e = false → ∀ now, ok now e = false := fun e' h' => h e' (List.mem_cons_of_mem _ h')
    rw [List.filter_cons]
    cases hp : p e with
    | true =>
      rw [if_pos rfl, growG_cons, growG_cons, growG_filter ok p rest _ _ hr, growG_filter ok p rest (now ++ [e]) _ hr]
    | false =>
      rw [if_neg (by decide), growG_cons, h e (List.mem_cons_self ..) hp now, if_neg (by decide)]
      exact growG_filter ok p rest _ _ hr
theorem foolsM_snoc (t : List (List Int)) (v : Int) (l : List Pr) (x : Pr) : foolsM t v (l ++ [x]) = (foolsM t v l && stepB t v l x) := by
  unfold foolsM
  rw [List.length_append, List.length_singleton, List.range_succ, List.all_append]
  congr 1
  · have hc : ∀ i, i ∈ List.range l.length → stepB t v ((l ++ [x]).take i) ((l ++ [x]).getD i pr0) = stepB t v (l.take i) (l.getD i pr0) := fun i hi => by
      have hi := List.mem_range.1 hi
      rw [List.take_append_of_le_length (by omega), List.getD_eq_getElem?_getD, List.getElem?_append_left hi, ← List.getD_eq_getElem?_getD]
    rw [Bool.eq_iff_iff, List.all_eq_true, List.all_eq_true]
    exact ⟨fun h i hi => by rw [← hc i hi]; exact h i hi, fun h i hi => by rw [hc i hi]; exact h i hi⟩
  · simp [List.getD_eq_getElem?_getD]
/-- What holds at each call of the search. -/
def GInv (t : List (List Int)) (v : Int) (now rest : List Pr) : Prop := foolsM t v now = true ∧ (∀ e ∈ rest, (now.isEmpty || ltB (lastP now) e) = true) ∧ rest.Pairwise (fun a b => ltB a b = true) ∧ ∀ e ∈ rest, placeB t v e = true
theorem GInv.eq {t : List (List Int)} {v : Int} {now rest : List Pr} {e : Pr} (h : GInv t v now (e :: rest)) : okR t v now e = okB t v now e := by
  obtain ⟨h1, h2, _, h4⟩ := h
  unfold okR okB
  rw [foolsM_snoc, h1, Bool.true_and]
  unfold stepB
  rw [h4 e (List.mem_cons_self ..), h2 e (List.mem_cons_self ..), Bool.true_and, Bool.true_and, all_not_any]
  congr 1
  congr 1
  funext y
  rw [fooled_comm]
theorem GInv.skip {t : List (List Int)} {v : Int} {now rest : List Pr} {e : Pr} (h : GInv t v now (e :: rest)) : GInv t v now rest :=
  ⟨h.1, fun x hx => h.2.1 x (List.mem_cons_of_mem _ hx), (List.pairwise_cons.1 h.2.2.1).2, fun x hx => h.2.2.2 x (List.mem_cons_of_mem _ hx)⟩
theorem lastP_snoc (now : List Pr) (e : Pr) : lastP (now ++ [e]) = e := by
  unfold lastP
  simp [List.getD_eq_getElem?_getD]
theorem GInv.push {t : List (List Int)} {v : Int} {now rest : List Pr} {e : Pr} (h : GInv t v now (e :: rest)) (hk : okR t v now e = true) : GInv t v (now ++ [e]) rest :=
  ⟨hk, fun x hx => by rw [lastP_snoc, (List.pairwise_cons.1 h.2.2.1).1 x hx, Bool.or_true], h.skip.2.2.1, h.skip.2.2.2⟩
theorem growG_eq (t : List (List Int)) (v : Int) : ∀ (rest now best : List Pr), GInv t v now rest → growG (okR t v) rest now best = growG (okB t v) rest now best
  | [], _, _, _ => rfl
  | e :: rest, now, best, h => by
    rw [growG_cons, growG_cons, h.eq]
    cases hk : okB t v now e with
    | true =>
      rw [if_pos rfl, if_pos rfl, growG_eq t v rest (now ++ [e]) _ (h.push (by rw [h.eq]; exact hk)), growG_eq t v rest _ _ h.skip]
    | false =>
      rw [if_neg (by decide), if_neg (by decide), growG_eq t v rest _ _ h.skip]
theorem rfoolM_eq (t : List (List Int)) (v : Int) : rfoolM t v = foolM t v := by
  unfold rfoolM foolM
  rw [growM_growG, growG_filter (okR t v) (valB t v), ← ents_filter]
  · exact growG_eq t v _ _ _ ⟨rfl, fun e _ => rfl, ents_sorted t v, fun e he => ents_place.2 he⟩
  · intro e he hp now
    unfold okR
    rw [foolsM_snoc, place_false, Bool.and_false]
    rw [Bool.eq_false_iff]
    intro h
    have := (placeB_iff.1 h).2.2.2.2
    unfold valB at hp
    rw [decide_eq_true this] at hp
    cases hp
theorem idxP_spec {l : List Pr} {x : Pr} (h : x ∈ l) : ∃ i, i < l.length ∧ idxP l x = (i : Int) ∧ l.getD i pr0 = x := by
  cases e : l.findIdx? (fun y => decide (x = y)) with
  | none =>
    rw [List.findIdx?_eq_none_iff] at e
    have := e x h
    simp at this
  | some i =>
    refine ⟨i, ?_⟩
    have e' := e
    obtain ⟨hi, h1, _⟩ := List.findIdx?_eq_some_iff_getElem.1 e
    refine ⟨hi, by unfold idxP; rw [e'], ?_⟩
    rw [List.getD_eq_getElem?_getD, List.getElem?_eq_getElem hi]
    exact (of_decide_eq_true h1).symm
theorem sorted_lt {l : List Pr} (h : l.Pairwise (fun a b => ltB a b = true)) {i j : Nat} (hij : i < j) (hj : j < l.length) : ltB (l.getD i pr0) (l.getD j pr0) = true := by
  rw [List.getD_eq_getElem?_getD, List.getElem?_eq_getElem (by omega), List.getD_eq_getElem?_getD, List.getElem?_eq_getElem hj]
  exact List.pairwise_iff_getElem.1 h i j (by omega) hj hij
theorem ltB_irrefl (a : Pr) : ltB a a = false := by unfold ltB; simp
theorem ltB_asymm {a b : Pr} (h : ltB a b = true) : ltB b a = false := by
  unfold ltB at *
  simp only [Bool.or_eq_true, Bool.and_eq_true, decide_eq_true_eq] at h
  rw [Bool.eq_false_iff]
  simp only [ne_eq, Bool.or_eq_true, Bool.and_eq_true, decide_eq_true_eq]
  omega
/-- Both orders are one. -/
theorem idx_lt {t : List (List Int)} {v : Int} {x y : Pr} (hx : x ∈ ents t v) (hy : y ∈ ents t v) : idxP (ents t v) x < idxP (ents t v) y ↔ ltB x y = true := by
  obtain ⟨i, hi, e1, e2⟩ := idxP_spec hx
  obtain ⟨j, hj, e3, e4⟩ := idxP_spec hy
  rw [e1, e3]
  constructor
  · intro h
    have := sorted_lt (ents_sorted t v) (show i < j by omega) hj
    rwa [e2, e4] at this
  · intro h
    rcases Nat.lt_or_ge i j with h' | h'
    · omega
    · exfalso
      rcases Nat.lt_or_ge j i with h2 | h2
      · have h3 := sorted_lt (ents_sorted t v) h2 hi
        rw [e2, e4] at h3
        rw [ltB_asymm h3] at h
        cases h
      · obtain rfl : i = j := by omega
        rw [e2] at e4
        subst e4
        rw [ltB_irrefl] at h
        cases h
theorem foolsT_at {t : List (List Int)} {v : Int} {l : List Pr} (h : foolsT t v l = true) {i : Nat} (hi : i < l.length) : stepT t v (l.take i) (l.getD i pr0) = true := List.all_eq_true.1 h i (List.mem_range.2 hi)
theorem foolsM_at {t : List (List Int)} {v : Int} {l : List Pr} (h : foolsM t v l = true) {i : Nat} (hi : i < l.length) : stepB t v (l.take i) (l.getD i pr0) = true := List.all_eq_true.1 h i (List.mem_range.2 hi)
theorem stepT_mem {t : List (List Int)} {v : Int} {pre : List Pr} {x : Pr} (h : stepT t v pre x = true) : x ∈ ents t v := by
  have h1 := stepT_idx h
  have h2 := lastI_ge t v pre
  have h3 : 0 ≤ idxP (ents t v) x := by omega
  exact idxP_mem h3
theorem fools_eq (t : List (List Int)) (v : Int) (l : List Pr) : foolsT t v l = foolsM t v l := by
  rw [Bool.eq_iff_iff]
  constructor
  · intro h
    refine fools_true fun i hi => ?_
    have hs := foolsT_at h hi
    have hm := stepT_mem hs
    unfold stepB
    rw [ents_place.2 hm, Bool.true_and, Bool.and_eq_true]
    constructor
    · rcases Nat.eq_zero_or_pos i with rfl | h0
      · rfl
      · obtain ⟨j, rfl⟩ : ∃ j, i = j + 1 := ⟨i - 1, by omega⟩
        have hj := stepT_mem (foolsT_at h (show j < l.length by omega))
        have h1 := stepT_idx hs
        rw [lastI_succ (by omega)] at h1
        rw [lastP_take hi (by omega), Nat.add_sub_cancel, (idx_lt hj hm).1 h1, Bool.or_true]
    · unfold stepT at hs
      rw [Bool.and_eq_true] at hs
      rw [all_not_any]
      exact hs.2
  · intro h
    refine foolsT_true fun i hi => ?_
    have hs := foolsM_at h hi
    have hp := ents_place.1 (step_place hs)
    unfold stepB at hs
    rw [Bool.and_eq_true, Bool.and_eq_true] at hs
    unfold stepT
    rw [Bool.and_eq_true]
    constructor
    · rw [Bool.not_eq_true', decide_eq_false_iff_not]
      rcases Nat.eq_zero_or_pos i with rfl | h0
      · obtain ⟨k, _, e, _⟩ := idxP_spec hp
        rw [e]
        unfold lastI
        simp only [List.take_zero, List.isEmpty_nil, if_true]
        omega
      · obtain ⟨j, rfl⟩ : ∃ j, i = j + 1 := ⟨i - 1, by omega⟩
        have hj := ents_place.1 (step_place (foolsM_at h (show j < l.length by omega)))
        have h1 := hs.1.2
        rw [take_ne (by omega), lastP_take hi (by omega), Nat.add_sub_cancel, Bool.false_or] at h1
        have h2 := (idx_lt hj hp).2 h1
        rw [lastI_succ (by omega)]
        omega
    · rw [← all_not_any]
      exact hs.2
/-- A fooling set is no longer than the entries. -/
theorem foolsT_len {t : List (List Int)} {v : Int} {l : List Pr} (h : foolsT t v l = true) : l.length ≤ (ents t v).length := by
  have hk : ∀ i, i < l.length → (i : Int) ≤ idxP (ents t v) (l.getD i pr0) := by
    intro i
    induction i with
    | zero =>
      intro hi
      obtain ⟨k, _, e, _⟩ := idxP_spec (stepT_mem (foolsT_at h hi))
      rw [e]
      omega
    | succ i ih =>
      intro hi
      have h1 := stepT_idx (foolsT_at h hi)
      rw [lastI_succ (by omega)] at h1
      have := ih (by omega)
      omega
  rcases Nat.eq_zero_or_pos l.length with h0 | h0
  · omega
  · have h1 := hk (l.length - 1) (by omega)
    obtain ⟨k, hk', e, _⟩ := idxP_spec (stepT_mem (foolsT_at h (show l.length - 1 < l.length by omega)))
    rw [e] at h1
    omega
theorem fools_take {t : List (List Int)} {v : Int} {l : List Pr} (he : (ents t v).length ≤ 16) : foolsT t v (l.take 40) = foolsM t v l := by
  rcases Nat.le_total l.length 40 with h | h
  · rw [List.take_of_length_le h, fools_eq]
  · have h1 : foolsT t v (l.take 40) = false := by
      rw [Bool.eq_false_iff]
      intro h'
      have := foolsT_len h'
      rw [List.length_take] at this
      omega
    have h2 : foolsT t v l = false := by
      rw [Bool.eq_false_iff]
      intro h'
      have := foolsT_len h'
      omega
    rw [h1, ← fools_eq, h2]
end Go.Proofs.Ytaapamoglgpocaa
