/- Plain: the determinants along the first row; the greatest one that is not zero, over sets of rows and columns, gives the rank. -/
import Derived.Test.YtaapamoglgpocaaRkElim
namespace Go.Proofs.Ytaapamoglgpocaa

/-- Signs in turn. -/
def sg (j : Nat) : Int := if j % 2 = 0 then 1 else -1
theorem sg_succ (j : Nat) : sg (j + 1) = - sg j := by unfold sg; split <;> split <;> omega
theorem sg_or (j : Nat) : sg j = 1 ∨ sg j = -1 := by unfold sg; split <;> simp
/-- What a sum along a row still has before it. -/
def rest (x : Nat → Int) (F : List Nat → Int) (C : List Nat) (j : Nat) : Int := alt x (fun D => F (C.take j ++ D)) (C.drop j)
theorem rest_step {x : Nat → Int} {F : List Nat → Int} {C : List Nat} {j : Nat} (h : j < C.length) :
    rest x F C j = x (C.getD j 0) * F (C.eraseIdx j) - rest x F C (j + 1) := by
  unfold rest
  have e : C.getD j 0 = C[j] := by rw [List.getD_eq_getElem?_getD, List.getElem?_eq_getElem h]; rfl
  rw [List.drop_eq_getElem_cons h, e, List.eraseIdx_eq_take_drop_succ]
  simp only [alt]
  congr 2
  funext D
  rw [List.take_succ_eq_append_getElem h, List.append_assoc]
  rfl
/-- A sum along a row after so many places. -/
def sumTo (x : Nat → Int) (F : List Nat → Int) (C : List Nat) (j : Nat) : Int := alt x F C - sg j * rest x F C j
theorem sumTo_zero (x : Nat → Int) (F : List Nat → Int) (C : List Nat) : sumTo x F C 0 = 0 := by
  have : rest x F C 0 = alt x F C := by unfold rest; simp
  unfold sumTo
  rw [this]; simp [sg]
theorem sumTo_succ {x : Nat → Int} {F : List Nat → Int} {C : List Nat} {j : Nat} (h : j < C.length) :
    sumTo x F C (j + 1) = sumTo x F C j + sg j * x (C.getD j 0) * F (C.eraseIdx j) := by
  unfold sumTo
  rw [rest_step h, sg_succ]
  grind
theorem sumTo_all (x : Nat → Int) (F : List Nat → Int) (C : List Nat) : sumTo x F C C.length = alt x F C := by
  unfold sumTo rest
  rw [List.drop_length]
  simp [alt]

theorem alt_le {x : Nat → Int} {B : Int} (hB : 0 ≤ B) (C : List Nat) : ∀ (F : List Nat → Int), (∀ c ∈ C, -1 ≤ x c ∧ x c ≤ 1) →
    (∀ D, D.Sublist C → D.length + 1 = C.length → -B ≤ F D ∧ F D ≤ B) → -(C.length * B) ≤ alt x F C ∧ alt x F C ≤ C.length * B := by
  induction C with
  | nil => intro F _ _; simp [alt]
  | cons c C ih =>
    intro F hx hF
    have h1 := ih (fun D => F (c :: D)) (fun d hd => hx d (List.mem_cons_of_mem c hd)) (fun D hD hl => hF _ (hD.cons_cons c) (by simp [hl]))
    have h2 := hF C (List.sublist_cons_self c C) (by simp)
    have h3 := hx c List.mem_cons_self
    simp only [alt, List.length_cons]
    have e : ((C.length + 1 : Nat) : Int) * B = C.length * B + B := by rw [Int.natCast_add, Int.add_mul]; simp
    rw [e]
    have h4 : -B ≤ x c * F C ∧ x c * F C ≤ B := by
      have : x c = -1 ∨ x c = 0 ∨ x c = 1 := by omega
      rcases this with h | h | h <;> rw [h] <;> omega
    omega
def fac : Nat → Int
  | 0 => 1
  | k + 1 => ((k + 1 : Nat) : Int) * fac k
theorem fac_nn : ∀ k, 0 ≤ fac k
  | 0 => by decide
  | k + 1 => by unfold fac; exact Int.mul_nonneg (by omega) (fac_nn k)
theorem dets_le : ∀ (L : List (Nat → Int)) (C : List Nat), L.length = C.length → (∀ x ∈ L, ∀ c, -1 ≤ x c ∧ x c ≤ 1) → -fac C.length ≤ dets L C ∧ dets L C ≤ fac C.length
  | [], [], _, _ => by decide
  | [], _ :: _, h, _ => by simp at h
  | x :: L, [], h, _ => by simp at h
  | x :: L, c :: C, h, hx => by
    have := alt_le (x := x) (fac_nn C.length) (c :: C) (dets L) (fun d _ => hx x List.mem_cons_self d) (fun D _ hl => by
      have h1 : D.length = C.length := by simpa using hl
      have := dets_le L D (by rw [h1]; simpa using h) (fun y hy => hx y (List.mem_cons_of_mem x hy))
      rwa [h1] at this)
    simpa [dets, fac] using this
theorem rest_le {x : Nat → Int} {L : List (Nat → Int)} {C : List Nat} (hL : L.length + 1 = C.length) (h : ∀ c, -1 ≤ x c ∧ x c ≤ 1) (hx : ∀ y ∈ L, ∀ c, -1 ≤ y c ∧ y c ≤ 1)
    {j : Nat} (hj : j ≤ C.length) : -((C.length - j : Nat) * fac L.length) ≤ rest x (dets L) C j ∧ rest x (dets L) C j ≤ (C.length - j : Nat) * fac L.length := by
  unfold rest
  have := alt_le (x := x) (fac_nn L.length) (C.drop j) (fun D => dets L (C.take j ++ D)) (fun d _ => h d) (fun D hD hl => by
    have e : (C.take j ++ D).length = L.length := by
      rw [List.length_append, List.length_take]
      have : (C.drop j).length = C.length - j := List.length_drop
      omega
    have := dets_le L (C.take j ++ D) e.symm hx
    rwa [e] at this)
  rwa [List.length_drop] at this
theorem fac_le {k : Nat} (h : k ≤ 4) : fac k ≤ 24 := by
  rcases (by omega : k = 0 ∨ k = 1 ∨ k = 2 ∨ k = 3 ∨ k = 4) with rfl | rfl | rfl | rfl | rfl <;> decide
theorem dets_24 {L : List (Nat → Int)} {C : List Nat} (h : L.length = C.length) (h4 : C.length ≤ 4) (hx : ∀ x ∈ L, ∀ c, -1 ≤ x c ∧ x c ≤ 1) : -24 ≤ dets L C ∧ dets L C ≤ 24 := by
  have := dets_le L C h hx
  have := fac_le h4
  omega
theorem sumTo_ok {x : Nat → Int} {L : List (Nat → Int)} {C : List Nat} (hL : L.length + 1 = C.length) (h4 : C.length ≤ 4) (h : ∀ c, -1 ≤ x c ∧ x c ≤ 1) (hx : ∀ y ∈ L, ∀ c, -1 ≤ y c ∧ y c ≤ 1)
    {j : Nat} (hj : j ≤ C.length) : -120 ≤ sumTo x (dets L) C j ∧ sumTo x (dets L) C j ≤ 120 := by
  have h1 := rest_le hL h hx hj
  have h2 := dets_24 (L := x :: L) (C := C) (by simpa using hL) h4 (fun y hy c => by
    rcases List.mem_cons.1 hy with rfl | hy
    · exact h c
    · exact hx y hy c)
  have e : dets (x :: L) C = alt x (dets L) C := rfl
  rw [e] at h2
  have h3 : ((C.length - j : Nat) : Int) * fac L.length ≤ 4 * 24 :=
    Int.mul_le_mul (by omega) (fac_le (by omega)) (fac_nn _) (by omega)
  unfold sumTo
  rcases sg_or j with h | h <;> rw [h] <;> omega

/-- The places of a set. -/
def pick (m s : Nat) : List Nat := (List.range m).filter fun i => decide (s / 2 ^ i % 2 = 1)
theorem pick_succ (m s : Nat) : pick (m + 1) s = if s / 2 ^ m % 2 = 1 then pick m s ++ [m] else pick m s := by
  unfold pick
  rw [List.range_succ, List.filter_append]
  by_cases h : s / 2 ^ m % 2 = 1 <;> simp [h]
theorem pick_sub (m s : Nat) : (pick m s).Sublist (List.range m) := List.filter_sublist
theorem pick_lt {m s i : Nat} (h : i ∈ pick m s) : i < m := List.mem_range.1 ((pick_sub m s).mem h)
theorem pick_le (m s : Nat) : (pick m s).length ≤ m := by simpa using (pick_sub m s).length_le
theorem mask_of (P : Nat → Bool) : ∀ m, ∃ s, s < 2 ^ m ∧ ∀ i, i < m → (s / 2 ^ i % 2 = 1 ↔ P i = true)
  | 0 => ⟨0, by decide, fun i h => absurd h (Nat.not_lt_zero i)⟩
  | m + 1 => by
    obtain ⟨s, hs, h⟩ := mask_of P m
    have hp : (2 : Nat) ^ (m + 1) = 2 ^ m * 2 := Nat.pow_succ 2 m
    by_cases hP : P m = true
    · refine ⟨s + 2 ^ m, by omega, fun i hi => ?_⟩
      rcases Nat.lt_or_ge i m with him | him
      · have e : (2 : Nat) ^ m = 2 ^ i * (2 * 2 ^ (m - i - 1)) := by
          rw [← Nat.pow_succ', ← Nat.pow_add]; congr 1; omega
        rw [e, Nat.add_mul_div_left s _ (Nat.two_pow_pos i), Nat.add_mul_mod_self_left]
        exact h i him
      · have : i = m := by omega
        subst this
        have e : (s + 2 ^ i) / 2 ^ i = 1 := by
          rw [Nat.add_div_right s (Nat.two_pow_pos i), Nat.div_eq_of_lt hs]
        rw [e]; simp [hP]
    · refine ⟨s, by omega, fun i hi => ?_⟩
      rcases Nat.lt_or_ge i m with him | him
      · exact h i him
      · have : i = m := by omega
        subst this
        rw [Nat.div_eq_of_lt hs]; simp [hP]
theorem sub_filter {C l : List Nat} (h : C.Sublist l) : l.Nodup → C = l.filter (fun c => decide (c ∈ C)) := by
  induction h with
  | slnil => intro _; rfl
  | @cons C l a h ih =>
    intro hn
    have hn' := List.nodup_cons.1 hn
    have ha : a ∉ C := fun ha => hn'.1 (h.mem ha)
    rw [List.filter_cons, if_neg (by simpa using ha)]
    exact ih hn'.2
  | @cons_cons C l a h ih =>
    intro hn
    have hn' := List.nodup_cons.1 hn
    rw [List.filter_cons, if_pos (by simp)]
    congr 1
    have e := ih hn'.2
    have : l.filter (fun c => decide (c ∈ a :: C)) = l.filter (fun c => decide (c ∈ C)) := List.filter_congr fun c hc => by
      have : c ≠ a := fun e => hn'.1 (e ▸ hc)
      simp [this]
    rw [this, ← e]
theorem pick_of_sub {C : List Nat} {m : Nat} (h : C.Sublist (List.range m)) : ∃ s, s < 2 ^ m ∧ pick m s = C := by
  obtain ⟨s, hs, hb⟩ := mask_of (fun i => decide (i ∈ C)) m
  refine ⟨s, hs, ?_⟩
  rw [sub_filter h List.nodup_range]
  unfold pick
  refine List.filter_congr fun i hi => ?_
  have := hb i (List.mem_range.1 hi)
  by_cases h1 : i ∈ C <;> simp [h1] at this ⊢ <;> omega
theorem pick_perm {I : List Nat} {m : Nat} (hn : I.Nodup) (h : ∀ i ∈ I, i < m) : ∃ s, s < 2 ^ m ∧ (pick m s).Perm I := by
  obtain ⟨s, hs, hb⟩ := mask_of (fun i => decide (i ∈ I)) m
  refine ⟨s, hs, (List.perm_ext_iff_of_nodup ((pick_sub m s).nodup List.nodup_range) hn).2 fun a => ?_⟩
  constructor
  · intro ha
    have h1 := pick_lt ha
    have h2 := (List.mem_filter.1 ha).2
    have := hb a h1
    simp at h2 this
    exact this.1 h2
  · intro ha
    refine List.mem_filter.2 ⟨List.mem_range.2 (h a ha), ?_⟩
    have := hb a (h a ha)
    simp at this ⊢
    exact this.2 ha

/-- The greatest of a row of numbers, and of rows of them. -/
def minIn (q : Nat → Nat → Nat) (R b : Nat) : Nat → Nat
  | 0 => b
  | k + 1 => max (minIn q R b k) (q R k)
def minOut (q : Nat → Nat → Nat) (N : Nat) : Nat → Nat
  | 0 => 0
  | R + 1 => minIn q R (minOut q N R) N
theorem minIn_ge (q : Nat → Nat → Nat) (R b : Nat) : ∀ N, b ≤ minIn q R b N ∧ ∀ k, k < N → q R k ≤ minIn q R b N
  | 0 => ⟨Nat.le_refl b, fun k h => absurd h (Nat.not_lt_zero k)⟩
  | N + 1 => by
    have h := minIn_ge q R b N
    rw [minIn]
    refine ⟨by omega, fun k hk => ?_⟩
    rcases Nat.lt_or_ge k N with h1 | h1
    · have := h.2 k h1; omega
    · have : k = N := by omega
      subst this; omega
theorem minIn_mem (q : Nat → Nat → Nat) (R b : Nat) : ∀ N, minIn q R b N = b ∨ ∃ k, k < N ∧ minIn q R b N = q R k
  | 0 => .inl rfl
  | N + 1 => by
    rw [minIn]
    rcases Nat.le_total (q R N) (minIn q R b N) with h | h
    · rw [Nat.max_eq_left h]
      rcases minIn_mem q R b N with h | ⟨k, hk, h⟩
      · exact .inl h
      · exact .inr ⟨k, by omega, h⟩
    · rw [Nat.max_eq_right h]
      exact .inr ⟨N, by omega, rfl⟩
theorem minOut_ge (q : Nat → Nat → Nat) (N : Nat) : ∀ m R k, R < m → k < N → q R k ≤ minOut q N m
  | 0, R, _, h, _ => absurd h (Nat.not_lt_zero R)
  | m + 1, R, k, h, hk => by
    have h1 := minIn_ge q m (minOut q N m) N
    rw [minOut]
    rcases Nat.lt_or_ge R m with h2 | h2
    · have := minOut_ge q N m R k h2 hk; omega
    · have : R = m := by omega
      subst this
      exact h1.2 k hk
theorem minOut_mem (q : Nat → Nat → Nat) (N : Nat) : ∀ m, minOut q N m = 0 ∨ ∃ R k, R < m ∧ k < N ∧ minOut q N m = q R k
  | 0 => .inl rfl
  | m + 1 => by
    rw [minOut]
    rcases minIn_mem q m (minOut q N m) N with h | ⟨k, hk, h⟩
    · rw [h]
      rcases minOut_mem q N m with h | ⟨R, k, hR, hk, h⟩
      · exact .inl h
      · exact .inr ⟨R, k, by omega, hk, h⟩
    · exact .inr ⟨m, k, by omega, hk, h⟩

/-- How many columns the rows of a part have: none where there are no rows. -/
def widthOf (I C : List Nat) : Nat := if I = [] then 0 else C.length
/-- The size of a part whose determinant is not zero. -/
def minorQ (p : Int) (M : Nat → Nat → Int) (m n R k : Nat) : Nat :=
  if (pick m R).length = widthOf (pick m R) (pick n k) then
    if p ∣ dets ((pick m R).map M) (pick n k) then 0 else widthOf (pick m R) (pick n k)
  else 0
def minorsM (p : Int) (M : Nat → Nat → Int) (m n : Nat) : Nat := minOut (minorQ p M m n) (2 ^ n) (2 ^ m)
theorem minorQ_rk {p : Int} {M : Nat → Nat → Int} {m n : Nat} (h1 : ¬ p ∣ 1) (R k : Nat) : Rk p n (rowsOf m M) (minorQ p M m n R k) := by
  have h0 : Rk p n (rowsOf m M) 0 := ⟨[], [], fun x hx => absurd hx List.not_mem_nil, rfl, rfl, List.nil_sublist _, h1⟩
  unfold minorQ
  split
  · rename_i he
    split
    · exact h0
    · rename_i hd
      by_cases hI : pick m R = []
      · simp only [widthOf, if_pos hI]; exact h0
      · simp only [widthOf, if_neg hI] at he ⊢
        refine ⟨(pick m R).map M, pick n k, fun x hx => ?_, by simp [he], rfl, pick_sub n k, hd⟩
        obtain ⟨i, hi, rfl⟩ := List.mem_map.1 hx
        exact ⟨i, pick_lt hi, rfl⟩
  · exact h0
theorem rk_minors {p : Int} {M : Nat → Nat → Int} {m n k : Nat} (h : Rk p n (rowsOf m M) k) : k ≤ minorsM p M m n := by
  obtain ⟨L, C, hL, hk, hCk, hC, hd⟩ := h
  have hI : ∃ I : List Nat, (∀ i ∈ I, i < m) ∧ I.map M = L := by
    clear hk hd
    induction L with
    | nil => exact ⟨[], fun i hi => absurd hi List.not_mem_nil, rfl⟩
    | cons x L ih =>
      obtain ⟨I, hI, e⟩ := ih fun y hy => hL y (List.mem_cons_of_mem x hy)
      obtain ⟨i, hi, hx⟩ := hL x List.mem_cons_self
      refine ⟨i :: I, fun j hj => ?_, by rw [List.map_cons, e, hx]⟩
      rcases List.mem_cons.1 hj with rfl | hj
      · exact hi
      · exact hI j hj
  obtain ⟨I, hI, rfl⟩ := hI
  have hn : I.Nodup := Classical.byContradiction fun hn => hd (by
    have : ¬ (I.map M).Nodup := fun h => hn (by
      have := List.Pairwise.of_map (R := (· ≠ ·)) (S := (· ≠ ·)) M (fun a b h e => h (by rw [e])) h
      exact this)
    rw [dets_dup this]; exact ⟨0, by omega⟩)
  obtain ⟨R, hR, hp⟩ := pick_perm hn hI
  obtain ⟨s, hs, he⟩ := pick_of_sub hC
  have hq : minorQ p M m n R s = k := by
    unfold minorQ
    have hl : (pick m R).length = k := by rw [hp.length_eq, ← hk]; simp
    have hnd : ¬ p ∣ dets ((pick m R).map M) (pick n s) := fun h => hd (by
      obtain ⟨u, hu, e⟩ := dets_perm (hp.map M)
      rw [e, ← he]
      exact Int.dvd_mul_of_dvd_right h)
    have hw : widthOf (pick m R) (pick n s) = k := by
      unfold widthOf
      split
      · rename_i h; rw [h] at hl; exact hl
      · rw [he, hCk]
    rw [hw, if_pos hl, if_neg hnd]
  rw [← hq]
  exact minOut_ge _ _ _ R s hR hs
/-- The reference's minors give the rank. -/
theorem minors_isRk {p : Int} {M : Nat → Nat → Int} {m n : Nat} (h1 : ¬ p ∣ 1) : IsRk p n (rowsOf m M) (minorsM p M m n) := by
  refine ⟨?_, fun k hk => rk_minors hk⟩
  rcases minOut_mem (minorQ p M m n) (2 ^ n) (2 ^ m) with h | ⟨R, k, -, -, h⟩
  · unfold minorsM; rw [h]
    exact ⟨[], [], fun x hx => absurd hx List.not_mem_nil, rfl, rfl, List.nil_sublist _, h1⟩
  · unfold minorsM; rw [h]
    exact minorQ_rk h1 R k
end Go.Proofs.Ytaapamoglgpocaa
