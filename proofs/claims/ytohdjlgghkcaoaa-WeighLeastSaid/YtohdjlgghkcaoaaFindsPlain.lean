/- Plain: how many coins a right plan can have; it finds each. -/
import Derived.Test.YtohdjlgghkcaoaaTabPlain
namespace Go.Proofs.Ytohdjlgghkcaoaa.W

/-- Numbers from 1 to M, none twice. -/
theorem pigeon (f : Nat → Nat) : ∀ (M : Nat) (l : List Nat), l.Nodup → (∀ x ∈ l, 1 ≤ x ∧ x ≤ M) → l.length ≤ M ∧ (l.length = M → (l.map f).sum = ((List.range' 1 M).map f).sum)
  | 0, l, _, h => by
    cases l with
    | nil => simp
    | cons x l => have := h x (by simp); omega
  | M + 1, l, hn, h => by
    by_cases hm : (M + 1) ∈ l
    · have hp := List.perm_cons_erase hm
      have hn' : (l.erase (M + 1)).Nodup := hn.erase _
      have h' : ∀ x ∈ l.erase (M + 1), 1 ≤ x ∧ x ≤ M := fun x hx => by
        have h1 := h x (List.mem_of_mem_erase hx)
        have h2 : x ≠ M + 1 := by
          rintro rfl
          have := hp.nodup_iff.1 hn
          exact (List.nodup_cons.1 this).1 hx
        omega
      obtain ⟨h1, h2⟩ := pigeon f M _ hn' h'
      have hl : l.length = (l.erase (M + 1)).length + 1 := by have := hp.length_eq; simpa using this
      refine ⟨by omega, fun he => ?_⟩
      have hs := (hp.map f).sum_nat
      rw [hs, List.map_cons, List.sum_cons, h2 (by omega), List.range'_1_concat, List.map_append, List.sum_append]
      simp [Nat.add_comm]
    · have h' : ∀ x ∈ l, 1 ≤ x ∧ x ≤ M := fun x hx => by
        have h1 := h x hx
        have h2 : x ≠ M + 1 := by rintro rfl; exact hm hx
        omega
      obtain ⟨h1, _⟩ := pigeon f M l hn h'
      exact ⟨by omega, fun he => by omega⟩

def code (r : List Int) : Nat := (val r).natAbs
def odd3 (c : Nat) : Nat := if c % 3 = 0 then 0 else 1
theorem val_neg : ∀ r : List Int, val (neg r) = -val r
  | [] => rfl
  | x :: r => by
    have := val_neg r
    unfold neg at this ⊢
    simp only [List.map_cons, val, this]
    omega
theorem val_le : ∀ r : List Int, (∀ x ∈ r, -1 ≤ x ∧ x ≤ 1) → val r ≤ qf r.length ∧ -qf r.length ≤ val r
  | [], _ => by simp [val, qf]
  | x :: r, h => by
    have h1 := h x (by simp)
    have h2 := val_le r (fun y hy => h y (by simp [hy]))
    simp only [val, List.length_cons, qf]
    omega
theorem val_inj : ∀ (a b : List Int), a.length = b.length → (∀ x ∈ a, -1 ≤ x ∧ x ≤ 1) → (∀ x ∈ b, -1 ≤ x ∧ x ≤ 1) → val a = val b → a = b
  | [], [], _, _, _, _ => rfl
  | [], _ :: _, h, _, _, _ => by simp at h
  | _ :: _, [], h, _, _, _ => by simp at h
  | x :: a, y :: b, hl, ha, hb, h => by
    have hx := ha x (by simp)
    have hy := hb y (by simp)
    simp only [val] at h
    have e1 : x = y := by omega
    have e2 : val a = val b := by omega
    rw [e1, val_inj a b (by simpa using hl) (fun z hz => ha z (by simp [hz])) (fun z hz => hb z (by simp [hz])) e2]
theorem val_zero : ∀ r : List Int, (∀ x ∈ r, -1 ≤ x ∧ x ≤ 1) → val r = 0 → allZero r = true
  | [], _, _ => rfl
  | x :: r, h, h0 => by
    have hx := h x (by simp)
    simp only [val] at h0
    have e1 : x = 0 := by omega
    have := val_zero r (fun z hz => h z (by simp [hz])) (by omega)
    unfold allZero at this ⊢
    simp only [List.all_cons, e1, this]
    rfl
theorem head_odd : ∀ r : List Int, (∀ x ∈ r, -1 ≤ x ∧ x ≤ 1) → (r.getD 0 0) % 2 = (odd3 (code r) : Int) % 2
  | [], _ => rfl
  | x :: r, h => by
    have hx := h x (by simp)
    have e : (x :: r).getD 0 0 = x := rfl
    rw [e]
    unfold odd3 code
    have ev : val (x :: r) = x + 3 * val r := rfl
    by_cases h3 : (val (x :: r)).natAbs % 3 = 0
    · rw [if_pos h3]; omega
    · rw [if_neg h3]; omega
theorem sum_odd : ∀ t : List (List Int), (∀ r ∈ t, ∀ x ∈ r, -1 ≤ x ∧ x ≤ 1) → (colSum t 0) % 2 = (((t.map code).map odd3).sum : Int) % 2
  | [], _ => rfl
  | r :: t, h => by
    have h1 := head_odd r (h r (by simp))
    have h2 := sum_odd t (fun r' hr' => h r' (by simp [hr']))
    unfold colSum at h2 ⊢
    simp only [List.map_cons, List.sum_cons]
    push_cast
    omega

theorem fair_iff {t : List (List Int)} (h : fairT t = true) : (∀ i, i < t.length → allZero (t.getD i []) = false ∧ ∀ j, j < i → t.getD i [] ≠ t.getD j [] ∧ t.getD i [] ≠ neg (t.getD j [])) ∧ ∀ j, j < cols t → colSum t j = 0 := by
  unfold fairT zeroT at h
  simp only [Bool.and_eq_true, List.all_eq_true, List.mem_range] at h
  refine ⟨fun i hi => ?_, fun j hj => by simpa using h.2 j hj⟩
  have := h.1 i hi
  unfold rowFair at this
  simp only [Bool.and_eq_true, Bool.not_eq_true', List.all_eq_true, List.mem_range] at this
  refine ⟨this.1, fun j hj => ?_⟩
  have hc := this.2 j hj
  unfold clash at hc
  simp only [Bool.or_eq_false_iff, decide_eq_false_iff_not] at hc
  exact hc

theorem few {t : List (List Int)} (ht : isTab t = true) (hf : fairT t = true) : 2 * t.length + 3 ≤ 3 ^ cols t := by
  obtain ⟨⟨t1, t2, t3, t4⟩, hrow⟩ := isTab_iff.1 ht
  obtain ⟨hp, hz⟩ := fair_iff hf
  have hsm : ∀ r ∈ t, ∀ x ∈ r, -1 ≤ x ∧ x ≤ 1 := fun r hr => (rowOk_iff.1 (hrow r hr)).2
  have hln : ∀ r ∈ t, r.length = cols t := fun r hr => (rowOk_iff.1 (hrow r hr)).1
  have hget : ∀ i (hi : i < t.length), t.getD i [] = t[i] := fun i hi => by rw [List.getD_eq_getElem?_getD, List.getElem?_eq_getElem hi]; rfl
  have hn : (t.map code).Nodup := by
    unfold List.Nodup
    rw [List.pairwise_iff_getElem]
    intro j i hj hi hji
    simp only [List.length_map] at hj hi
    simp only [List.getElem_map]
    intro he
    have hc := (hp i hi).2 j hji
    rw [hget i hi, hget j hj] at hc
    have hmi := List.getElem_mem hi
    have hmj := List.getElem_mem hj
    have hl : t[i].length = t[j].length := by rw [hln _ hmi, hln _ hmj]
    unfold code at he
    rcases (show val t[i] = val t[j] ∨ val t[i] = -val t[j] by omega) with h | h
    · exact hc.1 (val_inj _ _ hl (hsm _ hmi) (hsm _ hmj) h)
    · refine hc.2 (val_inj _ _ (by rw [neg_len]; exact hl) (hsm _ hmi) (fun x hx => ?_) (by rw [val_neg]; exact h))
      obtain ⟨y, hy, rfl⟩ := List.mem_map.1 hx
      have := hsm _ hmj y hy
      omega
  have hb : ∀ c ∈ t.map code, 1 ≤ c ∧ (c : Int) ≤ qf (cols t) := by
    intro c hc
    obtain ⟨r, hr, rfl⟩ := List.mem_map.1 hc
    have h1 := val_le r (hsm r hr)
    rw [hln r hr] at h1
    have h2 : val r ≠ 0 := by
      intro h0
      have := val_zero r (hsm r hr) h0
      obtain ⟨i, hi, he⟩ := List.getElem_of_mem hr
      have := (hp i hi).1
      rw [hget i hi, he] at this
      simp_all
    unfold code
    omega
  have hs := sum_odd t hsm
  rw [hz 0 (by omega)] at hs
  rcases (show cols t = 1 ∨ cols t = 2 ∨ cols t = 3 ∨ cols t = 4 by omega) with hc | hc | hc | hc
  · rw [hc] at hb ⊢
    obtain ⟨h1, h2⟩ := pigeon odd3 1 _ hn (fun c hx => by have := hb c hx; simp only [qf] at this; omega)
    rw [List.length_map] at h1 h2
    rw [h2 (by omega)] at hs
    exact absurd hs (by decide)
  · rw [hc] at hb ⊢
    obtain ⟨h1, h2⟩ := pigeon odd3 4 _ hn (fun c hx => by have := hb c hx; simp only [qf] at this; omega)
    rw [List.length_map] at h1 h2
    by_cases h4 : t.length = 4
    · rw [h2 h4] at hs
      exact absurd hs (by decide)
    · simp only [Nat.reducePow]; omega
  · rw [hc] at hb ⊢
    obtain ⟨h1, h2⟩ := pigeon odd3 13 _ hn (fun c hx => by have := hb c hx; simp only [qf] at this; omega)
    rw [List.length_map] at h1 h2
    by_cases h4 : t.length = 13
    · rw [h2 h4] at hs
      exact absurd hs (by decide)
    · simp only [Nat.reducePow]; omega
  · rw [hc]
    simp only [Nat.reducePow]; omega

theorem look_at {res : List Int} {t : List (List Int)} {i : Nat} (hi : i < t.length) (h : ∀ j, j < i → t.getD j [] ≠ res ∧ t.getD j [] ≠ neg res) : ∀ d, d ≤ i → look res t 0 = look res (t.drop d) d
  | 0, _ => rfl
  | d + 1, hd => by
    have hdi := h d (by omega)
    rw [look_at hi h d (by omega), look_drop (by omega), if_neg hdi.1, if_neg hdi.2]
theorem finds {t : List (List Int)} (hf : fairT t = true) {i : Nat} (hi : i < t.length) :
    readT t (t.getD i []) = ((i : Int), 1, 0) ∧ readT t (neg (t.getD i [])) = ((i : Int), -1, 0) := by
  obtain ⟨hp, _⟩ := fair_iff hf
  obtain ⟨hz, hc⟩ := hp i hi
  constructor
  · unfold readT
    rw [if_pos hf, if_neg (by rw [hz]; decide), look_at hi (fun j hj => ⟨fun h => (hc j hj).1 h.symm, fun h => (hc j hj).2 (by rw [h, neg_neg])⟩) i (Nat.le_refl _), look_drop hi, if_pos rfl]
  · unfold readT
    rw [if_pos hf, if_neg (by rw [allZero_neg, hz]; decide), look_at hi (fun j hj => ⟨fun h => (hc j hj).2 (by rw [h, neg_neg]), fun h => (hc j hj).1 (by rw [h, neg_neg])⟩) i (Nat.le_refl _), look_drop hi, if_neg, if_pos (by rw [neg_neg])]
    intro h
    have : allZero (t.getD i []) = true := by
      unfold allZero
      rw [List.all_eq_true]
      intro x hx
      obtain ⟨q, hq, rfl⟩ := List.getElem_of_mem hx
      have e : (t.getD i [])[q] = -(t.getD i [])[q] := by
        have h2 : (t.getD i [])[q]? = (neg (t.getD i []))[q]? := by rw [← h]
        unfold neg at h2
        rw [List.getElem?_map, List.getElem?_eq_getElem hq] at h2
        exact Option.some.inj h2
      have e0 : (t.getD i [])[q] = 0 := by omega
      rw [e0]; rfl
    rw [hz] at this; cases this
end Go.Proofs.Ytohdjlgghkcaoaa.W
