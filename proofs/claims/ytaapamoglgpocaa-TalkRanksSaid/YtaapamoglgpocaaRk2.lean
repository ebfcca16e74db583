/- Walk: rank. -/
import Derived.Test.YtaapamoglgpocaaRk1
import Derived.BigRegion
import Derived.BigQuiet
namespace Go.Proofs.Ytaapamoglgpocaa
open Go.RowKit

/-- Rows that the call itself made, in blocks of their own. -/
def Rows3 (w : World) (base : Nat) (v : Value) (t : List (List Int)) : Prop :=
  ∃ us : List Value, us.length = t.length ∧ w.ownsRow base 38 1 v t.length us ∧
    (∀ i u, us[i]? = some u → w.ownsRow base 3 1 u (t.getD i []).length ((t.getD i []).map (Value.int .i64))) ∧
    ∀ (i k : Nat) (u u' : Value), i < k → us[i]? = some u → us[k]? = some u' → u.ownBlock = none ∨ u.ownBlock ≠ u'.ownBlock
theorem Rows3.nil (w : World) (base : Nat) : Rows3 w base (.slice none 0 0) [] := ⟨[], rfl, World.ownsRow_nil _ _ _ _, fun i u h => by simp at h, fun i k u u' _ h => by simp at h⟩
theorem row_part {w w' : World} {base base' n m : Nat} {v u : Value} {us xs : List Value} (h : w.ownsRow base 38 1 v n us) (hu : w.ownsRow base' 3 1 u m xs) (hg : w.grownBy w' v.ownBlock) : w'.ownsRow base' 3 1 u m xs := by
  refine World.ownsRow.kept hu hg ?_
  rcases row_apart hu h (by decide) with e | e
  · rcases hu.2 with ⟨rfl, _⟩ | ⟨g, cap, cur, rfl, _⟩
    · exact .inl rfl
    · cases e
  · exact .inr e
theorem Rows3.push {w w' : World} {base B : Nat} {v v' u : Value} {t : List (List Int)} {us : List Value} {xs : List Int} (hl : us.length = t.length) (ho : w.ownsRow base 38 1 v t.length us)
    (hr : ∀ i u, us[i]? = some u → w.ownsRow base 3 1 u (t.getD i []).length ((t.getD i []).map (Value.int .i64)))
    (hd : ∀ (i k : Nat) (u u' : Value), i < k → us[i]? = some u → us[k]? = some u' → u.ownBlock = none ∨ u.ownBlock ≠ u'.ownBlock)
    (hB : base ≤ B) (hlow : ∀ (i : Nat) (u : Value) (g : Nat), us[i]? = some u → u.ownBlock = some g → g < B)
    (hu : w.ownsRow B 3 1 u xs.length (xs.map (Value.int .i64))) (hg : w.grownBy w' v.ownBlock) (ho' : w'.ownsRow base 38 1 v' (t.length + 1) (us ++ [u])) : Rows3 w' base v' (t ++ [xs]) := by
  have hlast : ∀ {i u'}, us.length ≤ i → (us ++ [u])[i]? = some u' → i = us.length ∧ u' = u := by
    intro i u' h hi
    rw [List.getElem?_append_right h] at hi
    have hi0 : i - us.length = 0 := by
      rcases Nat.eq_zero_or_pos (i - us.length) with h' | h'
      · exact h'
      · rw [List.getElem?_eq_none (by simp; omega)] at hi; cases hi
    rw [hi0] at hi
    simp at hi
    exact ⟨by omega, hi.symm⟩
  refine ⟨us ++ [u], by simp [hl], by simpa using ho', fun i u' hi => ?_, fun i k u1 u2 hik h1 h2 => ?_⟩
  · rcases Nat.lt_or_ge i us.length with h | h
    · rw [List.getElem?_append_left h] at hi
      have := row_part ho (hr i u' hi) hg
      rw [List.getD_eq_getElem?_getD, List.getElem?_append_left (by omega), ← List.getD_eq_getElem?_getD]
      exact this
    · obtain ⟨e, rfl⟩ := hlast h hi
      rw [List.getD_eq_getElem?_getD, e, hl, List.getElem?_append_right (Nat.le_refl _)]
      simpa using row_low (row_part ho hu hg) hB
  · rcases Nat.lt_or_ge k us.length with h | h
    · rw [List.getElem?_append_left h] at h2
      rw [List.getElem?_append_left (by omega)] at h1
      exact hd i k u1 u2 hik h1 h2
    · obtain ⟨e, rfl⟩ := hlast h h2
      rw [List.getElem?_append_left (by omega)] at h1
      cases ho1 : u1.ownBlock with
      | none => exact .inl rfl
      | some g =>
        refine .inr fun e => ?_
        have a1 := hlow i u1 g h1 ho1
        have a2 := (hu.lt g e.symm).1
        omega
def blockOf : Value → Nat
  | .slice (some a) _ _ => a.block
  | _ => 0
def capOf : Value → Nat
  | .slice _ _ c => c
  | _ => 0
theorem Rows3.toMat {w : World} {base n : Nat} {v : Value} {t : List (List Int)} (h : Rows3 w base v t) (hm : 0 < t.length) (hn : 0 < n) (hr : ∀ i, i < t.length → (t.getD i []).length = n) :
    ∃ O G K cap, v = .slice (some ⟨O, 0, none⟩) t.length cap ∧ t.length ≤ cap ∧ MatP w base O t.length n G K (fun i c => (t.getD i []).getD c 0) := by
  obtain ⟨us, hl, ho, hrow, hd⟩ := h
  rcases ho.2 with ⟨rfl, h0⟩ | ⟨g, cap, cur, rfl, hb, hg, hle, hcap, hsz, ht⟩
  · omega
  · have key : ∀ i, i < t.length → ∃ u gi k cs, us[i]? = some u ∧ u = .slice (some ⟨gi, 0, none⟩) n k ∧ base ≤ gi ∧ n ≤ k ∧ Box w gi cs 3 ∧ ∀ c, c < n → cs[c]? = some (.int .i64 ((t.getD i []).getD c 0)) := by
      intro i hi
      obtain ⟨u, hu⟩ : ∃ u, us[i]? = some u := ⟨_, List.getElem?_eq_getElem (by omega)⟩
      have h1 := hrow i u hu
      rw [hr i hi] at h1
      rcases h1.2 with ⟨rfl, h0⟩ | ⟨gi, k, cs, rfl, hbi, hgi, hlei, hcapi, hszi, hti⟩
      · omega
      · refine ⟨_, gi, k, cs, hu, rfl, hbi, hlei, hgi, fun c hc => ?_⟩
        have e : ((t.getD i []).map (Value.int .i64))[c]? = some (.int .i64 ((t.getD i []).getD c 0)) := by
          rw [List.getElem?_map, List.getElem?_eq_getElem (by rw [hr i hi]; exact hc), List.getD_eq_getElem?_getD (l := t.getD i []), List.getElem?_eq_getElem (by rw [hr i hi]; exact hc)]
          rfl
        rw [← hti, List.getElem?_take] at e
        split at e
        · simpa using e
        · cases e
    refine ⟨g, fun i => blockOf (us.getD i default), fun i => capOf (us.getD i default), cap, rfl, hle, ?_⟩
    have key2 : ∀ i, i < t.length → ∃ cs, us[i]? = some (.slice (some ⟨blockOf (us.getD i default), 0, none⟩) n (capOf (us.getD i default))) ∧ base ≤ blockOf (us.getD i default) ∧ n ≤ capOf (us.getD i default) ∧ Box w (blockOf (us.getD i default)) cs 3 ∧ ∀ c, c < n → cs[c]? = some (.int .i64 ((t.getD i []).getD c 0)) := by
      intro i hi
      obtain ⟨u, gi, k, cs, hu, rfl, h1, h2, h3, h4⟩ := key i hi
      have e : us.getD i default = .slice (some ⟨gi, 0, none⟩) n k := by rw [List.getD_eq_getElem?_getD, hu]; rfl
      rw [e]
      exact ⟨cs, hu, h1, h2, h3, h4⟩
    refine ⟨⟨cur, hg, fun i hi => ?_⟩, fun i hi => ?_, fun i k hi hk e => ?_, fun i hi e => ?_, hb, fun i hi => ?_, fun i hi => ?_⟩
    · obtain ⟨cs, hu, -⟩ := key2 i hi
      generalize blockOf (us.getD i default) = gi at hu ⊢
      generalize capOf (us.getD i default) = ki at hu ⊢
      have e := hu
      rw [← ht, List.getElem?_take] at e
      split at e
      · simpa using e
      · cases e
    · obtain ⟨cs, hu, h1, h2, h3, h4⟩ := key2 i hi
      exact ⟨cs, h3, h4⟩
    · obtain ⟨cs, hu, h1, h2, h3, h4⟩ := key2 i hi
      obtain ⟨cs', hu', -⟩ := key2 k hk
      rcases Nat.lt_trichotomy i k with hlt | heq | hgt
      · rcases hd i k _ _ hlt hu hu' with h' | h'
        · cases h'
        · exact absurd (by simp only [Value.ownBlock]; rw [show blockOf (us.getD i default) = blockOf (us.getD k default) from e]) h'
      · exact heq
      · rcases hd k i _ _ hgt hu' hu with h' | h'
        · cases h'
        · exact absurd (by simp only [Value.ownBlock]; rw [show blockOf (us.getD i default) = blockOf (us.getD k default) from e]) h'
    · obtain ⟨cs, hu, h1, h2, h3, h4⟩ := key2 i hi
      have e' : blockOf (us.getD i default) = g := e
      rw [e'] at h3
      have := (show w.heap[g]? = some (.cells cs 3 (0, 0)) from h3).symm.trans hg
      simp at this
    · obtain ⟨cs, hu, h1, h2, h3, h4⟩ := key2 i hi
      exact h1
    · obtain ⟨cs, hu, h1, h2, h3, h4⟩ := key2 i hi
      exact h2
end Go.Proofs.Ytaapamoglgpocaa
