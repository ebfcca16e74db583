/- Plain: a table without a row. -/
import Derived.Test.YtaapamoglgpocaaLessP
namespace Go.Proofs.Ytaapamoglgpocaa
open Go.RowKit

def lessK (t : List (List Int)) (i k : Nat) : List (List Int) := ((List.range k).filter fun q => decide (q ≠ i)).map fun q => t.getD q []
theorem lessK_zero (t : List (List Int)) (i : Nat) : lessK t i 0 = [] := rfl
theorem lessK_succ (t : List (List Int)) (i k : Nat) : lessK t i (k + 1) = lessK t i k ++ (if k = i then [] else [t.getD k []]) := by
  unfold lessK
  rw [List.range_succ, filter_snoc, List.map_append]
  congr 1
  by_cases h : k = i
  · rw [if_pos h, if_neg (by simp [h])]; rfl
  · rw [if_neg h, if_pos (by simp [h])]; rfl
theorem lessK_len (t : List (List Int)) (i : Nat) : ∀ k, (lessK t i k).length = if i < k then k - 1 else k
  | 0 => rfl
  | k + 1 => by
    rw [lessK_succ, List.length_append, lessK_len t i k]
    by_cases h : k = i
    · rw [if_pos h, if_neg (by omega), if_pos (by omega)]; simp
    · rw [if_neg h]
      by_cases h2 : i < k
      · rw [if_pos h2, if_pos (by omega)]; simp; omega
      · rw [if_neg h2, if_neg (by omega)]; simp
theorem lessK_mem {t : List (List Int)} {i k : Nat} {r : List Int} : r ∈ lessK t i k ↔ ∃ q, q < k ∧ q ≠ i ∧ r = t.getD q [] := by
  unfold lessK
  rw [List.mem_map]
  constructor
  · rintro ⟨q, hq, rfl⟩
    obtain ⟨a, b⟩ := List.mem_filter.1 hq
    exact ⟨q, List.mem_range.1 a, of_decide_eq_true b, rfl⟩
  · rintro ⟨q, a, b, rfl⟩
    exact ⟨q, List.mem_filter.2 ⟨List.mem_range.2 a, decide_eq_true b⟩, rfl⟩
def sameK (t : List (List Int)) (i k : Nat) : Bool := (List.range k).any fun q => decide (q ≠ i) && decide (t.getD q [] = t.getD i [])
theorem sameK_zero (t : List (List Int)) (i : Nat) : sameK t i 0 = false := rfl
theorem sameK_succ (t : List (List Int)) (i k : Nat) : sameK t i (k + 1) = (sameK t i k || (decide (k ≠ i) && decide (t.getD k [] = t.getD i []))) := by
  unfold sameK
  rw [List.range_succ, List.any_append]
  simp
theorem less_isTab {t : List (List Int)} (ht : T.isTab t = true) {i : Nat} (hm : 2 ≤ t.length) : T.isTab (lessK t i t.length) = true ∧ T.cols (lessK t i t.length) = T.cols t := by
  obtain ⟨⟨t1, t2, t3, t4⟩, h5⟩ := T.isTab_iff.1 ht
  have hl := lessK_len t i t.length
  have hpos : 1 ≤ (lessK t i t.length).length ∧ (lessK t i t.length).length ≤ 4 := by
    rw [hl]; split <;> omega
  have hrow : ∀ r ∈ lessK t i t.length, T.rowOk (T.cols t) r = true := fun r hr => by
    obtain ⟨q, hq, _, rfl⟩ := lessK_mem.1 hr
    exact h5 _ (T.row_mem hq)
  have hc : T.cols (lessK t i t.length) = T.cols t := (T.rowOk_iff.1 (hrow _ (T.row_mem (show 0 < (lessK t i t.length).length by omega)))).1
  exact ⟨T.isTab_iff.2 ⟨⟨hpos.1, hpos.2, by omega, by omega⟩, fun r hr => by rw [hc]; exact hrow r hr⟩, hc⟩
theorem rows1_of {t u : List (List Int)} (ht : T.isTab t = true) (hu : T.isTab u = true) (hc : T.cols u = T.cols t) (h : ∀ i, i < u.length → ∃ k, k < t.length ∧ u.getD i [] = t.getD k []) : ∃ f, Rows1 t u f := by
  have h' : ∀ i, ∃ k, i < u.length → k < t.length ∧ u.getD i [] = t.getD k [] := fun i => by
    by_cases hi : i < u.length
    · obtain ⟨k, hk⟩ := h i hi
      exact ⟨k, fun _ => hk⟩
    · exact ⟨0, fun h => absurd h hi⟩
  obtain ⟨f, hf⟩ := Classical.axiomOfChoice h'
  exact ⟨f, ht, hu, hc, fun i hi => ⟨(hf i hi).1, fun c _ => by unfold T.ent; rw [(hf i hi).2]⟩⟩
theorem getD_of_mem {t : List (List Int)} {r : List Int} (h : r ∈ t) : ∃ k, k < t.length ∧ r = t.getD k [] := by
  obtain ⟨k, hk, rfl⟩ := List.getElem_of_mem h
  exact ⟨k, hk, by rw [List.getD_eq_getElem?_getD, List.getElem?_eq_getElem hk]; rfl⟩
/-- The six numbers that are compared. -/
def numV (t : List (List Int)) : Nat → Nat
  | 0 => lenT t
  | 1 => partN t
  | 2 => rankN 0 t
  | 3 => rankN 2 t
  | 4 => (foolM t 0).length
  | _ => (foolM t 1).length
theorem Rows1.nums {t u : List (List Int)} {f : Nat → Nat} (h : Rows1 t u f) (j : Nat) : numV u j ≤ numV t j := by
  match j with
  | 0 => exact h.lenT
  | 1 => exact h.part
  | 2 => exact h.rank (.inl rfl)
  | 3 => exact h.rank (.inr rfl)
  | 4 => exact h.fool 0
  | n + 5 => exact h.fool 1
theorem less_nums {t : List (List Int)} (ht : T.isTab t = true) {i : Nat} (hm : 2 ≤ t.length) (j : Nat) : numV (lessK t i t.length) j ≤ numV t j := by
  obtain ⟨h1, h2⟩ := less_isTab ht (i := i) hm
  obtain ⟨f, hf⟩ := rows1_of ht h1 h2 fun k hk => by
    obtain ⟨q, hq, _, e⟩ := lessK_mem.1 (T.row_mem hk)
    exact ⟨q, hq, e⟩
  exact hf.nums j
theorem same_nums {t : List (List Int)} (ht : T.isTab t = true) {i : Nat} (hm : 2 ≤ t.length) (hs : sameK t i t.length = true) (j : Nat) : numV (lessK t i t.length) j = numV t j := by
  obtain ⟨h1, h2⟩ := less_isTab ht (i := i) hm
  refine Nat.le_antisymm (less_nums ht hm j) ?_
  unfold sameK at hs
  obtain ⟨q, hq, he⟩ := List.any_eq_true.1 hs
  rw [Bool.and_eq_true, decide_eq_true_eq, decide_eq_true_eq] at he
  obtain ⟨f, hf⟩ := rows1_of h1 ht h2.symm fun k hk => by
    by_cases hki : k = i
    · refine getD_of_mem (lessK_mem.2 ⟨q, List.mem_range.1 hq, he.1, ?_⟩)
      rw [hki, he.2]
    · exact getD_of_mem (lessK_mem.2 ⟨k, hk, hki, rfl⟩)
  exact hf.nums j
theorem numV_le {t : List (List Int)} (ht : T.isTab t = true) (j : Nat) : numV t j ≤ 16 := by
  match j with
  | 0 =>
    obtain ⟨⟨t1, t2, t3, t4⟩, _⟩ := T.isTab_iff.1 ht
    have q1 := whole_lt t1 t2
    have q2 := whole_lt t3 t4
    have : lenT t ≤ 6 := T.len_lt ht q1.1 q2.1 q1.2 q2.2
    show lenT t ≤ 16
    omega
  | 1 => exact leastN_le t _
  | 2 =>
    have := rank_part ht
    have h2 : partN t ≤ 16 := leastN_le t _
    show rankN 0 t ≤ 16
    omega
  | 3 =>
    have := rank_part ht
    have h2 : partN t ≤ 16 := leastN_le t _
    have h3 := rank2_le ht
    show rankN 2 t ≤ 16
    omega
  | 4 =>
    obtain ⟨h1, _, h3⟩ := fools_all (foolM_fools t 0)
    exact Nat.le_trans (sorted_sub _ _ (ents_sorted t 0) h1 h3).length_le (ents_len ht 0)
  | n + 5 =>
    obtain ⟨h1, _, h3⟩ := fools_all (foolM_fools t 1)
    exact Nat.le_trans (sorted_sub _ _ (ents_sorted t 1) h1 h3).length_le (ents_len ht 1)
/-- Six numbers in a row. -/
def arr6 (f : Nat → Nat) : Array Value := #[.int .i64 (f 0 : Int), .int .i64 (f 1 : Int), .int .i64 (f 2 : Int), .int .i64 (f 3 : Int), .int .i64 (f 4 : Int), .int .i64 (f 5 : Int)]
theorem arr6_at (f : Nat → Nat) {j : Nat} (h : j < 6) : (arr6 f)[j]? = some (.int .i64 (f j : Int)) := by
  rcases (show j = 0 ∨ j = 1 ∨ j = 2 ∨ j = 3 ∨ j = 4 ∨ j = 5 by omega) with rfl | rfl | rfl | rfl | rfl | rfl <;> rfl
end Go.Proofs.Ytaapamoglgpocaa
