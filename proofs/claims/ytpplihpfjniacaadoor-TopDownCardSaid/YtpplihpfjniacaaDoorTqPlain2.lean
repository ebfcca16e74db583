/- Plain: the rank of the table of a family is at most two to the power of the questions. -/
import Derived.Test.YtpplihpfjniacaaDoorRkMin
import Derived.Test.YtpplihpfjniacaaDoorTqPlain
namespace Go.Proofs.YtpplihpfjniacaaDoor

theorem minors_le {M : Nat → Nat → Int} {m n : Nat} {W : List (Nat → Int)} (h : ∀ r, r < m → ∃ w ∈ W, ∀ c, c < n → M r c = w c) : minorsM 0 M m n ≤ W.length := by
  refine Rk.le (p := 0) (n := n) ((minors_isRk (p := 0) (M := M) (m := m) (n := n) (by decide)).1.spn prim_zero fun x hx => ?_)
  obtain ⟨r, hr, rfl⟩ := hx
  obtain ⟨w, hw, e⟩ := h r hr
  exact (Spn.base hw).cong fun c hc => by rw [e c hc, Int.sub_self]; exact Int.dvd_refl 0
theorem need_zero {h : Nat → Bool} {a i : Nat} (ha : a < 16) (h0 : E.need 4 h a i = 0) : E.settled 4 h a i = true := by
  rw [E.need_eq (n := 4) ha] at h0
  refine Classical.byContradiction fun hs => ?_
  rw [if_neg hs] at h0
  rcases E.leastTo_mem 4 (fun x => 1 + max (E.need 4 h (a ||| 2 ^ x) i) (E.need 4 h (a ||| 2 ^ x) (i ||| 2 ^ x))) a 4 with h5 | ⟨x, _, _, he⟩
  · omega
  · rw [he] at h0
    omega
theorem two_rows' : (List.range 4).all (fun x => (List.range 4).all fun r => (List.range 4).all fun c =>
    (fun r' => decide (r' < 4) && (decide (r' = 0) || decide (x < 2 ∧ r' = 2 ^ x)) && ((r ||| c <<< 2) &&& 2 ^ x == (r' ||| c <<< 2) &&& 2 ^ x) && (((r ||| c <<< 2) &&& 2 ^ x == 0) || ((r ||| c <<< 2) &&& 2 ^ x == 2 ^ x))) (if x < 2 then r &&& 2 ^ x else 0)) = true := by decide +kernel
theorem two_rows {x r : Nat} (hx : x < 4) (hr : r < 4) : ∃ r', r' < 4 ∧ (r' = 0 ∨ (x < 2 ∧ r' = 2 ^ x)) ∧ ∀ c, c < 4 → (r ||| c <<< 2) &&& 2 ^ x = (r' ||| c <<< 2) &&& 2 ^ x ∧ ((r ||| c <<< 2) &&& 2 ^ x = 0 ∨ (r ||| c <<< 2) &&& 2 ^ x = 2 ^ x) := by
  have h1 := List.all_eq_true.1 (List.all_eq_true.1 two_rows' x (List.mem_range.2 hx)) r (List.mem_range.2 hr)
  refine ⟨if x < 2 then r &&& 2 ^ x else 0, ?_, ?_, fun c hc => ?_⟩
  · have h2 := List.all_eq_true.1 h1 0 (by decide)
    simp only [Bool.and_eq_true, decide_eq_true_eq] at h2
    exact h2.1.1.1
  · have h2 := List.all_eq_true.1 h1 0 (by decide)
    simp only [Bool.and_eq_true, Bool.or_eq_true, decide_eq_true_eq] at h2
    exact h2.1.1.2
  · have h2 := List.all_eq_true.1 h1 c (List.mem_range.2 hc)
    simp only [Bool.and_eq_true, Bool.or_eq_true, beq_iff_eq] at h2
    exact ⟨h2.1.2, h2.2⟩
theorem rank_need (h : Nat → Bool) : minorsM 0 (T.ent (famT h)) 4 4 ≤ 2 ^ E.need 4 h 0 0 := by
  by_cases h2 : 2 ≤ E.need 4 h 0 0
  · have h3 : 2 ^ 2 ≤ 2 ^ E.need 4 h 0 0 := Nat.pow_le_pow_right (by decide) h2
    have h4 := minors_le (M := T.ent (famT h)) (m := 4) (n := 4) (W := (List.range 4).map (T.ent (famT h))) (fun r hr => ⟨_, List.mem_map_of_mem (List.mem_range.2 hr), fun _ _ => rfl⟩)
    rw [List.length_map, List.length_range] at h4
    omega
  · have hn := E.need_eq (n := 4) (h := h) (a := 0) (i := 0) (by decide)
    by_cases hs : E.settled 4 h 0 0 = true
    · have h4 := minors_le (M := T.ent (famT h)) (m := 4) (n := 4) (W := [T.ent (famT h) 0]) (fun r hr => ⟨_, List.mem_singleton_self _, fun c hc => by
        rw [famT_at h hr hc, famT_at h (by decide) hc, E.settled_iff.1 hs _ _ (cell_lt hr hc) (cell_lt (r := 0) (by decide) hc) (Nat.and_zero _) (Nat.and_zero _)]⟩)
      have h5 := Nat.one_le_two_pow (n := E.need 4 h 0 0)
      have h6 : [T.ent (famT h) 0].length = 1 := rfl
      omega
    · rw [if_neg hs] at hn
      rcases E.leastTo_mem 4 (fun x => 1 + max (E.need 4 h (0 ||| 2 ^ x) 0) (E.need 4 h (0 ||| 2 ^ x) (0 ||| 2 ^ x))) 0 4 with h5 | ⟨x, hx, _, he⟩
      · omega
      · rw [he] at hn
        have hp : 0 ||| 2 ^ x < 16 := E.lt_or (n := 4) (by decide) hx
        have s0 := need_zero hp (show E.need 4 h (0 ||| 2 ^ x) 0 = 0 by omega)
        have s1 := need_zero hp (show E.need 4 h (0 ||| 2 ^ x) (0 ||| 2 ^ x) = 0 by omega)
        rw [Nat.zero_or] at s0 s1
        rw [E.settled_iff] at s0 s1
        have h4 := minors_le (M := T.ent (famT h)) (m := 4) (n := 4) (W := [T.ent (famT h) 0, T.ent (famT h) (2 ^ x)]) (fun r hr => by
          obtain ⟨r', q1, q2, q3⟩ := two_rows hx hr
          refine ⟨T.ent (famT h) r', ?_, fun c hc => ?_⟩
          · rcases q2 with q2 | ⟨_, q2⟩ <;> rw [q2] <;> simp
          · obtain ⟨e1, e2⟩ := q3 c hc
            rw [famT_at h hr hc, famT_at h q1 hc]
            rcases e2 with e2 | e2
            · rw [s0 _ _ (cell_lt hr hc) (cell_lt q1 hc) e2 (by rw [← e1]; exact e2)]
            · rw [s1 _ _ (cell_lt hr hc) (cell_lt q1 hc) e2 (by rw [← e1]; exact e2)])
        have h6 : 2 ^ 1 ≤ 2 ^ E.need 4 h 0 0 := Nat.pow_le_pow_right (by decide) (by omega)
        have h7 : [T.ent (famT h) 0, T.ent (famT h) (2 ^ x)].length = 2 := rfl
        omega
theorem need_le4 (h : Nat → Bool) : E.need 4 h 0 0 ≤ 4 := need_le h _ 0 0 (Nat.le_refl _) (by decide)
theorem len_le (h : Nat → Bool) : T.len (famT h) 15 15 ≤ E.need 4 h 0 0 := len_need h _ 0 0 (Nat.le_refl _) (by decide) (by decide) rfl
theorem need_two : E.need 2 (fun s => decide (s = 0)) 0 0 = 2 := by decide +kernel
end Go.Proofs.YtpplihpfjniacaaDoor
