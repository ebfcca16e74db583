/- Walk: what are weights, the reference's. -/
import Derived.Test.YtohdjlgghkcaoaaWt4
namespace Go.Proofs.Ytohdjlgghkcaoaa
open Go.RowKit Go.Maps

set_option maxRecDepth 100000 in
set_option maxHeartbeats 2000000 in
theorem RWeights_any (v : Value) (xs : List Int) (m : Int) (w : World) (hv : See w v xs) (hlm : xs.length ≤ 9223372036854775807) : Calls Try.prog 38 #[v, .int .i64 m] w (Ret (.bool (W.isW xs m)) w) := by
  obtain ⟨ao, cap, rfl⟩ := hv.shape
  have HV := hide hv
  clear hv
  obtain ⟨L, hL⟩ : ∃ L, L = xs.length := ⟨_, rfl⟩
  have HL := hide hL
  rw [← hL] at hlm ⊢
  clear hL
  obtain ⟨R, hR⟩ : ∃ R, R = W.isW xs m := ⟨_, rfl⟩
  rw [← hR]
  have HR := hide hR
  clear hR
  go_enter Try.func38, Try.ntmps38
  go_wp2
  go_loop [9] (fun iv => ∃ i : Nat, i ≤ L ∧ iv = .int .i64 (i : Int) ∧ Hid (∀ j, j < i → 1 ≤ xs.getD j 0 ∧ xs.getD j 0 ≤ m ∧ (j = 0 ∨ xs.getD (j - 1) 0 < xs.getD j 0))) (fun iv => L - (intOf iv).toNat)
  case atStart => exact ⟨0, Nat.zero_le _, rfl, hide (fun j h => by omega)⟩
  case round =>
    obtain ⟨i, hi, rfl, hI⟩ := hrel
    by_cases hlt : i < L
    · have d1 : decide ((i : Int) < (L : Int)) = true := by simpa using hlt
      have hne : xs ≠ [] := by rintro rfl; have := HL.out; simp at this; omega
      obtain ⟨a, cap', e, hcell⟩ := HV.out.open hne
      cases e
      have fx := hcell _ (Chg.refl _ _) i (by rw [← HL.out]; exact hlt)
      have HC := hide hcell
      obtain ⟨x, hx⟩ : ∃ x, x = xs.getD i 0 := ⟨_, rfl⟩
      rw [← hx] at fx
      have HX := hide hx
      have hi0 : (0 : Int) ≤ (i : Int) := by omega
      have hi1 : (i : Int) < (L : Int) := by omega
      clear hcell hne hx
      by_cases h1 : x < 1
      · have d2 : decide (x < 1) = true := by simpa using h1
        have E : Hid (R = false) := hide (by rw [HR.out]; exact isW_not (i := i) (by rw [← HL.out]; exact hlt) (by rw [← HX.out]; omega))
        go_wp2
        go_ret
        exact ⟨by rw [E.out]; rfl, Chg.refl _ _⟩
      · have d2 : decide (x < 1) = false := by simpa using h1
        by_cases h2 : m < x
        · have d3 : decide (m < x) = true := by simpa using h2
          have E : Hid (R = false) := hide (by rw [HR.out]; exact isW_not (i := i) (by rw [← HL.out]; exact hlt) (by rw [← HX.out]; omega))
          go_wp2
          go_ret
          exact ⟨by rw [E.out]; rfl, Chg.refl _ _⟩
        · have d3 : decide (m < x) = false := by simpa using h2
          have H12 := hide (And.intro h1 h2)
          clear h1 h2
          by_cases h0 : i = 0
          · subst h0
            have d4 : decide ((0 : Int) < ((0 : Nat) : Int)) = false := by simp
            rw [add_nought] at fx
            simp only [Int.natCast_zero] at d1 hi0 hi1 d4 ⊢
            go_wp2
            go_round
            case rel => exact ⟨1, by omega, by go_num, hide (fun j hj => by
              obtain rfl : j = 0 := by omega
              have := H12.out
              rw [HX.out] at this
              exact ⟨by omega, by omega, .inl rfl⟩)⟩
            case measure => simp [intOf]; omega
          · have d4 : decide ((0 : Int) < (i : Int)) = true := by simp; omega
            have fa := HC.out _ (Chg.refl _ _) (i - 1) (by rw [← HL.out]; omega)
            have ei : (i : Int) - 1 = ((i - 1 : Nat) : Int) := by omega
            have ei0 : (0 : Int) ≤ ((i - 1 : Nat) : Int) := by omega
            have ei1 : ((i - 1 : Nat) : Int) < (L : Int) := by omega
            obtain ⟨I, hIe⟩ : ∃ I, I = i - 1 := ⟨_, rfl⟩
            rw [← hIe] at fa ei ei0 ei1
            obtain ⟨xa, hxa⟩ : ∃ x, x = xs.getD I 0 := ⟨_, rfl⟩
            rw [← hxa] at fa
            have HXa := hide hxa
            have HI' := hide hIe
            clear hxa hIe h0
            by_cases h5 : x ≤ xa
            · have d6 : decide (x ≤ xa) = true := by simpa using h5
              have E : Hid (R = false) := hide (by rw [HR.out]; exact isW_not (i := i) (by rw [← HL.out]; exact hlt) (by rw [← HX.out, ← HI'.out, ← HXa.out]; have := HI'.out; omega))
              go_wp2
              go_ret
              exact ⟨by rw [E.out]; rfl, Chg.refl _ _⟩
            · have d6 : decide (x ≤ xa) = false := by simpa using h5
              have HI2 : Hid (∀ j, j < i + 1 → 1 ≤ xs.getD j 0 ∧ xs.getD j 0 ≤ m ∧ (j = 0 ∨ xs.getD (j - 1) 0 < xs.getD j 0)) := hide (fun j hj => by
                rcases (show j < i ∨ j = i by omega) with h | rfl
                · exact hI.out j h
                · rw [← HX.out, ← HI'.out, ← HXa.out]
                  have := H12.out
                  exact ⟨by omega, by omega, .inr (by omega)⟩)
              go_wp2
              go_round
              case rel => exact ⟨i + 1, by omega, by go_num, HI2⟩
              case measure => simp [intOf]; omega
    · have d1 : decide ((i : Int) < (L : Int)) = false := by simpa using hlt
      obtain rfl : i = L := by omega
      have E : Hid (R = (decide (1 ≤ i) && decide (i ≤ 5))) := hide (by
        rw [HR.out]
        by_cases h : 1 ≤ xs.length ∧ xs.length ≤ 5
        · rw [W.isW_iff.2 ⟨h.1, h.2, fun j hj => hI.out j (by rw [HL.out]; exact hj)⟩, decide_eq_true (by rw [HL.out]; exact h.1), decide_eq_true (by rw [HL.out]; exact h.2)]; rfl
        · rw [isW_len h]
          by_cases h1 : 1 ≤ i
          · rw [decide_eq_false (show ¬ i ≤ 5 by intro h5; exact h ⟨by rw [← HL.out]; exact h1, by rw [← HL.out]; exact h5⟩)]; simp
          · rw [decide_eq_false h1]; rfl)
      by_cases h1 : 1 ≤ i
      · have d2 : decide ((1 : Int) ≤ (i : Int)) = true := by simp; omega
        by_cases h5 : i ≤ 5
        · have d3 : decide ((i : Int) ≤ 5) = true := by simp; omega
          have E2 : Hid (R = true) := hide (by rw [E.out, decide_eq_true h1, decide_eq_true h5]; rfl)
          go_wp2
          go_ret
          exact ⟨by rw [E2.out]; rfl, Chg.refl _ _⟩
        · have d3 : decide ((i : Int) ≤ 5) = false := by simp; omega
          have E2 : Hid (R = false) := hide (by rw [E.out, decide_eq_false h5]; simp)
          go_wp2
          go_ret
          exact ⟨by rw [E2.out]; rfl, Chg.refl _ _⟩
      · have d2 : decide ((1 : Int) ≤ (i : Int)) = false := by simp; omega
        have E2 : Hid (R = false) := hide (by rw [E.out, decide_eq_false h1]; rfl)
        go_wp2
        go_ret
        exact ⟨by rw [E2.out]; rfl, Chg.refl _ _⟩
end Go.Proofs.Ytohdjlgghkcaoaa
