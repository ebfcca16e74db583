/- Walks: Weighs, and what are weights. -/
import Derived.Test.YtohdjlgghkcaoaaWt3
import Derived.BigQuiet
namespace Go.Proofs.Ytohdjlgghkcaoaa
open Go.RowKit Go.Maps

theorem isW_not {xs : List Int} {m : Int} {i : Nat} (hi : i < xs.length) (h : ¬ (1 ≤ xs.getD i 0 ∧ xs.getD i 0 ≤ m ∧ (i = 0 ∨ xs.getD (i - 1) 0 < xs.getD i 0))) : W.isW xs m = false := by
  rw [Bool.eq_false_iff]
  intro h'
  exact h ((W.isW_iff.1 h').2.2 i hi)
theorem isW_len {xs : List Int} {m : Int} (h : ¬ (1 ≤ xs.length ∧ xs.length ≤ 5)) : W.isW xs m = false := by
  rw [Bool.eq_false_iff]
  intro h'
  have := W.isW_iff.1 h'
  exact h ⟨this.1, this.2.1⟩
theorem asc_le {xs : List Int} (h : ∀ j, 1 ≤ j → j < xs.length → xs.getD (j - 1) 0 < xs.getD j 0) : ∀ i k, i ≤ k → k < xs.length → xs.getD i 0 ≤ xs.getD k 0 := by
  intro i k hik
  induction k with
  | zero => intro _; rw [show i = 0 by omega]; exact Int.le_refl _
  | succ k ih =>
    intro hk
    by_cases he : i = k + 1
    · rw [he]; exact Int.le_refl _
    · have h1 := ih (by omega) (by omega)
      have h2 := h (k + 1) (by omega) hk
      rw [show k + 1 - 1 = k by omega] at h2
      omega
theorem isW_total {xs : List Int} (h : W.isW xs 200 = true) : W.total xs ≤ 999 := by
  obtain ⟨h1, h2, h3⟩ := W.isW_iff.1 h
  have h4 := W.total_le (xs := xs) (m := 200) (fun x hx => by have := W.isW_mem h x hx; omega)
  by_cases h5 : xs.length ≤ 4
  · omega
  · match xs, h2, h5, h3 with
    | [a, b, c, d, e], _, _, h3 =>
      have e0 := h3 0 (by simp)
      have e1 := h3 1 (by simp)
      have e2 := h3 2 (by simp)
      have e3 := h3 3 (by simp)
      have e4 := h3 4 (by simp)
      simp at e0 e1 e2 e3 e4
      unfold W.total
      simp [W.sumR]
      omega
    | [], _, h5, _ => exact absurd (by simp) h5
    | [_], _, h5, _ => exact absurd (by simp) h5
    | [_, _], _, h5, _ => exact absurd (by simp) h5
    | [_, _, _], _, h5, _ => exact absurd (by simp) h5
    | [_, _, _, _], _, h5, _ => exact absurd (by simp) h5
    | _ :: _ :: _ :: _ :: _ :: _ :: _, h2, _, _ => simp at h2
theorem RWeighs_W (v : Value) (xs : List Int) (w : World) (hv : See w v xs) (h : W.isW xs 200 = true) : Calls Try.prog 39 #[v] w (Ret (.int .i64 (W.far xs : Int)) w) :=
  RWeighs_any v xs _ w hv (by have := (W.isW_iff.1 h).2.1; omega) (fun x hx => by have := W.isW_mem h x hx; omega) (isW_total h) (W.isW_far (Int.le_refl _) h)
theorem weighs_W (v : Value) (xs : List Int) (w : World) (hv : See w v xs) (h : W.isW xs 200 = true) : Calls Try.prog 59 #[v] w (Ret (.int .i64 (W.far xs : Int)) w) :=
  weighs_any v xs _ w hv (by have := (W.isW_iff.1 h).2.1; omega) (fun x hx => by have := W.isW_mem h x hx; omega) (W.isW_far (Int.le_refl _) h)

def weighsV (xs : List Int) : Value := if W.isW xs 200 = true then .tuple #[.int .i64 (W.far xs : Int), .int .i64 0] else .tuple #[.int .i64 0, .int .i64 2]

set_option maxRecDepth 100000 in
set_option maxHeartbeats 2000000 in
theorem Weighs_any (v : Value) (xs : List Int) (w : World) (hv : See w v xs) (hlm : xs.length ≤ 1000000) : Calls Try.prog 34 #[v] w (Ret (weighsV xs) w) := by
  obtain ⟨ao, cap, rfl⟩ := hv.shape
  have HV := hide hv
  clear hv
  obtain ⟨L, hL⟩ : ∃ L, L = xs.length := ⟨_, rfl⟩
  have HL := hide hL
  have HBad : Hid (W.isW xs 200 = false → weighsV xs = .tuple #[.int .i64 0, .int .i64 2]) := hide fun h => by unfold weighsV; rw [h]; rfl
  have HCall := hide fun ws (hw : Chg [] w ws) (h : W.isW xs 200 = true) => weighs_W (.slice ao xs.length cap) xs ws (HV.out.keep hw) h
  simp only [← hL] at HCall hlm
  rw [← hL]
  clear hL
  obtain ⟨R, hR⟩ : ∃ R, R = weighsV xs := ⟨_, rfl⟩
  rw [← hR]
  have HR := hide hR
  clear hR
  by_cases h1 : L < 1
  · have d1 : decide ((L : Int) < 1) = true := by simp; omega
    have E : Hid (R = .tuple #[.int .i64 0, .int .i64 2]) := hide (by rw [HR.out]; exact HBad.out (isW_len (by rw [← HL.out]; omega)))
    go_enter Try.func34, Try.ntmps34
    go_wp2
    go_ret2
    exact ⟨by rw [E.out]; rfl, Chg.refl _ _⟩
  · have d1 : decide ((L : Int) < 1) = false := by simp; omega
    by_cases h2 : 5 < L
    · have d2 : decide ((5 : Int) < (L : Int)) = true := by simp; omega
      have E : Hid (R = .tuple #[.int .i64 0, .int .i64 2]) := hide (by rw [HR.out]; exact HBad.out (isW_len (by rw [← HL.out]; omega)))
      go_enter Try.func34, Try.ntmps34
      go_wp2
      go_ret2
      exact ⟨by rw [E.out]; rfl, Chg.refl _ _⟩
    · have d2 : decide ((5 : Int) < (L : Int)) = false := by simp; omega
      have hne : xs ≠ [] := by rintro rfl; have := HL.out; simp at this; omega
      obtain ⟨a, cap', e, hcell⟩ := HV.out.open hne
      cases e
      have HC := hide hcell
      have f0 := hcell _ (Chg.refl _ _) 0 (by rw [← HL.out]; omega)
      have fl := hcell _ (Chg.refl _ _) (L - 1) (by rw [← HL.out]; omega)
      have eL : (L : Int) - 1 = ((L - 1 : Nat) : Int) := by omega
      have eL0 : (0 : Int) ≤ ((L - 1 : Nat) : Int) := by omega
      have eL1 : ((L - 1 : Nat) : Int) < (L : Int) := by omega
      obtain ⟨M, hM⟩ : ∃ M, M = L - 1 := ⟨_, rfl⟩
      rw [← hM] at fl eL eL0 eL1
      have HM := hide hM
      obtain ⟨x0, hx0⟩ : ∃ x, x = xs.getD 0 0 := ⟨_, rfl⟩
      obtain ⟨xl, hxl⟩ : ∃ x, x = xs.getD M 0 := ⟨_, rfl⟩
      rw [← hx0] at f0
      rw [← hxl] at fl
      rw [add_nought] at f0
      have HX0 := hide hx0
      have HXl := hide hxl
      have l1 : (0 : Int) < (L : Int) := by omega
      clear hM hx0 hxl hcell hne
      by_cases h3 : x0 < 1
      · have d3 : decide (x0 < 1) = true := by simpa using h3
        have E : Hid (R = .tuple #[.int .i64 0, .int .i64 2]) := hide (by rw [HR.out]; exact HBad.out (isW_not (i := 0) (by rw [← HL.out]; omega) (by rw [← HX0.out]; omega)))
        go_enter Try.func34, Try.ntmps34
        go_wp2
        go_ret2
        exact ⟨by rw [E.out]; rfl, Chg.refl _ _⟩
      · have d3 : decide (x0 < 1) = false := by simpa using h3
        by_cases h4 : 200 < xl
        · have d4 : decide (200 < xl) = true := by simpa using h4
          have E : Hid (R = .tuple #[.int .i64 0, .int .i64 2]) := hide (by rw [HR.out]; exact HBad.out (isW_not (i := M) (by rw [← HL.out, HM.out]; omega) (by rw [← HXl.out]; omega)))
          go_enter Try.func34, Try.ntmps34
          go_wp2
          go_ret2
          exact ⟨by rw [E.out]; rfl, Chg.refl _ _⟩
        · have d4 : decide (200 < xl) = false := by simpa using h4
          have H34 := hide (And.intro h3 h4)
          clear h3 h4
          go_enter Try.func34, Try.ntmps34
          go_wp2
          clear f0 fl
          go_loopw [4] (fun iv wr => ∃ i : Nat, 1 ≤ i ∧ i ≤ L ∧ iv = .int .i64 (i : Int) ∧ Hid ((∀ j, 1 ≤ j → j < i → xs.getD (j - 1) 0 < xs.getD j 0) ∧ Chg [] w wr)) (fun iv _ => L - (intOf iv).toNat)
          case atStart => exact ⟨1, Nat.le_refl _, by omega, rfl, hide ⟨fun j h1 h2 => by omega, Chg.refl _ _⟩⟩
          case round =>
            obtain ⟨i, hi1, hi, rfl, hI⟩ := hrel
            by_cases hlt : i < L
            · have d5 : decide ((i : Int) < (L : Int)) = true := by simpa using hlt
              have fa := HC.out _ hI.out.2 (i - 1) (by rw [← HL.out]; omega)
              have fb := HC.out _ hI.out.2 i (by rw [← HL.out]; omega)
              have ei : (i : Int) - 1 = ((i - 1 : Nat) : Int) := by omega
              have ei0 : (0 : Int) ≤ ((i - 1 : Nat) : Int) := by omega
              have ei1 : ((i - 1 : Nat) : Int) < (L : Int) := by omega
              have eb0 : (0 : Int) ≤ (i : Int) := by omega
              have eb1 : (i : Int) < (L : Int) := by omega
              obtain ⟨I, hIe⟩ : ∃ I, I = i - 1 := ⟨_, rfl⟩
              rw [← hIe] at fa ei ei0 ei1
              obtain ⟨xa, hxa⟩ : ∃ x, x = xs.getD I 0 := ⟨_, rfl⟩
              obtain ⟨xb, hxb⟩ : ∃ x, x = xs.getD i 0 := ⟨_, rfl⟩
              rw [← hxa] at fa
              rw [← hxb] at fb
              have HXa := hide hxa
              have HXb := hide hxb
              have HI' := hide hIe
              clear hxa hxb hIe
              by_cases h5 : xb ≤ xa
              · have d6 : decide (xb ≤ xa) = true := by simpa using h5
                have E : Hid (R = .tuple #[.int .i64 0, .int .i64 2]) := hide (by
                  rw [HR.out]; exact HBad.out (isW_not (i := i) (by rw [← HL.out]; omega) (by rw [← HXb.out, ← HI'.out, ← HXa.out]; omega)))
                go_wp2
                go_quiet (fail)
                go_wp2
                go_ret2
                exact ⟨by rw [E.out]; rfl, hI.out.2.drewN _⟩
              · have d6 : decide (xb ≤ xa) = false := by simpa using h5
                have HI2 : Hid (∀ j, 1 ≤ j → j < i + 1 → xs.getD (j - 1) 0 < xs.getD j 0) := hide (fun j hj1 hj2 => by
                  rcases (show j < i ∨ j = i by omega) with h | rfl
                  · exact hI.out.1 j hj1 h
                  · rw [← HXb.out, ← HI'.out, ← HXa.out]; omega)
                go_wp2
                go_quiet (fail)
                go_wp2
                go_roundw
                case rel => exact ⟨i + 1, by omega, by omega, by go_num, hide ⟨HI2.out, hI.out.2.drewN _⟩⟩
                case measure => simp [intOf]; omega
            · have d5 : decide ((i : Int) < (L : Int)) = false := by simpa using hlt
              obtain rfl : i = L := by omega
              have hw : W.isW xs 200 = true := W.isW_iff.2 ⟨by rw [← HL.out]; omega, by rw [← HL.out]; omega, fun j hj => by
                have h3 := H34.out
                rw [HX0.out, HXl.out] at h3
                have hasc := asc_le (xs := xs) (fun j h1 h2 => hI.out.1 j h1 (by rw [HL.out]; exact h2))
                have h5 := hasc 0 j (Nat.zero_le _) hj
                have h6 := hasc j M (by rw [HM.out, HL.out]; omega) (by rw [HM.out, HL.out]; omega)
                refine ⟨by omega, by omega, ?_⟩
                by_cases hj0 : j = 0
                · exact .inl hj0
                · exact .inr (hI.out.1 j (by omega) (by rw [HL.out]; exact hj))⟩
              have E : Hid (R = .tuple #[.int .i64 (W.far xs : Int), .int .i64 0]) := hide (by rw [HR.out]; unfold weighsV; rw [if_pos hw])
              have HC2 := hide (HCall.out _ hI.out.2 hw)
              clear hw
              go_wp2_with fail
              refine HC2.out.mono ?_
              rintro e w1 ⟨rfl, hw1⟩
              go_wp2
              go_ret2
              exact ⟨by rw [E.out]; rfl, hI.out.2.trans hw1⟩
end Go.Proofs.Ytohdjlgghkcaoaa
