/- Walks: slices of ints compared. -/
import Derived.Test.YtohdjlgghkcaoaaWt9
namespace Go.Proofs.Ytohdjlgghkcaoaa
open Go.RowKit

theorem isNaN_any (x : Int) (w : World) : Calls Try.prog 82 #[.int .i64 x] w (Ret (.bool false) w) := by
  go_enter Try.func82, Try.ntmps82
  have e : (x != x) = false := by simp
  go_wp2
  go_ret
  exact ⟨rfl, Chg.refl _ _⟩
def cmpI (x y : Int) : Int := if x < y then -1 else if y < x then 1 else 0
set_option maxRecDepth 100000 in
theorem cmp_any (x y : Int) (w : World) : Calls Try.prog 62 #[.int .i64 x, .int .i64 y] w (Ret (.int .i64 (cmpI x y)) w) := by
  by_cases h1 : x < y
  · have d1 : decide (x < y) = true := by simpa using h1
    have E : Hid (cmpI x y = -1) := hide (by unfold cmpI; rw [if_pos h1])
    go_enter Try.func62, Try.ntmps62
    go_wp2_with (go_at_call 82; refine (isNaN_any _ _).mono ?_; rintro e w1 ⟨rfl, hw1⟩; (try (replace hw0 := hw0.trans hw1; clear hw1)); (try (have hw0 := hw1; clear hw1)))
    go_ret
    exact ⟨by rw [E.out]; rfl, hw0⟩
  · have d1 : decide (x < y) = false := by simpa using h1
    by_cases h2 : y < x
    · have d2 : decide (y < x) = true := by simpa using h2
      have E : Hid (cmpI x y = 1) := hide (by unfold cmpI; rw [if_neg h1, if_pos h2])
      go_enter Try.func62, Try.ntmps62
      go_wp2_with (go_at_call 82; refine (isNaN_any _ _).mono ?_; rintro e w1 ⟨rfl, hw1⟩; (try (replace hw0 := hw0.trans hw1; clear hw1)); (try (have hw0 := hw1; clear hw1)))
      go_ret
      exact ⟨by rw [E.out]; rfl, hw0⟩
    · have d2 : decide (y < x) = false := by simpa using h2
      have E : Hid (cmpI x y = 0) := hide (by unfold cmpI; rw [if_neg h1, if_neg h2])
      go_enter Try.func62, Try.ntmps62
      go_wp2_with (go_at_call 82; refine (isNaN_any _ _).mono ?_; rintro e w1 ⟨rfl, hw1⟩; (try (replace hw0 := hw0.trans hw1; clear hw1)); (try (have hw0 := hw1; clear hw1)))
      go_ret
      exact ⟨by rw [E.out]; rfl, hw0⟩
def cmpL : List Int → List Int → Int
  | [], [] => 0
  | [], _ :: _ => -1
  | _ :: _, [] => 1
  | x :: l, y :: u => if x < y then -1 else if y < x then 1 else cmpL l u
theorem cmpL_le : ∀ (l u : List Int), W.lexLe l u = true → cmpL l u ≤ 0
  | [], [], _ => by simp [cmpL]
  | [], _ :: _, _ => by simp [cmpL]
  | _ :: _, [], h => by simp [W.lexLe] at h
  | x :: l, y :: u, h => by
    unfold W.lexLe at h
    unfold cmpL
    simp only [Bool.or_eq_true, decide_eq_true_eq, Bool.and_eq_true] at h
    rcases h with h | ⟨rfl, h⟩
    · rw [if_pos h]; omega
    · rw [if_neg (by omega), if_neg (by omega)]; exact cmpL_le l u h
theorem drop_cons {xs : List Int} {i : Nat} (hi : i < xs.length) : xs.drop i = xs.getD i 0 :: xs.drop (i + 1) := by
  rw [List.drop_eq_getElem_cons hi, List.getD_eq_getElem?_getD, List.getElem?_eq_getElem hi]; rfl

set_option maxRecDepth 100000 in
set_option maxHeartbeats 1000000 in
theorem Compare_any (v u : Value) (xs ys : List Int) (w : World) (hv : See w v xs) (hu : See w u ys) (hl : ys.length = xs.length) (hlm : xs.length ≤ 1000000) :
    Calls Try.prog 41 #[v, u] w (Ret (.int .i64 (cmpL xs ys)) w) := by
  obtain ⟨ao, cap, rfl⟩ := hv.shape
  obtain ⟨bo, cap', rfl⟩ := hu.shape
  have HV := hide hv
  have HU := hide hu
  obtain ⟨L, hL⟩ : ∃ L, L = xs.length := ⟨_, rfl⟩
  rw [hl]
  have HL := hide hL
  have HL2 := hide hl
  rw [← hL] at hlm ⊢
  obtain ⟨R, hR⟩ : ∃ R, R = cmpL xs ys := ⟨_, rfl⟩
  rw [← hR]
  have HR := hide hR
  clear hv hu hl hL hR
  go_enter Try.func41, Try.ntmps41
  go_wp2
  go_loopw [11] (fun iv wr => ∃ i : Nat, i ≤ L ∧ iv = .int .i64 (i : Int) ∧ Hid (R = cmpL (xs.drop i) (ys.drop i) ∧ Chg [] w wr)) (fun iv _ => L - (intOf iv).toNat)
  case atStart => exact ⟨0, Nat.zero_le _, rfl, hide ⟨HR.out, Chg.refl _ _⟩⟩
  case round =>
    obtain ⟨i, hi, rfl, hI⟩ := hrel
    by_cases hlt : i < L
    · have d1 : decide ((i : Int) < (L : Int)) = true := by simpa using hlt
      have d2 : decide ((L : Int) ≤ (i : Int)) = false := by simp; omega
      have hx : i < xs.length := by rw [← HL.out]; exact hlt
      have hy : i < ys.length := by rw [HL2.out]; exact hx
      obtain ⟨a, _, e, hcx⟩ := HV.out.open (by rintro rfl; simp at hx)
      obtain ⟨b, _, e', hcy⟩ := HU.out.open (by rintro rfl; simp at hy)
      cases e
      cases e'
      have fx := hcx _ hI.out.2 i hx
      have fy := hcy _ hI.out.2 i hy
      have hst : R = if xs.getD i 0 < ys.getD i 0 then -1 else if ys.getD i 0 < xs.getD i 0 then 1 else cmpL (xs.drop (i + 1)) (ys.drop (i + 1)) := by
        rw [hI.out.1, drop_cons hx, drop_cons hy]; rfl
      have i0 : (0 : Int) ≤ (i : Int) := by omega
      have i1 : (i : Int) < (L : Int) := by omega
      generalize xs.getD i 0 = x at fx hst
      generalize ys.getD i 0 = y at fy hst
      have HSt := hide hst
      clear hcx hcy hst hx hy
      go_wp2_with fail
      refine (cmp_any x y _).mono ?_
      rintro e w1 ⟨rfl, hw1⟩
      have C1 : Hid (Chg [] w w1) := hide (hI.out.2.trans hw1)
      clear hw1 fx fy
      have hci : Hid (cmpI x y = if x < y then -1 else if y < x then 1 else 0) := hide rfl
      generalize cmpI x y = c at hci ⊢
      by_cases hc : c = 0
      · subst hc
        have E : Hid (R = cmpL (xs.drop (i + 1)) (ys.drop (i + 1))) := hide (by
          have h := hci.out
          by_cases h1 : x < y
          · rw [if_pos h1] at h; omega
          · rw [if_neg h1] at h
            by_cases h2 : y < x
            · rw [if_pos h2] at h; omega
            · rw [HSt.out, if_neg h1, if_neg h2])
        go_wp2
        go_roundw
        case rel => exact ⟨i + 1, by omega, by go_num, hide ⟨E.out, C1.out⟩⟩
        case measure => simp [intOf]; omega
      · have dc : (c != 0) = true := by simpa using hc
        have E : Hid (R = c) := hide (by
          have h := hci.out
          by_cases h1 : x < y
          · rw [HSt.out, h, if_pos h1, if_pos h1]
          · by_cases h2 : y < x
            · rw [HSt.out, h, if_neg h1, if_neg h1, if_pos h2, if_pos h2]
            · rw [if_neg h1, if_neg h2] at h; exact absurd h hc)
        have HC := hide hc
        clear hc
        go_wp2
        go_ret
        exact ⟨by rw [E.out]; rfl, C1.out⟩
    · have d1 : decide ((i : Int) < (L : Int)) = false := by simpa using hlt
      obtain rfl : i = L := by omega
      have E : Hid (R = 0) := hide (by rw [hI.out.1, HL.out, List.drop_length, ← HL2.out, List.drop_length]; rfl)
      have d3 : decide ((i : Int) < (i : Int)) = false := by simp
      go_wp2
      go_ret
      exact ⟨by rw [E.out]; rfl, hI.out.2⟩
end Go.Proofs.Ytohdjlgghkcaoaa
