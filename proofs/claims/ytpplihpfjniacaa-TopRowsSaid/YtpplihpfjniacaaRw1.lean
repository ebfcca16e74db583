/- Walks: the reference's classes. -/
import Derived.Test.YtpplihpfjniacaaLr4
namespace Go.Proofs.Ytpplihpfjniacaa
open Go.RowKit

/-- The concepts below one are numbers below P that rise. -/
def clU (P : Nat) (l : List Int) : Nat → Bool
  | 0 => true
  | i + 1 => clU P l i && (decide (0 ≤ l.getD i 0 ∧ l.getD i 0 < (P : Int)) && decide (i = 0 ∨ l.getD (i - 1) 0 < l.getD i 0))
theorem clU_at {P : Nat} {l : List Int} : ∀ {n}, clU P l n = true → ∀ i, i < n → 0 ≤ l.getD i 0 ∧ l.getD i 0 < (P : Int) ∧ (i = 0 ∨ l.getD (i - 1) 0 < l.getD i 0)
  | n + 1, h, i, hi => by
    rw [clU, Bool.and_eq_true, Bool.and_eq_true] at h
    rcases (show i < n ∨ i = n by omega) with h' | rfl
    · exact clU_at h.1 i h'
    · have h1 := of_decide_eq_true h.2.1
      exact ⟨h1.1, h1.2, of_decide_eq_true h.2.2⟩
theorem clU_bad {P : Nat} {l : List Int} {i : Nat} (h : ¬ (0 ≤ l.getD i 0 ∧ l.getD i 0 < (P : Int) ∧ (i = 0 ∨ l.getD (i - 1) 0 < l.getD i 0))) {n : Nat} (hn : i < n) : clU P l n = false := by
  cases hc : clU P l n with
  | false => rfl
  | true => exact absurd (clU_at hc i hn) h
theorem clU_next {P : Nat} {l : List Int} {i : Nat} (h : clU P l i = true) (h1 : 0 ≤ l.getD i 0) (h2 : l.getD i 0 < (P : Int)) (h3 : i = 0 ∨ l.getD (i - 1) 0 < l.getD i 0) : clU P l (i + 1) = true := by
  rw [clU, h, decide_eq_true ⟨h1, h2⟩, decide_eq_true h3]
  rfl
def classB (p : Nat) (l : List Int) : Bool := clU (2 ^ p) l l.length
theorem class_okC {p : Nat} {l : List Int} (hp : 1 ≤ p ∧ p ≤ 4) (hl : 1 ≤ l.length ∧ l.length ≤ 4) (h : classB p l = true) : okC p l := by
  have hx := clU_at h
  have up : ∀ j i, i < j → j < l.length → l.getD i 0 < l.getD j 0 := fun j => by
    induction j with
    | zero => intro i h _; omega
    | succ j ih =>
      intro i hij hj
      have h2 := (hx (j + 1) hj).2.2
      have h2 : l.getD j 0 < l.getD (j + 1) 0 := h2.resolve_left (by omega)
      rcases (show i < j ∨ i = j by omega) with h' | rfl
      · exact Int.lt_trans (ih i h' (by omega)) h2
      · exact h2
  refine ⟨hp.1, by omega, hl.1, by omega, fun s hs => ?_, ?_⟩
  · obtain ⟨i, hi, rfl⟩ := List.mem_iff_getElem.1 hs
    have := hx i hi
    rw [List.getD_eq_getElem?_getD, List.getElem?_eq_getElem hi, Option.getD_some] at this
    have e : ((2 ^ p : Nat) : Int) = 2 ^ p := by simp
    omega
  · rw [List.pairwise_iff_getElem]
    intro i j hi hj hij
    have := up j i hij hj
    rw [List.getD_eq_getElem?_getD, List.getElem?_eq_getElem hi, List.getD_eq_getElem?_getD, List.getElem?_eq_getElem hj, Option.getD_some, Option.getD_some] at this
    exact this
set_option maxRecDepth 100000 in
theorem Class_small (p : Int) (v : Value) (l : List Int) (w : World) (hv : See w v l) (h : p < 1 ∨ l.length < 1) (hp : p ≤ 4) :
    Calls Try.prog 11 #[.int .i64 p, v] w (Ret (.bool false) w) := by
  obtain ⟨ao, cap, rfl⟩ := hv.shape
  clear hv
  generalize l.length = m at *
  by_cases h1 : p < 1
  · have d1 : decide (p < 1) = true := by simpa using h1
    clear h hp
    go_enter Try.func11, Try.ntmps11
    go_wp2
    go_ret
    exact ⟨rfl, Chg.refl _ _⟩
  · have d1 : decide (p < 1) = false := by simpa using h1
    have d2 : decide (p > 5) = false := by simp; omega
    have d2' : decide (5 < p) = false := by simp; omega
    obtain rfl : m = 0 := by omega
    clear h hp
    go_enter Try.func11, Try.ntmps11
    go_wp2
    go_ret
    exact ⟨rfl, Chg.refl _ _⟩
set_option maxRecDepth 100000 in
set_option maxHeartbeats 2000000 in
theorem Class_any (p : Nat) (v : Value) (l : List Int) (w : World) (hv : See w v l) (hp : 1 ≤ p ∧ p ≤ 4) (hl : 1 ≤ l.length ∧ l.length ≤ 4) :
    Calls Try.prog 11 #[.int .i64 (p : Int), v] w (Ret (.bool (classB p l)) w) := by
  have HV := hide hv
  obtain ⟨ao, cap, rfl⟩ := hv.shape
  clear hv
  have HR : Hid (classB p l = clU (2 ^ p) l l.length) := hide rfl
  generalize classB p l = R at HR ⊢
  obtain ⟨m, hm⟩ : ∃ m, m = l.length := ⟨_, rfl⟩
  rw [← hm] at HV HR hl ⊢
  have HM := hide hm
  clear hm
  have pp : (2 : Nat) ^ p ≤ 2 ^ 4 := Nat.pow_le_pow_right (by decide) hp.2
  have ew : wrap64 (2 ^ p) = ((2 ^ p : Nat) : Int) := by
    have e : ((2 : Int) ^ p) = ((2 ^ p : Nat) : Int) := by rw [Int.natCast_pow]; rfl
    rw [e]
    generalize 2 ^ p = q at pp
    unfold wrap64; omega
  obtain ⟨P, hP⟩ : ∃ P, P = 2 ^ p := ⟨_, rfl⟩
  rw [← hP] at ew pp HR
  have q1 : decide ((p : Int) < 1) = false := by simp; omega
  have q2 : decide ((p : Int) > 5) = false := by simp; omega
  have q2' : decide ((5 : Int) < (p : Int)) = false := by simp; omega
  have q2n : decide (5 < p) = false := by simp; omega
  have q3 : decide ((m : Int) < 1) = false := by simp; omega
  have q4 : decide ((m : Int) > 16) = false := by simp; omega
  have q4' : decide ((16 : Int) < (m : Int)) = false := by simp; omega
  have q4n : decide (16 < m) = false := by simp; omega
  have n0 : (0 : Int) ≤ (p : Int) := by omega
  have n1 : (p : Int) < 64 := by omega
  obtain ⟨a, cap', e, hcell⟩ := HV.out.open (fun e => by have := HM.out; rw [e] at this; simp at this; omega)
  obtain ⟨rfl, hx1, rfl⟩ : ao = some a ∧ m = l.length ∧ cap = cap' := by simpa using e
  have HC := hide hcell
  clear hP e hx1 hcell
  go_enter Try.func11, Try.ntmps11
  go_wp2
  clear q1 q2 q2' q2n q3 q4 q4' q4n
  go_loopw [25] (fun kv ws => ∃ j : Nat, j ≤ m ∧ kv = .int .i64 (j : Int) ∧ Hid (clU P l j = true ∧ Chg [] w ws)) (fun kv _ => m - (intOf kv).toNat)
  case atStart => exact ⟨0, Nat.zero_le _, rfl, hide ⟨rfl, Chg.refl _ _⟩⟩
  case round =>
    obtain ⟨j, hj, rfl, hI⟩ := hrel
    by_cases hlt : j < m
    · have d5 : decide ((j : Int) < (m : Int)) = true := by simp; omega
      have k0 : (0 : Int) ≤ (j : Int) := by omega
      have hlk : j < l.length := by rw [← HM.out]; exact hlt
      have fx := HC.out wr hI.out.2 j hlk
      have HF := hide fun h => clU_bad (P := P) (l := l) (i := j) h (n := m) hlt
      have HN := hide (clU_next (P := P) (l := l) (i := j) hI.out.1)
      by_cases hx0 : l.getD j 0 < 0
      · have e1 : decide (l.getD j 0 < 0) = true := by simpa using hx0
        have HFa := hide (HF.out (by omega))
        generalize l.getD j 0 = x at *
        clear hx0 HF HN
        go_wp2
        go_ret
        exact ⟨by rw [HR.out, HFa.out]; rfl, hI.out.2⟩
      · have e1 : decide (l.getD j 0 < 0) = false := by simpa using hx0
        obtain ⟨y, hy⟩ : ∃ y : Nat, l.getD j 0 = (y : Int) := ⟨(l.getD j 0).toNat, by omega⟩
        rw [hy] at fx e1 HF HN
        clear hx0
        by_cases hyP : y < P
        · have e2 : decide ((y : Int) ≥ (P : Int)) = false := by simp; omega
          have e2' : decide ((P : Int) ≤ (y : Int)) = false := by simp; omega
          have e2n : decide (P ≤ y) = false := by simp; omega
          by_cases hj0 : j = 0
          · have HN1 := hide (HN.out (by omega) (by omega) (.inl hj0))
            have e3 : decide ((j : Int) > 0) = false := by simp; omega
            have e3' : decide ((0 : Int) < (j : Int)) = false := by simp; omega
            have e3n : decide (0 < j) = false := by simp; omega
            clear hy HF HN hj0
            go_wp2
            go_roundw
            case rel => exact ⟨j + 1, by omega, by go_num, hide ⟨HN1.out, by first | exact hI.out.2 | exact hI.out.2.drewN _⟩⟩
            case measure => simp [intOf]; omega
          · have e3 : decide ((j : Int) > 0) = true := by simp; omega
            have e3' : decide ((0 : Int) < (j : Int)) = true := by simp; omega
            have e3n : decide (0 < j) = true := by simp; omega
            have fy := HC.out wr hI.out.2 (j - 1) (by omega)
            have hz := clU_at hI.out.1 (j - 1) (by omega)
            obtain ⟨z, hz0⟩ : ∃ z : Nat, l.getD (j - 1) 0 = (z : Int) := ⟨(l.getD (j - 1) 0).toNat, by omega⟩
            rw [hz0] at fy HF HN
            have ei : (j : Int) - 1 = ((j - 1 : Nat) : Int) := by omega
            have i1 : (0 : Int) ≤ ((j - 1 : Nat) : Int) := by omega
            have i2 : ((j - 1 : Nat) : Int) < (m : Int) := by omega
            have HJ := hide hj0
            clear hz hz0 hy hj0
            obtain ⟨jm, hjm⟩ : ∃ jm, jm = j - 1 := ⟨_, rfl⟩
            rw [← hjm] at fy ei i1 i2
            clear hjm
            by_cases hzy : z < y
            · have e4 : decide ((z : Int) ≥ (y : Int)) = false := by simp; omega
              have e4' : decide ((y : Int) ≤ (z : Int)) = false := by simp; omega
              have e4n : decide (y ≤ z) = false := by simp; omega
              have HN1 := hide (HN.out (by omega) (by omega) (.inr (by omega)))
              clear HF HN
              go_wp2
              go_roundw
              case rel => exact ⟨j + 1, by omega, by go_num, hide ⟨HN1.out, by first | exact hI.out.2 | exact hI.out.2.drewN _⟩⟩
              case measure => simp [intOf]; omega
            · have e4 : decide ((z : Int) ≥ (y : Int)) = true := by simp; omega
              have e4' : decide ((y : Int) ≤ (z : Int)) = true := by simp; omega
              have e4n : decide (y ≤ z) = true := by simp; omega
              have HFa := hide (HF.out (by have := HJ.out; omega))
              clear HF HN
              go_wp2
              go_ret
              exact ⟨by rw [HR.out, HFa.out]; rfl, by first | exact hI.out.2 | exact hI.out.2.drewN _⟩
        · have e2 : decide ((y : Int) ≥ (P : Int)) = true := by simp; omega
          have e2' : decide ((P : Int) ≤ (y : Int)) = true := by simp; omega
          have e2n : decide (P ≤ y) = true := by simp; omega
          have HFa := hide (HF.out (by omega))
          clear hy HF HN
          go_wp2
          go_ret
          exact ⟨by rw [HR.out, HFa.out]; rfl, by first | exact hI.out.2 | exact hI.out.2.drewN _⟩
    · have d5 : decide ((j : Int) < (m : Int)) = false := by simp; omega
      have hkm : j = m := by omega
      have HX : Hid (clU P l m = true) := hide (by rw [← hkm]; exact hI.out.1)
      have HC := hide hI.out.2
      go_wp2
      go_ret
      exact ⟨by rw [HR.out, HX.out]; rfl, HC.out⟩
end Go.Proofs.Ytpplihpfjniacaa
