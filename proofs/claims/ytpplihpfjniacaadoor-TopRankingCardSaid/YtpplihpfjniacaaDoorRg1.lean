/- Walks: tournaments: valid. -/
import Derived.Test.YtpplihpfjniacaaDoorLr1
namespace Go.Proofs.YtpplihpfjniacaaDoor
open Go.RowKit

/-- Whom a player beats. -/
def tb (l : List Int) (i : Nat) : Nat := (l.getD i 0).toNat
/-- One of two beats the other one. -/
def tvR (l : List Int) (i : Nat) : Nat → Bool
  | 0 => true
  | j + 1 => tvR l i j && ((tb l i).testBit j != (tb l j).testBit i)
def tvU (N : Nat) (l : List Int) : Nat → Bool
  | 0 => true
  | i + 1 => tvU N l i && (decide (0 ≤ l.getD i 0 ∧ l.getD i 0 < (N : Int)) && (!(tb l i).testBit i && tvR l i i))
theorem tvR_at {l : List Int} {i : Nat} : ∀ {n}, tvR l i n = true → ∀ j, j < n → (tb l i).testBit j ≠ (tb l j).testBit i
  | n + 1, h, j, hj => by
    rw [tvR, Bool.and_eq_true] at h
    rcases (show j < n ∨ j = n by omega) with h' | rfl
    · exact tvR_at h.1 j h'
    · simpa using h.2
theorem tvR_bad {l : List Int} {i j n : Nat} (h : (tb l i).testBit j = (tb l j).testBit i) (hj : j < n) : tvR l i n = false := by
  cases hc : tvR l i n with
  | false => rfl
  | true => exact absurd h (tvR_at hc j hj)
theorem tvU_at {N : Nat} {l : List Int} : ∀ {n}, tvU N l n = true → ∀ i, i < n → 0 ≤ l.getD i 0 ∧ l.getD i 0 < (N : Int) ∧ (tb l i).testBit i = false ∧ tvR l i i = true
  | n + 1, h, i, hi => by
    rw [tvU, Bool.and_eq_true, Bool.and_eq_true, Bool.and_eq_true] at h
    rcases (show i < n ∨ i = n by omega) with h' | rfl
    · exact tvU_at h.1 i h'
    · have h1 := of_decide_eq_true h.2.1
      exact ⟨h1.1, h1.2, by simpa using h.2.2.1, h.2.2.2⟩
theorem tvU_bad {N : Nat} {l : List Int} {i : Nat} (h : ¬ (0 ≤ l.getD i 0 ∧ l.getD i 0 < (N : Int) ∧ (tb l i).testBit i = false ∧ tvR l i i = true)) {n : Nat} (hn : i < n) : tvU N l n = false := by
  cases hc : tvU N l n with
  | false => rfl
  | true => exact absurd (tvU_at hc i hn) h
theorem tvU_next {N : Nat} {l : List Int} {i : Nat} (h : tvU N l i = true) (h1 : 0 ≤ l.getD i 0) (h2 : l.getD i 0 < (N : Int)) (h3 : (tb l i).testBit i = false) (h4 : tvR l i i = true) : tvU N l (i + 1) = true := by
  rw [tvU, h, decide_eq_true ⟨h1, h2⟩, h3, h4]
  rfl
theorem tb_eq {l : List Int} {i : Nat} {y : Nat} (h : l.getD i 0 = (y : Int)) : tb l i = y := by unfold tb; omega
theorem wrap_pow {m : Nat} (h : m ≤ 8) : wrap64 (2 ^ m) = ((2 ^ m : Nat) : Int) := by
  have pp : (2 : Nat) ^ m ≤ 2 ^ 8 := Nat.pow_le_pow_right (by decide) h
  have e : ((2 : Int) ^ m) = ((2 ^ m : Nat) : Int) := by rw [Int.natCast_pow]; rfl
  rw [e]
  generalize 2 ^ m = q at pp
  unfold wrap64; omega
def tourV (l : List Int) : Bool := tvU (2 ^ l.length) l l.length

set_option maxRecDepth 100000 in
theorem Valid2_small (v : Value) (l : List Int) (w : World) (hv : See w v l) (h : ¬ (1 ≤ l.length ∧ l.length ≤ 8)) :
    Calls Tryd.prog 13 #[v] w (Ret (.bool false) w) := by
  obtain ⟨ao, cap, rfl⟩ := hv.shape
  clear hv
  generalize l.length = m at *
  by_cases h1 : m < 1
  · obtain rfl : m = 0 := by omega
    clear h h1
    go_enter Tryd.func13, Tryd.ntmps13
    go_wp2
    go_ret
    exact ⟨rfl, Chg.refl _ _⟩
  · have d1 : decide ((m : Int) < 1) = false := by simp; omega
    have d2 : decide ((m : Int) > 8) = true := by simp; omega
    have d2' : decide ((8 : Int) < (m : Int)) = true := by simp; omega
    have d2n : decide (8 < m) = true := by simp; omega
    clear h h1
    go_enter Tryd.func13, Tryd.ntmps13
    go_wp2
    go_ret
    exact ⟨rfl, Chg.refl _ _⟩
set_option maxRecDepth 100000 in
set_option maxHeartbeats 2000000 in
theorem Valid2_any (v : Value) (l : List Int) (w : World) (hv : See w v l) (hl : 1 ≤ l.length ∧ l.length ≤ 8) :
    Calls Tryd.prog 13 #[v] w (Ret (.bool (tourV l)) w) := by
  have HV := hide hv
  obtain ⟨ao, cap, rfl⟩ := hv.shape
  clear hv
  have HR : Hid (tourV l = tvU (2 ^ l.length) l l.length) := hide rfl
  generalize tourV l = R at HR ⊢
  obtain ⟨m, hm⟩ : ∃ m, m = l.length := ⟨_, rfl⟩
  rw [← hm] at HV HR hl ⊢
  have HM := hide hm
  clear hm
  have pp : (2 : Nat) ^ m ≤ 2 ^ 8 := Nat.pow_le_pow_right (by decide) hl.2
  have ew := wrap_pow hl.2
  obtain ⟨P, hP⟩ : ∃ P, P = 2 ^ m := ⟨_, rfl⟩
  rw [← hP] at ew pp HR
  have q3 : decide ((m : Int) < 1) = false := by simp; omega
  have q4 : decide ((m : Int) > 8) = false := by simp; omega
  have q4' : decide ((8 : Int) < (m : Int)) = false := by simp; omega
  have q4n : decide (8 < m) = false := by simp; omega
  have n0 : (0 : Int) ≤ (m : Int) := by omega
  have n1 : (m : Int) < 64 := by omega
  obtain ⟨a, cap', e, hcell⟩ := HV.out.open (fun e => by have := HM.out; rw [e] at this; simp at this; omega)
  obtain ⟨rfl, hx1, rfl⟩ : ao = some a ∧ m = l.length ∧ cap = cap' := by simpa using e
  have HC := hide hcell
  clear hP e hx1 hcell
  go_enter Tryd.func13, Tryd.ntmps13
  go_wp2
  clear q3 q4 q4' q4n
  go_loopw [17] (fun kv ws => ∃ i : Nat, i ≤ m ∧ kv = .int .i64 (i : Int) ∧ Hid (tvU P l i = true ∧ Chg [] w ws)) (fun kv _ => m - (intOf kv).toNat)
  case atStart => exact ⟨0, Nat.zero_le _, rfl, hide ⟨rfl, Chg.refl _ _⟩⟩
  case round =>
    obtain ⟨i, hi, rfl, hI⟩ := hrel
    by_cases hlt : i < m
    · have d5 : decide ((i : Int) < (m : Int)) = true := by simp; omega
      have k0 : (0 : Int) ≤ (i : Int) := by omega
      have k1 : (i : Int) < 64 := by omega
      have hlk : i < l.length := by rw [← HM.out]; exact hlt
      have fx := HC.out wr hI.out.2 i hlk
      have HF := hide fun h => tvU_bad (N := P) (l := l) (i := i) h (n := m) hlt
      have HN := hide (tvU_next (N := P) (l := l) (i := i) hI.out.1)
      have HAt := hide fun j hj => tvU_at hI.out.1 j hj
      by_cases hx0 : l.getD i 0 < 0
      · have e1 : decide (l.getD i 0 < 0) = true := by simpa using hx0
        have HFa := hide (HF.out (by omega))
        generalize l.getD i 0 = x at *
        clear hx0 HF HN HAt
        go_wp2
        go_ret
        exact ⟨by rw [HR.out, HFa.out]; rfl, hI.out.2⟩
      · have e1 : decide (l.getD i 0 < 0) = false := by simpa using hx0
        obtain ⟨y, hy⟩ : ∃ y : Nat, l.getD i 0 = (y : Int) := ⟨(l.getD i 0).toNat, by omega⟩
        have HTb := hide (tb_eq hy)
        rw [hy] at fx e1 HF HN
        clear hx0 hy
        by_cases hyP : y < P
        · have e2 : decide ((y : Int) ≥ (P : Int)) = false := by simp; omega
          have e2' : decide ((P : Int) ≤ (y : Int)) = false := by simp; omega
          have e2n : decide (P ≤ y) = false := by simp; omega
          have hy65 : y < 65536 := by omega
          have ep := pt_bit (s := y) (x := i) hy65
          cases htb : y.testBit i with
          | true =>
            rw [htb, if_pos rfl] at ep
            have HFa := hide (HF.out (fun h => by have := h.2.2.1; rw [HTb.out, htb] at this; cases this))
            clear htb HF HN HAt
            go_wp2
            go_ret
            exact ⟨by rw [HR.out, HFa.out]; rfl, hI.out.2⟩
          | false =>
            rw [htb, if_neg (by decide)] at ep
            have HFa := hide fun (h : tvR l i i = false) => HF.out (fun k => by rw [h] at k; exact absurd k.2.2.2 (by decide))
            have HNa := hide fun (h : tvR l i i = true) => HN.out (by omega) (by omega) (by rw [HTb.out]; exact htb) h
            clear htb HF HN
            go_wp2
            clear ep e1 e2 e2' e2n fx d5
            go_loopw [38] (fun jv ws => ∃ j : Nat, j ≤ i ∧ jv = .int .i64 (j : Int) ∧ Hid (tvR l i j = true ∧ Chg [] w ws)) (fun jv _ => i - (intOf jv).toNat)
            case atStart => exact ⟨0, Nat.zero_le _, rfl, hide ⟨rfl, hI.out.2⟩⟩
            case round =>
              obtain ⟨j, hj, rfl, hJ⟩ := hrel
              by_cases hlj : j < i
              · have d6 : decide ((j : Int) < (i : Int)) = true := by simp; omega
                have j0 : (0 : Int) ≤ (j : Int) := by omega
                have j1 : (j : Int) < 64 := by omega
                have jm : (j : Int) < (m : Int) := by omega
                have hlk2 : j < l.length := by omega
                have fz := HC.out wr hJ.out.2 j hlk2
                obtain ⟨z1, z2, _, _⟩ := HAt.out j hlj
                obtain ⟨z, hz⟩ : ∃ z : Nat, l.getD j 0 = (z : Int) := ⟨(l.getD j 0).toNat, by omega⟩
                have HTz := hide (tb_eq hz)
                rw [hz] at fz z1 z2
                have hz65 : z < 65536 := by omega
                have ey := pt_bit (s := y) (x := j) hy65
                have ez := pt_bit (s := z) (x := i) hz65
                have HB1 := hide fun (h : y.testBit j = z.testBit i) => tvR_bad (l := l) (i := i) (j := j) (n := i) (by rw [HTb.out, HTz.out]; exact h) hlj
                have HN1 := hide fun (h : ¬ y.testBit j = z.testBit i) => (show tvR l i (j + 1) = true by rw [tvR, hJ.out.1, HTb.out, HTz.out]; simpa using h)
                have HJ := hide hJ.out.2
                clear hz z1 z2 hlk2 hJ
                cases h1 : y.testBit j <;> cases h2 : z.testBit i <;> rw [h1] at ey HB1 HN1 <;> rw [h2] at ez HB1 HN1 <;> simp only [if_true, if_false, Bool.false_eq_true] at ey ez
                · have HB2 := hide (HFa.out (HB1.out rfl))
                  clear HB1 HN1 h1 h2
                  go_wp2
                  go_big_quiet (fail)
                  go_wp2
                  go_ret
                  exact ⟨by rw [HR.out, HB2.out]; rfl, HJ.out.drewN _⟩
                · have HN2 := hide (HN1.out (by decide))
                  clear HB1 HN1 h1 h2
                  go_wp2
                  go_big_quiet (fail)
                  go_wp2
                  go_roundw
                  case rel => exact ⟨j + 1, by omega, by go_num, hide ⟨HN2.out, HJ.out.drewN _⟩⟩
                  case measure => simp [intOf]; omega
                · have HN2 := hide (HN1.out (by decide))
                  clear HB1 HN1 h1 h2
                  go_wp2
                  go_big_quiet (fail)
                  go_wp2
                  go_roundw
                  case rel => exact ⟨j + 1, by omega, by go_num, hide ⟨HN2.out, HJ.out.drewN _⟩⟩
                  case measure => simp [intOf]; omega
                · have HB2 := hide (HFa.out (HB1.out rfl))
                  clear HB1 HN1 h1 h2
                  go_wp2
                  go_big_quiet (fail)
                  go_wp2
                  go_ret
                  exact ⟨by rw [HR.out, HB2.out]; rfl, HJ.out.drewN _⟩
              · have d6 : decide ((j : Int) < (i : Int)) = false := by simp; omega
                have hji : j = i := by omega
                have HN2 := hide (HNa.out (by rw [← hji]; rw [hji]; have := hJ.out.1; rwa [hji] at this))
                go_wp2
                go_roundw
                case rel => exact ⟨i + 1, by omega, by go_num, hide ⟨HN2.out, hJ.out.2⟩⟩
                case measure => simp [intOf]; omega
        · have e2 : decide ((y : Int) ≥ (P : Int)) = true := by simp; omega
          have e2' : decide ((P : Int) ≤ (y : Int)) = true := by simp; omega
          have e2n : decide (P ≤ y) = true := by simp; omega
          have HFa := hide (HF.out (by omega))
          clear HF HN HAt
          go_wp2
          go_ret
          exact ⟨by rw [HR.out, HFa.out]; rfl, hI.out.2⟩
    · have d5 : decide ((i : Int) < (m : Int)) = false := by simp; omega
      have hkm : i = m := by omega
      have HX : Hid (tvU P l m = true) := hide (by rw [← hkm]; exact hI.out.1)
      have HC := hide hI.out.2
      go_wp2
      go_ret
      exact ⟨by rw [HR.out, HX.out]; rfl, HC.out⟩

set_option maxRecDepth 100000 in
theorem validR_small (v : Value) (l : List Int) (w : World) (hv : See w v l) (h : ¬ (1 ≤ l.length ∧ l.length ≤ 8)) :
    Calls Tryd.prog 43 #[v] w (Ret (.bool false) w) := by
  obtain ⟨ao, cap, rfl⟩ := hv.shape
  clear hv
  generalize l.length = m at *
  by_cases h1 : m < 1
  · obtain rfl : m = 0 := by omega
    clear h h1
    go_enter Tryd.func43, Tryd.ntmps43
    go_wp2
    go_ret
    exact ⟨rfl, Chg.refl _ _⟩
  · have d1 : decide ((m : Int) < 1) = false := by simp; omega
    have d2 : decide ((m : Int) > 8) = true := by simp; omega
    have d2' : decide ((8 : Int) < (m : Int)) = true := by simp; omega
    have d2n : decide (8 < m) = true := by simp; omega
    clear h h1
    go_enter Tryd.func43, Tryd.ntmps43
    go_wp2
    go_ret
    exact ⟨rfl, Chg.refl _ _⟩
set_option maxRecDepth 100000 in
set_option maxHeartbeats 2000000 in
theorem validR_any (v : Value) (l : List Int) (w : World) (hv : See w v l) (hl : 1 ≤ l.length ∧ l.length ≤ 8) :
    Calls Tryd.prog 43 #[v] w (Ret (.bool (tourV l)) w) := by
  have HV := hide hv
  obtain ⟨ao, cap, rfl⟩ := hv.shape
  clear hv
  have HR : Hid (tourV l = tvU (2 ^ l.length) l l.length) := hide rfl
  generalize tourV l = R at HR ⊢
  obtain ⟨m, hm⟩ : ∃ m, m = l.length := ⟨_, rfl⟩
  rw [← hm] at HV HR hl ⊢
  have HM := hide hm
  clear hm
  have pp : (2 : Nat) ^ m ≤ 2 ^ 8 := Nat.pow_le_pow_right (by decide) hl.2
  have ew := wrap_pow hl.2
  obtain ⟨P, hP⟩ : ∃ P, P = 2 ^ m := ⟨_, rfl⟩
  rw [← hP] at ew pp HR
  have q3 : decide ((m : Int) < 1) = false := by simp; omega
  have q4 : decide ((m : Int) > 8) = false := by simp; omega
  have q4' : decide ((8 : Int) < (m : Int)) = false := by simp; omega
  have q4n : decide (8 < m) = false := by simp; omega
  have n0 : (0 : Int) ≤ (m : Int) := by omega
  have n1 : (m : Int) < 64 := by omega
  obtain ⟨a, cap', e, hcell⟩ := HV.out.open (fun e => by have := HM.out; rw [e] at this; simp at this; omega)
  obtain ⟨rfl, hx1, rfl⟩ : ao = some a ∧ m = l.length ∧ cap = cap' := by simpa using e
  have HC := hide hcell
  clear hP e hx1 hcell
  go_enter Tryd.func43, Tryd.ntmps43
  go_wp2
  clear q3 q4 q4' q4n
  go_loopw [17] (fun kv ws => ∃ i : Nat, i ≤ m ∧ kv = .int .i64 (i : Int) ∧ Hid (tvU P l i = true ∧ Chg [] w ws)) (fun kv _ => m - (intOf kv).toNat)
  case atStart => exact ⟨0, Nat.zero_le _, rfl, hide ⟨rfl, Chg.refl _ _⟩⟩
  case round =>
    obtain ⟨i, hi, rfl, hI⟩ := hrel
    by_cases hlt : i < m
    · have d5 : decide ((i : Int) < (m : Int)) = true := by simp; omega
      have k0 : (0 : Int) ≤ (i : Int) := by omega
      have k1 : (i : Int) < 64 := by omega
      have hlk : i < l.length := by rw [← HM.out]; exact hlt
      have fx := HC.out wr hI.out.2 i hlk
      have HF := hide fun h => tvU_bad (N := P) (l := l) (i := i) h (n := m) hlt
      have HN := hide (tvU_next (N := P) (l := l) (i := i) hI.out.1)
      have HAt := hide fun j hj => tvU_at hI.out.1 j hj
      by_cases hx0 : l.getD i 0 < 0
      · have e1 : decide (l.getD i 0 < 0) = true := by simpa using hx0
        have HFa := hide (HF.out (by omega))
        generalize l.getD i 0 = x at *
        clear hx0 HF HN HAt
        go_wp2
        go_ret
        exact ⟨by rw [HR.out, HFa.out]; rfl, hI.out.2⟩
      · have e1 : decide (l.getD i 0 < 0) = false := by simpa using hx0
        obtain ⟨y, hy⟩ : ∃ y : Nat, l.getD i 0 = (y : Int) := ⟨(l.getD i 0).toNat, by omega⟩
        have HTb := hide (tb_eq hy)
        rw [hy] at fx e1 HF HN
        clear hx0 hy
        by_cases hyP : y < P
        · have e2 : decide ((y : Int) ≥ (P : Int)) = false := by simp; omega
          have e2' : decide ((P : Int) ≤ (y : Int)) = false := by simp; omega
          have e2n : decide (P ≤ y) = false := by simp; omega
          have hy65 : y < 65536 := by omega
          have ep := pt_bit (s := y) (x := i) hy65
          cases htb : y.testBit i with
          | true =>
            rw [htb, if_pos rfl] at ep
            have HFa := hide (HF.out (fun h => by have := h.2.2.1; rw [HTb.out, htb] at this; cases this))
            clear htb HF HN HAt
            go_wp2
            go_ret
            exact ⟨by rw [HR.out, HFa.out]; rfl, hI.out.2⟩
          | false =>
            rw [htb, if_neg (by decide)] at ep
            have HFa := hide fun (h : tvR l i i = false) => HF.out (fun k => by rw [h] at k; exact absurd k.2.2.2 (by decide))
            have HNa := hide fun (h : tvR l i i = true) => HN.out (by omega) (by omega) (by rw [HTb.out]; exact htb) h
            clear htb HF HN
            go_wp2
            clear ep e1 e2 e2' e2n fx d5
            go_loopw [38] (fun jv ws => ∃ j : Nat, j ≤ i ∧ jv = .int .i64 (j : Int) ∧ Hid (tvR l i j = true ∧ Chg [] w ws)) (fun jv _ => i - (intOf jv).toNat)
            case atStart => exact ⟨0, Nat.zero_le _, rfl, hide ⟨rfl, hI.out.2⟩⟩
            case round =>
              obtain ⟨j, hj, rfl, hJ⟩ := hrel
              by_cases hlj : j < i
              · have d6 : decide ((j : Int) < (i : Int)) = true := by simp; omega
                have j0 : (0 : Int) ≤ (j : Int) := by omega
                have j1 : (j : Int) < 64 := by omega
                have jm : (j : Int) < (m : Int) := by omega
                have hlk2 : j < l.length := by omega
                have fz := HC.out wr hJ.out.2 j hlk2
                obtain ⟨z1, z2, _, _⟩ := HAt.out j hlj
                obtain ⟨z, hz⟩ : ∃ z : Nat, l.getD j 0 = (z : Int) := ⟨(l.getD j 0).toNat, by omega⟩
                have HTz := hide (tb_eq hz)
                rw [hz] at fz z1 z2
                have hz65 : z < 65536 := by omega
                have ey := pt_bit (s := y) (x := j) hy65
                have ez := pt_bit (s := z) (x := i) hz65
                have HB1 := hide fun (h : y.testBit j = z.testBit i) => tvR_bad (l := l) (i := i) (j := j) (n := i) (by rw [HTb.out, HTz.out]; exact h) hlj
                have HN1 := hide fun (h : ¬ y.testBit j = z.testBit i) => (show tvR l i (j + 1) = true by rw [tvR, hJ.out.1, HTb.out, HTz.out]; simpa using h)
                have HJ := hide hJ.out.2
                clear hz z1 z2 hlk2 hJ
                cases h1 : y.testBit j <;> cases h2 : z.testBit i <;> rw [h1] at ey HB1 HN1 <;> rw [h2] at ez HB1 HN1 <;> simp only [if_true, if_false, Bool.false_eq_true] at ey ez
                · have HB2 := hide (HFa.out (HB1.out rfl))
                  clear HB1 HN1 h1 h2
                  go_wp2
                  go_big_quiet (fail)
                  go_wp2
                  go_ret
                  exact ⟨by rw [HR.out, HB2.out]; rfl, HJ.out.drewN _⟩
                · have HN2 := hide (HN1.out (by decide))
                  clear HB1 HN1 h1 h2
                  go_wp2
                  go_big_quiet (fail)
                  go_wp2
                  go_roundw
                  case rel => exact ⟨j + 1, by omega, by go_num, hide ⟨HN2.out, HJ.out.drewN _⟩⟩
                  case measure => simp [intOf]; omega
                · have HN2 := hide (HN1.out (by decide))
                  clear HB1 HN1 h1 h2
                  go_wp2
                  go_big_quiet (fail)
                  go_wp2
                  go_roundw
                  case rel => exact ⟨j + 1, by omega, by go_num, hide ⟨HN2.out, HJ.out.drewN _⟩⟩
                  case measure => simp [intOf]; omega
                · have HB2 := hide (HFa.out (HB1.out rfl))
                  clear HB1 HN1 h1 h2
                  go_wp2
                  go_big_quiet (fail)
                  go_wp2
                  go_ret
                  exact ⟨by rw [HR.out, HB2.out]; rfl, HJ.out.drewN _⟩
              · have d6 : decide ((j : Int) < (i : Int)) = false := by simp; omega
                have hji : j = i := by omega
                have HN2 := hide (HNa.out (by rw [← hji]; rw [hji]; have := hJ.out.1; rwa [hji] at this))
                go_wp2
                go_roundw
                case rel => exact ⟨i + 1, by omega, by go_num, hide ⟨HN2.out, hJ.out.2⟩⟩
                case measure => simp [intOf]; omega
        · have e2 : decide ((y : Int) ≥ (P : Int)) = true := by simp; omega
          have e2' : decide ((P : Int) ≤ (y : Int)) = true := by simp; omega
          have e2n : decide (P ≤ y) = true := by simp; omega
          have HFa := hide (HF.out (by omega))
          clear HF HN HAt
          go_wp2
          go_ret
          exact ⟨by rw [HR.out, HFa.out]; rfl, hI.out.2⟩
    · have d5 : decide ((i : Int) < (m : Int)) = false := by simp; omega
      have hkm : i = m := by omega
      have HX : Hid (tvU P l m = true) := hide (by rw [← hkm]; exact hI.out.1)
      have HC := hide hI.out.2
      go_wp2
      go_ret
      exact ⟨by rw [HR.out, HX.out]; rfl, HC.out⟩
end Go.Proofs.YtpplihpfjniacaaDoor
