/- Walk: the statement TopDown. -/
import Derived.Test.YtpplihpfjniacaaDoorDnPlain
import Derived.Test.YtpplihpfjniacaaDoorTq1
namespace Go.Proofs.YtpplihpfjniacaaDoor
open Go.RowKit

theorem kern' : (List.range 32).all (fun x => decide (x = 0) || (decide (Lr.cnt (x &&& (x - 1)) 16 + 1 = Lr.cnt x 16) && decide (x &&& (x - 1) < x))) = true := by decide +kernel
theorem kern {x : Nat} (h0 : x ≠ 0) (h : x < 32) : Lr.cnt (x &&& (x - 1)) 16 + 1 = Lr.cnt x 16 ∧ x &&& (x - 1) < x := by
  have := List.all_eq_true.1 kern' x (List.mem_range.2 h)
  rw [Bool.or_eq_true, decide_eq_true_eq, Bool.and_eq_true, decide_eq_true_eq, decide_eq_true_eq] at this
  exact this.resolve_left h0
theorem cnt_nought : ∀ n, Lr.cnt 0 n = 0
  | 0 => rfl
  | n + 1 => by simp [Lr.cnt, cnt_nought n]

set_option maxRecDepth 100000 in
set_option maxHeartbeats 4000000 in
theorem topd_out (n : Int) (v : Value) (l : List Int) (w : World) (hv : See w v l) (hT : Tz w) (hb : ¬ (familyB n l = true ∧ n ≤ 5 ∧ 1 ≤ l.length ∧ l.length ≤ 16)) :
    Calls Tryd.prog 5 #[.int .i64 n, v] w (Ret (.bool true) w) := by
  have HFa := hide (Family_any n v l w hv)
  have HEv := hide fun ws (hw : Chg [] w ws) => evades_any ws (hT.keep hw)
  obtain ⟨ao, cap, rfl⟩ := hv.shape
  cases hf : familyB n l with
  | false =>
    rw [hf] at HFa
    clear hv hT hb hf
    generalize l.length = m at *
    go_enter Tryd.func5, Tryd.ntmps5
    go_wp2_with fail
    refine HFa.out.mono ?_
    rintro e w1 ⟨rfl, hw⟩
    go_wp2_with fail
    refine (HEv.out _ hw).mono ?_
    rintro e w2 ⟨rfl, hw2⟩
    go_wp2
    go_ret
    exact ⟨rfl, hw.trans hw2⟩
  | true =>
    rw [hf] at HFa hb
    have h64 : l.length ≤ 64 := by
      unfold familyB at hf
      rw [Bool.and_eq_true] at hf
      exact (of_decide_eq_true hf.1).2.2
    clear hv hT hf
    generalize l.length = m at *
    by_cases h5 : n ≤ 5
    · have q1 : decide (n > 5) = false := by simp; omega
      have q1' : decide (5 < n) = false := by simp; omega
      by_cases h1 : 1 ≤ m
      · have q2 : decide ((m : Int) < 1) = false := by simp; omega
        have hm16 : 16 < m := Nat.lt_of_not_le fun h => hb ⟨rfl, h5, h1, h⟩
        have q3 : decide ((m : Int) > 16) = true := by simp; omega
        have q3' : decide ((16 : Int) < (m : Int)) = true := by simp; omega
        have q3n : decide (16 < m) = true := by simp; omega
        go_enter Tryd.func5, Tryd.ntmps5
        go_wp2_with fail
        refine HFa.out.mono ?_
        rintro e w1 ⟨rfl, hw⟩
        go_wp2_with fail
        refine (HEv.out _ hw).mono ?_
        rintro e w2 ⟨rfl, hw2⟩
        go_wp2
        go_ret
        exact ⟨rfl, hw.trans hw2⟩
      · have q2 : decide ((m : Int) < 1) = true := by simp; omega
        obtain rfl : m = 0 := by omega
        go_enter Tryd.func5, Tryd.ntmps5
        go_wp2_with fail
        refine HFa.out.mono ?_
        rintro e w1 ⟨rfl, hw⟩
        go_wp2_with fail
        refine (HEv.out _ hw).mono ?_
        rintro e w2 ⟨rfl, hw2⟩
        go_wp2
        go_ret
        exact ⟨rfl, hw.trans hw2⟩
    · have q1 : decide (n > 5) = true := by simp; omega
      have q1' : decide (5 < n) = true := by simp; omega
      go_enter Tryd.func5, Tryd.ntmps5
      go_wp2_with fail
      refine HFa.out.mono ?_
      rintro e w1 ⟨rfl, hw⟩
      go_wp2_with fail
      refine (HEv.out _ hw).mono ?_
      rintro e w2 ⟨rfl, hw2⟩
      go_wp2
      go_ret
      exact ⟨rfl, hw.trans hw2⟩

set_option maxRecDepth 100000 in
set_option maxHeartbeats 4000000 in
theorem topd_in (p : Nat) (v : Value) (l : List Int) (w : World) (hv : See w v l) (hT : Tz w) (hf : familyB (p : Int) l = true) (h5 : p ≤ 5) (h1 : 1 ≤ l.length) (h16 : l.length ≤ 16) :
    Calls Tryd.prog 5 #[.int .i64 (p : Int), v] w (Ret (.bool true) w) := by
  have hF := IsFam.of hf h5 h1 h16
  have HFa := hide (Family_any (p : Int) v l w hv)
  rw [hf] at HFa
  have HEv := hide fun ws (hw : Chg [] w ws) => evades_any ws (hT.keep hw)
  have HCl := hide fun ws (h : See ws v l) => Clone_any v l ws h (by omega)
  have HKe := hide fun u ws (h : See ws u l) => LKey_good p u l ws h hF.ok hF.first hF.key.1
  rw [hF.key.2] at HKe
  have HDi := hide fun u ws (h : See ws u l) => LDim_good p u l ws h hF.ok
  have HAs := hide fun u ws (h : See ws u l) => LAsk_good p u l ws h hF.ok
  have hd := hF.dim
  have ha := hF.ask
  generalize Lr.dimN (cf l) l.length p (allC l) = D at *
  generalize Lr.askN (cf l) l.length p (allC l) = Q at *
  have HAt := hide fun i (hi : i < l.length) => (hF.ok.at hi).1
  have HLt := hide fun i (hi : i < l.length) => hF.lt64 hi
  have HUl := hide fun i (hi : i ≤ l.length) => (by have := unionTo_lt (p := p) (fun i hi => (hF.ok.at hi).2) i hi; have : (2 : Nat) ^ p ≤ 2 ^ 5 := Nat.pow_le_pow_right (by decide) h5; omega : unionTo l i < 32)
  have HUs : Hid (∀ i, unionTo l (i + 1) = unionTo l i ||| cf l i) := hide fun i => rfl
  have HMs : Hid (∀ i, mostTo l (i + 1) = max (mostTo l i) (Lr.cnt (cf l i) 16)) := hide fun i => rfl
  have HU0 : Hid (unionTo l 0 = 0) := hide rfl
  have HM0 : Hid (mostTo l 0 = 0) := hide rfl
  have HKn := hide fun x (h0 : x ≠ 0) (h : x < 32) => kern h0 h
  have HCn := hide cnt_nought
  have nl : l ≠ [] := fun e => by rw [e] at h1; simp at h1
  obtain ⟨a, cap, rfl, hcell⟩ := hv.open nl
  have HC := hide hcell
  have HV := hide hv
  obtain ⟨m, hm⟩ : ∃ m, m = l.length := ⟨_, rfl⟩
  rw [← hm] at HFa HCl HKe hd HAt HLt HUl h1 h16 HC HV ⊢
  generalize unionTo l = un at *
  generalize mostTo l = mo at *
  have q1 : decide ((p : Int) > 5) = false := by simp; omega
  have q1' : decide ((5 : Int) < (p : Int)) = false := by simp; omega
  have q1n : decide (5 < p) = false := by simp; omega
  have q2 : decide ((m : Int) < 1) = false := by simp; omega
  have q3 : decide ((m : Int) > 16) = false := by simp; omega
  have q3' : decide ((16 : Int) < (m : Int)) = false := by simp; omega
  have q3n : decide (16 < m) = false := by simp; omega
  have HD := hide (And.intro hd ha)
  obtain ⟨A, hA⟩ : ∃ A, A = un m := ⟨_, rfl⟩
  rw [← hA] at HKe
  have HA := hide hA
  clear hv hT hf hF nl hcell hm hd ha hA
  go_enter Tryd.func5, Tryd.ntmps5
  go_wp2_with fail
  refine HFa.out.mono ?_
  rintro e w1 ⟨rfl, hw⟩
  have C1 := hide hw
  clear hw
  go_wp2_with fail
  refine (HCl.out _ (HV.out.keep C1.out)).mono ?_
  rintro e w2 ⟨v2, rfl, hi2, hw⟩
  have S2 := hide hi2.toSee
  have C2 := hide (C1.out.trans hw)
  clear hi2 hw
  go_wp2_with fail
  refine (HKe.out _ _ S2.out).mono ?_
  rintro e w3 ⟨rfl, hw⟩
  have C3 := hide (C2.out.trans hw)
  clear hw
  go_wp2_with fail
  refine (HCl.out _ (HV.out.keep C3.out)).mono ?_
  rintro e w4 ⟨v4, rfl, hi4, hw⟩
  have S4 := hide hi4.toSee
  have C4 := hide (C3.out.trans hw)
  clear hi4 hw
  go_wp2_with fail
  refine (HDi.out _ _ S4.out).mono ?_
  rintro e w5 ⟨rfl, hw⟩
  have C5 := hide (C4.out.trans hw)
  clear hw
  go_wp2_with fail
  refine (HCl.out _ (HV.out.keep C5.out)).mono ?_
  rintro e w6 ⟨v6, rfl, hi6, hw⟩
  have S6 := hide hi6.toSee
  have C6 := hide (C5.out.trans hw)
  clear hi6 hw
  go_wp2_with fail
  refine (HAs.out _ _ S6.out).mono ?_
  rintro e w7 ⟨rfl, hw⟩
  have C7 := hide (C6.out.trans hw)
  clear hw
  go_wp2
  go_loopw [11, 12, 69] (fun uv mv iv wr => ∃ i U M : Nat, i ≤ m ∧ iv = .int .i64 (i : Int) ∧ uv = .int .i64 (U : Int) ∧ mv = .int .i64 (M : Int) ∧ Hid (U = un i ∧ M = mo i ∧ Chg [] w wr)) (fun _ _ iv _ => m - (intOf iv).toNat)
  case atStart => exact ⟨0, 0, 0, Nat.zero_le _, rfl, rfl, rfl, hide ⟨HU0.out.symm, HM0.out.symm, C7.out⟩⟩
  case round =>
    obtain ⟨i, U, M, hi, rfl, rfl, rfl, hI⟩ := hrel
    by_cases hlt : i < m
    · have d1 : decide ((i : Int) < (m : Int)) = true := by simp; omega
      have i0 : (0 : Int) ≤ (i : Int) := by omega
      have fx := HC.out wr hI.out.2.2 i hlt
      rw [HAt.out i hlt] at fx
      have hs := HLt.out i hlt
      have hu := HUl.out i (by omega)
      rw [← hI.out.1] at hu
      have HU1 := hide (HUs.out i)
      have HM1 := hide (HMs.out i)
      rw [← hI.out.1] at HU1
      rw [← hI.out.2.1] at HM1
      have HW := hide hI.out.2.2
      generalize cf l i = s at *
      have eor := lor_nat U s (by omega) (by omega)
      generalize hus : U ||| s = U' at *
      clear hI hus
      go_wp2
      go_loopw [15, 16] (fun cv xv wq => ∃ X C : Nat, X < 32 ∧ C ≤ 64 ∧ xv = .int .i64 (X : Int) ∧ cv = .int .i64 (C : Int) ∧ Hid (C + Lr.cnt X 16 = Lr.cnt s 16 ∧ Chg [] w wq)) (fun _ xv _ => (intOf xv).toNat)
      case atStart => exact ⟨s, 0, hs, by omega, rfl, rfl, hide ⟨Nat.zero_add _, HW.out⟩⟩
      case round =>
        obtain ⟨X, C, hX, hC, rfl, rfl, hJ⟩ := hrel
        by_cases hX0 : X = 0
        · subst hX0
          have HCs : Hid (C = Lr.cnt s 16) := hide (by have := hJ.out.1; rw [HCn.out] at this; omega)
          have hMx : (if M < C then (C : Int) else (M : Int)) = ((max M C : Nat) : Int) := by split <;> omega
          have hMx' : (if (M : Int) < (C : Int) then (C : Int) else (M : Int)) = ((max M C : Nat) : Int) := by split <;> omega
          go_wp2
          go_roundw
          case rel => exact ⟨i + 1, U', max M C, by omega, by go_num, by go_num, by go_num, hide ⟨HU1.out.symm, by rw [HM1.out, HCs.out], hJ.out.2⟩⟩
          case measure => simp [intOf]; omega
        · have d2 : decide ((X : Int) > 0) = true := by simp; omega
          have d2' : decide ((0 : Int) < (X : Int)) = true := by simp; omega
          have d2n : decide (0 < X) = true := by simp; omega
          obtain ⟨k1, k2⟩ := HKn.out X hX0 hX
          have ex : (X : Int) - 1 = ((X - 1 : Nat) : Int) := by omega
          have ean := land_nat X (X - 1) (by omega) (by omega)
          have hcx : Lr.cnt X 16 ≤ 16 := Lr.cnt_le _ _
          have HJ1 : Hid (C + 1 + Lr.cnt (X &&& (X - 1)) 16 = Lr.cnt s 16) := hide (by have := hJ.out.1; omega)
          have hC2 : C + 1 ≤ 64 := by have := hJ.out.1; have : Lr.cnt s 16 ≤ 16 := Lr.cnt_le _ _; omega
          have HW2 := hide hJ.out.2
          clear hJ hcx k1
          generalize X &&& (X - 1) = X2 at *
          generalize X - 1 = X1 at *
          go_wp2
          go_roundw
          case rel => exact ⟨X2, C + 1, by omega, hC2, by go_num, by go_num, hide ⟨HJ1.out, HW2.out⟩⟩
          case measure => simp [intOf]; omega
    · have d1 : decide ((i : Int) < (m : Int)) = false := by simp; omega
      have him : i = m := by omega
      have hUA : U = A := by rw [hI.out.1, him]; exact HA.out.symm
      have hMD : M ≤ D := by rw [hI.out.2.1, him]; exact HD.out.1
      have hDQ := HD.out.2
      have HW := hide hI.out.2.2
      have e1 : ((A : Int) == (U : Int)) = true := by simp [hUA]
      have e2 : decide ((D : Int) ≥ (M : Int)) = true := by simp; omega
      have e2' : decide ((M : Int) ≤ (D : Int)) = true := by simp; omega
      have e2n : decide (M ≤ D) = true := by simp; omega
      have e3 : decide ((Q : Int) ≥ (D : Int)) = true := by simp; omega
      have e3' : decide ((D : Int) ≤ (Q : Int)) = true := by simp; omega
      have e3n : decide (D ≤ Q) = true := by simp; omega
      clear hI him hUA
      go_wp2_with fail
      refine (HEv.out _ HW.out).mono ?_
      rintro e w8 ⟨rfl, hw⟩
      go_wp2
      go_ret
      exact ⟨rfl, HW.out.trans hw⟩

theorem topDown_walk (v u : Value) (w : World) (hv : ∃ x : Int, v = .int .i64 x ∧ (-9223372036854775808 ≤ x ∧ x ≤ 9223372036854775807)) (hu : ∃ xs, See w u xs ∧ xs.length ≤ 9223372036854775807) (hT : Tz w) :
    Calls Tryd.prog 5 #[v, u] w (Ret (.bool true) w) := by
  obtain ⟨n, rfl, _⟩ := hv
  obtain ⟨l, h, _⟩ := hu
  by_cases hb : familyB n l = true ∧ n ≤ 5 ∧ 1 ≤ l.length ∧ l.length ≤ 16
  · obtain ⟨h1, h2, h3, h4⟩ := hb
    have h0 : 1 ≤ n := by
      have := h1
      unfold familyB at this
      rw [Bool.and_eq_true] at this
      exact (of_decide_eq_true this.1).1
    obtain ⟨p, rfl⟩ : ∃ p : Nat, n = (p : Int) := ⟨n.toNat, by omega⟩
    exact topd_in p u l w h hT h1 (by omega) h3 h4
  · exact topd_out n u l w h hT hb
end Go.Proofs.YtpplihpfjniacaaDoor
