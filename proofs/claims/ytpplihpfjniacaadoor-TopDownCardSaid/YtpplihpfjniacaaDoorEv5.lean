/- Walks: families: closed. -/
import Derived.Test.YtpplihpfjniacaaDoorEv4
namespace Go.Proofs.YtpplihpfjniacaaDoor
open Go.RowKit

theorem ibit (s x : Nat) (hs : s < 65536) : (bits BinOp.and IntKind.i64 ((s : Int) / 2 ^ x) 1 == 1) = s.testBit x := by
  have h1 : s / 2 ^ x < 2 ^ 63 := Nat.lt_of_le_of_lt (Nat.div_le_self _ _) (by omega)
  rw [shr_int, and_one _ h1, Nat.testBit_eq_decide_div_mod_eq]
  generalize s / 2 ^ x % 2 = m
  rw [Bool.eq_iff_iff, beq_iff_eq, decide_eq_true_eq]
  omega
theorem or_u64 {Y d : Nat} (hY : Y < 18446744073709551616) (hd : d < 64) : bits BinOp.or IntKind.u64 (Y : Int) (IntKind.u64.wrap (2 ^ d)) = ((Y ||| 2 ^ d : Nat) : Int) := by
  have h1 : 2 ^ d < 2 ^ 64 := Nat.pow_lt_pow_right (a := 2) (by decide) hd
  have e1 : IntKind.u64.wrap (2 ^ d) = ((2 ^ d : Nat) : Int) := by
    have e : ((2 : Int) ^ d) = ((2 ^ d : Nat) : Int) := by rw [Int.natCast_pow]; rfl
    rw [e, IntKind.wrap_u64]
    generalize 2 ^ d = m at h1
    omega
  rw [e1, bits_or_u64_nat _ _ hY h1]
theorem add_lt (s X : Nat) (hX : X < 18446744073709551616) (hs : s < 64) : ∀ x, Fam.addTo s X x < 18446744073709551616
  | 0 => hX
  | x + 1 => by
    have ih := add_lt s X hX hs x
    rw [Fam.addTo]
    split
    · exact Nat.or_lt_two_pow (n := 64) ih (Nat.pow_lt_pow_right (a := 2) (by decide) (show s - 2 ^ x < 64 from Nat.lt_of_le_of_lt (Nat.sub_le _ _) hs))
    · exact ih

theorem andNot_sub' : (List.range 64).all (fun s => (List.range 6).all fun x => !s.testBit x || decide (bits .andNot .i64 (s : Int) (wrap64 (2 ^ x)) = ((s - 2 ^ x : Nat) : Int))) = true := by decide +kernel
theorem andNot_sub {s x : Nat} (hs : s < 64) (hx : x < 6) (h : s.testBit x = true) : bits .andNot .i64 (s : Int) (wrap64 (2 ^ x)) = ((s - 2 ^ x : Nat) : Int) := by
  have := List.all_eq_true.1 (List.all_eq_true.1 andNot_sub' s (List.mem_range.2 hs)) x (List.mem_range.2 hx)
  rw [h] at this
  simpa using this
set_option maxRecDepth 100000 in
set_option maxHeartbeats 2000000 in
theorem closed_any (n F : Nat) (w : World) (hF : F < 18446744073709551616) (hn : n ≤ 6) :
    Calls Tryd.prog 60 #[famV n F] w (Ret (famV n (Fam.closed n F)) w) := by
  have HH := hide fun n F s ws (hF : F < 18446744073709551616) (hs : s < 64) => fhas_any n F s ws hF hs
  have p64 := Fam.pow_64 hn
  have ppos := Nat.two_pow_pos n
  have ep : wrap64 (wrap64 (2 ^ n) - 1) = ((2 ^ n - 1 : Nat) : Int) := by
    have e : ((2 : Int) ^ n) = ((2 ^ n : Nat) : Int) := by rw [Int.natCast_pow]; rfl
    rw [e]
    generalize 2 ^ n = m at p64 ppos
    unfold wrap64; omega
  have n0 : (0 : Int) ≤ (n : Int) := by omega
  have n1 : (n : Int) < 64 := by omega
  have n2 : (n : Int) ≤ 64 := by omega
  have b1 := (Box.new w #[.int .i64 (n : Int), .int .u64 (F : Int)] 50).old (.cells #[.int .i64 0, .int .u64 0] 50)
  have b2 := Box.at (w.alloc (.cells #[.int .i64 (n : Int), .int .u64 (F : Int)] 50)) #[.int .i64 0, .int .u64 0] 50 (n := w.heap.size + 1) (by simp)
  have c2 := ((Chg.refl [] w).alloc (.cells #[.int .i64 (n : Int), .int .u64 (F : Int)] 50)).alloc (.cells #[.int .i64 0, .int .u64 0] 50)
  have HE : Hid (Fam.closeFrom n F (2 ^ n - 1) = Fam.closed n F) := hide rfl
  generalize Fam.closed n F = R at HE ⊢
  unfold famV
  unfold famV at HH
  go_enter Tryd.func60, Tryd.ntmps60
  go_wp2
  rw [ep]
  generalize (w.alloc (.cells #[.int .i64 (n : Int), .int .u64 (F : Int)] 50)).alloc (.cells #[.int .i64 0, .int .u64 0] 50) = W at b1 b2 c2 ⊢
  obtain ⟨A, hA⟩ : ∃ A, A = w.heap.size := ⟨_, rfl⟩
  have HA : Hid (w.heap.size ≤ A) := hide (Nat.le_of_eq hA.symm)
  rw [← hA] at b1 b2 ⊢
  have HB : Hid (Box W A #[.int .i64 (n : Int), .int .u64 (F : Int)] 50 ∧ Box W (A + 1) #[.int .i64 0, .int .u64 0] 50 ∧ Chg [] w W) := hide ⟨b1, b2, c2⟩
  obtain ⟨S, hS⟩ : ∃ S, S = 2 ^ n - 1 := ⟨_, rfl⟩
  rw [← hS] at HE ⊢
  have hS6 : S ≤ 63 := by omega
  clear b1 b2 c2 ep hS hA p64 ppos
  go_loopw [3] (fun sv ws => ∃ s X : Nat, s ≤ 63 ∧ X < 18446744073709551616 ∧ sv = .int .i64 (s : Int) ∧ Hid (Fam.closeFrom n X s = R ∧ Box ws A #[.int .i64 (n : Int), .int .u64 (X : Int)] 50 ∧ Box ws (A + 1) #[.int .i64 0, .int .u64 0] 50 ∧ Chg [] w ws)) (fun sv _ => (intOf sv).toNat)
  case atStart => exact ⟨S, F, hS6, hF, rfl, hide ⟨HE.out, HB.out⟩⟩
  case round =>
    obtain ⟨s, X, hs, hX, rfl, hI⟩ := hrel
    by_cases h0 : s = 0
    · subst h0
      have HR : Hid (X = R) := hI.out.1
      have p0 := hI.out.2.1.cell 0
      have p1 := hI.out.2.1.cell 1
      have l1 := hI.out.2.1.lt
      have q0 := hI.out.2.2.1.cell 0
      have q1 := hI.out.2.2.1.cell 1
      have g0 := hI.out.2.2.1.free 0
      have g1 := hI.out.2.2.1.free 1
      have l2 := hI.out.2.2.1.lt
      have HC := hide hI.out.2.2.2
      simp only [List.getElem?_toArray, List.getElem?_cons_zero, List.getElem?_cons_succ] at p0 p1 q0 q1
      clear hI
      have d0 : decide ((0 : Int) > 0) = false := by decide
      go_wp2
      refine bodyPost_ret (v := .agg #[.int .i64 (n : Int), .int .u64 (X : Int)]) ?_ rfl ⟨by rw [HR.out], ?_⟩
      · simp [results, Tryd.results60, go_sem, q0, q1]
      · have hA := HA.out
        have c3 := HC.out
        (repeat' (first | with_reducible exact Chg.refl _ _ | with_reducible assumption | with_reducible apply Chg.drewN | with_reducible apply Chg.drew | with_reducible apply Chg.alloc | (with_reducible refine Chg.setCell ?_ (Or.inr ?_) _) | (with_reducible refine Chg.trans ?_ (by assumption)) | (simp; done) | (simp; omega)))
    · have d0 : decide ((s : Int) > 0) = true := by simp; omega
      have d0' : decide ((0 : Int) < (s : Int)) = true := by simp; omega
      have d0n : decide (0 < s) = true := by simp; omega
      have p0 := hI.out.2.1.cell 0
      have l1 := hI.out.2.1.lt
      simp only [List.getElem?_toArray, List.getElem?_cons_zero] at p0
      have HI := hide hI.out
      clear hI
      go_wp2
      go_loopw [15] (fun xv ws => ∃ x : Nat, x ≤ n ∧ xv = .int .i64 (x : Int) ∧ Hid (Box ws A #[.int .i64 (n : Int), .int .u64 (Fam.addTo s X x : Int)] 50 ∧ Box ws (A + 1) #[.int .i64 0, .int .u64 0] 50 ∧ Chg [] w ws)) (fun xv _ => n - (intOf xv).toNat)
      case atStart => exact ⟨0, Nat.zero_le _, rfl, hide HI.out.2⟩
      case round =>
        obtain ⟨x, hx, rfl, hJ⟩ := hrel
        by_cases hlt : x < n
        · have d1 : decide ((x : Int) < (n : Int)) = true := by simp; omega
          have x0 : (0 : Int) ≤ (x : Int) := by omega
          have x1 : (x : Int) < 64 := by omega
          have HY := hide (add_lt s X hX (by omega) x)
          have HHk := hide fun ws => HH.out n (Fam.addTo s X x) s ws HY.out (by omega)
          have E : Hid (Fam.addTo s X (x + 1) = if (Fam.addTo s X x).testBit s && s.testBit x then Fam.addTo s X x ||| 2 ^ (s - 2 ^ x) else Fam.addTo s X x) := hide rfl
          have eb := ibit s x (by omega)
          have h2x : s.testBit x = true → 2 ^ x ≤ s := fun h => Nat.ge_two_pow_of_testBit h
          have ean := fun h => andNot_sub (s := s) (x := x) (by omega) (by omega) h
          have p0 := hJ.out.1.cell 0
          have p1 := hJ.out.1.cell 1
          have l1 := hJ.out.1.lt
          simp only [List.getElem?_toArray, List.getElem?_cons_zero, List.getElem?_cons_succ] at p0 p1
          have HJ := hide hJ.out
          clear hJ
          generalize Fam.addTo s X x = Y at *
          generalize hb1 : Y.testBit s = c1 at *
          clear hb1
          cases c1 with
          | false =>
            go_wp2_with fail
            refine (HHk.out _).mono ?_
            rintro e w2 ⟨rfl, hw⟩
            have HJ2 := hide (And.intro (HJ.out.1.keep hw List.not_mem_nil) (And.intro (HJ.out.2.1.keep hw List.not_mem_nil) (HJ.out.2.2.trans hw)))
            clear hw
            go_wp2
            go_roundw
            case rel => exact ⟨x + 1, by omega, by go_num, hide (by rw [E.out]; exact HJ2.out)⟩
            case measure => simp [intOf]; omega
          | true =>
            go_wp2_with fail
            refine (HHk.out _).mono ?_
            rintro e w2 ⟨rfl, hw⟩
            have HJ2 := hide (And.intro (HJ.out.1.keep hw List.not_mem_nil) (And.intro (HJ.out.2.1.keep hw List.not_mem_nil) (HJ.out.2.2.trans hw)))
            clear hw
            generalize hb2 : s.testBit x = c2 at *
            cases c2 with
            | false =>
              go_wp2
              go_roundw
              case rel => exact ⟨x + 1, by omega, by go_num, hide (by rw [E.out]; exact HJ2.out)⟩
              case measure => simp [intOf]; omega
            | true =>
              have ean := ean rfl
              have hd : s - 2 ^ x < 64 := Nat.lt_of_le_of_lt (Nat.sub_le _ _) (by omega)
              have E2 : Hid (Fam.addTo s X (x + 1) = Y ||| 2 ^ (s - 2 ^ x)) := hide (by rw [E.out]; rfl)
              generalize s - 2 ^ x = d at *
              have d0' : (0 : Int) ≤ (d : Int) := by omega
              have d64 : (d : Int) < 64 := by omega
              have p0 := HJ2.out.1.cell 0
              have p1 := HJ2.out.1.cell 1
              have f1 := HJ2.out.1.free 1
              have l1 := HJ2.out.1.lt
              simp only [List.getElem?_toArray, List.getElem?_cons_zero, List.getElem?_cons_succ] at p0 p1
              go_wp2
              go_region
              all_goals
                go_wp2
                rw [or_u64 HY.out hd]
                go_roundw
                case rel =>
                  have hA := HA.out
                  exact ⟨x + 1, by omega, by go_num, hide (by rw [E2.out]; exact ⟨(HJ2.out.1.set 1 _).keep ((Chg.refl [] _).drew) List.not_mem_nil, (HJ2.out.2.1.set' (by simp) _).keep ((Chg.refl [] _).drew) List.not_mem_nil, (HJ2.out.2.2.setCell (.inr hA) _).drew⟩)⟩
                case measure => simp [intOf]; omega
        · have d1 : decide ((x : Int) < (n : Int)) = false := by simp; omega
          have hxn : x = n := by omega
          have HE2 : Hid (Fam.closeFrom n (Fam.addTo s X x) (s - 1) = R) := hide (by
            have h := HI.out.1
            rw [hxn]
            rw [show s = s - 1 + 1 by omega, Fam.closeFrom, show s - 1 + 1 = s by omega] at h
            exact h)
          have HJ := hide hJ.out
          have HY := add_lt s X hX (by omega) x
          clear hJ hxn
          go_wp2
          go_roundw
          case rel => exact ⟨s - 1, Fam.addTo s X x, by omega, HY, by go_num, hide ⟨HE2.out, HJ.out⟩⟩
          case measure => simp [intOf]; omega
end Go.Proofs.YtpplihpfjniacaaDoor
