/- Walks: families: closed, collect, settled. -/
import Derived.Test.YtpplihpfjniacaaDoorEv3
import Derived.Test.YtpplihpfjniacaaDoorTqPlain
namespace Go.Proofs.YtpplihpfjniacaaDoor
open Go.RowKit

set_option maxRecDepth 100000 in
set_option maxHeartbeats 1000000 in
theorem settled_any (n F a i : Nat) (w : World) (hF : F < 18446744073709551616) (hn : n ≤ 6) (ha : a < 65536) :
    Calls Tryd.prog 61 #[famV n F, viewV a i] w (Ret (.bool (E.settled n (fun s => F.testBit s) a i)) w) := by
  have HE : Hid (E.settled n (fun s => F.testBit s) a i = (!E.someTo (fun s => F.testBit s) a i (2 ^ n) || E.allTo (fun s => F.testBit s) a i (2 ^ n))) := hide rfl
  have HH := hide fun s ws (hs : s < 64) => fhas_any n F s ws hF hs
  have p64 := Fam.pow_64 hn
  have ep : wrap64 (2 ^ n) = ((2 ^ n : Nat) : Int) := by
    have e : ((2 : Int) ^ n) = ((2 ^ n : Nat) : Int) := by rw [Int.natCast_pow]; rfl
    rw [e]
    generalize 2 ^ n = m at p64
    unfold wrap64; omega
  have n0 : (0 : Int) ≤ (n : Int) := by omega
  have n1 : (n : Int) < 64 := by omega
  have n2 : (n : Int) ≤ 64 := by omega
  have b1 := (Box.new w #[.int .i64 (n : Int), .int .u64 (F : Int)] 50).old (.cells #[.int .i64 (a : Int), .int .i64 (i : Int)] 57)
  have b2 := Box.at (w.alloc (.cells #[.int .i64 (n : Int), .int .u64 (F : Int)] 50)) #[.int .i64 (a : Int), .int .i64 (i : Int)] 57 (n := w.heap.size + 1) (by simp)
  have c2 := ((Chg.refl [] w).alloc (.cells #[.int .i64 (n : Int), .int .u64 (F : Int)] 50)).alloc (.cells #[.int .i64 (a : Int), .int .i64 (i : Int)] 57)
  generalize E.settled n (fun s => F.testBit s) a i = R at HE ⊢
  unfold famV viewV
  unfold famV at HH
  go_enter Tryd.func61, Tryd.ntmps61
  go_wp2
  rw [ep]
  generalize (w.alloc (.cells #[.int .i64 (n : Int), .int .u64 (F : Int)] 50)).alloc (.cells #[.int .i64 (a : Int), .int .i64 (i : Int)] 57) = W at b1 b2 c2 ⊢
  generalize w.heap.size = A at b1 b2 ⊢
  have HB : Hid (Box W A #[.int .i64 (n : Int), .int .u64 (F : Int)] 50 ∧ Box W (A + 1) #[.int .i64 (a : Int), .int .i64 (i : Int)] 57 ∧ Chg [] w W) := hide ⟨b1, b2, c2⟩
  obtain ⟨P, hP⟩ : ∃ P, P = 2 ^ n := ⟨_, rfl⟩
  rw [← hP] at HE p64 ⊢
  clear b1 b2 c2 ep hP
  have HS0 : Hid (∀ k, E.someTo (fun s => F.testBit s) a i (k + 1) = if k &&& a = i then E.someTo (fun s => F.testBit s) a i k || F.testBit k else E.someTo (fun s => F.testBit s) a i k) := hide fun k => rfl
  have HA0 : Hid (∀ k, E.allTo (fun s => F.testBit s) a i (k + 1) = if k &&& a = i then E.allTo (fun s => F.testBit s) a i k && F.testBit k else E.allTo (fun s => F.testBit s) a i k) := hide fun k => rfl
  have HZ : Hid (E.someTo (fun s => F.testBit s) a i 0 = false ∧ E.allTo (fun s => F.testBit s) a i 0 = true) := hide ⟨rfl, rfl⟩
  generalize hsm : E.someTo (fun s => F.testBit s) a i = sm at *
  generalize hal : E.allTo (fun s => F.testBit s) a i = al at *
  clear hsm hal
  go_loopw [5, 6, 11] (fun sv av kv ws => ∃ k : Nat, k ≤ P ∧ sv = .bool (sm k) ∧ av = .bool (al k) ∧ kv = .int .i64 (k : Int) ∧ Hid (Box ws A #[.int .i64 (n : Int), .int .u64 (F : Int)] 50 ∧ Box ws (A + 1) #[.int .i64 (a : Int), .int .i64 (i : Int)] 57 ∧ Chg [] w ws)) (fun _ _ kv _ => P - (intOf kv).toNat)
  case atStart => exact ⟨0, Nat.zero_le _, by rw [HZ.out.1], by rw [HZ.out.2], rfl, HB⟩
  case round =>
    obtain ⟨k, hk, rfl, rfl, rfl, hI⟩ := hrel
    have HS1 := hide (HS0.out k)
    have HA1 := hide (HA0.out k)
    by_cases hlt : k < P
    · have d1 : decide ((k : Int) < (P : Int)) = true := by simp; omega
      have k0 : (0 : Int) ≤ (k : Int) := by omega
      have HHk := hide fun ws => HH.out k ws (by omega)
      have v0 := hI.out.2.1.cell 0
      have v1 := hI.out.2.1.cell 1
      have lv := hI.out.2.1.lt
      have f0 := hI.out.1.cell 0
      have f1 := hI.out.1.cell 1
      have lf := hI.out.1.lt
      simp only [List.getElem?_toArray, List.getElem?_cons_zero, List.getElem?_cons_succ] at v0 v1 f0 f1
      have ean := and_nat k a (by omega) (by omega)
      have HI := hide hI.out
      clear hI
      by_cases hka : k &&& a = i
      · have d2 : (((k &&& a : Nat) : Int) == (i : Int)) = true := by rw [hka]; simp
        rw [hka] at ean
        have d2 : ((i : Int) == (i : Int)) = true := by simp
        have E1 : Hid (sm (k + 1) = (sm k || F.testBit k)) := hide (by rw [HS1.out, if_pos hka])
        have E2 : Hid (al (k + 1) = (al k && F.testBit k)) := hide (by rw [HA1.out, if_pos hka])
        clear hka
        generalize F.testBit k = hb at *
        generalize sm k = s1 at *
        generalize al k = a1 at *
        cases s1 with
        | true =>
          cases a1 with
          | true =>
            go_wp2_with fail
            refine (HHk.out _).mono ?_
            rintro e w2 ⟨rfl, hw⟩
            have HI2 := hide (And.intro (HI.out.1.keep hw List.not_mem_nil) (And.intro (HI.out.2.1.keep hw List.not_mem_nil) (HI.out.2.2.trans hw)))
            clear hw
            go_wp2
            go_roundw
            case rel => exact ⟨k + 1, by omega, by rw [E1.out]; rfl, by rw [E2.out]; rfl, by go_num, HI2⟩
            case measure => simp [intOf]; omega
          | false =>
            go_wp2
            go_roundw
            case rel => exact ⟨k + 1, by omega, by rw [E1.out]; rfl, by rw [E2.out]; rfl, by go_num, HI⟩
            case measure => simp [intOf]; omega
        | false =>
          go_wp2_with fail
          refine (HHk.out _).mono ?_
          rintro e w2 ⟨rfl, hw⟩
          have HI2 := hide (And.intro (HI.out.1.keep hw List.not_mem_nil) (And.intro (HI.out.2.1.keep hw List.not_mem_nil) (HI.out.2.2.trans hw)))
          clear hw
          have f0 := HI2.out.1.cell 0
          have f1 := HI2.out.1.cell 1
          have lf := HI2.out.1.lt
          simp only [List.getElem?_toArray, List.getElem?_cons_zero, List.getElem?_cons_succ] at f0 f1
          cases a1 with
          | true =>
            go_wp2_with fail
            refine (HHk.out _).mono ?_
            rintro e w3 ⟨rfl, hw⟩
            have HI3 := hide (And.intro (HI2.out.1.keep hw List.not_mem_nil) (And.intro (HI2.out.2.1.keep hw List.not_mem_nil) (HI2.out.2.2.trans hw)))
            clear hw
            go_wp2
            go_roundw
            case rel => exact ⟨k + 1, by omega, by rw [E1.out]; rfl, by rw [E2.out]; rfl, by go_num, HI3⟩
            case measure => simp [intOf]; omega
          | false =>
            go_wp2
            go_roundw
            case rel => exact ⟨k + 1, by omega, by rw [E1.out]; rfl, by rw [E2.out]; rfl, by go_num, HI2⟩
            case measure => simp [intOf]; omega
      · have d2 : (((k &&& a : Nat) : Int) == (i : Int)) = false := by simp; omega
        have E1 : Hid (sm (k + 1) = sm k) := hide (by rw [HS1.out, if_neg hka])
        have E2 : Hid (al (k + 1) = al k) := hide (by rw [HA1.out, if_neg hka])
        generalize k &&& a = ka at *
        clear hka
        generalize sm k = s1 at *
        generalize al k = a1 at *
        go_wp2
        go_roundw
        case rel => exact ⟨k + 1, by omega, by rw [E1.out], by rw [E2.out], by go_num, HI⟩
        case measure => simp [intOf]; omega
    · have d1 : decide ((k : Int) < (P : Int)) = false := by simp; omega
      obtain rfl : k = P := by omega
      have HC := hide hI.out.2.2
      have HR : Hid (R = (!sm k || al k)) := HE
      clear hI HE
      generalize sm k = s1 at *
      generalize al k = a1 at *
      cases s1 with
      | false =>
        go_wp2
        go_ret
        exact ⟨by rw [HR.out]; rfl, HC.out⟩
      | true =>
        go_wp2
        go_ret
        exact ⟨by rw [HR.out]; rfl, HC.out⟩
end Go.Proofs.YtpplihpfjniacaaDoor
