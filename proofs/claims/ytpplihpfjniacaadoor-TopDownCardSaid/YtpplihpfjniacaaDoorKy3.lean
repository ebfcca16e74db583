/- Walks: keys of the empty concept. -/
import Derived.Test.YtpplihpfjniacaaDoorKy2
namespace Go.Proofs.YtpplihpfjniacaaDoor
open Go.RowKit Go.Maps

def aloneB (c : Nat → Nat) (k : Nat) : Nat → Bool
  | 0 => true
  | j + 1 => aloneB c k j && (decide (j = 0) || decide (c j &&& k ≠ 0))
theorem aloneB_iff (c : Nat → Nat) (k : Nat) : ∀ m, aloneB c k m = true ↔ ∀ j, j < m → j = 0 ∨ c j &&& k ≠ 0
  | 0 => by simp [aloneB]
  | m + 1 => by
    rw [aloneB, Bool.and_eq_true, aloneB_iff c k m, Bool.or_eq_true, decide_eq_true_eq, decide_eq_true_eq]
    constructor
    · rintro ⟨h1, h2⟩ j hj
      rcases (show j < m ∨ j = m by omega) with h | rfl
      · exact h1 j h
      · exact h2
    · intro h
      exact ⟨fun j hj => h j (by omega), h m (by omega)⟩
def keysTo (c : Nat → Nat) (m k : Nat) : List Nat := (List.range k).filter fun k => aloneB c k m
theorem keysTo_succ (c : Nat → Nat) (m k : Nat) : keysTo c m (k + 1) = if aloneB c k m = true then keysTo c m k ++ [k] else keysTo c m k := by
  unfold keysTo
  rw [List.range_succ, List.filter_append]
  cases h : aloneB c k m <;> simp [h]
theorem keysTo_len (c : Nat → Nat) (m k : Nat) : (keysTo c m k).length ≤ k := by
  have := List.length_filter_le (fun k => aloneB c k m) (List.range k)
  rwa [List.length_range] at this
theorem keysTo_mem {c : Nat → Nat} {m k x : Nat} : x ∈ keysTo c m k ↔ x < k ∧ aloneB c x m = true := by
  unfold keysTo
  rw [List.mem_filter, List.mem_range]
set_option maxRecDepth 100000 in
set_option maxHeartbeats 4000000 in
theorem key_any (w1 : World) (Bs bd p : Nat) (ao : Option Addr) (cap : Nat) (l : List Int) (w : World) (hl : okC p l) (h0 : l.getD 0 0 = 0) (hS : School w1 Bs bd p ao cap l w) (hne : keysTo (cf l) l.length (2 ^ p) ≠ []) :
    Calls Tryd.prog 54 #[.pointer (some ⟨Bs, 0, none⟩), .int .i64 (allC l : Int), .int .i64 0] w (Ret (.int .i64 (minTo (keysTo (cf l) l.length (2 ^ p)) ((keysTo (cf l) l.length (2 ^ p)).length - 1) : Int)) w) := by
  obtain ⟨i0, hi, hz0, hz1, hz2⟩ := info_parts infoInt
  have h16 := hl.2.2.2.1
  have hp5 := hl.2.1
  have l1 := hl.2.2.1
  have nl : l ≠ [] := fun e => by rw [e] at l1; simp at l1
  have p5 : (2 : Nat) ^ p ≤ 2 ^ 5 := Nat.pow_le_pow_right (by decide) hp5
  have pm : (2 : Nat) ^ l.length ≤ 2 ^ 16 := Nat.pow_le_pow_right (by decide) h16
  have hal := (allC_ok hl).1
  have HBit := hide fun j (hj : j < l.length) => (by unfold allC; rw [Nat.testBit_two_pow_sub_one, decide_eq_true hj] : (allC l).testBit j = true)
  have HAt := hide fun i (hi : i < l.length) => hl.at hi
  have HMinK := hide fun v xs ws (hv : See ws v (xs.map fun (k : Nat) => (k : Int))) (hn : xs ≠ []) (hl : xs.length ≤ 1000) (hx : ∀ k ∈ xs, k < 65536) => minK_any v xs ws hv hn hl hx
  have HKl := hide fun k => keysTo_len (cf l) l.length k
  have HKs := hide fun k => keysTo_succ (cf l) l.length k
  have HK0 : Hid (keysTo (cf l) l.length 0 = []) := hide rfl
  have HKm : Hid (∀ x, x ∈ keysTo (cf l) l.length (2 ^ p) → x < 65536) := hide fun x hx => by have := (keysTo_mem.1 hx).1; omega
  have HB0 : Hid (∀ k, aloneB (cf l) k 0 = true) := hide fun k => rfl
  have HBs : Hid (∀ k j, aloneB (cf l) k (j + 1) = (aloneB (cf l) k j && (decide (j = 0) || decide (cf l j &&& k ≠ 0)))) := hide fun k j => rfl
  have HNe := hide hne
  have ew : wrap64 (2 ^ p) = ((2 ^ p : Nat) : Int) := by
    have e : ((2 : Int) ^ p) = ((2 ^ p : Nat) : Int) := by rw [Int.natCast_pow]; rfl
    rw [e]
    generalize 2 ^ p = q at p5
    unfold wrap64; omega
  obtain ⟨a, cap', e, hcell⟩ := hS.2.1.open nl
  have HC := hide fun wr (hw : Chg [] w wr) i (hi : i < l.length) => hcell wr (hS.2.2.2.2.2.2.trans hw) i hi
  obtain ⟨rfl, rfl⟩ : ao = some a ∧ cap = cap' := by simpa using e
  have HS := hide hS
  have H0 := hide h0
  have hP2 : (2 : Nat) ^ p < 65536 := by omega
  have al65 : allC l < 65536 := by omega
  have n0 : (0 : Int) ≤ (p : Int) := by omega
  have n1 : (p : Int) < 64 := by omega
  generalize allC l = al at *
  generalize keysTo (cf l) l.length = keys at *
  obtain ⟨m, hm⟩ : ∃ m, m = l.length := ⟨_, rfl⟩
  rw [← hm] at HBit HAt HKs h16 l1 HC
  have HM := hide hm
  obtain ⟨P, hP⟩ : ∃ P, P = 2 ^ p := ⟨_, rfl⟩
  rw [← hP] at ew p5 HKm HNe hP2 HAt ⊢
  have c0 := hS.1.cell 0
  have lb := hS.1.lt
  simp only [List.getElem?_toArray, List.getElem?_cons_zero] at c0
  have m0 : (0 : Int) < (m : Int) := by omega
  clear hS hl h0 hne nl e hcell pm hal hm hP
  go_enter Tryd.func54, Tryd.ntmps54
  go_wp2
  try rw [ew]
  clear c0 lb ew
  go_loopw [7, 17] (fun vv kv wr => ∃ k : Nat, k ≤ P ∧ kv = .int .i64 (k : Int) ∧ Hid (wr.ownsRow w.heap.size 3 1 vv (keys k).length (((keys k).map fun (k : Nat) => (k : Int)).map (Value.int .i64)) ∧ Chg [] w wr)) (fun _ kv _ => P - (intOf kv).toNat)
  case atStart => exact ⟨0, Nat.zero_le _, rfl, hide ⟨by rw [HK0.out]; exact World.ownsRow_nil _ _ _ _, Chg.refl _ _⟩⟩
  case round =>
    obtain ⟨k, hk, rfl, hI⟩ := hrel
    by_cases hlt : k < P
    · have d1 : decide ((k : Int) < (P : Int)) = true := by simp; omega
      have HKk := hide (HKs.out k)
      have HB0k := hide (HB0.out k)
      have HBsk := hide (HBs.out k)
      have k65 : k < 65536 := by omega
      have c1 := (HS.out.keep0 hI.out.2).1.cell 1
      have lb := (HS.out.keep0 hI.out.2).1.lt
      simp only [List.getElem?_toArray, List.getElem?_cons_zero, List.getElem?_cons_succ] at c1
      rw [← HM.out] at c1
      have HI := hide hI.out
      clear hI
      generalize aloneB (cf l) k = ab at *
      go_wp2
      clear c1 lb
      go_loopw [9, 25] (fun bv jv wq => ∃ j : Nat, j ≤ m ∧ jv = .int .i64 (j : Int) ∧ bv = .bool (ab j) ∧ Hid (Chg [] wr wq)) (fun _ jv _ => m - (intOf jv).toNat)
      case atStart => exact ⟨0, Nat.zero_le _, rfl, by rw [HB0k.out], hide (Chg.refl _ _)⟩
      case round =>
        obtain ⟨j, hj, rfl, rfl, hJ⟩ := hrel
        by_cases hjm : j < m
        · have f1 : decide ((j : Int) < (m : Int)) = true := by simp; omega
          have j0 : (0 : Int) ≤ (j : Int) := by omega
          have j1 : (j : Int) < 64 := by omega
          have hww := HI.out.2.trans hJ.out
          have fx := HC.out wr hww j hjm
          have fz := HC.out wr hww 0 (by omega)
          rw [H0.out, add_nought] at fz
          obtain ⟨hy1, hy2⟩ := HAt.out j hjm
          rw [hy1] at fx
          have c1 := (HS.out.keep0 hww).1.cell 1
          have lb := (HS.out.keep0 hww).1.lt
          simp only [List.getElem?_toArray, List.getElem?_cons_zero, List.getElem?_cons_succ] at c1
          rw [← HM.out] at c1
          have HBj := hide (HBsk.out j)
          have HEp := hide (pt_bit (s := al) (x := j) al65)
          have HTb := hide (HBit.out j hjm)
          have hcj : cf l j < 65536 := by omega
          have ean := land_nat (cf l j) k (by omega) (by omega)
          have ean0 := land_nat 0 k (by omega) (by omega)
          rw [Nat.zero_and] at ean0
          have ean0 : bits BinOp.and IntKind.i64 0 (k : Int) = 0 := ean0
          rw [HTb.out, if_pos rfl] at HEp
          have ep := HEp.out
          clear hy1 hy2 hww
          generalize cf l j = cj at *
          generalize cj &&& k = ck at *
          cases hab : ab j with
          | false =>
            have HN : Hid (ab (j + 1) = false) := hide (by rw [HBj.out, hab]; rfl)
            clear hab
            go_wp2
            go_roundw
            case rel => exact ⟨j + 1, by omega, by go_num, by rw [HN.out], hJ⟩
            case measure => simp [intOf]; omega
          | true =>
            by_cases hj0 : j = 0
            · have HN : Hid (ab (j + 1) = true) := hide (by rw [HBj.out, hab, hj0]; rfl)
              have e1 : ((j : Int) == 0) = true := by simp [hj0]
              clear hab hj0
              go_wp2
              go_roundw
              case rel => exact ⟨j + 1, by omega, by go_num, by rw [HN.out], hJ⟩
              case measure => simp [intOf]; omega
            · have e1 : ((j : Int) == 0) = false := by simp [hj0]
              by_cases hck : ck = 0
              · have HN : Hid (ab (j + 1) = false) := hide (by rw [HBj.out, hab, decide_eq_false hj0, decide_eq_false (by simpa using hck)]; rfl)
                have e2 : ((ck : Int) != 0) = false := by simp [hck]
                clear hab hj0 hck
                go_wp2
                go_roundw
                case rel => exact ⟨j + 1, by omega, by go_num, by rw [HN.out], hJ⟩
                case measure => simp [intOf]; omega
              · have HN : Hid (ab (j + 1) = true) := hide (by rw [HBj.out, hab, decide_eq_true hck]; simp)
                have e2 : ((ck : Int) != 0) = true := by simp [hck]
                clear hab hj0 hck
                go_wp2
                go_roundw
                case rel => exact ⟨j + 1, by omega, by go_num, by rw [HN.out], hJ⟩
                case measure => simp [intOf]; omega
        · have f1 : decide ((j : Int) < (m : Int)) = false := by simp; omega
          have hjm2 : j = m := by omega
          subst hjm2
          have HWq := hide (HI.out.2.trans hJ.out)
          have hown := hJ.out.row HI.out.1 (fun _ _ => List.not_mem_nil)
          have hsz := HWq.out.size
          have hkl := HKl.out k
          cases hab : ab j with
          | false =>
            rw [hab, if_neg (by decide)] at HKk
            have HO := hide hown
            clear hab hown
            go_wp2
            go_roundw
            case rel => exact ⟨k + 1, by omega, by go_num, hide ⟨by rw [HKk.out]; exact HO.out, HWq.out⟩⟩
            case measure => simp [intOf]; omega
          | true =>
            rw [hab, if_pos rfl] at HKk
            clear hab
            obtain ⟨xo, xc, rfl, _⟩ := row_shape hown
            go_wp2_with (at_builtin; refine wpList_append_own _ rfl _ _ 22 rfl w.heap.size 3 i0 (.int .i64 0) 1 8 Tryd.underlying22 hi hz0 hz1 hz2 rfl (by decide) _ _ _ rfl (hown.alloc _) ⟨wr.heap.size, 0, none⟩ 1 1 [.int .i64 (k : Int)] rfl rfl (by intro j u hj; match j, hj with | 0, hj => simp at hj; subst hj; simp [Addr.add]) (by intro u hu; simp at hu; subst hu; rfl) (by unfold maxLen; omega) (by omega) (by simp; omega) ?_; intro v1 w3 hown1 hgrow1 _)
            go_roundw
            case rel => exact ⟨k + 1, by omega, by go_num, hide ⟨by rw [HKk.out]; simpa using hown1, (HWq.out.alloc _).grew (hown.alloc _) (Nat.le_refl _) hgrow1⟩⟩
            case measure => simp [intOf]; omega
    · have d1 : decide ((k : Int) < (P : Int)) = false := by simp; omega
      have hkP : k = P := by omega
      have HX := hide hI.out
      rw [hkP] at HX
      obtain ⟨xo, xc, rfl, _⟩ := row_shape HX.out.1
      have hsee : Ints wr (.slice xo (keys P).length xc) ((keys P).map fun (k : Nat) => (k : Int)) := by
        unfold Ints
        rw [List.length_map]
        exact row_low HX.out.1 (Nat.zero_le _)
      have HSee := hide hsee.toSee
      have HW := hide HX.out.2
      clear hI hkP hsee HX
      have HMk := hide (HMinK.out _ _ wr HSee.out HNe.out (by have := HKl.out P; omega) HKm.out)
      generalize minTo (keys P) ((keys P).length - 1) = R at *
      go_wp2_with fail
      refine HMk.out.mono ?_
      rintro e w2 ⟨rfl, hw⟩
      go_wp2
      go_ret
      exact ⟨rfl, HW.out.trans hw⟩

/-- The key of the empty concept. -/
def keyN (p : Nat) (l : List Int) : Nat := minTo (keysTo (cf l) l.length (2 ^ p)) ((keysTo (cf l) l.length (2 ^ p)).length - 1)
set_option maxRecDepth 100000 in
set_option maxHeartbeats 1000000 in
theorem LKey_good (p : Nat) (v : Value) (l : List Int) (w : World) (hv : See w v l) (hl : okC p l) (h0 : l.getD 0 0 = 0) (hne : keysTo (cf l) l.length (2 ^ p) ≠ []) :
    Calls Tryd.prog 22 #[.int .i64 (p : Int), v, .int .i64 0] w (Ret (.tuple #[.int .i64 (keyN p l : Int), .int .i64 0]) w) := by
  have HR := hide (readC_good p v l w hv hl)
  have HBi := hide fun ws (hw : Chg [] w ws) => bin0_any v l ws (hv.keep hw) h0 (fun x hx => (hl.2.2.2.2.1 x hx).1) hl.2.2.1 hl.2.2.2.1
  have HAl := hide fun Bs bd ao cap ws (hs : School w Bs bd p ao cap l ws) => allC_any w Bs bd p ao cap l ws hl hs
  have HKe := hide fun Bs bd ao cap ws (hs : School w Bs bd p ao cap l ws) => key_any w Bs bd p ao cap l ws hl h0 hs hne
  rw [show (2 ^ l.length - 1) = allC l from rfl] at HAl
  have HE : Hid (keyN p l = minTo (keysTo (cf l) l.length (2 ^ p)) ((keysTo (cf l) l.length (2 ^ p)).length - 1)) := hide rfl
  generalize minTo (keysTo (cf l) l.length (2 ^ p)) ((keysTo (cf l) l.length (2 ^ p)).length - 1) = R at *
  generalize allC l = al at *
  rw [HE.out]
  obtain ⟨ao', cap', rfl⟩ := hv.shape
  generalize l.length = n at HR HBi ⊢
  clear hv hl hne h0
  go_enter Tryd.func22, Tryd.ntmps22
  go_wp2_with fail
  refine HR.out.mono ?_
  rintro e w2 ⟨Bs, bd, ao, cap, rfl, hS, hK⟩
  have HS := hide hS
  clear hS hK
  go_wp2_with fail
  refine (HBi.out _ HS.out.2.2.2.2.2.2).mono ?_
  rintro e w3 ⟨rfl, hw⟩
  have HS3 := hide (HS.out.keep0 hw)
  clear hw
  go_wp2_with fail
  refine (HAl.out _ _ _ _ _ HS3.out).mono ?_
  rintro e w4 ⟨rfl, hw⟩
  have HS4 := hide (HS3.out.keep0 hw)
  clear hw
  go_wp2_with fail
  refine (HKe.out _ _ _ _ _ HS4.out).mono ?_
  rintro e w5 ⟨rfl, hw⟩
  have HS5 := hide (HS4.out.2.2.2.2.2.2.trans hw)
  clear hw
  go_wp2
  go_ret2
  exact ⟨by rfl, HS5.out⟩
end Go.Proofs.YtpplihpfjniacaaDoor
