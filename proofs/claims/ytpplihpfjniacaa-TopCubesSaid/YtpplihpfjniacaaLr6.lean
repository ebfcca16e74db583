/- Walks: classes: the careful learner, the worst case. -/
import Derived.Test.YtpplihpfjniacaaLr4
import Derived.Test.YtpplihpfjniacaaLoopW
import Derived.Laws.EntriesVeiled
namespace Go.Proofs.Ytpplihpfjniacaa
open Go.RowKit Go.Maps
namespace Lr

theorem sub_ne {a b : Nat} (h : ∀ i, a.testBit i = true → b.testBit i = true) (h0 : a ≠ 0) : b ≠ 0 := fun e => h0 (by
  apply Nat.eq_of_testBit_eq
  intro i
  rw [Nat.zero_testBit]
  cases ha : a.testBit i with
  | false => rfl
  | true => have := h i ha; rw [e, Nat.zero_testBit] at this; cases this)
theorem dim_mono {c : Nat → Nat} {m p : Nat} (hm : m ≤ 16) : ∀ F A B, A < F → A < 2 ^ m → B < 2 ^ m → (∀ i, A.testBit i = true → B.testBit i = true) → dimN c m p A ≤ dimN c m p B
  | 0, _, _, h, _, _, _ => by omega
  | F + 1, A, B, hF, hA, hB, hs => by
    rw [dimN_eq hm hA, dimN_eq hm hB]
    have key : ∀ x, bestD c m (dimN c m p) A x ≤ bestD c m (dimN c m p) B x := fun x => by
      induction x with
      | zero => exact Nat.le_refl _
      | succ x ih =>
        have hw : ∀ i, (withN c m A x).testBit i = true → (withN c m B x).testBit i = true := fun i => by
          rw [with_test hA, with_test hB]
          intro h
          simp only [Bool.and_eq_true] at h ⊢
          exact ⟨hs i h.1, h.2⟩
        have hr : ∀ i, (andnN A (withN c m A x)).testBit i = true → (andnN B (withN c m B x)).testBit i = true := fun i => by
          rw [rest_test hm hA, rest_test hm hB]
          intro h
          simp only [Bool.and_eq_true] at h ⊢
          exact ⟨hs i h.1, h.2⟩
        rw [bestD, bestD]
        by_cases hc : andnN A (withN c m A x) ≠ 0 ∧ withN c m A x ≠ 0
        · rw [if_pos hc, if_pos ⟨sub_ne hr hc.1, sub_ne hw hc.2⟩]
          have l1 := Nat.lt_of_le_of_lt (with_le c m A x) hA
          have l2 := Nat.lt_of_le_of_lt (with_le c m B x) hB
          have l3 := Nat.lt_of_le_of_lt (andnN_le A (withN c m A x)) hA
          have l4 := Nat.lt_of_le_of_lt (andnN_le B (withN c m B x)) hB
          have q1 : withN c m A x < A := Nat.lt_of_le_of_ne (with_le c m A x) fun e => hc.1 ((rest_zero hm hA).2 e)
          have q2 := rest_lt hm hA hc.2
          have i1 := dim_mono (c := c) (p := p) hm F _ _ (by omega) l1 l2 hw
          have i2 := dim_mono (c := c) (p := p) hm F _ _ (by omega) l3 l4 hr
          omega
        · rw [if_neg hc]
          split <;> omega
    exact key p
/-- What the careful learner says. -/
def carN (c : Nat → Nat) (m p set x : Nat) : Nat := if dimN c m p (andnN set (withN c m set x)) < dimN c m p (withN c m set x) then 1 else 0
/-- The most mistakes, over the points below one. -/
def bestW (c : Nat → Nat) (m p set : Nat) : Nat → Nat
  | 0 => 0
  | x + 1 => if withN c m set x ≠ 0 ∧ withN c m set x ≠ set then max (max (bestW c m p set x) (dimN c m p (andnN set (withN c m set x)) + carN c m p set x)) (dimN c m p (withN c m set x) + (1 - carN c m p set x)) else bestW c m p set x
theorem bestW_eq {c : Nat → Nat} {m p set : Nat} (hm : m ≤ 16) (hs : set < 2 ^ m) : bestW c m p set p = dimN c m p set := by
  have up : ∀ x, x ≤ p → bestW c m p set x ≤ dimN c m p set := fun x => by
    induction x with
    | zero => intro _; exact Nat.zero_le _
    | succ x ih =>
      intro hx
      have ih := ih (by omega)
      rw [bestW]
      split
      · rename_i hc
        have hr : andnN set (withN c m set x) ≠ 0 := fun e => hc.2 ((rest_zero hm hs).1 e)
        have l1 := Nat.lt_of_le_of_lt (with_le c m set x) hs
        have l3 := Nat.lt_of_le_of_lt (andnN_le set (withN c m set x)) hs
        have d1 := dim_mono (c := c) (p := p) hm _ (withN c m set x) set (Nat.lt_succ_self _) l1 hs (fun i h => by rw [with_test hs] at h; simp only [Bool.and_eq_true] at h; exact h.1)
        have d2 := dim_mono (c := c) (p := p) hm _ (andnN set (withN c m set x)) set (Nat.lt_succ_self _) l3 hs (fun i h => by rw [rest_test hm hs] at h; simp only [Bool.and_eq_true] at h; exact h.1)
        have hb := bestD_le (r := dimN c m p) ⟨hr, hc.1⟩ p (by omega)
        rw [← dimN_eq hm hs] at hb
        unfold carN
        split <;> omega
      · exact ih
  have lo : ∀ x, bestD c m (dimN c m p) set x ≤ bestW c m p set x := fun x => by
    induction x with
    | zero => exact Nat.le_refl _
    | succ x ih =>
      rw [bestW, bestD]
      by_cases hc : andnN set (withN c m set x) ≠ 0 ∧ withN c m set x ≠ 0
      · rw [if_pos hc, if_pos ⟨hc.2, fun e => hc.1 ((rest_zero hm hs).2 e)⟩]
        unfold carN
        split <;> omega
      · rw [if_neg hc]
        split <;> omega
  have h1 := lo p
  rw [← dimN_eq hm hs] at h1
  exact Nat.le_antisymm (up p (Nat.le_refl _)) h1
end Lr

theorem callC (args : Array Value) (W : World) : (callFunc 19 args).run Try.prog W = .ok (.enter 19 args) W := by kernel_rfl
/-- The learner's memory. -/
def WSt (w1 : World) (Bs bd bk p : Nat) (ao : Option Addr) (cap : Nat) (l : List Int) (w : World) : Prop :=
  School w1 Bs bd p ao cap l w ∧ (∃ fk, IM.KnownM w bk fk ∧ DimK l p fk) ∧ ∃ fd, IM.KnownM w bd fd ∧ DimK l p fd
theorem WSt.keep0 {w1 w w' : World} {Bs bd bk p : Nat} {ao : Option Addr} {cap : Nat} {l : List Int} (h : WSt w1 Bs bd bk p ao cap l w) (hc : Chg [] w w') : WSt w1 Bs bd bk p ao cap l w' := by
  obtain ⟨h1, ⟨fk, h2, h3⟩, fd, h4, h5⟩ := h
  exact ⟨h1.keep0 hc, ⟨fk, h2.keep hc List.not_mem_nil, h3⟩, fd, h4.keep hc List.not_mem_nil, h5⟩
set_option maxRecDepth 100000 in
set_option maxHeartbeats 2000000 in
theorem careful_any (w1 : World) (Bs bd bk p : Nat) (ao : Option Addr) (cap : Nat) (l : List Int) (set x : Nat) (w : World) (hl : okC p l) (hset : set < 2 ^ l.length) (hx : x < p) (h0 : Lr.withN (cf l) l.length set x ≠ 0) (h1 : Lr.withN (cf l) l.length set x ≠ set) (nb : bk ≠ bd) (hW : WSt w1 Bs bd bk p ao cap l w) :
    Calls Try.prog 19 #[.pointer (some ⟨Bs, 0, none⟩), .int .i64 (set : Int), .int .i64 (x : Int)] w fun e w' => e = .returned (.int .i64 (Lr.carN (cf l) l.length p set x : Int)) ∧ WSt w1 Bs bd bk p ao cap l w' ∧ Chg [bd] w w' := by
  have h16 := hl.2.2.2.1
  have pm : (2 : Nat) ^ l.length ≤ 2 ^ 16 := Nat.pow_le_pow_right (by decide) h16
  have s65 : set < 65536 := by omega
  have H0 := hide fun ws (h : School w1 Bs bd p ao cap l ws) => said0_any w1 Bs bd p ao cap l set x ws hl s65 hx h
  have H1 := hide fun ws (h : School w1 Bs bd p ao cap l ws) => said1_any w1 Bs bd p ao cap l set x ws hl s65 hx h
  have hwl := Nat.lt_of_le_of_lt (Lr.with_le (cf l) l.length set x) hset
  have hal := Nat.lt_of_le_of_lt (andnN_le set (Lr.withN (cf l) l.length set x)) hset
  have hr0 : andnN set (Lr.withN (cf l) l.length set x) ≠ 0 := fun e => h1 ((Lr.rest_zero h16 hset).1 e)
  have HA1 := hide fun ws fk1 a b c => dimC_all w1 Bs bd p ao cap l hl _ (andnN set (Lr.withN (cf l) l.length set x)) ws fk1 hal hr0 (Nat.lt_succ_self _) a b c
  have HA2 := hide fun ws fk1 a b c => dimC_all w1 Bs bd p ao cap l hl _ (Lr.withN (cf l) l.length set x) ws fk1 hwl h0 (Nat.lt_succ_self _) a b c
  have HCar : Hid (Lr.carN (cf l) l.length p set x = if Lr.dimN (cf l) l.length p (andnN set (Lr.withN (cf l) l.length set x)) < Lr.dimN (cf l) l.length p (Lr.withN (cf l) l.length set x) then 1 else 0) := hide rfl
  generalize Lr.carN (cf l) l.length p set x = car at *
  have HW := hide hW
  have HNb := hide (show bk ∉ [bd] from fun h => nb (List.mem_singleton.1 h))
  generalize Lr.withN (cf l) l.length set x = b at *
  generalize andnN set b = a at *
  generalize Lr.dimN (cf l) l.length p a = N1 at *
  generalize Lr.dimN (cf l) l.length p b = N2 at *
  unfold DimIs at HA1 HA2
  clear hW hl h0 h1 nb hset hx hwl hal hr0 pm s65
  by_cases hlt : N1 < N2
  · have e1 : decide ((N2 : Int) > (N1 : Int)) = true := by simp; omega
    have e2 : decide (N1 < N2) = true := by simp; omega
    have HR : Hid (car = 1) := hide (by rw [HCar.out, if_pos hlt])
    clear hlt
    go_enter Try.func19, Try.ntmps19
    go_wp2_with fail
    refine (H0.out _ HW.out.1).mono ?_
    rintro e w2 ⟨rfl, hw⟩
    have HW2 := hide (HW.out.keep0 hw)
    have HC2 := hide hw
    clear hw
    go_wp2_with fail
    have hD2 := HW2.out.2.2
    obtain ⟨fd2, k2, d2⟩ := hD2
    refine (HA1.out _ _ HW2.out.1 k2 d2).mono ?_
    clear k2 d2
    rintro e w3 ⟨rfl, fd3, h1, h2, h3, h4⟩
    have HW3 : Hid (WSt w1 Bs bd bk p ao cap l w3 ∧ Chg [bd] w w3) := hide ⟨⟨h1, (by obtain ⟨fk, a, b⟩ := HW2.out.2.1; exact ⟨fk, a.keep h4 HNb.out, b⟩), fd3, h2, h3⟩, HC2.out.toAny.trans h4⟩
    clear h1 h2 h3 h4
    go_wp2_with fail
    refine (H1.out _ HW3.out.1.1).mono ?_
    rintro e w4 ⟨rfl, hw⟩
    have HW4 : Hid (WSt w1 Bs bd bk p ao cap l w4 ∧ Chg [bd] w w4) := hide ⟨HW3.out.1.keep0 hw, HW3.out.2.trans hw.toAny⟩
    clear hw
    go_wp2_with fail
    have hD4 := HW4.out.1.2.2
    obtain ⟨fd4, k4, d4⟩ := hD4
    refine (HA2.out _ _ HW4.out.1.1 k4 d4).mono ?_
    clear k4 d4
    rintro e w5 ⟨rfl, fd5, h1, h2, h3, h4⟩
    have HW5 : Hid (WSt w1 Bs bd bk p ao cap l w5 ∧ Chg [bd] w w5) := hide ⟨⟨h1, (by obtain ⟨fk, a, b⟩ := HW4.out.1.2.1; exact ⟨fk, a.keep h4 HNb.out, b⟩), fd5, h2, h3⟩, HW4.out.2.trans h4⟩
    clear h1 h2 h3 h4
    go_wp2
    go_ret
    exact ⟨by rw [HR.out]; rfl, HW5.out⟩
  · have e1 : decide ((N2 : Int) > (N1 : Int)) = false := by simp; omega
    have e2 : decide (N1 < N2) = false := by simp; omega
    have HR : Hid (car = 0) := hide (by rw [HCar.out, if_neg hlt])
    clear hlt
    go_enter Try.func19, Try.ntmps19
    go_wp2_with fail
    refine (H0.out _ HW.out.1).mono ?_
    rintro e w2 ⟨rfl, hw⟩
    have HW2 := hide (HW.out.keep0 hw)
    have HC2 := hide hw
    clear hw
    go_wp2_with fail
    have hD2 := HW2.out.2.2
    obtain ⟨fd2, k2, d2⟩ := hD2
    refine (HA1.out _ _ HW2.out.1 k2 d2).mono ?_
    clear k2 d2
    rintro e w3 ⟨rfl, fd3, h1, h2, h3, h4⟩
    have HW3 : Hid (WSt w1 Bs bd bk p ao cap l w3 ∧ Chg [bd] w w3) := hide ⟨⟨h1, (by obtain ⟨fk, a, b⟩ := HW2.out.2.1; exact ⟨fk, a.keep h4 HNb.out, b⟩), fd3, h2, h3⟩, HC2.out.toAny.trans h4⟩
    clear h1 h2 h3 h4
    go_wp2_with fail
    refine (H1.out _ HW3.out.1.1).mono ?_
    rintro e w4 ⟨rfl, hw⟩
    have HW4 : Hid (WSt w1 Bs bd bk p ao cap l w4 ∧ Chg [bd] w w4) := hide ⟨HW3.out.1.keep0 hw, HW3.out.2.trans hw.toAny⟩
    clear hw
    go_wp2_with fail
    have hD4 := HW4.out.1.2.2
    obtain ⟨fd4, k4, d4⟩ := hD4
    refine (HA2.out _ _ HW4.out.1.1 k4 d4).mono ?_
    clear k4 d4
    rintro e w5 ⟨rfl, fd5, h1, h2, h3, h4⟩
    have HW5 : Hid (WSt w1 Bs bd bk p ao cap l w5 ∧ Chg [bd] w w5) := hide ⟨⟨h1, (by obtain ⟨fk, a, b⟩ := HW4.out.1.2.1; exact ⟨fk, a.keep h4 HNb.out, b⟩), fd5, h2, h3⟩, HW4.out.2.trans h4⟩
    clear h1 h2 h3 h4
    go_wp2
    go_ret
    exact ⟨by rw [HR.out]; rfl, HW5.out⟩
def WorC (w1 : World) (Bs bd bk p : Nat) (ao : Option Addr) (cap : Nat) (l : List Int) (F : Nat) : Prop := ∀ (set : Nat) (w : World), set < 2 ^ l.length → set ≠ 0 → set < F → WSt w1 Bs bd bk p ao cap l w →
  Calls Try.prog 21 #[.pointer (some ⟨Bs, 0, none⟩), .int .i64 (set : Int), .func (.func 19) #[.pointer (some ⟨Bs, 0, none⟩)] #[], .map (some bk)] w fun e w' => e = .returned (.int .i64 (Lr.dimN (cf l) l.length p set : Int)) ∧ WSt w1 Bs bd bk p ao cap l w' ∧ Chg [bd, bk] w w'
set_option maxRecDepth 100000 in
set_option maxHeartbeats 4000000 in
theorem worC_more (w1 : World) (Bs bd bk p : Nat) (ao : Option Addr) (cap : Nat) (l : List Int) (F : Nat) (hl : okC p l) (nb : bk ≠ bd) (n1 : bk ≠ Bs) (n2 : w1.heap.size ≤ bk) (IH : WorC w1 Bs bd bk p ao cap l F) : WorC w1 Bs bd bk p ao cap l (F + 1) := by
  intro set w hset h0 hF hW
  have hcall := callC
  have h16 := hl.2.2.2.1
  have hp5 := hl.2.1
  have pm : (2 : Nat) ^ l.length ≤ 2 ^ 16 := Nat.pow_le_pow_right (by decide) h16
  have s65 : set < 65536 := by omega
  have HIH := hide fun s ws (h1 : s < 2 ^ l.length) (h2 : s ≠ 0) (h3 : s < set) (h4 : WSt w1 Bs bd bk p ao cap l ws) => IH s ws h1 h2 (by omega) h4
  have HCar := hide fun x ws (hx : x < p) (h2 : Lr.withN (cf l) l.length set x ≠ 0) (h3 : Lr.withN (cf l) l.length set x ≠ set) (h4 : WSt w1 Bs bd bk p ao cap l ws) => careful_any w1 Bs bd bk p ao cap l set x ws hl hset hx h2 h3 nb h4
  have HWi := hide fun x ws (hx : x < p) (hs : School w1 Bs bd p ao cap l ws) => with_any w1 Bs bd p ao cap l set x ws hl s65 hx hs
  have HS0 := hide fun x ws (hx : x < p) (hs : School w1 Bs bd p ao cap l ws) => said0_any w1 Bs bd p ao cap l set x ws hl s65 hx hs
  have HS1 := hide fun x ws (hx : x < p) (hs : School w1 Bs bd p ao cap l ws) => said1_any w1 Bs bd p ao cap l set x ws hl s65 hx hs
  have HNb := hide (show ∀ x ∈ [bk], x ≠ Bs ∧ w1.heap.size ≤ x from fun x hx => by rw [List.mem_singleton.1 hx]; exact ⟨n1, n2⟩)
  have HNd := hide (show bd ∉ [bk] from fun h => nb (List.mem_singleton.1 h).symm)
  have HEq := hide (Lr.bestW_eq (c := cf l) (p := p) h16 hset)
  have HLs : Hid (∀ x, Lr.bestW (cf l) l.length p set (x + 1) = if Lr.withN (cf l) l.length set x ≠ 0 ∧ Lr.withN (cf l) l.length set x ≠ set then max (max (Lr.bestW (cf l) l.length p set x) (Lr.dimN (cf l) l.length p (andnN set (Lr.withN (cf l) l.length set x)) + Lr.carN (cf l) l.length p set x)) (Lr.dimN (cf l) l.length p (Lr.withN (cf l) l.length set x) + (1 - Lr.carN (cf l) l.length p set x)) else Lr.bestW (cf l) l.length p set x) := hide fun x => rfl
  have HLz : Hid (Lr.bestW (cf l) l.length p set 0 = 0) := hide rfl
  have HLw := hide fun x => Lr.with_le (cf l) l.length set x
  have HLr := hide fun x (h : Lr.withN (cf l) l.length set x ≠ 0) => Lr.rest_lt (c := cf l) h16 hset h
  have HLq := hide fun x => Lr.rest_zero (c := cf l) (x := x) h16 hset
  have HTop := hide fun s (hs : s < 2 ^ l.length) (h0 : s ≠ 0) => Lr.dim_top (c := cf l) (p := p) h16 hs h0
  have HC01 : Hid (∀ x, Lr.carN (cf l) l.length p set x = 0 ∨ Lr.carN (cf l) l.length p set x = 1) := hide fun x => by
    unfold Lr.carN
    split
    · exact .inr rfl
    · exact .inl rfl
  generalize Lr.bestW (cf l) l.length p set = L at *
  generalize Lr.carN (cf l) l.length p set = cr at *
  generalize hwn : Lr.withN (cf l) l.length set = wn at *
  have HW := hide hW
  have HSt := hide hset
  obtain ⟨hS, ⟨fk, hK, hD⟩, -⟩ := hW
  have HD := hide hD
  have hrun := hK.look (r := set) s65
  unfold IM.ikV at hrun
  have c0 := hS.1.cell 0
  have lb := hS.1.lt
  simp only [List.getElem?_toArray, List.getElem?_cons_zero] at c0
  clear hS hK hD IH hl nb n1 n2 hset hwn hF
  cases hfk : fk set with
  | some n =>
    have HE := hide (HD.out set n HSt.out hfk)
    rw [hfk] at hrun
    simp only [Option.getD_some, Option.isSome_some] at hrun
    clear hfk
    go_enter Try.func21, Try.ntmps21
    go_wp2
    go_ret
    exact ⟨by rw [← HE.out]; rfl, HW.out, Chg.refl _ _⟩
  | none =>
    rw [hfk] at hrun
    simp only [Option.getD_none, Option.isSome_none] at hrun
    clear hfk
    go_enter Try.func21, Try.ntmps21
    go_wp2
    clear hrun c0 lb
    go_loopw [28, 11] (fun xv bv wr => ∃ x B : Nat, x ≤ p ∧ xv = .int .i64 (x : Int) ∧ bv = .int .i64 (B : Int) ∧ Hid (B = L x ∧ WSt w1 Bs bd bk p ao cap l wr ∧ Chg [bd, bk] w wr)) (fun xv _ _ => p - (intOf xv).toNat)
    case atStart => exact ⟨0, 0, Nat.zero_le _, rfl, rfl, hide ⟨HLz.out.symm, HW.out, Chg.refl _ _⟩⟩
    case round =>
      obtain ⟨x, B, hx, rfl, rfl, hI⟩ := hrel
      have HBL := hide hI.out.1
      have HI := hide hI.out.2
      clear hI
      by_cases hlt : x < p
      · have d1 : decide ((x : Int) < (p : Int)) = true := by simp; omega
        have HL1 := hide (HLs.out x)
        have hwl := HLw.out x
        have HLr1 := hide (HLr.out x)
        have HLq1 := hide (HLq.out x)
        have HWx := hide (HWi.out x wr hlt HI.out.1.1)
        have HS0x := hide fun ws (h : School w1 Bs bd p ao cap l ws) => HS0.out x ws hlt h
        have HS1x := hide fun ws (h : School w1 Bs bd p ao cap l ws) => HS1.out x ws hlt h
        have HCx := hide fun ws h2 h3 h4 => HCar.out x ws hlt h2 h3 h4
        have hcx := HC01.out x
        generalize wn x = part at *
        generalize cr x = car at *
        by_cases hp0 : part = 0
        · have e1 : ((part : Int) == 0) = true := by simp [hp0]
          have HN : Hid (L (x + 1) = L x) := hide (by rw [HL1.out, if_neg (fun h => h.1 hp0)])
          clear hp0
          go_wp2_with fail
          refine HWx.out.mono ?_
          rintro e w3 ⟨rfl, hw⟩
          have HI3 := hide (And.intro (HI.out.1.keep0 hw) (HI.out.2.trans hw.toAny))
          clear hw
          go_wp2
          go_roundw
          case rel => exact ⟨x + 1, B, by omega, by go_num, rfl, hide ⟨by rw [HN.out]; exact HBL.out, HI3.out⟩⟩
          case measure => simp [intOf]; omega
        · have e1 : ((part : Int) == 0) = false := by simp [hp0]
          by_cases hps : part = set
          · have e2 : ((part : Int) == (set : Int)) = true := by simp [hps]
            have HN : Hid (L (x + 1) = L x) := hide (by rw [HL1.out, if_neg (fun h => h.2 hps)])
            clear hp0 hps
            go_wp2_with fail
            refine HWx.out.mono ?_
            rintro e w3 ⟨rfl, hw⟩
            have HI3 := hide (And.intro (HI.out.1.keep0 hw) (HI.out.2.trans hw.toAny))
            clear hw
            go_wp2
            go_roundw
            case rel => exact ⟨x + 1, B, by omega, by go_num, rfl, hide ⟨by rw [HN.out]; exact HBL.out, HI3.out⟩⟩
            case measure => simp [intOf]; omega
          · have e2 : ((part : Int) == (set : Int)) = false := by simp; omega
            have hrl := HLr1.out hp0
            have hr0 : andnN set part ≠ 0 := fun h => hps (HLq1.out.1 h)
            have hpl := Nat.lt_of_le_of_ne hwl hps
            have HN : Hid (L (x + 1) = max (max (L x) (Lr.dimN (cf l) l.length p (andnN set part) + car)) (Lr.dimN (cf l) l.length p part + (1 - car))) := hide (by rw [HL1.out, if_pos ⟨hp0, hps⟩])
            rw [← HBL.out] at HN
            have HA1 := hide fun ws (h : WSt w1 Bs bd bk p ao cap l ws) => HIH.out (andnN set part) ws (Nat.lt_trans hrl HSt.out) hr0 hrl h
            have HA2 := hide fun ws (h : WSt w1 Bs bd bk p ao cap l ws) => HIH.out part ws (Nat.lt_of_le_of_lt hwl HSt.out) hp0 hpl h
            have HCr := hide fun ws (h : WSt w1 Bs bd bk p ao cap l ws) => HCx.out ws hp0 hps h
            have t1 := HTop.out (andnN set part) (Nat.lt_trans hrl HSt.out) hr0
            have t2 := HTop.out part (Nat.lt_of_le_of_lt hwl HSt.out) hp0
            generalize andnN set part = rest at *
            generalize Lr.dimN (cf l) l.length p rest = N1 at *
            generalize Lr.dimN (cf l) l.length p part = N2 at *
            clear hp0 hps hrl hr0 hpl HLr1 HLq1 HL1
            rcases hcx with rfl | rfl
            · obtain ⟨B1, hB1⟩ : ∃ B1, B1 = max B N1 := ⟨_, rfl⟩
              obtain ⟨B2, hB2⟩ : ∃ B2, B2 = max B1 (N2 + 1) := ⟨_, rfl⟩
              have m1 : (if B < N1 then (N1 : Int) else (B : Int)) = (B1 : Int) := by split <;> omega
              have m2 : (if (B1 : Int) < (N2 : Int) + 1 then (N2 : Int) + 1 else (B1 : Int)) = (B2 : Int) := by split <;> omega
              have f1 : IntKind.i64.wrap ((N2 : Int) + 1) = (N2 : Int) + 1 := by rw [IntKind.wrap_i64]; omega
              have HB2 : Hid (B2 = L (x + 1)) := hide (by rw [HN.out]; omega)
              clear hB1 hB2 t1 t2 HN
              go_wp2_with fail
              refine HWx.out.mono ?_
              rintro e w3 ⟨rfl, hw⟩
              have HI3 := hide (And.intro (HI.out.1.keep0 hw) (HI.out.2.trans hw.toAny))
              clear hw
              go_wp2
              refine loopW_start (loopW_round ?_)
              go_wp2_with fail
              refine (HS0x.out _ HI3.out.1.1).mono ?_
              rintro e w4 ⟨rfl, hw⟩
              have HI4 := hide (And.intro (HI3.out.1.keep0 hw) (HI3.out.2.trans hw.toAny))
              clear hw
              go_wp2_with fail
              refine (HA1.out _ HI4.out.1).mono ?_
              rintro e w5 ⟨rfl, h1, h2⟩
              have HI5 := hide (And.intro h1 (HI4.out.2.trans h2))
              clear h1 h2
              go_wp2_with fail
              refine (HCr.out _ HI5.out.1).mono ?_
              rintro e w6 ⟨rfl, h1, h2⟩
              have HI6 := hide (And.intro h1 (HI5.out.2.trans' h2 (fun y hy => .inl (by rw [List.mem_singleton.1 hy]; simp))))
              clear h1 h2
              go_wp2
              refine loopW_round ?_
              go_wp2_with fail
              refine (HS1x.out _ HI6.out.1.1).mono ?_
              rintro e w7 ⟨rfl, hw⟩
              have HI7 := hide (And.intro (HI6.out.1.keep0 hw) (HI6.out.2.trans hw.toAny))
              clear hw
              go_wp2_with fail
              refine (HA2.out _ HI7.out.1).mono ?_
              rintro e w8 ⟨rfl, h1, h2⟩
              have HI8 := hide (And.intro h1 (HI7.out.2.trans h2))
              clear h1 h2
              go_wp2_with fail
              refine (HCr.out _ HI8.out.1).mono ?_
              rintro e w9 ⟨rfl, h1, h2⟩
              have HI9 := hide (And.intro h1 (HI8.out.2.trans' h2 (fun y hy => .inl (by rw [List.mem_singleton.1 hy]; simp))))
              clear h1 h2
              go_wp2
              refine loopW_round ?_
              go_wp2
              go_roundw
              case rel => exact ⟨x + 1, B2, by omega, by go_num, by first | rfl | (simp only [m1, m2]), hide ⟨HB2.out, HI9.out⟩⟩
              case measure => simp [intOf]; omega
            · obtain ⟨B1, hB1⟩ : ∃ B1, B1 = max B (N1 + 1) := ⟨_, rfl⟩
              obtain ⟨B2, hB2⟩ : ∃ B2, B2 = max B1 N2 := ⟨_, rfl⟩
              have m1 : (if (B : Int) < (N1 : Int) + 1 then (N1 : Int) + 1 else (B : Int)) = (B1 : Int) := by split <;> omega
              have m2 : (if B1 < N2 then (N2 : Int) else (B1 : Int)) = (B2 : Int) := by split <;> omega
              have f1 : IntKind.i64.wrap ((N1 : Int) + 1) = (N1 : Int) + 1 := by rw [IntKind.wrap_i64]; omega
              have HB2 : Hid (B2 = L (x + 1)) := hide (by rw [HN.out]; omega)
              clear hB1 hB2 t1 t2 HN
              go_wp2_with fail
              refine HWx.out.mono ?_
              rintro e w3 ⟨rfl, hw⟩
              have HI3 := hide (And.intro (HI.out.1.keep0 hw) (HI.out.2.trans hw.toAny))
              clear hw
              go_wp2
              refine loopW_start (loopW_round ?_)
              go_wp2_with fail
              refine (HS0x.out _ HI3.out.1.1).mono ?_
              rintro e w4 ⟨rfl, hw⟩
              have HI4 := hide (And.intro (HI3.out.1.keep0 hw) (HI3.out.2.trans hw.toAny))
              clear hw
              go_wp2_with fail
              refine (HA1.out _ HI4.out.1).mono ?_
              rintro e w5 ⟨rfl, h1, h2⟩
              have HI5 := hide (And.intro h1 (HI4.out.2.trans h2))
              clear h1 h2
              go_wp2_with fail
              refine (HCr.out _ HI5.out.1).mono ?_
              rintro e w6 ⟨rfl, h1, h2⟩
              have HI6 := hide (And.intro h1 (HI5.out.2.trans' h2 (fun y hy => .inl (by rw [List.mem_singleton.1 hy]; simp))))
              clear h1 h2
              go_wp2
              refine loopW_round ?_
              go_wp2_with fail
              refine (HS1x.out _ HI6.out.1.1).mono ?_
              rintro e w7 ⟨rfl, hw⟩
              have HI7 := hide (And.intro (HI6.out.1.keep0 hw) (HI6.out.2.trans hw.toAny))
              clear hw
              go_wp2_with fail
              refine (HA2.out _ HI7.out.1).mono ?_
              rintro e w8 ⟨rfl, h1, h2⟩
              have HI8 := hide (And.intro h1 (HI7.out.2.trans h2))
              clear h1 h2
              go_wp2_with fail
              refine (HCr.out _ HI8.out.1).mono ?_
              rintro e w9 ⟨rfl, h1, h2⟩
              have HI9 := hide (And.intro h1 (HI8.out.2.trans' h2 (fun y hy => .inl (by rw [List.mem_singleton.1 hy]; simp))))
              clear h1 h2
              go_wp2
              refine loopW_round ?_
              go_wp2
              go_roundw
              case rel => exact ⟨x + 1, B2, by omega, by go_num, by first | rfl | (simp only [m1, m2]), hide ⟨HB2.out, HI9.out⟩⟩
              case measure => simp [intOf]; omega
      · have d1 : decide ((x : Int) < (p : Int)) = false := by simp; omega
        have hxp : x = p := by omega
        have HVB : Hid (Lr.dimN (cf l) l.length p set = B) := hide (by rw [← HEq.out, HBL.out, hxp])
        obtain ⟨⟨hSc, ⟨fk', hKn, hAk⟩, fd', hKd, hAd⟩, hCh⟩ := HI.out
        obtain ⟨w4, hst, hm4, hc4⟩ := hKn.store (r := set) s65 B
        have hA4 : DimK l p (IM.upd fk' set B) := fun s n hs hn => by
          by_cases e : s = set
          · subst e
            rw [IM.upd_same] at hn
            cases hn
            exact HVB.out.symm
          · rw [IM.upd_other _ _ e] at hn
            exact hAk s n hs hn
        have HH : Hid (WSt w1 Bs bd bk p ao cap l w4 ∧ Chg [bd, bk] w w4) := hide ⟨⟨hSc.keep hc4 HNb.out, ⟨_, hm4, hA4⟩, _, hKd.keep hc4 HNd.out, hAd⟩, hCh.trans' hc4 (fun y hy => .inl (by rw [List.mem_singleton.1 hy]; simp))⟩
        unfold IM.ikV at hst
        clear hSc hKn hAk hCh hm4 hc4 hA4 hxp hKd hAd HI
        go_wp2
        go_ret
        exact ⟨by rw [HVB.out]; rfl, HH.out⟩

theorem worC_all (w1 : World) (Bs bd bk p : Nat) (ao : Option Addr) (cap : Nat) (l : List Int) (hl : okC p l) (nb : bk ≠ bd) (n1 : bk ≠ Bs) (n2 : w1.heap.size ≤ bk) : ∀ F, WorC w1 Bs bd bk p ao cap l F
  | 0 => fun _ _ _ _ h => by omega
  | F + 1 => worC_more w1 Bs bd bk p ao cap l F hl nb n1 n2 (worC_all w1 Bs bd bk p ao cap l hl nb n1 n2 F)
set_option maxRecDepth 100000 in
set_option maxHeartbeats 1000000 in
theorem Worst_good (p : Nat) (v : Value) (l : List Int) (w : World) (hv : See w v l) (hl : okC p l) :
    Calls Try.prog 8 #[.int .i64 (p : Int), v, .bool false] w (Ret (.tuple #[.int .i64 (Lr.dimN (cf l) l.length p (allC l) : Int), .int .i64 0]) w) := by
  have HR := hide (readC_good p v l w hv hl)
  have hmm := @run_makeMap Try.prog
  have HAl := hide fun Bs bd ao cap ws (hs : School w Bs bd p ao cap l ws) => allC_any w Bs bd p ao cap l ws hl hs
  have HAk := hide fun Bs bd bk ao cap (nb : bk ≠ bd) (n1 : bk ≠ Bs) (n2 : w.heap.size ≤ bk) => worC_all w Bs bd bk p ao cap l hl nb n1 n2 (allC l + 1) (allC l)
  obtain ⟨a1, a2⟩ := allC_ok hl
  have HX := hide (And.intro a1 a2)
  rw [show (2 ^ l.length - 1) = allC l from rfl] at HAl
  generalize allC l = al at *
  clear hv hl a1 a2
  go_enter Try.func8, Try.ntmps8
  go_wp2_with fail
  refine HR.out.mono ?_
  rintro e w2 ⟨Bs, bd, ao, cap, rfl, hS, hK⟩
  have HS := hide hS
  have HK := hide hK
  clear hS hK
  go_wp2_with fail
  refine (HAl.out _ _ _ _ _ HS.out).mono ?_
  rintro e w3 ⟨rfl, hw⟩
  have HS3 := hide (HS.out.keep0 hw)
  have HK3 := hide (HK.out.keep hw List.not_mem_nil)
  have hsz := HS3.out.2.2.2.2.2.2.size
  have hlt := HS3.out.1.lt
  have hbd := HS3.out.2.2.2.2.2.1
  clear hw
  go_wp2_with fail
  have hk := IM.KnownM.new w3
  have hcA := (Chg.refl [] w3).alloc (.map #[] 0)
  refine (HAk.out Bs bd w3.heap.size ao cap (by omega) (by omega) hsz _ HX.out.1 HX.out.2 (Nat.lt_succ_self _) ⟨HS3.out.keep0 hcA, ⟨_, hk, fun _ _ _ h => by cases h⟩, _, HK3.out.keep hcA List.not_mem_nil, fun _ _ _ h => by cases h⟩).mono ?_
  rintro e w4 ⟨rfl, h1, _⟩
  have HW := hide h1.1.2.2.2.2.2.2
  clear h1 hk hcA
  go_wp2
  go_ret2
  exact ⟨by rfl, HW.out⟩
end Go.Proofs.Ytpplihpfjniacaa
