/- Walks: classes: dimension. -/
import Derived.Test.YtpplihpfjniacaaLr3
namespace Go.Proofs.Ytpplihpfjniacaa
open Go.RowKit Go.Maps

theorem Lr.dim_top {c : Nat → Nat} {m p s : Nat} (hm : m ≤ 16) (hs : s < 2 ^ m) (h0 : s ≠ 0) : Lr.dimN c m p s ≤ 16 := by
  have h1 := Lr.cnt_dim (c := c) (p := p) hm _ s (Nat.lt_succ_self _) hs h0
  have h2 := Lr.cnt_le s m
  have h3 := Nat.lt_two_pow_self (n := Lr.dimN c m p s)
  omega
def DimK (l : List Int) (p : Nat) (fk : Nat → Option Nat) : Prop := ∀ s n, s < 2 ^ l.length → fk s = some n → n = Lr.dimN (cf l) l.length p s
def DimIs (w1 : World) (Bs bd p : Nat) (ao : Option Addr) (cap : Nat) (l : List Int) (r : Int) (w : World) (e : Ending) (w' : World) : Prop :=
  e = .returned (.int .i64 r) ∧ ∃ fk', School w1 Bs bd p ao cap l w' ∧ IM.KnownM w' bd fk' ∧ DimK l p fk' ∧ Chg [bd] w w'
def DimC (w1 : World) (Bs bd p : Nat) (ao : Option Addr) (cap : Nat) (l : List Int) (F : Nat) : Prop := ∀ (set : Nat) (w : World) (fk : Nat → Option Nat), set < 2 ^ l.length → set ≠ 0 → set < F → School w1 Bs bd p ao cap l w → IM.KnownM w bd fk → DimK l p fk →
  Calls Try.prog 38 #[.pointer (some ⟨Bs, 0, none⟩), .int .i64 (set : Int)] w (DimIs w1 Bs bd p ao cap l (Lr.dimN (cf l) l.length p set : Int) w)
def d2V (l : List Int) (p set x : Nat) : Int := if andnN set (Lr.withN (cf l) l.length set x) ≠ 0 ∧ Lr.withN (cf l) l.length set x ≠ 0 then ((min (Lr.dimN (cf l) l.length p (andnN set (Lr.withN (cf l) l.length set x))) (Lr.dimN (cf l) l.length p (Lr.withN (cf l) l.length set x)) : Nat) : Int) else -1
set_option maxRecDepth 100000 in
set_option maxHeartbeats 2000000 in
theorem dim2_any (w1 : World) (Bs bd p : Nat) (ao : Option Addr) (cap : Nat) (l : List Int) (set x : Nat) (w : World) (fk : Nat → Option Nat) (hl : okC p l) (IH : DimC w1 Bs bd p ao cap l set) (hset : set < 2 ^ l.length) (hx : x < p) (hS : School w1 Bs bd p ao cap l w) (hK : IM.KnownM w bd fk) (hD : DimK l p fk) :
    Calls Try.prog 59 #[.pointer (some ⟨Bs, 0, none⟩), .int .i64 (set : Int), .int .i64 (x : Int)] w (DimIs w1 Bs bd p ao cap l (d2V l p set x) w) := by
  have h16 := hl.2.2.2.1
  have pm : (2 : Nat) ^ l.length ≤ 2 ^ 16 := Nat.pow_le_pow_right (by decide) h16
  have s65 : set < 65536 := by omega
  have H0 := hide fun ws (h : School w1 Bs bd p ao cap l ws) => said0_any w1 Bs bd p ao cap l set x ws hl s65 hx h
  have H1 := hide fun ws (h : School w1 Bs bd p ao cap l ws) => said1_any w1 Bs bd p ao cap l set x ws hl s65 hx h
  have hwl := Lr.with_le (cf l) l.length set x
  have hal := andnN_le set (Lr.withN (cf l) l.length set x)
  have HLr := hide fun (h : Lr.withN (cf l) l.length set x ≠ 0) => Lr.rest_lt (c := cf l) h16 hset h
  have HLq := hide (Lr.rest_zero (c := cf l) (x := x) h16 hset)
  have HD2 : Hid (d2V l p set x = if andnN set (Lr.withN (cf l) l.length set x) ≠ 0 ∧ Lr.withN (cf l) l.length set x ≠ 0 then ((min (Lr.dimN (cf l) l.length p (andnN set (Lr.withN (cf l) l.length set x))) (Lr.dimN (cf l) l.length p (Lr.withN (cf l) l.length set x)) : Nat) : Int) else -1) := hide rfl
  have HS := hide hS
  have HK := hide hK
  have HD := hide hD
  have HIH := hide IH
  generalize d2V l p set x = R at *
  generalize Lr.withN (cf l) l.length set x = b at *
  generalize andnN set b = a at *
  clear hS hK hD IH hl
  by_cases ha : a = 0
  · have e1 : ((a : Int) == 0) = true := by simp [ha]
    have HR : Hid (R = -1) := hide (by rw [HD2.out, if_neg (fun h => h.1 ha)])
    clear ha
    go_enter Try.func59, Try.ntmps59
    go_wp2_with fail
    refine (H0.out _ HS.out).mono ?_
    rintro e w2 ⟨rfl, hw⟩
    have HS2 := hide (HS.out.keep0 hw)
    have HW2 := hide hw
    clear hw
    go_wp2_with fail
    refine (H1.out _ HS2.out).mono ?_
    rintro e w3 ⟨rfl, hw⟩
    have HW3 := hide (HW2.out.trans hw)
    clear hw
    go_wp2
    go_ret
    exact ⟨by rw [HR.out]; rfl, fk, HS.out.keep0 HW3.out, HK.out.keep HW3.out List.not_mem_nil, HD.out, HW3.out.toAny⟩
  · have e1 : ((a : Int) == 0) = false := by simp [ha]
    by_cases hb : b = 0
    · have e2 : ((b : Int) == 0) = true := by simp [hb]
      have HR : Hid (R = -1) := hide (by rw [HD2.out, if_neg (fun h => h.2 hb)])
      clear ha hb
      go_enter Try.func59, Try.ntmps59
      go_wp2_with fail
      refine (H0.out _ HS.out).mono ?_
      rintro e w2 ⟨rfl, hw⟩
      have HS2 := hide (HS.out.keep0 hw)
      have HW2 := hide hw
      clear hw
      go_wp2_with fail
      refine (H1.out _ HS2.out).mono ?_
      rintro e w3 ⟨rfl, hw⟩
      have HW3 := hide (HW2.out.trans hw)
      clear hw
      go_wp2
      go_ret
      exact ⟨by rw [HR.out]; rfl, fk, HS.out.keep0 HW3.out, HK.out.keep HW3.out List.not_mem_nil, HD.out, HW3.out.toAny⟩
    · have e2 : ((b : Int) == 0) = false := by simp [hb]
      have hlt1 := HLr.out hb
      have hlt2 : b < set := Nat.lt_of_le_of_ne hwl fun e => ha (HLq.out.2 e)
      have HA1 := hide fun ws fk1 h1 h2 h3 => HIH.out a ws fk1 (by omega) ha hlt1 h1 h2 h3
      have HA2 := hide fun ws fk1 h1 h2 h3 => HIH.out b ws fk1 (by omega) hb hlt2 h1 h2 h3
      have HR : Hid (R = ((min (Lr.dimN (cf l) l.length p a) (Lr.dimN (cf l) l.length p b) : Nat) : Int)) := hide (by rw [HD2.out, if_pos ⟨ha, hb⟩])
      generalize Lr.dimN (cf l) l.length p a = N1 at *
      generalize Lr.dimN (cf l) l.length p b = N2 at *
      have hMn : (if (N2 : Int) < (N1 : Int) then (N2 : Int) else (N1 : Int)) = ((min N1 N2 : Nat) : Int) := by split <;> omega
      have hMn' : (if N2 < N1 then (N2 : Int) else (N1 : Int)) = ((min N1 N2 : Nat) : Int) := by split <;> omega
      obtain ⟨M, hM⟩ : ∃ M, M = min N1 N2 := ⟨_, rfl⟩
      rw [← hM] at hMn hMn' HR
      clear ha hb hM
      unfold DimIs at HA1 HA2
      go_enter Try.func59, Try.ntmps59
      go_wp2_with fail
      refine (H0.out _ HS.out).mono ?_
      rintro e w2 ⟨rfl, hw⟩
      have HS2 := hide (HS.out.keep0 hw)
      have HW2 := hide hw
      clear hw
      go_wp2_with fail
      refine (H1.out _ HS2.out).mono ?_
      rintro e w3 ⟨rfl, hw⟩
      have HW3 := hide (HW2.out.trans hw)
      clear hw
      go_wp2_with fail
      refine (HA1.out _ _ (HS.out.keep0 HW3.out) (HK.out.keep HW3.out List.not_mem_nil) HD.out).mono ?_
      rintro e w4 ⟨rfl, fk4, h1, h2, h3, h4⟩
      have HH4 := hide (And.intro h1 (And.intro h2 (And.intro h3 (HW3.out.toAny.trans h4))))
      clear h1 h2 h3 h4
      go_wp2_with fail
      refine (HA2.out _ _ HH4.out.1 HH4.out.2.1 HH4.out.2.2.1).mono ?_
      rintro e w5 ⟨rfl, fk5, h1, h2, h3, h4⟩
      have HH5 := hide (And.intro h1 (And.intro h2 (And.intro h3 (HH4.out.2.2.2.trans h4))))
      clear h1 h2 h3 h4
      go_wp2
      go_ret
      exact ⟨by rw [HR.out]; rfl, fk5, HH5.out⟩

set_option maxRecDepth 100000 in
set_option maxHeartbeats 4000000 in
theorem dimC_more (w1 : World) (Bs bd p : Nat) (ao : Option Addr) (cap : Nat) (l : List Int) (F : Nat) (hl : okC p l) (IH : DimC w1 Bs bd p ao cap l F) : DimC w1 Bs bd p ao cap l (F + 1) := by
  intro set w fk hset h0 hF hS hK hD
  have h16 := hl.2.2.2.1
  have hp5 := hl.2.1
  have pm : (2 : Nat) ^ l.length ≤ 2 ^ 16 := Nat.pow_le_pow_right (by decide) h16
  have s65 : set < 65536 := by omega
  have hIH : DimC w1 Bs bd p ao cap l set := fun s w fk h1 h2 h3 => IH s w fk h1 h2 (by omega)
  have HD2 := hide fun x ws fk1 (hx : x < p) (h1 : School w1 Bs bd p ao cap l ws) (h2 : IM.KnownM ws bd fk1) (h3 : DimK l p fk1) => dim2_any w1 Bs bd p ao cap l set x ws fk1 hl hIH hset hx h1 h2 h3
  unfold DimIs at HD2 ⊢
  have HNb := hide (show ∀ x ∈ [bd], x ≠ Bs ∧ w1.heap.size ≤ x from fun x hx => by rw [List.mem_singleton.1 hx]; exact ⟨fun e => hS.2.2.2.2.1 e.symm, hS.2.2.2.1⟩)
  have HEq := hide (Lr.dimN_eq (c := cf l) (p := p) h16 hset)
  have HLs : Hid (∀ x, (Lr.bestD (cf l) l.length (Lr.dimN (cf l) l.length p) set (x + 1) : Int) = if (Lr.bestD (cf l) l.length (Lr.dimN (cf l) l.length p) set x : Int) < 1 + d2V l p set x then 1 + d2V l p set x else (Lr.bestD (cf l) l.length (Lr.dimN (cf l) l.length p) set x : Int)) := hide fun x => by
    unfold d2V
    rw [Lr.bestD]
    split
    · split <;> omega
    · rw [if_neg (by omega)]
  have HLz : Hid (Lr.bestD (cf l) l.length (Lr.dimN (cf l) l.length p) set 0 = 0) := hide rfl
  have HDb : Hid (∀ x, -1 ≤ d2V l p set x ∧ (x < p → 1 + d2V l p set x ≤ 100)) := hide fun x => by
    have h1 : Lr.withN (cf l) l.length set x ≠ 0 → Lr.dimN (cf l) l.length p (Lr.withN (cf l) l.length set x) ≤ 16 := fun h => Lr.dim_top h16 (Nat.lt_of_le_of_lt (Lr.with_le _ _ _ _) hset) h
    unfold d2V
    split
    · rename_i h
      have := h1 h.2
      omega
    · omega
  generalize Lr.bestD (cf l) l.length (Lr.dimN (cf l) l.length p) set = L at *
  generalize d2V l p set = d2 at *
  have HS := hide hS
  have HK := hide hK
  have HD := hide hD
  have HSt := hide hset
  have e0 : ((set : Int) == 0) = false := by simp [h0]
  have hrun := hK.look (r := set) s65
  unfold IM.ikV at hrun
  have c0 := hS.1.cell 0
  have c2 := hS.1.cell 2
  have lb := hS.1.lt
  simp only [List.getElem?_toArray, List.getElem?_cons_zero, List.getElem?_cons_succ] at c0 c2
  clear hS hK hD IH hIH hset h0 hF hl
  cases hfk : fk set with
  | some n =>
    have HE := hide (HD.out set n HSt.out hfk)
    rw [hfk] at hrun
    simp only [Option.getD_some, Option.isSome_some] at hrun
    clear hfk
    go_enter Try.func38, Try.ntmps38
    go_wp2
    go_ret
    exact ⟨by rw [← HE.out]; rfl, fk, HS.out, HK.out, HD.out, Chg.refl _ _⟩
  | none =>
    rw [hfk] at hrun
    simp only [Option.getD_none, Option.isSome_none] at hrun
    clear hfk
    go_enter Try.func38, Try.ntmps38
    go_wp2
    clear hrun c0 c2 lb
    go_loopw [26, 7] (fun xv bv wr => ∃ x B : Nat, x ≤ p ∧ xv = .int .i64 (x : Int) ∧ bv = .int .i64 (B : Int) ∧ Hid (B = L x ∧ ∃ fk', School w1 Bs bd p ao cap l wr ∧ IM.KnownM wr bd fk' ∧ DimK l p fk' ∧ Chg [bd] w wr)) (fun xv _ _ => p - (intOf xv).toNat)
    case atStart => exact ⟨0, 0, Nat.zero_le _, rfl, rfl, hide ⟨HLz.out.symm, fk, HS.out, HK.out, HD.out, Chg.refl _ _⟩⟩
    case round =>
      obtain ⟨x, B, hx, rfl, rfl, hI⟩ := hrel
      have HBL := hide hI.out.1
      obtain ⟨fk', hSc, hKn, hAk, hCh⟩ := hI.out.2
      by_cases hlt : x < p
      · have d1 : decide ((x : Int) < (p : Int)) = true := by simp; omega
        have HL1 := hide (HLs.out x)
        have HDx := hide (HD2.out x wr fk' hlt hSc hKn hAk)
        have hdb := HDb.out x
        have HC := hide hCh
        rw [← HBL.out] at HL1
        generalize d2 x = d at *
        have hwr : IntKind.i64.wrap (1 + d) = 1 + d := by rw [IntKind.wrap_i64]; omega
        obtain ⟨B', hB'⟩ : ∃ B' : Nat, (if (B : Int) < 1 + d then 1 + d else (B : Int)) = (B' : Int) := ⟨L (x + 1), HL1.out.symm⟩
        have HN : Hid (B' = L (x + 1)) := hide (by have := HL1.out; omega)
        clear hSc hKn hAk hCh hI hdb
        go_wp2_with fail
        refine HDx.out.mono ?_
        rintro e w3 ⟨rfl, fk3, h1, h2, h3, h4⟩
        have HI3 := hide (And.intro h1 (And.intro h2 (And.intro h3 (HC.out.trans h4))))
        clear h1 h2 h3 h4
        go_wp2
        go_roundw
        case rel => exact ⟨x + 1, B', by omega, by go_num, by first | rfl | rw [hB'] | (simp only [hB']), hide ⟨HN.out, fk3, HI3.out⟩⟩
        case measure => simp [intOf]; omega
      · have d1 : decide ((x : Int) < (p : Int)) = false := by simp; omega
        have hxp : x = p := by omega
        have HVB : Hid (Lr.dimN (cf l) l.length p set = B) := hide (by rw [HEq.out, HBL.out, hxp])
        obtain ⟨w4, hst, hm4, hc4⟩ := hKn.store (r := set) s65 B
        have hA4 : DimK l p (IM.upd fk' set B) := fun s n hs hn => by
          by_cases e : s = set
          · subst e
            rw [IM.upd_same] at hn
            cases hn
            exact HVB.out.symm
          · rw [IM.upd_other _ _ e] at hn
            exact hAk s n hs hn
        have HH := hide (And.intro (hSc.keep hc4 HNb.out) (And.intro hm4 (And.intro hA4 (hCh.trans hc4))))
        have c2 := hSc.1.cell 2
        have lb := hSc.1.lt
        simp only [List.getElem?_toArray, List.getElem?_cons_zero, List.getElem?_cons_succ] at c2
        unfold IM.ikV at hst
        clear hSc hKn hAk hCh hm4 hc4 hA4 hxp hI
        go_wp2
        go_ret
        exact ⟨by rw [HVB.out]; rfl, _, HH.out⟩

theorem dimC_all (w1 : World) (Bs bd p : Nat) (ao : Option Addr) (cap : Nat) (l : List Int) (hl : okC p l) : ∀ F, DimC w1 Bs bd p ao cap l F
  | 0 => fun _ _ _ _ _ h => by omega
  | F + 1 => dimC_more w1 Bs bd p ao cap l F hl (dimC_all w1 Bs bd p ao cap l hl F)
end Go.Proofs.Ytpplihpfjniacaa
