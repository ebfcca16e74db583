/- Walks: classes: ask. -/
import Derived.Test.YtpplihpfjniacaaLr2
namespace Go.Proofs.Ytpplihpfjniacaa
open Go.RowKit Go.Maps

theorem Lr.cnt_more {s m : Nat} (hs : s < 2 ^ m) : ∀ d, Lr.cnt s (m + d) = Lr.cnt s m
  | 0 => rfl
  | d + 1 => by
    show Lr.cnt s (m + d + 1) = _
    rw [Lr.cnt, Lr.cnt_more hs d, Nat.testBit_lt_two_pow (Nat.lt_of_lt_of_le hs (Nat.pow_le_pow_right (by decide) (by omega)))]
    rfl
theorem Lr.cnt16 {s m : Nat} (hm : m ≤ 16) (hs : s < 2 ^ m) : Lr.cnt s 16 = Lr.cnt s m := by
  have := Lr.cnt_more hs (16 - m)
  rwa [show m + (16 - m) = 16 by omega] at this
def AskK (l : List Int) (p : Nat) (fk : Nat → Option Nat) : Prop := ∀ s n, s < 2 ^ l.length → fk s = some n → n = Lr.askN (cf l) l.length p s
def AskC (w1 : World) (Bs bd p : Nat) (ao : Option Addr) (cap : Nat) (l : List Int) (bk F : Nat) : Prop := ∀ (set : Nat) (w : World) (fk : Nat → Option Nat), set < 2 ^ l.length → set ≠ 0 → set < F → School w1 Bs bd p ao cap l w → IM.KnownM w bk fk → AskK l p fk →
  Calls Try.prog 16 #[.pointer (some ⟨Bs, 0, none⟩), .int .i64 (set : Int), .map (some bk)] w fun e w' => e = .returned (.int .i64 (Lr.askN (cf l) l.length p set : Int)) ∧ ∃ fk', School w1 Bs bd p ao cap l w' ∧ IM.KnownM w' bk fk' ∧ AskK l p fk' ∧ Chg [bk] w w'
set_option maxRecDepth 100000 in
set_option maxHeartbeats 4000000 in
theorem askC_more (w1 : World) (Bs bd p : Nat) (ao : Option Addr) (cap : Nat) (l : List Int) (bk F : Nat) (hl : okC p l) (n1 : bk ≠ Bs) (n2 : w1.heap.size ≤ bk) (IH : AskC w1 Bs bd p ao cap l bk F) : AskC w1 Bs bd p ao cap l bk (F + 1) := by
  intro set w fk hset h0 hF hS hK hA
  have h16 := hl.2.2.2.1
  have hp5 := hl.2.1
  have pm : (2 : Nat) ^ l.length ≤ 2 ^ 16 := Nat.pow_le_pow_right (by decide) h16
  have s65 : set < 65536 := by omega
  have HIH := hide IH
  have HC := hide (count_any set w (by omega))
  rw [Lr.cnt16 h16 hset] at HC
  have HWi := hide fun x ws (hx : x < p) (hs : School w1 Bs bd p ao cap l ws) => with_any w1 Bs bd p ao cap l set x ws hl (by omega) hx hs
  have HS := hide hS
  have HK := hide hK
  have HA := hide hA
  have HSt := hide hset
  have HNb := hide (show ∀ x ∈ [bk], x ≠ Bs ∧ w1.heap.size ≤ x from fun x hx => by rw [List.mem_singleton.1 hx]; exact ⟨n1, n2⟩)
  have HEq := hide (Lr.askN_eq (c := cf l) (p := p) h16 hset)
  have HLt := hide fun x => Lr.bestA_le (cf l) l.length p (Lr.askN (cf l) l.length p) set x
  have HLs : Hid (∀ x, Lr.bestA (cf l) l.length p (Lr.askN (cf l) l.length p) set (x + 1) = if Lr.withN (cf l) l.length set x ≠ 0 ∧ Lr.withN (cf l) l.length set x ≠ set then min (Lr.bestA (cf l) l.length p (Lr.askN (cf l) l.length p) set x) (1 + max (Lr.askN (cf l) l.length p (Lr.withN (cf l) l.length set x)) (Lr.askN (cf l) l.length p (andnN set (Lr.withN (cf l) l.length set x)))) else Lr.bestA (cf l) l.length p (Lr.askN (cf l) l.length p) set x) := hide fun x => rfl
  have HLz : Hid (Lr.bestA (cf l) l.length p (Lr.askN (cf l) l.length p) set 0 = p) := hide rfl
  have HLw := hide fun x => Lr.with_le (cf l) l.length set x
  have HLr := hide fun x (h : Lr.withN (cf l) l.length set x ≠ 0) => Lr.rest_lt (c := cf l) h16 hset h
  have HLq := hide fun x => Lr.rest_zero (c := cf l) (x := x) h16 hset
  have HLa := hide fun s (hs : s < 2 ^ l.length) => Lr.askN_le (c := cf l) (p := p) h16 hs
  generalize Lr.bestA (cf l) l.length p (Lr.askN (cf l) l.length p) set = L at *
  generalize hwn : Lr.withN (cf l) l.length set = wn at *
  clear IH hS hK hA hl n1 n2 hset hwn
  by_cases hc1 : Lr.cnt set l.length = 1
  · have HV : Hid (Lr.askN (cf l) l.length p set = 0) := hide (by rw [HEq.out, if_pos hc1])
    rw [hc1] at HC
    clear hc1
    go_enter Try.func16, Try.ntmps16
    go_wp2_with fail
    refine HC.out.mono ?_
    rintro e w2 ⟨rfl, hw⟩
    have HS2 := hide (HS.out.keep0 hw)
    have HK2 := hide (HK.out.keep hw List.not_mem_nil)
    have HW := hide hw
    clear hw
    go_wp2
    go_ret
    exact ⟨by rw [HV.out]; rfl, fk, HS2.out, HK2.out, HA.out, HW.out.toAny⟩
  · have hcb : ((Lr.cnt set l.length : Int) == 1) = false := by simp; omega
    have HV : Hid (Lr.askN (cf l) l.length p set = L p) := hide (by rw [HEq.out, if_neg hc1])
    generalize Lr.cnt set l.length = cn at *
    clear hc1
    go_enter Try.func16, Try.ntmps16
    go_wp2_with fail
    refine HC.out.mono ?_
    rintro e w2 ⟨rfl, hw⟩
    have HS2 := hide (HS.out.keep0 hw)
    have HK2 := hide (HK.out.keep hw List.not_mem_nil)
    have HW := hide hw
    have hrun := HK2.out.look (r := set) s65
    unfold IM.ikV at hrun
    have c0 := HS2.out.1.cell 0
    have lb := HS2.out.1.lt
    simp only [List.getElem?_toArray, List.getElem?_cons_zero] at c0
    clear hw
    cases hfk : fk set with
    | some n =>
      have HE := hide (HA.out set n HSt.out hfk)
      rw [hfk] at hrun
      simp only [Option.getD_some, Option.isSome_some] at hrun
      clear hfk
      go_wp2
      go_ret
      exact ⟨by rw [← HE.out]; rfl, fk, HS2.out, HK2.out, HA.out, HW.out.toAny⟩
    | none =>
      rw [hfk] at hrun
      simp only [Option.getD_none, Option.isSome_none] at hrun
      clear hfk
      go_wp2
      clear hrun c0 lb
      go_loopw [31, 9] (fun xv bv wr => ∃ x B : Nat, x ≤ p ∧ B ≤ p ∧ xv = .int .i64 (x : Int) ∧ bv = .int .i64 (B : Int) ∧ Hid (B = L x ∧ ∃ fk', School w1 Bs bd p ao cap l wr ∧ IM.KnownM wr bk fk' ∧ AskK l p fk' ∧ Chg [bk] w2 wr)) (fun xv _ _ => p - (intOf xv).toNat)
      case atStart => exact ⟨0, p, Nat.zero_le _, Nat.le_refl _, rfl, rfl, hide ⟨HLz.out.symm, fk, HS2.out, HK2.out, HA.out, Chg.refl _ _⟩⟩
      case round =>
        obtain ⟨x, B, hx, hBp, rfl, rfl, hI⟩ := hrel
        have HBL := hide hI.out.1
        have HI := hide hI.out.2
        clear hI
        by_cases hlt : x < p
        · have d1 : decide ((x : Int) < (p : Int)) = true := by simp; omega
          have HL1 := hide (HLs.out x)
          have hwl := HLw.out x
          have HLr1 := hide (HLr.out x)
          have HLq1 := hide (HLq.out x)
          obtain ⟨fk', hSc, hKn, hAk, hCh⟩ := HI.out
          have HWx := hide (HWi.out x wr hlt hSc)
          have HSc := hide hSc
          have HKn := hide hKn
          have HAk := hide hAk
          have HCh := hide hCh
          generalize wn x = part at *
          clear hSc hKn hAk hCh
          by_cases hp0 : part = 0
          · have e1 : ((part : Int) != 0) = false := by simp [hp0]
            have HN : Hid (L (x + 1) = L x) := hide (by rw [HL1.out, if_neg (fun h => h.1 hp0)])
            clear hp0
            go_wp2_with fail
            refine HWx.out.mono ?_
            rintro e w3 ⟨rfl, hw⟩
            have HI3 := hide (And.intro (HSc.out.keep0 hw) (And.intro (HKn.out.keep hw List.not_mem_nil) (And.intro HAk.out (HCh.out.trans hw.toAny))))
            clear hw
            go_wp2
            go_roundw
            case rel => exact ⟨x + 1, B, by omega, hBp, by go_num, rfl, hide ⟨by rw [HN.out]; exact HBL.out, fk', HI3.out⟩⟩
            case measure => simp [intOf]; omega
          · have e1 : ((part : Int) != 0) = true := by simp; omega
            by_cases hps : part = set
            · have e2 : ((part : Int) != (set : Int)) = false := by simp [hps]
              have HN : Hid (L (x + 1) = L x) := hide (by rw [HL1.out, if_neg (fun h => h.2 hps)])
              clear hp0 hps
              go_wp2_with fail
              refine HWx.out.mono ?_
              rintro e w3 ⟨rfl, hw⟩
              have HI3 := hide (And.intro (HSc.out.keep0 hw) (And.intro (HKn.out.keep hw List.not_mem_nil) (And.intro HAk.out (HCh.out.trans hw.toAny))))
              clear hw
              go_wp2
              go_roundw
              case rel => exact ⟨x + 1, B, by omega, hBp, by go_num, rfl, hide ⟨by rw [HN.out]; exact HBL.out, fk', HI3.out⟩⟩
              case measure => simp [intOf]; omega
            · have e2 : ((part : Int) != (set : Int)) = true := by simp; omega
              have hrl := HLr1.out hp0
              have hr0 : andnN set part ≠ 0 := fun h => hps (HLq1.out.1 h)
              have ean := and_not s65 (show part < 65536 by omega)
              have HN : Hid (L (x + 1) = min (L x) (1 + max (Lr.askN (cf l) l.length p part) (Lr.askN (cf l) l.length p (andnN set part)))) := hide (by rw [HL1.out, if_pos ⟨hp0, hps⟩])
              have HA1 := hide fun ws fk1 (h1 : School w1 Bs bd p ao cap l ws) (h2 : IM.KnownM ws bk fk1) (h3 : AskK l p fk1) => HIH.out part ws fk1 (Nat.lt_of_le_of_lt hwl HSt.out) hp0 (by omega) h1 h2 h3
              have HA2 := hide fun ws fk1 (h1 : School w1 Bs bd p ao cap l ws) (h2 : IM.KnownM ws bk fk1) (h3 : AskK l p fk1) => HIH.out (andnN set part) ws fk1 (Nat.lt_trans hrl HSt.out) hr0 (by omega) h1 h2 h3
              have t1 := HLa.out part (Nat.lt_of_le_of_lt hwl HSt.out)
              have t2 := HLa.out (andnN set part) (Nat.lt_trans hrl HSt.out)
              generalize andnN set part = rest at *
              generalize Lr.askN (cf l) l.length p part = N1 at *
              generalize Lr.askN (cf l) l.length p rest = N2 at *
              have hMx : (if N1 < N2 then (N2 : Int) else (N1 : Int)) = ((max N1 N2 : Nat) : Int) := by split <;> omega
              obtain ⟨M, hM⟩ : ∃ M, M = max N1 N2 := ⟨_, rfl⟩
              rw [← hM] at hMx HN
              have hMp : M ≤ p := by omega
              have hMn : (if 1 + (M : Int) < (B : Int) then 1 + (M : Int) else (B : Int)) = ((min B (1 + M) : Nat) : Int) := by split <;> omega
              have hwr : IntKind.i64.wrap (1 + (M : Int)) = 1 + (M : Int) := by rw [IntKind.wrap_i64]; omega
              clear hp0 hps hM t1 t2 hrl hr0
              go_wp2_with fail
              refine HWx.out.mono ?_
              rintro e w3 ⟨rfl, hw⟩
              have HS3 := hide (HSc.out.keep0 hw)
              have HK3 := hide (HKn.out.keep hw List.not_mem_nil)
              have HC3 := hide (HCh.out.trans hw.toAny)
              clear hw
              go_wp2_with fail
              refine (HA1.out _ _ HS3.out HK3.out HAk.out).mono ?_
              rintro e w4 ⟨rfl, fk4, h1, h2, h3, h4⟩
              have HS4 := hide h1
              have HK4 := hide h2
              have HA4 := hide h3
              have HC4 := hide (HC3.out.trans h4)
              clear h1 h2 h3 h4
              go_wp2_with fail
              refine (HA2.out _ _ HS4.out HK4.out HA4.out).mono ?_
              rintro e w5 ⟨rfl, fk5, h1, h2, h3, h4⟩
              have HI5 := hide (And.intro h1 (And.intro h2 (And.intro h3 (HC4.out.trans h4))))
              clear h1 h2 h3 h4
              go_wp2
              go_roundw
              case rel => exact ⟨x + 1, min B (1 + M), by omega, by omega, by go_num, rfl, hide ⟨by rw [HN.out, HBL.out], fk5, HI5.out⟩⟩
              case measure => simp [intOf]; omega
        · have d1 : decide ((x : Int) < (p : Int)) = false := by simp; omega
          have hxp : x = p := by omega
          have HVB : Hid (Lr.askN (cf l) l.length p set = B) := hide (by rw [HV.out, HBL.out, hxp])
          obtain ⟨fk', hSc, hKn, hAk, hCh⟩ := HI.out
          obtain ⟨w4, hst, hm4, hc4⟩ := hKn.store (r := set) s65 B
          have hA4 : AskK l p (IM.upd fk' set B) := fun s n hs hn => by
            by_cases e : s = set
            · subst e
              rw [IM.upd_same] at hn
              cases hn
              exact HVB.out.symm
            · rw [IM.upd_other _ _ e] at hn
              exact hAk s n hs hn
          have HH := hide (And.intro (hSc.keep hc4 HNb.out) (And.intro hm4 (And.intro hA4 ((HW.out.toAny.trans hCh).trans hc4))))
          unfold IM.ikV at hst
          clear hSc hKn hAk hCh hm4 hc4 hA4 hxp
          go_wp2
          go_ret
          exact ⟨by rw [HVB.out]; rfl, _, HH.out⟩

theorem askC_all (w1 : World) (Bs bd p : Nat) (ao : Option Addr) (cap : Nat) (l : List Int) (bk : Nat) (hl : okC p l) (n1 : bk ≠ Bs) (n2 : w1.heap.size ≤ bk) : ∀ F, AskC w1 Bs bd p ao cap l bk F
  | 0 => fun _ _ _ _ _ h => by omega
  | F + 1 => askC_more w1 Bs bd p ao cap l bk F hl n1 n2 (askC_all w1 Bs bd p ao cap l bk hl n1 n2 F)
/-- All concepts. -/
def allC (l : List Int) : Nat := 2 ^ l.length - 1
theorem allC_ok {p : Nat} {l : List Int} (hl : okC p l) : allC l < 2 ^ l.length ∧ allC l ≠ 0 := by
  have h1 := hl.2.2.1
  have : (2 : Nat) ^ 1 ≤ 2 ^ l.length := Nat.pow_le_pow_right (by decide) h1
  unfold allC
  omega
set_option maxRecDepth 100000 in
set_option maxHeartbeats 1000000 in
theorem LAsk_good (p : Nat) (v : Value) (l : List Int) (w : World) (hv : See w v l) (hl : okC p l) :
    Calls Try.prog 5 #[.int .i64 (p : Int), v] w (Ret (.tuple #[.int .i64 (Lr.askN (cf l) l.length p (allC l) : Int), .int .i64 0]) w) := by
  have HR := hide (readC_good p v l w hv hl)
  have hmm := @run_makeMap Try.prog
  have HAl := hide fun Bs bd ao cap ws (hs : School w Bs bd p ao cap l ws) => allC_any w Bs bd p ao cap l ws hl hs
  have HAk := hide fun Bs bd ao cap bk (n1 : bk ≠ Bs) (n2 : w.heap.size ≤ bk) => askC_all w Bs bd p ao cap l bk hl n1 n2 (allC l + 1) (allC l)
  obtain ⟨a1, a2⟩ := allC_ok hl
  have HX := hide (And.intro a1 a2)
  rw [show (2 ^ l.length - 1) = allC l from rfl] at HAl
  generalize allC l = al at *
  clear hv hl a1 a2
  go_enter Try.func5, Try.ntmps5
  go_wp2_with fail
  refine HR.out.mono ?_
  rintro e w2 ⟨Bs, bd, ao, cap, rfl, hS, hK⟩
  have HS := hide hS
  clear hS hK
  go_wp2_with fail
  refine (HAl.out _ _ _ _ _ HS.out).mono ?_
  rintro e w3 ⟨rfl, hw⟩
  have HS3 := hide (HS.out.keep0 hw)
  have hsz := HS3.out.2.2.2.2.2.2.size
  have hlt := HS3.out.1.lt
  clear hw
  go_wp2_with fail
  have hk := IM.KnownM.new w3
  refine (HAk.out Bs bd ao cap w3.heap.size (by omega) hsz _ _ HX.out.1 HX.out.2 (Nat.lt_succ_self _) (HS3.out.keep0 ((Chg.refl [] w3).alloc (.map #[] 0))) hk (fun _ _ _ h => by cases h)).mono ?_
  rintro e w4 ⟨rfl, fk, h1, _⟩
  have HW := hide h1.2.2.2.2.2.2
  clear h1 hk
  go_wp2
  go_ret2
  exact ⟨by rfl, HW.out⟩
end Go.Proofs.Ytpplihpfjniacaa
