/- Walk: the statement TopQuestions. -/
import Derived.Test.YtpplihpfjniacaaDoorTq1
import Derived.Test.YtpplihpfjniacaaDoorLen3
namespace Go.Proofs.YtpplihpfjniacaaDoor
open Go.RowKit

theorem see_take {w : World} {a : Addr} {n cap k : Nat} {xs : List Int} (h : See w (.slice (some a) n cap) xs) (hn : n = xs.length) (hk : k ≤ n) : See w (.slice (some a) k cap) (xs.take k) := by
  subst hn
  by_cases h0 : xs = []
  · subst h0
    simp at hk
    subst hk
    exact .inl ⟨rfl, _, _, rfl⟩
  obtain ⟨ao, cap', e, hle, hA⟩ := h.len
  obtain ⟨rfl, _, rfl⟩ : some a = ao ∧ xs.length = xs.length ∧ cap = cap' := by simpa using e
  obtain ⟨a', e', hb, hc⟩ := hA h0
  cases e'
  have hlen : (xs.take k).length = k := by rw [List.length_take]; omega
  refine .inr ⟨a, cap, by rw [hlen], by rw [hlen]; omega, hb, fun i hi => ?_⟩
  rw [hlen] at hi
  rw [hc i (by omega), List.getD_eq_getElem?_getD, List.getD_eq_getElem?_getD, List.getElem?_take, if_pos hi]
theorem see_first {w : World} {ao : Option Addr} {n m cap : Nat} {l : List Int} (h : See w (.slice ao n cap) l) (hn : n = l.length) (hm : m = min n 70) : See w (.slice ao m cap) (l.take 70) := by
  have e : l.take 70 = l.take m := by
    by_cases h70 : l.length ≤ 70
    · rw [List.take_of_length_le h70, List.take_of_length_le (by omega)]
    · rw [show m = 70 by omega]
  rw [e]
  cases ao with
  | some a => exact see_take h hn (by omega)
  | none =>
    rcases h with ⟨rfl, _, _, _⟩ | ⟨a, cap', e, _⟩
    · simp at hn
      obtain rfl : m = 0 := by omega
      exact .inl ⟨rfl, _, _, rfl⟩
    · simp at e
theorem ok_take (l : List Int) : okR 4 (l.take 70) = okR 4 l := by
  by_cases h : l.length ≤ 70
  · rw [List.take_of_length_le h]
  · have h1 : okR 4 l = false := by unfold okR; rw [decide_eq_false (by omega)]; rfl
    have h2 : okR 4 (l.take 70) = false := by unfold okR; rw [decide_eq_false (by rw [List.length_take]; omega)]; rfl
    rw [h1, h2]
/-- Whether a set is in a family, as a function. -/
def inF (l : List Int) (s : Nat) : Bool := (Fam.setOf l).testBit s
theorem inF_iff {l : List Int} (h : okR 4 l = true) (s : Nat) : inF l s = decide ((s : Int) ∈ l) := by
  unfold okR Fam.readB at h
  rw [Bool.and_eq_true, Bool.and_eq_true, Bool.and_eq_true] at h
  unfold inF
  rw [Bool.eq_iff_iff, decide_eq_true_eq]
  exact Fam.mem_setOf h.2.1.1
/-- A row of the table, up to an element. -/
def rowT (h : Nat → Bool) (r k : Nat) (c : Nat) : Int := if c < k ∧ h (r ||| c <<< 2) = true then 1 else 0
theorem row_famT (h : Nat → Bool) {r : Nat} (hr : r < 4) : (List.range 4).map (rowT h r 4) = (famT h).getD r [] := by
  unfold famT rowT
  rw [List.getD_eq_getElem?_getD, List.getElem?_map, List.getElem?_range hr, Option.map_some, Option.getD_some]
  refine List.map_congr_left fun c hc => ?_
  have := List.mem_range.1 hc
  simp [this]
theorem famT_take (h : Nat → Bool) {r : Nat} (hr : r < 4) : (famT h).take (r + 1) = (famT h).take r ++ [(List.range 4).map (rowT h r 4)] := by
  rw [row_famT h hr, List.take_add_one, List.getElem?_eq_getElem (by rw [famT_len]; exact hr), List.getD_eq_getElem?_getD, List.getElem?_eq_getElem (by rw [famT_len]; exact hr)]
  rfl
theorem famT_rows (h : Nat → Bool) : (∀ r ∈ famT h, r.length ≤ 1000000) ∧ (famT h).length ≤ 1000000 := by
  constructor
  · intro r hr
    unfold famT at hr
    obtain ⟨x, _, rfl⟩ := List.mem_map.1 hr
    simp
  · rw [famT_len]; omega
theorem shl2 : ∀ c : Nat, c < 4 → wrap64 ((c : Int) * 2 ^ 2) = ((c <<< 2 : Nat) : Int) := by
  intro c h
  rcases (show c = 0 ∨ c = 1 ∨ c = 2 ∨ c = 3 by omega) with rfl | rfl | rfl | rfl <;> decide +kernel

set_option maxRecDepth 100000 in
set_option maxHeartbeats 4000000 in
theorem topq_bad (v : Value) (l : List Int) (w : World) (hv : See w v l) (hT : Tz w) (hk : okR 4 l = false) :
    Calls Tryd.prog 3 #[v] w (Ret (.bool true) w) := by
  have hk2 : okR 4 (l.take 70) = false := by rw [ok_take]; exact hk
  have hlt : (l.take 70).length ≤ 70 := by rw [List.length_take]; omega
  have HCl := hide fun u ws (h : See ws u (l.take 70)) => Clone_any u (l.take 70) ws h (by omega)
  have HAs := hide fun u ws (h : See ws u (l.take 70)) (hw : Chg [] w ws) => Ask_any 4 u (l.take 70) ws h (hT.keep hw)
  have ea : askV 4 (l.take 70) = .tuple #[.int .i64 0, .int .i64 2] := by unfold askV; rw [hk2]; rfl
  rw [ea] at HAs
  have HEv := hide fun ws (hw : Chg [] w ws) => evades_any ws (hT.keep hw)
  have k1 := fun w ts t x y => @run_min_2 Tryd.prog w ts t x y
  obtain ⟨ao, cap, rfl⟩ := hv.shape
  have HV := hide hv
  obtain ⟨n, hn⟩ : ∃ n, n = l.length := ⟨_, rfl⟩
  rw [← hn] at HV ⊢
  have HN := hide hn
  have hm : imin (n : Int) 70 = ((min n 70 : Nat) : Int) := by unfold imin; split <;> omega
  obtain ⟨m, hm2⟩ : ∃ m, m = min n 70 := ⟨_, rfl⟩
  rw [← hm2] at hm
  have m0 : (0 : Int) ≤ (m : Int) := by omega
  have m1 : (m : Int) ≤ (n : Int) := by omega
  have hcap : n ≤ cap := by
    obtain ⟨ao', cap', e, hle, _⟩ := hv.len
    obtain ⟨_, rfl⟩ : ao = ao' ∧ cap = cap' := by simpa using e
    omega
  have m2 : (m : Int) ≤ (cap : Int) := by omega
  have hadd : Option.map (fun x => Addr.add x 0) ao = ao := by cases ao <;> simp [add_nought]
  have HFi := hide (see_first HV.out hn hm2)
  clear hn hT hk hk2 ea hlt hm2 hv
  go_enter Tryd.func3, Tryd.ntmps3
  go_wp2_with fail
  refine (HCl.out _ _ HFi.out).mono ?_
  rintro e w1 ⟨v1, rfl, hI1, hw1⟩
  have HI1 := hide hI1.toSee
  have C1 := hide hw1
  clear hI1 hw1
  go_wp2_with fail
  refine (HAs.out _ _ HI1.out C1.out).mono ?_
  rintro e w2 ⟨rfl, hw2⟩
  have C2 := hide (C1.out.trans hw2)
  clear hw2
  go_wp2_with fail
  refine (HEv.out _ C2.out).mono ?_
  rintro e w3 ⟨rfl, hw3⟩
  have C3 := hide (C2.out.trans hw3)
  clear hw3
  go_wp2
  go_ret
  exact ⟨rfl, C3.out⟩

set_option maxRecDepth 100000 in
set_option maxHeartbeats 4000000 in
theorem topq_good (v : Value) (l : List Int) (w : World) (hv : See w v l) (hT : Tz w) (hk : okR 4 l = true) :
    Calls Tryd.prog 3 #[v] w (Ret (.bool true) w) := by
  obtain ⟨i0, hi, hz0, hz1, hz2⟩ := info_parts infoInt
  obtain ⟨i1, hj, hy0, hy1, hy2⟩ := info_parts infoInts
  have h64 : l.length ≤ 64 := by
    unfold okR at hk
    rw [Bool.and_eq_true] at hk
    exact (of_decide_eq_true hk.1).2.2
  have hFi : l.take 70 = l := List.take_of_length_le (by omega)
  have HCl := hide fun u ws (h : See ws u l) => Clone_any u l ws h (by omega)
  have HAs := hide fun u ws (h : See ws u l) (hw : Chg [] w ws) => Ask_any 4 u l ws h (hT.keep hw)
  obtain ⟨N, hN⟩ : ∃ N, N = E.need 4 (inF l) 0 0 := ⟨_, rfl⟩
  have ea : askV 4 l = .tuple #[.int .i64 (N : Int), .int .i64 0] := by unfold askV; rw [if_pos hk, hN]; rfl
  rw [ea] at HAs
  have HFa := hide fun u ws (h : See ws u l) => Family_any 4 u l ws h
  rw [family_ok, hk] at HFa
  have HCo := hide fun x u ws (h : See ws u l) => Contains_int x u l ws h (by omega)
  have HEv := hide fun ws (hw : Chg [] w ws) => evades_any ws (hT.keep hw)
  have HInF := hide (inF_iff hk)
  obtain ⟨h, hh⟩ : ∃ h, h = inF l := ⟨_, rfl⟩
  rw [← hh] at hN HInF
  have HLe := hide fun u ws (hu : See2 ws u (famT h)) => Length_any u (famT h) ws hu (famT_rows h).1 (famT_rows h).2
  have HRa := hide fun u ws (hu : See2 ws u (famT h)) => Rank_any u (famT h) ws hu (famT_rows h).1 (famT_rows h).2
  obtain ⟨M, hM⟩ : ∃ M, M = lenT (famT h) := ⟨_, rfl⟩
  obtain ⟨K, hK⟩ : ∃ K, K = rankN 0 (famT h) := ⟨_, rfl⟩
  have el : lenV (famT h) = .tuple #[.int .i64 (M : Int), .int .i64 0] := by unfold lenV; rw [if_pos (famT_tab h), hM]
  have er : rankV 0 (famT h) = .tuple #[.int .i64 (K : Int), .int .i64 0] := by unfold rankV; rw [if_pos (famT_tab h), hK]
  rw [el] at HLe
  rw [er] at HRa
  have hMN : M ≤ N := by
    rw [hM, hN]
    unfold lenT
    rw [famT_len, famT_cols]
    exact len_le h
  have hN4 : N ≤ 4 := by rw [hN]; exact need_le4 h
  have hKN : K ≤ 2 ^ N := by
    rw [hK, hN]
    unfold rankN
    rw [famT_len, famT_cols]
    exact rank_need h
  have k1 := fun w ts t x y => @run_min_2 Tryd.prog w ts t x y
  obtain ⟨ao, cap, rfl⟩ := hv.shape
  have HV := hide hv
  obtain ⟨n, hn⟩ : ∃ n, n = l.length := ⟨_, rfl⟩
  rw [← hn] at HV ⊢
  have hm : imin (n : Int) 70 = (n : Int) := by unfold imin; split <;> omega
  have m0 : (0 : Int) ≤ (n : Int) := by omega
  have hcap : n ≤ cap := by
    obtain ⟨ao', cap', e, hle, _⟩ := hv.len
    obtain ⟨_, rfl⟩ : ao = ao' ∧ cap = cap' := by simpa using e
    omega
  have m2 : (n : Int) ≤ (cap : Int) := by omega
  have hadd : Option.map (fun x => Addr.add x 0) ao = ao := by cases ao <;> simp [add_nought]
  have ep := wrap_two (n := N) (by omega)
  obtain ⟨P, hP⟩ : ∃ P, P = 2 ^ N := ⟨_, rfl⟩
  rw [← hP] at ep hKN
  have d1 : decide ((M : Int) ≥ 0) = true := by simp
  have d2 : decide ((M : Int) ≤ (N : Int)) = true := by simp; omega
  have d2n : decide (M ≤ N) = true := by simp; omega
  have d3 : decide ((K : Int) ≤ (P : Int)) = true := by simp; omega
  have d3n : decide (K ≤ P) = true := by simp; omega
  have n0 : (0 : Int) ≤ (N : Int) := by omega
  have n1 : (N : Int) < 64 := by omega
  have n2 : (N : Int) ≤ 64 := by omega
  clear hn hT hk ea hv hFi hN hh hM hK el er hP h64
  go_enter Tryd.func3, Tryd.ntmps3
  go_wp2_with fail
  refine (HCl.out _ _ HV.out).mono ?_
  rintro e w1 ⟨v1, rfl, hI1, hw1⟩
  have HI1 := hide hI1.toSee
  have C1 := hide hw1
  clear hI1 hw1
  go_wp2_with fail
  refine (HAs.out _ _ HI1.out C1.out).mono ?_
  rintro e w2 ⟨rfl, hw2⟩
  have C2 := hide (C1.out.trans hw2)
  clear hw2
  go_wp2_with fail
  refine (HFa.out _ _ (HV.out.keep C2.out)).mono ?_
  rintro e w3 ⟨rfl, hw3⟩
  have C3 := hide (C2.out.trans hw3)
  clear hw3
  go_wp2
  go_loopw [5, 34] (fun tv rv wr => ∃ r : Nat, r ≤ 4 ∧ rv = .int .i64 (r : Int) ∧ Hid (Rows2 wr w.heap.size tv ((famT h).take r) ∧ Chg [] w wr)) (fun _ rv _ => 4 - (intOf rv).toNat)
  case atStart => exact ⟨0, Nat.zero_le _, rfl, hide ⟨Rows2.nil _ _, C3.out⟩⟩
  case round =>
    obtain ⟨r, hr4, rfl, hI⟩ := hrel
    by_cases hlt : r < 4
    · have e1 : decide ((r : Int) < 4) = true := by simp; omega
      obtain ⟨us, hus, ho, hr⟩ := hI.out.1
      have hlen : ((famT h).take r).length = r := by rw [List.length_take, famT_len]; omega
      rw [hlen] at ho hus
      obtain ⟨oo, oc, rfl, hoc⟩ := row_shape ho
      have HO := hide ho
      have HUs := hide (And.intro hus hr)
      have CW := hide hI.out.2
      have HLen := hide hlen
      have hsz1 := CW.out.size
      clear hus ho hr hI hlen
      go_wp2_with (at_make; refine wpList_make_full _ rfl _ _ 22 rfl 0 3 i0 (.int .i64 0) 1 Tryd.underlying22 hi hz0 hz1 _ _ _ _ 4 rfl rfl rfl rfl (by rw [hz2]; omega) (by unfold maxLen; omega) (Nat.zero_le _) ?_; intro w5 hown hgrow)
      have T5 := hide (IntTab.made (by simpa using hown))
      have C5 : Hid (Chg [] wr w5) := hide ((Chg.refl _ _).grown hgrow (fun k hk => by cases hk))
      have C6 := hide (CW.out.trans C5.out)
      clear hown hgrow
      obtain ⟨g, hg⟩ : ∃ g, g = wr.heap.size := ⟨_, rfl⟩
      rw [← hg] at T5 ⊢
      have HG : Hid (g = wr.heap.size) := hide hg
      clear hg
      go_loopw [38] (fun cv ws => ∃ c : Nat, c ≤ 4 ∧ cv = .int .i64 (c : Int) ∧ Hid (IntTab ws g 4 (rowT h r c) ∧ Chg [] wr ws)) (fun cv _ => 4 - (intOf cv).toNat)
      case atStart => exact ⟨0, Nat.zero_le _, rfl, hide ⟨T5.out.congr (fun i _ => by unfold rowT; rw [if_neg (by omega)]), C5.out⟩⟩
      case round =>
        obtain ⟨c, hc4, rfl, hJ⟩ := hrel
        by_cases hlc : c < 4
        · have f1 : decide ((c : Int) < 4) = true := by simp; omega
          have c0 : (0 : Int) ≤ (c : Int) := by omega
          have c1 : (c : Int) < 4 := by omega
          have q := hJ.out.1.cell hlc
          have qf := hJ.out.1.free c
          have ql := hJ.out.1.lt
          have HJ := hide hJ.out
          have e4 : ((c <<< 2 : Nat) : Int) = (c : Int) * 4 := by rw [Nat.shiftLeft_eq]; omega
          have hx := cell_lt (r := r) (c := c) hlt hlc
          have eor := or_nat r (c <<< 2) (by omega) (by have : c <<< 2 ≤ 12 := by rw [Nat.shiftLeft_eq]; omega
                                                        omega)
          rw [e4] at eor
          have HHx := hide (HInF.out (r ||| c <<< 2))
          have HRw : Hid (∀ b, h (r ||| c <<< 2) = b → ∀ j, rowT h r (c + 1) j = if j = c ∧ b = true then 1 else rowT h r c j) := hide fun b hb j => by
            unfold rowT
            by_cases hj : j = c
            · subst hj
              rw [hb]
              cases b
              · simp
              · simp
            · by_cases hjc : j < c
              · simp [hj, hjc, show j < c + 1 by omega]
              · simp [hj, hjc, show ¬ j < c + 1 by omega]
          clear e4
          generalize c <<< 2 = c2 at *
          generalize r ||| c2 = x at *
          have HIx := hide (HCo.out (x : Int) _ _ (HV.out.keep (CW.out.trans HJ.out.2)))
          rw [← HHx.out] at HIx
          clear hJ
          cases hb : h x with
          | true =>
            rw [hb] at HIx
            have HR2 := hide (HRw.out true hb)
            clear hb
            go_wp2_with fail
            refine HIx.out.mono ?_
            rintro e w6 ⟨rfl, hw⟩
            have T6 := hide (HJ.out.1.keep hw List.not_mem_nil)
            have C6' := hide (HJ.out.2.trans hw)
            have q := T6.out.cell hlc
            have qf := T6.out.free c
            have ql := T6.out.lt
            generalize rowT h r c c = q0 at q
            clear hw
            go_wp2
            go_roundw
            case rel => exact ⟨c + 1, by omega, by go_num, hide ⟨T6.out.set c 1 (fun j _ => by rw [HR2.out]; simp), C6'.out.setCell (.inr (Nat.le_of_eq HG.out.symm)) _⟩⟩
            case measure => simp [intOf]; omega
          | false =>
            rw [hb] at HIx
            have HR2 := hide (HRw.out false hb)
            clear hb
            go_wp2_with fail
            refine HIx.out.mono ?_
            rintro e w6 ⟨rfl, hw⟩
            have T6 := hide (HJ.out.1.keep hw List.not_mem_nil)
            have C6' := hide (HJ.out.2.trans hw)
            clear hw
            go_wp2
            go_roundw
            case rel => exact ⟨c + 1, by omega, by go_num, hide ⟨T6.out.congr (fun j _ => by rw [HR2.out]; simp), C6'.out⟩⟩
            case measure => simp [intOf]; omega
        · have f1 : decide ((c : Int) < 4) = false := by simp; omega
          obtain rfl : c = 4 := by omega
          have HI2 := hide (hJ.out.1.ints (by omega))
          have CJ := hide hJ.out.2
          have C7 := hide (CW.out.trans hJ.out.2)
          have HO7 := hide (hJ.out.2.row HO.out (fun _ _ => List.not_mem_nil))
          have HR7 := hide (fun i u h => (HUs.out.2 i u h).keep hJ.out.2)
          have hz7 := C7.out.size
          clear hJ hlc
          go_wp2_with (at_builtin; refine wpList_append_own _ rfl _ _ 29 rfl w.heap.size 22 i1 (.slice none 0 0) 1 24 Tryd.underlying29 hj hy0 hy1 hy2 rfl (by decide) (.slice oo r oc) r us rfl (HO7.out.alloc _) ⟨wr.heap.size, 0, none⟩ 1 1 [.slice (some ⟨g, 0, none⟩) 4 4] rfl rfl (by intro j u hj; have hb := (Box.new wr #[.slice (some ⟨g, 0, none⟩) 4 4] 22).cell j; rw [add_zero_row]; refine Eq.trans hb ?_; simpa using hj) (by intro x hx; rw [List.mem_singleton] at hx; subst hx; rfl) (by unfold maxLen; omega) (by omega) (by simp; omega) ?_; intro v1 w7 hown1 hgrow1 _)
          go_roundw
          case rel =>
            refine ⟨r + 1, by omega, by go_num, hide ⟨?_, chg_grown (C7.out.alloc _) (HO7.out.alloc _) (Nat.le_refl _) hgrow1⟩⟩
            rw [famT_take h hlt]
            exact Rows2.push (us := us) (u := .slice (some ⟨g, 0, none⟩) 4 4) (by rw [HLen.out]; exact HUs.out.1) (by rw [HLen.out]; exact HO7.out.alloc _) (fun i u h => (HR7.out i u h).keep ((Chg.refl _ _).alloc _)) (HI2.out.keep ((Chg.refl _ _).alloc _)) hgrow1 (by rw [HLen.out]; exact hown1)
          case measure => simp [intOf]; omega
    · have e1 : decide ((r : Int) < 4) = false := by simp; omega
      obtain rfl : r = 4 := by omega
      have hS := hI.out.1.toSee2
      rw [List.take_of_length_le (by rw [famT_len]; exact Nat.le_refl _)] at hS
      have HS := hide hS
      have CW := hide hI.out.2
      obtain ⟨to, tc, rfl⟩ := hS.shape
      rw [famT_len] at HS
      clear hI hS
      go_wp2_with fail
      refine (HLe.out _ _ HS.out).mono ?_
      rintro e w4 ⟨rfl, hw⟩
      have S4 := hide (HS.out.keep hw)
      have C4 := hide (CW.out.trans hw)
      clear hw
      go_wp2_with fail
      refine (HRa.out _ _ S4.out).mono ?_
      rintro e w5 ⟨rfl, hw⟩
      have C5 := hide (C4.out.trans hw)
      clear hw
      go_wp2_with fail
      refine (HEv.out _ C5.out).mono ?_
      rintro e w6 ⟨rfl, hw⟩
      have C6 := hide (C5.out.trans hw)
      clear hw
      go_wp2
      go_ret
      exact ⟨rfl, C6.out⟩

theorem topQuestions_walk (v : Value) (w : World) (hv : ∃ xs, See w v xs ∧ xs.length ≤ 9223372036854775807) (hT : Tz w) : Calls Tryd.prog 3 #[v] w (Ret (.bool true) w) := by
  obtain ⟨xs, h, _⟩ := hv
  cases hk : okR 4 xs with
  | false => exact topq_bad v xs w h hT hk
  | true => exact topq_good v xs w h hT hk
end Go.Proofs.YtpplihpfjniacaaDoor
