/- Walks: cells, Entries, Rectangle, the reference's. -/
import Derived.Test.YtaapamoglgpocaaCvPlain
import Derived.Test.YtaapamoglgpocaaRLen2
namespace Go.Proofs.Ytaapamoglgpocaa
open Go.RowKit

set_option maxRecDepth 100000 in
set_option maxHeartbeats 1000000 in
theorem cells_any (r c : Nat) (w : World) (hr : r < 16) (hc : c < 16) : Calls Try.prog 95 #[.int .i64 (r : Int), .int .i64 (c : Int)] w (fun e w' => e = .returned (.int .i64 (bitsN r c : Int)) ∧ w' = w) := by
  obtain ⟨B, hB⟩ : ∃ B, B = bitsN r c := ⟨_, rfl⟩
  rw [← hB]
  have HB := hide hB
  have HR := hide (And.intro hr hc)
  clear hB hr hc
  go_enter Try.func95, Try.ntmps95
  go_wp2
  go_loopw [5, 7] (fun ov iv wr => ∃ k : Nat, k ≤ 4 ∧ ov = .int .i64 (cellTo r c k : Int) ∧ iv = .int .i64 (k : Int) ∧ wr = w) (fun _ iv _ => (4 - (intOf iv).toNat))
  case atStart => exact ⟨0, by omega, by rw [cellTo_zero]; rfl, rfl, rfl⟩
  case round =>
    obtain ⟨k, hk, rfl, rfl, rfl⟩ := hrel
    by_cases hlt : k < 4
    · have d1 : decide ((k : Int) < 4) = true := by simp; omega
      have h1 := shr_int r k
      have l1 : r / 2 ^ k < 2 ^ 63 := Nat.lt_of_le_of_lt (Nat.div_le_self _ _) (by have := HR.out.1; omega)
      have a1 := and_one _ l1
      have b1 := bit_eq r k
      have hkk : (k : Int) ≤ 62 := by omega
      have hst := cellTo_next (r := r) HR.out.2 hlt
      have hs := shl_lt HR.out.2 hlt
      have hc0 := cellTo_lt r c k
      have hw4 : IntKind.i64.wrap (4 * (k : Int)) = ((4 * k : Nat) : Int) := by rw [IntKind.wrap_i64]; omega
      have he1 : (c : Int) * 2 ^ (4 * k) = ((c * 2 ^ (4 * k) : Nat) : Int) := by simp
      have hsw : IntKind.i64.wrap ((c * 2 ^ (4 * k) : Nat) : Int) = ((c * 2 ^ (4 * k) : Nat) : Int) := by rw [IntKind.wrap_i64]; omega
      have ho := or_nat (cellTo r c k) (c * 2 ^ (4 * k)) (by omega) (by omega)
      have hbv : r.testBit k = bitv r k := tb_eq r k
      rw [hbv] at hst
      have HSt := hide hst
      have n64 : ((4 * k : Nat) : Int) ≤ 64 := by omega
      have hK4 : ((4 * k : Nat) : Int) ≤ 62 := by omega
      clear hst hbv l1
      obtain ⟨K4, hK⟩ : ∃ K4, K4 = 4 * k := ⟨_, rfl⟩
      rw [← hK] at hw4 he1 hsw ho hs n64 hK4 HSt
      obtain ⟨S, hS⟩ : ∃ S, S = c * 2 ^ K4 := ⟨_, rfl⟩
      rw [← hS] at he1 hsw ho hs HSt
      generalize cellTo r c k = X at *
      generalize X ||| S = Z at *
      generalize bitv r k = p at b1 HSt
      generalize r / 2 ^ k % 2 = m1 at a1 b1
      generalize r / 2 ^ k = q1 at h1 a1
      clear hS hK
      cases p with
      | false =>
        go_wp2
        go_roundw
        case rel => exact ⟨k + 1, by omega, by rw [HSt.out]; rfl, by go_num, trivial⟩
        case measure => simp [intOf]; omega
      | true =>
        go_wp2
        go_roundw
        case rel => exact ⟨k + 1, by omega, by rw [HSt.out]; rfl, by go_num, trivial⟩
        case measure => simp [intOf]; omega
    · have d1 : decide ((k : Int) < 4) = false := by simp; omega
      obtain rfl : k = 4 := by omega
      have E : Hid (cellTo r c 4 = B) := hide (by rw [HB.out]; exact cellTo_all r c)
      go_wp2
      go_ret
      exact ⟨by rw [E.out]; rfl, rfl⟩

set_option maxRecDepth 100000 in
set_option maxHeartbeats 1000000 in
theorem Entries_any (vt : Value) (t : List (List Int)) (v : Int) (w : World) (hv : See2 w vt t) (ht : T.isTab t = true) : Calls Try.prog 85 #[vt, .int .i64 v] w (fun e w' => e = .returned (.int .i64 (entN t v : Int)) ∧ w' = w) := by
  obtain ⟨⟨t1, t2, t3, t4⟩, _⟩ := T.isTab_iff.1 ht
  have hne : t ≠ [] := by rintro rfl; simp at t1
  obtain ⟨a, cap, rfl, _, hcc⟩ := hv.open hne
  have HC := hide hcc
  have HT := hide ht
  have HT4 := hide t4
  obtain ⟨n, hn⟩ : ∃ n, n = t.length := ⟨_, rfl⟩
  have HN := hide hn
  rw [← hn] at t1 t2 ⊢
  obtain ⟨m, hm⟩ : ∃ m, m = T.cols t := ⟨_, rfl⟩
  have HM := hide hm
  rw [← hm] at t3 t4
  obtain ⟨R, hR⟩ : ∃ R, R = entN t v := ⟨_, rfl⟩
  rw [← hR]
  have HRe := hide hR
  clear hcc hv hne ht hn hm hR
  go_enter Try.func85, Try.ntmps85
  go_wp2
  go_loopw [5, 12] (fun ov iv wr => ∃ i : Nat, i ≤ n ∧ ov = .int .i64 (entTo t v i 0 : Int) ∧ iv = .int .i64 (i : Int) ∧ wr = w) (fun _ iv _ => (n - (intOf iv).toNat))
  case atStart => exact ⟨0, by omega, by rw [entTo_zero]; rfl, rfl, rfl⟩
  case round =>
    obtain ⟨i, hi, rfl, rfl, rfl⟩ := hrel
    by_cases hlt : i < n
    · have d1 : decide ((i : Int) < (n : Int)) = true := by simpa using hlt
      obtain ⟨bo, bc, hrow⟩ := HC.out i (by rw [← HN.out]; exact hlt)
      have hlen : (t.getD i []).length = m := by rw [HM.out]; exact T.tab_row HT.out (by rw [← HN.out]; exact hlt)
      obtain ⟨fr, hs⟩ := hrow wr (Chg.refl _ _)
      rw [hlen] at fr hs
      have hrn : t.getD i [] ≠ [] := by intro h; rw [h] at hlen; simp at hlen; omega
      obtain ⟨a2, cap2, e2, hx⟩ := hs.open hrn
      rw [hlen] at e2
      cases e2
      have HX := hide hx
      have HLen := hide hlen
      clear hrow hs hlen hrn hx
      go_wp2
      go_loopw [5, 19] (fun ov jv wr' => ∃ j : Nat, j ≤ m ∧ ov = .int .i64 (entTo t v i j : Int) ∧ jv = .int .i64 (j : Int) ∧ wr' = wr) (fun _ jv _ => (m - (intOf jv).toNat))
      case atStart => exact ⟨0, by omega, rfl, rfl, rfl⟩
      case round =>
        obtain ⟨j, hj, rfl, rfl, rfl⟩ := hrel
        by_cases hlj : j < m
        · have d2 : decide ((j : Int) < (m : Int)) = true := by simpa using hlj
          have fx0 := HX.out wr (Chg.refl _ _) j (by rw [HLen.out]; exact hlj)
          obtain ⟨z, hz⟩ : ∃ z, z = T.ent t i j := ⟨_, rfl⟩
          have fx : wr.cell? (a2.add j) = some (.int .i64 z) := by rw [hz]; exact fx0
          have hst := entTo_next (t := t) (v := v) (i := i) (j := j) (by omega) (by rw [← HM.out]; exact hlj) HT4.out
          rw [← hz] at hst
          have h4 : IntKind.i64.wrap (4 * (i : Int)) = ((4 * i : Nat) : Int) := by rw [IntKind.wrap_i64]; omega
          have h5 : IntKind.i64.wrap (((4 * i : Nat) : Int) + (j : Int)) = ((4 * i + j : Nat) : Int) := by rw [IntKind.wrap_i64]; omega
          have e1 : (2 : Int) ^ (4 * i + j) = ((2 ^ (4 * i + j) : Nat) : Int) := by simp
          have hp : 2 ^ (4 * i + j) < 65536 := (show 2 ^ (4 * i + j) < 2 ^ 16 from Nat.pow_lt_pow_right (by decide) (by omega))
          have n64 : ((4 * i + j : Nat) : Int) ≤ 64 := by omega
          have hx0 := entTo_lt t v i j
          have ho := or_nat (entTo t v i j) (2 ^ (4 * i + j)) (by omega) (by omega)
          have HSt := hide hst
          clear fx0 hz hst
          generalize entTo t v i j = X at *
          obtain ⟨I4, hI4⟩ : ∃ I4, I4 = 4 * i := ⟨_, rfl⟩
          rw [← hI4] at h4 h5 e1 hp n64 ho HSt
          obtain ⟨K, hK⟩ : ∃ K, K = I4 + j := ⟨_, rfl⟩
          rw [← hK] at h5 e1 hp n64 ho HSt
          obtain ⟨P, hP⟩ : ∃ P, P = 2 ^ K := ⟨_, rfl⟩
          rw [← hP] at e1 hp ho HSt
          have hPw : IntKind.i64.wrap (P : Int) = (P : Int) := by rw [IntKind.wrap_i64]; omega
          generalize X ||| P = Z at *
          clear hI4 hK hP
          by_cases hzv : z = v
          · have d3 : (z == v) = true := by simpa using hzv
            have E : Hid (entTo t v i (j + 1) = Z) := hide (by rw [HSt.out, if_pos hzv])
            clear hzv HSt
            go_wp2
            go_roundw
            case rel => exact ⟨j + 1, by omega, by rw [E.out], by go_num, trivial⟩
            case measure => simp [intOf]; omega
          · have d3 : (z == v) = false := by simpa using hzv
            have E : Hid (entTo t v i (j + 1) = X) := hide (by rw [HSt.out, if_neg hzv])
            clear hzv HSt
            go_wp2
            go_roundw
            case rel => exact ⟨j + 1, by omega, by rw [E.out], by go_num, trivial⟩
            case measure => simp [intOf]; omega
        · have d2 : decide ((j : Int) < (m : Int)) = false := by simpa using hlj
          obtain rfl : j = m := by omega
          have E : Hid (entTo t v (i + 1) 0 = entTo t v i j) := hide (entTo_row (by rw [← HM.out]; exact Nat.le_refl _))
          go_wp2
          go_roundw
          case rel => exact ⟨i + 1, by omega, by rw [E.out], by go_num, trivial⟩
          case measure => simp [intOf]; omega
    · have d1 : decide ((i : Int) < (n : Int)) = false := by simpa using hlt
      obtain rfl : i = n := by omega
      have E : Hid (entTo t v i 0 = R) := hide (by rw [HRe.out]; unfold entN; rw [← HN.out])
      go_wp2
      go_ret
      exact ⟨by rw [E.out]; rfl, rfl⟩

theorem rect_small {t : List (List Int)} (ht : T.isTab t = true) {v x y : Int} (h : 1 ≤ x ∧ x < ((2 ^ t.length : Nat) : Int) ∧ 1 ≤ y ∧ y < ((2 ^ T.cols t : Nat) : Int)) : ∃ r c : Nat, x = (r : Int) ∧ y = (c : Int) ∧ r < 16 ∧ c < 16 ∧ rectI t v x y = rectOk t v r c := by
  obtain ⟨⟨t1, t2, t3, t4⟩, _⟩ := T.isTab_iff.1 ht
  have h1 := (pow_le16 t2).2
  have h2 := (pow_le16 t4).2
  refine ⟨x.toNat, y.toNat, by omega, by omega, by omega, by omega, ?_⟩
  unfold rectI
  rw [decide_eq_true h, Bool.true_and]

set_option maxRecDepth 100000 in
set_option maxHeartbeats 2000000 in
theorem Rectangle_any (vt : Value) (t : List (List Int)) (v x y : Int) (w : World) (hv : See2 w vt t) (ht : T.isTab t = true) : Calls Try.prog 94 #[vt, .int .i64 v, .agg #[.int .i64 x, .int .i64 y]] w (Ret (.bool (rectI t v x y)) w) := by
  obtain ⟨⟨t1, t2, t3, t4⟩, _⟩ := T.isTab_iff.1 ht
  have hne : t ≠ [] := by rintro rfl; simp at t1
  obtain ⟨a, cap, rfl, _, hc⟩ := hv.open hne
  obtain ⟨bo, bc, h0⟩ := hc 0 (by omega)
  rw [add_nought, row0] at h0
  have H0 := hide h0
  have HV := hide hv
  have HT := hide ht
  have HSm := hide (@rect_small t ht v x y)
  have HCl := hide fun r c ws (h : r < 65536) (h' : c < 65536) (hw : Chg [] w ws) => Clear_any _ t r c ws (hv.keep hw) ht h h'
  have HEn := hide fun ws (hw : Chg [] w ws) => Entries_any _ t v ws (hv.keep hw) ht
  have HRi : Hid (¬ (1 ≤ x ∧ x < ((2 ^ t.length : Nat) : Int) ∧ 1 ≤ y ∧ y < ((2 ^ T.cols t : Nat) : Int)) → rectI t v x y = false) := hide fun h => by unfold rectI; rw [decide_eq_false h]; rfl
  have hEl := entN_lt t v
  obtain ⟨p1, p2⟩ := pow_le16 t2
  obtain ⟨q1, q2⟩ := pow_le16 t4
  have e1 : (2 : Int) ^ t.length = ((2 ^ t.length : Nat) : Int) := by simp
  have e2 : (2 : Int) ^ T.cols t = ((2 ^ T.cols t : Nat) : Int) := by simp
  have n64 : (t.length : Int) ≤ 64 := by omega
  have m64 : (T.cols t : Int) ≤ 64 := by omega
  have w1 : IntKind.i64.wrap (2 ^ t.length) = ((2 ^ t.length : Nat) : Int) := by rw [e1]; exact wraps_i64 _ (by omega) (by omega)
  have w2 : IntKind.i64.wrap (2 ^ T.cols t) = ((2 ^ T.cols t : Nat) : Int) := by rw [e2]; exact wraps_i64 _ (by omega) (by omega)
  have HRo : Hid (∀ r c, rectOk t v r c = (T.clear t r c && decide (andnN (bitsN r c) (entN t v) = 0))) := hide fun _ _ => rfl
  generalize entN t v = E at *
  generalize 2 ^ t.length = P at *
  generalize 2 ^ T.cols t = Q at *
  obtain ⟨res, hres⟩ : ∃ res, res = rectI t v x y := ⟨_, rfl⟩
  rw [← hres]
  rw [← hres] at HRi HSm
  clear hres hv ht hne hc h0 e1 e2
  generalize T.cols t = m at *
  generalize t.length = n at *
  have hn1 : 0 < n := by omega
  have bx := Box.new w #[.int .i64 x, .int .i64 y] 60
  have c0 := (Chg.refl [] w).alloc (.cells #[.int .i64 x, .int .i64 y] 60)
  generalize hW : w.alloc (.cells #[.int .i64 x, .int .i64 y] 60) = W0 at bx c0
  have f1 := (H0.out W0 c0).1
  have f1e := fun x : ExtOf W0 => (H0.out x.at (c0.trans x.chg)).1
  have b0 := bx.cell 0
  have b1 := bx.cell 1
  have lB := bx.lt
  simp only [List.getElem?_toArray, List.getElem?_cons_zero, List.getElem?_cons_succ] at b0 b1
  have C0 := hide c0
  have BX := hide bx
  clear c0 bx
  by_cases hx1 : x < 1
  · have d1 : decide (x < 1) = true := by simpa using hx1
    have E0 : Hid (res = false) := hide (HRi.out (by omega))
    clear hx1
    go_enter Try.func94, Try.ntmps94
    go_wp2
    go_quiet (fail)
    go_wp2
    go_ret
    exact ⟨by rw [E0.out]; rfl, C0.out.drewN _⟩
  have d1 : decide (x < 1) = false := by simpa using hx1
  by_cases hx2 : (P : Int) ≤ x
  · have d2 : decide ((P : Int) ≤ x) = true := by simpa using hx2
    have E0 : Hid (res = false) := hide (HRi.out (by omega))
    clear hx2
    go_enter Try.func94, Try.ntmps94
    go_wp2
    go_quiet (fail)
    go_wp2
    go_ret
    exact ⟨by rw [E0.out]; rfl, C0.out.drewN _⟩
  have d2 : decide ((P : Int) ≤ x) = false := by simpa using hx2
  by_cases hx3 : y < 1
  · have d3 : decide (y < 1) = true := by simpa using hx3
    have E0 : Hid (res = false) := hide (HRi.out (by omega))
    clear hx3
    go_enter Try.func94, Try.ntmps94
    go_wp2
    go_quiet (fail)
    go_wp2
    go_ret
    exact ⟨by rw [E0.out]; rfl, C0.out.drewN _⟩
  have d3 : decide (y < 1) = false := by simpa using hx3
  by_cases hx4 : (Q : Int) ≤ y
  · have d4 : decide ((Q : Int) ≤ y) = true := by simpa using hx4
    have E0 : Hid (res = false) := hide (HRi.out (by omega))
    clear hx4
    go_enter Try.func94, Try.ntmps94
    go_wp2
    go_quiet (fail)
    go_wp2
    go_ret
    exact ⟨by rw [E0.out]; rfl, C0.out.drewN _⟩
  have d4 : decide ((Q : Int) ≤ y) = false := by simpa using hx4
  obtain ⟨r, c, ex, ey, hr, hc, he⟩ := HSm.out (by omega)
  rw [HRo.out] at he
  have HE := hide he
  have HCl2 := hide fun ws (hw : Chg [] w ws) => HCl.out r c ws (by omega) (by omega) hw
  have HCe := hide fun ws => cells_any r c ws hr hc
  rw [← ex, ← ey] at HCl2 HCe
  have hb16 := bitsN_lt r c
  have han := and_not hb16 hEl
  generalize bitsN r c = b at *
  have hz : (((andnN b E : Nat) : Int) == 0) = decide (andnN b E = 0) := by
    by_cases h : andnN b E = 0
    · rw [h]; rfl
    · rw [decide_eq_false h]; simpa using h
  generalize andnN b E = z at *
  generalize decide (z = 0) = zb at *
  clear he hx1 hx2 hx3 hx4 HRi HSm HCl hr hc ex ey
  cases hcl : T.clear t r c with
  | false =>
    have E0 : Hid (res = false) := hide (by rw [HE.out, hcl]; rfl)
    rw [hcl] at HCl2
    clear hcl HE
    go_enter Try.func94, Try.ntmps94
    go_wp2
    refine wp_region_ext (by kernel_rfl) (by kernel_rfl) ?_
    repeat (first | go_big_quiet_step ((go_at_call 101; exact calls_of_ret (HCl2.out _ (C0.out.trans (ExtOf.chg _))))) | quiet_step ((go_at_call 101; exact calls_of_ret (HCl2.out _ (C0.out.trans (ExtOf.chg _))))))
    refine wpQuiet_nil ?_
    intro wx hx
    go_wp2
    go_ret
    exact ⟨by rw [E0.out]; rfl, C0.out.trans hx⟩
  | true =>
    have E0 : Hid (res = zb) := hide (by rw [HE.out, hcl]; rfl)
    rw [hcl] at HCl2
    clear hcl HE
    go_enter Try.func94, Try.ntmps94
    go_wp2
    refine wp_region_ext (by kernel_rfl) (by kernel_rfl) ?_
    repeat (first | go_big_quiet_step ((go_at_call 101; exact calls_of_ret (HCl2.out _ (C0.out.trans (ExtOf.chg _))))) | quiet_step ((go_at_call 101; exact calls_of_ret (HCl2.out _ (C0.out.trans (ExtOf.chg _))))))
    refine wpQuiet_nil ?_
    intro wx hx
    have C1 := hide (C0.out.trans hx)
    have BX1 := hide (BX.out.keep hx List.not_mem_nil)
    clear hx
    have g0 := BX1.out.cell 0
    have g1 := BX1.out.cell 1
    have lB1 := BX1.out.lt
    simp only [List.getElem?_toArray, List.getElem?_cons_zero, List.getElem?_cons_succ] at g0 g1
    go_wp2_with fail
    refine (HCe.out _).mono ?_
    rintro e w2 ⟨rfl, rfl⟩
    go_wp2_with fail
    refine (HEn.out _ C1.out).mono ?_
    rintro e w3 ⟨rfl, rfl⟩
    go_wp2
    go_ret
    exact ⟨by rw [E0.out]; rfl, C1.out⟩
end Go.Proofs.Ytaapamoglgpocaa
