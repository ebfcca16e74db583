/- TopRows: the walk. -/
import Derived.Test.YtpplihpfjniacaaRw2
import Derived.Test.YtpplihpfjniacaaGs6
import Derived.Test.YtpplihpfjniacaaGm4
import Derived.Test.YtpplihpfjniacaaOpen
namespace Go.Proofs.Ytpplihpfjniacaa
open Go.RowKit

theorem bit_pick (c x : Nat) : (if c.testBit x = true then (1 : Int) else 0) = 0 ∨ (if c.testBit x = true then (1 : Int) else 0) = 1 := by split <;> simp
theorem row_snoc (c k : Nat) (b : Int) (h : b = if c.testBit k = true then 1 else 0) : (rowTo c k).map (Value.int .i64) ++ [.int .i64 b] = (rowTo c (k + 1)).map (Value.int .i64) := by
  rw [← rowTo_succ, List.map_append, h]
  rfl
theorem ints_row {w : World} {base : Nat} {v : Value} {c k : Nat} (h : w.ownsRow base 3 1 v k ((rowTo c k).map (Value.int .i64))) : Ints w v (rowTo c k) := by
  have h := row_low (base' := 0) h (Nat.zero_le _)
  have e2 := rowTo_len c k
  unfold Ints
  rw [e2]
  exact h
set_option maxRecDepth 100000 in
set_option maxHeartbeats 1000000 in
theorem rows_bad (p : Int) (v : Value) (l : List Int) (w : World) (hv : See w v l) (h : p > 4 ∨ l.length > 4 ∨ p < 1 ∨ l.length < 1 ∨ classB p.toNat l = false) : Calls Try.prog 4 #[.int .i64 p, v] w (Ret (.bool true) w) := by
  have HA := hide fun ws => asks_any ws
  by_cases h1 : p > 4
  · obtain ⟨ao, cap, rfl⟩ := hv.shape
    have d1 : decide (p > 4) = true := by simpa using h1
    have d1' : decide (4 < p) = true := by simpa using h1
    clear h hv
    generalize l.length = m at *
    go_enter Try.func4, Try.ntmps4
    go_wp2_with fail
    refine (HA.out _).mono ?_
    rintro e w7 ⟨rfl, hw⟩
    go_wp2
    go_ret
    exact ⟨rfl, hw⟩
  · have d1 : decide (p > 4) = false := by simpa using h1
    have d1' : decide (4 < p) = false := by simpa using h1
    by_cases h2 : l.length > 4
    · obtain ⟨ao, cap, rfl⟩ := hv.shape
      clear h hv
      generalize l.length = m at *
      have d2 : decide ((m : Int) > 4) = true := by simp; omega
      have d2' : decide ((4 : Int) < (m : Int)) = true := by simp; omega
      have d2n : decide (4 < m) = true := by simp; omega
      go_enter Try.func4, Try.ntmps4
      go_wp2_with fail
      refine (HA.out _).mono ?_
      rintro e w7 ⟨rfl, hw⟩
      go_wp2
      go_ret
      exact ⟨rfl, hw⟩
    · have HC : Hid (Calls Try.prog 11 #[.int .i64 p, v] w (Ret (.bool false) w)) := hide (by
        by_cases h3 : p < 1 ∨ l.length < 1
        · exact Class_small p v l w hv h3 (by omega)
        · obtain ⟨k, rfl⟩ : ∃ k : Nat, p = (k : Int) := ⟨p.toNat, by omega⟩
          have h5 : classB k l = false := by
            rcases h with h | h | h | h | h
            · omega
            · omega
            · omega
            · omega
            · simpa using h
          have := Class_any k v l w hv (by omega) (by omega)
          rw [h5] at this
          exact this)
      obtain ⟨ao, cap, rfl⟩ := hv.shape
      clear h hv
      generalize l.length = m at *
      have d2 : decide ((m : Int) > 4) = false := by simp; omega
      have d2' : decide ((4 : Int) < (m : Int)) = false := by simp; omega
      have d2n : decide (4 < m) = false := by simp; omega
      go_enter Try.func4, Try.ntmps4
      go_wp2_with fail
      refine HC.out.mono ?_
      rintro e w6 ⟨rfl, hw6⟩
      have C6 := hide hw6
      clear hw6
      go_wp2_with fail
      refine (HA.out _).mono ?_
      rintro e w7 ⟨rfl, hw⟩
      have C7 := hide (C6.out.trans hw)
      clear hw
      go_wp2
      go_ret
      exact ⟨rfl, C7.out⟩
set_option maxRecDepth 100000 in
set_option maxHeartbeats 4000000 in
theorem rows_good (p : Nat) (v : Value) (l : List Int) (w : World) (hv : See w v l) (hp : 1 ≤ p ∧ p ≤ 4) (hl : 1 ≤ l.length ∧ l.length ≤ 4) (hB : classB p l = true) : Calls Try.prog 4 #[.int .i64 (p : Int), v] w (Ret (.bool true) w) := by
  obtain ⟨i0, hi, hz0, hz1, hz2⟩ := info_parts infoInt
  obtain ⟨i1, hj, hy0, hy1, hy2⟩ := info_parts infoInts
  have hk := class_okC hp hl hB
  have HA := hide fun ws => asks_any ws
  have HAw := hide fun ws => awakeT_any ws
  have HC := hide (Class_any p v l w hv hp hl)
  rw [hB] at HC
  have HCl := hide fun c u ws (h : See ws u (rowTo c p)) => Clone_any u (rowTo c p) ws h (by rw [rowTo_len]; omega)
  have HAt := hide fun i (hi : i < l.length) => hk.at hi
  have HV := hide hv
  have HDl := hide (dbl_len p l)
  have HDs : Hid (∀ i, dblT p l (i + 1) = dblT p l i ++ [rowTo (cf l i) p, rowTo (cf l i) p]) := hide fun i => rfl
  have HD0 : Hid (dblT p l 0 = []) := hide rfl
  obtain ⟨D, n, hDn⟩ : ∃ D n : Nat, (l.length = 1 ∧ D = 1 ∧ n = 0) ∨ (2 ≤ l.length ∧ D = 2 ∧ n = 1) := by
    rcases (show l.length = 1 ∨ 2 ≤ l.length by omega) with h | h
    · exact ⟨1, 0, .inl ⟨h, rfl, rfl⟩⟩
    · exact ⟨2, 1, .inr ⟨h, rfl, rfl⟩⟩
  have hDl : 1 ≤ D ∧ D ≤ l.length := by omega
  obtain ⟨hkD, hlD⟩ := okC_take hk hDl.1 hDl.2
  have HCD := hide fun u ws (h : See ws u (l.take D)) => Clone_any u (l.take D) ws h (by omega)
  have HAs := hide fun u ws (h : See ws u (l.take D)) => LAsk_good p u (l.take D) ws h hkD
  have hq : n ≤ Lr.askN (cf (l.take D)) (l.take D).length p (allC (l.take D)) := by
    rcases hDn with ⟨_, rfl, rfl⟩ | ⟨_, rfl, rfl⟩
    · exact Nat.zero_le _
    · exact ask_two hkD hlD
  generalize Lr.askN (cf (l.take D)) (l.take D).length p (allC (l.take D)) = q at HAs hq
  obtain ⟨TT, hTT⟩ : ∃ TT, TT = (dblT p l l.length).take (2 * D) := ⟨_, rfl⟩
  have hTf : T.isTab TT = true ∧ onceN TT = n := by
    rcases hDn with ⟨h, rfl, rfl⟩ | ⟨h, rfl, rfl⟩
    · rw [h, List.take_of_length_le (by rw [dbl_len]; omega)] at hTT
      rw [hTT]
      exact dbl_one l hp
    · obtain ⟨d, hd⟩ : ∃ d, l.length = 2 + d := ⟨l.length - 2, by omega⟩
      rw [hd, dbl_take] at hTT
      rw [hTT]
      exact dbl_two hp hk h
  have hrl : (∀ r ∈ TT, r.length ≤ 1000000) ∧ TT.length ≤ 1000000 := by
    obtain ⟨⟨_, t2, _, t4⟩, hr⟩ := T.isTab_iff.1 hTf.1
    exact ⟨fun r h => by have := (T.rowOk_iff.1 (hr r h)).1; omega, by omega⟩
  have HOn := hide fun u ws (h : See2 ws u TT) => Once_any u TT ws h hrl.1 hrl.2
  have HLe := hide fun u ws (h : See2 ws u TT) => Length_any u TT ws h hrl.1 hrl.2
  have hle := len_once hTf.1
  rw [hTf.2] at hle
  have eo : onceV TT = .tuple #[.int .i64 (n : Int), .int .i64 0] := by unfold onceV; rw [if_pos hTf.1, hTf.2]
  have el : lenV TT = .tuple #[.int .i64 (lenT TT : Int), .int .i64 0] := by unfold lenV; rw [if_pos hTf.1]
  rw [eo] at HOn
  rw [el] at HLe
  generalize lenT TT = kk at HLe hle
  have hlog : IsLog D n := by
    rcases hDn with ⟨_, rfl, rfl⟩ | ⟨_, rfl, rfl⟩
    · exact ⟨by decide, fun q' h => by omega⟩
    · exact ⟨by decide, fun q' h => by obtain rfl : q' = 0 := by omega
                                       decide⟩
  have HGu := hide fun ws => Least_any D n ws hDl.1 (by omega) hlog
  have k1 := fun w ts t x y => @run_min_2 Try.prog w ts t x y
  obtain ⟨ao, cap, rfl⟩ := hv.shape
  obtain ⟨m, hm⟩ : ∃ m, m = l.length := ⟨_, rfl⟩
  rw [← hm] at HC HV hl hDl hDn hTT ⊢
  have HM := hide hm
  have HN := hide hDn
  have HT := hide hTT
  obtain ⟨a, cap', e, hcell⟩ := HV.out.open (fun e => by have := HM.out; rw [e] at this; simp at this; omega)
  obtain ⟨rfl, hx1, rfl⟩ : ao = some a ∧ m = l.length ∧ cap = cap' := by simpa using e
  have HCe := hide hcell
  have hcap : m ≤ cap := by
    obtain ⟨ao', cap', e, hle, _⟩ := hv.len
    obtain ⟨_, rfl⟩ : some a = ao' ∧ cap = cap' := by simpa [hm] using e
    omega
  have HX := hide (And.intro hDl (And.intro hcap (And.intro hq hle)))
  have c1 : decide ((p : Int) > 4) = false := by simp; omega
  have c1' : decide ((4 : Int) < (p : Int)) = false := by simp; omega
  have c1n : decide (4 < p) = false := by simp; omega
  have c2 : decide ((m : Int) > 4) = false := by simp; omega
  have c2' : decide ((4 : Int) < (m : Int)) = false := by simp; omega
  have c2n : decide (4 < m) = false := by simp; omega
  have HP := hide hp
  have HL := hide hl
  clear e hx1 hcell hm hDn hTT hTf hrl eo el hlog hkD hlD hk hB hv hDl hq hle hcap hp hl
  go_enter Try.func4, Try.ntmps4
  go_wp2_with fail
  refine HC.out.mono ?_
  rintro e w1 ⟨rfl, hw⟩
  have C1 := hide hw
  clear hw
  go_wp2
  clear c1 c1' c1n c2 c2' c2n
  go_loopw [5, 35] (fun tv iv wr => ∃ i : Nat, i ≤ m ∧ iv = .int .i64 (i : Int) ∧ Hid (Rows2 wr w.heap.size tv (dblT p l i) ∧ Chg [] w wr)) (fun _ iv _ => m - (intOf iv).toNat)
  case atStart => exact ⟨0, Nat.zero_le _, rfl, hide ⟨Rows2.nil _ _, C1.out⟩⟩
  case round =>
    obtain ⟨i, him, rfl, hI⟩ := hrel
    by_cases hlt : i < m
    · have d1 : decide ((i : Int) < (m : Int)) = true := by simp; omega
      have k0 : (0 : Int) ≤ (i : Int) := by omega
      have hlk : i < l.length := by rw [← HM.out]; exact hlt
      have fx := HCe.out wr hI.out.2 i hlk
      obtain ⟨hc1, hc2⟩ := HAt.out i hlk
      rw [hc1] at fx
      have HDi := hide (HDs.out i)
      have hp4 := HP.out.2
      have p5 : (2 : Nat) ^ p ≤ 2 ^ 4 := Nat.pow_le_pow_right (by decide) hp4
      have hci : cf l i < 65536 := by omega
      generalize cf l i = c at *
      have HRo := hide hI.out.1
      have C2 := hide hI.out.2
      clear hI hc1 hc2 hlk p5 hp4
      obtain ⟨W, hW⟩ : ∃ W, W = wr := ⟨_, rfl⟩
      subst hW
      go_wp2
      go_loopw [8, 40] (fun rv xv ws => ∃ x : Nat, x ≤ p ∧ xv = .int .i64 (x : Int) ∧ Hid (ws.ownsRow W.heap.size 3 1 rv x ((rowTo c x).map (Value.int .i64)) ∧ Chg [] W ws)) (fun _ xv _ => p - (intOf xv).toNat)
      case atStart => exact ⟨0, Nat.zero_le _, rfl, hide ⟨World.ownsRow_nil _ _ _ _, Chg.refl _ _⟩⟩
      case round =>
        obtain ⟨x, hxp, rfl, hJ⟩ := hrel
        by_cases hlx : x < p
        · have d2 : decide ((x : Int) < (p : Int)) = true := by simp; omega
          have hp4 := HP.out.2
          have x0 : (0 : Int) ≤ (x : Int) := by omega
          have x1 : (x : Int) < 64 := by omega
          have ep := pt_bit (s := c) (x := x) hci
          obtain ⟨b, hb⟩ : ∃ b : Int, b = if c.testBit x = true then 1 else 0 := ⟨_, rfl⟩
          rw [← hb] at ep
          have HSn := hide (row_snoc c x b hb)
          have hown := hJ.out.1
          have hch1 := hJ.out.2
          have hsz := hch1.size
          clear hb hp4
          go_wp2_with (at_builtin; refine wpList_append_own _ rfl _ _ 23 rfl W.heap.size 3 i0 (.int .i64 0) 1 8 Try.underlying23 hi hz0 hz1 hz2 rfl (by decide) _ _ _ rfl (hown.alloc _) ⟨wr.heap.size, 0, none⟩ 1 1 [.int .i64 b] rfl rfl (by intro j u hj; match j, hj with | 0, hj => simp at hj; subst hj; simp [Addr.add]) (by intro u hu; simp at hu; subst hu; rfl) (by unfold maxLen; omega) (by omega) (by simp; omega) ?_; intro v1 w3 hown1 hgrow1 _)
          go_roundw
          case rel => exact ⟨x + 1, by omega, by go_num, hide ⟨by rw [← HSn.out]; exact hown1, (hch1.alloc _).grew (hown.alloc _) (Nat.le_refl _) hgrow1⟩⟩
          case measure => simp [intOf]; omega
        · have d2 : decide ((x : Int) < (p : Int)) = false := by simp; omega
          have e : x = p := by omega
          subst e
          have hR1 := ints_row hJ.out.1
          have HR1 := hide hR1
          have HRo2 := hide (HRo.out.keep hJ.out.2)
          have C3 := hide (C2.out.trans hJ.out.2)
          clear hR1 hJ
          go_wp2_with fail
          refine (HCl.out _ _ _ HR1.out.toSee).mono ?_
          rintro e w3 ⟨v3, rfl, hI3, hw⟩
          have HR3 := hide hI3
          have HR2 := hide (HR1.out.keep hw)
          have HRo3 := hide (HRo2.out.keep hw)
          have C4 := hide (C3.out.trans hw)
          clear hI3 hw
          have hRo3 := HRo3.out
          obtain ⟨us, hul, ho, hr⟩ := hRo3
          obtain ⟨oo, oc, rfl, _⟩ := row_shape ho
          have HUs := hide (And.intro hul hr)
          have hln := HDl.out i
          rw [hln] at ho
          have hsz := C4.out.size
          have hl4 := HL.out
          obtain ⟨ro, rc, rfl⟩ := HR2.out.toSee.shape
          obtain ⟨so, sc, rfl⟩ := HR3.out.toSee.shape
          have hrl := rowTo_len c x
          rw [hrl] at HR2 HR3 ⊢
          clear hul hr hrl
          go_wp2_with (at_builtin; refine wpList_append_own _ rfl _ _ 35 rfl w.heap.size 23 i1 (.slice none 0 0) 1 24 Try.underlying35 hj hy0 hy1 hy2 rfl (by decide) (.slice oo (2 * i) oc) (2 * i) us rfl (ho.alloc _) ⟨w3.heap.size, 0, none⟩ 2 2 [.slice ro x rc, .slice so x sc] rfl rfl (by intro j u hj; have hb := (Box.at w3 #[.slice ro x rc, .slice so x sc] 23 (n := w3.heap.size) rfl).cell j; rw [add_zero_row]; refine Eq.trans hb ?_; simpa using hj) (by intro y hy; simp at hy; rcases hy with rfl | rfl <;> rfl) (by unfold maxLen; omega) (by omega) (by simp; omega) ?_; intro v1 w7 hown1 hgrow1 _)
          go_roundw
          case rel =>
            refine ⟨i + 1, by omega, by go_num, hide ⟨?_, chg_grown (C4.out.alloc _) (ho.alloc _) (Nat.le_refl _) hgrow1⟩⟩
            rw [HDi.out]
            have cA := (Chg.refl [] w3).alloc (.cells #[.slice ro x rc, .slice so x sc] 23)
            refine Rows2.pushes (v := .slice oo (2 * i) oc) (us := us) (vs := [.slice ro x rc, .slice so x sc]) HUs.out.1 (by rw [HDl.out]; exact ho.alloc _) (fun i u h => (HUs.out.2 i u h).keep cA) rfl ?_ hgrow1 (by rw [HDl.out]; exact hown1)
            intro q u hq
            match q, hq with
            | 0, hq => simp at hq; subst hq; exact HR2.out.keep cA
            | 1, hq => simp at hq; subst hq; exact HR3.out.keep cA
          case measure => simp [intOf]; omega
    · have d1 : decide ((i : Int) < (m : Int)) = false := by simp; omega
      have e : i = m := by omega
      subst e
      have hS2 := hI.out.1.toSee2
      have C2 := hide hI.out.2
      obtain ⟨oo, oc, rfl⟩ := hS2.shape
      have hln := HDl.out i
      rw [hln] at hS2 ⊢
      have hNc : 2 * i ≤ oc := by
        obtain ⟨ao', cap', e, hle, _⟩ := hS2
        obtain ⟨_, _, rfl⟩ : oo = ao' ∧ 2 * i = _ ∧ oc = cap' := by simpa using e
        omega
      have hND : 2 * D ≤ 2 * i ∧ min (2 * i) 4 = 2 * D := by
        have := HN.out
        have := HX.out.1
        omega
      have hS3 : See2 wr (.slice oo (2 * D) oc) TT := by
        rw [HT.out]
        exact see2_take hS2 hND.1
      have HS := hide hS3
      have hx := HX.out
      have HVc := hide (see_cut HV.out HM.out hx.1.2)
      obtain ⟨N, hN⟩ : ∃ N, N = 2 * i := ⟨_, rfl⟩
      obtain ⟨K, hK⟩ : ∃ K, K = 2 * D := ⟨_, rfl⟩
      rw [← hN] at hNc hND ⊢
      rw [← hK] at hND HS
      have hm : imin (N : Int) 4 = (K : Int) := by unfold imin; split <;> omega
      have ed : ((K : Int) + 1).tdiv 2 = (D : Int) := by rw [Int.tdiv_eq_ediv_of_nonneg (by omega)]; omega
      have hD4 : D ≤ 4 := by have := HN.out; omega
      have ewr : IntKind.i64.wrap ((K : Int) + 1) = (K : Int) + 1 := by rw [IntKind.wrap_i64]; have := HN.out; omega
      have hadd : Option.map (fun x => Addr.add x 0) oo = oo := by cases oo <;> simp [add_nought]
      have hadd2 : a.add 0 = a := add_nought a
      have m0 : (0 : Int) ≤ (K : Int) := by omega
      have m1 : (K : Int) ≤ (N : Int) := by omega
      have m2 : (K : Int) ≤ (oc : Int) := by omega
      have D0 : (0 : Int) ≤ (D : Int) := by omega
      have D1 : (D : Int) ≤ (i : Int) := by omega
      have D2 : (D : Int) ≤ (cap : Int) := by omega
      have r1 : decide ((n : Int) ≤ (q : Int)) = true := by simp; omega
      have r1n : decide (n ≤ q) = true := by simp; omega
      have ew1 : IntKind.i64.wrap ((n : Int) + 1) = (n : Int) + 1 := by rw [IntKind.wrap_i64]; have := HN.out; omega
      have r2 : decide ((kk : Int) ≤ (n : Int) + 1) = true := by simp; omega
      have r2n : decide (kk ≤ n + 1) = true := by simp; omega
      have hK4 : K ≤ 4 := by omega
      have hn1 : n ≤ 1 := by have := HN.out; omega
      clear hln hS2 hI hS3 hx hN hK hlt hNc him
      go_wp2_with fail
      refine (HOn.out _ _ HS.out).mono ?_
      rintro e w2 ⟨rfl, hw⟩
      have HS2 := hide (HS.out.keep hw)
      have C3 := hide (C2.out.trans hw)
      clear hw
      go_wp2_with fail
      refine (HGu.out _).mono ?_
      rintro e w3 ⟨rfl, hw⟩
      have HS3 := hide (HS2.out.keep hw)
      have C4 := hide (C3.out.trans hw)
      clear hw hm ed ewr hadd m0 m1 m2 k1 hND hK4
      go_wp2_with fail
      refine (HCD.out _ _ (HVc.out.keep C4.out)).mono ?_
      rintro e w4 ⟨v4, rfl, hI, hw⟩
      have HI := hide hI.toSee
      have HS4 := hide (HS3.out.keep hw)
      have C5 := hide (C4.out.trans hw)
      clear hI hw
      go_wp2_with fail
      refine (HAs.out _ _ HI.out).mono ?_
      rintro e w5 ⟨rfl, hw⟩
      have HS5 := hide (HS4.out.keep hw)
      have C6 := hide (C5.out.trans hw)
      clear hw
      go_wp2_with fail
      refine (HLe.out _ _ HS5.out).mono ?_
      rintro e w6 ⟨rfl, hw⟩
      have C7 := hide (C6.out.trans hw)
      clear hw
      go_wp2_with fail
      refine (HAw.out _).mono ?_
      rintro e w7 ⟨rfl, hw⟩
      have C8 := hide (C7.out.trans hw)
      clear hw
      go_wp2_with fail
      refine (HA.out _).mono ?_
      rintro e w8 ⟨rfl, hw⟩
      have C9 := hide (C8.out.trans hw)
      clear hw
      go_wp2
      go_ret
      exact ⟨by rfl, C9.out⟩
theorem topRows_walk (v u : Value) (w : World) (hv : IsInt v) (hu : IsInts w u) : Calls Try.prog 4 #[v, u] w (Ret (.bool true) w) := by
  obtain ⟨p, rfl, _⟩ := hv
  obtain ⟨l, hl, _⟩ := hu
  by_cases h : p > 4 ∨ l.length > 4 ∨ p < 1 ∨ l.length < 1 ∨ classB p.toNat l = false
  · exact rows_bad p u l w hl h
  · obtain ⟨k, rfl⟩ : ∃ k : Nat, p = (k : Int) := ⟨p.toNat, by omega⟩
    have hc : classB k l = true := by
      cases hc : classB k l with
      | true => rfl
      | false => exact absurd (.inr (.inr (.inr (.inr (by simpa using hc))))) h
    exact rows_good k u l w hl (by omega) (by omega) hc
end Go.Proofs.Ytpplihpfjniacaa
