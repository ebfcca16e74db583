/- Walk: the statement TalkSaid. -/
import Derived.Test.YtaapamoglgpocaaSaid
import Derived.Test.YtaapamoglgpocaaLaw7
namespace Go.Proofs.Ytaapamoglgpocaa
open Go.RowKit

set_option maxRecDepth 100000 in
set_option maxHeartbeats 1000000 in
theorem said_bad (v : Value) (t : List (List Int)) (a b c d : Int) (w : World) (hs : See2 w v t) (htl : t.length ≤ 9223372036854775807) (ht : T.isTab t = false) : Calls Try.prog 8 #[v, .int .i64 a, .int .i64 b, .int .i64 c, .int .i64 d] w (Ret (.bool true) w) := by
  have HT1 := hide fun ws (hw : Chg [] w ws) => table_any v t ws (hs.keep hw) htl
  have hcs := cut_small t
  have HAw := hide fun ws => awake_any ws
  have HPl := hide fun v' ws (h : See2 ws v' (T.cut t)) => Plan_bad v' (T.cut t) ws h hcs.1 hcs.2 (by rw [T.isTab_cut]; exact ht)
  have HLe := hide fun v' ws (h : See2 ws v' (T.cut t)) => Length_any v' (T.cut t) ws h hcs.1 hcs.2
  have hlv : lenV (T.cut t) = .tuple #[.int .i64 0, .int .i64 2] := by unfold lenV; rw [T.isTab_cut, ht]; rfl
  rw [hlv] at HLe
  clear hs htl hcs ht hlv
  go_enter Try.func8, Try.ntmps8
  go_wp2_with fail
  refine (HT1.out _ (Chg.refl _ _)).mono ?_
  rintro e w1 ⟨v1, rfl, hI, hw1⟩
  have HI := hide hI
  have C1 := hide hw1
  clear hI hw1
  go_wp2_with fail
  refine (HPl.out _ _ HI.out).mono ?_
  rintro e w2 ⟨rfl, hw2⟩
  have C2 : Hid (Chg [] w w2) := hide (C1.out.trans hw2)
  clear hw2
  go_wp2_with fail
  refine (HT1.out _ C2.out).mono ?_
  rintro e w3 ⟨v3, rfl, hI3, hw3⟩
  have HI3 := hide hI3
  have C3 := hide (C2.out.trans hw3)
  clear hI3 hw3
  go_wp2_with fail
  refine (HLe.out _ _ HI3.out).mono ?_
  rintro e w4 ⟨rfl, hw4⟩
  have C4 : Hid (Chg [] w w4) := hide (C3.out.trans hw4)
  clear hw4
  go_wp2_with fail
  refine (HAw.out _).mono ?_
  rintro e w5 ⟨rfl, hw5⟩
  have C5 : Hid (Chg [] w w5) := hide (C4.out.trans hw5)
  clear hw5
  go_wp2
  go_ret
  exact ⟨rfl, C5.out⟩

/-- The entries of a table, read as the walks read them. -/
theorem ent_cells {w : World} {t : List (List Int)} {v : Value} (hs : See2 w v t) (ht : T.isTab t = true) : ∃ a cap, v = .slice (some a) t.length cap ∧ ∀ i, i < t.length → ∃ b bc, ∀ wr, Chg [] w wr → wr.cell? (a.add i) = some (.slice (some b) (T.cols t) bc) ∧ ∀ j, j < T.cols t → wr.cell? (b.add j) = some (.int .i64 (T.ent t i j)) := by
  obtain ⟨⟨t1, t2, t3, t4⟩, _⟩ := T.isTab_iff.1 ht
  have hne : t ≠ [] := by rintro rfl; simp at t1
  obtain ⟨a, cap, rfl, _, hcc⟩ := hs.open hne
  refine ⟨a, cap, rfl, fun i hi => ?_⟩
  obtain ⟨bo, bc, hrow⟩ := hcc i hi
  have hlen := T.tab_row ht hi
  rw [hlen] at hrow
  have hrn : t.getD i [] ≠ [] := by intro h; rw [h] at hlen; simp at hlen; omega
  obtain ⟨b, cap2, e, hx⟩ := (hrow w (Chg.refl _ _)).2.open hrn
  rw [hlen] at e hx
  cases e
  exact ⟨b, bc, fun wr hw => ⟨(hrow wr hw).1, fun j hj => hx wr hw j hj⟩⟩

set_option maxRecDepth 100000 in
set_option maxHeartbeats 2000000 in
theorem said_good (v : Value) (t : List (List Int)) (a1 a2 a3 a4 : Int) (w : World) (hs : See2 w v t) (htl : t.length ≤ 9223372036854775807) (hrl : ∀ r ∈ t, r.length ≤ 9223372036854775807) (ht : T.isTab t = true) : Calls Try.prog 8 #[v, .int .i64 a1, .int .i64 a2, .int .i64 a3, .int .i64 a4] w (Ret (.bool true) w) := by
  have HT1 := hide fun ws (hw : Chg [] w ws) => table_any v t ws (hs.keep hw) htl
  have HTb := hide fun ws (hw : Chg [] w ws) => Table_any v t ws (hs.keep hw) hrl
  have HAw := hide fun ws => awake_any ws
  have HPw := hide fun xs (h : Pl t (2 ^ t.length - 1) (2 ^ T.cols t - 1) 0 xs) => Pl.whole ht h
  rw [ht] at HTb
  have hcs := cut_small t
  have hce := T.cut_of_isTab ht
  rw [hce] at HT1 hcs
  have HPl := hide fun v' ws (h : See2 ws v' t) => Plan_good v' t ws h hcs.1 hcs.2 ht
  have HLe := hide fun v' ws (h : See2 ws v' t) => Length_any v' t ws h hcs.1 hcs.2
  have hlv : lenV t = .tuple #[.int .i64 (T.len t (2 ^ t.length - 1) (2 ^ T.cols t - 1) : Int), .int .i64 0] := by unfold lenV; rw [if_pos ht]; rfl
  rw [hlv] at HLe
  unfold PlanOf at HPl
  generalize hlen : T.len t (2 ^ t.length - 1) (2 ^ T.cols t - 1) = l at *
  obtain ⟨⟨t1, t2, t3, t4⟩, _⟩ := T.isTab_iff.1 ht
  obtain ⟨a, cap, rfl, hE⟩ := ent_cells hs ht
  have HE := hide hE
  obtain ⟨A, hA, hAn⟩ := mod_small a1 t.length (by omega) (by omega)
  obtain ⟨B, hB, hBn⟩ := mod_small a2 (T.cols t) (by omega) (by omega)
  obtain ⟨C, hC, hCn⟩ := mod_small a3 t.length (by omega) (by omega)
  obtain ⟨D, hD, hDn⟩ := mod_small a4 (T.cols t) (by omega) (by omega)
  have HRt := hide fun ps (h : rightM t ps = true) => rightM_iff.1 h
  clear hs htl hrl hcs ht hce hlen hlv hE
  generalize hn : t.length = n at *
  generalize hm : T.cols t = m at *
  clear hn hm
  have dz : ((n : Int) == 0) = false := by simp; omega
  have dz2 : ((m : Int) == 0) = false := by simp; omega
  have n0 : (0 : Int) < (n : Int) := by omega
  go_enter Try.func8, Try.ntmps8
  go_wp2_with fail
  refine (HT1.out _ (Chg.refl _ _)).mono ?_
  rintro e w1 ⟨v1, rfl, hI, hw1⟩
  have HI := hide hI
  have C1 := hide hw1
  clear hI hw1
  go_wp2_with fail
  refine (HPl.out _ _ HI.out).mono ?_
  rintro e w2 ⟨v2, xs, rfl, hP, ho, hw2⟩
  obtain ⟨q1, q2, q3, q4⟩ := HPw.out xs hP
  have C2 : Hid (Chg [] w w2) := hide (C1.out.trans hw2)
  have S2 := hide (nodes_see ho)
  have Q1 := hide q1
  have Q2 := hide q2
  have Q3 := hide q3
  have Q4 := hide q4
  have hne : Hid (xs ≠ []) := hide (by rintro rfl; exact absurd (isPl_iff.1 q1).1 (by simp))
  clear hw2 ho hP q1 q2 q3 q4
  go_wp2_with fail
  refine (HT1.out _ C2.out).mono ?_
  rintro e w3 ⟨v3, rfl, hI3, hw3⟩
  have HI3 := hide hI3
  have S3 := hide (S2.out.keep hw3)
  have C3 := hide (C2.out.trans hw3)
  clear hI3 hw3
  go_wp2_with fail
  refine (HLe.out _ _ HI3.out).mono ?_
  rintro e w4 ⟨rfl, hw4⟩
  have C4 : Hid (Chg [] w w4) := hide (C3.out.trans hw4)
  have S4 := hide (S3.out.keep hw4)
  clear hw4
  go_wp2_with fail
  refine (HTb.out _ C4.out).mono ?_
  rintro e w5 ⟨rfl, hw5⟩
  have C5 : Hid (Chg [] w w5) := hide (C4.out.trans hw5)
  have S5 := hide (S4.out.keep hw5)
  clear hw5
  obtain ⟨b0, c0, hE0⟩ := HE.out 0 (by omega)
  rw [add_nought] at hE0
  have f0 := (hE0 _ C5.out).1
  go_wp2
  go_quiet (fail)
  rw [hA, hB]
  have C6 : Hid (Chg [] w (w5.drewN nq)) := hide (C5.out.drewN _)
  have S6 := hide (S5.out.keep ((Chg.refl [] w5).drewN nq))
  clear C5 S5 f0
  generalize w5.drewN nq = w6 at C6 S6 ⊢
  have f0 := (hE0 _ C6.out).1
  go_wp2
  go_quiet (fail)
  rw [hC, hD]
  have C7 : Hid (Chg [] w (w6.drewN nq)) := hide (C6.out.drewN _)
  have S7 := hide (S6.out.keep ((Chg.refl [] w6).drewN nq))
  clear C6 S6 f0 hA hB hC hD hE0
  generalize w6.drewN nq = w7 at C7 S7 ⊢
  have hlx : xs.length ≤ 1000 := by have := Q2.out; omega
  go_wp2_with fail
  refine (CloneN_any v2 xs _ S7.out hlx hne.out).mono ?_
  rintro e w8 ⟨v8, rfl, hS8, hw8⟩
  have C8 : Hid (Chg [] w w8) := hide (C7.out.trans hw8)
  have S8 := hide (S7.out.keep hw8)
  have S8' := hide hS8
  clear hw8 hS8
  go_wp2_with fail
  refine (Run_good v8 xs A B _ S8'.out Q1.out (by omega) (by omega)).mono ?_
  rintro e w9 ⟨v9, rfl, hI9, hw9⟩
  have C9 : Hid (Chg [] w w9) := hide (C8.out.trans hw9)
  have S9 := hide (S8.out.keep hw9)
  have X9 := hide hI9
  clear hw9 hI9
  go_wp2_with fail
  refine (CloneN_any v2 xs _ S9.out hlx hne.out).mono ?_
  rintro e w10 ⟨v10, rfl, hS10, hw10⟩
  have C10 : Hid (Chg [] w w10) := hide (C9.out.trans hw10)
  have S10 := hide (S9.out.keep hw10)
  have S10' := hide hS10
  have X10 := hide (X9.out.keep hw10)
  clear hw10 hS10
  go_wp2_with fail
  refine (Run_good v10 xs C D _ S10'.out Q1.out (by omega) (by omega)).mono ?_
  rintro e w11 ⟨v11, rfl, hI11, hw11⟩
  have C11 : Hid (Chg [] w w11) := hide (C10.out.trans hw11)
  have S11 := hide (S10.out.keep hw11)
  have X11 := hide (X10.out.keep hw11)
  have Y11 := hide hI11
  clear hw11 hI11
  go_wp2_with fail
  refine (Run_good v2 xs A D _ S11.out Q1.out (by omega) (by omega)).mono ?_
  rintro e w12 ⟨v12, rfl, hI12, hw12⟩
  have C12 : Hid (Chg [] w w12) := hide (C11.out.trans hw12)
  have X12 := hide (X11.out.keep hw12)
  have Y12 := hide (Y11.out.keep hw12)
  have Z12 := hide hI12
  clear hw12 hI12
  obtain ⟨p1, p2⟩ := runM_pos Q1.out A B
  have hdep : (runM xs A B).length ≤ l + 1 := by
    have h1 := runA_len Q1.out A B xs.length 0 (by have := (isPl_iff.1 Q1.out).1; omega) (by omega)
    rw [← runA_start, Q4.out] at h1
    exact h1.2
  obtain ⟨g, cap3, rfl, hg, fl⟩ := ints_last X12.out p1
  obtain ⟨bA, cA, hEA⟩ := HE.out A hAn
  obtain ⟨fA, gA⟩ := hEA _ C12.out
  have gAB := gA B hBn
  have gAD := gA D hDn
  obtain ⟨bC, cC, hEC⟩ := HE.out C hCn
  obtain ⟨fC, gC⟩ := hEC _ C12.out
  have gCD := gC D hDn
  have hRA : lastM xs A B = T.ent t A B := HRt.out xs Q3.out A B hAn hBn
  have fl : w12.cell? ⟨g, (runM xs A B).length - 1, none⟩ = some (.int .i64 (T.ent t A B)) := by rw [← hRA]; exact fl
  obtain ⟨N, hN⟩ : ∃ N, N = (runM xs A B).length := ⟨_, rfl⟩
  rw [← hN] at fl p1 p2 hdep X12 ⊢
  obtain ⟨K, hK⟩ : ∃ K, K = N - 1 := ⟨_, rfl⟩
  rw [← hK] at fl
  obtain ⟨M, hM⟩ : ∃ M, M = l + 1 := ⟨_, rfl⟩
  have hl6 : l ≤ 100 := by have := depA_le Q1.out 0; rw [Q4.out] at this; exact this
  have hw : IntKind.i64.wrap ((N : Int) - 1) = (K : Int) := by rw [show (N : Int) - 1 = (K : Int) by omega]; exact wraps_i64 _ (by omega) (by omega)
  have hw2 : IntKind.i64.wrap ((l : Int) + 1) = (M : Int) := by rw [show (l : Int) + 1 = (M : Int) by omega]; exact wraps_i64 _ (by omega) (by omega)
  have i1 : (0 : Int) ≤ (K : Int) := by omega
  have i2 : (K : Int) < (N : Int) := by omega
  have dk : ((N : Int) == 0) = false := by simp; omega
  have dl : decide ((M : Int) < (N : Int)) = false := by simp; omega
  have dl' : decide (M < N) = false := by simp; omega
  have iA0 : (0 : Int) ≤ (A : Int) := by omega
  have iA : (A : Int) < (n : Int) := by omega
  have iB0 : (0 : Int) ≤ (B : Int) := by omega
  have iB : (B : Int) < (m : Int) := by omega
  have iC0 : (0 : Int) ≤ (C : Int) := by omega
  have iC : (C : Int) < (n : Int) := by omega
  have iD0 : (0 : Int) ≤ (D : Int) := by omega
  have iD : (D : Int) < (m : Int) := by omega
  have hAD0 : lastM xs A D = T.ent t A D := HRt.out xs Q3.out A D hAn hDn
  have hCD0 : lastM xs C D = T.ent t C D := HRt.out xs Q3.out C D hCn hDn
  have hAB0 : lastM xs A B = T.ent t A B := hRA
  generalize hAB : T.ent t A B = zAB at *
  generalize hAD : T.ent t A D = zAD at *
  generalize hCD : T.ent t C D = zCD at *
  have dn : (zAB != zAB) = false := by simp
  clear hK hN hM gA gC hRA p1 p2 hdep hl6 hlx
  go_wp2
  go_quiet (fail)
  have C13 : Hid (Chg [] w (w12.drewN nq)) := hide (C12.out.drewN _)
  have HD := (Chg.refl [] w12).drewN nq
  have X13 := hide ((X12.out.keep HD).toSee)
  have Y13 := hide ((Y12.out.keep HD).toSee)
  have Z13 := hide ((Z12.out.keep HD).toSee)
  clear HD C12 X12 Y12 Z12 fA fC gAB gAD gCD fl
  generalize w12.drewN nq = w13 at C13 X13 Y13 Z13 ⊢
  have HLt := hide fun i j => (runM_pos Q1.out i j).2
  have fA := fun x : ExtOf w13 => (hEA _ (C13.out.trans x.chg)).1
  have fC := fun x : ExtOf w13 => (hEC _ (C13.out.trans x.chg)).1
  have gAB := fun x : ExtOf w13 => (hEA _ (C13.out.trans x.chg)).2 B hBn
  have gAD := fun x : ExtOf w13 => (hEA _ (C13.out.trans x.chg)).2 D hDn
  have gCD := fun x : ExtOf w13 => (hEC _ (C13.out.trans x.chg)).2 D hDn
  rw [hAB] at gAB
  rw [hAD] at gAD
  rw [hCD] at gCD
  have HAw' := hide fun ws (hw : Chg [] w13 ws) => HAw.out ws
  have HE1 := hide fun ws (hw : Chg [] w13 ws) => Equal_any _ _ _ _ ws (X13.out.keep hw) (Y13.out.keep hw) (by have := HLt.out A B; omega)
  have HE2 := hide fun ws (hw : Chg [] w13 ws) => Equal_any _ _ _ _ ws (X13.out.keep hw) (Z13.out.keep hw) (by have := HLt.out A B; omega)
  by_cases hsame : runM xs A B = runM xs C D
  · have hmix : runM xs A D = runM xs A B := said_mix Q1.out A B C D xs.length 0 (by have := (isPl_iff.1 Q1.out).1; omega) (by omega) hsame
    have e1 : zAD = zAB := by rw [← hAD0, ← hAB0]; unfold lastM; rw [hmix]
    have e2 : zCD = zAB := by rw [← hCD0, ← hAB0]; unfold lastM; rw [hsame]
    rw [hmix] at HE2
    rw [← hsame] at HE1
    have dd : decide (runM xs A B = runM xs A B) = true := by simp
    rw [dd] at HE1 HE2
    rw [e1] at gAD
    rw [e2] at gCD
    have HE := hide fun ws (hw : Chg [] w13 ws) u (hu : u = v11 ∨ u = v12) => (by
      rcases hu with rfl | rfl
      · exact HE1.out ws hw
      · exact HE2.out ws hw : Calls Try.prog 32 #[.slice (some ⟨g, 0, none⟩) N cap3, u] ws (Ret (.bool true) ws))
    have dn : (zAB == zAB) = true := by simp
    clear e1 e2 hmix hsame hAB0 hAD0 hCD0 hAB hAD hCD hEA hEC dd
    go_wp2
    refine wp_region_ext (by kernel_rfl) (by kernel_rfl) ?_
    repeat (first | go_big_quiet_step (((first | (go_at_call 32; exact calls_of_ret (HE.out _ (ExtOf.chg _) _ (by first | exact .inl rfl | exact .inr rfl))) | (go_at_call 20; exact calls_of_ret (HAw'.out _ (ExtOf.chg _)))))) | quiet_step (((first | (go_at_call 32; exact calls_of_ret (HE.out _ (ExtOf.chg _) _ (by first | exact .inl rfl | exact .inr rfl))) | (go_at_call 20; exact calls_of_ret (HAw'.out _ (ExtOf.chg _)))))))
    refine wpQuiet_nil ?_
    intro wx hx
    go_wp2
    go_ret
    exact ⟨rfl, C13.out.trans hx⟩
  · have dd : decide (runM xs A B = runM xs C D) = false := by simpa using hsame
    rw [dd] at HE1
    clear hsame hAB0 hAD0 hCD0 hAB hAD hCD hEA hEC dd
    go_wp2
    refine wp_region_ext (by kernel_rfl) (by kernel_rfl) ?_
    repeat (first | go_big_quiet_step (((first | (go_at_call 32; exact calls_of_ret (HE1.out _ (ExtOf.chg _))) | (go_at_call 20; exact calls_of_ret (HAw'.out _ (ExtOf.chg _)))))) | quiet_step (((first | (go_at_call 32; exact calls_of_ret (HE1.out _ (ExtOf.chg _))) | (go_at_call 20; exact calls_of_ret (HAw'.out _ (ExtOf.chg _)))))))
    refine wpQuiet_nil ?_
    intro wx hx
    go_wp2
    go_ret
    exact ⟨rfl, C13.out.trans hx⟩
theorem talkSaid_walk (v a b c d : Value) (w : World) (hv : IsRows w v) (ha : IsInt a) (hb : IsInt b) (hc : IsInt c) (hd : IsInt d) : Calls Try.prog 8 #[v, a, b, c, d] w (Ret (.bool true) w) := by
  obtain ⟨t, hs, htl, hrl⟩ := hv
  obtain ⟨a, rfl, _⟩ := ha
  obtain ⟨b, rfl, _⟩ := hb
  obtain ⟨c, rfl, _⟩ := hc
  obtain ⟨d, rfl, _⟩ := hd
  cases ht : T.isTab t with
  | false => exact said_bad v t a b c d w hs htl ht
  | true => exact said_good v t a b c d w hs htl hrl ht
end Go.Proofs.Ytaapamoglgpocaa
