/- Walk: the statement TalkRectangles. -/
import Derived.Test.YtaapamoglgpocaaCo3
import Derived.Test.YtaapamoglgpocaaRecP
namespace Go.Proofs.Ytaapamoglgpocaa
open Go.RowKit

set_option maxRecDepth 100000 in
set_option maxHeartbeats 4000000 in
theorem recs_bad (v : Value) (t : List (List Int)) (w : World) (hs : See2 w v t) (htl : t.length ≤ 9223372036854775807) (ht : T.isTab t = false) :
    Calls Try.prog 16 #[v] w (Ret (.bool true) w) := by
  have HT1 := hide fun ws (hw : Chg [] w ws) => table_any v t ws (hs.keep hw) htl
  have HAw := hide fun ws => awake_any ws
  have HLe := hide fun v' ws (h : See2 ws v' (T.cut t)) => Length_any v' (T.cut t) ws h (cut_small t).1 (cut_small t).2
  have h0 : lenV (T.cut t) = .tuple #[.int .i64 0, .int .i64 2] := by unfold lenV; rw [T.isTab_cut, ht]; rfl
  rw [h0] at HLe
  clear hs htl ht h0
  go_enter Try.func16, Try.ntmps16
  have C0 : Hid (Chg [] w w) := hide (Chg.refl _ _)
  go_wp2_with fail
  refine (HT1.out _ C0.out).mono ?_
  rintro e w1 ⟨v1, rfl, hI, hw⟩
  have C1 : Hid (Chg [] w w1) := hide (C0.out.trans hw)
  have A1 := hide hI
  clear hw hI
  go_wp2_with fail
  refine (HLe.out _ _ A1.out).mono ?_
  rintro e w2 ⟨rfl, hw⟩
  have C2 : Hid (Chg [] w w2) := hide (C1.out.trans hw)
  have A2 := hide (A1.out.keep hw)
  clear hw 
  go_wp2_with fail
  refine (HAw.out _).mono ?_
  rintro e w3 ⟨rfl, hw⟩
  have C3 : Hid (Chg [] w w3) := hide (C2.out.trans hw)
  clear hw 
  go_wp2
  go_ret
  exact ⟨rfl, C3.out⟩

set_option maxRecDepth 100000 in
set_option maxHeartbeats 4000000 in
theorem recs_good (v : Value) (t : List (List Int)) (w : World) (hs : See2 w v t) (htl : t.length ≤ 9223372036854775807) (ht : T.isTab t = true) :
    Calls Try.prog 16 #[v] w (Ret (.bool true) w) := by
  have HT1 := hide fun ws (hw : Chg [] w ws) => table_any v t ws (hs.keep hw) htl
  have HAw := hide fun ws => awake_any ws
  have hcs := cut_small t
  have hce := T.cut_of_isTab ht
  rw [hce] at HT1 hcs
  have HLe := hide fun v' ws (h : See2 ws v' t) => Length_any v' t ws h hcs.1 hcs.2
  have h0 : lenV t = .tuple #[.int .i64 (lenT t : Int), .int .i64 0] := by unfold lenV; rw [if_pos ht]
  rw [h0] at HLe
  have HPt := hide fun v' ws (h : See2 ws v' t) => Part_any v' t ws h hcs.1 hcs.2
  have h1 : partV t = .tuple #[.int .i64 (partN t : Int), .int .i64 0] := by unfold partV; rw [if_pos ht]
  rw [h1] at HPt
  have HRk := hide fun v' ws (h : See2 ws v' t) => Rank_any v' t ws h hcs.1 hcs.2
  have h2 : rankV 0 t = .tuple #[.int .i64 (rankN 0 t : Int), .int .i64 0] := by unfold rankV; rw [if_pos ht]
  rw [h2] at HRk
  have HCa := hide fun v' ws (h : See2 ws v' t) => Cover_good v' t 0 ws h hcs.1 hcs.2 ht (.inl rfl)
  have HCb := hide fun v' ws (h : See2 ws v' t) => Cover_good v' t 1 ws h hcs.1 hcs.2 ht (.inr rfl)
  have HCs := hide fun (z : Int) (hz : z = 0 ∨ z = 1) (L : List (Nat × Nat)) v' u' ws (h : See2 ws v' t) (h2 : SeeP ws u' (L.map toP)) (hl : L.length ≤ 17) (hL : ∀ p ∈ L, p ∈ allG t z) (hc : covB t z (L.map toP) = true) => Covers_good v' u' t z _ ws h h2 hcs.1 hcs.2 (by rw [List.length_map]; omega) (fun y hy => by
    obtain ⟨p, hp, rfl⟩ := List.mem_map.1 hy
    have := allG_small ht (hL p hp)
    show ((p.1 : Int) < _ ∧ (p.2 : Int) < _)
    omega) ht hz
  have HCl := hide fun (L : List (Nat × Nat)) cv ws (h : SeeP ws cv (L.map toP)) (hl : L.length ≤ 17) => CloneP_any cv (L.map toP) ws h (by rw [List.length_map]; omega)
  have p1 := part_talk ht
  have p2 := part_both ht false
  have p3 := rank_part ht
  have p4 : lenT t ≤ 6 := by
    obtain ⟨⟨t1, t2, t3, t4⟩, _⟩ := T.isTab_iff.1 ht
    have q1 := whole_lt t1 t2
    have q2 := whole_lt t3 t4
    exact T.len_lt ht q1.1 q2.1 q1.2 q2.2
  have p5 : partN t ≤ 16 := leastN_le t _
  have k1 := fewN_le (setsN t 0) false (entN t 0)
  have k2 := fewN_le (setsN t 1) false (entN t 1)
  have p1' : partN t ≤ 2 ^ lenT t := p1
  generalize fewN (setsN t 0) false (entN t 0) = K0 at *
  generalize fewN (setsN t 1) false (entN t 1) = K1 at *
  clear hs htl ht h0 h1 h2 hce hcs p1
  generalize lenT t = n at *
  generalize partN t = pn at *
  generalize rankN 0 t = rk at *
  have e1 : (2 : Int) ^ n = ((2 ^ n : Nat) : Int) := by simp
  have hP64 : 2 ^ n ≤ 2 ^ 6 := Nat.pow_le_pow_right (by decide) p4
  obtain ⟨P, hP⟩ : ∃ P, P = 2 ^ n := ⟨_, rfl⟩
  rw [← hP] at e1 hP64 p1'
  clear hP
  have hPw : IntKind.i64.wrap (P : Int) = (P : Int) := by rw [IntKind.wrap_i64]; omega
  have n64 : (n : Int) ≤ 64 := by omega
  have d1 : decide ((0 : Int) ≤ (n : Int)) = true := by simp
  have d2 : decide ((n : Int) < 9) = true := by simp; omega
  have d3 : decide ((pn : Int) ≤ (P : Int)) = true := by simp; omega
  have d4 : decide ((rk : Int) ≤ (pn : Int)) = true := by simp; omega
  have u2 : n < 9 := by omega
  go_enter Try.func16, Try.ntmps16
  have C0 : Hid (Chg [] w w) := hide (Chg.refl _ _)
  go_wp2_with fail
  refine (HT1.out _ C0.out).mono ?_
  rintro e w1 ⟨v1, rfl, hI, hw⟩
  have C1 : Hid (Chg [] w w1) := hide (C0.out.trans hw)
  have A1 := hide hI
  clear hw hI
  go_wp2_with fail
  refine (HLe.out _ _ A1.out).mono ?_
  rintro e w2 ⟨rfl, hw⟩
  have C2 : Hid (Chg [] w w2) := hide (C1.out.trans hw)
  have A2 := hide (A1.out.keep hw)
  clear hw 
  go_wp2_with fail
  refine (HT1.out _ C2.out).mono ?_
  rintro e w3 ⟨v3, rfl, hI, hw⟩
  have C3 : Hid (Chg [] w w3) := hide (C2.out.trans hw)
  have A3 := hide hI
  clear hw hI
  go_wp2_with fail
  refine (HPt.out _ _ A3.out).mono ?_
  rintro e w4 ⟨rfl, hw⟩
  have C4 : Hid (Chg [] w w4) := hide (C3.out.trans hw)
  have A4 := hide (A3.out.keep hw)
  clear hw 
  go_wp2_with fail
  refine (HT1.out _ C4.out).mono ?_
  rintro e w5 ⟨v5, rfl, hI, hw⟩
  have C5 : Hid (Chg [] w w5) := hide (C4.out.trans hw)
  have A5 := hide hI
  clear hw hI
  go_wp2_with fail
  refine (HCa.out _ _ A5.out).mono ?_
  rintro e w6 ⟨vCa, La, rfl, hrow, hw, q1, q2, q3⟩
  have C6 : Hid (Chg [] w w6) := hide (C5.out.trans hw)
  have Ca6 := hide (pairs_see hrow)
  obtain ⟨oCa, cCa, rfl, _⟩ := row_shape hrow
  have hlCa : La.length ≤ 17 := by omega
  have HQCa := hide (And.intro q1 q3)
  rw [List.length_map, q2] at Ca6 ⊢
  have hlCa := hide hlCa
  clear hw hrow q1 q2 q3
  go_wp2_with fail
  refine (HT1.out _ C6.out).mono ?_
  rintro e w7 ⟨v7, rfl, hI, hw⟩
  have C7 : Hid (Chg [] w w7) := hide (C6.out.trans hw)
  have Ca7 := hide (Ca6.out.keep hw)
  have A7 := hide hI
  clear hw hI
  go_wp2_with fail
  refine (HCb.out _ _ A7.out).mono ?_
  rintro e w8 ⟨vCb, Lb, rfl, hrow, hw, q1, q2, q3⟩
  have C8 : Hid (Chg [] w w8) := hide (C7.out.trans hw)
  have Ca8 := hide (Ca7.out.keep hw)
  have Cb8 := hide (pairs_see hrow)
  obtain ⟨oCb, cCb, rfl, _⟩ := row_shape hrow
  have hlCb : Lb.length ≤ 17 := by omega
  have HQCb := hide (And.intro q1 q3)
  rw [List.length_map, q2] at Cb8 ⊢
  have hlCb := hide hlCb
  clear hw hrow q1 q2 q3
  go_wp2_with fail
  refine (HT1.out _ C8.out).mono ?_
  rintro e w9 ⟨v9, rfl, hI, hw⟩
  have C9 : Hid (Chg [] w w9) := hide (C8.out.trans hw)
  have Ca9 := hide (Ca8.out.keep hw)
  have Cb9 := hide (Cb8.out.keep hw)
  have A9 := hide hI
  clear hw hI
  go_wp2_with fail
  refine (HRk.out _ _ A9.out).mono ?_
  rintro e w10 ⟨rfl, hw⟩
  have C10 : Hid (Chg [] w w10) := hide (C9.out.trans hw)
  have Ca10 := hide (Ca9.out.keep hw)
  have Cb10 := hide (Cb9.out.keep hw)
  have A10 := hide (A9.out.keep hw)
  clear hw 
  go_wp2_with fail
  refine (HT1.out _ C10.out).mono ?_
  rintro e w11 ⟨v11, rfl, hI, hw⟩
  have C11 : Hid (Chg [] w w11) := hide (C10.out.trans hw)
  have Ca11 := hide (Ca10.out.keep hw)
  have Cb11 := hide (Cb10.out.keep hw)
  have A11 := hide hI
  clear hw hI
  go_wp2_with fail
  refine (HCl.out La _ _ Ca11.out hlCa.out).mono ?_
  rintro e w12 ⟨v12, rfl, hI, hw⟩
  have C12 : Hid (Chg [] w w12) := hide (C11.out.trans hw)
  have Ca12 := hide (Ca11.out.keep hw)
  have Cb12 := hide (Cb11.out.keep hw)
  have A12 := hide (A11.out.keep hw)
  have E12 := hide (pairs_see hI)
  clear hw hI
  have HKCa := hide (HCs.out 0 (.inl rfl) La _ _ _ A12.out E12.out hlCa.out HQCa.out.2 HQCa.out.1)
  rw [HQCa.out.1] at HKCa
  go_wp2_with fail
  refine (HKCa.out).mono ?_
  rintro e w13 ⟨rfl, hw⟩
  have C13 : Hid (Chg [] w w13) := hide (C12.out.trans hw)
  have Ca13 := hide (Ca12.out.keep hw)
  have Cb13 := hide (Cb12.out.keep hw)
  have A13 := hide (A12.out.keep hw)
  have E13 := hide (E12.out.keep hw)
  clear hw 
  go_wp2_with fail
  refine (HT1.out _ C13.out).mono ?_
  rintro e w14 ⟨v14, rfl, hI, hw⟩
  have C14 : Hid (Chg [] w w14) := hide (C13.out.trans hw)
  have Ca14 := hide (Ca13.out.keep hw)
  have Cb14 := hide (Cb13.out.keep hw)
  have A14 := hide hI
  clear hw hI
  go_wp2_with fail
  refine (HCl.out Lb _ _ Cb14.out hlCb.out).mono ?_
  rintro e w15 ⟨v15, rfl, hI, hw⟩
  have C15 : Hid (Chg [] w w15) := hide (C14.out.trans hw)
  have Ca15 := hide (Ca14.out.keep hw)
  have Cb15 := hide (Cb14.out.keep hw)
  have A15 := hide (A14.out.keep hw)
  have E15 := hide (pairs_see hI)
  clear hw hI
  have HKCb := hide (HCs.out 1 (.inr rfl) Lb _ _ _ A15.out E15.out hlCb.out HQCb.out.2 HQCb.out.1)
  rw [HQCb.out.1] at HKCb
  go_wp2_with fail
  refine (HKCb.out).mono ?_
  rintro e w16 ⟨rfl, hw⟩
  have C16 : Hid (Chg [] w w16) := hide (C15.out.trans hw)
  have Ca16 := hide (Ca15.out.keep hw)
  have Cb16 := hide (Cb15.out.keep hw)
  have A16 := hide (A15.out.keep hw)
  have E16 := hide (E15.out.keep hw)
  clear hw 
  have sab : K0 + K1 ≤ pn := p2
  clear HCa HCb HCs HCl HKCa HKCb HQCa HQCb
  generalize K0 = na at *
  generalize K1 = nb at *
  have hsum : IntKind.i64.wrap ((na : Int) + (nb : Int)) = ((na + nb : Nat) : Int) := by rw [IntKind.wrap_i64]; omega
  have d5 : decide (((na + nb : Nat) : Int) ≤ (pn : Int)) = true := by simp; omega
  obtain ⟨ns, hns⟩ : ∃ ns, ns = na + nb := ⟨_, rfl⟩
  rw [← hns] at hsum d5 sab
  clear hns
  go_wp2_with fail
  refine (HAw.out _).mono ?_
  rintro e w17 ⟨rfl, hw⟩
  have C17 : Hid (Chg [] w w17) := hide (C16.out.trans hw)
  have Ca17 := hide (Ca16.out.keep hw)
  have Cb17 := hide (Cb16.out.keep hw)
  clear hw 
  go_wp2
  go_ret
  exact ⟨rfl, C17.out⟩

theorem talkRectangles_walk (v : Value) (w : World) (hv : IsRows w v) : Calls Try.prog 16 #[v] w (Ret (.bool true) w) := by
  obtain ⟨t, hs, htl, _⟩ := hv
  cases ht : T.isTab t with
  | false => exact recs_bad v t w hs htl ht
  | true => exact recs_good v t w hs htl ht
end Go.Proofs.Ytaapamoglgpocaa
