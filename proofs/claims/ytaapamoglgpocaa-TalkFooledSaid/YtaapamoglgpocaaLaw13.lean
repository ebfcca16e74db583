/- Walk: the statement TalkFooled. -/
import Derived.Test.YtaapamoglgpocaaCo3
import Derived.Test.YtaapamoglgpocaaFoP
namespace Go.Proofs.Ytaapamoglgpocaa
open Go.RowKit

/-- How many of the first q are in the rectangle. -/
def cntQ (p : Nat × Nat) (F : List Pr) (q : Nat) : Nat := (F.take q).countP (hasP (toP p))
theorem cntQ_succ {p : Nat × Nat} {F : List Pr} {q : Nat} (h : q < F.length) : cntQ p F (q + 1) = cntQ p F q + (if hasP (toP p) (F.getD q pr0) = true then 1 else 0) := by
  unfold cntQ
  rw [takeP_snoc h, List.countP_append]
  rw [List.countP_cons, List.countP_nil, Nat.zero_add]
theorem bit_mul (a c i j : Nat) : (a / 2 ^ i % 2) * (c / 2 ^ j % 2) = if T.has a c i j = true then 1 else 0 := by
  unfold T.has
  have h1 := Nat.mod_two_eq_zero_or_one (a / 2 ^ i)
  have h2 := Nat.mod_two_eq_zero_or_one (c / 2 ^ j)
  rcases h1 with h1 | h1 <;> rcases h2 with h2 | h2 <;> simp [h1, h2]
set_option maxRecDepth 100000 in
set_option maxHeartbeats 4000000 in
theorem fooled_bad (v u : Value) (t : List (List Int)) (x : Int) (l : List Pr) (w : World) (hs : See2 w v t) (htl : t.length ≤ 9223372036854775807) (hu : SeeP w u l) (hb : (T.isTab t && decide (x = 0 ∨ x = 1)) = false) :
    Calls Try.prog 15 #[v, .int .i64 x, u] w (Ret (.bool true) w) := by
  have HT1 := hide fun ws (hw : Chg [] w ws) => table_any v t ws (hs.keep hw) htl
  have HAw := hide fun ws => awake_any ws
  have HCo := hide fun v' ws (h : See2 ws v' (T.cut t)) => Cover_bad v' (T.cut t) x ws h (cut_small t).1 (cut_small t).2 (by rw [T.isTab_cut]; exact hb)
  have HFo := hide fun v' ws (h : See2 ws v' (T.cut t)) => Fool_bad v' (T.cut t) x ws h (cut_small t).1 (cut_small t).2 (by rw [T.isTab_cut]; exact hb)
  obtain ⟨ao, cap, rfl⟩ := hs.shape
  obtain ⟨uo, uc, rfl, huc⟩ := hu.shape
  clear hs htl hu hb
  generalize t.length = n at *
  generalize l.length = m at *
  go_enter Try.func15, Try.ntmps15
  have C0 : Hid (Chg [] w w) := hide (Chg.refl _ _)
  go_wp2_with fail
  refine (HT1.out _ C0.out).mono ?_
  rintro e w1 ⟨v1, rfl, hI, hw⟩
  have C1 : Hid (Chg [] w w1) := hide (C0.out.trans hw)
  have A1 := hide hI
  clear hw hI
  go_wp2_with fail
  refine (HFo.out _ _ A1.out).mono ?_
  rintro e w2 ⟨rfl, hw⟩
  have C2 : Hid (Chg [] w w2) := hide (C1.out.trans hw)
  have A2 := hide (A1.out.keep hw)
  clear hw 
  go_wp2_with fail
  refine (HT1.out _ C2.out).mono ?_
  rintro e w3 ⟨v3, rfl, hI, hw⟩
  have C3 : Hid (Chg [] w w3) := hide (C2.out.trans hw)
  have A3 := hide hI
  clear hw hI
  go_wp2_with fail
  refine (HCo.out _ _ A3.out).mono ?_
  rintro e w4 ⟨rfl, hw⟩
  have C4 : Hid (Chg [] w w4) := hide (C3.out.trans hw)
  have A4 := hide (A3.out.keep hw)
  clear hw 
  go_wp2_with fail
  refine (HAw.out _).mono ?_
  rintro e w5 ⟨rfl, hw⟩
  have C5 : Hid (Chg [] w w5) := hide (C4.out.trans hw)
  clear hw 
  go_wp2
  go_ret
  exact ⟨rfl, C5.out⟩

set_option maxRecDepth 100000 in
set_option maxHeartbeats 4000000 in
theorem fooled_good (v u : Value) (t : List (List Int)) (x : Int) (l : List Pr) (w : World) (hs : See2 w v t) (htl : t.length ≤ 9223372036854775807) (hrl : ∀ r ∈ t, r.length ≤ 9223372036854775807) (hu : SeeP w u l) (hll : l.length ≤ 9223372036854775807) (ht : T.isTab t = true) (hx : x = 0 ∨ x = 1) :
    Calls Try.prog 15 #[v, .int .i64 x, u] w (Ret (.bool true) w) := by
  have HT1 := hide fun ws (hw : Chg [] w ws) => table_any v t ws (hs.keep hw) htl
  have HAw := hide fun ws => awake_any ws
  have HTb := hide fun ws (hw : Chg [] w ws) => Table_any v t ws (hs.keep hw) hrl
  have HPa := hide fun ws (hw : Chg [] w ws) => pairs_any u l ws (hu.keep hw)
  have hcs := cut_small t
  have hce := T.cut_of_isTab ht
  rw [hce] at HT1 hcs
  have HCo := hide fun v' ws (h : See2 ws v' t) => Cover_good v' t x ws h hcs.1 hcs.2 ht hx
  have HFo := hide fun v' ws (h : See2 ws v' t) => Fool_good v' t x ws h hcs.1 hcs.2 ht hx
  have hff := (fools_eq t x (foolM t x)).trans (foolM_fools t x)
  have hfl : (foolM t x).length ≤ 16 := by
    obtain ⟨h1, _, h3⟩ := fools_all (foolM_fools t x)
    exact Nat.le_trans (sorted_sub _ _ (ents_sorted t x) h1 h3).length_le (ents_len ht x)
  have HF1 := hide fun v' u' ws (h : See2 ws v' t) (h2 : SeeP ws u' (foolM t x)) => Fools_good v' u' t x _ ws h hcs.1 hcs.2 ht hx h2 (by omega)
  rw [hff] at HF1
  have HF2 := hide fun v' u' ws (h : See2 ws v' t) (h2 : SeeP ws u' (l.take 40)) => Fools_good v' u' t x _ ws h hcs.1 hcs.2 ht hx h2 (by rw [List.length_take]; omega)
  rw [fools_take (ents_len ht x)] at HF2
  have HMax := hide (@foolM_max t x l)
  have HCl := hide fun cv ws (h : SeeP ws cv (foolM t x)) => CloneP_any cv (foolM t x) ws h (by omega)
  rw [ht] at HTb
  have HRv := hide fun ws => RValue_any x ws
  rw [decide_eq_true hx] at HRv
  have HIn : Hid (∀ y ∈ foolM t x, ∃ i j : Nat, i < 4 ∧ j < 4 ∧ y = ((i : Int), (j : Int))) := hide fun y hy => by
    obtain ⟨i, j, h1, h2, h3, _⟩ := ents_form ht ((fools_all (foolM_fools t x)).2.2 y hy)
    exact ⟨i, j, h1, h2, h3⟩
  have HCv : Hid (∀ L : List (Nat × Nat), (∀ p ∈ L, p ∈ allG t x) → covB t x (L.map toP) = true → (foolM t x).length ≤ L.length) := hide fun L h1 h2 => by
    obtain ⟨_, k2, k3⟩ := fools_all (foolM_fools t x)
    exact fool_cover ht L _ h1 k2 k3 fun y hy => covB_covers h2 y (k3 y hy)
  have HOn : Hid (∀ p ∈ allG t x, ∀ q, cntQ p (foolM t x) q ≤ 1) := hide fun p hp q => by
    obtain ⟨_, k2, k3⟩ := fools_all (foolM_fools t x)
    refine Nat.le_trans ?_ (fool_once ht hp _ k2 k3)
    unfold cntQ
    exact (List.take_sublist q _).countP_le
  have HSm : Hid (∀ p ∈ allG t x, p.1 < 16 ∧ p.2 < 16) := hide fun p hp => allG_small ht hp
  have HCs := hide (fun p q => @cntQ_succ p (foolM t x) q)
  have hK17 := fewN_le (setsN t x) false (entN t x)
  generalize fewN (setsN t x) false (entN t x) = K at *
  generalize foolsM t x l = b at *
  generalize foolM t x = F at *
  obtain ⟨ao, cap, rfl⟩ := hs.shape
  obtain ⟨uo, uc, rfl, huc⟩ := hu.shape
  clear hs htl hrl hu hll ht hx hcs hce hff
  generalize t.length = n at *
  generalize l.length = m at *
  go_enter Try.func15, Try.ntmps15
  have C0 : Hid (Chg [] w w) := hide (Chg.refl _ _)
  go_wp2_with fail
  refine (HT1.out _ C0.out).mono ?_
  rintro e w1 ⟨v1, rfl, hI, hw⟩
  have C1 : Hid (Chg [] w w1) := hide (C0.out.trans hw)
  have A1 := hide hI
  clear hw hI
  go_wp2_with fail
  refine (HFo.out _ _ A1.out).mono ?_
  rintro e w2 ⟨v2, rfl, hs2, hw⟩
  have C2 : Hid (Chg [] w w2) := hide (C1.out.trans hw)
  have A2 := hide (A1.out.keep hw)
  have B2 := hide hs2
  clear hw hs2
  obtain ⟨fo, fc, rfl, _⟩ := B2.out.shape
  go_wp2_with fail
  refine (HT1.out _ C2.out).mono ?_
  rintro e w3 ⟨v3, rfl, hI, hw⟩
  have C3 : Hid (Chg [] w w3) := hide (C2.out.trans hw)
  have B3 := hide (B2.out.keep hw)
  have A3 := hide hI
  clear hw hI
  go_wp2_with fail
  refine (HCo.out _ _ A3.out).mono ?_
  rintro e w4 ⟨vc, L, rfl, hrow, hw, q1, q2, q3⟩
  have C4 : Hid (Chg [] w w4) := hide (C3.out.trans hw)
  have B4 := hide (B3.out.keep hw)
  have D4 := hide (pairs_see hrow)
  obtain ⟨co, cc, rfl, _⟩ := row_shape hrow
  have hFL := HCv.out L q3 q1
  rw [List.length_map] at *
  have hL17 : L.length ≤ 17 := by omega
  have HQ3 := hide q3
  clear hw hrow q1 q2 q3
  go_wp2_with fail
  refine (HTb.out _ C4.out).mono ?_
  rintro e w5 ⟨rfl, hw⟩
  have C5 : Hid (Chg [] w w5) := hide (C4.out.trans hw)
  have B5 := hide (B4.out.keep hw)
  have D5 := hide (D4.out.keep hw)
  clear hw 
  go_wp2_with fail
  refine (HRv.out _).mono ?_
  rintro e w6 ⟨rfl, hw⟩
  have C6 : Hid (Chg [] w w6) := hide (C5.out.trans hw)
  have B6 := hide (B5.out.keep hw)
  have D6 := hide (D5.out.keep hw)
  clear hw 
  go_wp2_with fail
  refine (HT1.out _ C6.out).mono ?_
  rintro e w7 ⟨v7, rfl, hI, hw⟩
  have C7 : Hid (Chg [] w w7) := hide (C6.out.trans hw)
  have B7 := hide (B6.out.keep hw)
  have D7 := hide (D6.out.keep hw)
  have A7 := hide hI
  clear hw hI
  go_wp2_with fail
  refine (HCl.out _ _ B7.out).mono ?_
  rintro e w8 ⟨v8, rfl, hI, hw⟩
  have C8 : Hid (Chg [] w w8) := hide (C7.out.trans hw)
  have B8 := hide (B7.out.keep hw)
  have D8 := hide (D7.out.keep hw)
  have A8 := hide (A7.out.keep hw)
  have E8 := hide (pairs_see hI)
  clear hw hI
  go_wp2_with fail
  refine (HF1.out _ _ _ A8.out E8.out).mono ?_
  rintro e w9 ⟨rfl, hw⟩
  have C9 : Hid (Chg [] w w9) := hide (C8.out.trans hw)
  have B9 := hide (B8.out.keep hw)
  have D9 := hide (D8.out.keep hw)
  have A9 := hide (A8.out.keep hw)
  have E9 := hide (E8.out.keep hw)
  clear hw 
  obtain ⟨nf, hnf⟩ : ∃ nf, nf = F.length := ⟨_, rfl⟩
  obtain ⟨nc, hnc⟩ : ∃ nc, nc = L.length := ⟨_, rfl⟩
  rw [← hnf] at hfl hFL HMax HCs B9 ⊢
  rw [← hnc] at hFL hL17 D9 ⊢
  have HNf := hide hnf
  have HNc := hide hnc
  have dl : decide ((nc : Int) < (nf : Int)) = false := by simp; omega
  have dl2 : ¬ nc < nf := by omega
  clear hnf hnc HCo HFo HCl HF1 HCv HRv HTb
  go_wp2
  go_loopw [82] (fun iv wr => ∃ i : Nat, i ≤ nc ∧ iv = .int .i64 (i : Int) ∧ Hid (Chg [] w9 wr)) (fun iv _ => (nc - (intOf iv).toNat))
  case atStart => exact ⟨0, by omega, rfl, hide (Chg.refl _ _)⟩
  case round =>
    obtain ⟨i, hi, rfl, hI⟩ := hrel
    by_cases hlt : i < nc
    · have d1 : decide ((i : Int) < (nc : Int)) = true := by simpa using hlt
      have hlk : i < (L.map toP).length := by rw [List.length_map, ← HNc.out]; exact hlt
      have nx : L.map toP ≠ [] := fun h => by rw [h] at hlk; exact absurd hlk (Nat.not_lt_zero _)
      obtain ⟨a, cap', e, _, hc⟩ := D9.out.open nx
      rw [List.length_map, ← HNc.out] at e
      obtain ⟨rfl, rfl⟩ : co = some a ∧ cc = cap' := by simpa using e
      obtain ⟨fx, fy⟩ := hc wr hI.out i hlk
      have hget : (L.map toP).getD i pr0 = toP (L.getD i (0, 0)) := by
        rw [List.getD_eq_getElem?_getD, List.getElem?_map, List.getD_eq_getElem?_getD, List.getElem?_eq_getElem (by rw [← HNc.out]; exact hlt)]
        rfl
      rw [hget] at fx fy
      have hmem : L.getD i (0, 0) ∈ L := by
        rw [List.getD_eq_getElem?_getD, List.getElem?_eq_getElem (by rw [← HNc.out]; exact hlt)]
        exact List.getElem_mem _
      obtain ⟨r16, c16⟩ := HSm.out _ (HQ3.out _ hmem)
      have HOn2 := hide (HOn.out _ (HQ3.out _ hmem))
      obtain ⟨p, hp⟩ : ∃ p, p = L.getD i (0, 0) := ⟨_, rfl⟩
      rw [← hp] at fx fy r16 c16 HOn2
      have HCq := hide (fun q => HCs.out p q)
      have HZero : Hid (cntQ p F 0 = 0) := hide rfl
      obtain ⟨r, c⟩ := p
      unfold toP at fx fy
      dsimp only at fx fy r16 c16
      have i0 : (0 : Int) ≤ (i : Int) := by omega
      have i1 : (i : Int) < (nc : Int) := by omega
      have HBx := hide (Box.new wr #[.int .i64 (r : Int), .int .i64 (c : Int)] 60)
      have HCx := hide (hI.out.trans ((Chg.refl [] wr).alloc (.cells #[.int .i64 (r : Int), .int .i64 (c : Int)] 60)))
      clear nx hc e hget hmem hp hlk hI
      go_wp2
      generalize wr.alloc (.cells #[.int .i64 (r : Int), .int .i64 (c : Int)] 60) = W1 at HBx HCx ⊢
      generalize wr.heap.size = Bx at HBx ⊢
      go_loopw [15, 88] (fun nv qv ws => ∃ q : Nat, q ≤ nf ∧ nv = .int .i64 (cntQ (r, c) F q : Int) ∧ qv = .int .i64 (q : Int) ∧ Hid (Box ws Bx #[.int .i64 (r : Int), .int .i64 (c : Int)] 60 ∧ Chg [] w9 ws)) (fun _ qv _ => (nf - (intOf qv).toNat))
      case atStart => exact ⟨0, by omega, by rw [HZero.out]; rfl, rfl, hide ⟨HBx.out, HCx.out⟩⟩
      case round =>
        obtain ⟨q, hq, rfl, rfl, hJ⟩ := hrel
        by_cases hlq : q < nf
        · have d2 : decide ((q : Int) < (nf : Int)) = true := by simpa using hlq
          have hqk : q < F.length := by rw [← HNf.out]; exact hlq
          have nx : F ≠ [] := fun h => by rw [h] at hqk; exact absurd hqk (Nat.not_lt_zero _)
          obtain ⟨a2, cap2, e, _, hc⟩ := B9.out.open nx
          rw [← HNf.out] at e
          obtain ⟨rfl, rfl⟩ : fo = some a2 ∧ fc = cap2 := by simpa using e
          obtain ⟨gx, gy⟩ := hc wr hJ.out.2 q hqk
          obtain ⟨y1, y2, hy1, hy2, hye⟩ := HIn.out _ (getDP_mem hqk)
          have hst := HCq.out q hlq
          rw [hye, toP_has, ← bit_mul] at hst
          rw [hye] at gx gy
          have hon := HOn2.out q
          have hon1 := HOn2.out (q + 1)
          dsimp only at hst gx gy
          have j0 : (0 : Int) ≤ (q : Int) := by omega
          have j1 : (q : Int) < (nf : Int) := by omega
          have bx0 := hJ.out.1.cell 0
          have bx1 := hJ.out.1.cell 1
          have lbx := hJ.out.1.lt
          simp only [List.getElem?_toArray, List.getElem?_cons_zero, List.getElem?_cons_succ] at bx0 bx1
          have s1 := shr_int r y1
          have s2 := shr_int c y2
          have l1 : r / 2 ^ y1 < 2 ^ 63 := Nat.lt_of_le_of_lt (Nat.div_le_self _ _) (by omega)
          have l2 : c / 2 ^ y2 < 2 ^ 63 := Nat.lt_of_le_of_lt (Nat.div_le_self _ _) (by omega)
          have a1 := and_one _ l1
          have a2' := and_one _ l2
          have m1 := Nat.mod_two_eq_zero_or_one (r / 2 ^ y1)
          have m2 := Nat.mod_two_eq_zero_or_one (c / 2 ^ y2)
          have n1 : ((y1 : Int)) ≤ 62 := by omega
          have n2 : ((y2 : Int)) ≤ 62 := by omega
          have z1 : decide ((y1 : Int) < 0) = false := by simp
          have z2 : decide ((y2 : Int) < 0) = false := by simp
          have z3 : decide ((3 : Int) < (y1 : Int)) = false := by simp; omega
          have z4 : decide ((3 : Int) < (y2 : Int)) = false := by simp; omega
          have u1 : ¬ 3 < y1 := by omega
          have u2 : ¬ 3 < y2 := by omega
          generalize r / 2 ^ y1 = q1 at *
          generalize c / 2 ^ y2 = q2 at *
          generalize q1 % 2 = b1 at *
          generalize q2 % 2 = b2 at *
          have hm01 : b1 * b2 ≤ 1 := by
            rcases m1 with h | h <;> rcases m2 with h' | h' <;> simp [h, h']
          have hmul : IntKind.i64.wrap ((b1 : Int) * (b2 : Int)) = ((b1 * b2 : Nat) : Int) := by
            rw [← Int.natCast_mul, IntKind.wrap_i64]; omega
          obtain ⟨bm, hbm⟩ : ∃ bm, bm = b1 * b2 := ⟨_, rfl⟩
          rw [← hbm] at hmul hm01 hst
          obtain ⟨n1', hn1'⟩ : ∃ n1', n1' = cntQ (r, c) F (q + 1) := ⟨_, rfl⟩
          rw [← hn1'] at hst hon1
          have HNx := hide hn1'
          generalize cntQ (r, c) F q = cq at *
          have hadd : IntKind.i64.wrap ((cq : Int) + (bm : Int)) = (n1' : Int) := by rw [IntKind.wrap_i64]; omega
          have HJ := hide hJ.out
          clear hc e hye hbm hn1' hst hJ m1 m2 l1 l2 nx hqk
          go_wp2
          go_quiet (fail)
          have HJ1 := hide (show Box ((wr.alloc (.cells #[.int .i64 (y1 : Int), .int .i64 (y2 : Int)] 60)).drewN nq) Bx #[.int .i64 (r : Int), .int .i64 (c : Int)] 60 ∧ Chg [] w9 ((wr.alloc (.cells #[.int .i64 (y1 : Int), .int .i64 (y2 : Int)] 60)).drewN nq) from ⟨HJ.out.1.keep (((Chg.refl [] wr).alloc _).drewN nq) List.not_mem_nil, HJ.out.2.trans (((Chg.refl [] wr).alloc _).drewN nq)⟩)
          go_wp2
          go_roundw
          case rel => exact ⟨q + 1, by omega, by rw [HNx.out], by go_num, HJ1⟩
          case measure => simp [intOf]; omega
        · have d2 : decide ((q : Int) < (nf : Int)) = false := by simpa using hlq
          have hon := HOn2.out q
          generalize cntQ (r, c) F q = cq at *
          have d3 : decide ((1 : Int) < (cq : Int)) = false := by simp; omega
          have d4 : ¬ 1 < cq := by omega
          go_wp2
          go_roundw
          case rel => exact ⟨i + 1, by omega, by go_num, hide hJ.out.2⟩
          case measure => simp [intOf]; omega
    · have d1 : decide ((i : Int) < (nc : Int)) = false := by simpa using hlt
      have C10 := hide (C9.out.trans hI.out)
      clear hI
      go_wp2_with fail
      refine (HT1.out _ C10.out).mono ?_
      rintro e w11 ⟨v9, rfl, hI, hw⟩
      have C11 : Hid (Chg [] w w11) := hide (C10.out.trans hw)
      have A11 := hide hI
      clear hw hI
      go_wp2_with fail
      refine (HPa.out _ C11.out).mono ?_
      rintro e w12 ⟨v10, rfl, hp, hw⟩
      have C12 : Hid (Chg [] w w12) := hide (C11.out.trans hw)
      have A12 := hide (A11.out.keep hw)
      have P12 := hide hp
      clear hw hp
      go_wp2_with fail
      refine (HF2.out _ _ _ A12.out P12.out).mono ?_
      rintro e w13 ⟨rfl, hw⟩
      have C13 : Hid (Chg [] w w13) := hide (C12.out.trans hw)
      have A13 := hide (A12.out.keep hw)
      have P13 := hide (P12.out.keep hw)
      clear hw 
      cases b with
      | false =>
        go_wp2_with fail
        refine (HAw.out _).mono ?_
        rintro e w14 ⟨rfl, hw⟩
        have C14 : Hid (Chg [] w w14) := hide (C13.out.trans hw)
        clear hw 
        go_wp2
        go_ret
        exact ⟨rfl, C14.out⟩
      | true =>
        have hmx : m ≤ nf := HMax.out rfl
        have dm : decide ((m : Int) ≤ (nf : Int)) = true := by simp; omega
        go_wp2_with fail
        refine (HAw.out _).mono ?_
        rintro e w14 ⟨rfl, hw⟩
        have C14 : Hid (Chg [] w w14) := hide (C13.out.trans hw)
        clear hw 
        go_wp2
        go_ret
        exact ⟨rfl, C14.out⟩

theorem talkFooled_walk (v x u : Value) (w : World) (hv : IsRows w v) (hx : IsInt x) (hu : IsPairs w u) : Calls Try.prog 15 #[v, x, u] w (Ret (.bool true) w) := by
  obtain ⟨t, hs, htl, hrl⟩ := hv
  obtain ⟨y, rfl, _⟩ := hx
  obtain ⟨l, hl, hll⟩ := hu
  cases hb : (T.isTab t && decide (y = 0 ∨ y = 1)) with
  | false => exact fooled_bad v u t y l w hs htl hl hb
  | true =>
    rw [Bool.and_eq_true, decide_eq_true_eq] at hb
    exact fooled_good v u t y l w hs htl hrl hl hll hb.1 hb.2
end Go.Proofs.Ytaapamoglgpocaa
