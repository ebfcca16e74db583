/- Walk: the reference's search for a plan, a number of coins more. -/
import Derived.Test.YtohdjlgghkcaoaaPo1
namespace Go.Proofs.Ytohdjlgghkcaoaa
open Go.RowKit

@[go_sem] theorem eqA3' (a b c : Int) (w : World) : (Op.equalIn 10000 97 (.agg #[.int .i64 a, .int .i64 b, .int .i64 c]) (.agg #[.int .i64 0, .int .i64 0, .int .i64 0])).run Try.prog w = .ok (a == 0 && b == 0 && c == 0) w := eqA3 9998 a b c w

set_option maxRecDepth 100000 in
set_option maxHeartbeats 1000000 in
theorem poss_end (k : Nat) : PossOk k 0 := by
  intro i s w _ _
  unfold W.possM
  generalize s 0 = a
  generalize s 1 = b
  generalize s 2 = c
  go_enter Try.func74, Try.ntmps74
  go_wp2
  go_ret
  exact ⟨rfl, (Chg.refl _ _).alloc _⟩

/-- The first sums are in their bounds. -/
def okTo (c k x : Nat) (s : Nat → Int) (sg : Int) (q : Nat) : Bool := (List.range q).all fun i => decide (W.nextS k x s sg i < (c : Int)) && decide (-(c : Int) < W.nextS k x s sg i)
theorem okTo_succ (c k x : Nat) (s : Nat → Int) (sg : Int) (q : Nat) : okTo c k x s sg (q + 1) = (okTo c k x s sg q && (decide (W.nextS k x s sg q < (c : Int)) && decide (-(c : Int) < W.nextS k x s sg q))) := by
  unfold okTo
  rw [List.range_succ, List.all_append]
  simp
theorem okTo_all (c k x : Nat) (s : Nat → Int) (sg : Int) : okTo c k x s sg k = W.okS c k x s sg := rfl
theorem next_fun (k x : Nat) (s : Nat → Int) (sg : Int) : (fun p => if p < k then W.nextS k x s sg p else s p) = W.nextS k x s sg := by
  funext p
  by_cases h : p < k
  · rw [if_pos h]
  · rw [if_neg h]; unfold W.nextS; rw [if_neg h]
theorem ok_bound {c k x : Nat} {s : Nat → Int} {sg : Int} (hc : c ≤ 13) (hs : ∀ j, j < 3 → -13 ≤ s j ∧ s j ≤ 13) (h : W.okS c k x s sg = true) : ∀ j, j < 3 → -13 ≤ W.nextS k x s sg j ∧ W.nextS k x s sg j ≤ 13 := by
  intro j hj
  by_cases hk : j < k
  · unfold W.okS at h
    have := List.all_eq_true.1 h j (List.mem_range.2 hk)
    simp only [Bool.and_eq_true, decide_eq_true_eq] at this
    omega
  · have e : W.nextS k x s sg j = s j := by unfold W.nextS; rw [if_neg hk]
    rw [e]; exact hs j hj
/-- The slot with this sign. -/
def sgB (c k x : Nat) (s : Nat → Int) (sg : Int) : Bool := W.okS (c + 1) k x s sg && W.possM k c (x + 1) (W.nextS k x s sg)

set_option maxRecDepth 100000 in
set_option maxHeartbeats 4000000 in
theorem poss_more (k c : Nat) (hk1 : 1 ≤ k) (hk3 : k ≤ 3) (hc13 : c + 1 ≤ 13) (IH : PossOk k c) : PossOk k (c + 1) := by
  intro i s w hi hs
  have hIH : ∀ (x : Nat) (s : Nat → Int) (w : World), x + 1 ≤ 27 → (∀ j, j < 3 → -13 ≤ s j ∧ s j ≤ 13) →
      Calls Try.prog 74 #[.int .i64 (c : Int), .int .i64 (k : Int), .int .i64 ((x : Int) + 1), .int .i64 (pw k : Int), .agg #[.int .i64 (s 0), .int .i64 (s 1), .int .i64 (s 2)]] w (Ret (.bool (W.possM k c (x + 1) s)) w) := fun x s w h1 h2 => by
    have := IH (x + 1) s w h1 h2
    rw [show ((x + 1 : Nat) : Int) = (x : Int) + 1 from by omega] at this
    exact this
  have HIH := hide hIH
  have HS := hide hs
  have hK : pw k ≤ 27 := by
    unfold pw
    have : 3 ^ k ≤ 3 ^ 3 := Nat.pow_le_pow_right (by decide) hk3
    omega
  have hKe : Hid (pw k = 3 ^ k) := hide rfl
  rw [show ((c + 1 : Nat) : Int) = (c : Int) + 1 from by omega]
  have dz : ((c : Int) + 1 == 0) = false := by simp; omega
  clear IH hIH hs
  obtain ⟨K, hKK⟩ : ∃ K, K = pw k := ⟨_, rfl⟩
  rw [← hKK] at HIH hK hKe ⊢
  clear hKK
  go_enter Try.func74, Try.ntmps74
  go_wp2
  have b0 : A3 (w.alloc (.cells #[.int .i64 (s 0), .int .i64 (s 1), .int .i64 (s 2)] 97)) w.heap.size s := Box.new _ _ _
  have C0 : Hid (Chg [] w (w.alloc (.cells #[.int .i64 (s 0), .int .i64 (s 1), .int .i64 (s 2)] 97))) := hide ((Chg.refl _ _).alloc _)
  have lA : w.heap.size < (w.alloc (.cells #[.int .i64 (s 0), .int .i64 (s 1), .int .i64 (s 2)] 97)).heap.size := b0.lt
  generalize w.alloc (.cells #[.int .i64 (s 0), .int .i64 (s 1), .int .i64 (s 2)] 97) = W0 at b0 C0 lA ⊢
  generalize w.heap.size = As at b0 lA ⊢
  have BS := hide b0
  clear b0
  go_loopw [11] (fun xi wr => ∃ x : Nat, x ≤ 27 ∧ xi = .int .i64 (x : Int) ∧ Hid (W.possM k (c + 1) i s = W.possM k (c + 1) x s ∧ Chg [] W0 wr)) (fun xi _ => 27 - (intOf xi).toNat)
  case atStart => exact ⟨i, hi, rfl, hide ⟨rfl, Chg.refl _ _⟩⟩
  case round =>
    obtain ⟨x, hx, rfl, hI⟩ := hrel
    by_cases hlt : x < K
    · have d1 : decide ((x : Int) < (K : Int)) = true := by simpa using hlt
      have hst := poss_step (c := c) (s := s) (k := k) (x := x) (by rw [← hKe.out]; exact hlt)
      have HSt := hide hst
      clear hst
      go_wp2
      have bl : A3 (wr.alloc (.cells #[.int .i64 0, .int .i64 0, .int .i64 0] 97)) wr.heap.size (fun _ => 0) := Box.new _ _ _
      have CL : Hid (Chg [] W0 (wr.alloc (.cells #[.int .i64 0, .int .i64 0, .int .i64 0] 97))) := hide (hI.out.2.alloc _)
      have lsz := hI.out.2.size
      have nAl : Hid (As < wr.heap.size ∧ W0.heap.size ≤ wr.heap.size) := hide (by omega)
      generalize wr.alloc (.cells #[.int .i64 0, .int .i64 0, .int .i64 0] 97) = wl at bl CL ⊢
      generalize wr.heap.size = Al at bl nAl ⊢
      have BL := hide bl
      clear bl lsz
      go_loopw [13, 14, 15] (fun fi ii ni wd => ∃ j : Nat, j ≤ k ∧ fi = .int .i64 (W.firstTo x j) ∧ ii = .int .i64 (j : Int) ∧ ni = .int .i64 ((x / 3 ^ j : Nat) : Int) ∧ Hid (A3 wd Al (fun q => if q < j then W.dg x q else 0) ∧ Chg [] W0 wd)) (fun _ ii _ _ => k - (intOf ii).toNat)
      case atStart => exact ⟨0, Nat.zero_le _, rfl, rfl, by simp, hide ⟨by simpa using BL.out, CL.out⟩⟩
      case round =>
        obtain ⟨j, hj, rfl, rfl, rfl, hJ⟩ := hrel
        by_cases hjk : j < k
        · have d2 : decide ((j : Int) < (k : Int)) = true := by simpa using hjk
          have j3 : (j : Int) < 3 := by omega
          have j0 : (0 : Int) ≤ (j : Int) := by omega
          have e3 : x / 3 ^ j / 3 = x / 3 ^ (j + 1) := by rw [Nat.div_div_eq_div_mul, Nat.pow_succ]
          have hnl : x / 3 ^ j ≤ 27 := Nat.le_trans (Nat.div_le_self _ _) hx
          have hfl := W.firstTo_le x j
          have HD : Hid ((((x / 3 ^ j : Nat) : Int) + 1) % 3 - 1 = W.dg x j) := hide (by unfold W.dg W.dgn; omega)
          have fc := hJ.out.1.cell (j := j) (by omega)
          have ff := hJ.out.1.free j
          simp only [Nat.lt_irrefl, if_false] at fc
          have HE3 := hide e3
          have HF : Hid (W.firstTo x (j + 1) = if W.firstTo x j = 0 then W.dg x j else W.firstTo x j) := hide rfl
          have ll := hJ.out.1.lt
          clear e3
          generalize x / 3 ^ j = n at *
          have HN3 : Hid ((n : Int) / 3 = ((n / 3 : Nat) : Int)) := hide (by omega)
          have HA3 : Hid (A3 (wr.setCell ⟨Al, j, none⟩ (.int .i64 (((n : Int) + 1) % 3 - 1))) Al (fun q => if q < j + 1 then W.dg x q else 0) ∧ Chg [] W0 (wr.setCell ⟨Al, j, none⟩ (.int .i64 (((n : Int) + 1) % 3 - 1)))) := hide ⟨hJ.out.1.set (by omega) _ (fun q hq => by
            by_cases hqj : q = j
            · rw [if_pos hqj, hqj, if_pos (Nat.lt_succ_self j)]; exact HD.out.symm
            · rw [if_neg hqj]
              by_cases hl : q < j
              · rw [if_pos hl, if_pos (by omega)]
              · rw [if_neg hl, if_neg (by omega)]), hJ.out.2.setCell (.inr nAl.out.2) _⟩
          by_cases hf0 : W.firstTo x j = 0
          · rw [hf0]
            have HF0 := hide hf0
            clear hf0 hfl
            go_wp2
            go_roundw
            case rel => exact ⟨j + 1, by omega, by rw [HF.out, if_pos HF0.out, HD.out], by go_num, by rw [HN3.out, HE3.out], HA3⟩
            case measure => simp [intOf]; omega
          · have HF0 := hide hf0
            have df : (W.firstTo x j == 0) = false := by simpa using hf0
            clear hf0
            go_wp2
            go_roundw
            case rel => exact ⟨j + 1, by omega, by rw [HF.out, if_neg HF0.out], by go_num, by rw [HN3.out, HE3.out], HA3⟩
            case measure => simp [intOf]; omega
        · have d2 : decide ((j : Int) < (k : Int)) = false := by simpa using hjk
          obtain rfl : j = k := by omega
          have HL := hide hJ.out
          generalize x / 3 ^ j = N3
          by_cases hf1 : W.firstTo x j = 1
          · rw [hf1]
            have HF1 := hide hf1
            clear hf1
            go_wp2
            go_loopw [16] (fun si ws => ∃ sg : Int, (sg = -1 ∨ sg = 1 ∨ sg = 3) ∧ si = .int .i64 sg ∧ Hid ((1 ≤ sg → sgB c j x s (-1) = false) ∧ (3 ≤ sg → sgB c j x s 1 = false) ∧ A3 ws Al (fun q => if q < j then W.dg x q else 0) ∧ Chg [] W0 ws)) (fun si _ => (3 - intOf si).toNat)
            case atStart => exact ⟨-1, .inl rfl, rfl, hide ⟨fun h => by omega, fun h => by omega, HL.out.1, HL.out.2⟩⟩
            case round =>
              obtain ⟨sg, hsg, rfl, hP⟩ := hrel
              have HSg := hide hsg
              by_cases hs3 : sg = 3
              · subst hs3
                have E : Hid (W.possM j (c + 1) x s = W.possM j (c + 1) (x + 1) s) := hide (by
                  have h1 := hP.out.1 (by omega)
                  have h2 := hP.out.2.1 (by omega)
                  unfold sgB at h1 h2
                  rw [HSt.out, h1, h2]; simp)
                go_wp2
                go_roundw
                case rel => exact ⟨x + 1, by omega, by go_num, hide ⟨hI.out.1.trans E.out, hP.out.2.2.2⟩⟩
                case measure => simp [intOf]; omega
              · have hsg2 : sg = -1 ∨ sg = 1 := by omega
                have HSg2 := hide hsg2
                have d3 : decide (sg ≤ 1) = true := by simp; omega
                have bs := BS.out.keep hP.out.2.2.2 List.not_mem_nil
                have c0 := bs.cell (j := 0) (by omega)
                have c1 := bs.cell (j := 1) (by omega)
                have c2 := bs.cell (j := 2) (by omega)
                have ls := bs.lt
                have hb0 := HS.out 0 (by omega)
                have sg1 : -1 ≤ sg := by omega
                have sg2 : sg ≤ 1 := by omega
                clear hsg bs hsg2
                go_wp2
                have bn : A3 (wr.alloc (.cells #[.int .i64 (s 0), .int .i64 (s 1), .int .i64 (s 2)] 97)) wr.heap.size s := Box.new _ _ _
                have CN : Hid (Chg [] W0 (wr.alloc (.cells #[.int .i64 (s 0), .int .i64 (s 1), .int .i64 (s 2)] 97))) := hide (hP.out.2.2.2.alloc _)
                have lsz := hP.out.2.2.2.size
                have LL := hP.out.2.2.1.lt
                have bl : A3 (wr.alloc (.cells #[.int .i64 (s 0), .int .i64 (s 1), .int .i64 (s 2)] 97)) Al (fun q => if q < j then W.dg x q else 0) := hP.out.2.2.1.keep ((Chg.refl [] wr).alloc _) List.not_mem_nil
                have nAn : Hid (W0.heap.size ≤ wr.heap.size ∧ Al < wr.heap.size) := hide ⟨by omega, LL⟩
                generalize wr.alloc (.cells #[.int .i64 (s 0), .int .i64 (s 1), .int .i64 (s 2)] 97) = W1 at bn CN bl ⊢
                generalize wr.heap.size = An at bn nAn LL ⊢
                have BN := hide bn
                have BL2 := hide bl
                clear bn bl c0 c1 c2 ls lsz hb0
                go_loopw [18, 59] (fun ok ii wn => ∃ q : Nat, q ≤ j ∧ ok = .bool (okTo (c + 1) j x s sg q) ∧ ii = .int .i64 (q : Int) ∧ Hid (A3 wn An (fun p => if p < q then W.nextS j x s sg p else s p) ∧ A3 wn Al (fun q => if q < j then W.dg x q else 0) ∧ Chg [] W0 wn)) (fun _ ii _ => j - (intOf ii).toNat)
                case atStart => exact ⟨0, Nat.zero_le _, rfl, rfl, hide ⟨by simpa using BN.out, BL2.out, CN.out⟩⟩
                case round =>
                  obtain ⟨q, hq, rfl, rfl, hN⟩ := hrel
                  by_cases hqj : q < j
                  · have d4 : decide ((q : Int) < (j : Int)) = true := by simpa using hqj
                    have q3 : (q : Int) < 3 := by omega
                    have q0 : (0 : Int) ≤ (q : Int) := by omega
                    have fn := hN.out.1.cell (j := q) (by omega)
                    have fl := hN.out.2.1.cell (j := q) (by omega)
                    have ffn := hN.out.1.free q
                    have lb1 := hN.out.1.lt
                    have lb2 := hN.out.2.1.lt
                    have hnx : W.nextS j x s sg q = s q + sg * W.dg x q := by unfold W.nextS; rw [if_pos hqj]
                    have hsu := okTo_succ (c + 1) j x s sg q
                    obtain ⟨sb1, sb2⟩ := HS.out q (by omega)
                    obtain ⟨db1, db2⟩ : -1 ≤ W.dg x q ∧ W.dg x q ≤ 1 := W.dgn_le _
                    simp only [Nat.lt_irrefl, if_false, if_pos hqj] at fn fl
                    rw [hnx] at hsu
                    have HSet : Hid (∀ w', w' = (wr.setCell ⟨An, q, none⟩ (.int .i64 (s q + sg * W.dg x q))).drew → w'.cell? ⟨An, q, none⟩ = some (.int .i64 (s q + sg * W.dg x q)) ∧ A3 w' An (fun p => if p < q + 1 then W.nextS j x s sg p else s p) ∧ A3 w' Al (fun q => if q < j then W.dg x q else 0) ∧ Chg [] W0 w') := hide (by
                      rintro w' rfl
                      have dr : Chg [] (wr.setCell ⟨An, q, none⟩ (.int .i64 (s q + sg * W.dg x q))) (wr.setCell ⟨An, q, none⟩ (.int .i64 (s q + sg * W.dg x q))).drew := (Chg.refl _ _).drew
                      have h1 : A3 (wr.setCell ⟨An, q, none⟩ (.int .i64 (s q + sg * W.dg x q))).drew An (fun p => if p < q + 1 then W.nextS j x s sg p else s p) := (hN.out.1.set (by omega) _ fun p hp => by
                        by_cases hpq : p = q
                        · rw [if_pos hpq, hpq, if_pos (Nat.lt_succ_self q), hnx]
                        · rw [if_neg hpq]
                          by_cases hl : p < q
                          · rw [if_pos hl, if_pos (by omega)]
                          · rw [if_neg hl, if_neg (by omega)]).keep dr List.not_mem_nil
                      have h2 := h1.cell (j := q) (by omega)
                      rw [if_pos (Nat.lt_succ_self q), hnx] at h2
                      exact ⟨h2, h1, (hN.out.2.1.set' (Nat.ne_of_lt nAn.out.2) _).keep dr List.not_mem_nil, (hN.out.2.2.setCell (.inr nAn.out.1) _).trans dr⟩)
                    obtain ⟨D, hD⟩ : ∃ D, D = W.dg x q := ⟨_, rfl⟩
                    obtain ⟨S, hS⟩ : ∃ S, S = s q := ⟨_, rfl⟩
                    rw [← hD] at fl hnx hsu db1 db2
                    rw [← hS] at fn hnx hsu sb1 sb2
                    simp only [← hD, ← hS] at HSet
                    have hm : -1 ≤ sg * D ∧ sg * D ≤ 1 := by rcases HSg2.out with rfl | rfl <;> omega
                    obtain ⟨hm1, hm2⟩ := hm
                    obtain ⟨B, hB⟩ : ∃ B, B = okTo (c + 1) j x s sg q := ⟨_, rfl⟩
                    rw [← hB] at hsu ⊢
                    rw [show ((c + 1 : Nat) : Int) = (c : Int) + 1 from by omega] at hsu
                    obtain ⟨b1, hb1⟩ : ∃ b1, decide (S + sg * D < (c : Int) + 1) = b1 := ⟨_, rfl⟩
                    obtain ⟨b2, hb2⟩ : ∃ b2, decide (-((c : Int) + 1) < S + sg * D) = b2 := ⟨_, rfl⟩
                    rw [hb1, hb2] at hsu
                    have HSu := hide hsu
                    have q27 : q < 27 := by omega
                    clear hsu hnx hS hD hB
                    go_wp2
                    go_region
                    have h2 := HSet.out _ rfl
                    have H2 := hide h2.2
                    have f2 := h2.1
                    have l2 := h2.2.1.lt
                    clear h2 fn fl ffn
                    generalize (wr.setCell ⟨An, q, none⟩ (.int .i64 (S + sg * D))).drew = w2 at H2 f2 l2 ⊢
                    cases B with
                    | false =>
                      go_wp2
                      go_roundw
                      case rel => exact ⟨q + 1, by omega, by rw [HSu.out]; rfl, by go_num, H2⟩
                      case measure => simp [intOf]; omega
                    | true =>
                      cases b1 with
                      | false =>
                        go_wp2
                        go_roundw
                        case rel => exact ⟨q + 1, by omega, by rw [HSu.out]; rfl, by go_num, H2⟩
                        case measure => simp [intOf]; omega
                      | true =>
                        go_wp2
                        go_roundw
                        case rel => exact ⟨q + 1, by omega, by rw [HSu.out]; rfl, by go_num, H2⟩
                        case measure => simp [intOf]; omega
                  · have d4 : decide ((q : Int) < (j : Int)) = false := by simpa using hqj
                    obtain rfl : q = j := by omega
                    have hall := okTo_all (c + 1) q x s sg
                    rw [hall]
                    have hnf := next_fun q x s sg
                    cases hok : W.okS (c + 1) q x s sg with
                    | false =>
                      have HB : Hid (sgB c q x s sg = false) := hide (by unfold sgB; rw [hok]; rfl)
                      have HP1 := hide hP.out.1
                      clear hall hnf hok
                      go_wp2
                      go_roundw
                      case rel => exact ⟨sg + 2, by rcases HSg2.out with rfl | rfl <;> omega, by go_num, hide ⟨fun h => (by
                        rcases HSg2.out with rfl | rfl
                        · exact HB.out
                        · exact HP1.out (by omega)), fun h => (by
                        rcases HSg2.out with rfl | rfl
                        · omega
                        · exact HB.out), hN.out.2.1, hN.out.2.2⟩⟩
                      case measure => simp [intOf]; omega
                    | true =>
                      have hbd := ok_bound hc13 HS.out hok
                      have hA := hN.out.1
                      rw [hnf] at hA
                      have f0 := hA.cell (j := 0) (by omega)
                      have f1 := hA.cell (j := 1) (by omega)
                      have f2 := hA.cell (j := 2) (by omega)
                      have l2 := hA.lt
                      have HC := hide (HIH.out x (W.nextS q x s sg) · (by omega) hbd)
                      have HBe : Hid (sgB c q x s sg = W.possM q c (x + 1) (W.nextS q x s sg)) := hide (by unfold sgB; rw [hok]; rfl)
                      have HP1 := hide hP.out.1
                      clear hall hnf hok hbd hA
                      generalize W.nextS q x s sg 0 = n0 at *
                      generalize W.nextS q x s sg 1 = n1 at *
                      generalize W.nextS q x s sg 2 = n2 at *
                      cases hp : W.possM q c (x + 1) (W.nextS q x s sg) with
                      | false =>
                        rw [hp] at HC HBe
                        clear hp
                        go_wp2_with fail
                        refine (HC.out _).mono ?_
                        rintro e w3 ⟨rfl, hw3⟩
                        have H3 : Hid (A3 w3 Al (fun p => if p < q then W.dg x p else 0) ∧ Chg [] W0 w3) := hide ⟨hN.out.2.1.keep hw3 List.not_mem_nil, hN.out.2.2.trans hw3⟩
                        clear hw3
                        go_wp2
                        go_roundw
                        case rel => exact ⟨sg + 2, by rcases HSg2.out with rfl | rfl <;> omega, by go_num, hide ⟨fun h => (by
                          rcases HSg2.out with rfl | rfl
                          · exact HBe.out
                          · exact HP1.out (by omega)), fun h => (by
                          rcases HSg2.out with rfl | rfl
                          · omega
                          · exact HBe.out), H3.out.1, H3.out.2⟩⟩
                        case measure => simp [intOf]; omega
                      | true =>
                        rw [hp] at HC HBe
                        clear hp
                        have E : Hid (W.possM q (c + 1) i s = true) := hide (by
                          rw [hI.out.1, HSt.out, decide_eq_true HF1.out]
                          have hb := HBe.out
                          unfold sgB at hb
                          rcases HSg2.out with rfl | rfl
                          · rw [hb]; simp
                          · rw [hb]; simp)
                        go_wp2_with fail
                        refine (HC.out _).mono ?_
                        rintro e w3 ⟨rfl, hw3⟩
                        have H3 : Hid (Chg [] w w3) := hide ((C0.out.trans hN.out.2.2).trans hw3)
                        clear hw3
                        go_wp2
                        go_ret
                        exact ⟨by rw [E.out]; rfl, H3.out⟩
          · have df : (W.firstTo x j == 1) = false := by simpa using hf1
            have HF1 := hide hf1
            have E : Hid (W.possM j (c + 1) x s = W.possM j (c + 1) (x + 1) s) := hide (by rw [HSt.out, decide_eq_false hf1]; rfl)
            have hfl := W.firstTo_le x j
            clear hf1
            go_wp2
            go_roundw
            case rel => exact ⟨x + 1, by omega, by go_num, hide ⟨hI.out.1.trans E.out, HL.out.2⟩⟩
            case measure => simp [intOf]; omega
    · have d1 : decide ((x : Int) < (K : Int)) = false := by simpa using hlt
      have E : Hid (W.possM k (c + 1) i s = false) := hide (by rw [hI.out.1]; exact poss_over (by rw [← hKe.out]; exact hlt))
      go_wp2
      go_ret
      exact ⟨by rw [E.out]; rfl, C0.out.trans hI.out.2⟩
end Go.Proofs.Ytohdjlgghkcaoaa
