/- Walks: games: marks, of two given codes. -/
import Derived.Test.YtpplihpfjniacaaGm2
namespace Go.Proofs.Ytpplihpfjniacaa
open Go.RowKit

set_option maxRecDepth 100000 in
set_option maxHeartbeats 4000000 in
theorem marks_12 (w : World) : Calls Try.prog 45 #[.agg #[.int .i64 2, .int .i64 2, .int .i64 4], .int .i64 1, .int .i64 2] w (Ret (.agg #[.int .i64 0, .int .i64 2]) w) := by
  have HC1 := hide fun ws => colours_1 ws
  have HC2 := hide fun ws => colours_2 ws
  have b1 := (Box.new w #[.int .i64 2, .int .i64 2, .int .i64 4] 54).old (.cells #[.int .i64 0, .int .i64 0] 88)
  have b2 := Box.at (w.alloc (.cells #[.int .i64 2, .int .i64 2, .int .i64 4] 54)) #[.int .i64 0, .int .i64 0] 88 (n := w.heap.size + 1) (by simp)
  have c2 := ((Chg.refl [] w).alloc (.cells #[.int .i64 2, .int .i64 2, .int .i64 4] 54)).alloc (.cells #[.int .i64 0, .int .i64 0] 88)
  go_enter Try.func45, Try.ntmps45
  go_wp2
  generalize (w.alloc (.cells #[.int .i64 2, .int .i64 2, .int .i64 4] 54)).alloc (.cells #[.int .i64 0, .int .i64 0] 88) = W at b1 b2 c2 ⊢
  obtain ⟨z, hz⟩ : ∃ z, z = w.heap.size := ⟨_, rfl⟩
  have HZ : Hid (w.heap.size ≤ z) := hide (Nat.le_of_eq hz.symm)
  rw [← hz] at b1 b2 ⊢
  have HB1 := hide b1
  have HB2 := hide b2
  have HC0 := hide c2
  have HK := hide (fun X (hX : Chg [] W X) => (⟨(b1.keep hX List.not_mem_nil).cell 0, (b1.keep hX List.not_mem_nil).cell 1, (b1.keep hX List.not_mem_nil).cell 2⟩ : X.cell? ⟨z, 0, none⟩ = some (.int .i64 2) ∧ X.cell? ⟨z, 1, none⟩ = some (.int .i64 2) ∧ X.cell? ⟨z, 2, none⟩ = some (.int .i64 4)))
  have e0 := b1.cell 0
  have e1 := b1.cell 1
  have e2 := b1.cell 2
  have el := b1.lt
  simp only [List.getElem?_toArray, List.getElem?_cons_zero, List.getElem?_cons_succ] at e0 e1 e2
  clear b1 b2 c2 hz
  go_region_held3 (fun X => X.cell? ⟨z, 0, none⟩ = some (.int .i64 2) ∧ X.cell? ⟨z, 1, none⟩ = some (.int .i64 2) ∧ X.cell? ⟨z, 2, none⟩ = some (.int .i64 4))
    (first | (focus (refine HK.out _ ?_; (repeat' (first | with_reducible exact Chg.refl _ _ | with_reducible assumption | with_reducible apply Chg.drewN | with_reducible apply Chg.drew | with_reducible apply Chg.alloc | (with_reducible refine Chg.setCell ?_ (Or.inr ?_) _) | (with_reducible refine Chg.trans ?_ (by assumption)) | (simp; done) | (simp; omega))); done)))
    ((first | (go_at_call 61; (with_reducible refine Calls.mono (HC1.out _) ?_); rintro e wA ⟨ua, rfl, sA, hcA⟩) | (go_at_call 61; (with_reducible refine Calls.mono (HC2.out _) ?_); rintro e w0 ⟨ub, rfl, sB, hcB⟩)))
  have CW0 : Chg [] W w0 := by (repeat' (first | with_reducible exact Chg.refl _ _ | with_reducible assumption | with_reducible apply Chg.drewN | with_reducible apply Chg.drew | with_reducible apply Chg.alloc | (with_reducible refine Chg.setCell ?_ (Or.inr ?_) _) | (with_reducible refine Chg.trans ?_ (by assumption)) | (simp; done) | (simp; omega)))
  have HCW := hide CW0
  have HB2' := hide (HB2.out.keep CW0 List.not_mem_nil)
  rcases (sA.keep hcB).see with ⟨_, h⟩ | ⟨ga, pa, rfl, _, _, ha⟩
  · cases h
  rcases sB.see with ⟨_, h⟩ | ⟨gb, pb, rfl, _, _, hb⟩
  · cases h
  have HAs := hide (sA.keep hcB)
  have HBs := hide sB
  simp only [List.length_cons, List.length_nil, Nat.zero_add] at HAs HBs ha hb ⊢
  have HAc := hide fun X (hX : Chg [] w0 X) i (hi : i < 2) => (by have h := (HAs.out.keep hX).see; rcases h with ⟨h, _⟩ | ⟨g', p', e, _, _, h⟩; · cases h
                                                                  · cases e; exact h i hi : X.cell? ⟨ga, i, none⟩ = some (.int .i64 ([1, 0].getD i 0)))
  have HBc := hide fun X (hX : Chg [] w0 X) i (hi : i < 2) => (by have h := (HBs.out.keep hX).see; rcases h with ⟨h, _⟩ | ⟨g', p', e, _, _, h⟩; · cases h
                                                                  · cases e; exact h i hi : X.cell? ⟨gb, i, none⟩ = some (.int .i64 ([0, 1].getD i 0)))
  have bM := ((Box.new w0 #[.int .i64 0, .int .i64 0] 88).old (.cells #[.int .i64 0, .int .i64 0, .int .i64 0, .int .i64 0, .int .i64 0, .int .i64 0] 109)).old (.cells #[.int .i64 0, .int .i64 0, .int .i64 0, .int .i64 0, .int .i64 0, .int .i64 0] 109)
  have bX := (Box.at (w0.alloc (.cells #[.int .i64 0, .int .i64 0] 88)) #[.int .i64 0, .int .i64 0, .int .i64 0, .int .i64 0, .int .i64 0, .int .i64 0] 109 (n := w0.heap.size + 1) (by simp)).old (.cells #[.int .i64 0, .int .i64 0, .int .i64 0, .int .i64 0, .int .i64 0, .int .i64 0] 109)
  have bY := Box.at ((w0.alloc (.cells #[.int .i64 0, .int .i64 0] 88)).alloc (.cells #[.int .i64 0, .int .i64 0, .int .i64 0, .int .i64 0, .int .i64 0, .int .i64 0] 109)) #[.int .i64 0, .int .i64 0, .int .i64 0, .int .i64 0, .int .i64 0, .int .i64 0] 109 (n := w0.heap.size + 1 + 1) (by simp)
  have c3 := (((Chg.refl [] w0).alloc (.cells #[.int .i64 0, .int .i64 0] 88)).alloc (.cells #[.int .i64 0, .int .i64 0, .int .i64 0, .int .i64 0, .int .i64 0, .int .i64 0] 109)).alloc (.cells #[.int .i64 0, .int .i64 0, .int .i64 0, .int .i64 0, .int .i64 0, .int .i64 0] 109)
  clear sA sB hcA hcB CW0 ha hb e0 e1 e2 el
  go_wp2
  generalize (((w0.alloc (.cells #[.int .i64 0, .int .i64 0] 88)).alloc (.cells #[.int .i64 0, .int .i64 0, .int .i64 0, .int .i64 0, .int .i64 0, .int .i64 0] 109)).alloc (.cells #[.int .i64 0, .int .i64 0, .int .i64 0, .int .i64 0, .int .i64 0, .int .i64 0] 109)) = W0 at *
  obtain ⟨M, hM⟩ : ∃ M, M = w0.heap.size := ⟨_, rfl⟩
  obtain ⟨X, hX⟩ : ∃ X, X = M + 1 := ⟨_, rfl⟩
  obtain ⟨Y, hY⟩ : ∃ Y, Y = M + 1 + 1 := ⟨_, rfl⟩
  rw [← hM] at bM bX bY ⊢
  rw [← hY] at bY ⊢
  rw [← hX] at bX ⊢
  have HlM : Hid (w0.heap.size ≤ M) := hide (by omega)
  have HlX : Hid (w0.heap.size ≤ X) := hide (by omega)
  have HlY : Hid (w0.heap.size ≤ Y) := hide (by omega)
  have nXY : X ≠ Y := by omega
  have nYX : Y ≠ X := by omega
  have nMX : M ≠ X := by omega
  have nMY : M ≠ Y := by omega
  have nXM : X ≠ M := by omega
  have nYM : Y ≠ M := by omega
  have HXW0 := hide bX
  have HYW0 := hide bY
  have HMW0 := hide bM
  have HCW0 := hide c3
  clear bX bY bM c3 hM hX hY
  refine loopW_start (loopW_round ?_)
  have fa := HAc.out W0 HCW0.out 0 (by decide)
  have fb := HBc.out W0 HCW0.out 0 (by decide)
  simp only [List.getD_cons_zero] at fa fb
  go_wp2
  go_big_quiet (fail)
  have kq : Chg [] W0 (W0.drewN nq) := (Chg.refl _ _).drewN nq
  have qX := HXW0.out.keep kq List.not_mem_nil
  have qY := HYW0.out.keep kq List.not_mem_nil
  have qM := HMW0.out.keep kq List.not_mem_nil
  have hX := (qX.set 1 (.int .i64 1)).set' (p := ⟨Y, 0, none⟩) (by show X ≠ Y; exact nXY) (.int .i64 1)
  have hY := (qY.set' (p := ⟨X, 1, none⟩) (by show Y ≠ X; exact nYX) (.int .i64 1)).set 0 (.int .i64 1)
  have hM := (qM.set' (p := ⟨X, 1, none⟩) (by show M ≠ X; exact nMX) (.int .i64 1)).set' (p := ⟨Y, 0, none⟩) (by show M ≠ Y; exact nMY) (.int .i64 1)
  have hC := ((HCW0.out.trans kq).setCell (p := ⟨X, 1, none⟩) (.inr HlX.out) (.int .i64 1)).setCell (p := ⟨Y, 0, none⟩) (.inr HlY.out) (.int .i64 1)
  have gx := qX.cell 1
  have gf := qX.free 1
  have gl := qX.lt
  have gy := qY.cell 0
  have gg := qY.free 0
  have gm := qY.lt
  have fa' := HAc.out _ (HCW0.out.trans kq) 0 (by decide)
  have fb' := HBc.out _ (HCW0.out.trans kq) 0 (by decide)
  simp only [List.getElem?_toArray, List.getElem?_cons_zero, List.getElem?_cons_succ, List.getD_cons_zero] at gx gy fa' fb'
  clear fa fb kq qX qY qM
  generalize W0.drewN nq = V1 at *
  go_wp2
  simp only [List.setIfInBounds_toArray, List.set_cons_zero, List.set_cons_succ] at hX hY
  clear gx gf gl gy gg gm fa' fb'
  generalize (V1.setCell ⟨X, 1, none⟩ (.int .i64 1)).setCell ⟨Y, 0, none⟩ (.int .i64 1) = W1 at *
  have HXW1 := hide hX
  have HYW1 := hide hY
  have HMW1 := hide hM
  have HCW1 := hide hC
  clear hX hY hM hC
  refine loopW_round ?_
  have fa := HAc.out W1 HCW1.out 1 (by decide)
  have fb := HBc.out W1 HCW1.out 1 (by decide)
  simp only [List.getD_cons_zero, List.getD_cons_succ] at fa fb
  go_wp2
  go_big_quiet (fail)
  have kq : Chg [] W1 (W1.drewN nq) := (Chg.refl _ _).drewN nq
  have qX := HXW1.out.keep kq List.not_mem_nil
  have qY := HYW1.out.keep kq List.not_mem_nil
  have qM := HMW1.out.keep kq List.not_mem_nil
  have hX := (qX.set 0 (.int .i64 1)).set' (p := ⟨Y, 1, none⟩) (by show X ≠ Y; exact nXY) (.int .i64 1)
  have hY := (qY.set' (p := ⟨X, 0, none⟩) (by show Y ≠ X; exact nYX) (.int .i64 1)).set 1 (.int .i64 1)
  have hM := (qM.set' (p := ⟨X, 0, none⟩) (by show M ≠ X; exact nMX) (.int .i64 1)).set' (p := ⟨Y, 1, none⟩) (by show M ≠ Y; exact nMY) (.int .i64 1)
  have hC := ((HCW1.out.trans kq).setCell (p := ⟨X, 0, none⟩) (.inr HlX.out) (.int .i64 1)).setCell (p := ⟨Y, 1, none⟩) (.inr HlY.out) (.int .i64 1)
  have gx := qX.cell 0
  have gf := qX.free 0
  have gl := qX.lt
  have gy := qY.cell 1
  have gg := qY.free 1
  have gm := qY.lt
  have fa' := HAc.out _ (HCW1.out.trans kq) 1 (by decide)
  have fb' := HBc.out _ (HCW1.out.trans kq) 1 (by decide)
  simp only [List.getElem?_toArray, List.getElem?_cons_zero, List.getElem?_cons_succ, List.getD_cons_zero, List.getD_cons_succ] at gx gy fa' fb'
  clear fa fb kq qX qY qM
  generalize W1.drewN nq = V2 at *
  go_wp2
  simp only [List.setIfInBounds_toArray, List.set_cons_zero, List.set_cons_succ] at hX hY
  clear gx gf gl gy gg gm fa' fb'
  generalize (V2.setCell ⟨X, 0, none⟩ (.int .i64 1)).setCell ⟨Y, 1, none⟩ (.int .i64 1) = W2 at *
  have HXW2 := hide hX
  have HYW2 := hide hY
  have HMW2 := hide hM
  have HCW2 := hide hC
  clear hX hY hM hC
  refine loopW_round ?_
  go_wp2
  go_loopw [55] (fun cv ws => ∃ c : Nat, c ≤ 6 ∧ cv = .int .i64 (c : Int) ∧ Hid (Box ws M #[.int .i64 0, .int .i64 ((min c 2 : Nat) : Int)] 88 ∧ Box ws X #[.int .i64 1, .int .i64 1, .int .i64 0, .int .i64 0, .int .i64 0, .int .i64 0] 109 ∧ Box ws Y #[.int .i64 1, .int .i64 1, .int .i64 0, .int .i64 0, .int .i64 0, .int .i64 0] 109 ∧ Chg [] w0 ws)) (fun cv _ => 6 - (intOf cv).toNat)
  case atStart => exact ⟨0, Nat.zero_le _, rfl, hide ⟨HMW2.out, HXW2.out, HYW2.out, HCW2.out⟩⟩
  case round =>
    obtain ⟨c, hc, rfl, hI⟩ := hrel
    have m0 := hI.out.1.cell 0
    have m1 := hI.out.1.cell 1
    have mf := hI.out.1.free 1
    have ml := hI.out.1.lt
    simp only [List.getElem?_toArray, List.getElem?_cons_zero, List.getElem?_cons_succ] at m0 m1
    by_cases hlt : c < 6
    · have d1 : decide ((c : Int) < 6) = true := by simp; omega
      have c0 : (0 : Int) ≤ (c : Int) := by omega
      have c1 : (c : Int) < 6 := by omega
      have hx : ∀ A : Nat, Box wr A #[.int .i64 1, .int .i64 1, .int .i64 0, .int .i64 0, .int .i64 0, .int .i64 0] 109 → wr.cell? ⟨A, c, none⟩ = some (.int .i64 (if c < 2 then 1 else 0)) := fun A h => by
        rw [h.cell]
        rcases (show c = 0 ∨ c = 1 ∨ c = 2 ∨ c = 3 ∨ c = 4 ∨ c = 5 by omega) with rfl | rfl | rfl | rfl | rfl | rfl <;> rfl
      have fx := hx X hI.out.2.1
      have fy := hx Y hI.out.2.2.1
      have xl := hI.out.2.1.lt
      have yl := hI.out.2.2.1.lt
      obtain ⟨b, hb⟩ : ∃ b : Int, b = (if c < 2 then 1 else 0) := ⟨_, rfl⟩
      obtain ⟨wt, hw⟩ : ∃ wt : Nat, wt = min c 2 := ⟨_, rfl⟩
      rw [← hb] at fx fy
      rw [← hw] at m1 hI
      have esum : (wt : Int) + b = ((min (c + 1) 2 : Nat) : Int) := by rw [hb, hw]; split <;> omega
      have ewr : IntKind.i64.wrap ((wt : Int) + b) = ((min (c + 1) 2 : Nat) : Int) := by rw [IntKind.wrap_i64, esum]; omega
      have HN := hide (And.intro esum ewr)
      obtain ⟨wn, hwn⟩ : ∃ wn : Nat, wn = min (c + 1) 2 := ⟨_, rfl⟩
      rw [← hwn] at esum ewr
      have ew : wrap64 (wn : Int) = (wn : Int) := by unfold wrap64; omega
      have HI := hide hI.out
      have HWn := hide hwn
      clear hI hx hb hw hwn
      go_wp2
      go_region
      all_goals
        go_wp2
        go_roundw
        case rel =>
          refine ⟨c + 1, by omega, by go_num, hide ⟨?_, (HI.out.2.1.set' (by show X ≠ M; exact nXM) _).keep (Chg.refl [] _).drew List.not_mem_nil, (HI.out.2.2.1.set' (by show Y ≠ M; exact nYM) _).keep (Chg.refl [] _).drew List.not_mem_nil, (HI.out.2.2.2.setCell (.inr HlM.out) _).drew⟩⟩
          rw [← HWn.out]
          have h := HI.out.1.set 1 (.int .i64 (wn : Int))
          simp only [List.setIfInBounds_toArray, List.set_cons_zero, List.set_cons_succ] at h
          exact h.keep (Chg.refl [] _).drew List.not_mem_nil
        case measure => simp [intOf]; omega
    · have d1 : decide ((c : Int) < 6) = false := by simp; omega
      obtain rfl : c = 6 := by omega
      have HR := hide (HB2'.out.keep hI.out.2.2.2 List.not_mem_nil)
      have r0 := HR.out.cell 0
      have r1 := HR.out.cell 1
      have rf := HR.out.free 0
      have rg := HR.out.free 1
      have rl := HR.out.lt
      have HC := hide hI.out.2.2.2
      have hzM : z + 1 < w0.heap.size := HB2'.out.lt
      have nz1 : ¬ z + 1 = M := by have := HlM.out; omega
      have nz2 : ¬ M = z + 1 := by have := HlM.out; omega
      simp only [List.getElem?_toArray, List.getElem?_cons_zero, List.getElem?_cons_succ] at r0 r1
      simp at m1
      clear hI
      go_wp2
      refine bodyPost_ret (v := .agg #[.int .i64 0, .int .i64 2]) ?_ rfl ⟨rfl, ?_⟩
      · simp [results, Try.results45, go_sem, r0, r1]
      · have hz := HZ.out
        have k1 := (HC0.out.trans HCW.out).trans HC.out
        have k2 : w.heap.size ≤ M := Nat.le_trans ((HC0.out.trans HCW.out).size) HlM.out
        exact ((k1.setCell (p := ⟨M, 1, none⟩) (.inr k2) _).setCell (p := ⟨z + 1, 0, none⟩) (.inr (by show w.heap.size ≤ z + 1; omega)) _).setCell (p := ⟨z + 1, 1, none⟩) (.inr (by show w.heap.size ≤ z + 1; omega)) _
end Go.Proofs.Ytpplihpfjniacaa
