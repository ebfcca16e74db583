/- Walk: the least talk about a rectangle. -/
import Derived.Test.YtaapamoglgpocaaLen1
namespace Go.Proofs.Ytaapamoglgpocaa
open Go.RowKit Go.Maps


set_option maxRecDepth 100000 in
set_option maxHeartbeats 4000000 in
theorem length_more (w1 : World) (Bd bk bf : Nat) (vt : Value) (t : List (List Int)) (F : Nat) (hv : See2 w1 vt t) (ht : T.isTab t = true) (n1 : Bd ≠ bk) (n2 : Bd ≠ bf) (n3 : bk ≠ bf) (hB : w1.heap.size ≤ Bd ∧ w1.heap.size ≤ bk ∧ w1.heap.size ≤ bf)
    (IH : LenOk w1 Bd bk bf vt t F) : LenOk w1 Bd bk bf vt t (F + 1) := by
  intro r c w fk ff hr hc hr0 hc0 hF hD hV
  obtain ⟨ao, cap, rfl⟩ := hv.shape
  have HD := hide hD
  have HV := hide hV
  have HIH := hide IH
  have hcl := hide fun ws (hw : Chg [] w ws) => clear_any (.slice ao t.length cap) t r c ws (hv.keep (hD.2.2.2.trans hw)) ht (by omega) (by omega)
  have HT := hide ht
  have NN := hide n3
  have HBs := hide hB
  obtain ⟨b1, hkm, _, hch⟩ := hD
  have c0 := b1.cell 0
  have c1 := b1.cell 1
  have c2 := b1.cell 2
  have ld := b1.lt
  simp at c0 c1 c2
  have HB1 := hide b1
  have hlk := hkm.look hr hc
  unfold rectV at hcl ⊢
  generalize t.length = n at *
  clear hv hV IH ht b1 hkm hch hlk
  go_enter Try.func73, Try.ntmps73
  go_wp2
  have bx := Box.new w #[.int .i64 (r : Int), .int .i64 (c : Int)] 75
  have C0 : Hid (Chg [] w (w.alloc (.cells #[.int .i64 (r : Int), .int .i64 (c : Int)] 75))) := hide ((Chg.refl _ _).alloc _)
  have hsz0 := C0.out.size
  have c0 : (w.alloc (.cells #[.int .i64 (r : Int), .int .i64 (c : Int)] 75)).cell? ⟨Bd, 0, none⟩ = some (.slice ao n cap) := (C0.out.cell ld List.not_mem_nil 0).trans c0
  have x0 := bx.cell 0
  have x1 := bx.cell 1
  have lx := bx.lt
  have BX := hide bx
  have HBr : Hid (w.heap.size ≤ w.heap.size) := hide (Nat.le_refl _)
  simp only [List.getElem?_toArray, List.getElem?_cons_zero, List.getElem?_cons_succ] at x0 x1
  clear bx
  have ld0 : Bd < (w.alloc (.cells #[.int .i64 (r : Int), .int .i64 (c : Int)] 75)).heap.size := by omega
  generalize w.alloc (.cells #[.int .i64 (r : Int), .int .i64 (c : Int)] 75) = W0 at C0 c0 x0 x1 lx ld0 BX hsz0 ⊢
  obtain ⟨Br, hBr⟩ : ∃ Br, Br = w.heap.size := ⟨_, rfl⟩
  rw [← hBr] at x0 x1 lx BX ⊢
  have HBr := hide hBr
  clear hBr
  have HClr : Hid (T.clear t r c = (T.clrM t r c).isSome) := hide rfl
  generalize T.clrM t r c = o at hcl HClr
  cases o with
  | some x =>
    unfold clrV at hcl
    simp only [] at hcl
    refine wp_region_ext (by kernel_rfl) (by kernel_rfl) ?_
    repeat (first | go_big_quiet_step ((go_at_call 92; exact calls_of_ret (hcl.out _ (Chg.trans C0.out (ExtOf.chg _))))) | quiet_step ((go_at_call 92; exact calls_of_ret (hcl.out _ (Chg.trans C0.out (ExtOf.chg _))))))
    refine wpQuiet_nil ?_
    intro wx hx
    have E : Hid (T.len t r c = 0) := hide (by rw [T.len_eq hr hc, if_pos (by rw [HClr.out]; rfl)])
    have CX : Hid (Chg [] w wx) := hide (C0.out.trans hx)
    go_wp2
    go_ret
    exact ⟨by rw [E.out]; rfl, fk, ff, HD.out.keep CX.out, HV.out, CX.out.toAny, Rest.refl _ _ _ _, fun h => by rw [HClr.out] at h; cases h⟩
  | none =>
    unfold clrV at hcl
    simp only [] at hcl
    have HCl : Hid (T.clear t r c = false) := hide HClr.out
    refine wp_region_ext (by kernel_rfl) (by kernel_rfl) ?_
    repeat (first | go_big_quiet_step ((go_at_call 92; exact calls_of_ret (hcl.out _ (Chg.trans C0.out (ExtOf.chg _))))) | quiet_step ((go_at_call 92; exact calls_of_ret (hcl.out _ (Chg.trans C0.out (ExtOf.chg _))))))
    refine wpQuiet_nil ?_
    intro wx hx
    have CX : Hid (Chg [] w wx) := hide (C0.out.trans hx)
    have HDx := hide (HD.out.keep CX.out)
    have d1 := HDx.out.1.cell 1
    have ldx := HDx.out.1.lt
    have bxx := BX.out.keep hx List.not_mem_nil
    have y0 := bxx.cell 0
    have y1 := bxx.cell 1
    have ly := bxx.lt
    simp only [List.getElem?_toArray, List.getElem?_cons_zero, List.getElem?_cons_succ] at d1 y0 y1
    have hrun := fun nq => (HDx.out.2.1.keep ((Chg.refl [] wx).drewN nq) List.not_mem_nil).look (r := r) (c := c) hr hc
    unfold rectV at hrun
    have BXx := hide bxx
    clear bxx c0 x0 x1 lx ld0 hcl
    cases hfk : fk r c with
    | some m =>
      have E := HV.out r c m hr hc hfk
      obtain ⟨rfl, who, s, hs1, hs2⟩ := E
      rw [hfk] at hrun
      have HS := hide (And.intro hs1 hs2)
      simp only [Option.getD_some, Option.isSome_some] at hrun
      clear hs1 hs2 hfk
      go_wp2
      go_quiet (fail)
      have CN : Hid (Chg [] w (wx.drewN nq)) := hide (CX.out.drewN _)
      go_wp2
      go_ret
      exact ⟨rfl, fk, ff, HD.out.keep CN.out, HV.out, CN.out.toAny, Rest.refl _ _ _ _, fun _ => ⟨who, s, HS.out⟩⟩
    | none =>
      rw [hfk] at hrun
      simp only [Option.getD_none, Option.isSome_none] at hrun
      have HFk := hide hfk
      clear hfk
      go_wp2
      go_quiet (fail)
      have CN : Hid (Chg [] w (wx.drewN nq)) := hide (CX.out.drewN _)
      have BXn := hide (BXx.out.keep ((Chg.refl [] wx).drewN nq) List.not_mem_nil)
      clear hrun
      go_wp2
      have bs := Box.new (wx.drewN nq) #[.int .i64 (r : Int), .int .i64 (c : Int)] 3
      have C3 : Hid (Chg [] w ((wx.drewN nq).alloc (.cells #[.int .i64 (r : Int), .int .i64 (c : Int)] 3))) := hide (CN.out.alloc _)
      have BX3 := hide (BXn.out.old (.cells #[.int .i64 (r : Int), .int .i64 (c : Int)] 3))
      have hbs : w.heap.size ≤ wx.heap.size := CX.out.size
      have bs : Box ((wx.drewN nq).alloc (.cells #[.int .i64 (r : Int), .int .i64 (c : Int)] 3)) wx.heap.size #[.int .i64 (r : Int), .int .i64 (c : Int)] 3 := bs
      have hkl := HD.out.2.1.lt
      have hfl := HD.out.2.2.1.lt
      have BS := hide bs
      clear bs d1 y0 y1 ly ldx
      generalize (wx.drewN nq).alloc (.cells #[.int .i64 (r : Int), .int .i64 (c : Int)] 3) = W3 at BS BX3 C3 ⊢
      generalize wx.heap.size = Bs at BS hbs ⊢
      have NS : Hid (Bd ∉ [bk, bf] ∧ Br ∉ [bk, bf] ∧ Bs ∉ [bk, bf]) := hide (by have := HBr.out; simp; omega)
      have NL : Hid (bk < w.heap.size ∧ bf < w.heap.size) := hide ⟨hkl, hfl⟩
      have D3 := hide (HD.out.keep C3.out)
      clear hkl hfl hbs
      go_loopw [9, 45] (fun Bv qv wr => ∃ (q B : Nat), q ≤ 2 ∧ B ≤ 8 ∧ Bv = .int .i64 (B : Int) ∧ qv = .int .i64 (q : Int) ∧ Hid (B = bq t r c q ∧ ∃ fk' ff', Deb w1 Bd bk bf (.slice ao n cap) wr fk' ff' ∧ Vald t fk' ff' ∧ fk' r c = none ∧ Chg [bk, bf] W3 wr ∧ Rest r c fk fk' ff ff' ∧ SoFar t r c B ff')) (fun _ qv _ => 2 - (intOf qv).toNat)
      case atStart => exact ⟨0, 8, by omega, by omega, rfl, rfl, hide ⟨rfl, fk, ff, D3.out, HV.out, HFk.out, Chg.refl _ _, Rest.refl _ _ _ _, .inl rfl⟩⟩
      case round =>
        obtain ⟨q, B, hq, hB8, rfl, rfl, hI⟩ := hrel
        by_cases hlt : q < 2
        · have e1 : decide ((q : Int) < 2) = true := by simp; omega
          have hq2 : q = 0 ∨ q = 1 := by omega
          have q0 : (0 : Int) ≤ (q : Int) := by omega
          have HQ := hide hq2
          obtain ⟨al, hal⟩ : ∃ al, al = if q = 0 then r else c := ⟨_, rfl⟩
          have hal16 : al < 16 ∧ al ≠ 0 := by rw [hal]; split <;> exact ⟨by omega, by omega⟩
          have fs : ∀ X, Chg [bk, bf] W3 X → X.cell? ⟨Bs, q, none⟩ = some (.int .i64 (al : Int)) := fun X hX => by
            rw [(BS.out.keep hX NS.out.2.2).cell, hal]
            rcases hq2 with rfl | rfl <;> rfl
          obtain ⟨top1, top2⟩ := T.top_ok hal16.1 hal16.2
          have fx := fs wr (by obtain ⟨_, _, _, _, _, _, h, _⟩ := hI.out; exact h)
          have HAl := hide hal
          have hal1 : al < 16 := hal16.1
          have HAl0 : Hid (al ≠ 0) := hide hal16.2
          have ea : (al : Int) - 1 = ((al - 1 : Nat) : Int) := by omega
          have eb := and_nat al (al - 1) (by omega) (by omega)
          have hTop : Hid (T.subs al = T.rem al (al &&& (al - 1))) := hide rfl
          generalize al - 1 = al1 at ea eb top1 top2 hTop
          generalize al &&& al1 = x0 at eb top1 top2 hTop
          have HTop := hide top1
          clear hal hal16 fs hq2 top1
          go_wp2
          go_loopw [9, 12] (fun Bv xv wq => ∃ (B' x : Nat), B' ≤ 8 ∧ x < al ∧ Bv = .int .i64 (B' : Int) ∧ xv = .int .i64 (x : Int) ∧ Hid (x &&& al = x ∧ bq t r c (q + 1) = min B' (T.best ((T.rem al x).map (T.cost t r c q))) ∧ ∃ fk' ff', Deb w1 Bd bk bf (.slice ao n cap) wq fk' ff' ∧ Vald t fk' ff' ∧ fk' r c = none ∧ Chg [bk, bf] W3 wq ∧ Rest r c fk fk' ff ff' ∧ SoFar t r c B' ff')) (fun _ xv _ => (intOf xv).toNat)
          case atStart => exact ⟨B, x0, hB8, top2, rfl, rfl, hide ⟨HTop.out, by rw [bq_step hr hc HCl.out hlt, ← HAl.out, hTop.out, hI.out.1], hI.out.2⟩⟩
          case round =>
            obtain ⟨B', x, hB', hxal, rfl, rfl, hJ⟩ := hrel
            by_cases hx0 : x = 0
            · subst hx0
              have d2 : decide ((0 : Int) < ((0 : Nat) : Int)) = false := by simp
              have hb := hJ.out.2.1
              rw [T.rem_zero, List.map_nil, T.best_nil] at hb
              have HB : Hid (B' = bq t r c (q + 1)) := hide (by omega)
              clear hb
              go_wp2
              go_roundw
              case rel => exact ⟨q + 1, B', by omega, hB', rfl, by go_num, hide ⟨HB.out, hJ.out.2.2⟩⟩
              case measure => simp [intOf]; omega
            · have hxp : 0 < x := by omega
              have d2 : decide ((0 : Int) < (x : Int)) = true := by simp; omega
              obtain ⟨hxa, hbq, fk', ff', hDe, hVa, hNo, hCh, hRe, hSo⟩ := hJ.out
              have hxs : x ∈ T.subs (if q = 0 then r else c) := by rw [← HAl.out]; exact T.mem_subs hal1 (by omega) hx0 (by omega) hxa
              obtain ⟨rs1, rs2, rs3⟩ := T.rem_step hal1 (show x < 16 by omega) hx0 hxa
              rw [rs1, List.map_cons, T.best_cons] at hbq
              obtain ⟨r0, c0, r1, c1, hby, hco, hA, hZ⟩ := by_split (t := t) hr hc hr0 hc0 HQ.out hxs
              have hbyc : Hid (∀ ws, Calls Try.prog 100 #[.agg #[.int .i64 (r : Int), .int .i64 (c : Int)], .agg #[.int .i64 (q : Int), .int .i64 (x : Int)]] ws (Ret (.tuple #[.agg #[.int .i64 (r0 : Int), .int .i64 (c0 : Int)], .agg #[.int .i64 (r1 : Int), .int .i64 (c1 : Int)], .bool true]) ws)) := hide fun ws => by
                have := by_any r c q x ws hr hc HQ.out hxs
                rw [hby] at this
                exact this
              have ex : (x : Int) - 1 = ((x - 1 : Nat) : Int) := by omega
              have exb := and_nat (x - 1) al (by omega) (by omega)
              have HNx : Hid (((x - 1) &&& al) &&& al = (x - 1) &&& al ∧ (x - 1) &&& al < x) := hide ⟨rs3, rs2⟩
              have HBq := hide hbq
              have hMx : (if T.len t r0 c0 < T.len t r1 c1 then (T.len t r1 c1 : Int) else (T.len t r0 c0 : Int)) = ((max (T.len t r0 c0) (T.len t r1 c1) : Nat) : Int) := by split <;> omega
              have hM16 : max (T.len t r0 c0) (T.len t r1 c1) ≤ 6 := by
                have := T.len_lt HT.out hA.1 hA.2.1 hA.2.2.1 hA.2.2.2.1
                have := T.len_lt HT.out hZ.1 hZ.2.1 hZ.2.2.1 hZ.2.2.2.1
                omega
              have bxr := BX3.out.keep hCh NS.out.2.1
              have y0 := bxr.cell 0
              have y1 := bxr.cell 1
              have ly := bxr.lt
              simp only [List.getElem?_toArray, List.getElem?_cons_zero, List.getElem?_cons_succ] at y0 y1
              have HSt := hide (And.intro hDe (And.intro hVa (And.intro hNo (And.intro hCh (And.intro hRe hSo)))))
              have HCo := hide hco
              have HA := hide hA
              have HZ := hide hZ
              have HXs := hide hxs
              generalize (x - 1) &&& al = x2 at exb HNx HBq
              generalize x - 1 = x1 at ex exb
              clear hxa hbq hDe hVa hNo hCh hRe hSo rs1 rs2 rs3 hby bxr hco hA hZ hxs
              go_wp2_with (go_at_call 100; refine (hbyc.out _).mono ?_; rintro e wb ⟨rfl, hwb⟩)
              have hCb : Chg [] wr wb := ((Chg.refl [] wr).alloc _).trans hwb
              have bn := (Box.new wb #[.int .i64 (r0 : Int), .int .i64 (c0 : Int)] 75).old (.cells #[.int .i64 (r1 : Int), .int .i64 (c1 : Int)] 75)
              have by' := Box.at (wb.alloc (.cells #[.int .i64 (r0 : Int), .int .i64 (c0 : Int)] 75)) #[.int .i64 (r1 : Int), .int .i64 (c1 : Int)] 75 (n := wb.heap.size + 1) (by simp)
              have bq13 := (Box.new wr #[.int .i64 (q : Int), .int .i64 (x : Int)] 128).keep (hwb.trans (((Chg.refl [] wb).alloc (.cells #[.int .i64 (r0 : Int), .int .i64 (c0 : Int)] 75)).alloc (.cells #[.int .i64 (r1 : Int), .int .i64 (c1 : Int)] 75))) List.not_mem_nil
              have CB : Hid (Chg [] wr ((wb.alloc (.cells #[.int .i64 (r0 : Int), .int .i64 (c0 : Int)] 75)).alloc (.cells #[.int .i64 (r1 : Int), .int .i64 (c1 : Int)] 75))) := hide ((hCb.alloc _).alloc _)
              have hsb := hCb.size
              have hsr := HSt.out.2.2.2.1.size
              have hs3 := C3.out.size
              have NB : Hid (wb.heap.size ∉ [bk, bf] ∧ wb.heap.size + 1 ∉ [bk, bf] ∧ wr.heap.size ∉ [bk, bf]) := hide (by have := NL.out; simp; omega)
              have BN := hide bn
              have BY := hide by'
              have B13 := hide bq13
              clear bn by' bq13 hCb hwb y0 y1 ly hsb hsr hs3
              generalize (wb.alloc (.cells #[.int .i64 (r0 : Int), .int .i64 (c0 : Int)] 75)).alloc (.cells #[.int .i64 (r1 : Int), .int .i64 (c1 : Int)] 75) = W4 at BN BY B13 CB ⊢
              generalize wb.heap.size = Bn at BN BY NB ⊢
              generalize wr.heap.size = B3 at B13 NB ⊢
              have HK := hide fun X (hX : Chg [bk, bf] W4 X) => (⟨(BN.out.keep hX NB.out.1).cell 0, (BN.out.keep hX NB.out.1).cell 1, (BY.out.keep hX NB.out.2.1).cell 0, (BY.out.keep hX NB.out.2.1).cell 1⟩ : X.cell? ⟨Bn, 0, none⟩ = some (.int .i64 (r0 : Int)) ∧ X.cell? ⟨Bn, 1, none⟩ = some (.int .i64 (c0 : Int)) ∧ X.cell? ⟨Bn + 1, 0, none⟩ = some (.int .i64 (r1 : Int)) ∧ X.cell? ⟨Bn + 1, 1, none⟩ = some (.int .i64 (c1 : Int)))
              have n0 := BN.out.cell 0
              have n1' := BN.out.cell 1
              have m0 := BY.out.cell 0
              have m1 := BY.out.cell 1
              have ln := BN.out.lt
              have ly := BY.out.lt
              simp only [List.getElem?_toArray, List.getElem?_cons_zero, List.getElem?_cons_succ] at n0 n1' m0 m1
              have HNoC := hide fun X (hX : Chg [] W4 X) => HIH.out r0 c0 X fk' ff' HA.out.1 HA.out.2.1 HA.out.2.2.1 HA.out.2.2.2.1 (by have := HA.out.2.2.2.2; omega) ((HSt.out.1.keep CB.out).keep hX) HSt.out.2.1
              have HYeC := hide fun X fk1 ff1 (hX : Deb w1 Bd bk bf (.slice ao n cap) X fk1 ff1) (hV : Vald t fk1 ff1) => HIH.out r1 c1 X fk1 ff1 HZ.out.1 HZ.out.2.1 HZ.out.2.2.1 HZ.out.2.2.2.1 (by have := HZ.out.2.2.2.2; omega) hX hV
              unfold rectV at HNoC HYeC
              obtain ⟨M, hM⟩ : ∃ M, M = max (T.len t r0 c0) (T.len t r1 c1) := ⟨_, rfl⟩
              rw [← hM] at hMx hM16
              have HMe := hide hM
              have hwr : IntKind.i64.wrap (1 + (M : Int)) = 1 + (M : Int) := by rw [IntKind.wrap_i64]; omega
              clear hM
              go_region_held3 (fun X => X.cell? ⟨Bn, 0, none⟩ = some (.int .i64 (r0 : Int)) ∧ X.cell? ⟨Bn, 1, none⟩ = some (.int .i64 (c0 : Int)) ∧ X.cell? ⟨Bn + 1, 0, none⟩ = some (.int .i64 (r1 : Int)) ∧ X.cell? ⟨Bn + 1, 1, none⟩ = some (.int .i64 (c1 : Int)))
                (first | (focus (refine HK.out _ ?_; (repeat' (first | with_reducible exact Chg.refl _ _ | with_reducible assumption | with_reducible apply Chg.drewN | with_reducible apply Chg.drew | with_reducible apply Chg.alloc | (with_reducible refine Chg.setCell ?_ (Or.inr ?_) _) | (with_reducible refine Chg.trans ?_ (by assumption)) | (simp; done) | (simp; omega))); done)))
                ((first | (go_at_call 73; (with_reducible refine Calls.mono (HNoC.out _ ?hcA) ?_); (case hcA => ((repeat' (first | with_reducible exact Chg.refl _ _ | with_reducible assumption | with_reducible apply Chg.drewN | with_reducible apply Chg.drew | with_reducible apply Chg.alloc | (with_reducible refine Chg.setCell ?_ (Or.inr ?_) _) | (with_reducible refine Chg.trans ?_ (by assumption)) | (simp; done) | (simp; omega))))); rintro e wA ⟨rfl, fkA, ffA, dA, vA, hcA, rA, _⟩) | (go_at_call 73; (with_reducible refine Calls.mono (HYeC.out _ fkA ffA (dA.keep ?hcZ) vA) ?_); (case hcZ => ((repeat' (first | with_reducible exact Chg.refl _ _ | with_reducible assumption | with_reducible apply Chg.drewN | with_reducible apply Chg.drew | with_reducible apply Chg.alloc | (with_reducible refine Chg.setCell ?_ (Or.inr ?_) _) | (with_reducible refine Chg.trans ?_ (by assumption)) | (simp; done) | (simp; omega))))); rintro e wZ ⟨rfl, fkZ, ffZ, dZ, vZ, hcZ, rZ, _⟩)))
              have CZ : Hid (Chg [bk, bf] W4 wZ) := hide (((Chg.refl _ _).drew.trans hcA).trans hcZ)
              have hcost : Hid (T.cost t r c q x = 1 + M) := hide (by rw [HCo.out, HMe.out])
              have hA := HA.out
              have hZ := HZ.out
              obtain ⟨sDe, sVa, sNo, sCh, sRe, sSo⟩ := HSt.out
              have hboth : ∀ r' c', r + c ≤ r' + c' → fkZ r' c' = fk' r' c' ∧ ffZ r' c' = ff' r' c' := fun r' c' h => by
                obtain ⟨z1, z2⟩ := rZ r' c' (by omega) (by omega)
                obtain ⟨a1, a2⟩ := rA r' c' (by omega) (by omega)
                exact ⟨z1.trans a1, z2.trans a2⟩
              have hnoZ : fkZ r c = none := by rw [(hboth r c (Nat.le_refl _)).1]; exact sNo
              have hReZ : Rest r c fk fkZ ff ffZ := fun r' c' h1 h2 => by
                obtain ⟨e1, e2⟩ := hboth r' c' h1
                obtain ⟨f1, f2⟩ := sRe r' c' h1 h2
                exact ⟨e1.trans f1, e2.trans f2⟩
              have hSoZ : SoFar t r c B' ffZ := by
                unfold SoFar at sSo ⊢
                rw [(hboth r c (Nat.le_refl _)).2]
                exact sSo
              have hChZ : Chg [bk, bf] W3 wZ := (sCh.trans CB.out.toAny).trans CZ.out
              have bxz := BX3.out.keep hChZ NS.out.2.1
              have b3z := B13.out.keep CZ.out NB.out.2.2
              have y0 := bxz.cell 0
              have y1 := bxz.cell 1
              have ly := bxz.lt
              have s0 := b3z.cell 0
              have s1 := b3z.cell 1
              have ls := b3z.lt
              have d1 := dZ.1.cell 2
              have ldz := dZ.1.lt
              simp only [List.getElem?_toArray, List.getElem?_cons_zero, List.getElem?_cons_succ] at y0 y1 s0 s1 d1
              have hdd := dZ.keep (Chg.refl [] wZ).drew
              obtain ⟨w5, hst, hm5, hc5⟩ := hdd.2.2.1.store hr hc (q, x)
              have hd5 : Deb w1 Bd bk bf (.slice ao n cap) w5 fkZ (upd ffZ r c (q, x)) := ⟨hdd.1.keep hc5 (by have := NS.out.1; simp at this; simp [this.2]), hdd.2.1.keep hc5 (by have := NN.out; simp; omega), hm5, hdd.2.2.2.trans' hc5 (fun y hy => .inr (by simp at hy; rw [hy]; exact HBs.out.2.2))⟩
              have hv5 : Vald t fkZ (upd ffZ r c (q, x)) := fun r' c' m hr' hc' hm => by
                have hne : ¬ (r' = r ∧ c' = c) := fun e => by rw [e.1, e.2, hnoZ] at hm; cases hm
                rw [upd_other _ _ hne]
                exact vZ r' c' m hr' hc' hm
              have hr5 : Rest r c fk fkZ ff (upd ffZ r c (q, x)) := fun r' c' h1 h2 => by rw [upd_other _ _ h2]; exact hReZ r' c' h1 h2
              have hs5 : SoFar t r c (1 + M) (upd ffZ r c (q, x)) := .inr ⟨q, x, upd_same _ _ _ _, by
                rcases HQ.out with h | h
                · left; exact ⟨h, by have := HXs.out; rwa [if_pos h] at this⟩
                · right; exact ⟨h, by have := HXs.out; rwa [if_neg (by omega)] at this⟩, hcost.out⟩
              have hc5' : Chg [bk, bf] W3 w5 := (hChZ.trans (Chg.refl _ _).drew).trans (hc5.mono (fun y hy => by simp at hy; simp [hy]))
              have HH5 := hide (And.intro hd5 (And.intro hv5 (And.intro hnoZ (And.intro hc5' (And.intro hr5 hs5)))))
              have HHZ := hide (And.intro dZ (And.intro vZ (And.intro hnoZ (And.intro hChZ (And.intro hReZ hSoZ)))))
              unfold splitV at hst
              unfold rectV at hst
              clear dA vA hcA rA dZ vZ hcZ rZ hA hZ sDe sVa sNo sCh sRe sSo hboth hnoZ hReZ hSoZ hChZ bxz b3z hdd hm5 hc5 hd5 hv5 hr5 hs5 hc5' n0 n1' m0 m1 ln
              by_cases hlt2 : 1 + M < B'
              · have d3 : decide (1 + (M : Int) < (B' : Int)) = true := by simp; omega
                have HNe : Hid (bq t r c (q + 1) = min (1 + M) (T.best ((T.rem al x2).map (T.cost t r c q)))) := hide (by have := HBq.out; rw [hcost.out] at this; omega)
                go_wp2
                go_region
                all_goals
                  go_wp2
                  go_roundw
                  case rel => exact ⟨1 + M, x2, by omega, by have := HNx.out.2; omega, by go_num, by go_num, hide ⟨HNx.out.1, HNe.out, _, _, HH5.out⟩⟩
                  case measure => have := HNx.out.2; simp [intOf]; omega
              · have d3 : decide (1 + (M : Int) < (B' : Int)) = false := by simp; omega
                have HNe : Hid (bq t r c (q + 1) = min B' (T.best ((T.rem al x2).map (T.cost t r c q)))) := hide (by have := HBq.out; rw [hcost.out] at this; omega)
                go_wp2
                go_roundw
                case rel => exact ⟨B', x2, hB', by have := HNx.out.2; omega, rfl, by go_num, hide ⟨HNx.out.1, HNe.out, _, _, HHZ.out⟩⟩
                case measure => have := HNx.out.2; simp [intOf]; omega
        · have e1 : decide ((q : Int) < 2) = false := by simp; omega
          obtain rfl : q = 2 := by omega
          obtain ⟨hB0, fk', ff', hDe, hVa, hNo, hCh, hRe, hSo⟩ := hI.out
          have hBq : B = T.len t r c := hB0
          clear hB0
          rw [hBq] at hSo
          have hGo := hSo.good HT.out hr hc hr0 hc0
          have bxr := BX3.out.keep hCh NS.out.2.1
          have y0 := bxr.cell 0
          have y1 := bxr.cell 1
          have ly := bxr.lt
          have d1 := hDe.1.cell 1
          have ldr := hDe.1.lt
          simp only [List.getElem?_toArray, List.getElem?_cons_zero, List.getElem?_cons_succ] at y0 y1 d1
          have hDd := hDe.keep (Chg.refl [] wr).drew
          obtain ⟨w4, hst, hm4, hc4⟩ := hDd.2.1.store hr hc B
          have hb4 : Chg [bk, bf] w w4 := (C3.out.toAny.trans (hCh.trans (Chg.refl _ _).drew)).trans (hc4.mono (fun x hx => by simp at hx; simp [hx]))
          have hd4 : Deb w1 Bd bk bf (.slice ao n cap) w4 (upd fk' r c B) ff' := ⟨hDd.1.keep hc4 (by have := NS.out.1; simp at this; simp [this.1]), hm4, hDd.2.2.1.keep hc4 (by have := NN.out; simp; omega), hDd.2.2.2.trans' hc4 (fun x hx => .inr (by simp at hx; rw [hx]; exact HBs.out.2.1))⟩
          have hv4 : Vald t (upd fk' r c B) ff' := fun r' c' m hr' hc' hm => by
            by_cases e : r' = r ∧ c' = c
            · obtain ⟨rfl, rfl⟩ := e
              rw [upd_same] at hm
              cases hm
              exact ⟨hBq, hGo⟩
            · rw [upd_other _ _ e] at hm
              exact hVa r' c' m hr' hc' hm
          have hr4 : Rest r c fk (upd fk' r c B) ff ff' := fun r' c' h1 h2 => by rw [upd_other _ _ h2]; exact hRe r' c' h1 h2
          have HH := hide (And.intro hd4 (And.intro hv4 (And.intro hb4 (And.intro hr4 hGo))))
          have HBq := hide hBq
          unfold rectV at hst
          clear hDe hVa hNo hCh hRe hSo hGo bxr hDd hm4 hc4 hd4 hv4 hb4 hr4 hBq
          go_wp2
          go_region
          all_goals
            go_wp2
            go_ret
            exact ⟨by rw [← HBq.out]; rfl, _, _, HH.out.1, HH.out.2.1, HH.out.2.2.1, HH.out.2.2.2.1, fun _ => HH.out.2.2.2.2⟩
end Go.Proofs.Ytaapamoglgpocaa
