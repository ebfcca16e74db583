/- Walk: families: ask. -/
import Derived.Test.YtpplihpfjniacaaDoorEv8
namespace Go.Proofs.YtpplihpfjniacaaDoor
open Go.RowKit Go.Maps

theorem E.leastTo_top (n : Nat) (c : Nat → Nat) (a k : Nat) : E.leastTo n c a k ≤ n + 1 := by
  induction k with
  | zero => exact Nat.le_refl _
  | succ k ih =>
    unfold E.leastTo
    split
    · exact ih
    · split <;> omega
theorem E.need_top {n : Nat} {h : Nat → Bool} {a i : Nat} (ha : a < 2 ^ n) : E.need n h a i ≤ n + 1 := by
  rw [E.need_eq ha]
  split
  · omega
  · exact E.leastTo_top _ _ _ _

set_option maxRecDepth 100000 in
set_option maxHeartbeats 4000000 in
theorem ask_more (w1 : World) (Ba bk bb n F f : Nat) (hF : F < 18446744073709551616) (hn : n ≤ 6) (n1 : Ba ≠ bk) (n2 : Ba ≠ bb) (n3 : bk ≠ bb) (hB : w1.heap.size ≤ Ba ∧ w1.heap.size ≤ bk ∧ w1.heap.size ≤ bb)
    (IH : AskOk w1 Ba bk bb n F f) : AskOk w1 Ba bk bb n F (f + 1) := by
  intro a i w fk ha hi hf hD hV
  have p64 := Fam.pow_64 hn
  have HD := hide hD
  have HV := hide hV
  have HIH := hide IH
  have HSe := hide fun ws => settled_any n F a i ws hF hn (show a < 65536 by omega)
  have HTh0 := hide fun x ws (hx : x < n) => then_any a i x false ws (by omega) (by omega) (by omega)
  have HTh1 := hide fun x ws (hx : x < n) => then_any a i x true ws (by omega) (by omega) (by omega)
  have NN := hide n3
  have HBs := hide hB
  have HA := hide ha
  have HI := hide hi
  have HF := hide hf
  have a64 : a < 64 := by omega
  have i64 : i < 64 := by omega
  have HNe := hide (E.need_eq (h := fun s => F.testBit s) (i := i) ha)
  obtain ⟨b1, hkm, hbm, hch⟩ := hD
  have c0 := b1.cell 0
  have c1 := b1.cell 1
  have c2 := b1.cell 2
  have ld := b1.lt
  simp at c0 c1 c2
  have hkl := hkm.lt
  have hbl := hbm.lt
  unfold viewV famV at *
  simp only [Bool.false_eq_true, if_false, if_true] at HTh0 HTh1
  clear hV IH b1 hkm hbm hch ha hi hf
  go_enter Tryd.func27, Tryd.ntmps27
  go_wp2
  have bx := Box.new w #[.int .i64 (a : Int), .int .i64 (i : Int)] 57
  have C0 : Hid (Chg [] w (w.alloc (.cells #[.int .i64 (a : Int), .int .i64 (i : Int)] 57))) := hide ((Chg.refl _ _).alloc _)
  have hsz0 := C0.out.size
  have HD0 := hide (HD.out.keep C0.out)
  have NS : Hid (Ba ∉ [bk, bb] ∧ w.heap.size ∉ [bk, bb]) := hide (by simp; omega)
  generalize w.alloc (.cells #[.int .i64 (a : Int), .int .i64 (i : Int)] 57) = W0 at C0 bx hsz0 HD0 ⊢
  obtain ⟨Bv, hBv⟩ : ∃ Bv, Bv = w.heap.size := ⟨_, rfl⟩
  rw [← hBv] at bx NS ⊢
  have HBv : Hid (w.heap.size ≤ Bv) := hide (Nat.le_of_eq hBv.symm)
  clear hBv c0 c1 c2 ld
  have x0 := bx.cell 0
  have x1 := bx.cell 1
  have lx := bx.lt
  have c0 := HD0.out.1.cell 0
  have c1 := HD0.out.1.cell 1
  have c2 := HD0.out.1.cell 2
  have ld := HD0.out.1.lt
  have BX := hide bx
  simp only [List.getElem?_toArray, List.getElem?_cons_zero, List.getElem?_cons_succ] at x0 x1 c0 c1 c2
  clear bx
  have hrun := fun nq => (HD0.out.2.1.keep ((Chg.refl [] W0).drewN nq) List.not_mem_nil).look (r := a) (c := i) a64 i64
  unfold viewV at hrun
  cases hfk : fk a i with
  | some m =>
    have E := HV.out a i m a64 i64 hfk
    rw [hfk] at hrun
    have HE := hide E
    simp only [Option.getD_some, Option.isSome_some] at hrun
    clear E hfk
    go_wp2
    go_quiet (fail)
    have CN : Hid (Chg [] W0 (W0.drewN nq)) := hide ((Chg.refl [] W0).drewN _)
    go_wp2
    go_ret
    exact ⟨by rw [← HE.out]; rfl, fk, HD0.out.keep CN.out, HV.out, (C0.out.trans CN.out).toAny⟩
  | none =>
    rw [hfk] at hrun
    simp only [Option.getD_none, Option.isSome_none] at hrun
    clear hfk
    go_wp2
    go_quiet (fail)
    have CN : Hid (Chg [] W0 (W0.drewN nq)) := hide ((Chg.refl [] W0).drewN _)
    have HDn := hide (HD0.out.keep CN.out)
    have BXn := hide (BX.out.keep CN.out List.not_mem_nil)
    have CNw := hide (C0.out.trans CN.out)
    have hszn := CN.out.size
    generalize W0.drewN nq = W1 at *
    clear hrun x0 x1 lx c0 c1 c2 ld
    have x0 := BXn.out.cell 0
    have x1 := BXn.out.cell 1
    have lx := BXn.out.lt
    have c0 := HDn.out.1.cell 0
    have c1 := HDn.out.1.cell 1
    have c2 := HDn.out.1.cell 2
    have ld := HDn.out.1.lt
    simp only [List.getElem?_toArray, List.getElem?_cons_zero, List.getElem?_cons_succ] at x0 x1 c0 c1 c2
    generalize hse : E.settled n (fun s => F.testBit s) a i = se at *
    cases se with
    | true =>
      go_wp2
      refine wp_region_ext (by kernel_rfl) (by kernel_rfl) ?_
      repeat (first | go_big_quiet_step ((go_at_call 61; exact calls_of_ret (HSe.out _))) | quiet_step ((go_at_call 61; exact calls_of_ret (HSe.out _))))
      refine wpQuiet_nil ?_
      intro wx hx
      have HNz : Hid (E.need n (fun s => F.testBit s) a i = 0) := hide (by rw [HNe.out, if_pos trivial])
      clear x0 x1 lx c0 c1 c2 ld
      have HDx := hide (HDn.out.keep hx)
      have BXx := hide (BXn.out.keep hx List.not_mem_nil)
      have CNx := hide (CNw.out.trans hx)
      have x0 := BXx.out.cell 0
      have x1 := BXx.out.cell 1
      have lx := BXx.out.lt
      have c2 := HDx.out.1.cell 2
      have ld := HDx.out.1.lt
      simp only [List.getElem?_toArray, List.getElem?_cons_zero, List.getElem?_cons_succ] at x0 x1 c2
      have hDd := HDx.out.keep (Chg.refl [] wx).drew
      obtain ⟨w4, hst, hm4, hc4⟩ := hDd.2.1.store (r := a) (c := i) a64 i64 0
      have hd4 : Asker w1 Ba bk bb n F w4 (VM.upd fk a i 0) := ⟨hDd.1.keep hc4 (by have := NS.out.1; simp at this; simp [this.1]), hm4, hDd.2.2.1.keep hc4 (by have := NN.out; simp; omega), hDd.2.2.2.trans' hc4 (fun x hx => .inr (by simp at hx; rw [hx]; exact HBs.out.2.1))⟩
      have hb4 : Chg [bk, bb] w w4 := ((CNx.out.trans (Chg.refl _ _).drew).toAny).trans (hc4.mono (fun x hx => by simp at hx; simp [hx]))
      have hv4 : Needs n F (VM.upd fk a i 0) := fun a' i' m ha' hi' hm => by
        by_cases e : a' = a ∧ i' = i
        · obtain ⟨rfl, rfl⟩ := e
          rw [VM.upd_same] at hm
          cases hm
          exact HNz.out.symm
        · rw [VM.upd_other _ _ e] at hm
          exact HV.out a' i' m ha' hi' hm
      have HH := hide (And.intro hd4 (And.intro hv4 hb4))
      unfold viewV at hst
      rw [show ((0 : Nat) : Int) = 0 from rfl] at hst
      clear hDd hm4 hc4 hd4 hb4 hv4
      go_wp2
      go_region
      all_goals
        go_wp2
        go_ret
        exact ⟨by rw [HNz.out]; rfl, _, HH.out.1, HH.out.2.1, HH.out.2.2⟩
    | false =>
      go_wp2
      refine wp_region_ext (by kernel_rfl) (by kernel_rfl) ?_
      repeat (first | go_big_quiet_step ((go_at_call 61; exact calls_of_ret (HSe.out _))) | quiet_step ((go_at_call 61; exact calls_of_ret (HSe.out _))))
      refine wpQuiet_nil ?_
      intro wx hx
      clear x0 x1 lx c0 c1 c2 ld
      have HDx := hide (HDn.out.keep hx)
      have BXx := hide (BXn.out.keep hx List.not_mem_nil)
      have CNx := hide (CNw.out.trans hx)
      have c0 := HDx.out.1.cell 0
      have ld := HDx.out.1.lt
      simp only [List.getElem?_toArray, List.getElem?_cons_zero] at c0
      obtain ⟨c, hc⟩ : ∃ c : Nat → Nat, c = fun x => 1 + max (E.need n (fun s => F.testBit s) (a ||| 2 ^ x) i) (E.need n (fun s => F.testBit s) (a ||| 2 ^ x) (i ||| 2 ^ x)) := ⟨_, rfl⟩
      have HNl : Hid (E.need n (fun s => F.testBit s) a i = E.leastTo n c a n) := hide (by rw [HNe.out, hc, if_neg (by decide)])
      have HLt := hide fun k => E.leastTo_top n c a k
      have HLs : Hid (∀ k, E.leastTo n c a (k + 1) = if a.testBit k = true then E.leastTo n c a k else if c k < E.leastTo n c a k then c k else E.leastTo n c a k) := hide fun k => by
        rw [E.leastTo, Nat.testBit_eq_decide_div_mod_eq]
        simp only [decide_eq_true_eq]
      have HLz : Hid (E.leastTo n c a 0 = n + 1) := hide rfl
      have HCc := hide fun k => congrFun hc k
      generalize E.leastTo n c a = L at HNl HLt HLs HLz
      clear hc
      have ew : IntKind.i64.wrap ((n : Int) + 1) = ((n + 1 : Nat) : Int) := by rw [IntKind.wrap_i64]; omega
      go_wp2
      go_loopw [39, 7] (fun xv bv wr => ∃ k B : Nat, k ≤ n ∧ B ≤ n + 1 ∧ xv = .int .i64 (k : Int) ∧ bv = .int .i64 (B : Int) ∧ Hid (B = L k ∧ ∃ fk', Asker w1 Ba bk bb n F wr fk' ∧ Needs n F fk' ∧ Chg [bk, bb] wx wr)) (fun xv _ _ => n - (intOf xv).toNat)
      case atStart => exact ⟨0, n + 1, Nat.zero_le _, Nat.le_refl _, rfl, by go_num, hide ⟨HLz.out.symm, fk, HDx.out, HV.out, Chg.refl _ _⟩⟩
      case round =>
        obtain ⟨k, B, hk, hBn, rfl, rfl, hI⟩ := hrel
        obtain ⟨hBL, fk', hAs, hNd, hCh⟩ := hI.out
        have bxr := BXx.out.keep hCh NS.out.2
        have x0 := bxr.cell 0
        have x1 := bxr.cell 1
        have lx := bxr.lt
        simp only [List.getElem?_toArray, List.getElem?_cons_zero, List.getElem?_cons_succ] at x0 x1
        have HBL := hide hBL
        have HAs := hide hAs
        have HNd := hide hNd
        have HCh := hide hCh
        clear hBL hI
        by_cases hlt : k < n
        · have d1 : decide ((k : Int) < (n : Int)) = true := by simp; omega
          have k0 : (0 : Int) ≤ (k : Int) := by omega
          have k1 : (k : Int) < 64 := by omega
          have eb := ibit a k (by omega)
          have HL1 := hide (HLs.out k)
          have HC1 := hide (HCc.out k)
          have hax : a.testBit k = false → a < a ||| 2 ^ k := fun h => E.or_gt (by rw [Nat.testBit_eq_decide_div_mod_eq] at h; exact of_decide_eq_false h)
          have HAX := hide hax
          clear hax
          generalize a.testBit k = tb at *
          cases tb with
          | true =>
            clear hAs hNd hCh bxr
            go_wp2
            go_roundw
            case rel => exact ⟨k + 1, B, by omega, hBn, by go_num, rfl, hide ⟨by rw [HL1.out, if_pos rfl]; exact HBL.out, fk', HAs.out, HNd.out, HCh.out⟩⟩
            case measure => simp [intOf]; omega
          | false =>
            have HK := hide (fun X (hX : Chg [bk, bb] wr X) => (⟨(bxr.keep hX NS.out.2).cell 0, (bxr.keep hX NS.out.2).cell 1⟩ : X.cell? ⟨Bv, 0, none⟩ = some (.int .i64 (a : Int)) ∧ X.cell? ⟨Bv, 1, none⟩ = some (.int .i64 (i : Int))))
            have HT0 := hide fun ws => HTh0.out k ws hlt
            have HT1 := hide fun ws => HTh1.out k ws hlt
            have ha2 := E.lt_or HA.out hlt
            have hi2 := E.lt_or HI.out hlt
            have hlt2 := HAX.out rfl
            have hfu := HF.out
            have HM : Hid (c k = 1 + max (E.need n (fun s => F.testBit s) (a ||| 2 ^ k) i) (E.need n (fun s => F.testBit s) (a ||| 2 ^ k) (i ||| 2 ^ k))) := HC1
            have t1 := E.need_top (h := fun s => F.testBit s) (i := i) ha2
            have t2 := E.need_top (h := fun s => F.testBit s) (i := i ||| 2 ^ k) ha2
            have HA1 := hide fun X fk1 (hX : Asker w1 Ba bk bb n F X fk1) (hN : Needs n F fk1) => HIH.out (a ||| 2 ^ k) i X fk1 ha2 HI.out (by omega) hX hN
            have HA2 := hide fun X fk1 (hX : Asker w1 Ba bk bb n F X fk1) (hN : Needs n F fk1) => HIH.out (a ||| 2 ^ k) (i ||| 2 ^ k) X fk1 ha2 hi2 (by omega) hX hN
            unfold AskIs viewV at HA1 HA2
            generalize a ||| 2 ^ k = a2 at *
            generalize i ||| 2 ^ k = i2 at *
            generalize E.need n (fun s => F.testBit s) a2 i = N1 at *
            generalize E.need n (fun s => F.testBit s) a2 i2 = N2 at *
            have hMx : (if N1 < N2 then (N2 : Int) else (N1 : Int)) = ((max N1 N2 : Nat) : Int) := by split <;> omega
            obtain ⟨M, hM⟩ : ∃ M, M = max N1 N2 := ⟨_, rfl⟩
            have hM7 : M ≤ n + 1 := by omega
            rw [← hM] at hMx HM
            have hwr : IntKind.i64.wrap (1 + (M : Int)) = 1 + (M : Int) := by rw [IntKind.wrap_i64]; omega
            clear hM ha2 hi2 hlt2 hfu t1 t2 hAs hNd hCh bxr HAX
            go_wp2
            go_region_held3 (fun X => X.cell? ⟨Bv, 0, none⟩ = some (.int .i64 (a : Int)) ∧ X.cell? ⟨Bv, 1, none⟩ = some (.int .i64 (i : Int)))
              (first | (focus (refine HK.out _ ?_; (repeat' (first | with_reducible exact Chg.refl _ _ | with_reducible assumption | with_reducible apply Chg.drewN | with_reducible apply Chg.drew | with_reducible apply Chg.alloc | (with_reducible refine Chg.trans ?_ (by with_reducible assumption)) | (with_reducible refine Chg.trans ?_ (Chg.toAny (by with_reducible assumption))))); done)))
              ((first | (go_at_call 62; (with_reducible refine Calls.mono (HT0.out _) ?_); rintro e wP ⟨rfl, hcP⟩) | (go_at_call 62; (with_reducible refine Calls.mono (HT1.out _) ?_); rintro e wQ ⟨rfl, hcQ⟩) | (go_at_call 27; (with_reducible refine Calls.mono (HA1.out _ fk' (HAs.out.keep ?hcA) HNd.out) ?_); (case hcA => ((repeat' (first | with_reducible exact Chg.refl _ _ | with_reducible assumption | with_reducible apply Chg.drewN | with_reducible apply Chg.drew | with_reducible apply Chg.alloc | (with_reducible refine Chg.setCell ?_ (Or.inr ?_) _) | (with_reducible refine Chg.trans ?_ (by assumption)) | (simp; done) | (simp; omega))))); rintro e wA ⟨rfl, fkA, dA, vA, hcA⟩) | (go_at_call 27; (with_reducible refine Calls.mono (HA2.out _ fkA (dA.keep ?hcZ) vA) ?_); (case hcZ => ((repeat' (first | with_reducible exact Chg.refl _ _ | with_reducible assumption | with_reducible apply Chg.drewN | with_reducible apply Chg.drew | with_reducible apply Chg.alloc | (with_reducible refine Chg.setCell ?_ (Or.inr ?_) _) | (with_reducible refine Chg.trans ?_ (by assumption)) | (simp; done) | (simp; omega))))); rintro e wZ ⟨rfl, fkZ, dZ, vZ, hcZ⟩)))
            have CZ : Chg [bk, bb] wr wZ := by (repeat' (first | with_reducible exact Chg.refl _ _ | with_reducible assumption | with_reducible apply Chg.drewN | with_reducible apply Chg.drew | with_reducible apply Chg.alloc | (with_reducible refine Chg.trans ?_ (by with_reducible assumption)) | (with_reducible refine Chg.trans ?_ (Chg.toAny (by with_reducible assumption)))))
            have hChZ : Chg [bk, bb] wx wZ := HCh.out.trans CZ
            have hL : L (k + 1) = if 1 + M < L k then 1 + M else L k := by
              have := HL1.out
              rw [if_neg (by decide), HM.out] at this
              exact this
            have HL := hide hL
            have bxz := BXx.out.keep hChZ NS.out.2
            clear x0 x1 lx
            have x0 := bxz.cell 0
            have x1 := bxz.cell 1
            have lx := bxz.lt
            have c3 := dZ.1.cell 3
            have ldz := dZ.1.lt
            simp only [List.getElem?_toArray, List.getElem?_cons_zero, List.getElem?_cons_succ] at x0 x1 c3
            have hdd := dZ.keep (Chg.refl [] wZ).drew
            obtain ⟨v0, st, wm, w5, hme, hes, hb5, hc5⟩ := hdd.2.2.1.entry a64 i64 k
            have hd5 : Asker w1 Ba bk bb n F w5 fkZ := ⟨hdd.1.keep hc5 (by have := NS.out.1; simp at this; simp [this.2]), hdd.2.1.keep hc5 (by have := NN.out; simp; omega), hb5, hdd.2.2.2.trans' hc5 (fun y hy => .inr (by simp at hy; rw [hy]; exact HBs.out.2.2))⟩
            have hc5' : Chg [bk, bb] wx w5 := (hChZ.trans (Chg.refl _ _).drew).trans (hc5.mono (fun y hy => by simp at hy; simp [hy]))
            have HH5 := hide (And.intro hd5 (And.intro vZ hc5'))
            have HHZ := hide (And.intro dZ (And.intro vZ hChZ))
            unfold viewV goInt at hme
            unfold goInt at hes
            clear hdd hb5 hc5 hd5 hc5' bxz dZ vZ hChZ hcZ dA vA hcA CZ hL
            by_cases hlt2 : 1 + M < B
            · have d3 : decide (1 + (M : Int) < (B : Int)) = true := by simp; omega
              go_wp2
              go_region
              all_goals
                go_wp2
                go_roundw
                case rel => exact ⟨k + 1, 1 + M, by omega, by omega, by go_num, by go_num, hide ⟨by rw [HL.out, if_pos (by rw [← HBL.out]; exact hlt2)], fkZ, HH5.out⟩⟩
                case measure => simp [intOf]; omega
            · have d3 : decide (1 + (M : Int) < (B : Int)) = false := by simp; omega
              go_wp2
              go_roundw
              case rel => exact ⟨k + 1, B, by omega, hBn, by go_num, rfl, hide ⟨by rw [HL.out, if_neg (by rw [← HBL.out]; exact hlt2)]; exact HBL.out, fkZ, HHZ.out⟩⟩
              case measure => simp [intOf]; omega
        · have d1 : decide ((k : Int) < (n : Int)) = false := by simp; omega
          have hkn : k = n := by omega
          have HBv2 : Hid (E.need n (fun s => F.testBit s) a i = B) := hide (by rw [HNl.out, ← hkn]; exact HBL.out.symm)
          have c2 := hAs.1.cell 2
          have ldr := hAs.1.lt
          simp only [List.getElem?_toArray, List.getElem?_cons_zero, List.getElem?_cons_succ] at c2
          have hDd := hAs.keep (Chg.refl [] wr).drew
          obtain ⟨w4, hst, hm4, hc4⟩ := hDd.2.1.store (r := a) (c := i) a64 i64 B
          have hd4 : Asker w1 Ba bk bb n F w4 (VM.upd fk' a i B) := ⟨hDd.1.keep hc4 (by have := NS.out.1; simp at this; simp [this.1]), hm4, hDd.2.2.1.keep hc4 (by have := NN.out; simp; omega), hDd.2.2.2.trans' hc4 (fun x hx => .inr (by simp at hx; rw [hx]; exact HBs.out.2.1))⟩
          have hb4 : Chg [bk, bb] w w4 := ((CNx.out.toAny.trans hCh).trans (Chg.refl _ _).drew).trans (hc4.mono (fun x hx => by simp at hx; simp [hx]))
          have hv4 : Needs n F (VM.upd fk' a i B) := fun a' i' m ha' hi' hm => by
            by_cases e : a' = a ∧ i' = i
            · obtain ⟨rfl, rfl⟩ := e
              rw [VM.upd_same] at hm
              cases hm
              exact HBv2.out.symm
            · rw [VM.upd_other _ _ e] at hm
              exact hNd a' i' m ha' hi' hm
          have HH := hide (And.intro hd4 (And.intro hv4 hb4))
          unfold viewV at hst
          clear hDd hm4 hc4 hd4 hb4 hv4 hAs hNd hCh bxr hkn
          go_wp2
          go_region
          all_goals
            go_wp2
            go_ret
            exact ⟨by rw [HBv2.out]; rfl, _, HH.out.1, HH.out.2.1, HH.out.2.2⟩

theorem ask_all (w1 : World) (Ba bk bb n F : Nat) (hF : F < 18446744073709551616) (hn : n ≤ 6) (n1 : Ba ≠ bk) (n2 : Ba ≠ bb) (n3 : bk ≠ bb) (hB : w1.heap.size ≤ Ba ∧ w1.heap.size ≤ bk ∧ w1.heap.size ≤ bb) : ∀ f, AskOk w1 Ba bk bb n F f
  | 0 => fun a i w fk _ _ h => by omega
  | f + 1 => ask_more w1 Ba bk bb n F f hF hn n1 n2 n3 hB (ask_all w1 Ba bk bb n F hF hn n1 n2 n3 hB f)
end Go.Proofs.YtpplihpfjniacaaDoor
