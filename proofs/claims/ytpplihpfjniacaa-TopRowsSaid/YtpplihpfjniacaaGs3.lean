/- Walks: guesses: wins, of one number, where questions suffice. -/
import Derived.Test.YtpplihpfjniacaaGs2
import Derived.Laws.IdiomCopy
namespace Go.Proofs.Ytpplihpfjniacaa
open Go.RowKit Go.Maps

set_option maxRecDepth 100000 in
set_option maxHeartbeats 2000000 in
theorem wins_high (Bi bk q n : Nat) (v : Value) (w : World) (fk : Nat → Nat → Option Bool) (hn2 : 2 ≤ n) (hn : n ≤ 40) (hq0 : q ≠ 0) (hq : q < 40) (hnq : n ≤ 2 ^ q) (hv : See w v [(n : Int)]) (hI : Iv Bi bk w fk) (hA : AskG Bi bk q) :
    Calls Try.prog 18 #[.pointer (some ⟨Bi, 0, none⟩), v, .int .i64 (q : Int)] w (WinsIs Bi bk (.bool (decide (n ≤ 2 ^ q))) w) := by
  rw [decide_eq_true hnq]
  have HS := hide (gsum_one v n w hv (by omega))
  have HWt := hide fun ws (hw : Chg [] w ws) => weight_one v n q ws (hv.keep hw) (by omega)
  have HAs := hide fun ws (hw : Chg [] w ws) fk1 (hI1 : Iv Bi bk ws fk1) => hA n v ws fk1 hn2 hn hnq (hv.keep hw) hI1
  have HI := hide hI
  obtain ⟨a, cap, rfl, hcell⟩ := hv.open (by simp)
  have HC := hide fun wr (hw : Chg [] w wr) => hcell wr hw 0 (by simp)
  simp only [List.length_cons, List.length_nil, Nat.zero_add, add_nought, List.getD_cons_zero] at HS HWt HAs HC ⊢
  have d1 : decide ((n : Int) ≤ 1) = false := by simp; omega
  have d2 : ((q : Int) == 0) = false := by simp [hq0]
  have q0 : (0 : Int) ≤ (q : Int) := by omega
  have q1 : (q : Int) < 64 := by omega
  have hq39 : (2 : Nat) ^ q ≤ 2 ^ 39 := Nat.pow_le_pow_right (by decide) (by omega)
  have ew : wrap64 (2 ^ q) = ((2 ^ q : Nat) : Int) := by
    have e : ((2 : Int) ^ q) = ((2 ^ q : Nat) : Int) := by rw [Int.natCast_pow]; rfl
    rw [e]
    generalize 2 ^ q = z at *
    unfold wrap64; omega
  obtain ⟨P, hP⟩ : ∃ P, P = 2 ^ q := ⟨_, rfl⟩
  rw [← hP] at ew hnq
  have d3 : decide ((n : Int) > (P : Int)) = false := by simp; omega
  have d3' : decide ((P : Int) < (n : Int)) = false := by simp; omega
  have d3n : decide (P < n) = false := by simp; omega
  have hkl := hI.2.1.lt
  clear hP hv hcell hI hA hnq hq39
  go_enter Try.func18, Try.ntmps18
  go_wp2_with fail
  refine HS.out.mono ?_
  rintro e w2 ⟨rfl, hw⟩
  have HW := hide hw
  clear hw
  go_wp2
  refine wp_region_ext (by kernel_rfl) (by kernel_rfl) ?_
  repeat (first | go_big_quiet_step ((go_at_call 36; exact calls_of_ret (HWt.out _ (Chg.trans HW.out (ExtOf.chg _))))) | quiet_step ((go_at_call 36; exact calls_of_ret (HWt.out _ (Chg.trans HW.out (ExtOf.chg _))))))
  refine wpQuiet_nil ?_
  intro wx hx
  have HX := hide (HW.out.trans hx)
  clear hx
  have bk0 := Box.new wx #[.int .i64 0, .int .i64 0, .int .i64 0, .int .i64 0, .int .i64 1, .int .i64 (q : Int)] 78
  have hcopy : (Builtin.copy_ #[23, 43] 3 #[.slice (some ⟨wx.heap.size, 0, none⟩) 4 4, .slice (some a) 1 cap]).run Try.prog (wx.alloc (.cells #[.int .i64 0, .int .i64 0, .int .i64 0, .int .i64 0, .int .i64 1, .int .i64 (q : Int)] 78)) = .ok (.int .i64 1) ((wx.alloc (.cells #[.int .i64 0, .int .i64 0, .int .i64 0, .int .i64 0, .int .i64 1, .int .i64 (q : Int)] 78)).setCell ⟨wx.heap.size, 0, none⟩ (.int .i64 (n : Int))) := by
    refine (run_copy_cells (P := Try.prog) _ 23 43 3 3 wx.heap.size 0 4 4 a 1 cap [.int .i64 (n : Int)] Try.underlying23 (by kernel_rfl) rfl ?_ ?_ ?_ ?_).trans ?_
    · intro j u hj
      match j, hj with
      | 0, hj =>
        simp at hj
        subst hj
        rw [add_nought]
        exact HC.out _ (HX.out.alloc _)
    · intro j hj
      obtain rfl : j = 0 := by simpa using hj
      rw [bk0.cell]; rfl
    · intro j hj
      exact bk0.free _
    · intro u hu
      rw [List.mem_singleton] at hu
      subst hu
      rfl
    · rfl
  go_wp2
  have b2 := Box.new wx #[.int .i64 (n : Int), .int .i64 0, .int .i64 0, .int .i64 0, .int .i64 1, .int .i64 (q : Int)] 78
  have C2 := hide (HX.out.alloc (.cells #[.int .i64 (n : Int), .int .i64 0, .int .i64 0, .int .i64 0, .int .i64 1, .int .i64 (q : Int)] 78))
  have hszx := HX.out.size
  clear hcopy bk0
  generalize wx.alloc (.cells #[.int .i64 (n : Int), .int .i64 0, .int .i64 0, .int .i64 0, .int .i64 1, .int .i64 (q : Int)] 78) = W2 at *
  obtain ⟨B, hB⟩ : ∃ B, B = wx.heap.size := ⟨_, rfl⟩
  rw [← hB] at b2 ⊢
  have HBk : Hid (w.heap.size ≤ B) := hide (by rw [hB]; exact hszx)
  clear hszx hB
  have HI2 := hide (HI.out.keep C2.out)
  have HB2 := hide b2
  have e0 := b2.cell 0
  have e1 := b2.cell 1
  have e2 := b2.cell 2
  have e3 := b2.cell 3
  have e4 := b2.cell 4
  have e5 := b2.cell 5
  have el := b2.lt
  have i0 := HI2.out.1.cell 0
  have il := HI2.out.1.lt
  simp only [List.getElem?_toArray, List.getElem?_cons_zero, List.getElem?_cons_succ] at e0 e1 e2 e3 e4 e5 i0
  have hrun := fun nq => (HI2.out.2.1.keep ((Chg.refl [] W2).drewN nq) List.not_mem_nil).look (r := n) (c := q) (by omega) (by omega)
  unfold PM.posV at hrun
  clear b2
  cases hfk : fk n q with
  | some b =>
    have hb := HI2.out.2.2.2 n q b (by omega) (by omega) hfk
    rw [hfk, hb] at hrun
    simp only [Option.getD_some, Option.isSome_some] at hrun
    clear hfk hb
    go_wp2
    go_big_quiet (fail)
    go_wp2
    go_ret
    exact ⟨rfl, fk, HI2.out.keep ((Chg.refl [] W2).drewN nq), (C2.out.drewN nq).toAny⟩
  | none =>
    rw [hfk] at hrun
    simp only [Option.getD_none, Option.isSome_none] at hrun
    clear hfk
    go_wp2
    go_big_quiet (fail)
    have HI3 := hide (HI2.out.keep ((Chg.refl [] W2).drewN nq))
    have C3 := hide (C2.out.drewN nq)
    have HB3 := hide (HB2.out.keep ((Chg.refl [] W2).drewN nq) List.not_mem_nil)
    generalize W2.drewN nq = W3 at *
    clear hrun e0 e1 e2 e3 e4 e5 el i0 il
    go_wp2_with fail
    refine (HAs.out _ C3.out fk HI3.out).mono ?_
    rintro e W4 ⟨u, rfl, fk4, hI4, hc4⟩
    have hbne : B ∉ [bk] := by
      have := HBk.out
      have := hkl
      simp; omega
    have b4 := HB3.out.keep hc4 hbne
    have e0 := b4.cell 0
    have e1 := b4.cell 1
    have e2 := b4.cell 2
    have e3 := b4.cell 3
    have e4 := b4.cell 4
    have e5 := b4.cell 5
    have el := b4.lt
    have i0 := hI4.1.cell 0
    have il := hI4.1.lt
    simp only [List.getElem?_toArray, List.getElem?_cons_zero, List.getElem?_cons_succ] at e0 e1 e2 e3 e4 e5 i0
    have hId := hI4.keep (Chg.refl [] W4).drew
    obtain ⟨W5, hst, hm5, hc5⟩ := hId.2.1.store (r := n) (c := q) (by omega) (by omega) true
    have hI5 : Iv Bi bk W5 (PM.upd fk4 n q true) := ⟨hId.1.keep hc5 (by have := hId.2.2.1; simpa using this), hm5, hId.2.2.1, fun n' q' b' h1 h2 hb => by
      by_cases e : n' = n ∧ q' = q
      · obtain ⟨rfl, rfl⟩ := e
        rw [PM.upd_same] at hb
        cases hb
        rfl
      · rw [PM.upd_other _ _ e] at hb
        exact hId.2.2.2 n' q' b' h1 h2 hb⟩
    have HH := hide (And.intro hI5 ((C3.out.toAny.trans hc4).trans ((Chg.refl _ _).drew.trans hc5)))
    unfold PM.posV at hst
    clear b4 hI4 hc4 hId hm5 hc5 hI5 hbne
    go_wp2
    go_region
    all_goals
      go_wp2
      go_ret
      exact ⟨rfl, _, HH.out⟩
end Go.Proofs.Ytpplihpfjniacaa
