/- Walk: what is said in a plan, the reference's. -/
import Derived.Test.YtaapamoglgpocaaRun1
namespace Go.Proofs.Ytaapamoglgpocaa
open Go.RowKit

@[go_sem] theorem pair_at0 (x y : Int) (w : World) : (Instr.index 60 (.agg #[.int .i64 x, .int .i64 y]) (.int .i64 0)).run Try.prog w = .ok (.int .i64 x) w := by kernel_rfl
@[go_sem] theorem pair_at1 (x y : Int) (w : World) : (Instr.index 60 (.agg #[.int .i64 x, .int .i64 y]) (.int .i64 1)).run Try.prog w = .ok (.int .i64 y) w := by kernel_rfl

set_option maxRecDepth 100000 in
set_option maxHeartbeats 4000000 in
theorem RRun_any (v : Value) (ps : List Nd) (row col : Nat) (w : World) (hv : SeeN w v ps) (hp : isPl ps = true) (hr : row < 4) (hc : col < 4) :
    Calls Try.prog 33 #[v, .int .i64 (row : Int), .int .i64 (col : Int)] w fun e w' => ∃ v', e = .returned v' ∧ Ints w' v' (runM ps row col) ∧ Chg [] w w' := by
  obtain ⟨i0, hi', hz0, hz1, hz2⟩ := info_parts infoInt
  have HP := hide hp
  obtain ⟨hl1, hl100, _⟩ := isPl_iff.1 hp
  have hne : ps ≠ [] := by rintro rfl; simp at hl1
  obtain ⟨a, cap, rfl, hcell⟩ := hv.open hne
  have HC := hide hcell
  obtain ⟨L, hL⟩ : ∃ L, L = ps.length := ⟨_, rfl⟩
  have HL := hide hL
  rw [← hL] at hl1 hl100 ⊢
  clear hp hv hne hcell hL
  go_enter Try.func33, Try.ntmps33
  go_wp2
  go_loopw [7, 8] (fun ov av wr => ∃ i : Nat, i < L ∧ sliceLen ov ≤ i ∧ av = .int .i64 (i : Int) ∧ Hid (∃ pre, runM ps row col = pre ++ runA ps row col i ∧ wr.ownsRow w.heap.size 3 1 ov pre.length (pre.map (Value.int .i64)) ∧ Chg [] w wr)) (fun _ av _ => L - (intOf av).toNat)
  case atStart => exact ⟨0, by omega, Nat.le_refl _, rfl, hide ⟨[], by rw [List.nil_append]; rfl, World.ownsRow_nil _ _ _ _, Chg.refl _ _⟩⟩
  case round =>
    obtain ⟨i, hi, hsl, rfl, hI⟩ := hrel
    obtain ⟨pre, hrun, hown, hch⟩ := hI.out
    have hil : i < ps.length := by rw [← HL.out]; exact hi
    obtain ⟨k0, k1, k2, k3, k4, k5⟩ := HC.out wr hch i hil
    obtain ⟨y, hy⟩ : ∃ y, y = ps.getD i nd0 := ⟨_, rfl⟩
    rw [← hy] at k0 k1 k2 k3 k4 k5
    have HY := hide hy
    have hok := (isPl_iff.1 HP.out).2.2 i hil
    rw [← hy, ← HL.out] at hok
    have HOk := hide hok
    have HRun := hide hrun
    obtain ⟨oo, oc, rfl, hoc⟩ := row_shape hown
    have hpl : pre.length ≤ i := hsl
    have HOwn := hide hown
    have HCh := hide hch
    have hsz := hch.size
    have HIl := hide hil
    have hi0 : (0 : Int) ≤ (i : Int) := by omega
    have hi1 : (i : Int) < (L : Int) := by omega
    clear hy hok hrun hown hch hil hsl hoc
    cases hlf : y.leaf with
    | true =>
      have E : Hid (runM ps row col = pre ++ [y.val]) := hide (by rw [HRun.out, runA_leaf HIl.out (by rw [← HY.out]; exact hlf), HY.out])
      rw [hlf] at k0
      go_wp2_with (at_builtin; refine wpList_append_own _ rfl _ _ 38 rfl w.heap.size 3 i0 (.int .i64 0) 1 8 Try.underlying38 hi' hz0 hz1 hz2 rfl (by decide) _ _ _ rfl (HOwn.out.alloc _) ⟨wr.heap.size, 0, none⟩ 1 1 [.int .i64 y.val] rfl rfl (by intro j u hj; rw [add_zero_row, (Box.new wr _ _).cell j]; simpa using hj) (by intro u hu; rw [List.mem_singleton] at hu; subst hu; rfl) (by unfold maxLen; omega) (by omega) (by simp; omega) ?_; intro v1 w2 hown1 hgrow1 _)
      go_ret
      refine ⟨v1, rfl, ?_, chg_grown (HCh.out.alloc _) (HOwn.out.alloc _) (Nat.le_refl _) hgrow1⟩
      have h := row_low hown1 (Nat.zero_le _)
      unfold Ints
      rw [E.out, List.length_append, List.map_append]
      exact h
    | false =>
      obtain ⟨⟨_, hwho⟩, hs0, hs15, hn1, hn2, hy1, hy2⟩ := (ndOk_node hlf).1 HOk.out
      have HNode := hide (runA_node HP.out (row := row) (col := col) HIl.out (by rw [← HY.out]; exact hlf))
      rw [← HY.out] at HNode
      obtain ⟨S, hS⟩ : ∃ S : Nat, y.set = (S : Int) := ⟨y.set.toNat, by omega⟩
      obtain ⟨N, hN⟩ : ∃ N : Nat, y.no = (N : Int) := ⟨y.no.toNat, by omega⟩
      obtain ⟨Y, hY⟩ : ∃ Y : Nat, y.yes = (Y : Int) := ⟨y.yes.toNat, by omega⟩
      rw [hS] at hs0 hs15 k3
      rw [hN] at hn1 hn2 k4
      rw [hY] at hy1 hy2 k5
      rw [hlf] at k0
      have HSay : Hid (sayN y row col = S / 2 ^ (if y.who = 0 then row else col) % 2) := hide (by unfold sayN; rw [hS]; rfl)
      have HNoY : Hid (y.no = (N : Int) ∧ y.yes = (Y : Int)) := hide ⟨hN, hY⟩
      have HNx : Hid (nextN y 0 = N ∧ nextN y 1 = Y) := hide (by unfold nextN; rw [hN, hY]; exact ⟨rfl, rfl⟩)
      clear hS hN hY
      rcases hwho with hw0 | hw1
      · rw [hw0] at HSay k2
        rw [if_pos rfl] at HSay
        clear hw0
        have hsh := shr_int S row
        have hlt := and_one (S / 2 ^ row) (Nat.lt_of_le_of_lt (Nat.div_le_self _ _) (by omega))
        have hp64 : (row : Int) ≤ 64 := by omega
        generalize S / 2 ^ row = q at hsh hlt HSay
        rcases (show q % 2 = 0 ∨ q % 2 = 1 by omega) with hs | hs
        · rw [hs] at hlt HSay
          clear hs
          have htg1 : i < N := by omega
          have htg2 : N < L := by omega
          go_wp2_with (at_builtin; refine wpList_append_own _ rfl _ _ 38 rfl w.heap.size 3 i0 (.int .i64 0) 1 8 Try.underlying38 hi' hz0 hz1 hz2 rfl (by decide) _ _ _ rfl (HOwn.out.alloc _) ⟨wr.heap.size, 0, none⟩ 1 1 [.int .i64 0] rfl rfl (by intro j u hj; rw [add_zero_row, (Box.new wr _ _).cell j]; simpa using hj) (by intro u hu; rw [List.mem_singleton] at hu; subst hu; rfl) (by unfold maxLen; omega) (by omega) (by simp; omega) ?_; intro v1 w2 hown1 hgrow1 _; obtain ⟨o1, p1, rfl, _⟩ := row_shape hown1; have hc2 : Chg [] w w2 := chg_grown (HCh.out.alloc _) (HOwn.out.alloc _) (Nat.le_refl _) hgrow1; obtain ⟨m0, m1, m2, m3, m4, m5⟩ := HC.out w2 hc2 i HIl.out; (rw [← HY.out] at m0 m1 m2 m3 m4 m5); (rw [HNoY.out.1] at m4); (rw [HNoY.out.2] at m5); have HC2 := hide hc2; have HOw := hide hown1; clear hc2 hown1)
          go_quiet (fail)
          have CQ : Hid (Chg [] w (w2.drewN nq)) := hide (HC2.out.drewN _)
          have hfr : runM ps row col = (pre ++ [0]) ++ runA ps row col N := by
            rw [HRun.out, HNode.out, HSay.out, HNx.out.1, List.append_assoc]; rfl
          have HFr := hide hfr
          clear hfr
          go_wp2
          go_roundw
          case rel => exact ⟨N, htg2, by show pre.length + 1 ≤ N; omega, rfl, hide ⟨pre ++ [0], HFr.out, by
            rw [List.length_append, List.map_append]
            exact HOw.out, CQ.out⟩⟩
          case measure => simp [intOf]; omega
        · rw [hs] at hlt HSay
          clear hs
          have htg1 : i < Y := by omega
          have htg2 : Y < L := by omega
          go_wp2_with (at_builtin; refine wpList_append_own _ rfl _ _ 38 rfl w.heap.size 3 i0 (.int .i64 0) 1 8 Try.underlying38 hi' hz0 hz1 hz2 rfl (by decide) _ _ _ rfl (HOwn.out.alloc _) ⟨wr.heap.size, 0, none⟩ 1 1 [.int .i64 1] rfl rfl (by intro j u hj; rw [add_zero_row, (Box.new wr _ _).cell j]; simpa using hj) (by intro u hu; rw [List.mem_singleton] at hu; subst hu; rfl) (by unfold maxLen; omega) (by omega) (by simp; omega) ?_; intro v1 w2 hown1 hgrow1 _; obtain ⟨o1, p1, rfl, _⟩ := row_shape hown1; have hc2 : Chg [] w w2 := chg_grown (HCh.out.alloc _) (HOwn.out.alloc _) (Nat.le_refl _) hgrow1; obtain ⟨m0, m1, m2, m3, m4, m5⟩ := HC.out w2 hc2 i HIl.out; (rw [← HY.out] at m0 m1 m2 m3 m4 m5); (rw [HNoY.out.1] at m4); (rw [HNoY.out.2] at m5); have HC2 := hide hc2; have HOw := hide hown1; clear hc2 hown1)
          go_quiet (fail)
          have CQ : Hid (Chg [] w (w2.drewN nq)) := hide (HC2.out.drewN _)
          have hfr : runM ps row col = (pre ++ [1]) ++ runA ps row col Y := by
            rw [HRun.out, HNode.out, HSay.out, HNx.out.2, List.append_assoc]; rfl
          have HFr := hide hfr
          clear hfr
          go_wp2
          go_roundw
          case rel => exact ⟨Y, htg2, by show pre.length + 1 ≤ Y; omega, rfl, hide ⟨pre ++ [1], HFr.out, by
            rw [List.length_append, List.map_append]
            exact HOw.out, CQ.out⟩⟩
          case measure => simp [intOf]; omega
      · rw [hw1] at HSay k2
        rw [if_neg (by decide)] at HSay
        clear hw1
        have hsh := shr_int S col
        have hlt := and_one (S / 2 ^ col) (Nat.lt_of_le_of_lt (Nat.div_le_self _ _) (by omega))
        have hp64 : (col : Int) ≤ 64 := by omega
        generalize S / 2 ^ col = q at hsh hlt HSay
        rcases (show q % 2 = 0 ∨ q % 2 = 1 by omega) with hs | hs
        · rw [hs] at hlt HSay
          clear hs
          have htg1 : i < N := by omega
          have htg2 : N < L := by omega
          go_wp2_with (at_builtin; refine wpList_append_own _ rfl _ _ 38 rfl w.heap.size 3 i0 (.int .i64 0) 1 8 Try.underlying38 hi' hz0 hz1 hz2 rfl (by decide) _ _ _ rfl (HOwn.out.alloc _) ⟨wr.heap.size, 0, none⟩ 1 1 [.int .i64 0] rfl rfl (by intro j u hj; rw [add_zero_row, (Box.new wr _ _).cell j]; simpa using hj) (by intro u hu; rw [List.mem_singleton] at hu; subst hu; rfl) (by unfold maxLen; omega) (by omega) (by simp; omega) ?_; intro v1 w2 hown1 hgrow1 _; obtain ⟨o1, p1, rfl, _⟩ := row_shape hown1; have hc2 : Chg [] w w2 := chg_grown (HCh.out.alloc _) (HOwn.out.alloc _) (Nat.le_refl _) hgrow1; obtain ⟨m0, m1, m2, m3, m4, m5⟩ := HC.out w2 hc2 i HIl.out; (rw [← HY.out] at m0 m1 m2 m3 m4 m5); (rw [HNoY.out.1] at m4); (rw [HNoY.out.2] at m5); have HC2 := hide hc2; have HOw := hide hown1; clear hc2 hown1)
          go_quiet (fail)
          have CQ : Hid (Chg [] w (w2.drewN nq)) := hide (HC2.out.drewN _)
          have hfr : runM ps row col = (pre ++ [0]) ++ runA ps row col N := by
            rw [HRun.out, HNode.out, HSay.out, HNx.out.1, List.append_assoc]; rfl
          have HFr := hide hfr
          clear hfr
          go_wp2
          go_roundw
          case rel => exact ⟨N, htg2, by show pre.length + 1 ≤ N; omega, rfl, hide ⟨pre ++ [0], HFr.out, by
            rw [List.length_append, List.map_append]
            exact HOw.out, CQ.out⟩⟩
          case measure => simp [intOf]; omega
        · rw [hs] at hlt HSay
          clear hs
          have htg1 : i < Y := by omega
          have htg2 : Y < L := by omega
          go_wp2_with (at_builtin; refine wpList_append_own _ rfl _ _ 38 rfl w.heap.size 3 i0 (.int .i64 0) 1 8 Try.underlying38 hi' hz0 hz1 hz2 rfl (by decide) _ _ _ rfl (HOwn.out.alloc _) ⟨wr.heap.size, 0, none⟩ 1 1 [.int .i64 1] rfl rfl (by intro j u hj; rw [add_zero_row, (Box.new wr _ _).cell j]; simpa using hj) (by intro u hu; rw [List.mem_singleton] at hu; subst hu; rfl) (by unfold maxLen; omega) (by omega) (by simp; omega) ?_; intro v1 w2 hown1 hgrow1 _; obtain ⟨o1, p1, rfl, _⟩ := row_shape hown1; have hc2 : Chg [] w w2 := chg_grown (HCh.out.alloc _) (HOwn.out.alloc _) (Nat.le_refl _) hgrow1; obtain ⟨m0, m1, m2, m3, m4, m5⟩ := HC.out w2 hc2 i HIl.out; (rw [← HY.out] at m0 m1 m2 m3 m4 m5); (rw [HNoY.out.1] at m4); (rw [HNoY.out.2] at m5); have HC2 := hide hc2; have HOw := hide hown1; clear hc2 hown1)
          go_quiet (fail)
          have CQ : Hid (Chg [] w (w2.drewN nq)) := hide (HC2.out.drewN _)
          have hfr : runM ps row col = (pre ++ [1]) ++ runA ps row col Y := by
            rw [HRun.out, HNode.out, HSay.out, HNx.out.2, List.append_assoc]; rfl
          have HFr := hide hfr
          clear hfr
          go_wp2
          go_roundw
          case rel => exact ⟨Y, htg2, by show pre.length + 1 ≤ Y; omega, rfl, hide ⟨pre ++ [1], HFr.out, by
            rw [List.length_append, List.map_append]
            exact HOw.out, CQ.out⟩⟩
          case measure => simp [intOf]; omega
end Go.Proofs.Ytaapamoglgpocaa
