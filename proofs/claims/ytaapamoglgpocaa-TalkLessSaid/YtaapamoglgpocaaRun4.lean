/- Walk: what is said in a plan, the program's. -/
import Derived.Test.YtaapamoglgpocaaPlanPlain
namespace Go.Proofs.Ytaapamoglgpocaa
open Go.RowKit

def ndCells (x : Nd) : Array Value := #[.bool x.leaf, .int .i64 x.val, .int .i64 x.who, .int .i64 x.set, .int .i64 x.no, .int .i64 x.yes]
/-- A node is written over another one. -/
def set6 (w : World) (B : Nat) (x : Nd) : World := (((((w.setCell ⟨B, 0, none⟩ (.bool x.leaf)).setCell ⟨B, 1, none⟩ (.int .i64 x.val)).setCell ⟨B, 2, none⟩ (.int .i64 x.who)).setCell ⟨B, 3, none⟩ (.int .i64 x.set)).setCell ⟨B, 4, none⟩ (.int .i64 x.no)).setCell ⟨B, 5, none⟩ (.int .i64 x.yes)
theorem set6_box {w : World} {B : Nat} {x y : Nd} {T : TypeId} (h : Box w B (ndCells y) T) : Box (set6 w B x) B (ndCells x) T := by
  have h5 := (((((h.set 0 (.bool x.leaf)).set 1 (.int .i64 x.val)).set 2 (.int .i64 x.who)).set 3 (.int .i64 x.set)).set 4 (.int .i64 x.no)).set 5 (.int .i64 x.yes)
  unfold ndCells at h5
  simp only [List.setIfInBounds_toArray, List.set_cons_zero, List.set_cons_succ] at h5
  exact h5
theorem set6_chg (w : World) (B : Nat) (x : Nd) : Chg [B] w (set6 w B x) :=
  ((((((Chg.refl [B] w).setCell (p := ⟨B, 0, none⟩) (.inl (by simp)) _).setCell (p := ⟨B, 1, none⟩) (.inl (by simp)) _).setCell (p := ⟨B, 2, none⟩) (.inl (by simp)) _).setCell (p := ⟨B, 3, none⟩) (.inl (by simp)) _).setCell (p := ⟨B, 4, none⟩) (.inl (by simp)) _).setCell (p := ⟨B, 5, none⟩) (.inl (by simp)) _
def sliceLen (v : Value) : Nat := match v with
  | .slice _ n _ => n
  | _ => 0

set_option maxRecDepth 100000 in
set_option maxHeartbeats 4000000 in
theorem run_any (v : Value) (ps : List Nd) (row col : Nat) (w : World) (hv : SeeN w v ps) (hp : isPl ps = true) (hr : row < 4) (hc : col < 4) :
    Calls Try.prog 66 #[v, .int .i64 (row : Int), .int .i64 (col : Int)] w fun e w' => ∃ v', e = .returned v' ∧ Ints w' v' (runM ps row col) ∧ Chg [] w w' := by
  obtain ⟨i0, hi', hz0, hz1, hz2⟩ := info_parts infoInt
  have HP := hide hp
  obtain ⟨hl1, hl100, _⟩ := isPl_iff.1 hp
  have hne : ps ≠ [] := by rintro rfl; simp at hl1
  obtain ⟨a, cap, rfl, hcell⟩ := hv.open hne
  have HC := hide hcell
  obtain ⟨k0, k1, k2, k3, k4, k5⟩ := hcell w (Chg.refl _ _) 0 (by omega)
  obtain ⟨L, hL⟩ : ∃ L, L = ps.length := ⟨_, rfl⟩
  have HL := hide hL
  rw [← hL] at hl1 hl100 ⊢
  rw [Nat.zero_mul, add_nought] at k0 k1 k2 k3 k4 k5
  have hL0 : (0 : Int) < (L : Int) := by omega
  obtain ⟨x, hx⟩ : ∃ x, x = ps.getD 0 nd0 := ⟨_, rfl⟩
  rw [← hx] at k0 k1 k2 k3 k4 k5
  have HX := hide hx
  clear hp hv hne hcell hL hx
  go_enter Try.func66, Try.ntmps66
  go_wp2
  have bx : Box (w.alloc (.cells (ndCells x) 54)) w.heap.size (ndCells x) 54 := Box.new _ _ _
  have C0 : Hid (Chg [] w (w.alloc (.cells (ndCells x) 54))) := hide ((Chg.refl _ _).alloc _)
  unfold ndCells at bx C0
  have hBn : Hid (w.heap.size ≤ w.heap.size) := hide (Nat.le_refl _)
  generalize w.alloc (.cells #[.bool x.leaf, .int .i64 x.val, .int .i64 x.who, .int .i64 x.set, .int .i64 x.no, .int .i64 x.yes] 54) = W0 at bx C0 ⊢
  obtain ⟨Bn, hB⟩ : ∃ Bn, Bn = w.heap.size := ⟨_, rfl⟩
  rw [← hB] at bx ⊢
  have HB := hide hB
  have BX := hide bx
  clear hB hBn bx k0 k1 k2 k3 k4 k5
  go_loopw [7] (fun ov wr => ∃ i : Nat, i < L ∧ sliceLen ov ≤ i ∧ Hid (∃ pre, runM ps row col = pre ++ runA ps row col i ∧ wr.ownsRow (Bn + 1) 3 1 ov pre.length (pre.map (Value.int .i64)) ∧ Box wr Bn (ndCells (ps.getD i nd0)) 54 ∧ Chg [] w wr)) (fun ov _ => 100 - sliceLen ov)
  case atStart => exact ⟨0, by omega, Nat.le_refl _, hide ⟨[], by rw [List.nil_append]; rfl, World.ownsRow_nil _ _ _ _, by rw [← HX.out]; exact BX.out, C0.out⟩⟩
  case round =>
    obtain ⟨i, hi, hsl, hI⟩ := hrel
    obtain ⟨pre, hrun, hown, hbx, hch⟩ := hI.out
    obtain ⟨y, hy⟩ : ∃ y, y = ps.getD i nd0 := ⟨_, rfl⟩
    rw [← hy] at hbx
    have HY := hide hy
    have hok := (isPl_iff.1 HP.out).2.2 i (by rw [← HL.out]; exact hi)
    rw [← hy, ← HL.out] at hok
    have HOk := hide hok
    have HRun := hide hrun
    have hil : i < ps.length := by rw [← HL.out]; exact hi
    have c0 := hbx.cell 0
    have c1 := hbx.cell 1
    have c2 := hbx.cell 2
    have c3 := hbx.cell 3
    have c4 := hbx.cell 4
    have c5 := hbx.cell 5
    have lb := hbx.lt
    unfold ndCells at c0 c1 c2 c3 c4 c5
    simp only [List.getElem?_toArray, List.getElem?_cons_zero, List.getElem?_cons_succ] at c0 c1 c2 c3 c4 c5
    obtain ⟨oo, oc, rfl, hoc⟩ := row_shape hown
    have hpl : pre.length ≤ i := hsl
    have HOwn := hide hown
    have HBx := hide hbx
    have HCh := hide hch
    have hsz := hch.size
    have HIl := hide hil
    clear hy hok hrun hown hbx hch hil
    cases hlf : y.leaf with
    | true =>
      have E : Hid (runM ps row col = pre ++ [y.val]) := hide (by rw [HRun.out, runA_leaf HIl.out (by rw [← HY.out]; exact hlf), HY.out])
      rw [hlf] at c0
      clear hsl hoc
      go_wp2_with (at_builtin; refine wpList_append_own _ rfl _ _ 38 rfl (Bn + 1) 3 i0 (.int .i64 0) 1 8 Try.underlying38 hi' hz0 hz1 hz2 rfl (by decide) _ _ _ rfl (HOwn.out.alloc _) ⟨wr.heap.size, 0, none⟩ 1 1 [.int .i64 y.val] rfl rfl (by intro j u hj; rw [add_zero_row, (Box.new wr _ _).cell j]; simpa using hj) (by intro u hu; rw [List.mem_singleton] at hu; subst hu; rfl) (by unfold maxLen; omega) (by omega) (by simp; omega) ?_; intro v1 w2 hown1 hgrow1 _)
      go_ret
      refine ⟨v1, rfl, ?_, chg_grown (HCh.out.alloc _) (HOwn.out.alloc _) (by have := HB.out; omega) hgrow1⟩
      have h := row_low hown1 (Nat.zero_le _)
      unfold Ints
      rw [E.out, List.length_append, List.map_append]
      exact h
    | false =>
      obtain ⟨⟨_, hwho⟩, hs0, hs15, hn1, hn2, hy1, hy2⟩ := (ndOk_node hlf).1 HOk.out
      have HNode := hide (runA_node HP.out (row := row) (col := col) HIl.out (by rw [← HY.out]; exact hlf))
      rw [← HY.out] at HNode
      obtain ⟨S, hS⟩ : ∃ S : Nat, y.set = (S : Int) := ⟨y.set.toNat, by omega⟩
      obtain ⟨N, hN⟩ : ∃ N : Nat, y.no = (N : Int) := ⟨y.no.toNat, by omega⟩
      obtain ⟨Y, hY⟩ : ∃ Y : Nat, y.yes = (Y : Int) := ⟨y.yes.toNat, by omega⟩
      rw [hS] at hs0 hs15 c3
      rw [hN] at hn1 hn2 c4
      rw [hY] at hy1 hy2 c5
      rw [hlf] at c0
      have HSay : Hid (sayN y row col = S / 2 ^ (if y.who = 0 then row else col) % 2) := hide (by unfold sayN; rw [hS]; rfl)
      have HNoY : Hid (y.no = (N : Int) ∧ y.yes = (Y : Int)) := hide ⟨hN, hY⟩
      have HNx : Hid (nextN y 0 = N ∧ nextN y 1 = Y) := hide (by unfold nextN; rw [hN, hY]; exact ⟨rfl, rfl⟩)
      clear hS hN hY hsl hoc
      rcases hwho with hw0 | hw1
      · rw [hw0] at HSay c2
        rw [if_pos rfl] at HSay
        clear hw0
        have hsh := shr_int S row
        have hlt := and_one (S / 2 ^ row) (Nat.lt_of_le_of_lt (Nat.div_le_self _ _) (by omega))
        have hp64 : (row : Int) ≤ 64 := by omega
        generalize S / 2 ^ row = q at hsh hlt HSay
        rcases (show q % 2 = 0 ∨ q % 2 = 1 by omega) with hs | hs
        · rw [hs] at hlt HSay
          clear hs
          go_wp2
          go_region
          all_goals (
            have CV : Hid (Chg [] wr (wr.alloc (.cells #[.int .i64 (row : Int), .int .i64 (col : Int)] 3)).drew) := hide ((Chg.refl _ _).alloc _).drew
            clear c0 c1 c2 c3 c4 c5 lb hsz hsh hlt
            generalize (wr.alloc (.cells #[.int .i64 (row : Int), .int .i64 (col : Int)] 3)).drew = wv at CV ⊢
            have HOwnV := hide (CV.out.row HOwn.out (fun _ _ => List.not_mem_nil))
            have HBxV := hide (HBx.out.keep CV.out List.not_mem_nil)
            have HChV : Hid (Chg [] w wv) := hide (HCh.out.trans CV.out)
            have hszv := HBxV.out.lt
            have htg1 : i < N := by omega
            have htg2 : N < L := by omega
            have htg3 : (0 : Int) ≤ (N : Int) := by omega
            have htg4 : (N : Int) < (L : Int) := by omega
            go_wp2_with (at_builtin; refine wpList_append_own _ rfl _ _ 38 rfl (Bn + 1) 3 i0 (.int .i64 0) 1 8 Try.underlying38 hi' hz0 hz1 hz2 rfl (by decide) _ _ _ rfl (HOwnV.out.alloc _) ⟨wv.heap.size, 0, none⟩ 1 1 [.int .i64 0] rfl rfl (by intro j u hj; rw [add_zero_row, (Box.new wv _ _).cell j]; simpa using hj) (by intro u hu; rw [List.mem_singleton] at hu; subst hu; rfl) (by unfold maxLen; omega) (by omega) (by simp; omega) ?_; intro v1 w2 hown1 hgrow1 _; obtain ⟨o1, p1, rfl, _⟩ := row_shape hown1; have q2 := box_grown (HBxV.out.old _) (HOwnV.out.alloc _) hgrow1 (Nat.lt_succ_self _); have hc2 : Chg [] w w2 := chg_grown (HChV.out.alloc _) (HOwnV.out.alloc _) (by have := HB.out; omega) hgrow1; have e0 := q2.cell 0; have e1 := q2.cell 1; have e2 := q2.cell 2; have e3 := q2.cell 3; have e4 := q2.cell 4; have e5 := q2.cell 5; have g2 := fun o => q2.free o; have l2 := q2.lt; (unfold ndCells at e0 e1 e2 e3 e4 e5); (simp only [List.getElem?_toArray, List.getElem?_cons_zero, List.getElem?_cons_succ] at e0 e1 e2 e3 e4 e5); (rw [HNoY.out.1] at e4); (rw [HNoY.out.2] at e5); obtain ⟨m0, m1, m2, m3, m4, m5⟩ := HC.out (w2.alloc (.cells #[.int .i64 (N : Int), .int .i64 (Y : Int)] 3)) (hc2.alloc _) N (by rw [← HL.out]; exact htg2); obtain ⟨z, hz⟩ : ∃ z, z = ps.getD N nd0 := ⟨_, rfl⟩; (rw [← hz] at m0 m1 m2 m3 m4 m5); have HZ := hide hz; have HQ := hide q2; have HC2 := hide hc2; have HOw := hide hown1; clear hz q2 hc2 hown1)
            have hfb := set6_box (x := z) HQ.out
            have hfo := (set6_chg w2 Bn z).row HOw.out (fun g hg hm => by
              have h1 := (HOw.out.lt g hg).1
              simp at hm
              omega)
            have hfc : Chg [] w ((set6 w2 Bn z).alloc (.cells #[.int .i64 (N : Int), .int .i64 (Y : Int)] 3)) := (HC2.out.trans' (set6_chg w2 Bn z) (fun g hg => .inr (by simp at hg; have := HB.out; omega))).alloc _
            have hfr : runM ps row col = (pre ++ [0]) ++ runA ps row col N := by
              rw [HRun.out, HNode.out, HSay.out, HNx.out.1, List.append_assoc]; rfl
            exact ⟨⟨N, htg2, by show pre.length + 1 ≤ N; omega, hide ⟨pre ++ [0], hfr, by
              rw [List.length_append, List.map_append]
              exact hfo.alloc _, by rw [← HZ.out]; exact hfb.old _, hfc⟩⟩, by show 100 - (pre.length + 1) < 100 - pre.length; omega⟩)
        · rw [hs] at hlt HSay
          clear hs
          go_wp2
          go_region
          all_goals (
            have CV : Hid (Chg [] wr (wr.alloc (.cells #[.int .i64 (row : Int), .int .i64 (col : Int)] 3)).drew) := hide ((Chg.refl _ _).alloc _).drew
            clear c0 c1 c2 c3 c4 c5 lb hsz hsh hlt
            generalize (wr.alloc (.cells #[.int .i64 (row : Int), .int .i64 (col : Int)] 3)).drew = wv at CV ⊢
            have HOwnV := hide (CV.out.row HOwn.out (fun _ _ => List.not_mem_nil))
            have HBxV := hide (HBx.out.keep CV.out List.not_mem_nil)
            have HChV : Hid (Chg [] w wv) := hide (HCh.out.trans CV.out)
            have hszv := HBxV.out.lt
            have htg1 : i < Y := by omega
            have htg2 : Y < L := by omega
            have htg3 : (0 : Int) ≤ (Y : Int) := by omega
            have htg4 : (Y : Int) < (L : Int) := by omega
            go_wp2_with (at_builtin; refine wpList_append_own _ rfl _ _ 38 rfl (Bn + 1) 3 i0 (.int .i64 0) 1 8 Try.underlying38 hi' hz0 hz1 hz2 rfl (by decide) _ _ _ rfl (HOwnV.out.alloc _) ⟨wv.heap.size, 0, none⟩ 1 1 [.int .i64 1] rfl rfl (by intro j u hj; rw [add_zero_row, (Box.new wv _ _).cell j]; simpa using hj) (by intro u hu; rw [List.mem_singleton] at hu; subst hu; rfl) (by unfold maxLen; omega) (by omega) (by simp; omega) ?_; intro v1 w2 hown1 hgrow1 _; obtain ⟨o1, p1, rfl, _⟩ := row_shape hown1; have q2 := box_grown (HBxV.out.old _) (HOwnV.out.alloc _) hgrow1 (Nat.lt_succ_self _); have hc2 : Chg [] w w2 := chg_grown (HChV.out.alloc _) (HOwnV.out.alloc _) (by have := HB.out; omega) hgrow1; have e0 := q2.cell 0; have e1 := q2.cell 1; have e2 := q2.cell 2; have e3 := q2.cell 3; have e4 := q2.cell 4; have e5 := q2.cell 5; have g2 := fun o => q2.free o; have l2 := q2.lt; (unfold ndCells at e0 e1 e2 e3 e4 e5); (simp only [List.getElem?_toArray, List.getElem?_cons_zero, List.getElem?_cons_succ] at e0 e1 e2 e3 e4 e5); (rw [HNoY.out.1] at e4); (rw [HNoY.out.2] at e5); obtain ⟨m0, m1, m2, m3, m4, m5⟩ := HC.out (w2.alloc (.cells #[.int .i64 (N : Int), .int .i64 (Y : Int)] 3)) (hc2.alloc _) Y (by rw [← HL.out]; exact htg2); obtain ⟨z, hz⟩ : ∃ z, z = ps.getD Y nd0 := ⟨_, rfl⟩; (rw [← hz] at m0 m1 m2 m3 m4 m5); have HZ := hide hz; have HQ := hide q2; have HC2 := hide hc2; have HOw := hide hown1; clear hz q2 hc2 hown1)
            have hfb := set6_box (x := z) HQ.out
            have hfo := (set6_chg w2 Bn z).row HOw.out (fun g hg hm => by
              have h1 := (HOw.out.lt g hg).1
              simp at hm
              omega)
            have hfc : Chg [] w ((set6 w2 Bn z).alloc (.cells #[.int .i64 (N : Int), .int .i64 (Y : Int)] 3)) := (HC2.out.trans' (set6_chg w2 Bn z) (fun g hg => .inr (by simp at hg; have := HB.out; omega))).alloc _
            have hfr : runM ps row col = (pre ++ [1]) ++ runA ps row col Y := by
              rw [HRun.out, HNode.out, HSay.out, HNx.out.2, List.append_assoc]; rfl
            exact ⟨⟨Y, htg2, by show pre.length + 1 ≤ Y; omega, hide ⟨pre ++ [1], hfr, by
              rw [List.length_append, List.map_append]
              exact hfo.alloc _, by rw [← HZ.out]; exact hfb.old _, hfc⟩⟩, by show 100 - (pre.length + 1) < 100 - pre.length; omega⟩)
      · rw [hw1] at HSay c2
        rw [if_neg (by decide)] at HSay
        clear hw1
        have hsh := shr_int S col
        have hlt := and_one (S / 2 ^ col) (Nat.lt_of_le_of_lt (Nat.div_le_self _ _) (by omega))
        have hp64 : (col : Int) ≤ 64 := by omega
        generalize S / 2 ^ col = q at hsh hlt HSay
        rcases (show q % 2 = 0 ∨ q % 2 = 1 by omega) with hs | hs
        · rw [hs] at hlt HSay
          clear hs
          go_wp2
          go_region
          all_goals (
            have CV : Hid (Chg [] wr (wr.alloc (.cells #[.int .i64 (row : Int), .int .i64 (col : Int)] 3)).drew) := hide ((Chg.refl _ _).alloc _).drew
            clear c0 c1 c2 c3 c4 c5 lb hsz hsh hlt
            generalize (wr.alloc (.cells #[.int .i64 (row : Int), .int .i64 (col : Int)] 3)).drew = wv at CV ⊢
            have HOwnV := hide (CV.out.row HOwn.out (fun _ _ => List.not_mem_nil))
            have HBxV := hide (HBx.out.keep CV.out List.not_mem_nil)
            have HChV : Hid (Chg [] w wv) := hide (HCh.out.trans CV.out)
            have hszv := HBxV.out.lt
            have htg1 : i < N := by omega
            have htg2 : N < L := by omega
            have htg3 : (0 : Int) ≤ (N : Int) := by omega
            have htg4 : (N : Int) < (L : Int) := by omega
            go_wp2_with (at_builtin; refine wpList_append_own _ rfl _ _ 38 rfl (Bn + 1) 3 i0 (.int .i64 0) 1 8 Try.underlying38 hi' hz0 hz1 hz2 rfl (by decide) _ _ _ rfl (HOwnV.out.alloc _) ⟨wv.heap.size, 0, none⟩ 1 1 [.int .i64 0] rfl rfl (by intro j u hj; rw [add_zero_row, (Box.new wv _ _).cell j]; simpa using hj) (by intro u hu; rw [List.mem_singleton] at hu; subst hu; rfl) (by unfold maxLen; omega) (by omega) (by simp; omega) ?_; intro v1 w2 hown1 hgrow1 _; obtain ⟨o1, p1, rfl, _⟩ := row_shape hown1; have q2 := box_grown (HBxV.out.old _) (HOwnV.out.alloc _) hgrow1 (Nat.lt_succ_self _); have hc2 : Chg [] w w2 := chg_grown (HChV.out.alloc _) (HOwnV.out.alloc _) (by have := HB.out; omega) hgrow1; have e0 := q2.cell 0; have e1 := q2.cell 1; have e2 := q2.cell 2; have e3 := q2.cell 3; have e4 := q2.cell 4; have e5 := q2.cell 5; have g2 := fun o => q2.free o; have l2 := q2.lt; (unfold ndCells at e0 e1 e2 e3 e4 e5); (simp only [List.getElem?_toArray, List.getElem?_cons_zero, List.getElem?_cons_succ] at e0 e1 e2 e3 e4 e5); (rw [HNoY.out.1] at e4); (rw [HNoY.out.2] at e5); obtain ⟨m0, m1, m2, m3, m4, m5⟩ := HC.out (w2.alloc (.cells #[.int .i64 (N : Int), .int .i64 (Y : Int)] 3)) (hc2.alloc _) N (by rw [← HL.out]; exact htg2); obtain ⟨z, hz⟩ : ∃ z, z = ps.getD N nd0 := ⟨_, rfl⟩; (rw [← hz] at m0 m1 m2 m3 m4 m5); have HZ := hide hz; have HQ := hide q2; have HC2 := hide hc2; have HOw := hide hown1; clear hz q2 hc2 hown1)
            have hfb := set6_box (x := z) HQ.out
            have hfo := (set6_chg w2 Bn z).row HOw.out (fun g hg hm => by
              have h1 := (HOw.out.lt g hg).1
              simp at hm
              omega)
            have hfc : Chg [] w ((set6 w2 Bn z).alloc (.cells #[.int .i64 (N : Int), .int .i64 (Y : Int)] 3)) := (HC2.out.trans' (set6_chg w2 Bn z) (fun g hg => .inr (by simp at hg; have := HB.out; omega))).alloc _
            have hfr : runM ps row col = (pre ++ [0]) ++ runA ps row col N := by
              rw [HRun.out, HNode.out, HSay.out, HNx.out.1, List.append_assoc]; rfl
            exact ⟨⟨N, htg2, by show pre.length + 1 ≤ N; omega, hide ⟨pre ++ [0], hfr, by
              rw [List.length_append, List.map_append]
              exact hfo.alloc _, by rw [← HZ.out]; exact hfb.old _, hfc⟩⟩, by show 100 - (pre.length + 1) < 100 - pre.length; omega⟩)
        · rw [hs] at hlt HSay
          clear hs
          go_wp2
          go_region
          all_goals (
            have CV : Hid (Chg [] wr (wr.alloc (.cells #[.int .i64 (row : Int), .int .i64 (col : Int)] 3)).drew) := hide ((Chg.refl _ _).alloc _).drew
            clear c0 c1 c2 c3 c4 c5 lb hsz hsh hlt
            generalize (wr.alloc (.cells #[.int .i64 (row : Int), .int .i64 (col : Int)] 3)).drew = wv at CV ⊢
            have HOwnV := hide (CV.out.row HOwn.out (fun _ _ => List.not_mem_nil))
            have HBxV := hide (HBx.out.keep CV.out List.not_mem_nil)
            have HChV : Hid (Chg [] w wv) := hide (HCh.out.trans CV.out)
            have hszv := HBxV.out.lt
            have htg1 : i < Y := by omega
            have htg2 : Y < L := by omega
            have htg3 : (0 : Int) ≤ (Y : Int) := by omega
            have htg4 : (Y : Int) < (L : Int) := by omega
            go_wp2_with (at_builtin; refine wpList_append_own _ rfl _ _ 38 rfl (Bn + 1) 3 i0 (.int .i64 0) 1 8 Try.underlying38 hi' hz0 hz1 hz2 rfl (by decide) _ _ _ rfl (HOwnV.out.alloc _) ⟨wv.heap.size, 0, none⟩ 1 1 [.int .i64 1] rfl rfl (by intro j u hj; rw [add_zero_row, (Box.new wv _ _).cell j]; simpa using hj) (by intro u hu; rw [List.mem_singleton] at hu; subst hu; rfl) (by unfold maxLen; omega) (by omega) (by simp; omega) ?_; intro v1 w2 hown1 hgrow1 _; obtain ⟨o1, p1, rfl, _⟩ := row_shape hown1; have q2 := box_grown (HBxV.out.old _) (HOwnV.out.alloc _) hgrow1 (Nat.lt_succ_self _); have hc2 : Chg [] w w2 := chg_grown (HChV.out.alloc _) (HOwnV.out.alloc _) (by have := HB.out; omega) hgrow1; have e0 := q2.cell 0; have e1 := q2.cell 1; have e2 := q2.cell 2; have e3 := q2.cell 3; have e4 := q2.cell 4; have e5 := q2.cell 5; have g2 := fun o => q2.free o; have l2 := q2.lt; (unfold ndCells at e0 e1 e2 e3 e4 e5); (simp only [List.getElem?_toArray, List.getElem?_cons_zero, List.getElem?_cons_succ] at e0 e1 e2 e3 e4 e5); (rw [HNoY.out.1] at e4); (rw [HNoY.out.2] at e5); obtain ⟨m0, m1, m2, m3, m4, m5⟩ := HC.out (w2.alloc (.cells #[.int .i64 (N : Int), .int .i64 (Y : Int)] 3)) (hc2.alloc _) Y (by rw [← HL.out]; exact htg2); obtain ⟨z, hz⟩ : ∃ z, z = ps.getD Y nd0 := ⟨_, rfl⟩; (rw [← hz] at m0 m1 m2 m3 m4 m5); have HZ := hide hz; have HQ := hide q2; have HC2 := hide hc2; have HOw := hide hown1; clear hz q2 hc2 hown1)
            have hfb := set6_box (x := z) HQ.out
            have hfo := (set6_chg w2 Bn z).row HOw.out (fun g hg hm => by
              have h1 := (HOw.out.lt g hg).1
              simp at hm
              omega)
            have hfc : Chg [] w ((set6 w2 Bn z).alloc (.cells #[.int .i64 (N : Int), .int .i64 (Y : Int)] 3)) := (HC2.out.trans' (set6_chg w2 Bn z) (fun g hg => .inr (by simp at hg; have := HB.out; omega))).alloc _
            have hfr : runM ps row col = (pre ++ [1]) ++ runA ps row col Y := by
              rw [HRun.out, HNode.out, HSay.out, HNx.out.2, List.append_assoc]; rfl
            exact ⟨⟨Y, htg2, by show pre.length + 1 ≤ Y; omega, hide ⟨pre ++ [1], hfr, by
              rw [List.length_append, List.map_append]
              exact hfo.alloc _, by rw [← HZ.out]; exact hfb.old _, hfc⟩⟩, by show 100 - (pre.length + 1) < 100 - pre.length; omega⟩)
end Go.Proofs.Ytaapamoglgpocaa

/- Walk: what is said in a plan, the reference's. -/
namespace Go.Proofs.Ytaapamoglgpocaa
open Go.RowKit

@[go_sem] theorem pair_at0 (x y : Int) (w : World) : (Instr.index 60 (.agg #[.int .i64 x, .int .i64 y]) (.int .i64 0)).run Try.prog w = .ok (.int .i64 x) w := by kernel_rfl
@[go_sem] theorem pair_at1 (x y : Int) (w : World) : (Instr.index 60 (.agg #[.int .i64 x, .int .i64 y]) (.int .i64 1)).run Try.prog w = .ok (.int .i64 y) w := by kernel_rfl

set_option maxRecDepth 100000 in
set_option maxHeartbeats 4000000 in
theorem RRun_any (v : Value) (ps : List Nd) (row col : Nat) (w : World) (hv : SeeN w v ps) (hp : isPl ps = true) (hr : row < 4) (hc : col < 4) :
    Calls Try.prog 33 #[v, .int .i64 (row : Int), .int .i64 (col : Int)] w fun e w' => ∃ v', e = .returned v' ∧ Ints w' v' (runM ps row col) ∧ Chg [] w w' := by
  obtain ⟨i0, hi', hz0, hz1, hz2⟩ := info_parts infoInt
  have HP := hide hp
  obtain ⟨hl1, hl100, _⟩ := isPl_iff.1 hp
  have hne : ps ≠ [] := by rintro rfl; simp at hl1
  obtain ⟨a, cap, rfl, hcell⟩ := hv.open hne
  have HC := hide hcell
  obtain ⟨L, hL⟩ : ∃ L, L = ps.length := ⟨_, rfl⟩
  have HL := hide hL
  rw [← hL] at hl1 hl100 ⊢
  clear hp hv hne hcell hL
  go_enter Try.func33, Try.ntmps33
  go_wp2
  go_loopw [7, 8] (fun ov av wr => ∃ i : Nat, i < L ∧ sliceLen ov ≤ i ∧ av = .int .i64 (i : Int) ∧ Hid (∃ pre, runM ps row col = pre ++ runA ps row col i ∧ wr.ownsRow w.heap.size 3 1 ov pre.length (pre.map (Value.int .i64)) ∧ Chg [] w wr)) (fun _ av _ => L - (intOf av).toNat)
  case atStart => exact ⟨0, by omega, Nat.le_refl _, rfl, hide ⟨[], by rw [List.nil_append]; rfl, World.ownsRow_nil _ _ _ _, Chg.refl _ _⟩⟩
  case round =>
    obtain ⟨i, hi, hsl, rfl, hI⟩ := hrel
    obtain ⟨pre, hrun, hown, hch⟩ := hI.out
    have hil : i < ps.length := by rw [← HL.out]; exact hi
    obtain ⟨k0, k1, k2, k3, k4, k5⟩ := HC.out wr hch i hil
    obtain ⟨y, hy⟩ : ∃ y, y = ps.getD i nd0 := ⟨_, rfl⟩
    rw [← hy] at k0 k1 k2 k3 k4 k5
    have HY := hide hy
    have hok := (isPl_iff.1 HP.out).2.2 i hil
    rw [← hy, ← HL.out] at hok
    have HOk := hide hok
    have HRun := hide hrun
    obtain ⟨oo, oc, rfl, hoc⟩ := row_shape hown
    have hpl : pre.length ≤ i := hsl
    have HOwn := hide hown
    have HCh := hide hch
    have hsz := hch.size
    have HIl := hide hil
    have hi0 : (0 : Int) ≤ (i : Int) := by omega
    have hi1 : (i : Int) < (L : Int) := by omega
    clear hy hok hrun hown hch hil hsl hoc
    cases hlf : y.leaf with
    | true =>
      have E : Hid (runM ps row col = pre ++ [y.val]) := hide (by rw [HRun.out, runA_leaf HIl.out (by rw [← HY.out]; exact hlf), HY.out])
      rw [hlf] at k0
      go_wp2_with (at_builtin; refine wpList_append_own _ rfl _ _ 38 rfl w.heap.size 3 i0 (.int .i64 0) 1 8 Try.underlying38 hi' hz0 hz1 hz2 rfl (by decide) _ _ _ rfl (HOwn.out.alloc _) ⟨wr.heap.size, 0, none⟩ 1 1 [.int .i64 y.val] rfl rfl (by intro j u hj; rw [add_zero_row, (Box.new wr _ _).cell j]; simpa using hj) (by intro u hu; rw [List.mem_singleton] at hu; subst hu; rfl) (by unfold maxLen; omega) (by omega) (by simp; omega) ?_; intro v1 w2 hown1 hgrow1 _)
      go_ret
      refine ⟨v1, rfl, ?_, chg_grown (HCh.out.alloc _) (HOwn.out.alloc _) (Nat.le_refl _) hgrow1⟩
      have h := row_low hown1 (Nat.zero_le _)
      unfold Ints
      rw [E.out, List.length_append, List.map_append]
      exact h
    | false =>
      obtain ⟨⟨_, hwho⟩, hs0, hs15, hn1, hn2, hy1, hy2⟩ := (ndOk_node hlf).1 HOk.out
      have HNode := hide (runA_node HP.out (row := row) (col := col) HIl.out (by rw [← HY.out]; exact hlf))
      rw [← HY.out] at HNode
      obtain ⟨S, hS⟩ : ∃ S : Nat, y.set = (S : Int) := ⟨y.set.toNat, by omega⟩
      obtain ⟨N, hN⟩ : ∃ N : Nat, y.no = (N : Int) := ⟨y.no.toNat, by omega⟩
      obtain ⟨Y, hY⟩ : ∃ Y : Nat, y.yes = (Y : Int) := ⟨y.yes.toNat, by omega⟩
      rw [hS] at hs0 hs15 k3
      rw [hN] at hn1 hn2 k4
      rw [hY] at hy1 hy2 k5
      rw [hlf] at k0
      have HSay : Hid (sayN y row col = S / 2 ^ (if y.who = 0 then row else col) % 2) := hide (by unfold sayN; rw [hS]; rfl)
      have HNoY : Hid (y.no = (N : Int) ∧ y.yes = (Y : Int)) := hide ⟨hN, hY⟩
      have HNx : Hid (nextN y 0 = N ∧ nextN y 1 = Y) := hide (by unfold nextN; rw [hN, hY]; exact ⟨rfl, rfl⟩)
      clear hS hN hY
      rcases hwho with hw0 | hw1
      · rw [hw0] at HSay k2
        rw [if_pos rfl] at HSay
        clear hw0
        have hsh := shr_int S row
        have hlt := and_one (S / 2 ^ row) (Nat.lt_of_le_of_lt (Nat.div_le_self _ _) (by omega))
        have hp64 : (row : Int) ≤ 64 := by omega
        generalize S / 2 ^ row = q at hsh hlt HSay
        rcases (show q % 2 = 0 ∨ q % 2 = 1 by omega) with hs | hs
        · rw [hs] at hlt HSay
          clear hs
          have htg1 : i < N := by omega
          have htg2 : N < L := by omega
          go_wp2_with (at_builtin; refine wpList_append_own _ rfl _ _ 38 rfl w.heap.size 3 i0 (.int .i64 0) 1 8 Try.underlying38 hi' hz0 hz1 hz2 rfl (by decide) _ _ _ rfl (HOwn.out.alloc _) ⟨wr.heap.size, 0, none⟩ 1 1 [.int .i64 0] rfl rfl (by intro j u hj; rw [add_zero_row, (Box.new wr _ _).cell j]; simpa using hj) (by intro u hu; rw [List.mem_singleton] at hu; subst hu; rfl) (by unfold maxLen; omega) (by omega) (by simp; omega) ?_; intro v1 w2 hown1 hgrow1 _; obtain ⟨o1, p1, rfl, _⟩ := row_shape hown1; have hc2 : Chg [] w w2 := chg_grown (HCh.out.alloc _) (HOwn.out.alloc _) (Nat.le_refl _) hgrow1; obtain ⟨m0, m1, m2, m3, m4, m5⟩ := HC.out w2 hc2 i HIl.out; (rw [← HY.out] at m0 m1 m2 m3 m4 m5); (rw [HNoY.out.1] at m4); (rw [HNoY.out.2] at m5); have HC2 := hide hc2; have HOw := hide hown1; clear hc2 hown1)
          go_quiet (fail)
          have CQ : Hid (Chg [] w (w2.drewN nq)) := hide (HC2.out.drewN _)
          have hfr : runM ps row col = (pre ++ [0]) ++ runA ps row col N := by
            rw [HRun.out, HNode.out, HSay.out, HNx.out.1, List.append_assoc]; rfl
          have HFr := hide hfr
          clear hfr
          go_wp2
          go_roundw
          case rel => exact ⟨N, htg2, by show pre.length + 1 ≤ N; omega, rfl, hide ⟨pre ++ [0], HFr.out, by
            rw [List.length_append, List.map_append]
            exact HOw.out, CQ.out⟩⟩
          case measure => simp [intOf]; omega
        · rw [hs] at hlt HSay
          clear hs
          have htg1 : i < Y := by omega
          have htg2 : Y < L := by omega
          go_wp2_with (at_builtin; refine wpList_append_own _ rfl _ _ 38 rfl w.heap.size 3 i0 (.int .i64 0) 1 8 Try.underlying38 hi' hz0 hz1 hz2 rfl (by decide) _ _ _ rfl (HOwn.out.alloc _) ⟨wr.heap.size, 0, none⟩ 1 1 [.int .i64 1] rfl rfl (by intro j u hj; rw [add_zero_row, (Box.new wr _ _).cell j]; simpa using hj) (by intro u hu; rw [List.mem_singleton] at hu; subst hu; rfl) (by unfold maxLen; omega) (by omega) (by simp; omega) ?_; intro v1 w2 hown1 hgrow1 _; obtain ⟨o1, p1, rfl, _⟩ := row_shape hown1; have hc2 : Chg [] w w2 := chg_grown (HCh.out.alloc _) (HOwn.out.alloc _) (Nat.le_refl _) hgrow1; obtain ⟨m0, m1, m2, m3, m4, m5⟩ := HC.out w2 hc2 i HIl.out; (rw [← HY.out] at m0 m1 m2 m3 m4 m5); (rw [HNoY.out.1] at m4); (rw [HNoY.out.2] at m5); have HC2 := hide hc2; have HOw := hide hown1; clear hc2 hown1)
          go_quiet (fail)
          have CQ : Hid (Chg [] w (w2.drewN nq)) := hide (HC2.out.drewN _)
          have hfr : runM ps row col = (pre ++ [1]) ++ runA ps row col Y := by
            rw [HRun.out, HNode.out, HSay.out, HNx.out.2, List.append_assoc]; rfl
          have HFr := hide hfr
          clear hfr
          go_wp2
          go_roundw
          case rel => exact ⟨Y, htg2, by show pre.length + 1 ≤ Y; omega, rfl, hide ⟨pre ++ [1], HFr.out, by
            rw [List.length_append, List.map_append]
            exact HOw.out, CQ.out⟩⟩
          case measure => simp [intOf]; omega
      · rw [hw1] at HSay k2
        rw [if_neg (by decide)] at HSay
        clear hw1
        have hsh := shr_int S col
        have hlt := and_one (S / 2 ^ col) (Nat.lt_of_le_of_lt (Nat.div_le_self _ _) (by omega))
        have hp64 : (col : Int) ≤ 64 := by omega
        generalize S / 2 ^ col = q at hsh hlt HSay
        rcases (show q % 2 = 0 ∨ q % 2 = 1 by omega) with hs | hs
        · rw [hs] at hlt HSay
          clear hs
          have htg1 : i < N := by omega
          have htg2 : N < L := by omega
          go_wp2_with (at_builtin; refine wpList_append_own _ rfl _ _ 38 rfl w.heap.size 3 i0 (.int .i64 0) 1 8 Try.underlying38 hi' hz0 hz1 hz2 rfl (by decide) _ _ _ rfl (HOwn.out.alloc _) ⟨wr.heap.size, 0, none⟩ 1 1 [.int .i64 0] rfl rfl (by intro j u hj; rw [add_zero_row, (Box.new wr _ _).cell j]; simpa using hj) (by intro u hu; rw [List.mem_singleton] at hu; subst hu; rfl) (by unfold maxLen; omega) (by omega) (by simp; omega) ?_; intro v1 w2 hown1 hgrow1 _; obtain ⟨o1, p1, rfl, _⟩ := row_shape hown1; have hc2 : Chg [] w w2 := chg_grown (HCh.out.alloc _) (HOwn.out.alloc _) (Nat.le_refl _) hgrow1; obtain ⟨m0, m1, m2, m3, m4, m5⟩ := HC.out w2 hc2 i HIl.out; (rw [← HY.out] at m0 m1 m2 m3 m4 m5); (rw [HNoY.out.1] at m4); (rw [HNoY.out.2] at m5); have HC2 := hide hc2; have HOw := hide hown1; clear hc2 hown1)
          go_quiet (fail)
          have CQ : Hid (Chg [] w (w2.drewN nq)) := hide (HC2.out.drewN _)
          have hfr : runM ps row col = (pre ++ [0]) ++ runA ps row col N := by
            rw [HRun.out, HNode.out, HSay.out, HNx.out.1, List.append_assoc]; rfl
          have HFr := hide hfr
          clear hfr
          go_wp2
          go_roundw
          case rel => exact ⟨N, htg2, by show pre.length + 1 ≤ N; omega, rfl, hide ⟨pre ++ [0], HFr.out, by
            rw [List.length_append, List.map_append]
            exact HOw.out, CQ.out⟩⟩
          case measure => simp [intOf]; omega
        · rw [hs] at hlt HSay
          clear hs
          have htg1 : i < Y := by omega
          have htg2 : Y < L := by omega
          go_wp2_with (at_builtin; refine wpList_append_own _ rfl _ _ 38 rfl w.heap.size 3 i0 (.int .i64 0) 1 8 Try.underlying38 hi' hz0 hz1 hz2 rfl (by decide) _ _ _ rfl (HOwn.out.alloc _) ⟨wr.heap.size, 0, none⟩ 1 1 [.int .i64 1] rfl rfl (by intro j u hj; rw [add_zero_row, (Box.new wr _ _).cell j]; simpa using hj) (by intro u hu; rw [List.mem_singleton] at hu; subst hu; rfl) (by unfold maxLen; omega) (by omega) (by simp; omega) ?_; intro v1 w2 hown1 hgrow1 _; obtain ⟨o1, p1, rfl, _⟩ := row_shape hown1; have hc2 : Chg [] w w2 := chg_grown (HCh.out.alloc _) (HOwn.out.alloc _) (Nat.le_refl _) hgrow1; obtain ⟨m0, m1, m2, m3, m4, m5⟩ := HC.out w2 hc2 i HIl.out; (rw [← HY.out] at m0 m1 m2 m3 m4 m5); (rw [HNoY.out.1] at m4); (rw [HNoY.out.2] at m5); have HC2 := hide hc2; have HOw := hide hown1; clear hc2 hown1)
          go_quiet (fail)
          have CQ : Hid (Chg [] w (w2.drewN nq)) := hide (HC2.out.drewN _)
          have hfr : runM ps row col = (pre ++ [1]) ++ runA ps row col Y := by
            rw [HRun.out, HNode.out, HSay.out, HNx.out.2, List.append_assoc]; rfl
          have HFr := hide hfr
          clear hfr
          go_wp2
          go_roundw
          case rel => exact ⟨Y, htg2, by show pre.length + 1 ≤ Y; omega, rfl, hide ⟨pre ++ [1], HFr.out, by
            rw [List.length_append, List.map_append]
            exact HOw.out, CQ.out⟩⟩
          case measure => simp [intOf]; omega
end Go.Proofs.Ytaapamoglgpocaa

/- Walks: a plan copied; Run. -/
namespace Go.Proofs.Ytaapamoglgpocaa
open Go.RowKit

theorem infoNode : (Try.prog.info? 54).map (fun i => (i.zero, i.size, i.bytes)) = some (some (.agg #[.bool false, .int .i64 0, .int .i64 0, .int .i64 0, .int .i64 0, .int .i64 0]), 6, 48) := by kernel_rfl
/-- The cells of these nodes. -/
def flat (ps : List Nd) : List Value := ps.flatMap fun x => (ndCells x).toList
theorem flat_len : ∀ ps : List Nd, (flat ps).length = ps.length * 6
  | [] => rfl
  | x :: ps => by
    have := flat_len ps
    unfold flat at this ⊢
    rw [List.flatMap_cons, List.length_append, this, List.length_cons]
    show 6 + _ = _
    omega
theorem flat_at : ∀ (ps : List Nd) (i k : Nat), i < ps.length → k < 6 → (flat ps)[i * 6 + k]? = (ndCells (ps.getD i nd0))[k]?
  | [], i, k, hi, _ => by simp at hi
  | x :: ps, 0, k, _, hk => by
    unfold flat
    rw [List.flatMap_cons, List.getElem?_append_left (by show _ < 6; omega)]
    simp
  | x :: ps, i + 1, k, hi, hk => by
    have := flat_at ps i k (by simpa using hi) hk
    unfold flat at this ⊢
    rw [List.flatMap_cons, List.getElem?_append_right (by show 6 ≤ _; omega)]
    show ((List.flatMap _ ps))[(i + 1) * 6 + k - 6]? = _
    rw [show (i + 1) * 6 + k - 6 = i * 6 + k by omega, this]
    rfl
theorem flat_snoc (ps : List Nd) (x : Nd) : flat (ps ++ [x]) = flat ps ++ (ndCells x).toList := by
  unfold flat
  rw [List.flatMap_append]
  simp
/-- A row of nodes that the call itself made. -/
theorem nodes_see {w : World} {base : Nat} {v : Value} {ps : List Nd} (h : w.ownsRow base 54 6 v ps.length (flat ps)) : SeeN w v ps := by
  rcases h.2 with ⟨rfl, hn⟩ | ⟨g, cap, cur, rfl, hb, hg, hle, hcap, hsz, ht⟩
  · exact ⟨none, 0, by rw [hn], by omega, fun hne => absurd (List.length_eq_zero_iff.1 hn) hne⟩
  · refine ⟨some ⟨g, 0, none⟩, cap, rfl, hle, fun _ => ⟨_, rfl, (Array.getElem?_eq_some_iff.1 hg).1, fun i hi => ?_⟩⟩
    have key : ∀ k u, k < 6 → (ndCells (ps.getD i nd0))[k]? = some u → w.cell? ((⟨g, 0, none⟩ : Addr).add (i * 6 + k)) = some u := fun k u hk hu => by
      rw [add_zero_row, cell_of_row w g _ cur 54 (0, 0) hg]
      have h1 := flat_at ps i k hi hk
      rw [hu, ← ht, List.getElem?_take] at h1
      split at h1
      · simpa using h1
      · cases h1
    exact ⟨key 0 _ (by omega) rfl, key 1 _ (by omega) rfl, key 2 _ (by omega) rfl, key 3 _ (by omega) rfl, key 4 _ (by omega) rfl, key 5 _ (by omega) rfl⟩

set_option maxRecDepth 100000 in
set_option maxHeartbeats 2000000 in
theorem plan_copy (v : Value) (ps : List Nd) (w : World) (hv : SeeN w v ps) (hl : ps.length ≤ 9223372036854775807) :
    Calls Try.prog 31 #[v] w fun e w' => ∃ v', e = .returned v' ∧ SeeN w' v' (ps.take 110) ∧ Chg [] w w' := by
  obtain ⟨i0, hi', hz0, hz1, hz2⟩ := info_parts infoNode
  obtain ⟨ao, cap, rfl⟩ := hv.shape
  have HV := hide hv
  clear hv
  obtain ⟨L, hL⟩ : ∃ L, L = ps.length := ⟨_, rfl⟩
  have HL := hide hL
  rw [← hL] at hl ⊢
  clear hL
  go_enter Try.func31, Try.ntmps31
  go_wp2
  go_loopw [3, 8] (fun ov iv wr => ∃ i : Nat, i ≤ L ∧ iv = .int .i64 (i : Int) ∧ Hid (wr.ownsRow w.heap.size 54 6 ov ((ps.take i).take 110).length (flat ((ps.take i).take 110)) ∧ Chg [] w wr)) (fun _ iv _ => L - (intOf iv).toNat)
  case atStart => exact ⟨0, Nat.zero_le _, rfl, hide ⟨World.ownsRow_nil _ _ _ _, Chg.refl _ _⟩⟩
  case round =>
    obtain ⟨i, hi, rfl, hI⟩ := hrel
    by_cases hlt : i < L
    · have d1 : decide ((i : Int) < (L : Int)) = true := by simpa using hlt
      have hne : ps ≠ [] := by rintro rfl; have := HL.out; simp at this; omega
      obtain ⟨a, cap', e, hcell⟩ := HV.out.open hne
      rw [← HL.out] at e
      cases e
      have hil : i < ps.length := by rw [← HL.out]; exact hlt
      obtain ⟨k0, k1, k2, k3, k4, k5⟩ := hcell wr hI.out.2 i hil
      obtain ⟨x, hx⟩ : ∃ x, x = ps.getD i nd0 := ⟨_, rfl⟩
      rw [← hx] at k0 k1 k2 k3 k4 k5
      have hi0 : (0 : Int) ≤ (i : Int) := by omega
      have hi1 : (i : Int) < (L : Int) := by omega
      have hsz := hI.out.2.size
      by_cases h110 : i < 110
      · have d2 : decide ((i : Int) < 110) = true := by simp; omega
        have hlen : ((ps.take i).take 110).length = i := by rw [List.length_take, List.length_take]; omega
        have hsn : (ps.take (i + 1)).take 110 = (ps.take i).take 110 ++ [x] := by
          rw [List.take_take, List.take_take, Nat.min_eq_right (by omega), Nat.min_eq_right (by omega), List.take_add_one, List.getElem?_eq_getElem hil, hx, List.getD_eq_getElem?_getD, List.getElem?_eq_getElem hil]
          rfl
        have hown := hI.out.1
        rw [hlen] at hown
        have HOwn := hide hown
        have HSn := hide hsn
        have HLen := hide hlen
        have hca : Chg [] wr (wr.alloc (.cells #[.bool x.leaf, .int .i64 x.val, .int .i64 x.who, .int .i64 x.set, .int .i64 x.no, .int .i64 x.yes] 77)) := (Chg.refl _ _).alloc _
        have hsa : (wr.alloc (.cells #[.bool x.leaf, .int .i64 x.val, .int .i64 x.who, .int .i64 x.set, .int .i64 x.no, .int .i64 x.yes] 77)).heap.size = wr.heap.size + 1 := by simp
        have HOwnA := hide (hca.row hown (fun _ _ => List.not_mem_nil))
        have HCA : Hid (Chg [] w (wr.alloc (.cells #[.bool x.leaf, .int .i64 x.val, .int .i64 x.who, .int .i64 x.set, .int .i64 x.no, .int .i64 x.yes] 77))) := hide (hI.out.2.trans hca)
        clear hcell hne hil hx hsn hown hlen hca
        go_wp2_with (at_builtin; refine wpList_append_own _ rfl _ _ 23 rfl w.heap.size 54 i0 (.agg #[.bool false, .int .i64 0, .int .i64 0, .int .i64 0, .int .i64 0, .int .i64 0]) 6 48 Try.underlying23 hi' hz0 hz1 hz2 rfl (by decide) _ _ _ rfl (HOwnA.out.alloc _) ⟨wr.heap.size + 1, 0, none⟩ 1 1 (ndCells x).toList rfl rfl (by intro j u hj; rw [add_zero_row]; have hb := (Box.at (wr.alloc (.cells #[.bool x.leaf, .int .i64 x.val, .int .i64 x.who, .int .i64 x.set, .int .i64 x.no, .int .i64 x.yes] 77)) (ndCells x) 54 (n := wr.heap.size + 1) (by simp)).cell j; refine Eq.trans hb ?_; simpa using hj) (by intro u hu; simp [ndCells] at hu; rcases hu with rfl | rfl | rfl | rfl | rfl | rfl <;> rfl) (by unfold maxLen; omega) (by omega) (by simp; omega) ?_; intro v1 w2 hown1 hgrow1 _)
        go_roundw
        case rel => exact ⟨i + 1, by omega, by go_num, hide ⟨by
          rw [HSn.out, List.length_append, HLen.out, flat_snoc]
          exact hown1, chg_grown (HCA.out.alloc _) (HOwnA.out.alloc _) (Nat.le_refl _) hgrow1⟩⟩
        case measure => simp [intOf]; omega
      · have d2 : decide ((i : Int) < 110) = false := by simp; omega
        have hsn : (ps.take (i + 1)).take 110 = (ps.take i).take 110 := by
          rw [List.take_take, List.take_take, Nat.min_eq_left (by omega), Nat.min_eq_left (by omega)]
        have HSn := hide hsn
        clear hcell hne hil hx hsn
        go_wp2
        go_roundw
        case rel => exact ⟨i + 1, by omega, by go_num, hide ⟨by rw [HSn.out]; exact hI.out.1.alloc _, hI.out.2.alloc _⟩⟩
        case measure => simp [intOf]; omega
    · have d1 : decide ((i : Int) < (L : Int)) = false := by simpa using hlt
      obtain rfl : i = L := by omega
      go_wp2
      go_ret
      refine ⟨_, rfl, ?_, hI.out.2⟩
      have h := hI.out.1
      rw [show ps.take i = ps from List.take_of_length_le (by rw [HL.out]; exact Nat.le_refl _)] at h
      exact nodes_see h
theorem isPl_take (ps : List Nd) : isPl (ps.take 110) = isPl ps := by
  by_cases h : ps.length ≤ 110
  · rw [List.take_of_length_le h]
  · rw [isPl_len (ps := ps) (by omega), isPl_len (ps := ps.take 110) (by rw [List.length_take]; omega)]
theorem take_plan {ps : List Nd} (h : isPl ps = true) : ps.take 110 = ps := List.take_of_length_le (by have := (isPl_iff.1 h).2.1; omega)
end Go.Proofs.Ytaapamoglgpocaa

/- Walk: Run, the program's. -/
namespace Go.Proofs.Ytaapamoglgpocaa
open Go.RowKit

theorem runF_len {ps : List Nd} (row col : Nat) : ∀ f i, (runF ps row col f i).length ≤ f
  | 0, _ => Nat.le_refl _
  | f + 1, i => by
    unfold runF
    split
    · simp
    · rw [List.length_cons]; exact Nat.succ_le_succ (runF_len row col f _)
theorem runM_len {ps : List Nd} (row col : Nat) : (runM ps row col).length ≤ ps.length := runF_len _ _ _ _

set_option maxRecDepth 100000 in
set_option maxHeartbeats 1000000 in
theorem Run_bad (v : Value) (ps : List Nd) (row col : Int) (w : World) (hv : SeeN w v ps) (hl : ps.length ≤ 1000000) (hb : ¬ (isPl ps = true ∧ 0 ≤ row ∧ 0 ≤ col ∧ row < 4 ∧ col < 4)) :
    Calls Try.prog 30 #[v, .int .i64 row, .int .i64 col] w (Ret (.tuple #[.slice none 0 0, .int .i64 2]) w) := by
  have kmin := fun w ts t x y => @run_min_2 Try.prog w ts t x y
  have kmax := fun w ts t x y => @run_max_2 Try.prog w ts t x y
  have HP := hide (isPlan_any v ps w hv hl)
  obtain ⟨ao, cap, rfl⟩ := hv.shape
  obtain ⟨mi, hmi⟩ : ∃ mi, imin row col = mi := ⟨_, rfl⟩
  obtain ⟨ma, hma⟩ : ∃ ma, imax row col = ma := ⟨_, rfl⟩
  obtain ⟨p1, p2, p3⟩ := imin_pick row col
  obtain ⟨q1, q2, q3⟩ := imax_pick row col
  rw [hmi] at p1 p2 p3
  rw [hma] at q1 q2 q3
  clear hv hl
  cases hp : isPl ps with
  | false =>
    rw [hp] at HP
    clear hb hp p1 p2 p3 q1 q2 q3 hmi hma
    go_enter Try.func30, Try.ntmps30
    go_wp2_with fail
    refine HP.out.mono ?_
    rintro e w1 ⟨rfl, hw1⟩
    go_wp2
    go_ret2
    exact ⟨rfl, hw1⟩
  | true =>
    rw [hp] at HP hb
    by_cases h1 : mi < 0
    · have d1 : decide (mi < 0) = true := by simpa using h1
      clear hb hp p1 p2 p3 q1 q2 q3 hma
      go_enter Try.func30, Try.ntmps30
      go_wp2_with fail
      refine HP.out.mono ?_
      rintro e w1 ⟨rfl, hw1⟩
      go_wp2
      go_ret2
      exact ⟨rfl, hw1⟩
    · have d1 : decide (mi < 0) = false := by simpa using h1
      have h2 : 4 ≤ ma := by
        refine Classical.byContradiction fun h => hb ⟨rfl, ?_⟩
        omega
      have d2 : decide (4 ≤ ma) = true := by simpa using h2
      clear hb hp p1 p2 p3 q1 q2 q3
      go_enter Try.func30, Try.ntmps30
      go_wp2_with fail
      refine HP.out.mono ?_
      rintro e w1 ⟨rfl, hw1⟩
      go_wp2
      go_ret2
      exact ⟨rfl, hw1⟩

set_option maxRecDepth 100000 in
set_option maxHeartbeats 1000000 in
theorem Run_good (v : Value) (ps : List Nd) (row col : Nat) (w : World) (hv : SeeN w v ps) (hp : isPl ps = true) (hr : row < 4) (hc : col < 4) :
    Calls Try.prog 30 #[v, .int .i64 (row : Int), .int .i64 (col : Int)] w fun e w' => ∃ v', e = .returned (.tuple #[v', .int .i64 0]) ∧ Ints w' v' (runM ps row col) ∧ Chg [] w w' := by
  have kmin := fun w ts t x y => @run_min_2 Try.prog w ts t x y
  have kmax := fun w ts t x y => @run_max_2 Try.prog w ts t x y
  have HP := hide (isPlan_any v ps w hv (by have := (isPl_iff.1 hp).2.1; omega))
  have HR := hide fun ws (hw : Chg [] w ws) => run_any v ps row col ws (hv.keep hw) hp hr hc
  obtain ⟨ao, cap, rfl⟩ := hv.shape
  obtain ⟨mi, hmi⟩ : ∃ mi, imin (row : Int) (col : Int) = mi := ⟨_, rfl⟩
  obtain ⟨ma, hma⟩ : ∃ ma, imax (row : Int) (col : Int) = ma := ⟨_, rfl⟩
  obtain ⟨p1, p2, p3⟩ := imin_pick (row : Int) (col : Int)
  obtain ⟨q1, q2, q3⟩ := imax_pick (row : Int) (col : Int)
  rw [hmi] at p1 p2 p3
  rw [hma] at q1 q2 q3
  have d1 : decide (mi < 0) = false := by simp; omega
  have d2 : decide (4 ≤ ma) = false := by simp; omega
  rw [hp] at HP
  clear hv hp p1 p2 p3 q1 q2 q3
  go_enter Try.func30, Try.ntmps30
  go_wp2_with fail
  refine HP.out.mono ?_
  rintro e w1 ⟨rfl, hw1⟩
  have C1 := hide hw1
  clear hw1
  go_wp2_with fail
  refine (HR.out _ C1.out).mono ?_
  rintro e w2 ⟨v', rfl, hI, hw2⟩
  have HI := hide hI
  have C2 : Hid (Chg [] w w2) := hide (C1.out.trans hw2)
  clear hI hw2
  go_wp2
  go_ret2
  exact ⟨_, rfl, HI.out, C2.out⟩
end Go.Proofs.Ytaapamoglgpocaa
