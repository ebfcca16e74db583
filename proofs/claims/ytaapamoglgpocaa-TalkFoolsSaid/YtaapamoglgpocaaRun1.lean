/- Walk: what is said in a plan, the program's. -/
import Derived.Test.YtaapamoglgpocaaRunPlain
namespace Go.Proofs.Ytaapamoglgpocaa
open Go.RowKit

def ndCells (x : Nd) : Array Value := #[.bool x.leaf, .int .i64 x.val, .int .i64 x.who, .int .i64 x.set, .int .i64 x.no, .int .i64 x.yes]
/-- A node is written over another one. -/
def set6 (w : World) (B : Nat) (x : Nd) : World := (((((w.setCell ⟨B, 0, none⟩ (.bool x.leaf)).setCell ⟨B, 1, none⟩ (.int .i64 x.val)).setCell ⟨B, 2, none⟩ (.int .i64 x.who)).setCell ⟨B, 3, none⟩ (.int .i64 x.set)).setCell ⟨B, 4, none⟩ (.int .i64 x.no)).setCell ⟨B, 5, none⟩ (.int .i64 x.yes)
theorem set6_box {w : World} {B : Nat} {x y : Nd} {T : TypeId} (h : Box w B (ndCells y) T) : Box (set6 w B x) B (ndCells x) T := by
  have h5 := (((((h.set 0 (.bool x.leaf)).set 1 (.int .i64 x.val)).set 2 (.int .i64 x.who)).set 3 (.int .i64 x.set)).set 4 (.int .i64 x.no)).set 5 (.int .i64 x.yes)
  unfold ndCells at h5
  simp only [List.setIfInBounds_toArray, List.set_cons_zero, List.set_cons_succ] at h5
  exact h5
theorem set6_chg (w : World) (B : Nat) (x : Nd) : Chg [B] w (set6 w B x) :=
  ((((((Chg.refl [B] w).setCell (p := ⟨B, 0, none⟩) (.inl (by simp)) _).setCell (p := ⟨B, 1, none⟩) (.inl (by simp)) _).setCell (p := ⟨B, 2, none⟩) (.inl (by simp)) _).setCell (p := ⟨B, 3, none⟩) (.inl (by simp)) _).setCell (p := ⟨B, 4, none⟩) (.inl (by simp)) _).setCell (p := ⟨B, 5, none⟩) (.inl (by simp)) _
def sliceLen (v : Value) : Nat := match v with
  | .slice _ n _ => n
  | _ => 0

set_option maxRecDepth 100000 in
set_option maxHeartbeats 4000000 in
theorem run_any (v : Value) (ps : List Nd) (row col : Nat) (w : World) (hv : SeeN w v ps) (hp : isPl ps = true) (hr : row < 4) (hc : col < 4) :
    Calls Try.prog 66 #[v, .int .i64 (row : Int), .int .i64 (col : Int)] w fun e w' => ∃ v', e = .returned v' ∧ Ints w' v' (runM ps row col) ∧ Chg [] w w' := by
  obtain ⟨i0, hi', hz0, hz1, hz2⟩ := info_parts infoInt
  have HP := hide hp
  obtain ⟨hl1, hl100, _⟩ := isPl_iff.1 hp
  have hne : ps ≠ [] := by rintro rfl; simp at hl1
  obtain ⟨a, cap, rfl, hcell⟩ := hv.open hne
  have HC := hide hcell
  obtain ⟨k0, k1, k2, k3, k4, k5⟩ := hcell w (Chg.refl _ _) 0 (by omega)
  obtain ⟨L, hL⟩ : ∃ L, L = ps.length := ⟨_, rfl⟩
  have HL := hide hL
  rw [← hL] at hl1 hl100 ⊢
  rw [Nat.zero_mul, add_nought] at k0 k1 k2 k3 k4 k5
  have hL0 : (0 : Int) < (L : Int) := by omega
  obtain ⟨x, hx⟩ : ∃ x, x = ps.getD 0 nd0 := ⟨_, rfl⟩
  rw [← hx] at k0 k1 k2 k3 k4 k5
  have HX := hide hx
  clear hp hv hne hcell hL hx
  go_enter Try.func66, Try.ntmps66
  go_wp2
  have bx : Box (w.alloc (.cells (ndCells x) 54)) w.heap.size (ndCells x) 54 := Box.new _ _ _
  have C0 : Hid (Chg [] w (w.alloc (.cells (ndCells x) 54))) := hide ((Chg.refl _ _).alloc _)
  unfold ndCells at bx C0
  have hBn : Hid (w.heap.size ≤ w.heap.size) := hide (Nat.le_refl _)
  generalize w.alloc (.cells #[.bool x.leaf, .int .i64 x.val, .int .i64 x.who, .int .i64 x.set, .int .i64 x.no, .int .i64 x.yes] 54) = W0 at bx C0 ⊢
  obtain ⟨Bn, hB⟩ : ∃ Bn, Bn = w.heap.size := ⟨_, rfl⟩
  rw [← hB] at bx ⊢
  have HB := hide hB
  have BX := hide bx
  clear hB hBn bx k0 k1 k2 k3 k4 k5
  go_loopw [7] (fun ov wr => ∃ i : Nat, i < L ∧ sliceLen ov ≤ i ∧ Hid (∃ pre, runM ps row col = pre ++ runA ps row col i ∧ wr.ownsRow (Bn + 1) 3 1 ov pre.length (pre.map (Value.int .i64)) ∧ Box wr Bn (ndCells (ps.getD i nd0)) 54 ∧ Chg [] w wr)) (fun ov _ => 100 - sliceLen ov)
  case atStart => exact ⟨0, by omega, Nat.le_refl _, hide ⟨[], by rw [List.nil_append]; rfl, World.ownsRow_nil _ _ _ _, by rw [← HX.out]; exact BX.out, C0.out⟩⟩
  case round =>
    obtain ⟨i, hi, hsl, hI⟩ := hrel
    obtain ⟨pre, hrun, hown, hbx, hch⟩ := hI.out
    obtain ⟨y, hy⟩ : ∃ y, y = ps.getD i nd0 := ⟨_, rfl⟩
    rw [← hy] at hbx
    have HY := hide hy
    have hok := (isPl_iff.1 HP.out).2.2 i (by rw [← HL.out]; exact hi)
    rw [← hy, ← HL.out] at hok
    have HOk := hide hok
    have HRun := hide hrun
    have hil : i < ps.length := by rw [← HL.out]; exact hi
    have c0 := hbx.cell 0
    have c1 := hbx.cell 1
    have c2 := hbx.cell 2
    have c3 := hbx.cell 3
    have c4 := hbx.cell 4
    have c5 := hbx.cell 5
    have lb := hbx.lt
    unfold ndCells at c0 c1 c2 c3 c4 c5
    simp only [List.getElem?_toArray, List.getElem?_cons_zero, List.getElem?_cons_succ] at c0 c1 c2 c3 c4 c5
    obtain ⟨oo, oc, rfl, hoc⟩ := row_shape hown
    have hpl : pre.length ≤ i := hsl
    have HOwn := hide hown
    have HBx := hide hbx
    have HCh := hide hch
    have hsz := hch.size
    have HIl := hide hil
    clear hy hok hrun hown hbx hch hil
    cases hlf : y.leaf with
    | true =>
      have E : Hid (runM ps row col = pre ++ [y.val]) := hide (by rw [HRun.out, runA_leaf HIl.out (by rw [← HY.out]; exact hlf), HY.out])
      rw [hlf] at c0
      clear hsl hoc
      go_wp2_with (at_builtin; refine wpList_append_own _ rfl _ _ 38 rfl (Bn + 1) 3 i0 (.int .i64 0) 1 8 Try.underlying38 hi' hz0 hz1 hz2 rfl (by decide) _ _ _ rfl (HOwn.out.alloc _) ⟨wr.heap.size, 0, none⟩ 1 1 [.int .i64 y.val] rfl rfl (by intro j u hj; rw [add_zero_row, (Box.new wr _ _).cell j]; simpa using hj) (by intro u hu; rw [List.mem_singleton] at hu; subst hu; rfl) (by unfold maxLen; omega) (by omega) (by simp; omega) ?_; intro v1 w2 hown1 hgrow1 _)
      go_ret
      refine ⟨v1, rfl, ?_, chg_grown (HCh.out.alloc _) (HOwn.out.alloc _) (by have := HB.out; omega) hgrow1⟩
      have h := row_low hown1 (Nat.zero_le _)
      unfold Ints
      rw [E.out, List.length_append, List.map_append]
      exact h
    | false =>
      obtain ⟨⟨_, hwho⟩, hs0, hs15, hn1, hn2, hy1, hy2⟩ := (ndOk_node hlf).1 HOk.out
      have HNode := hide (runA_node HP.out (row := row) (col := col) HIl.out (by rw [← HY.out]; exact hlf))
      rw [← HY.out] at HNode
      obtain ⟨S, hS⟩ : ∃ S : Nat, y.set = (S : Int) := ⟨y.set.toNat, by omega⟩
      obtain ⟨N, hN⟩ : ∃ N : Nat, y.no = (N : Int) := ⟨y.no.toNat, by omega⟩
      obtain ⟨Y, hY⟩ : ∃ Y : Nat, y.yes = (Y : Int) := ⟨y.yes.toNat, by omega⟩
      rw [hS] at hs0 hs15 c3
      rw [hN] at hn1 hn2 c4
      rw [hY] at hy1 hy2 c5
      rw [hlf] at c0
      have HSay : Hid (sayN y row col = S / 2 ^ (if y.who = 0 then row else col) % 2) := hide (by unfold sayN; rw [hS]; rfl)
      have HNoY : Hid (y.no = (N : Int) ∧ y.yes = (Y : Int)) := hide ⟨hN, hY⟩
      have HNx : Hid (nextN y 0 = N ∧ nextN y 1 = Y) := hide (by unfold nextN; rw [hN, hY]; exact ⟨rfl, rfl⟩)
      clear hS hN hY hsl hoc
      rcases hwho with hw0 | hw1
      · rw [hw0] at HSay c2
        rw [if_pos rfl] at HSay
        clear hw0
        have hsh := shr_int S row
        have hlt := and_one (S / 2 ^ row) (Nat.lt_of_le_of_lt (Nat.div_le_self _ _) (by omega))
        have hp64 : (row : Int) ≤ 64 := by omega
        generalize S / 2 ^ row = q at hsh hlt HSay
        rcases (show q % 2 = 0 ∨ q % 2 = 1 by omega) with hs | hs
        · rw [hs] at hlt HSay
          clear hs
          go_wp2
          go_region
          all_goals (
            have CV : Hid (Chg [] wr (wr.alloc (.cells #[.int .i64 (row : Int), .int .i64 (col : Int)] 3)).drew) := hide ((Chg.refl _ _).alloc _).drew
            clear c0 c1 c2 c3 c4 c5 lb hsz hsh hlt
            generalize (wr.alloc (.cells #[.int .i64 (row : Int), .int .i64 (col : Int)] 3)).drew = wv at CV ⊢
            have HOwnV := hide (CV.out.row HOwn.out (fun _ _ => List.not_mem_nil))
            have HBxV := hide (HBx.out.keep CV.out List.not_mem_nil)
            have HChV : Hid (Chg [] w wv) := hide (HCh.out.trans CV.out)
            have hszv := HBxV.out.lt
            have htg1 : i < N := by omega
            have htg2 : N < L := by omega
            have htg3 : (0 : Int) ≤ (N : Int) := by omega
            have htg4 : (N : Int) < (L : Int) := by omega
            go_wp2_with (at_builtin; refine wpList_append_own _ rfl _ _ 38 rfl (Bn + 1) 3 i0 (.int .i64 0) 1 8 Try.underlying38 hi' hz0 hz1 hz2 rfl (by decide) _ _ _ rfl (HOwnV.out.alloc _) ⟨wv.heap.size, 0, none⟩ 1 1 [.int .i64 0] rfl rfl (by intro j u hj; rw [add_zero_row, (Box.new wv _ _).cell j]; simpa using hj) (by intro u hu; rw [List.mem_singleton] at hu; subst hu; rfl) (by unfold maxLen; omega) (by omega) (by simp; omega) ?_; intro v1 w2 hown1 hgrow1 _; obtain ⟨o1, p1, rfl, _⟩ := row_shape hown1; have q2 := box_grown (HBxV.out.old _) (HOwnV.out.alloc _) hgrow1 (Nat.lt_succ_self _); have hc2 : Chg [] w w2 := chg_grown (HChV.out.alloc _) (HOwnV.out.alloc _) (by have := HB.out; omega) hgrow1; have e0 := q2.cell 0; have e1 := q2.cell 1; have e2 := q2.cell 2; have e3 := q2.cell 3; have e4 := q2.cell 4; have e5 := q2.cell 5; have g2 := fun o => q2.free o; have l2 := q2.lt; (unfold ndCells at e0 e1 e2 e3 e4 e5); (simp only [List.getElem?_toArray, List.getElem?_cons_zero, List.getElem?_cons_succ] at e0 e1 e2 e3 e4 e5); (rw [HNoY.out.1] at e4); (rw [HNoY.out.2] at e5); obtain ⟨m0, m1, m2, m3, m4, m5⟩ := HC.out (w2.alloc (.cells #[.int .i64 (N : Int), .int .i64 (Y : Int)] 3)) (hc2.alloc _) N (by rw [← HL.out]; exact htg2); obtain ⟨z, hz⟩ : ∃ z, z = ps.getD N nd0 := ⟨_, rfl⟩; (rw [← hz] at m0 m1 m2 m3 m4 m5); have HZ := hide hz; have HQ := hide q2; have HC2 := hide hc2; have HOw := hide hown1; clear hz q2 hc2 hown1)
            have hfb := set6_box (x := z) HQ.out
            have hfo := (set6_chg w2 Bn z).row HOw.out (fun g hg hm => by
              have h1 := (HOw.out.lt g hg).1
              simp at hm
              omega)
            have hfc : Chg [] w ((set6 w2 Bn z).alloc (.cells #[.int .i64 (N : Int), .int .i64 (Y : Int)] 3)) := (HC2.out.trans' (set6_chg w2 Bn z) (fun g hg => .inr (by simp at hg; have := HB.out; omega))).alloc _
            have hfr : runM ps row col = (pre ++ [0]) ++ runA ps row col N := by
              rw [HRun.out, HNode.out, HSay.out, HNx.out.1, List.append_assoc]; rfl
            exact ⟨⟨N, htg2, by show pre.length + 1 ≤ N; omega, hide ⟨pre ++ [0], hfr, by
              rw [List.length_append, List.map_append]
              exact hfo.alloc _, by rw [← HZ.out]; exact hfb.old _, hfc⟩⟩, by show 100 - (pre.length + 1) < 100 - pre.length; omega⟩)
        · rw [hs] at hlt HSay
          clear hs
          go_wp2
          go_region
          all_goals (
            have CV : Hid (Chg [] wr (wr.alloc (.cells #[.int .i64 (row : Int), .int .i64 (col : Int)] 3)).drew) := hide ((Chg.refl _ _).alloc _).drew
            clear c0 c1 c2 c3 c4 c5 lb hsz hsh hlt
            generalize (wr.alloc (.cells #[.int .i64 (row : Int), .int .i64 (col : Int)] 3)).drew = wv at CV ⊢
            have HOwnV := hide (CV.out.row HOwn.out (fun _ _ => List.not_mem_nil))
            have HBxV := hide (HBx.out.keep CV.out List.not_mem_nil)
            have HChV : Hid (Chg [] w wv) := hide (HCh.out.trans CV.out)
            have hszv := HBxV.out.lt
            have htg1 : i < Y := by omega
            have htg2 : Y < L := by omega
            have htg3 : (0 : Int) ≤ (Y : Int) := by omega
            have htg4 : (Y : Int) < (L : Int) := by omega
            go_wp2_with (at_builtin; refine wpList_append_own _ rfl _ _ 38 rfl (Bn + 1) 3 i0 (.int .i64 0) 1 8 Try.underlying38 hi' hz0 hz1 hz2 rfl (by decide) _ _ _ rfl (HOwnV.out.alloc _) ⟨wv.heap.size, 0, none⟩ 1 1 [.int .i64 1] rfl rfl (by intro j u hj; rw [add_zero_row, (Box.new wv _ _).cell j]; simpa using hj) (by intro u hu; rw [List.mem_singleton] at hu; subst hu; rfl) (by unfold maxLen; omega) (by omega) (by simp; omega) ?_; intro v1 w2 hown1 hgrow1 _; obtain ⟨o1, p1, rfl, _⟩ := row_shape hown1; have q2 := box_grown (HBxV.out.old _) (HOwnV.out.alloc _) hgrow1 (Nat.lt_succ_self _); have hc2 : Chg [] w w2 := chg_grown (HChV.out.alloc _) (HOwnV.out.alloc _) (by have := HB.out; omega) hgrow1; have e0 := q2.cell 0; have e1 := q2.cell 1; have e2 := q2.cell 2; have e3 := q2.cell 3; have e4 := q2.cell 4; have e5 := q2.cell 5; have g2 := fun o => q2.free o; have l2 := q2.lt; (unfold ndCells at e0 e1 e2 e3 e4 e5); (simp only [List.getElem?_toArray, List.getElem?_cons_zero, List.getElem?_cons_succ] at e0 e1 e2 e3 e4 e5); (rw [HNoY.out.1] at e4); (rw [HNoY.out.2] at e5); obtain ⟨m0, m1, m2, m3, m4, m5⟩ := HC.out (w2.alloc (.cells #[.int .i64 (N : Int), .int .i64 (Y : Int)] 3)) (hc2.alloc _) Y (by rw [← HL.out]; exact htg2); obtain ⟨z, hz⟩ : ∃ z, z = ps.getD Y nd0 := ⟨_, rfl⟩; (rw [← hz] at m0 m1 m2 m3 m4 m5); have HZ := hide hz; have HQ := hide q2; have HC2 := hide hc2; have HOw := hide hown1; clear hz q2 hc2 hown1)
            have hfb := set6_box (x := z) HQ.out
            have hfo := (set6_chg w2 Bn z).row HOw.out (fun g hg hm => by
              have h1 := (HOw.out.lt g hg).1
              simp at hm
              omega)
            have hfc : Chg [] w ((set6 w2 Bn z).alloc (.cells #[.int .i64 (N : Int), .int .i64 (Y : Int)] 3)) := (HC2.out.trans' (set6_chg w2 Bn z) (fun g hg => .inr (by simp at hg; have := HB.out; omega))).alloc _
            have hfr : runM ps row col = (pre ++ [1]) ++ runA ps row col Y := by
              rw [HRun.out, HNode.out, HSay.out, HNx.out.2, List.append_assoc]; rfl
            exact ⟨⟨Y, htg2, by show pre.length + 1 ≤ Y; omega, hide ⟨pre ++ [1], hfr, by
              rw [List.length_append, List.map_append]
              exact hfo.alloc _, by rw [← HZ.out]; exact hfb.old _, hfc⟩⟩, by show 100 - (pre.length + 1) < 100 - pre.length; omega⟩)
      · rw [hw1] at HSay c2
        rw [if_neg (by decide)] at HSay
        clear hw1
        have hsh := shr_int S col
        have hlt := and_one (S / 2 ^ col) (Nat.lt_of_le_of_lt (Nat.div_le_self _ _) (by omega))
        have hp64 : (col : Int) ≤ 64 := by omega
        generalize S / 2 ^ col = q at hsh hlt HSay
        rcases (show q % 2 = 0 ∨ q % 2 = 1 by omega) with hs | hs
        · rw [hs] at hlt HSay
          clear hs
          go_wp2
          go_region
          all_goals (
            have CV : Hid (Chg [] wr (wr.alloc (.cells #[.int .i64 (row : Int), .int .i64 (col : Int)] 3)).drew) := hide ((Chg.refl _ _).alloc _).drew
            clear c0 c1 c2 c3 c4 c5 lb hsz hsh hlt
            generalize (wr.alloc (.cells #[.int .i64 (row : Int), .int .i64 (col : Int)] 3)).drew = wv at CV ⊢
            have HOwnV := hide (CV.out.row HOwn.out (fun _ _ => List.not_mem_nil))
            have HBxV := hide (HBx.out.keep CV.out List.not_mem_nil)
            have HChV : Hid (Chg [] w wv) := hide (HCh.out.trans CV.out)
            have hszv := HBxV.out.lt
            have htg1 : i < N := by omega
            have htg2 : N < L := by omega
            have htg3 : (0 : Int) ≤ (N : Int) := by omega
            have htg4 : (N : Int) < (L : Int) := by omega
            go_wp2_with (at_builtin; refine wpList_append_own _ rfl _ _ 38 rfl (Bn + 1) 3 i0 (.int .i64 0) 1 8 Try.underlying38 hi' hz0 hz1 hz2 rfl (by decide) _ _ _ rfl (HOwnV.out.alloc _) ⟨wv.heap.size, 0, none⟩ 1 1 [.int .i64 0] rfl rfl (by intro j u hj; rw [add_zero_row, (Box.new wv _ _).cell j]; simpa using hj) (by intro u hu; rw [List.mem_singleton] at hu; subst hu; rfl) (by unfold maxLen; omega) (by omega) (by simp; omega) ?_; intro v1 w2 hown1 hgrow1 _; obtain ⟨o1, p1, rfl, _⟩ := row_shape hown1; have q2 := box_grown (HBxV.out.old _) (HOwnV.out.alloc _) hgrow1 (Nat.lt_succ_self _); have hc2 : Chg [] w w2 := chg_grown (HChV.out.alloc _) (HOwnV.out.alloc _) (by have := HB.out; omega) hgrow1; have e0 := q2.cell 0; have e1 := q2.cell 1; have e2 := q2.cell 2; have e3 := q2.cell 3; have e4 := q2.cell 4; have e5 := q2.cell 5; have g2 := fun o => q2.free o; have l2 := q2.lt; (unfold ndCells at e0 e1 e2 e3 e4 e5); (simp only [List.getElem?_toArray, List.getElem?_cons_zero, List.getElem?_cons_succ] at e0 e1 e2 e3 e4 e5); (rw [HNoY.out.1] at e4); (rw [HNoY.out.2] at e5); obtain ⟨m0, m1, m2, m3, m4, m5⟩ := HC.out (w2.alloc (.cells #[.int .i64 (N : Int), .int .i64 (Y : Int)] 3)) (hc2.alloc _) N (by rw [← HL.out]; exact htg2); obtain ⟨z, hz⟩ : ∃ z, z = ps.getD N nd0 := ⟨_, rfl⟩; (rw [← hz] at m0 m1 m2 m3 m4 m5); have HZ := hide hz; have HQ := hide q2; have HC2 := hide hc2; have HOw := hide hown1; clear hz q2 hc2 hown1)
            have hfb := set6_box (x := z) HQ.out
            have hfo := (set6_chg w2 Bn z).row HOw.out (fun g hg hm => by
              have h1 := (HOw.out.lt g hg).1
              simp at hm
              omega)
            have hfc : Chg [] w ((set6 w2 Bn z).alloc (.cells #[.int .i64 (N : Int), .int .i64 (Y : Int)] 3)) := (HC2.out.trans' (set6_chg w2 Bn z) (fun g hg => .inr (by simp at hg; have := HB.out; omega))).alloc _
            have hfr : runM ps row col = (pre ++ [0]) ++ runA ps row col N := by
              rw [HRun.out, HNode.out, HSay.out, HNx.out.1, List.append_assoc]; rfl
            exact ⟨⟨N, htg2, by show pre.length + 1 ≤ N; omega, hide ⟨pre ++ [0], hfr, by
              rw [List.length_append, List.map_append]
              exact hfo.alloc _, by rw [← HZ.out]; exact hfb.old _, hfc⟩⟩, by show 100 - (pre.length + 1) < 100 - pre.length; omega⟩)
        · rw [hs] at hlt HSay
          clear hs
          go_wp2
          go_region
          all_goals (
            have CV : Hid (Chg [] wr (wr.alloc (.cells #[.int .i64 (row : Int), .int .i64 (col : Int)] 3)).drew) := hide ((Chg.refl _ _).alloc _).drew
            clear c0 c1 c2 c3 c4 c5 lb hsz hsh hlt
            generalize (wr.alloc (.cells #[.int .i64 (row : Int), .int .i64 (col : Int)] 3)).drew = wv at CV ⊢
            have HOwnV := hide (CV.out.row HOwn.out (fun _ _ => List.not_mem_nil))
            have HBxV := hide (HBx.out.keep CV.out List.not_mem_nil)
            have HChV : Hid (Chg [] w wv) := hide (HCh.out.trans CV.out)
            have hszv := HBxV.out.lt
            have htg1 : i < Y := by omega
            have htg2 : Y < L := by omega
            have htg3 : (0 : Int) ≤ (Y : Int) := by omega
            have htg4 : (Y : Int) < (L : Int) := by omega
            go_wp2_with (at_builtin; refine wpList_append_own _ rfl _ _ 38 rfl (Bn + 1) 3 i0 (.int .i64 0) 1 8 Try.underlying38 hi' hz0 hz1 hz2 rfl (by decide) _ _ _ rfl (HOwnV.out.alloc _) ⟨wv.heap.size, 0, none⟩ 1 1 [.int .i64 1] rfl rfl (by intro j u hj; rw [add_zero_row, (Box.new wv _ _).cell j]; simpa using hj) (by intro u hu; rw [List.mem_singleton] at hu; subst hu; rfl) (by unfold maxLen; omega) (by omega) (by simp; omega) ?_; intro v1 w2 hown1 hgrow1 _; obtain ⟨o1, p1, rfl, _⟩ := row_shape hown1; have q2 := box_grown (HBxV.out.old _) (HOwnV.out.alloc _) hgrow1 (Nat.lt_succ_self _); have hc2 : Chg [] w w2 := chg_grown (HChV.out.alloc _) (HOwnV.out.alloc _) (by have := HB.out; omega) hgrow1; have e0 := q2.cell 0; have e1 := q2.cell 1; have e2 := q2.cell 2; have e3 := q2.cell 3; have e4 := q2.cell 4; have e5 := q2.cell 5; have g2 := fun o => q2.free o; have l2 := q2.lt; (unfold ndCells at e0 e1 e2 e3 e4 e5); (simp only [List.getElem?_toArray, List.getElem?_cons_zero, List.getElem?_cons_succ] at e0 e1 e2 e3 e4 e5); (rw [HNoY.out.1] at e4); (rw [HNoY.out.2] at e5); obtain ⟨m0, m1, m2, m3, m4, m5⟩ := HC.out (w2.alloc (.cells #[.int .i64 (N : Int), .int .i64 (Y : Int)] 3)) (hc2.alloc _) Y (by rw [← HL.out]; exact htg2); obtain ⟨z, hz⟩ : ∃ z, z = ps.getD Y nd0 := ⟨_, rfl⟩; (rw [← hz] at m0 m1 m2 m3 m4 m5); have HZ := hide hz; have HQ := hide q2; have HC2 := hide hc2; have HOw := hide hown1; clear hz q2 hc2 hown1)
            have hfb := set6_box (x := z) HQ.out
            have hfo := (set6_chg w2 Bn z).row HOw.out (fun g hg hm => by
              have h1 := (HOw.out.lt g hg).1
              simp at hm
              omega)
            have hfc : Chg [] w ((set6 w2 Bn z).alloc (.cells #[.int .i64 (N : Int), .int .i64 (Y : Int)] 3)) := (HC2.out.trans' (set6_chg w2 Bn z) (fun g hg => .inr (by simp at hg; have := HB.out; omega))).alloc _
            have hfr : runM ps row col = (pre ++ [1]) ++ runA ps row col Y := by
              rw [HRun.out, HNode.out, HSay.out, HNx.out.2, List.append_assoc]; rfl
            exact ⟨⟨Y, htg2, by show pre.length + 1 ≤ Y; omega, hide ⟨pre ++ [1], hfr, by
              rw [List.length_append, List.map_append]
              exact hfo.alloc _, by rw [← HZ.out]; exact hfb.old _, hfc⟩⟩, by show 100 - (pre.length + 1) < 100 - pre.length; omega⟩)
end Go.Proofs.Ytaapamoglgpocaa
