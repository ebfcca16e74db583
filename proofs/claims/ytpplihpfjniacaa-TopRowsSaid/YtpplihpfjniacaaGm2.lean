/- Walks: games: colours, marks, of two given codes. -/
import Derived.Test.YtpplihpfjniacaaGm1
namespace Go.Proofs.Ytpplihpfjniacaa
open Go.RowKit

set_option maxRecDepth 100000 in
set_option maxHeartbeats 2000000 in
theorem colours_1 (w : World) : Calls Try.prog 61 #[.agg #[.int .i64 2, .int .i64 2, .int .i64 4], .int .i64 1] w fun e w' => ∃ v, e = .returned v ∧ Ints w' v [1, 0] ∧ Chg [] w w' := by
  obtain ⟨i0, hi, hz0, hz1, hz2⟩ := info_parts infoInt
  have b1 := Box.new w #[.int .i64 2, .int .i64 2, .int .i64 4] 54
  have c1 := (Chg.refl [] w).alloc (.cells #[.int .i64 2, .int .i64 2, .int .i64 4] 54)
  have hsz : (w.alloc (.cells #[.int .i64 2, .int .i64 2, .int .i64 4] 54)).heap.size = w.heap.size + 1 := by simp
  go_enter Try.func61, Try.ntmps61
  go_wp2
  generalize w.alloc (.cells #[.int .i64 2, .int .i64 2, .int .i64 4] 54) = W at *
  have HSZ := hide hsz
  clear hsz
  have e0 := b1.cell 0
  have e1 := b1.cell 1
  have el := b1.lt
  simp only [List.getElem?_toArray, List.getElem?_cons_zero, List.getElem?_cons_succ] at e0 e1
  have hown := World.ownsRow_nil W (w.heap.size + 1) 3 1
  generalize Value.slice none 0 0 = v0 at hown ⊢
  refine loopW_start (loopW_round ?_)
  go_wp2_with (at_builtin; refine wpList_append_own _ rfl _ _ 23 rfl (w.heap.size + 1) 3 i0 (.int .i64 0) 1 8 Try.underlying23 hi hz0 hz1 hz2 rfl (by decide) _ _ _ rfl (hown.alloc _) ⟨W.heap.size, 0, none⟩ 1 1 [.int .i64 1] rfl rfl (by intro j u hj; match j, hj with | 0, hj => simp at hj; subst hj; simp [Addr.add]) (by intro u hu; simp at hu; subst hu; rfl) (by unfold maxLen; simp) (by simp) (by have := HSZ.out; simp; omega) ?_; intro v1 w3 hown1 hgrow1 _; have b3 := box_grown (b1.old _) (hown.alloc _) hgrow1 (Nat.lt_succ_self _); have x0 := b3.cell 0; have x1 := b3.cell 1; have xl := b3.lt; simp only [List.getElem?_toArray, List.getElem?_cons_zero, List.getElem?_cons_succ] at x0 x1)
  have hsz3 : W.heap.size ≤ w3.heap.size := by have := chg_grown (S := []) ((Chg.refl [] W).alloc _) (hown.alloc _) (show W.heap.size ≤ w.heap.size + 1 by have := HSZ.out; omega) hgrow1; exact this.size
  have c3 := chg_grown (S := []) (c1.alloc _) (hown.alloc _) (Nat.le_succ _) hgrow1
  refine loopW_round ?_
  go_wp2_with (at_builtin; refine wpList_append_own _ rfl _ _ 23 rfl (w.heap.size + 1) 3 i0 (.int .i64 0) 1 8 Try.underlying23 hi hz0 hz1 hz2 rfl (by decide) _ _ _ rfl (hown1.alloc _) ⟨w3.heap.size, 0, none⟩ 1 1 [.int .i64 0] rfl rfl (by intro j u hj; match j, hj with | 0, hj => simp at hj; subst hj; simp [Addr.add]) (by intro u hu; simp at hu; subst hu; rfl) (by unfold maxLen; simp) (by simp) (by have := HSZ.out; have := c3.size; have := hsz3; simp; omega) ?_; intro v2 w4 hown2 hgrow2 _; have b4 := box_grown (b3.old _) (hown1.alloc _) hgrow2 (Nat.lt_succ_self _); have y0 := b4.cell 0; have y1 := b4.cell 1; have yl := b4.lt; simp only [List.getElem?_toArray, List.getElem?_cons_zero, List.getElem?_cons_succ] at y0 y1)
  have c4 := chg_grown (S := []) (c3.alloc _) (hown1.alloc _) (Nat.le_succ _) hgrow2
  refine loopW_round ?_
  go_wp2
  go_ret
  exact ⟨_, rfl, row_low hown2 (Nat.zero_le _), c4⟩

set_option maxRecDepth 100000 in
set_option maxHeartbeats 2000000 in
theorem colours_2 (w : World) : Calls Try.prog 61 #[.agg #[.int .i64 2, .int .i64 2, .int .i64 4], .int .i64 2] w fun e w' => ∃ v, e = .returned v ∧ Ints w' v [0, 1] ∧ Chg [] w w' := by
  obtain ⟨i0, hi, hz0, hz1, hz2⟩ := info_parts infoInt
  have b1 := Box.new w #[.int .i64 2, .int .i64 2, .int .i64 4] 54
  have c1 := (Chg.refl [] w).alloc (.cells #[.int .i64 2, .int .i64 2, .int .i64 4] 54)
  have hsz : (w.alloc (.cells #[.int .i64 2, .int .i64 2, .int .i64 4] 54)).heap.size = w.heap.size + 1 := by simp
  go_enter Try.func61, Try.ntmps61
  go_wp2
  generalize w.alloc (.cells #[.int .i64 2, .int .i64 2, .int .i64 4] 54) = W at *
  have HSZ := hide hsz
  clear hsz
  have e0 := b1.cell 0
  have e1 := b1.cell 1
  have el := b1.lt
  simp only [List.getElem?_toArray, List.getElem?_cons_zero, List.getElem?_cons_succ] at e0 e1
  have hown := World.ownsRow_nil W (w.heap.size + 1) 3 1
  generalize Value.slice none 0 0 = v0 at hown ⊢
  refine loopW_start (loopW_round ?_)
  go_wp2_with (at_builtin; refine wpList_append_own _ rfl _ _ 23 rfl (w.heap.size + 1) 3 i0 (.int .i64 0) 1 8 Try.underlying23 hi hz0 hz1 hz2 rfl (by decide) _ _ _ rfl (hown.alloc _) ⟨W.heap.size, 0, none⟩ 1 1 [.int .i64 0] rfl rfl (by intro j u hj; match j, hj with | 0, hj => simp at hj; subst hj; simp [Addr.add]) (by intro u hu; simp at hu; subst hu; rfl) (by unfold maxLen; simp) (by simp) (by have := HSZ.out; simp; omega) ?_; intro v1 w3 hown1 hgrow1 _; have b3 := box_grown (b1.old _) (hown.alloc _) hgrow1 (Nat.lt_succ_self _); have x0 := b3.cell 0; have x1 := b3.cell 1; have xl := b3.lt; simp only [List.getElem?_toArray, List.getElem?_cons_zero, List.getElem?_cons_succ] at x0 x1)
  have hsz3 : W.heap.size ≤ w3.heap.size := by have := chg_grown (S := []) ((Chg.refl [] W).alloc _) (hown.alloc _) (show W.heap.size ≤ w.heap.size + 1 by have := HSZ.out; omega) hgrow1; exact this.size
  have c3 := chg_grown (S := []) (c1.alloc _) (hown.alloc _) (Nat.le_succ _) hgrow1
  refine loopW_round ?_
  go_wp2_with (at_builtin; refine wpList_append_own _ rfl _ _ 23 rfl (w.heap.size + 1) 3 i0 (.int .i64 0) 1 8 Try.underlying23 hi hz0 hz1 hz2 rfl (by decide) _ _ _ rfl (hown1.alloc _) ⟨w3.heap.size, 0, none⟩ 1 1 [.int .i64 1] rfl rfl (by intro j u hj; match j, hj with | 0, hj => simp at hj; subst hj; simp [Addr.add]) (by intro u hu; simp at hu; subst hu; rfl) (by unfold maxLen; simp) (by simp) (by have := HSZ.out; have := c3.size; have := hsz3; simp; omega) ?_; intro v2 w4 hown2 hgrow2 _; have b4 := box_grown (b3.old _) (hown1.alloc _) hgrow2 (Nat.lt_succ_self _); have y0 := b4.cell 0; have y1 := b4.cell 1; have yl := b4.lt; simp only [List.getElem?_toArray, List.getElem?_cons_zero, List.getElem?_cons_succ] at y0 y1)
  have c4 := chg_grown (S := []) (c3.alloc _) (hown1.alloc _) (Nat.le_succ _) hgrow2
  refine loopW_round ?_
  go_wp2
  go_ret
  exact ⟨_, rfl, row_low hown2 (Nat.zero_le _), c4⟩
end Go.Proofs.Ytpplihpfjniacaa
