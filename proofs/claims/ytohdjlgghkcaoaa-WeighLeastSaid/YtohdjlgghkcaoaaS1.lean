/- Walks: copies of slices. -/
import Derived.Test.YtohdjlgghkcaoaaEq
import Derived.Test.YtohdjlgghkcaoaaW13
import Derived.Laws.Cover3
namespace Go.Proofs.Ytohdjlgghkcaoaa
open Go.RowKit

@[go_sem] theorem run_eql_ints_nil (w : World) (a : Option Addr) (l c : Nat) : (binOp .eql 51 (.slice a l c) (.slice none 0 0)).run Try.prog w = .ok (.bool a.isNone) w := by
  simp only [binOp]
  simp [run_equal_slice_nil w _ _ a l c Try.underlying51]

set_option maxRecDepth 100000 in
set_option maxHeartbeats 1000000 in
theorem Clone_new (v : Value) (xs : List Int) (w : World) (hv : See w v xs) (hl : xs.length ≤ 1000000) :
    Calls Try.prog 40 #[v] w fun e w' => ∃ v', e = .returned v' ∧ w'.ownsRow w.heap.size 3 1 v' xs.length (xs.map (Value.int .i64)) ∧ Chg [] w w' := by
  obtain ⟨i0, hi, hz0, hz1, hz2⟩ := info_parts infoInt
  obtain ⟨ao, cap, rfl, _, hA⟩ := hv.len
  have HA := hide hA
  clear hA hv
  cases ao with
  | none =>
    go_enter Try.func40, Try.ntmps40
    go_wp2
    go_ret
    have hnil : xs = [] := by
      by_cases h : xs = []
      · exact h
      · obtain ⟨a, h', _⟩ := HA.out h; cases h'
    subst hnil
    exact ⟨_, rfl, World.ownsRow_nil _ _ _ _, Chg.refl _ _⟩
  | some a =>
    have hcell : ∀ j u, (xs.map (Value.int .i64))[j]? = some u → a.block < w.heap.size ∧ w.cell? (a.add j) = some u := by
      intro j u hu
      rw [List.getElem?_map] at hu
      have hne : xs ≠ [] := by rintro rfl; simp at hu
      obtain ⟨a', e, hb, hc⟩ := HA.out hne
      cases e
      have hj : j < xs.length := by
        rcases Nat.lt_or_ge j xs.length with h | h
        · exact h
        · rw [List.getElem?_eq_none h] at hu; simp at hu
      refine ⟨hb, ?_⟩
      rw [hc j hj, List.getD_eq_getElem?_getD, List.getElem?_eq_getElem hj]
      rw [List.getElem?_eq_getElem hj] at hu
      simpa using hu
    have HC := hide hcell
    clear hcell
    generalize hn : xs.length = n at *
    have HN := hide hn
    clear hn
    go_enter Try.func40, Try.ntmps40
    go_wp2_with (at_builtin; refine wpList_append_own _ rfl _ _ 51 rfl w.heap.size 3 i0 (.int .i64 0) 1 8 Try.underlying51 hi hz0 hz1 hz2 rfl (by decide) _ _ _ rfl (World.ownsRow_made w #[] 0 (Nat.le_refl _) (Nat.zero_le _) rfl) a n cap (xs.map (Value.int .i64)) rfl (by rw [List.length_map, HN.out]; omega) (by intro j u hu; rw [((Chg.refl [] w).alloc _).cellA (by rw [add_block]; exact (HC.out j u hu).1) List.not_mem_nil]; exact (HC.out j u hu).2) (by intro u hu; obtain ⟨x, _, rfl⟩ := List.mem_map.1 hu; rfl) (by unfold maxLen; omega) (by omega) (by simp) ?_; intro v1 w1 hown1 hgrow1 _)
    go_ret
    refine ⟨_, rfl, ?_, ((Chg.refl [] w).alloc _).grew (World.ownsRow_made (base := w.heap.size) (e := 3) (size := 1) w #[] 0 (Nat.le_refl _) (Nat.zero_le _) rfl) (Nat.le_refl _) hgrow1⟩
    simpa using hown1
theorem Clone_any (v : Value) (xs : List Int) (w : World) (hv : See w v xs) (hl : xs.length ≤ 1000000) :
    Calls Try.prog 40 #[v] w fun e w' => ∃ v', e = .returned v' ∧ Ints w' v' xs ∧ Chg [] w w' :=
  (Clone_new v xs w hv hl).mono fun _ _ ⟨v', e, h, hc⟩ => ⟨v', e, row_low h (Nat.zero_le _), hc⟩

set_option maxRecDepth 100000 in
set_option maxHeartbeats 1000000 in
theorem list_any (v : Value) (xs : List Int) (w : World) (hv : See w v xs) :
    Calls Try.prog 35 #[v] w fun e w' => ∃ v', e = .returned v' ∧ Ints w' v' (xs.take 16) ∧ Chg [] w w' := by
  obtain ⟨ao, cap, rfl, hcap, hA⟩ := hv.len
  have k1 := fun w ts t => @run_min_2 Try.prog w ts t (xs.length : Int) 16
  obtain ⟨m, hm⟩ : ∃ m : Nat, m = min xs.length 16 := ⟨_, rfl⟩
  have him : imin (xs.length : Int) 16 = (m : Int) := by unfold imin; split <;> omega
  have hmc : m ≤ cap := by omega
  have hlen : (xs.take 16).length = m := by rw [List.length_take, Nat.min_comm]; exact hm.symm
  have hsee : See w (.slice ao m cap) (xs.take 16) := by
    by_cases h : xs = []
    · subst h; exact .inl ⟨rfl, ao, cap, by rw [hm]; rfl⟩
    · obtain ⟨a, rfl, hb, hc⟩ := hA h
      refine .inr ⟨a, cap, by rw [hlen], by omega, hb, fun i hi => ?_⟩
      rw [hlen] at hi
      rw [hc i (by omega), List.getD_eq_getElem?_getD, List.getD_eq_getElem?_getD, List.getElem?_take, if_pos (by omega)]
  have HS := hide hsee
  have HL := hide hlen
  have HM := hide hm
  clear hA hv hsee hlen hm
  generalize hn : xs.length = n at *
  clear hn
  go_enter Try.func35, Try.ntmps35
  go_wp2_with fail
  refine (Clone_any _ (xs.take 16) _ HS.out (by have := HM.out; have := HL.out; omega)).mono ?_
  rintro e w1 ⟨v', rfl, hI, hc⟩
  go_wp2
  go_ret
  exact ⟨_, rfl, hI, hc⟩
end Go.Proofs.Ytohdjlgghkcaoaa
