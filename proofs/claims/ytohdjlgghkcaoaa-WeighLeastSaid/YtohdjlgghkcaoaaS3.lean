/- Walks: rows of a plan: the least and greatest number, the opposite, a search. -/
import Derived.Test.YtohdjlgghkcaoaaS2
import Derived.Test.YtohdjlgghkcaoaaTabPlain
import Derived.Test.YtohdjlgghkcaoaaHalt
namespace Go.Proofs.Ytohdjlgghkcaoaa
open Go.RowKit

/-- A slice of ints, opened once: its cells, in every later world. -/
theorem See.open {w : World} {v : Value} {xs : List Int} (h : See w v xs) (hne : xs ≠ []) : ∃ a cap, v = .slice (some a) xs.length cap ∧ ∀ wr, Chg [] w wr → ∀ i, i < xs.length → wr.cell? (a.add i) = some (.int .i64 (xs.getD i 0)) := by
  obtain ⟨ao, cap, e, _, hA⟩ := h.len
  obtain ⟨a, rfl, hb, hc⟩ := hA hne
  exact ⟨a, cap, e, fun wr hw i hi => (hw.cellA (by rw [add_block]; exact hb) List.not_mem_nil).trans (hc i hi)⟩
theorem See.shape {w : World} {v : Value} {xs : List Int} (h : See w v xs) : ∃ ao cap, v = .slice ao xs.length cap := by
  obtain ⟨ao, cap, e, _⟩ := h.len
  exact ⟨ao, cap, e⟩
theorem add_nought (a : Addr) : a.add 0 = a := by cases a; unfold Addr.add; split <;> simp_all
theorem getD_mem {xs : List Int} {i : Nat} (h : i < xs.length) : xs.getD i 0 ∈ xs := by
  rw [List.getD_eq_getElem?_getD, List.getElem?_eq_getElem h]; exact List.getElem_mem _

set_option maxRecDepth 100000 in
set_option maxHeartbeats 1000000 in
theorem opposite_any (v : Value) (xs : List Int) (w : World) (hv : See w v xs) (hx : ∀ x ∈ xs, -1 ≤ x ∧ x ≤ 1) (hl : xs.length ≤ 1000000) :
    Calls Try.prog 67 #[v] w fun e w' => ∃ v', e = .returned v' ∧ Ints w' v' (W.neg xs) ∧ Chg [] w w' := by
  obtain ⟨i0, hi, hz0, hz1, hz2⟩ := info_parts infoInt
  obtain ⟨ao, cap, rfl⟩ := hv.shape
  have HV := hide hv
  have HX := hide hx
  clear hv hx
  generalize hn : xs.length = n at *
  have HN := hide hn
  clear hn
  go_enter Try.func67, Try.ntmps67
  go_wp2
  go_loopw [3, 8] (fun o i wr => ∃ j : Nat, j ≤ n ∧ i = .int .i64 (j : Int) ∧ Hid (wr.ownsRow w.heap.size 3 1 o j ((W.neg (xs.take j)).map (Value.int .i64)) ∧ Chg [] w wr)) (fun _ i _ => (n - (intOf i).toNat))
  case atStart => exact ⟨0, Nat.zero_le _, rfl, hide ⟨World.ownsRow_nil _ _ _ _, Chg.refl _ _⟩⟩
  case round =>
    obtain ⟨j, hj, rfl, hI⟩ := hrel
    by_cases hlt : j < n
    · have d1 : decide ((j : Int) < (n : Int)) = true := by simpa using hlt
      have nx : xs ≠ [] := fun h => by have := HN.out; rw [h] at this; simp at this; omega
      obtain ⟨a, cap', e, hc⟩ := HV.out.open nx
      cases e
      have fx := hc wr hI.out.2 j (by rw [HN.out]; exact hlt)
      obtain ⟨x1, x2⟩ := HX.out _ (getD_mem (i := j) (by rw [HN.out]; exact hlt))
      obtain ⟨x, hxe⟩ : ∃ x, x = xs.getD j 0 := ⟨_, rfl⟩
      rw [← hxe] at fx x1 x2
      have HXE := hide hxe
      have hown := hI.out.1
      have hsz := hI.out.2.size
      clear nx hc hxe
      go_wp2_with (at_builtin; refine wpList_append_own _ rfl _ _ 51 rfl w.heap.size 3 i0 (.int .i64 0) 1 8 Try.underlying51 hi hz0 hz1 hz2 rfl (by decide) _ _ _ rfl (hown.alloc _) ⟨wr.heap.size, 0, none⟩ 1 1 [.int .i64 (-x)] rfl rfl (by intro j u hj; match j, hj with | 0, hj => simp at hj; subst hj; simp [Addr.add]) (by intro u hu; simp at hu; subst hu; rfl) (by unfold maxLen; omega) (by omega) (by simp; omega) ?_; intro v1 w1 hown1 hgrow1 _)
      go_roundw
      case rel =>
        refine ⟨j + 1, by omega, by go_num, hide ⟨?_, (hI.out.2.alloc _).grew (hown.alloc _) (Nat.le_refl _) hgrow1⟩⟩
        have e : (W.neg (xs.take (j + 1))).map (Value.int .i64) = (W.neg (xs.take j)).map (Value.int .i64) ++ [.int .i64 (-x)] := by
          rw [List.take_add_one, W.neg, W.neg, List.map_append, List.map_append, List.getElem?_eq_getElem (by rw [HN.out]; exact hlt), HXE.out, List.getD_eq_getElem?_getD, List.getElem?_eq_getElem (by rw [HN.out]; exact hlt)]
          rfl
        rw [e]
        exact hown1
      case measure => simp [intOf]; omega
    · have d1 : decide ((j : Int) < (n : Int)) = false := by simpa using hlt
      obtain rfl : j = n := by omega
      go_wp2
      go_ret
      refine ⟨_, rfl, ?_, hI.out.2⟩
      have h := row_low hI.out.1 (Nat.zero_le _)
      rw [List.take_of_length_le (by rw [HN.out]; exact Nat.le_refl _)] at h
      unfold Ints
      rw [W.neg_len, HN.out]
      exact h

theorem imin_pick (x y : Int) : (imin x y = x ∨ imin x y = y) ∧ imin x y ≤ x ∧ imin x y ≤ y := by unfold imin; split <;> omega

set_option maxRecDepth 100000 in
set_option maxHeartbeats 1000000 in
theorem Min_any (v : Value) (xs : List Int) (w : World) (hv : See w v xs) (hne : xs ≠ []) (hl : xs.length ≤ 1000000) :
    Calls Try.prog 64 #[v] w fun e w' => ∃ m, e = .returned (.int .i64 m) ∧ (m ∈ xs ∧ ∀ x ∈ xs, m ≤ x) ∧ Chg [] w w' := by
  have kmin := fun w ts t x y => @run_min_2 Try.prog w ts t x y
  obtain ⟨a, cap, rfl, hc⟩ := hv.open hne
  have HC := hide hc
  have h0 : 0 < xs.length := List.length_pos_iff.2 hne
  have f0 : w.cell? a = some (.int .i64 (xs.getD 0 0)) := by have := hc w (Chg.refl _ _) 0 h0; rwa [add_nought] at this
  obtain ⟨x0, hx0⟩ : ∃ x0, x0 = xs.getD 0 0 := ⟨_, rfl⟩
  rw [← hx0] at f0
  have HX0 := hide hx0
  clear hc hv hx0
  generalize hn : xs.length = n at *
  have HN := hide hn
  clear hn hne
  have d0 : decide ((n : Int) < 1) = false := by simp; omega
  go_enter Try.func64, Try.ntmps64
  go_wp2
  go_loopw [3, 4] (fun o i wr => ∃ (j : Nat) (m : Int), 1 ≤ j ∧ j ≤ n ∧ o = .int .i64 m ∧ i = .int .i64 (j : Int) ∧ Hid ((m ∈ xs ∧ ∀ q, q < j → m ≤ xs.getD q 0) ∧ Chg [] w wr)) (fun _ i _ => (n - (intOf i).toNat))
  case atStart => exact ⟨1, x0, Nat.le_refl _, h0, rfl, rfl, hide ⟨⟨by rw [HX0.out]; exact getD_mem (by rw [HN.out]; exact h0), fun q hq => by
    obtain rfl : q = 0 := by omega
    rw [HX0.out]; exact Int.le_refl _⟩, Chg.refl _ _⟩⟩
  case round =>
    obtain ⟨j, m, hj1, hj, rfl, rfl, hI⟩ := hrel
    by_cases hlt : j < n
    · have d1 : decide ((j : Int) < (n : Int)) = true := by simpa using hlt
      have fx := HC.out wr hI.out.2 j hlt
      obtain ⟨x, hxe⟩ : ∃ x, x = xs.getD j 0 := ⟨_, rfl⟩
      rw [← hxe] at fx
      have HXE := hide hxe
      have HP := hide (imin_pick m x)
      clear hxe
      go_wp2
      go_roundw
      case rel => exact ⟨j + 1, imin m x, by omega, by omega, rfl, by go_num, hide ⟨⟨by
        rcases HP.out.1 with h | h
        · rw [h]; exact hI.out.1.1
        · rw [h, HXE.out]; exact getD_mem (by rw [HN.out]; exact hlt), fun q hq => by
        rcases (show q < j ∨ q = j by omega) with h | rfl
        · exact Int.le_trans HP.out.2.1 (hI.out.1.2 q h)
        · rw [← HXE.out]; exact HP.out.2.2⟩, hI.out.2⟩⟩
      case measure => simp [intOf]; omega
    · have d1 : decide ((j : Int) < (n : Int)) = false := by simpa using hlt
      go_wp2
      go_ret
      refine ⟨m, rfl, ⟨hI.out.1.1, fun x hx => ?_⟩, hI.out.2⟩
      obtain ⟨q, hq, he⟩ := List.getElem_of_mem hx
      have := hI.out.1.2 q (by rw [HN.out] at hq; omega)
      rw [List.getD_eq_getElem?_getD, List.getElem?_eq_getElem hq] at this
      simpa [he] using this

theorem imax_pick (x y : Int) : (imax x y = x ∨ imax x y = y) ∧ x ≤ imax x y ∧ y ≤ imax x y := by unfold imax; split <;> omega

set_option maxRecDepth 100000 in
set_option maxHeartbeats 1000000 in
theorem Max_any (v : Value) (xs : List Int) (w : World) (hv : See w v xs) (hne : xs ≠ []) (hl : xs.length ≤ 1000000) :
    Calls Try.prog 65 #[v] w fun e w' => ∃ m, e = .returned (.int .i64 m) ∧ (m ∈ xs ∧ ∀ x ∈ xs, x ≤ m) ∧ Chg [] w w' := by
  have kmax := fun w ts t x y => @run_max_2 Try.prog w ts t x y
  obtain ⟨a, cap, rfl, hc⟩ := hv.open hne
  have HC := hide hc
  have h0 : 0 < xs.length := List.length_pos_iff.2 hne
  have f0 : w.cell? a = some (.int .i64 (xs.getD 0 0)) := by have := hc w (Chg.refl _ _) 0 h0; rwa [add_nought] at this
  obtain ⟨x0, hx0⟩ : ∃ x0, x0 = xs.getD 0 0 := ⟨_, rfl⟩
  rw [← hx0] at f0
  have HX0 := hide hx0
  clear hc hv hx0
  generalize hn : xs.length = n at *
  have HN := hide hn
  clear hn hne
  have d0 : decide ((n : Int) < 1) = false := by simp; omega
  go_enter Try.func65, Try.ntmps65
  go_wp2
  go_loopw [3, 4] (fun o i wr => ∃ (j : Nat) (m : Int), 1 ≤ j ∧ j ≤ n ∧ o = .int .i64 m ∧ i = .int .i64 (j : Int) ∧ Hid ((m ∈ xs ∧ ∀ q, q < j → xs.getD q 0 ≤ m) ∧ Chg [] w wr)) (fun _ i _ => (n - (intOf i).toNat))
  case atStart => exact ⟨1, x0, Nat.le_refl _, h0, rfl, rfl, hide ⟨⟨by rw [HX0.out]; exact getD_mem (by rw [HN.out]; exact h0), fun q hq => by
    obtain rfl : q = 0 := by omega
    rw [HX0.out]; exact Int.le_refl _⟩, Chg.refl _ _⟩⟩
  case round =>
    obtain ⟨j, m, hj1, hj, rfl, rfl, hI⟩ := hrel
    by_cases hlt : j < n
    · have d1 : decide ((j : Int) < (n : Int)) = true := by simpa using hlt
      have fx := HC.out wr hI.out.2 j hlt
      obtain ⟨x, hxe⟩ : ∃ x, x = xs.getD j 0 := ⟨_, rfl⟩
      rw [← hxe] at fx
      have HXE := hide hxe
      have HP := hide (imax_pick m x)
      clear hxe
      go_wp2
      go_roundw
      case rel => exact ⟨j + 1, imax m x, by omega, by omega, rfl, by go_num, hide ⟨⟨by
        rcases HP.out.1 with h | h
        · rw [h]; exact hI.out.1.1
        · rw [h, HXE.out]; exact getD_mem (by rw [HN.out]; exact hlt), fun q hq => by
        rcases (show q < j ∨ q = j by omega) with h | rfl
        · exact Int.le_trans (hI.out.1.2 q h) HP.out.2.1
        · rw [← HXE.out]; exact HP.out.2.2⟩, hI.out.2⟩⟩
      case measure => simp [intOf]; omega
    · have d1 : decide ((j : Int) < (n : Int)) = false := by simpa using hlt
      go_wp2
      go_ret
      refine ⟨m, rfl, ⟨hI.out.1.1, fun x hx => ?_⟩, hI.out.2⟩
      obtain ⟨q, hq, he⟩ := List.getElem_of_mem hx
      have := hI.out.1.2 q (by rw [HN.out] at hq; omega)
      rw [List.getD_eq_getElem?_getD, List.getElem?_eq_getElem hq] at this
      simpa [he] using this
end Go.Proofs.Ytohdjlgghkcaoaa
