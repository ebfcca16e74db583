/- Walks: parts of the statement TopQuestions. -/
import Derived.Test.YtpplihpfjniacaaDoorEv10
import Derived.Test.YtpplihpfjniacaaDoorFm3
import Derived.Test.YtpplihpfjniacaaDoorRk4
import Derived.Test.YtpplihpfjniacaaDoorTqPlain2
namespace Go.Proofs.YtpplihpfjniacaaDoor
open Go.RowKit

/-- A row of ints that the call itself writes. -/
def IntTab (w : World) (A n : Nat) (f : Nat → Int) : Prop := ∃ cur, Box w A cur 3 ∧ cur.size = n ∧ ∀ i, i < n → cur[i]? = some (.int .i64 (f i))
theorem IntTab.lt {w : World} {A n : Nat} {f : Nat → Int} (h : IntTab w A n f) : A < w.heap.size := by obtain ⟨c, h, _⟩ := h; exact h.lt
theorem IntTab.keep {w w' : World} {A n : Nat} {f : Nat → Int} {S : List Nat} (h : IntTab w A n f) (hc : Chg S w w') (hs : A ∉ S) : IntTab w' A n f := by
  obtain ⟨c, h, hc'⟩ := h
  exact ⟨c, h.keep hc hs, hc'⟩
theorem IntTab.cell {w : World} {A n : Nat} {f : Nat → Int} (h : IntTab w A n f) {i : Nat} (hi : i < n) : w.cell? ⟨A, i, none⟩ = some (.int .i64 (f i)) := by
  obtain ⟨c, h, _, hc⟩ := h
  rw [h.cell]; exact hc i hi
theorem IntTab.free {w : World} {A n : Nat} {f : Nat → Int} (h : IntTab w A n f) (i : Nat) : w.frozen? ⟨A, i, none⟩ = false := by
  obtain ⟨c, h, _⟩ := h
  exact h.free i
theorem IntTab.set {w : World} {A n : Nat} {f g : Nat → Int} (h : IntTab w A n f) (i : Nat) (v : Int) (hg : ∀ j, j < n → g j = if j = i then v else f j) : IntTab (w.setCell ⟨A, i, none⟩ (.int .i64 v)) A n g := by
  obtain ⟨c, h, hs, hc⟩ := h
  refine ⟨_, h.set i _, by simpa using hs, fun j hj => ?_⟩
  rw [hg j hj]
  by_cases hij : j = i
  · subst hij
    rw [Array.getElem?_setIfInBounds_self, if_pos (by omega), if_pos rfl]
  · rw [Array.getElem?_setIfInBounds_ne (Ne.symm hij), hc j hj, if_neg hij]
theorem IntTab.see {w : World} {A n : Nat} {f : Nat → Int} {xs : List Int} (h : IntTab w A n f) (hl : xs.length = n) (hx : ∀ i, i < n → xs.getD i 0 = f i) : See w (.slice (some ⟨A, 0, none⟩) n n) xs :=
  .inr ⟨⟨A, 0, none⟩, n, by rw [hl], by rw [hl]; exact Nat.le_refl _, h.lt, fun i hi => by rw [add_zero_row, hx i (by omega)]; exact h.cell (by omega)⟩
theorem IntTab.made {w : World} {g n base : Nat} (h : w.ownsRow base 3 1 (.slice (some ⟨g, 0, none⟩) n n) n (madeCells (Value.int .i64 0).cells (n * 1)).toList) : IntTab w g n (fun _ => 0) := by
  rcases h.2 with ⟨h, _⟩ | ⟨g', cap', cur, he, hb, hg, hle, hm, hsz, ht⟩
  · cases h
  · cases he
    have hcells : (Value.int .i64 0).cells = #[.int .i64 0] := rfl
    rw [hcells, toList_madeCells_one, Nat.mul_one] at ht
    refine ⟨cur, hg, by omega, fun i hi => ?_⟩
    have e : (List.replicate n (Value.int .i64 0))[i]? = some (.int .i64 0) := by rw [List.getElem?_replicate, if_pos hi]
    rw [← ht, List.getElem?_take, if_pos hi] at e
    simpa using e


theorem IntTab.congr {w : World} {A n : Nat} {f g : Nat → Int} (h : IntTab w A n f) (hg : ∀ i, i < n → g i = f i) : IntTab w A n g := by
  obtain ⟨c, h, hs, hc⟩ := h
  exact ⟨c, h, hs, fun i hi => by rw [hg i hi]; exact hc i hi⟩

theorem IntTab.ints {w : World} {A n : Nat} {f : Nat → Int} (h : IntTab w A n f) (hn : n ≤ 1000) : Ints w (.slice (some ⟨A, 0, none⟩) n n) ((List.range n).map f) := by
  obtain ⟨cur, hb, hs, hc⟩ := h
  unfold Ints
  rw [List.length_map, List.length_range]
  refine ⟨by simp, .inr ⟨A, n, cur, rfl, Nat.zero_le _, hb, Nat.le_refl _, by unfold maxLen; omega, by omega, ?_⟩⟩
  apply List.ext_getElem?
  intro i
  rw [List.getElem?_take]
  by_cases hi : i < n
  · rw [if_pos (by omega), Array.getElem?_toList, hc i hi]
    simp [hi]
  · rw [if_neg (by omega)]
    symm
    simp
    omega

set_option maxRecDepth 100000 in
set_option maxHeartbeats 1000000 in
theorem Index_int (x : Int) (v : Value) (xs : List Int) (w : World) (hv : See w v xs) (hl : xs.length ≤ 1000000) :
    Calls Tryd.prog 30 #[v, .int .i64 x] w fun e w' => ∃ r : Int, e = .returned (.int .i64 r) ∧ decide (0 ≤ r) = decide (x ∈ xs) ∧ Chg [] w w' := by
  obtain ⟨ao, cap, rfl⟩ := hv.shape
  have HV := hide hv
  clear hv
  generalize hn : xs.length = n at *
  have HN := hide hn
  clear hn
  go_enter Tryd.func30, Tryd.ntmps30
  go_wp2
  go_loopw [8] (fun i wr => ∃ j : Nat, j ≤ n ∧ i = .int .i64 (j : Int) ∧ Hid ((∀ q, q < j → x ≠ xs.getD q 0) ∧ Chg [] w wr)) (fun i _ => (n - (intOf i).toNat))
  case atStart => exact ⟨0, Nat.zero_le _, rfl, hide ⟨fun q h => by omega, Chg.refl _ _⟩⟩
  case round =>
    obtain ⟨j, hj, rfl, hI⟩ := hrel
    by_cases hlt : j < n
    · have d1 : decide ((j : Int) < (n : Int)) = true := by simpa using hlt
      have nx : xs ≠ [] := fun h => by have := HN.out; rw [h] at this; simp at this; omega
      have j0 : (0 : Int) ≤ (j : Int) := by omega
      obtain ⟨a, cap', e, hc⟩ := HV.out.open nx
      cases e
      have fx := hc wr hI.out.2 j (by rw [HN.out]; exact hlt)
      obtain ⟨y, hxe⟩ : ∃ y, y = xs.getD j 0 := ⟨_, rfl⟩
      rw [← hxe] at fx
      have HXE := hide hxe
      have HMem : Hid (y ∈ xs) := hide (by rw [hxe]; exact getD_mem (by rw [HN.out]; exact hlt))
      clear nx hc hxe
      by_cases hp : x = y
      · have d2 : (x == y) = true := by simpa using hp
        have HP := hide hp
        clear hp
        go_wp2
        go_ret
        refine ⟨_, rfl, ?_, hI.out.2⟩
        rw [HP.out]
        exact ⟨fun _ => HMem.out, fun _ => Int.natCast_nonneg j⟩
      · have d2 : (x == y) = false := by simpa using hp
        have HP := hide hp
        clear hp
        go_wp2
        go_roundw
        case rel => exact ⟨j + 1, by omega, by go_num, hide ⟨fun q hq => by
          rcases (show q < j ∨ q = j by omega) with h | rfl
          · exact hI.out.1 q h
          · rw [← HXE.out]; exact HP.out, hI.out.2⟩⟩
        case measure => simp [intOf]; omega
    · have d1 : decide ((j : Int) < (n : Int)) = false := by simpa using hlt
      go_wp2
      go_ret
      refine ⟨_, rfl, ?_, hI.out.2⟩
      have : ¬ x ∈ xs := by
        intro hx
        obtain ⟨q, hq, he⟩ := List.getElem_of_mem hx
        have := hI.out.1 q (by rw [HN.out] at hq; omega)
        rw [List.getD_eq_getElem?_getD, List.getElem?_eq_getElem hq] at this
        exact this he.symm
      rw [decide_eq_false this]
      decide
set_option maxRecDepth 100000 in
set_option maxHeartbeats 1000000 in
theorem Contains_int (x : Int) (v : Value) (xs : List Int) (w : World) (hv : See w v xs) (hl : xs.length ≤ 1000000) :
    Calls Tryd.prog 10 #[v, .int .i64 x] w (Ret (.bool (decide (x ∈ xs))) w) := by
  have HI := hide (Index_int x v xs w hv hl)
  obtain ⟨ao, cap, rfl⟩ := hv.shape
  clear hv
  generalize decide (x ∈ xs) = R at *
  generalize xs.length = n at *
  go_enter Tryd.func10, Tryd.ntmps10
  go_wp2_with fail
  refine HI.out.mono ?_
  rintro e w1 ⟨r, rfl, hr, hw⟩
  have d1 : decide (r ≥ 0) = R := hr
  clear hr
  cases R with
  | true =>
    go_wp2
    go_ret
    exact ⟨rfl, hw⟩
  | false =>
    go_wp2
    go_ret
    exact ⟨rfl, hw⟩

theorem see_zero (w : World) : See (w.alloc (.cells #[.int .i64 0] 3)) (.slice (some ⟨w.heap.size, 0, none⟩) 1 1) [0] := by
  refine .inr ⟨⟨w.heap.size, 0, none⟩, 1, rfl, Nat.le_refl _, by simp, fun i hi => ?_⟩
  rw [add_zero_row]
  refine ((Box.new w #[.int .i64 0] 3).cell i).trans ?_
  obtain rfl : i = 0 := by simpa using hi
  rfl
theorem askV_zero : askV 2 [0] = .tuple #[.int .i64 2, .int .i64 0] := by
  unfold askV
  rw [if_pos (by decide +kernel)]
  have e : askN 2 [0] = 2 := by
    have h : (fun s => (Fam.setOf [0]).testBit s) = fun s => decide (s = 0) := by
      funext s
      rw [Fam.setOf_test]
      simp
      exact ⟨fun h => h.symm, fun h => h.symm⟩
    unfold askN
    rw [h]
    exact need_two
  rw [e]
  rfl
set_option maxRecDepth 100000 in
set_option maxHeartbeats 1000000 in
theorem evades_any (w : World) (hT : Tz w) : Calls Tryd.prog 9 #[] w (Ret (.bool true) w) := by
  have HA := hide fun ws (hw : Chg [] w ws) v (hv : See ws v [0]) => Ask_any 2 v [0] ws hv (hT.keep hw)
  rw [askV_zero] at HA
  clear hT
  go_enter Tryd.func9, Tryd.ntmps9
  go_wp2_with fail
  refine (HA.out _ ((Chg.refl [] w).alloc _) _ (see_zero w)).mono ?_
  rintro e w1 ⟨rfl, hw⟩
  have HW : Hid (Chg [] w w1) := hide (((Chg.refl [] w).alloc _).trans hw)
  clear hw
  go_wp2
  go_ret
  exact ⟨rfl, HW.out⟩
end Go.Proofs.YtpplihpfjniacaaDoor
