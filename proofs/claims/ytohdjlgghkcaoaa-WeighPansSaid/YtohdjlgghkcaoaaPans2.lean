/- Walk: the program's digits. -/
import Derived.Test.YtohdjlgghkcaoaaPans1
namespace Go.Proofs.Ytohdjlgghkcaoaa
open Go.RowKit

set_option maxRecDepth 100000 in
set_option maxHeartbeats 1000000 in
theorem Pans_any (n : Int) (w : World) (h0 : -1000 ≤ n) (h1 : n ≤ 1000) :
    Calls Try.prog 31 #[.int .i64 n] w fun e w' => ∃ v, e = .returned (.tuple #[v, .int .i64 0]) ∧ Ints w' v (W.digs 7 n) ∧ Chg [] w w' := by
  obtain ⟨i0, hi, hz0, hz1, hz2⟩ := info_parts infoInt
  have d1 : decide (n < -1000) = false := by simpa using h0
  have d2 : decide (1000 < n) = false := by simpa using h1
  go_enter Try.func31, Try.ntmps31
  go_wp2
  go_loopw [0, 4] (fun m v wr => ∃ (f : Nat) (c : Int) (pre : List Int), m = .int .i64 c ∧ f ≤ 7 ∧ c ≤ W.qf f ∧ -W.qf f ≤ c ∧ Hid (W.digs 7 n = pre ++ W.digs f c ∧ pre.length ≤ 7 - f ∧ wr.ownsRow w.heap.size 3 1 v pre.length (pre.map (Value.int .i64)) ∧ Chg [] w wr)) (fun m _ _ => (intOf m).natAbs)
  case atStart => exact ⟨7, n, [], rfl, Nat.le_refl _, by rw [W.qf7]; omega, by rw [W.qf7]; omega, hide ⟨rfl, Nat.zero_le _, World.ownsRow_made w #[] 0 (Nat.le_refl _) (Nat.zero_le _) rfl, (Chg.refl _ _).alloc _⟩⟩
  case round =>
    obtain ⟨f, c, pre, rfl, hf, hc1, hc2, hI⟩ := hrel
    have hq := W.qf_le hf
    by_cases hc : c = 0
    · subst hc
      go_wp2
      go_ret2
      refine ⟨_, rfl, ?_, hI.out.2.2.2⟩
      have h := hI.out.1
      rw [W.digs_zero, List.append_nil] at h
      rw [h]
      exact row_low hI.out.2.2.1 (Nat.zero_le _)
    · have d0 : (c == 0) = false := by simpa using hc
      obtain ⟨g, rfl, hd, hb1, hb2⟩ := W.digs_cons hc1 hc2 hc
      obtain ⟨q, e1, e2, e3, e4⟩ := W.bal_spec c
      have t3 := W.tm3_le c
      have HD := hide (And.intro hd (And.intro hb1 (And.intro hb2 (And.intro e1 e2))))
      have hw : -1093 ≤ W.bnx c ∧ W.bnx c ≤ 1093 := by have := W.qf_le (show g ≤ 7 by omega); omega
      clear hd hb1 hb2 e1 e2 hc
      have hlen := hI.out.2.1
      have hown := hI.out.2.2.1
      have hch := hI.out.2.2.2.size
      by_cases h2 : (c.tmod 3 + 3).tmod 3 = 2
      · have hb : W.bal c = -1 := by unfold W.bal; rw [if_pos h2]
        have t2 : (c - (-1)).tdiv 3 = W.bnx c := by unfold W.bnx; rw [hb]
        have t4 : (c + 1).tdiv 3 = W.bnx c := by rw [← t2]; congr 1
        have HB := hide hb
        clear hb e3 e4
        go_wp2_with (at_builtin; refine wpList_append_own _ rfl _ _ 51 rfl w.heap.size 3 i0 (.int .i64 0) 1 8 Try.underlying51 hi hz0 hz1 hz2 rfl (by decide) _ _ _ rfl (hown.alloc _) ⟨wr.heap.size, 0, none⟩ 1 1 [.int .i64 (-1)] rfl rfl (by intro j u hj; match j, hj with | 0, hj => simp at hj; subst hj; simp [Addr.add]) (by intro u hu; simp at hu; subst hu; rfl) (by unfold maxLen; omega) (by omega) (by simp; omega) ?_; intro v1 w1 hown1 hgrow1 _)
        go_roundw
        case rel =>
          obtain ⟨hd, hb1, hb2, e1, e2⟩ := HD.out
          refine ⟨g, W.bnx c, pre ++ [W.bal c], rfl, by omega, hb1, hb2, hide ⟨?_, by simp; omega, ?_, (hI.out.2.2.2.alloc _).grew (hown.alloc _) (Nat.le_refl _) hgrow1⟩⟩
          · rw [hI.out.1, hd, List.append_assoc]; rfl
          · rw [HB.out]; simpa using hown1
        case measure =>
          obtain ⟨hd, hb1, hb2, e1, e2⟩ := HD.out
          have hc : c ≠ 0 := by simpa using d0
          have := HB.out
          simp [intOf]; omega
      · have hb : (c.tmod 3 + 3).tmod 3 = W.bal c := by unfold W.bal; rw [if_neg h2]
        have t2 : (c - W.bal c).tdiv 3 = W.bnx c := rfl
        have d2 : (W.bal c == 2) = false := by simp; omega
        clear h2
        go_wp2_with (at_builtin; refine wpList_append_own _ rfl _ _ 51 rfl w.heap.size 3 i0 (.int .i64 0) 1 8 Try.underlying51 hi hz0 hz1 hz2 rfl (by decide) _ _ _ rfl (hown.alloc _) ⟨wr.heap.size, 0, none⟩ 1 1 [.int .i64 (W.bal c)] rfl rfl (by intro j u hj; match j, hj with | 0, hj => simp at hj; subst hj; simp [Addr.add]) (by intro u hu; simp at hu; subst hu; rfl) (by unfold maxLen; omega) (by omega) (by simp; omega) ?_; intro v1 w1 hown1 hgrow1 _)
        go_roundw
        case rel =>
          obtain ⟨hd, hb1, hb2, e1, e2⟩ := HD.out
          refine ⟨g, W.bnx c, pre ++ [W.bal c], rfl, by omega, hb1, hb2, hide ⟨?_, by simp; omega, ?_, (hI.out.2.2.2.alloc _).grew (hown.alloc _) (Nat.le_refl _) hgrow1⟩⟩
          · rw [hI.out.1, hd, List.append_assoc]; rfl
          · simpa using hown1
        case measure =>
          obtain ⟨hd, hb1, hb2, e1, e2⟩ := HD.out
          have hc : c ≠ 0 := by simpa using d0
          simp [intOf]; omega
theorem Pans_no (n : Int) (w : World) (h : n < -1000 ∨ 1000 < n) :
    Calls Try.prog 31 #[.int .i64 n] w (Ret (.tuple #[.slice none 0 0, .int .i64 2]) w) := by
  by_cases h1 : n < -1000
  · have d1 : decide (n < -1000) = true := by simpa using h1
    clear h
    go_enter Try.func31, Try.ntmps31
    go_wp2
    go_ret2
    exact ⟨rfl, Chg.refl _ _⟩
  · have d1 : decide (n < -1000) = false := by simpa using h1
    have d2 : decide (1000 < n) = true := by simp; omega
    clear h
    go_enter Try.func31, Try.ntmps31
    go_wp2
    go_ret2
    exact ⟨rfl, Chg.refl _ _⟩
end Go.Proofs.Ytohdjlgghkcaoaa
