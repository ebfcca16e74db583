/- Walk: the fewest weights, the program's. -/
import Derived.Test.YtohdjlgghkcaoaaWt8
namespace Go.Proofs.Ytohdjlgghkcaoaa
open Go.RowKit Go.Maps

theorem wgrow_all (w1 W0 : World) (Bw Bn Bg n size : Nat) (hB : Bw < W0.heap.size ∧ Bn < W0.heap.size ∧ Bg < W0.heap.size) (n1 : Bw ≠ Bn) (n2 : Bw ≠ Bg) (hw1 : w1.heap.size ≤ Bw) (hW01 : w1.heap.size ≤ W0.heap.size) (hk1 : 1 ≤ size) (hk4 : size ≤ 4) : ∀ m, WGrowOk w1 W0 Bw Bn Bg n size m
  | 0 => wgrow_end w1 W0 Bw Bn Bg n size hk1 hk4
  | m + 1 => wgrow_more w1 W0 Bw Bn Bg n size m hB n1 n2 hw1 hW01 hk4 (wgrow_all w1 W0 Bw Bn Bg n size hB n1 n2 hw1 hW01 hk1 hk4 m)
theorem sizeW_pos (n : Nat) : 1 ≤ W.sizeW n ∧ W.sizeW n ≤ 4 := by unfold W.sizeW; split <;> (try split) <;> (try split) <;> omega

set_option maxRecDepth 100000 in
set_option maxHeartbeats 1000000 in
theorem Weights_no (n : Int) (w : World) (h : n < 1 ∨ 40 < n) : Calls Try.prog 36 #[.int .i64 n] w (Ret (.tuple #[.slice none 0 0, .int .i64 2]) w) := by
  by_cases h1 : n < 1
  · have d1 : decide (n < 1) = true := by simpa using h1
    clear h
    go_enter Try.func36, Try.ntmps36
    go_wp2
    go_ret2
    exact ⟨rfl, (Chg.refl _ _).alloc _⟩
  · have d1 : decide (n < 1) = false := by simpa using h1
    have d2 : decide (40 < n) = true := by simp; omega
    clear h
    go_enter Try.func36, Try.ntmps36
    go_wp2
    go_ret2
    exact ⟨rfl, (Chg.refl _ _).alloc _⟩

set_option maxRecDepth 100000 in
set_option maxHeartbeats 2000000 in
theorem Weights_yes (n : Nat) (h1 : 1 ≤ n) (h40 : n ≤ 40) (w : World) : Calls Try.prog 36 #[.int .i64 (n : Int)] w fun e w' => ∃ a len cap, e = .returned (.tuple #[.slice (some a) len cap, .int .i64 0]) ∧ See w' (.slice (some a) len cap) (W.fewW n) ∧ Chg [] w w' := by
  have d1 : decide ((n : Int) < 1) = false := by simp; omega
  have d2 : decide ((40 : Int) < (n : Int)) = false := by simp; omega
  have HS : Hid (W.sizeW n = if n ≤ 1 then 1 else if n ≤ 4 then 2 else if n ≤ 13 then 3 else 4) := hide rfl
  have HSom := hide (W.growW_some h40)
  have HLen := hide (W.fewW_len h40).1
  obtain ⟨hsp1, hsp4⟩ := sizeW_pos n
  obtain ⟨K, hK⟩ : ∃ K, K = W.sizeW n := ⟨_, rfl⟩
  rw [← hK] at HS HSom HLen hsp1 hsp4
  clear hK
  go_enter Try.func36, Try.ntmps36
  go_wp2_with fail
  have hc0 : Chg [] w (((w.alloc (.cells #[.int .i64 (n : Int)] 3)).alloc (.cells #[.slice none 0 0] 51)).alloc (.cells #[.func (.func 60) #[] #[.pointer (some ⟨w.heap.size + 1, 0, none⟩), .pointer (some ⟨w.heap.size, 0, none⟩), .pointer (some ⟨w.heap.size + 1 + 1, 0, none⟩)]] 73)) := (((Chg.refl [] w).alloc _).alloc _).alloc _
  have q1 : Box (((w.alloc (.cells #[.int .i64 (n : Int)] 3)).alloc (.cells #[.slice none 0 0] 51)).alloc (.cells #[.func (.func 60) #[] #[.pointer (some ⟨w.heap.size + 1, 0, none⟩), .pointer (some ⟨w.heap.size, 0, none⟩), .pointer (some ⟨w.heap.size + 1 + 1, 0, none⟩)]] 73)) (w.heap.size + 1) #[.slice none 0 0] 51 := (Box.at (w.alloc (.cells #[.int .i64 (n : Int)] 3)) #[.slice none 0 0] 51 (by simp)).old _
  have q2 : Box (((w.alloc (.cells #[.int .i64 (n : Int)] 3)).alloc (.cells #[.slice none 0 0] 51)).alloc (.cells #[.func (.func 60) #[] #[.pointer (some ⟨w.heap.size + 1, 0, none⟩), .pointer (some ⟨w.heap.size, 0, none⟩), .pointer (some ⟨w.heap.size + 1 + 1, 0, none⟩)]] 73)) w.heap.size #[.int .i64 (n : Int)] 3 := ((Box.new w #[.int .i64 (n : Int)] 3).old _).old _
  have q3 : Box (((w.alloc (.cells #[.int .i64 (n : Int)] 3)).alloc (.cells #[.slice none 0 0] 51)).alloc (.cells #[.func (.func 60) #[] #[.pointer (some ⟨w.heap.size + 1, 0, none⟩), .pointer (some ⟨w.heap.size, 0, none⟩), .pointer (some ⟨w.heap.size + 1 + 1, 0, none⟩)]] 73)) (w.heap.size + 1 + 1) #[.func (.func 60) #[] #[.pointer (some ⟨w.heap.size + 1, 0, none⟩), .pointer (some ⟨w.heap.size, 0, none⟩), .pointer (some ⟨w.heap.size + 1 + 1, 0, none⟩)]] 73 := Box.at ((w.alloc (.cells #[.int .i64 (n : Int)] 3)).alloc (.cells #[.slice none 0 0] 51)) #[.func (.func 60) #[] #[.pointer (some ⟨w.heap.size + 1, 0, none⟩), .pointer (some ⟨w.heap.size, 0, none⟩), .pointer (some ⟨w.heap.size + 1 + 1, 0, none⟩)]] 73 (by simp)
  have HC0 := hide hc0
  have B1 := hide q1
  have B3 := hide q3
  have B2 := hide q2
  have c2 := q2.cell 0
  have l1 := q1.lt
  have l2 := q2.lt
  have l3 := q3.lt
  simp only [List.getElem?_toArray, List.getElem?_cons_zero] at c2
  clear hc0 q1 q2 q3
  have hBs : Hid (w.heap.size ≤ w.heap.size) := hide (Nat.le_refl _)
  generalize (((w.alloc (.cells #[.int .i64 (n : Int)] 3)).alloc (.cells #[.slice none 0 0] 51)).alloc (.cells #[.func (.func 60) #[] #[.pointer (some ⟨w.heap.size + 1, 0, none⟩), .pointer (some ⟨w.heap.size, 0, none⟩), .pointer (some ⟨w.heap.size + 1 + 1, 0, none⟩)]] 73)) = W0 at HC0 B1 B2 B3 c2 l1 l2 l3 ⊢
  obtain ⟨Bn, hBn⟩ : ∃ Bn, Bn = w.heap.size := ⟨_, rfl⟩
  rw [← hBn] at B1 B2 B3 c2 l1 l2 l3 ⊢
  have HBn := hide hBn
  clear hBn hBs
  have HGrow : Hid (∀ m, WGrowOk w W0 (Bn + 1) Bn (Bn + 1 + 1) n K m) := hide (wgrow_all w W0 (Bn + 1) Bn (Bn + 1 + 1) n K ⟨l1, l2, l3⟩ (by omega) (by omega) (by have := HBn.out; omega) HC0.out.size hsp1 hsp4)
  go_loop [6, 7] (fun sv rv => ∃ s r : Nat, sv = .int .i64 (s : Int) ∧ rv = .int .i64 (r : Int) ∧ Hid (s ≤ K ∧ ((s = 1 ∧ r = 1) ∨ (s = 2 ∧ r = 4) ∨ (s = 3 ∧ r = 13) ∨ (s = 4 ∧ r = 40)))) (fun sv _ => 5 - (intOf sv).toNat)
  case atStart => exact ⟨1, 1, rfl, rfl, hide ⟨hsp1, .inl ⟨rfl, rfl⟩⟩⟩
  case round =>
    obtain ⟨s, r, rfl, rfl, hI⟩ := hrel
    by_cases hlt : r < n
    · have dd : decide ((r : Int) < (n : Int)) = true := by simpa using hlt
      have HNx : Hid (s + 1 ≤ K ∧ ((s + 1 = 1 ∧ 3 * r + 1 = 1) ∨ (s + 1 = 2 ∧ 3 * r + 1 = 4) ∨ (s + 1 = 3 ∧ 3 * r + 1 = 13) ∨ (s + 1 = 4 ∧ 3 * r + 1 = 40))) := hide (by
        have h2 := hI.out
        have e := HS.out
        by_cases a1 : n ≤ 1
        · omega
        · rw [if_neg a1] at e
          by_cases a2 : n ≤ 4
          · rw [if_pos a2] at e; omega
          · rw [if_neg a2] at e
            by_cases a3 : n ≤ 13
            · rw [if_pos a3] at e; omega
            · rw [if_neg a3] at e; omega)
      have hr40 : r ≤ 40 := by have := hI.out; omega
      have hs4 : s ≤ 4 := by have := hI.out; omega
      go_wp2
      go_round
      case rel => exact ⟨s + 1, 3 * r + 1, by go_num, by go_num, HNx⟩
      case measure => simp [intOf]; omega
    · have dd : decide ((r : Int) < (n : Int)) = false := by simpa using hlt
      have hsK : s = K := by
        have h2 := hI.out
        have e := HS.out
        by_cases a1 : n ≤ 1
        · rw [if_pos a1] at e; omega
        · rw [if_neg a1] at e
          by_cases a2 : n ≤ 4
          · rw [if_pos a2] at e; omega
          · rw [if_neg a2] at e
            by_cases a3 : n ≤ 13
            · rw [if_pos a3] at e; omega
            · rw [if_neg a3] at e; omega
      subst hsK
      have c3 := B3.out.cell 0
      simp only [List.getElem?_toArray, List.getElem?_cons_zero] at c3
      have hst : WtSt w W0 (Bn + 1) Bn (Bn + 1 + 1) n W0 (.slice none 0 0) [] := ⟨B1.out, B2.out, B3.out, World.ownsRow_nil _ _ _ _, HC0.out, Nat.le_refl _⟩
      have HCall := hide (HGrow.out s [] (.slice none 0 0) W0 (by simp) (fun i hi => by cases hi) hst)
      rw [W.total_nil] at HCall
      clear hst
      go_wp2
      refine wp_loop_rounds 1 ?_
      rw [rounds_succ]
      go_wp2_with fail
      refine HCall.out.mono ?_
      rintro e w3 ⟨v3, ⟨rfl, q, hq, st3⟩ | ⟨rfl, hno, st3⟩⟩
      · rw [HSom.out] at hq
        cases hq
        obtain ⟨b1, b2, b3, hro, hch, _⟩ := st3
        obtain ⟨g, cap, rfl⟩ : ∃ g cap, v3 = .slice (some ⟨g, 0, none⟩) (W.fewW n).length cap := by
          rcases hro.2 with ⟨_, h0⟩ | ⟨g, cap, _, e, _⟩
          · have := HLen.out; omega
          · exact ⟨g, cap, e⟩
        have hsee : See w3 (.slice (some ⟨g, 0, none⟩) (W.fewW n).length cap) (W.fewW n) := Ints.toSee (row_low hro (Nat.zero_le _))
        have c5 := b1.cell 0
        have l5 := b1.lt
        simp at c5
        have HSe := hide hsee
        have HCh := hide hch
        clear b1 b2 b3 hro hch hsee
        go_wp2
        go_ret2
        exact ⟨_, _, _, rfl, HSe.out, HCh.out⟩
      · rw [HSom.out] at hno
        cases hno
end Go.Proofs.Ytohdjlgghkcaoaa
