/- Walk: whether so many weighings are enough, the reference's search. -/
import Derived.Test.YtohdjlgghkcaoaaNd3
namespace Go.Proofs.Ytohdjlgghkcaoaa
open Go.RowKit

/-- In the midst of the search. -/
def SearchAt (W1 wr : World) (A : Nat) (t1 : Nat → Nat) (m : Nat) : Prop := Chg [A] W1 wr ∧ ∃ t', Tab wr A t' ∧ W.MetOK t' (m + 1) ∧ ∀ i, (m + 1) * 76832 ≤ i → t' i = t1 i
theorem search_end {w W1 wr : World} {A : Nat} {t : Nat → Nat} {m : Nat} {k : W.K} (hk : okK k) (hM : W.MetOK t (m + 1 + 1)) (hC : Chg [A] w W1) (h : SearchAt W1 wr A (W.up t (W.place k (m + 1)) 2) m) (hw : W.wins (m + 1) k = false) :
    TabOk w wr A t (m + 1) := by
  obtain ⟨hc, t', hT, hM', hs⟩ := h
  refine ⟨hC.trans hc, t', hT, ?_, fun i hi => ?_⟩
  · refine hM.join hk.sm hM' (fun i hi hne => ?_) (.inr (.inr ⟨?_, hw⟩))
    · rw [hs i hi]; unfold W.up; rw [if_neg hne]
    · rw [hs _ (W.place_ge k (m + 1))]; unfold W.up; rw [if_pos rfl]
  · have := W.place_lt (n := m + 1) hk.sm
    have hne : i ≠ W.place k (m + 1) := Nat.ne_of_gt (Nat.lt_of_lt_of_le this hi)
    have hi2 : (m + 1) * 76832 ≤ i := Nat.le_trans (Nat.mul_le_mul_right 76832 (Nat.le_succ (m + 1))) hi
    rw [hs i hi2]; unfold W.up; rw [if_neg hne]
theorem search_found {w W1 wr : World} {A : Nat} {t : Nat → Nat} {m : Nat} {k : W.K} (hk : okK k) (hM : W.MetOK t (m + 1 + 1)) (hC : Chg [A] w W1) (h : SearchAt W1 wr A (W.up t (W.place k (m + 1)) 2) m) (hw : W.wins (m + 1) k = true) :
    TabOk w (wr.setCell ⟨A, W.place k (m + 1), none⟩ (.int .u8 1)) A t (m + 1) := by
  obtain ⟨hc, t', hT, hM', hs⟩ := h
  refine ⟨(hC.trans hc).setCell (.inl (by simp)) _, _, hT.set (W.place k (m + 1)) 1, ?_, fun i hi => ?_⟩
  · refine hM.join hk.sm hM'.up (fun i hi hne => ?_) (.inr (.inl ⟨?_, hw⟩))
    · unfold W.up; rw [if_neg hne, hs i hi]; unfold W.up; rw [if_neg hne]
    · unfold W.up; rw [if_pos rfl]
  · have := W.place_lt (n := m + 1) hk.sm
    have hne : i ≠ W.place k (m + 1) := Nat.ne_of_gt (Nat.lt_of_lt_of_le this hi)
    have hi2 : (m + 1) * 76832 ≤ i := Nat.le_trans (Nat.mul_le_mul_right 76832 (Nat.le_succ (m + 1))) hi
    unfold W.up
    rw [if_neg hne, hs i hi2]; unfold W.up; rw [if_neg hne]

theorem SearchAt.keep {W1 wr ws : World} {A : Nat} {t1 : Nat → Nat} {m : Nat} (h : SearchAt W1 wr A t1 m) (hc : Chg [] wr ws) : SearchAt W1 ws A t1 m := by
  obtain ⟨h1, t', hT, h2⟩ := h
  exact ⟨h1.trans hc.toAny, t', hT.keep hc (by simp), h2⟩
theorem RAfter_yes (k : W.K) (x : W.L) (r : Int) (w : World) (hk : okK k) (hf : W.fits k x = true) (r0 : -1 ≤ r) (r1 : r ≤ 1) (hp : 0 < (aftOf k x r).poss) :
    Calls Try.prog 24 #[.agg #[.int .i64 (k.b : Int), .int .i64 (k.h : Int), .int .i64 (k.l : Int), .int .i64 (k.g : Int), .bool k.n], .agg #[.int .i64 (x.b0 : Int), .int .i64 (x.b1 : Int), .int .i64 (x.h0 : Int), .int .i64 (x.h1 : Int), .int .i64 (x.l0 : Int), .int .i64 (x.l1 : Int), .int .i64 (x.g0 : Int), .int .i64 (x.g1 : Int)], .int .i64 r] w
      (Ret (.tuple #[.agg #[.int .i64 ((aftOf k x r).b : Int), .int .i64 ((aftOf k x r).h : Int), .int .i64 ((aftOf k x r).l : Int), .int .i64 ((aftOf k x r).g : Int), .bool (aftOf k x r).n], .int .i64 0]) w) := by
  have h := RAfter_K k x r w hk hf r0 r1
  rw [if_pos hp] at h
  exact h
theorem RAfter_no (k : W.K) (x : W.L) (r : Int) (w : World) (hk : okK k) (hf : W.fits k x = true) (r0 : -1 ≤ r) (r1 : r ≤ 1) (hp : ¬ 0 < (aftOf k x r).poss) :
    Calls Try.prog 24 #[.agg #[.int .i64 (k.b : Int), .int .i64 (k.h : Int), .int .i64 (k.l : Int), .int .i64 (k.g : Int), .bool k.n], .agg #[.int .i64 (x.b0 : Int), .int .i64 (x.b1 : Int), .int .i64 (x.h0 : Int), .int .i64 (x.h1 : Int), .int .i64 (x.l0 : Int), .int .i64 (x.l1 : Int), .int .i64 (x.g0 : Int), .int .i64 (x.g1 : Int)], .int .i64 r] w (Ret (.tuple #[.agg #[.int .i64 0, .int .i64 0, .int .i64 0, .int .i64 0, .bool false], .int .i64 4]) w) := by
  have h := RAfter_K k x r w hk hf r0 r1
  rw [if_neg hp] at h
  exact h

set_option maxRecDepth 100000 in
set_option maxHeartbeats 4000000 in
theorem enough_new (m : Nat) (hm : m + 1 ≤ 6) (hW : EnoughOk m) (k : W.K) (A : Nat) (t : Nat → Nat) (w : World) (hk : okK k) (hT : Tab w A t) (hM : W.MetOK t (m + 1 + 1)) (h1 : k.poss ≠ 1) (h0 : t (W.place k (m + 1)) = 0) :
    Calls Try.prog 57 #[.agg #[.int .i64 (k.b : Int), .int .i64 (k.h : Int), .int .i64 (k.l : Int), .int .i64 (k.g : Int), .bool k.n], .int .i64 ((m : Int) + 1), .slice (some ⟨A, 0, none⟩) 537824 537824] w
    fun e w' => e = .returned (.bool (W.wins (m + 1) k)) ∧ TabOk w w' A t (m + 1) := by
  have HP := hide fun w1 => rposs_K k hk w1
  have HPl := hide fun w1 => place_K k m hk hm w1
  have d1 : ((k.poss : Int) == 1) = false := by simp; omega
  have d2 : ((m : Int) + 1 == 0) = false := by simp; omega
  have hpl := W.place_lt (n := m + 1) hk.sm
  have hpl' : W.place k (m + 1) < 537824 := by omega
  have lA := hT.lt
  have HT := hide hT
  have HM := hide hM
  have HK := hide hk
  have H1 := hide h1
  obtain ⟨Z, hZ⟩ : ∃ Z : Nat, Z = 537824 := ⟨_, rfl⟩
  have hW' : ∀ (k : W.K) (A : Nat) (t : Nat → Nat) (w : World), okK k → Tab w A t → W.MetOK t (m + 1) →
      Calls Try.prog 57 #[.agg #[.int .i64 (k.b : Int), .int .i64 (k.h : Int), .int .i64 (k.l : Int), .int .i64 (k.g : Int), .bool k.n], .int .i64 (m : Int), .slice (some ⟨A, 0, none⟩) Z Z] w
        fun e w' => e = .returned (.bool (W.wins m k)) ∧ TabOk w w' A t m := by rw [hZ]; exact hW
  have HW := hide hW'
  rw [← hZ]
  have H0 := hide h0
  obtain ⟨p, hp⟩ : ∃ p, p = W.place k (m + 1) := ⟨_, rfl⟩
  rw [← hp] at HPl hpl' H0
  have HPP := hide hp
  have hp1 : (p : Int) < (Z : Int) := by omega
  have HPL := hide hpl'
  clear h1 hT hM hk hpl hW hW' h0 hp hZ hpl'
  go_enter Try.func57, Try.ntmps57
  go_wp2_with fail
  refine (HP.out _).mono ?_
  rintro e w1 ⟨rfl, hw1⟩
  have bk := (Box.new w #[.int .i64 (k.b : Int), .int .i64 (k.h : Int), .int .i64 (k.l : Int), .int .i64 (k.g : Int), .bool k.n] 30).keep hw1 (by simp)
  have C1 : Hid (Chg [] w w1) := hide (((Chg.refl _ _).alloc _).trans hw1)
  have f := fun o => bk.cell o
  have lk := bk.lt
  go_wp2_with fail
  refine (HPl.out _).mono ?_
  rintro e w2 ⟨rfl, hw2⟩
  have C2 : Hid (Chg [] w w2) := hide (C1.out.trans hw2)
  have BK : Hid (Box w2 w.heap.size #[.int .i64 (k.b : Int), .int .i64 (k.h : Int), .int .i64 (k.l : Int), .int .i64 (k.g : Int), .bool k.n] 30) := hide (bk.keep hw2 (by simp))
  have T2 : Hid (Tab w2 A t) := hide (HT.out.keep C2.out (by simp))
  have hc2 := T2.out.cell HPL.out
  rw [H0.out] at hc2
  have hf2 := T2.out.free p
  simp at hc2
  have nA : w.heap.size ≠ A := by omega
  clear f bk hw1 hw2 lk lA
  generalize w.heap.size = A0 at BK nA ⊢
  go_wp2
  go_loop [8, 34] (fun r i => ∃ j : Nat, j ≤ m + 1 ∧ i = .int .i64 (j : Int) ∧ r = .int .i64 (pw j : Int)) (fun _ i => m + 1 - (intOf i).toNat)
  case atStart => exact ⟨0, Nat.zero_le _, rfl, rfl⟩
  case round =>
    obtain ⟨j, hj, rfl, rfl⟩ := hrel
    have hp6 : pw j ≤ 729 := pow6 (by omega)
    by_cases hlt : j < m + 1
    · have dl : decide ((j : Int) < (m : Int) + 1) = true := by simp; omega
      go_wp2
      go_round
      case rel => exact ⟨j + 1, by omega, by go_num, by rw [pw_succ]; go_num⟩
      case measure => simp [intOf]; omega
    · obtain rfl : j = m + 1 := by omega
      have dl : decide (((m + 1 : Nat) : Int) < (m : Int) + 1) = false := by simp
      go_wp2_with (with_reducible refine halt_at 42 ?_)
      refine Halt.go ?_
      have C3 : Hid (Chg [A] w (w2.setCell ⟨A, p, none⟩ (.int .u8 2))) := hide (C2.out.toAny.setCell (.inl (by simp)) _)
      have B3 : Hid (Box (w2.setCell ⟨A, p, none⟩ (.int .u8 2)) A0 #[.int .i64 (k.b : Int), .int .i64 (k.h : Int), .int .i64 (k.l : Int), .int .i64 (k.g : Int), .bool k.n] 30) := hide (BK.out.set' nA _)
      have T3 : Hid (Tab (w2.setCell ⟨A, p, none⟩ (.int .u8 2)) A (W.up t p 2)) := hide (T2.out.set p 2)
      clear hc2 hf2 C2 BK T2 C1 HPL H0
      generalize w2.setCell ⟨A, p, none⟩ (.int .u8 2) = w3 at C3 B3 T3 ⊢
      have f := fun o => B3.out.cell o
      have lk := B3.out.lt
      go_wp2_with fail
      refine (HP.out _).mono ?_
      rintro e w4 ⟨rfl, hw4⟩
      have C4 : Hid (Chg [A] w w4) := hide (C3.out.trans hw4.toAny)
      have B4 := hide (B3.out.keep hw4 (by simp))
      have T4 := hide (T3.out.keep hw4 (by simp))
      have HS4 : Hid (SearchAt w4 w4 A (W.up t p 2) m) := hide ⟨Chg.refl _ _, _, T4.out, by rw [HPP.out]; exact (HM.out.low (Nat.le_succ _)).up, fun _ _ => rfl⟩
      clear f lk hw4 C3 B3 T3
      by_cases hbig : pw (m + 1) < k.poss
      · have d3 : decide ((pw (m + 1) : Int) < (k.poss : Int)) = true := by simpa using hbig
        have E : Hid (W.wins (m + 1) k = false) := hide (by
          rw [Bool.eq_false_iff]
          intro hw
          have := W.wins_le hw
          unfold pw at hbig; omega)
        go_wp2
        go_ret
        exact ⟨by rw [E.out]; rfl, search_end HK.out HM.out C4.out (by rw [← HPP.out]; exact HS4.out) E.out⟩
      · have d3 : decide ((pw (m + 1) : Int) < (k.poss : Int)) = false := by simpa using hbig
        have x0 := B4.out.cell 0
        have x1 := B4.out.cell 1
        have x2 := B4.out.cell 2
        have x3 := B4.out.cell 3
        have x4 := B4.out.cell 4
        simp at x0 x1 x2 x3 x4
        have lk := B4.out.lt
        have HBig := hide hbig
        clear hbig
        clear hp6 dl hlt hj
        go_wp2_with fail
        refine (Loads_any k HK.out _).mono ?_
        rintro e w5 ⟨v, rfl, hc5, hown⟩
        have C5 : Hid (Chg [A] w4 w5) := hide hc5.toAny
        have hsz : A < w4.heap.size := T4.out.lt
        have hoA : Hid (∀ wr, Chg [A] w5 wr → wr.ownsRow w4.heap.size 33 8 v (W.Q1 k).length (W.rowsL (W.Q1 k))) := hide fun wr hc => hc.row hown (fun g hg => by
          have := hown.lt g hg
          simp
          omega)
        have hlen : (W.Q1 k).length ≤ 100000000 := by
          have := W.len_fm (Q := W.Q2 k) (n := k.b + 1) (m := 14) (by have := HK.out.1; omega) (W.len_Q2 (k := k) HK.out.1)
          unfold W.Q1
          omega
        have HS5 : Hid (SearchAt w4 w5 A (W.up t p 2) m) := hide ⟨hc5.toAny, _, T4.out.keep hc5 (by simp), by rw [HPP.out]; exact (HM.out.low (Nat.le_succ _)).up, fun _ _ => rfl⟩
        obtain ⟨ao, cap, rfl, hcell⟩ : ∃ ao cap, v = .slice ao (W.Q1 k).length cap ∧ ((W.Q1 k) ≠ [] → ∃ g, ao = some ⟨g, 0, none⟩) := by
          rcases hown.2 with ⟨rfl, h⟩ | ⟨g, cap, cur, rfl, _⟩
          · exact ⟨none, 0, by rw [h], fun hn => absurd (List.length_eq_zero_iff.1 h) hn⟩
          · exact ⟨_, cap, rfl, fun _ => ⟨g, rfl⟩⟩
        have HC := hide hcell
        clear hc5 hown hcell x0 x1 x2 x3 x4 lk
        obtain ⟨N, hN⟩ : ∃ N, N = (W.Q1 k).length := ⟨_, rfl⟩
        rw [← hN] at hlen hoA ⊢
        have HN := hide hN
        clear hN
        go_wp2
        go_loopw [49] (fun i wr => ∃ j : Nat, j ≤ N ∧ i = .int .i64 (j : Int) ∧ Hid ((∀ j', j' < j → ∀ x, (W.Q1 k)[j']? = some x → W.good (W.wins m) k x = false) ∧ SearchAt w4 wr A (W.up t p 2) m ∧ Chg [A] w5 wr)) (fun i _ => N - (intOf i).toNat)
        case atStart => exact ⟨0, Nat.zero_le _, rfl, hide ⟨fun j' h => by omega, HS5.out, Chg.refl _ _⟩⟩
        case round =>
          obtain ⟨j, hj, rfl, hI⟩ := hrel
          by_cases hlt : j < N
          · have d4 : decide ((j : Int) < (N : Int)) = true := by simpa using hlt
            obtain ⟨x, hx⟩ : ∃ x, (W.Q1 k)[j]? = some x := ⟨_, List.getElem?_eq_getElem (by rw [← HN.out]; exact hlt)⟩
            have hfx : W.fits k x = true := W.mem_Q1.1 (List.mem_of_getElem? hx)
            obtain ⟨g, rfl⟩ := HC.out (fun h => by rw [h] at hx; simp at hx)
            have hcl : ∀ q u, q < 8 → (W.cellsL x)[q]? = some u → wr.cell? ⟨g, 8 * j + q, none⟩ = some u := fun q u hq hu => by
              have := (hoA.out wr hI.out.2.2).cells (g := g) rfl (8 * j + q) u (by rw [W.rowsL_at _ _ _ _ hx hq]; exact hu)
              rwa [add_zero_row] at this
            have HX := hide hx
            have HF := hide hfx
            have z0 : wr.cell? ⟨g, j * 8, none⟩ = some (.int .i64 (x.b0 : Int)) := by rw [Nat.mul_comm]; exact hcl 0 _ (by decide) rfl
            have z1 : wr.cell? ⟨g, j * 8 + 1, none⟩ = some (.int .i64 (x.b1 : Int)) := by rw [Nat.mul_comm]; exact hcl 1 _ (by decide) rfl
            have z2 : wr.cell? ⟨g, j * 8 + 2, none⟩ = some (.int .i64 (x.h0 : Int)) := by rw [Nat.mul_comm]; exact hcl 2 _ (by decide) rfl
            have z3 : wr.cell? ⟨g, j * 8 + 3, none⟩ = some (.int .i64 (x.h1 : Int)) := by rw [Nat.mul_comm]; exact hcl 3 _ (by decide) rfl
            have z4 : wr.cell? ⟨g, j * 8 + 4, none⟩ = some (.int .i64 (x.l0 : Int)) := by rw [Nat.mul_comm]; exact hcl 4 _ (by decide) rfl
            have z5 : wr.cell? ⟨g, j * 8 + 5, none⟩ = some (.int .i64 (x.l1 : Int)) := by rw [Nat.mul_comm]; exact hcl 5 _ (by decide) rfl
            have z6 : wr.cell? ⟨g, j * 8 + 6, none⟩ = some (.int .i64 (x.g0 : Int)) := by rw [Nat.mul_comm]; exact hcl 6 _ (by decide) rfl
            have z7 : wr.cell? ⟨g, j * 8 + 7, none⟩ = some (.int .i64 (x.g1 : Int)) := by rw [Nat.mul_comm]; exact hcl 7 _ (by decide) rfl
            clear hx hfx hcl
            go_wp2
            have bl := Box.new wr #[.int .i64 (x.b0 : Int), .int .i64 (x.b1 : Int), .int .i64 (x.h0 : Int), .int .i64 (x.h1 : Int), .int .i64 (x.l0 : Int), .int .i64 (x.l1 : Int), .int .i64 (x.g0 : Int), .int .i64 (x.g1 : Int)] 33
            have hal : Chg [] wr (wr.alloc (.cells #[.int .i64 (x.b0 : Int), .int .i64 (x.b1 : Int), .int .i64 (x.h0 : Int), .int .i64 (x.h1 : Int), .int .i64 (x.l0 : Int), .int .i64 (x.l1 : Int), .int .i64 (x.g0 : Int), .int .i64 (x.g1 : Int)] 33)) := (Chg.refl _ _).alloc _
            have nA1 : wr.heap.size ≠ A := by have := (hI.out.2.1.1).size; omega
            generalize wr.alloc (.cells #[.int .i64 (x.b0 : Int), .int .i64 (x.b1 : Int), .int .i64 (x.h0 : Int), .int .i64 (x.h1 : Int), .int .i64 (x.l0 : Int), .int .i64 (x.l1 : Int), .int .i64 (x.g0 : Int), .int .i64 (x.g1 : Int)] 33) = w6 at bl hal ⊢
            generalize wr.heap.size = A1 at bl nA1 ⊢
            have BL := hide bl
            have HS6 : Hid (SearchAt w4 w6 A (W.up t p 2) m) := hide (hI.out.2.1.keep hal)
            have H56 : Hid (Chg [A] w5 w6) := hide (hI.out.2.2.trans hal.toAny)
            clear bl hal z0 z1 z2 z3 z4 z5 z6 z7
            go_loopw [11, 12] (fun o r ws => ∃ (ob : Bool) (i : Int), -1 ≤ i ∧ i ≤ 2 ∧ o = .bool ob ∧ r = .int .i64 i ∧ Hid ((ob = true → upR m k x i) ∧ (ob = false → W.good (W.wins m) k x = false) ∧ SearchAt w4 ws A (W.up t p 2) m ∧ Chg [A] w6 ws)) (fun _ r _ => (2 - intOf r).toNat)
            case atStart => exact ⟨true, -1, by omega, by omega, rfl, rfl, hide ⟨fun _ => fun r' h1 h2 => by omega, fun h => absurd h (by decide), HS6.out, Chg.refl _ _⟩⟩
            case round =>
              obtain ⟨ob, i, hi0, hi1, rfl, rfl, hJ⟩ := hrel
              cases ob with
              | false =>
                have HG := hide (hJ.out.2.1 rfl)
                have HJ := hide (And.intro hJ.out.2.2.1 (H56.out.trans hJ.out.2.2.2))
                by_cases hi2 : i ≤ 1
                · have d5 : decide (i ≤ 1) = true := by simpa using hi2
                  go_wp2
                  go_roundw
                  case rel => exact ⟨j + 1, by omega, by go_num, hide ⟨fun j' hj' x' hx' => by
                    rcases (show j' < j ∨ j' = j by omega) with h | rfl
                    · exact hI.out.1 j' h x' hx'
                    · have := HX.out.symm.trans hx'; cases this; exact HG.out, HJ.out⟩⟩
                  case measure => simp [intOf]; omega
                · have d5 : decide (i ≤ 1) = false := by simpa using hi2
                  go_wp2
                  go_roundw
                  case rel => exact ⟨j + 1, by omega, by go_num, hide ⟨fun j' hj' x' hx' => by
                    rcases (show j' < j ∨ j' = j by omega) with h | rfl
                    · exact hI.out.1 j' h x' hx'
                    · have := HX.out.symm.trans hx'; cases this; exact HG.out, HJ.out⟩⟩
                  case measure => simp [intOf]; omega
              | true =>
                have HUp := hide (hJ.out.1 rfl)
                by_cases hi2 : i ≤ 1
                · have d5 : decide (i ≤ 1) = true := by simpa using hi2
                  have bk := B4.out.keep (C5.out.trans (H56.out.trans hJ.out.2.2.2)) (by simpa using nA)
                  have bl := BL.out.keep hJ.out.2.2.2 (by simpa using nA1)
                  have x0 := bk.cell 0
                  have x1 := bk.cell 1
                  have x2 := bk.cell 2
                  have x3 := bk.cell 3
                  have x4 := bk.cell 4
                  have z0 := bl.cell 0
                  have z1 := bl.cell 1
                  have z2 := bl.cell 2
                  have z3 := bl.cell 3
                  have z4 := bl.cell 4
                  have z5 := bl.cell 5
                  have z6 := bl.cell 6
                  have z7 := bl.cell 7
                  simp at x0 x1 x2 x3 x4 z0 z1 z2 z3 z4 z5 z6 z7
                  have lk := bk.lt
                  have ll := bl.lt
                  clear bk bl
                  by_cases hp : 0 < (aftOf k x i).poss
                  · have HA := hide fun ws => RAfter_yes k x i ws HK.out HF.out hi0 hi2 hp
                    have HOk := hide (aftOf_ok HK.out HF.out i hp)
                    clear hp
                    go_wp2_with fail
                    refine (HA.out _).mono ?_
                    rintro e ws1 ⟨rfl, hws1⟩
                    clear x0 x1 x2 x3 x4 z0 z1 z2 z3 z4 z5 z6 z7
                    go_wp2_with fail
                    obtain ⟨c1, t1, T1, M1, S1⟩ := (hJ.out.2.2.1.keep hws1).keep ((Chg.refl _ _).alloc (.cells #[.int .i64 ((aftOf k x i).b : Int), .int .i64 ((aftOf k x i).h : Int), .int .i64 ((aftOf k x i).l : Int), .int .i64 ((aftOf k x i).g : Int), .bool (aftOf k x i).n] 30))
                    have hc6 := (hJ.out.2.2.2.trans hws1.toAny).trans ((Chg.refl [A] _).alloc (.cells #[.int .i64 ((aftOf k x i).b : Int), .int .i64 ((aftOf k x i).h : Int), .int .i64 ((aftOf k x i).l : Int), .int .i64 ((aftOf k x i).g : Int), .bool (aftOf k x i).n] 30))
                    refine (HW.out (aftOf k x i) A t1 _ HOk.out T1 M1).mono ?_
                    rintro e ws2 ⟨rfl, hc2, t2, T2, M2, S2⟩
                    have HJ2 : Hid (SearchAt w4 ws2 A (W.up t p 2) m ∧ Chg [A] w6 ws2) := hide ⟨⟨c1.trans hc2, t2, T2, M2, fun i' hi' => (S2 i' hi').trans (S1 i' hi')⟩, hc6.trans hc2⟩
                    clear c1 T1 M1 S1 hc2 T2 M2 S2 hws1 hc6
                    cases hb : W.wins m (aftOf k x i) with
                    | true =>
                      have HB := hide hb
                      clear hb
                      go_wp2
                      go_roundw
                      case rel => exact ⟨true, i + 1, by omega, by omega, rfl, rfl, hide ⟨fun _ => upR_succ HUp.out (W.fine_iff.2 (.inr HB.out)), fun h => absurd h (by decide), HJ2.out⟩⟩
                      case measure => simp [intOf]; omega
                    | false =>
                      have HB := hide hb
                      clear hb
                      go_wp2
                      go_roundw
                      case rel => exact ⟨false, i + 1, by omega, by omega, rfl, rfl, hide ⟨fun h => absurd h (by decide), fun _ => upR_not hi0 hi2 (by unfold W.fine; rw [HB.out]; have := HOk.out.2.2; simp; omega), HJ2.out⟩⟩
                      case measure => simp [intOf]; omega
                  · have HA := hide fun ws => RAfter_no k x i ws HK.out HF.out hi0 hi2 hp
                    have HNp := hide hp
                    clear hp
                    go_wp2_with fail
                    refine (HA.out _).mono ?_
                    rintro e ws1 ⟨rfl, hws1⟩
                    have HJ2 : Hid (SearchAt w4 (ws1.alloc (.cells #[.int .i64 0, .int .i64 0, .int .i64 0, .int .i64 0, .bool false] 30)) A (W.up t p 2) m ∧ Chg [A] w6 (ws1.alloc (.cells #[.int .i64 0, .int .i64 0, .int .i64 0, .int .i64 0, .bool false] 30))) := hide ⟨(hJ.out.2.2.1.keep hws1).keep ((Chg.refl _ _).alloc _), (hJ.out.2.2.2.trans hws1.toAny).trans ((Chg.refl [A] _).alloc _)⟩
                    clear x0 x1 x2 x3 x4 z0 z1 z2 z3 z4 z5 z6 z7 hws1
                    go_wp2
                    go_roundw
                    case rel => exact ⟨true, i + 1, by omega, by omega, rfl, rfl, hide ⟨fun _ => upR_succ HUp.out (W.fine_iff.2 (.inl (by have := HNp.out; omega))), fun h => absurd h (by decide), HJ2.out⟩⟩
                    case measure => simp [intOf]; omega
                · have d5 : decide (i ≤ 1) = false := by simpa using hi2
                  have hgood : W.good (W.wins m) k x = true := upR_all (by omega) HUp.out
                  have hwin : W.wins (m + 1) k = true := wins_true_of (by have := HBig.out; unfold pw at this; omega) HF.out hgood
                  have E := hide hwin
                  have HJ := hide hJ.out.2.2.1
                  obtain ⟨c7, t7, T7, -, s7⟩ := hJ.out.2.2.1
                  have lA := T7.lt
                  have hf7 := T7.free p
                  have hc7 : ∃ v, wr.cell? ⟨A, p, none⟩ = some v := ⟨_, T7.cell (by rw [HPP.out]; have := W.place_lt (n := m + 1) HK.out.sm; omega)⟩
                  obtain ⟨v7, hc7⟩ := hc7
                  clear hgood hwin c7 T7 s7
                  go_wp2
                  go_ret
                  exact ⟨by rw [E.out]; rfl, by have := search_found HK.out HM.out C4.out (by rw [← HPP.out]; exact HJ.out) E.out; rw [← HPP.out] at this; exact this⟩
          · have d4 : decide ((j : Int) < (N : Int)) = false := by simpa using hlt
            have E : Hid (W.wins (m + 1) k = false) := hide (wins_false_of H1.out fun x hx => by
              obtain ⟨q, hq, he⟩ := List.getElem_of_mem (W.mem_Q1.2 hx)
              exact hI.out.1 q (by have := HN.out; omega) x (by rw [List.getElem?_eq_getElem hq, he]))
            go_wp2
            go_ret
            exact ⟨by rw [E.out]; rfl, search_end HK.out HM.out C4.out (by rw [← HPP.out]; exact hI.out.2.1) E.out⟩
end Go.Proofs.Ytohdjlgghkcaoaa
