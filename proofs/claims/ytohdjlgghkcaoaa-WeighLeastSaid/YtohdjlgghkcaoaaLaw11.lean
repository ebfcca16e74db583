/- Walk: the statement WeighLeast. -/
import Derived.Test.YtohdjlgghkcaoaaCmp
import Derived.Test.YtohdjlgghkcaoaaLaw10
namespace Go.Proofs.Ytohdjlgghkcaoaa
open Go.RowKit Go.Maps

theorem see5 (w : World) : See (w.alloc (.cells #[.int .i64 1, .int .i64 3, .int .i64 9, .int .i64 27, .int .i64 81] 3)) (.slice (some ⟨w.heap.size, 0, none⟩) 5 5) [1, 3, 9, 27, 81] := by
  refine .inr ⟨⟨w.heap.size, 0, none⟩, 5, rfl, Nat.le_refl _, by simp, fun i hi => ?_⟩
  rw [add_zero_row, (Box.new w _ _).cell i]
  match i, hi with
  | 0, _ => rfl
  | 1, _ => rfl
  | 2, _ => rfl
  | 3, _ => rfl
  | 4, _ => rfl
theorem five_V : weighsV [1, 3, 9, 27, 81] = .tuple #[.int .i64 121, .int .i64 0] := by
  unfold weighsV
  rw [if_pos (by decide), W.far5]; rfl
theorem few_W {n : Nat} (h40 : n ≤ 40) : W.isW (W.fewW n) 200 = true := by
  have h := (W.fewW_len h40).1
  obtain ⟨h1, h4⟩ := sizeW_pos n
  exact W.isW_mono ((W.fewW_asc h40).isW (by omega) (by omega)) (by omega)
theorem isW_far_pow {xs : List Int} (h : W.isW xs 200 = true) : W.far xs ≤ pw xs.length / 2 := by
  have := W.far_pow (W.isW_far (Int.le_refl _) h) (W.rc_zero xs)
  unfold pw
  omega
theorem few_short {n : Nat} {xs : List Int} (h1 : 1 ≤ n) (h40 : n ≤ 40) (h : W.isW xs 200 = true) (hf : n ≤ W.far xs) : (W.fewW n).length ≤ xs.length := by
  have h2 := W.far_pow (W.isW_far (Int.le_refl _) h) (W.rc_zero xs)
  rw [(W.fewW_len h40).1]
  exact W.sizeW_le h1 (by omega) h40
theorem few_cmp {n : Nat} {xs : List Int} (h40 : n ≤ 40) (h : W.isW xs 200 = true) (hf : n ≤ W.far xs) (hl : xs.length = (W.fewW n).length) (h60 : xs.getD (xs.length - 1) 0 ≤ 60) : cmpL (W.fewW n) xs ≤ 0 := by
  refine cmpL_le _ _ (W.fewW_least h40 (hl.trans (W.fewW_len h40).1) (fun i hi => ?_) hf)
  obtain ⟨h1, h5, h3⟩ := W.isW_iff.1 h
  have h4 := h3 i hi
  refine ⟨h4.1, ?_, h4.2.2⟩
  have := asc_le (xs := xs) (fun j j1 j2 => (h3 j j2).2.2.resolve_left (by omega)) i (xs.length - 1) (by omega) (by omega)
  omega

set_option maxRecDepth 100000 in
set_option maxHeartbeats 4000000 in
theorem least_no_bad (v : Value) (xs : List Int) (n : Int) (w : World) (hv : See w v xs) (hW : W.isW xs 200 = false) (h : n < 1 ∨ 40 < n) :
    Calls Try.prog 11 #[v, .int .i64 n] w (Ret (.bool true) w) := by
  have HP := hide fun ws => Weights_no n ws h
  have HL := hide fun ws (hw : Chg [] w ws) => list_any v xs ws (hv.keep hw)
  have HWs := hide fun v' ws (h : See ws v' (xs.take 16)) => Weighs_any v' (xs.take 16) ws h (by rw [List.length_take]; omega)
  have HFive := hide fun v' ws (h : See ws v' [1, 3, 9, 27, 81]) => Weighs_any v' [1, 3, 9, 27, 81] ws h (by simp)
  rw [five_V] at HFive
  rw [weighsV_take] at HWs
  unfold weighsV at HWs
  rw [hW] at HWs
  simp only [Bool.false_eq_true, if_false] at HWs
  clear hW hv
  by_cases h1 : n < 1
  · have d1 : decide (n < 1) = true := by simpa using h1
    clear h
    go_enter Try.func11, Try.ntmps11
    go_wp2_with fail
    refine (HL.out _ (Chg.refl _ _)).mono ?_
    rintro e w1 ⟨v1, rfl, hI1, hw1⟩
    have HI1 := hide hI1.toSee
    have C1 : Hid (Chg [] w w1) := hide hw1
    clear hI1 hw1
    go_wp2_with fail
    refine (HWs.out _ _ HI1.out).mono ?_
    rintro e w2 ⟨rfl, hw2⟩
    have C2 : Hid (Chg [] w w2) := hide (C1.out.trans hw2)
    clear hw2
    go_wp2_with fail
    have hs5 := see5 w2
    have C5 : Hid (Chg [] w (w2.alloc (.cells #[.int .i64 1, .int .i64 3, .int .i64 9, .int .i64 27, .int .i64 81] 3))) := hide (C2.out.alloc _)
    have HS5 := hide hs5
    clear hs5
    refine (HFive.out _ _ HS5.out).mono ?_
    rintro e w6 ⟨rfl, hw6⟩
    have C6 : Hid (Chg [] w w6) := hide (C5.out.trans hw6)
    clear hw6 HS5
    go_wp2_with fail
    refine (HP.out _).mono ?_
    rintro e w7 ⟨rfl, hw7⟩
    have C7 : Hid (Chg [] w w7) := hide (C6.out.trans hw7)
    clear hw7
    go_wp2_with fail
    refine (awake_any _).mono ?_
    rintro e w8 ⟨rfl, hw8⟩
    have C8 : Hid (Chg [] w w8) := hide (C7.out.trans hw8)
    clear hw8
    go_wp2
    go_ret
    exact ⟨rfl, C8.out⟩
  · have d1 : decide (n < 1) = false := by simpa using h1
    have d2 : decide (40 < n) = true := by simp; omega
    clear h
    go_enter Try.func11, Try.ntmps11
    go_wp2_with fail
    refine (HL.out _ (Chg.refl _ _)).mono ?_
    rintro e w1 ⟨v1, rfl, hI1, hw1⟩
    have HI1 := hide hI1.toSee
    have C1 : Hid (Chg [] w w1) := hide hw1
    clear hI1 hw1
    go_wp2_with fail
    refine (HWs.out _ _ HI1.out).mono ?_
    rintro e w2 ⟨rfl, hw2⟩
    have C2 : Hid (Chg [] w w2) := hide (C1.out.trans hw2)
    clear hw2
    go_wp2_with fail
    have hs5 := see5 w2
    have C5 : Hid (Chg [] w (w2.alloc (.cells #[.int .i64 1, .int .i64 3, .int .i64 9, .int .i64 27, .int .i64 81] 3))) := hide (C2.out.alloc _)
    have HS5 := hide hs5
    clear hs5
    refine (HFive.out _ _ HS5.out).mono ?_
    rintro e w6 ⟨rfl, hw6⟩
    have C6 : Hid (Chg [] w w6) := hide (C5.out.trans hw6)
    clear hw6 HS5
    go_wp2_with fail
    refine (HP.out _).mono ?_
    rintro e w7 ⟨rfl, hw7⟩
    have C7 : Hid (Chg [] w w7) := hide (C6.out.trans hw7)
    clear hw7
    go_wp2_with fail
    refine (awake_any _).mono ?_
    rintro e w8 ⟨rfl, hw8⟩
    have C8 : Hid (Chg [] w w8) := hide (C7.out.trans hw8)
    clear hw8
    go_wp2
    go_ret
    exact ⟨rfl, C8.out⟩

set_option maxRecDepth 100000 in
set_option maxHeartbeats 4000000 in
theorem least_yes_bad (v : Value) (xs : List Int) (n : Nat) (w : World) (hv : See w v xs) (hW : W.isW xs 200 = false) (h1 : 1 ≤ n) (h40 : n ≤ 40) :
    Calls Try.prog 11 #[v, .int .i64 (n : Int)] w (Ret (.bool true) w) := by
  have HP := hide fun ws => Weights_yes n h1 h40 ws
  have hfl := W.fewW_len h40
  have hsz := sizeW_pos n
  have HNe : Hid (W.fewW n ≠ []) := hide (by intro e; rw [e] at hfl; simp at hfl; omega)
  have HWl := hide fun v' ws (h : See ws v' (W.fewW n)) => Weighs_any v' (W.fewW n) ws h (by omega)
  unfold weighsV at HWl
  rw [if_pos (few_W h40)] at HWl
  have hmn := hfl.2
  generalize W.far (W.fewW n) = MM at HWl hmn hfl
  have dmn : decide ((n : Int) ≤ (MM : Int)) = true := by simp; omega
  obtain ⟨LL, hLL⟩ : ∃ LL, (W.fewW n).length = LL := ⟨_, rfl⟩
  have hll4 : LL ≤ 4 := by omega
  have HLL := hide hLL
  clear hLL hfl hsz
  have HL := hide fun ws (hw : Chg [] w ws) => list_any v xs ws (hv.keep hw)
  have HWs := hide fun v' ws (h : See ws v' (xs.take 16)) => Weighs_any v' (xs.take 16) ws h (by rw [List.length_take]; omega)
  have HFive := hide fun v' ws (h : See ws v' [1, 3, 9, 27, 81]) => Weighs_any v' [1, 3, 9, 27, 81] ws h (by simp)
  rw [five_V] at HFive
  rw [weighsV_take] at HWs
  unfold weighsV at HWs
  rw [hW] at HWs
  simp only [Bool.false_eq_true, if_false] at HWs
  clear hW hv
  go_enter Try.func11, Try.ntmps11
  go_wp2_with fail
  refine (HL.out _ (Chg.refl _ _)).mono ?_
  rintro e w1 ⟨v1, rfl, hI1, hw1⟩
  have HI1 := hide hI1.toSee
  have C1 : Hid (Chg [] w w1) := hide hw1
  clear hI1 hw1
  go_wp2_with fail
  refine (HWs.out _ _ HI1.out).mono ?_
  rintro e w2 ⟨rfl, hw2⟩
  have C2 : Hid (Chg [] w w2) := hide (C1.out.trans hw2)
  clear hw2
  go_wp2_with fail
  have hs5 := see5 w2
  have C5 : Hid (Chg [] w (w2.alloc (.cells #[.int .i64 1, .int .i64 3, .int .i64 9, .int .i64 27, .int .i64 81] 3))) := hide (C2.out.alloc _)
  have HS5 := hide hs5
  clear hs5
  refine (HFive.out _ _ HS5.out).mono ?_
  rintro e w6 ⟨rfl, hw6⟩
  have C6 : Hid (Chg [] w w6) := hide (C5.out.trans hw6)
  clear hw6 HS5
  go_wp2_with fail
  refine (HP.out _).mono ?_
  rintro e w7 ⟨a7, l7, p7, rfl, hs7, hw7⟩
  have C7 : Hid (Chg [] w w7) := hide (C6.out.trans hw7)
  have HS7 := hide hs7
  obtain ⟨a7', p7', e7, _⟩ := hs7.open HNe.out
  cases e7
  rw [HLL.out] at HS7 ⊢
  clear hs7 hw7
  go_wp2_with fail
  refine (Clone_any _ _ _ HS7.out (by rw [HLL.out]; omega)).mono ?_
  rintro e w8 ⟨v8, rfl, hI8, hw8⟩
  have HI8 := hide hI8.toSee
  have C8 : Hid (Chg [] w w8) := hide (C7.out.trans hw8)
  have HS8 := hide (HS7.out.keep hw8)
  clear hI8 hw8 HS7
  go_wp2_with fail
  refine (HWl.out _ _ HI8.out).mono ?_
  rintro e w9 ⟨rfl, hw9⟩
  have C9 : Hid (Chg [] w w9) := hide (C8.out.trans hw9)
  have HS9 := hide (HS8.out.keep hw9)
  clear hw9 HS8
  go_wp2_with fail
  refine (awake_any _).mono ?_
  rintro e w10 ⟨rfl, hw10⟩
  have C10 : Hid (Chg [] w w10) := hide (C9.out.trans hw10)
  clear hw10
  go_wp2
  go_ret
  exact ⟨rfl, C10.out⟩

set_option maxRecDepth 100000 in
set_option maxHeartbeats 4000000 in
theorem least_no_good (v : Value) (xs : List Int) (n : Int) (w : World) (hv : See w v xs) (hlm : xs.length ≤ 9223372036854775807) (hW : W.isW xs 200 = true) (h : n < 1 ∨ 40 < n) :
    Calls Try.prog 11 #[v, .int .i64 n] w (Ret (.bool true) w) := by
  have HP := hide fun ws => Weights_no n ws h
  have hff : True := trivial
  have hll : True := trivial
  have HRW := hide fun ws (hw : Chg [] w ws) => RWeights_any v xs 200 ws (hv.keep hw) hlm
  rw [hW] at HRW
  have HL := hide fun ws (hw : Chg [] w ws) => list_any v xs ws (hv.keep hw)
  have HWs := hide fun v' ws (h : See ws v' (xs.take 16)) => Weighs_any v' (xs.take 16) ws h (by rw [List.length_take]; omega)
  have HFive := hide fun v' ws (h : See ws v' [1, 3, 9, 27, 81]) => Weighs_any v' [1, 3, 9, 27, 81] ws h (by simp)
  rw [five_V] at HFive
  rw [weighsV_take] at HWs
  unfold weighsV at HWs
  rw [hW] at HWs
  simp only [if_true] at HWs
  obtain ⟨hl1, hl5, _⟩ := W.isW_iff.1 hW
  have hne : xs ≠ [] := by rintro rfl; simp at hl1
  obtain ⟨a, cap, rfl, hcell⟩ := hv.open hne
  obtain ⟨_, _, e0, hlc, _⟩ := hv.len
  cases e0
  have HFl : Hid (∀ ws, Chg [] w ws → ws.cell? (a.add (xs.length - 1)) = some (.int .i64 (xs.getD (xs.length - 1) 0))) := hide fun ws hw => hcell ws hw (xs.length - 1) (by omega)
  have hfp := isW_far_pow hW
  generalize W.far xs = FF at HWs hfp
  obtain ⟨L, hL⟩ : ∃ L, L = xs.length := ⟨_, rfl⟩
  rw [← hL] at HL HRW hl1 hl5 hlc hfp HFl ⊢
  clear hW hv hcell hne hL hlm
  obtain ⟨Q, hQe⟩ : ∃ Q, Q = pw L / 2 := ⟨_, rfl⟩
  rw [← hQe] at hfp
  have HQ : Hid (((pw L : Nat) : Int) / 2 = (Q : Int)) := hide (by omega)
  have dq : decide ((Q : Int) < (FF : Int)) = false := by simp; omega
  have d00 : decide ((FF : Int) < 0) = false := by simp
  have hnq : ¬ Q < FF := by omega
  have hm6 : ¬ (6 < L) := by omega
  clear hfp hQe
  by_cases h1 : n < 1
  · have d1 : decide (n < 1) = true := by simpa using h1
    clear h
    go_enter Try.func11, Try.ntmps11
    go_wp2_with fail
    refine (HL.out _ (Chg.refl _ _)).mono ?_
    rintro e w1 ⟨v1, rfl, hI1, hw1⟩
    have HI1 := hide hI1.toSee
    have C1 : Hid (Chg [] w w1) := hide hw1
    clear hI1 hw1
    go_wp2_with fail
    refine (HWs.out _ _ HI1.out).mono ?_
    rintro e w2 ⟨rfl, hw2⟩
    have C2 : Hid (Chg [] w w2) := hide (C1.out.trans hw2)
    clear hw2
    go_wp2
    go_loop [7, 28] (fun r i => ∃ j : Nat, j ≤ L ∧ i = .int .i64 (j : Int) ∧ r = .int .i64 (pw j : Int)) (fun _ i => L - (intOf i).toNat)
    case atStart => exact ⟨0, Nat.zero_le _, rfl, rfl⟩
    case round =>
      obtain ⟨j, hj, rfl, rfl⟩ := hrel
      have hp6 : pw j ≤ 729 := pow6 (by omega)
      by_cases hlt : j < L
      · have dl : decide ((j : Int) < (L : Int)) = true := by simpa using hlt
        go_wp2
        go_round
        case rel => exact ⟨j + 1, by omega, by go_num, by rw [pw_succ]; go_num⟩
        case measure => simp [intOf]; omega
      · obtain rfl : j = L := by omega
        have dl : decide ((j : Int) < (j : Int)) = false := by simp
        have hQ := HQ.out
        have hP0 : (0 : Int) ≤ (pw j : Int) := by omega
        generalize pw j = P at hQ hp6 hP0 ⊢
        clear hlt hj
        go_wp2_with fail
        refine (HRW.out _ C2.out).mono ?_
        rintro e w3 ⟨rfl, hw3⟩
        have C3 : Hid (Chg [] w w3) := hide (C2.out.trans hw3)
        clear hw3
        go_wp2_with fail
        have hs5 := see5 w3
        have C5 : Hid (Chg [] w (w3.alloc (.cells #[.int .i64 1, .int .i64 3, .int .i64 9, .int .i64 27, .int .i64 81] 3))) := hide (C3.out.alloc _)
        have HS5 := hide hs5
        clear hs5
        refine (HFive.out _ _ HS5.out).mono ?_
        rintro e w6 ⟨rfl, hw6⟩
        have C6 : Hid (Chg [] w w6) := hide (C5.out.trans hw6)
        clear hw6 HS5
        go_wp2_with fail
        refine (HP.out _).mono ?_
        rintro e w7 ⟨rfl, hw7⟩
        have C7 : Hid (Chg [] w w7) := hide (C6.out.trans hw7)
        clear hw7
        go_wp2_with fail
        refine (awake_any _).mono ?_
        rintro e w8 ⟨rfl, hw8⟩
        have C8 : Hid (Chg [] w w8) := hide (C7.out.trans hw8)
        clear hw8
        go_wp2
        go_ret
        exact ⟨rfl, C8.out⟩
  · have d1 : decide (n < 1) = false := by simpa using h1
    have d2 : decide (40 < n) = true := by simp; omega
    clear h
    go_enter Try.func11, Try.ntmps11
    go_wp2_with fail
    refine (HL.out _ (Chg.refl _ _)).mono ?_
    rintro e w1 ⟨v1, rfl, hI1, hw1⟩
    have HI1 := hide hI1.toSee
    have C1 : Hid (Chg [] w w1) := hide hw1
    clear hI1 hw1
    go_wp2_with fail
    refine (HWs.out _ _ HI1.out).mono ?_
    rintro e w2 ⟨rfl, hw2⟩
    have C2 : Hid (Chg [] w w2) := hide (C1.out.trans hw2)
    clear hw2
    go_wp2
    go_loop [7, 28] (fun r i => ∃ j : Nat, j ≤ L ∧ i = .int .i64 (j : Int) ∧ r = .int .i64 (pw j : Int)) (fun _ i => L - (intOf i).toNat)
    case atStart => exact ⟨0, Nat.zero_le _, rfl, rfl⟩
    case round =>
      obtain ⟨j, hj, rfl, rfl⟩ := hrel
      have hp6 : pw j ≤ 729 := pow6 (by omega)
      by_cases hlt : j < L
      · have dl : decide ((j : Int) < (L : Int)) = true := by simpa using hlt
        go_wp2
        go_round
        case rel => exact ⟨j + 1, by omega, by go_num, by rw [pw_succ]; go_num⟩
        case measure => simp [intOf]; omega
      · obtain rfl : j = L := by omega
        have dl : decide ((j : Int) < (j : Int)) = false := by simp
        have hQ := HQ.out
        have hP0 : (0 : Int) ≤ (pw j : Int) := by omega
        generalize pw j = P at hQ hp6 hP0 ⊢
        clear hlt hj
        go_wp2_with fail
        refine (HRW.out _ C2.out).mono ?_
        rintro e w3 ⟨rfl, hw3⟩
        have C3 : Hid (Chg [] w w3) := hide (C2.out.trans hw3)
        clear hw3
        go_wp2_with fail
        have hs5 := see5 w3
        have C5 : Hid (Chg [] w (w3.alloc (.cells #[.int .i64 1, .int .i64 3, .int .i64 9, .int .i64 27, .int .i64 81] 3))) := hide (C3.out.alloc _)
        have HS5 := hide hs5
        clear hs5
        refine (HFive.out _ _ HS5.out).mono ?_
        rintro e w6 ⟨rfl, hw6⟩
        have C6 : Hid (Chg [] w w6) := hide (C5.out.trans hw6)
        clear hw6 HS5
        go_wp2_with fail
        refine (HP.out _).mono ?_
        rintro e w7 ⟨rfl, hw7⟩
        have C7 : Hid (Chg [] w w7) := hide (C6.out.trans hw7)
        clear hw7
        go_wp2_with fail
        refine (awake_any _).mono ?_
        rintro e w8 ⟨rfl, hw8⟩
        have C8 : Hid (Chg [] w w8) := hide (C7.out.trans hw8)
        clear hw8
        go_wp2
        go_ret
        exact ⟨rfl, C8.out⟩

set_option maxRecDepth 100000 in
set_option maxHeartbeats 4000000 in
theorem least_yes_A (v : Value) (xs : List Int) (n : Nat) (w : World) (hv : See w v xs) (hlm : xs.length ≤ 9223372036854775807) (hW : W.isW xs 200 = true) (h1 : 1 ≤ n) (h40 : n ≤ 40) (hF : W.far xs < n) :
    Calls Try.prog 11 #[v, .int .i64 (n : Int)] w (Ret (.bool true) w) := by
  have HP := hide fun ws => Weights_yes n h1 h40 ws
  have hfl := W.fewW_len h40
  have hsz := sizeW_pos n
  have HNe : Hid (W.fewW n ≠ []) := hide (by intro e; rw [e] at hfl; simp at hfl; omega)
  have HWl := hide fun v' ws (h : See ws v' (W.fewW n)) => Weighs_any v' (W.fewW n) ws h (by omega)
  unfold weighsV at HWl
  rw [if_pos (few_W h40)] at HWl
  have hmn := hfl.2
  generalize W.far (W.fewW n) = MM at HWl hmn hfl
  have dmn : decide ((n : Int) ≤ (MM : Int)) = true := by simp; omega
  obtain ⟨LL, hLL⟩ : ∃ LL, (W.fewW n).length = LL := ⟨_, rfl⟩
  have hll4 : LL ≤ 4 := by omega
  have HLL := hide hLL

  clear hLL hfl hsz
  have HRW := hide fun ws (hw : Chg [] w ws) => RWeights_any v xs 200 ws (hv.keep hw) hlm
  rw [hW] at HRW
  have HL := hide fun ws (hw : Chg [] w ws) => list_any v xs ws (hv.keep hw)
  have HWs := hide fun v' ws (h : See ws v' (xs.take 16)) => Weighs_any v' (xs.take 16) ws h (by rw [List.length_take]; omega)
  have HFive := hide fun v' ws (h : See ws v' [1, 3, 9, 27, 81]) => Weighs_any v' [1, 3, 9, 27, 81] ws h (by simp)
  rw [five_V] at HFive
  rw [weighsV_take] at HWs
  unfold weighsV at HWs
  rw [hW] at HWs
  simp only [if_true] at HWs
  obtain ⟨hl1, hl5, _⟩ := W.isW_iff.1 hW
  have hne : xs ≠ [] := by rintro rfl; simp at hl1
  obtain ⟨a, cap, rfl, hcell⟩ := hv.open hne
  obtain ⟨_, _, e0, hlc, _⟩ := hv.len
  cases e0
  have HFl : Hid (∀ ws, Chg [] w ws → ws.cell? (a.add (xs.length - 1)) = some (.int .i64 (xs.getD (xs.length - 1) 0))) := hide fun ws hw => hcell ws hw (xs.length - 1) (by omega)
  have hfp := isW_far_pow hW
  generalize W.far xs = FF at HWs hfp hF
  obtain ⟨L, hL⟩ : ∃ L, L = xs.length := ⟨_, rfl⟩
  rw [← hL] at HL HRW hl1 hl5 hlc hfp HFl ⊢
  clear hW hv hcell hne hL hlm
  obtain ⟨Q, hQe⟩ : ∃ Q, Q = pw L / 2 := ⟨_, rfl⟩
  rw [← hQe] at hfp
  have HQ : Hid (((pw L : Nat) : Int) / 2 = (Q : Int)) := hide (by omega)
  have dq : decide ((Q : Int) < (FF : Int)) = false := by simp; omega
  have d00 : decide ((FF : Int) < 0) = false := by simp
  have hnq : ¬ Q < FF := by omega
  have hm6 : ¬ (6 < L) := by omega
  clear hfp hQe
  have dF : decide ((FF : Int) < (n : Int)) = true := by simp; omega
  go_enter Try.func11, Try.ntmps11
  go_wp2_with fail
  refine (HL.out _ (Chg.refl _ _)).mono ?_
  rintro e w1 ⟨v1, rfl, hI1, hw1⟩
  have HI1 := hide hI1.toSee
  have C1 : Hid (Chg [] w w1) := hide hw1
  clear hI1 hw1
  go_wp2_with fail
  refine (HWs.out _ _ HI1.out).mono ?_
  rintro e w2 ⟨rfl, hw2⟩
  have C2 : Hid (Chg [] w w2) := hide (C1.out.trans hw2)
  clear hw2
  go_wp2
  go_loop [7, 28] (fun r i => ∃ j : Nat, j ≤ L ∧ i = .int .i64 (j : Int) ∧ r = .int .i64 (pw j : Int)) (fun _ i => L - (intOf i).toNat)
  case atStart => exact ⟨0, Nat.zero_le _, rfl, rfl⟩
  case round =>
    obtain ⟨j, hj, rfl, rfl⟩ := hrel
    have hp6 : pw j ≤ 729 := pow6 (by omega)
    by_cases hlt : j < L
    · have dl : decide ((j : Int) < (L : Int)) = true := by simpa using hlt
      go_wp2
      go_round
      case rel => exact ⟨j + 1, by omega, by go_num, by rw [pw_succ]; go_num⟩
      case measure => simp [intOf]; omega
    · obtain rfl : j = L := by omega
      have dl : decide ((j : Int) < (j : Int)) = false := by simp
      have hQ := HQ.out
      have hP0 : (0 : Int) ≤ (pw j : Int) := by omega
      generalize pw j = P at hQ hp6 hP0 ⊢
      clear hlt hj
      go_wp2_with fail
      refine (HRW.out _ C2.out).mono ?_
      rintro e w3 ⟨rfl, hw3⟩
      have C3 : Hid (Chg [] w w3) := hide (C2.out.trans hw3)
      clear hw3
      go_wp2_with fail
      have hs5 := see5 w3
      have C5 : Hid (Chg [] w (w3.alloc (.cells #[.int .i64 1, .int .i64 3, .int .i64 9, .int .i64 27, .int .i64 81] 3))) := hide (C3.out.alloc _)
      have HS5 := hide hs5
      clear hs5
      refine (HFive.out _ _ HS5.out).mono ?_
      rintro e w6 ⟨rfl, hw6⟩
      have C6 : Hid (Chg [] w w6) := hide (C5.out.trans hw6)
      clear hw6 HS5
      go_wp2_with fail
      refine (HP.out _).mono ?_
      rintro e w7 ⟨a7, l7, p7, rfl, hs7, hw7⟩
      have C7 : Hid (Chg [] w w7) := hide (C6.out.trans hw7)
      have HS7 := hide hs7
      obtain ⟨a7', p7', e7, _⟩ := hs7.open HNe.out
      cases e7
      rw [HLL.out] at HS7 ⊢
      clear hs7 hw7
      go_wp2_with fail
      refine (Clone_any _ _ _ HS7.out (by rw [HLL.out]; omega)).mono ?_
      rintro e w8 ⟨v8, rfl, hI8, hw8⟩
      have HI8 := hide hI8.toSee
      have C8 : Hid (Chg [] w w8) := hide (C7.out.trans hw8)
      have HS8 := hide (HS7.out.keep hw8)
      clear hI8 hw8 HS7
      go_wp2_with fail
      refine (HWl.out _ _ HI8.out).mono ?_
      rintro e w9 ⟨rfl, hw9⟩
      have C9 : Hid (Chg [] w w9) := hide (C8.out.trans hw9)
      have HS9 := hide (HS8.out.keep hw9)
      clear hw9 HS8
      go_wp2_with fail
      refine (awake_any _).mono ?_
      rintro e w10 ⟨rfl, hw10⟩
      have C10 : Hid (Chg [] w w10) := hide (C9.out.trans hw10)
      clear hw10
      go_wp2
      go_ret
      exact ⟨rfl, C10.out⟩

set_option maxRecDepth 100000 in
set_option maxHeartbeats 4000000 in
theorem least_yes_B (v : Value) (xs : List Int) (n : Nat) (w : World) (hv : See w v xs) (hlm : xs.length ≤ 9223372036854775807) (hW : W.isW xs 200 = true) (h1 : 1 ≤ n) (h40 : n ≤ 40) (hF : n ≤ W.far xs) (hl : (W.fewW n).length < xs.length) :
    Calls Try.prog 11 #[v, .int .i64 (n : Int)] w (Ret (.bool true) w) := by
  have HP := hide fun ws => Weights_yes n h1 h40 ws
  have hfl := W.fewW_len h40
  have hsz := sizeW_pos n
  have HNe : Hid (W.fewW n ≠ []) := hide (by intro e; rw [e] at hfl; simp at hfl; omega)
  have HWl := hide fun v' ws (h : See ws v' (W.fewW n)) => Weighs_any v' (W.fewW n) ws h (by omega)
  unfold weighsV at HWl
  rw [if_pos (few_W h40)] at HWl
  have hmn := hfl.2
  generalize W.far (W.fewW n) = MM at HWl hmn hfl
  have dmn : decide ((n : Int) ≤ (MM : Int)) = true := by simp; omega
  obtain ⟨LL, hLL⟩ : ∃ LL, (W.fewW n).length = LL := ⟨_, rfl⟩
  have hll4 : LL ≤ 4 := by omega
  have HLL := hide hLL
  rw [hLL] at hl
  clear hLL hfl hsz
  have HRW := hide fun ws (hw : Chg [] w ws) => RWeights_any v xs 200 ws (hv.keep hw) hlm
  rw [hW] at HRW
  have HL := hide fun ws (hw : Chg [] w ws) => list_any v xs ws (hv.keep hw)
  have HWs := hide fun v' ws (h : See ws v' (xs.take 16)) => Weighs_any v' (xs.take 16) ws h (by rw [List.length_take]; omega)
  have HFive := hide fun v' ws (h : See ws v' [1, 3, 9, 27, 81]) => Weighs_any v' [1, 3, 9, 27, 81] ws h (by simp)
  rw [five_V] at HFive
  rw [weighsV_take] at HWs
  unfold weighsV at HWs
  rw [hW] at HWs
  simp only [if_true] at HWs
  obtain ⟨hl1, hl5, _⟩ := W.isW_iff.1 hW
  have hne : xs ≠ [] := by rintro rfl; simp at hl1
  obtain ⟨a, cap, rfl, hcell⟩ := hv.open hne
  obtain ⟨_, _, e0, hlc, _⟩ := hv.len
  cases e0
  have HFl : Hid (∀ ws, Chg [] w ws → ws.cell? (a.add (xs.length - 1)) = some (.int .i64 (xs.getD (xs.length - 1) 0))) := hide fun ws hw => hcell ws hw (xs.length - 1) (by omega)
  have hfp := isW_far_pow hW
  generalize W.far xs = FF at HWs hfp hF
  obtain ⟨L, hL⟩ : ∃ L, L = xs.length := ⟨_, rfl⟩
  rw [← hL] at HL HRW hl1 hl5 hlc hfp HFl hl ⊢
  clear hW hv hcell hne hL hlm
  obtain ⟨Q, hQe⟩ : ∃ Q, Q = pw L / 2 := ⟨_, rfl⟩
  rw [← hQe] at hfp
  have HQ : Hid (((pw L : Nat) : Int) / 2 = (Q : Int)) := hide (by omega)
  have dq : decide ((Q : Int) < (FF : Int)) = false := by simp; omega
  have d00 : decide ((FF : Int) < 0) = false := by simp
  have hnq : ¬ Q < FF := by omega
  have hm6 : ¬ (6 < L) := by omega
  clear hfp hQe
  have dF : decide ((FF : Int) < (n : Int)) = false := by simp; omega
  have dL : decide ((LL : Int) < (L : Int)) = true := by simp; omega
  go_enter Try.func11, Try.ntmps11
  go_wp2_with fail
  refine (HL.out _ (Chg.refl _ _)).mono ?_
  rintro e w1 ⟨v1, rfl, hI1, hw1⟩
  have HI1 := hide hI1.toSee
  have C1 : Hid (Chg [] w w1) := hide hw1
  clear hI1 hw1
  go_wp2_with fail
  refine (HWs.out _ _ HI1.out).mono ?_
  rintro e w2 ⟨rfl, hw2⟩
  have C2 : Hid (Chg [] w w2) := hide (C1.out.trans hw2)
  clear hw2
  go_wp2
  go_loop [7, 28] (fun r i => ∃ j : Nat, j ≤ L ∧ i = .int .i64 (j : Int) ∧ r = .int .i64 (pw j : Int)) (fun _ i => L - (intOf i).toNat)
  case atStart => exact ⟨0, Nat.zero_le _, rfl, rfl⟩
  case round =>
    obtain ⟨j, hj, rfl, rfl⟩ := hrel
    have hp6 : pw j ≤ 729 := pow6 (by omega)
    by_cases hlt : j < L
    · have dl : decide ((j : Int) < (L : Int)) = true := by simpa using hlt
      go_wp2
      go_round
      case rel => exact ⟨j + 1, by omega, by go_num, by rw [pw_succ]; go_num⟩
      case measure => simp [intOf]; omega
    · obtain rfl : j = L := by omega
      have dl : decide ((j : Int) < (j : Int)) = false := by simp
      have hQ := HQ.out
      have hP0 : (0 : Int) ≤ (pw j : Int) := by omega
      generalize pw j = P at hQ hp6 hP0 ⊢
      clear hlt hj
      go_wp2_with fail
      refine (HRW.out _ C2.out).mono ?_
      rintro e w3 ⟨rfl, hw3⟩
      have C3 : Hid (Chg [] w w3) := hide (C2.out.trans hw3)
      clear hw3
      go_wp2_with fail
      have hs5 := see5 w3
      have C5 : Hid (Chg [] w (w3.alloc (.cells #[.int .i64 1, .int .i64 3, .int .i64 9, .int .i64 27, .int .i64 81] 3))) := hide (C3.out.alloc _)
      have HS5 := hide hs5
      clear hs5
      refine (HFive.out _ _ HS5.out).mono ?_
      rintro e w6 ⟨rfl, hw6⟩
      have C6 : Hid (Chg [] w w6) := hide (C5.out.trans hw6)
      clear hw6 HS5
      go_wp2_with fail
      refine (HP.out _).mono ?_
      rintro e w7 ⟨a7, l7, p7, rfl, hs7, hw7⟩
      have C7 : Hid (Chg [] w w7) := hide (C6.out.trans hw7)
      have HS7 := hide hs7
      obtain ⟨a7', p7', e7, _⟩ := hs7.open HNe.out
      cases e7
      rw [HLL.out] at HS7 ⊢
      clear hs7 hw7
      go_wp2_with fail
      refine (Clone_any _ _ _ HS7.out (by rw [HLL.out]; omega)).mono ?_
      rintro e w8 ⟨v8, rfl, hI8, hw8⟩
      have HI8 := hide hI8.toSee
      have C8 : Hid (Chg [] w w8) := hide (C7.out.trans hw8)
      have HS8 := hide (HS7.out.keep hw8)
      clear hI8 hw8 HS7
      go_wp2_with fail
      refine (HWl.out _ _ HI8.out).mono ?_
      rintro e w9 ⟨rfl, hw9⟩
      have C9 : Hid (Chg [] w w9) := hide (C8.out.trans hw9)
      have HS9 := hide (HS8.out.keep hw9)
      clear hw9 HS8
      go_wp2_with fail
      refine (awake_any _).mono ?_
      rintro e w10 ⟨rfl, hw10⟩
      have C10 : Hid (Chg [] w w10) := hide (C9.out.trans hw10)
      clear hw10
      go_wp2
      go_ret
      exact ⟨rfl, C10.out⟩

set_option maxRecDepth 100000 in
set_option maxHeartbeats 4000000 in
theorem least_yes_C (v : Value) (xs : List Int) (n : Nat) (w : World) (hv : See w v xs) (hlm : xs.length ≤ 9223372036854775807) (hW : W.isW xs 200 = true) (h1 : 1 ≤ n) (h40 : n ≤ 40) (hF : n ≤ W.far xs) (hl : xs.length = (W.fewW n).length) (hc : cmpL (W.fewW n) xs ≤ 0) :
    Calls Try.prog 11 #[v, .int .i64 (n : Int)] w (Ret (.bool true) w) := by
  have HP := hide fun ws => Weights_yes n h1 h40 ws
  have hfl := W.fewW_len h40
  have hsz := sizeW_pos n
  have HNe : Hid (W.fewW n ≠ []) := hide (by intro e; rw [e] at hfl; simp at hfl; omega)
  have HWl := hide fun v' ws (h : See ws v' (W.fewW n)) => Weighs_any v' (W.fewW n) ws h (by omega)
  unfold weighsV at HWl
  rw [if_pos (few_W h40)] at HWl
  have hmn := hfl.2
  generalize W.far (W.fewW n) = MM at HWl hmn hfl
  have dmn : decide ((n : Int) ≤ (MM : Int)) = true := by simp; omega
  obtain ⟨LL, hLL⟩ : ∃ LL, (W.fewW n).length = LL := ⟨_, rfl⟩
  have hll4 : LL ≤ 4 := by omega
  have HLL := hide hLL
  have HCm := hide fun u ws (hu : See ws u (W.fewW n)) (hw : Chg [] w ws) => Compare_any u v (W.fewW n) xs ws hu (hv.keep hw) hl (by rw [hLL]; omega)
  rw [hLL] at hl
  generalize cmpL (W.fewW n) xs = c at HCm hc
  clear hLL hfl hsz
  have HRW := hide fun ws (hw : Chg [] w ws) => RWeights_any v xs 200 ws (hv.keep hw) hlm
  rw [hW] at HRW
  have HL := hide fun ws (hw : Chg [] w ws) => list_any v xs ws (hv.keep hw)
  have HWs := hide fun v' ws (h : See ws v' (xs.take 16)) => Weighs_any v' (xs.take 16) ws h (by rw [List.length_take]; omega)
  have HFive := hide fun v' ws (h : See ws v' [1, 3, 9, 27, 81]) => Weighs_any v' [1, 3, 9, 27, 81] ws h (by simp)
  rw [five_V] at HFive
  rw [weighsV_take] at HWs
  unfold weighsV at HWs
  rw [hW] at HWs
  simp only [if_true] at HWs
  obtain ⟨hl1, hl5, _⟩ := W.isW_iff.1 hW
  have hne : xs ≠ [] := by rintro rfl; simp at hl1
  obtain ⟨a, cap, rfl, hcell⟩ := hv.open hne
  obtain ⟨_, _, e0, hlc, _⟩ := hv.len
  cases e0
  have HFl : Hid (∀ ws, Chg [] w ws → ws.cell? (a.add (xs.length - 1)) = some (.int .i64 (xs.getD (xs.length - 1) 0))) := hide fun ws hw => hcell ws hw (xs.length - 1) (by omega)
  have hfp := isW_far_pow hW
  generalize W.far xs = FF at HWs hfp hF
  obtain ⟨L, hL⟩ : ∃ L, L = xs.length := ⟨_, rfl⟩
  rw [← hL] at HL HRW HCm hl1 hl5 hlc hfp HFl hl ⊢
  clear hW hv hcell hne hL hlm
  obtain ⟨Q, hQe⟩ : ∃ Q, Q = pw L / 2 := ⟨_, rfl⟩
  rw [← hQe] at hfp
  have HQ : Hid (((pw L : Nat) : Int) / 2 = (Q : Int)) := hide (by omega)
  have dq : decide ((Q : Int) < (FF : Int)) = false := by simp; omega
  have d00 : decide ((FF : Int) < 0) = false := by simp
  have hnq : ¬ Q < FF := by omega
  have hm6 : ¬ (6 < L) := by omega
  clear hfp hQe
  have dF : decide ((FF : Int) < (n : Int)) = false := by simp; omega
  subst hl
  have dL : decide ((L : Int) < (L : Int)) = false := by simp
  have eL : ((L : Int) == (L : Int)) = true := by simp
  have dc : decide (c ≤ 0) = true := by simpa using hc
  go_enter Try.func11, Try.ntmps11
  go_wp2_with fail
  refine (HL.out _ (Chg.refl _ _)).mono ?_
  rintro e w1 ⟨v1, rfl, hI1, hw1⟩
  have HI1 := hide hI1.toSee
  have C1 : Hid (Chg [] w w1) := hide hw1
  clear hI1 hw1
  go_wp2_with fail
  refine (HWs.out _ _ HI1.out).mono ?_
  rintro e w2 ⟨rfl, hw2⟩
  have C2 : Hid (Chg [] w w2) := hide (C1.out.trans hw2)
  clear hw2
  go_wp2
  go_loop [7, 28] (fun r i => ∃ j : Nat, j ≤ L ∧ i = .int .i64 (j : Int) ∧ r = .int .i64 (pw j : Int)) (fun _ i => L - (intOf i).toNat)
  case atStart => exact ⟨0, Nat.zero_le _, rfl, rfl⟩
  case round =>
    obtain ⟨j, hj, rfl, rfl⟩ := hrel
    have hp6 : pw j ≤ 729 := pow6 (by omega)
    by_cases hlt : j < L
    · have dl : decide ((j : Int) < (L : Int)) = true := by simpa using hlt
      go_wp2
      go_round
      case rel => exact ⟨j + 1, by omega, by go_num, by rw [pw_succ]; go_num⟩
      case measure => simp [intOf]; omega
    · obtain rfl : j = L := by omega
      have dl : decide ((j : Int) < (j : Int)) = false := by simp
      have hQ := HQ.out
      have hP0 : (0 : Int) ≤ (pw j : Int) := by omega
      generalize pw j = P at hQ hp6 hP0 ⊢
      clear hlt hj
      go_wp2_with fail
      refine (HRW.out _ C2.out).mono ?_
      rintro e w3 ⟨rfl, hw3⟩
      have C3 : Hid (Chg [] w w3) := hide (C2.out.trans hw3)
      clear hw3
      go_wp2_with fail
      have hs5 := see5 w3
      have C5 : Hid (Chg [] w (w3.alloc (.cells #[.int .i64 1, .int .i64 3, .int .i64 9, .int .i64 27, .int .i64 81] 3))) := hide (C3.out.alloc _)
      have HS5 := hide hs5
      clear hs5
      refine (HFive.out _ _ HS5.out).mono ?_
      rintro e w6 ⟨rfl, hw6⟩
      have C6 : Hid (Chg [] w w6) := hide (C5.out.trans hw6)
      clear hw6 HS5
      go_wp2_with fail
      refine (HP.out _).mono ?_
      rintro e w7 ⟨a7, l7, p7, rfl, hs7, hw7⟩
      have C7 : Hid (Chg [] w w7) := hide (C6.out.trans hw7)
      have HS7 := hide hs7
      obtain ⟨a7', p7', e7, _⟩ := hs7.open HNe.out
      cases e7
      rw [HLL.out] at HS7 ⊢
      clear hs7 hw7
      go_wp2_with fail
      refine (Clone_any _ _ _ HS7.out (by rw [HLL.out]; omega)).mono ?_
      rintro e w8 ⟨v8, rfl, hI8, hw8⟩
      have HI8 := hide hI8.toSee
      have C8 : Hid (Chg [] w w8) := hide (C7.out.trans hw8)
      have HS8 := hide (HS7.out.keep hw8)
      clear hI8 hw8 HS7
      go_wp2_with fail
      refine (HWl.out _ _ HI8.out).mono ?_
      rintro e w9 ⟨rfl, hw9⟩
      have C9 : Hid (Chg [] w w9) := hide (C8.out.trans hw9)
      have HS9 := hide (HS8.out.keep hw9)
      clear hw9 HS8
      go_wp2_with fail
      refine (HCm.out _ _ HS9.out C9.out).mono ?_
      rintro e w10 ⟨rfl, hw10⟩
      have C10 : Hid (Chg [] w w10) := hide (C9.out.trans hw10)
      clear hw10
      go_wp2_with fail
      refine (awake_any _).mono ?_
      rintro e w11 ⟨rfl, hw11⟩
      have C11 : Hid (Chg [] w w11) := hide (C10.out.trans hw11)
      clear hw11
      go_wp2
      go_ret
      exact ⟨rfl, C11.out⟩

set_option maxRecDepth 100000 in
set_option maxHeartbeats 4000000 in
theorem least_yes_D (v : Value) (xs : List Int) (n : Nat) (w : World) (hv : See w v xs) (hlm : xs.length ≤ 9223372036854775807) (hW : W.isW xs 200 = true) (h1 : 1 ≤ n) (h40 : n ≤ 40) (hF : n ≤ W.far xs) (hl : xs.length = (W.fewW n).length) (hc : ¬ cmpL (W.fewW n) xs ≤ 0) (h60 : 60 < xs.getD (xs.length - 1) 0) :
    Calls Try.prog 11 #[v, .int .i64 (n : Int)] w (Ret (.bool true) w) := by
  have HP := hide fun ws => Weights_yes n h1 h40 ws
  have hfl := W.fewW_len h40
  have hsz := sizeW_pos n
  have HNe : Hid (W.fewW n ≠ []) := hide (by intro e; rw [e] at hfl; simp at hfl; omega)
  have HWl := hide fun v' ws (h : See ws v' (W.fewW n)) => Weighs_any v' (W.fewW n) ws h (by omega)
  unfold weighsV at HWl
  rw [if_pos (few_W h40)] at HWl
  have hmn := hfl.2
  generalize W.far (W.fewW n) = MM at HWl hmn hfl
  have dmn : decide ((n : Int) ≤ (MM : Int)) = true := by simp; omega
  obtain ⟨LL, hLL⟩ : ∃ LL, (W.fewW n).length = LL := ⟨_, rfl⟩
  have hll4 : LL ≤ 4 := by omega
  have HLL := hide hLL
  have HCm := hide fun u ws (hu : See ws u (W.fewW n)) (hw : Chg [] w ws) => Compare_any u v (W.fewW n) xs ws hu (hv.keep hw) hl (by rw [hLL]; omega)
  rw [hLL] at hl
  generalize cmpL (W.fewW n) xs = c at HCm hc
  clear hLL hfl hsz
  have HRW := hide fun ws (hw : Chg [] w ws) => RWeights_any v xs 200 ws (hv.keep hw) hlm
  rw [hW] at HRW
  have HL := hide fun ws (hw : Chg [] w ws) => list_any v xs ws (hv.keep hw)
  have HWs := hide fun v' ws (h : See ws v' (xs.take 16)) => Weighs_any v' (xs.take 16) ws h (by rw [List.length_take]; omega)
  have HFive := hide fun v' ws (h : See ws v' [1, 3, 9, 27, 81]) => Weighs_any v' [1, 3, 9, 27, 81] ws h (by simp)
  rw [five_V] at HFive
  rw [weighsV_take] at HWs
  unfold weighsV at HWs
  rw [hW] at HWs
  simp only [if_true] at HWs
  obtain ⟨hl1, hl5, _⟩ := W.isW_iff.1 hW
  have hne : xs ≠ [] := by rintro rfl; simp at hl1
  obtain ⟨a, cap, rfl, hcell⟩ := hv.open hne
  obtain ⟨_, _, e0, hlc, _⟩ := hv.len
  cases e0
  have HFl : Hid (∀ ws, Chg [] w ws → ws.cell? (a.add (xs.length - 1)) = some (.int .i64 (xs.getD (xs.length - 1) 0))) := hide fun ws hw => hcell ws hw (xs.length - 1) (by omega)
  have hfp := isW_far_pow hW
  generalize W.far xs = FF at HWs hfp hF
  obtain ⟨L, hL⟩ : ∃ L, L = xs.length := ⟨_, rfl⟩
  rw [← hL] at HL HRW HCm hl1 hl5 hlc hfp HFl hl h60 ⊢
  clear hW hv hcell hne hL hlm
  obtain ⟨Q, hQe⟩ : ∃ Q, Q = pw L / 2 := ⟨_, rfl⟩
  rw [← hQe] at hfp
  have HQ : Hid (((pw L : Nat) : Int) / 2 = (Q : Int)) := hide (by omega)
  have dq : decide ((Q : Int) < (FF : Int)) = false := by simp; omega
  have d00 : decide ((FF : Int) < 0) = false := by simp
  have hnq : ¬ Q < FF := by omega
  have hm6 : ¬ (6 < L) := by omega
  clear hfp hQe
  have dF : decide ((FF : Int) < (n : Int)) = false := by simp; omega
  subst hl
  have dL : decide ((L : Int) < (L : Int)) = false := by simp
  have eL : ((L : Int) == (L : Int)) = true := by simp
  have dc : decide (c ≤ 0) = false := by simpa using hc
  have eM : (L : Int) - 1 = ((L - 1 : Nat) : Int) := by omega
  have eM0 : (0 : Int) ≤ ((L - 1 : Nat) : Int) := by omega
  have eM1 : ((L - 1 : Nat) : Int) < (L : Int) := by omega
  generalize xs.getD (L - 1) 0 = xl at HFl h60
  have d60 : decide (60 < xl) = true := by simpa using h60
  generalize L - 1 = M at HFl eM eM0 eM1
  go_enter Try.func11, Try.ntmps11
  go_wp2_with fail
  refine (HL.out _ (Chg.refl _ _)).mono ?_
  rintro e w1 ⟨v1, rfl, hI1, hw1⟩
  have HI1 := hide hI1.toSee
  have C1 : Hid (Chg [] w w1) := hide hw1
  clear hI1 hw1
  go_wp2_with fail
  refine (HWs.out _ _ HI1.out).mono ?_
  rintro e w2 ⟨rfl, hw2⟩
  have C2 : Hid (Chg [] w w2) := hide (C1.out.trans hw2)
  clear hw2
  go_wp2
  go_loop [7, 28] (fun r i => ∃ j : Nat, j ≤ L ∧ i = .int .i64 (j : Int) ∧ r = .int .i64 (pw j : Int)) (fun _ i => L - (intOf i).toNat)
  case atStart => exact ⟨0, Nat.zero_le _, rfl, rfl⟩
  case round =>
    obtain ⟨j, hj, rfl, rfl⟩ := hrel
    have hp6 : pw j ≤ 729 := pow6 (by omega)
    by_cases hlt : j < L
    · have dl : decide ((j : Int) < (L : Int)) = true := by simpa using hlt
      go_wp2
      go_round
      case rel => exact ⟨j + 1, by omega, by go_num, by rw [pw_succ]; go_num⟩
      case measure => simp [intOf]; omega
    · obtain rfl : j = L := by omega
      have dl : decide ((j : Int) < (j : Int)) = false := by simp
      have hQ := HQ.out
      have hP0 : (0 : Int) ≤ (pw j : Int) := by omega
      generalize pw j = P at hQ hp6 hP0 ⊢
      clear hlt hj
      go_wp2_with fail
      refine (HRW.out _ C2.out).mono ?_
      rintro e w3 ⟨rfl, hw3⟩
      have C3 : Hid (Chg [] w w3) := hide (C2.out.trans hw3)
      clear hw3
      go_wp2_with fail
      have hs5 := see5 w3
      have C5 : Hid (Chg [] w (w3.alloc (.cells #[.int .i64 1, .int .i64 3, .int .i64 9, .int .i64 27, .int .i64 81] 3))) := hide (C3.out.alloc _)
      have HS5 := hide hs5
      clear hs5
      refine (HFive.out _ _ HS5.out).mono ?_
      rintro e w6 ⟨rfl, hw6⟩
      have C6 : Hid (Chg [] w w6) := hide (C5.out.trans hw6)
      clear hw6 HS5
      go_wp2_with fail
      refine (HP.out _).mono ?_
      rintro e w7 ⟨a7, l7, p7, rfl, hs7, hw7⟩
      have C7 : Hid (Chg [] w w7) := hide (C6.out.trans hw7)
      have HS7 := hide hs7
      obtain ⟨a7', p7', e7, _⟩ := hs7.open HNe.out
      cases e7
      rw [HLL.out] at HS7 ⊢
      clear hs7 hw7
      go_wp2_with fail
      refine (Clone_any _ _ _ HS7.out (by rw [HLL.out]; omega)).mono ?_
      rintro e w8 ⟨v8, rfl, hI8, hw8⟩
      have HI8 := hide hI8.toSee
      have C8 : Hid (Chg [] w w8) := hide (C7.out.trans hw8)
      have HS8 := hide (HS7.out.keep hw8)
      clear hI8 hw8 HS7
      go_wp2_with fail
      refine (HWl.out _ _ HI8.out).mono ?_
      rintro e w9 ⟨rfl, hw9⟩
      have C9 : Hid (Chg [] w w9) := hide (C8.out.trans hw9)
      have HS9 := hide (HS8.out.keep hw9)
      clear hw9 HS8
      go_wp2_with fail
      refine (HCm.out _ _ HS9.out C9.out).mono ?_
      rintro e w10 ⟨rfl, hw10⟩
      have C10 : Hid (Chg [] w w10) := hide (C9.out.trans hw10)
      have fl := HFl.out _ C10.out
      clear hw10
      go_wp2_with fail
      refine (awake_any _).mono ?_
      rintro e w11 ⟨rfl, hw11⟩
      have C11 : Hid (Chg [] w w11) := hide (C10.out.trans hw11)
      clear hw11
      go_wp2
      go_ret
      exact ⟨rfl, C11.out⟩

theorem weighLeast_walk (v0 v1 : Value) (w : World) (h0 : IsInts w v0) (h1 : IsInt v1) : Calls Try.prog 11 #[v0, v1] w (Ret (.bool true) w) := by
  obtain ⟨xs, hv, hl⟩ := h0
  obtain ⟨x, rfl, _⟩ := h1
  by_cases h : x < 1 ∨ 40 < x
  · cases hW : W.isW xs 200 with
    | false => exact least_no_bad v0 xs x w hv hW h
    | true => exact least_no_good v0 xs x w hv hl hW h
  · rw [show x = (x.toNat : Int) by omega]
    have h1 : 1 ≤ x.toNat := by omega
    have h40 : x.toNat ≤ 40 := by omega
    cases hW : W.isW xs 200 with
    | false => exact least_yes_bad v0 xs x.toNat w hv hW h1 h40
    | true =>
      by_cases hF : W.far xs < x.toNat
      · exact least_yes_A v0 xs x.toNat w hv hl hW h1 h40 hF
      · have hF' : x.toNat ≤ W.far xs := by omega
        have hsh := few_short h1 h40 hW hF'
        by_cases hL : (W.fewW x.toNat).length < xs.length
        · exact least_yes_B v0 xs x.toNat w hv hl hW h1 h40 hF' hL
        · have hLe : xs.length = (W.fewW x.toNat).length := by omega
          by_cases hc : cmpL (W.fewW x.toNat) xs ≤ 0
          · exact least_yes_C v0 xs x.toNat w hv hl hW h1 h40 hF' hLe hc
          · refine least_yes_D v0 xs x.toNat w hv hl hW h1 h40 hF' hLe hc ?_
            rcases Int.lt_or_le 60 (xs.getD (xs.length - 1) 0) with h6 | h6
            · exact h6
            · exact absurd (few_cmp h40 hW hF' hLe h6) hc
end Go.Proofs.Ytohdjlgghkcaoaa
