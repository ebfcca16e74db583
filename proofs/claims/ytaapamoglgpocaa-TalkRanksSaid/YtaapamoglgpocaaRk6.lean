/- Walk: minors, the reference's; Rank, Rank2. -/
import Derived.Test.YtaapamoglgpocaaRk5
import Derived.Test.YtaapamoglgpocaaRDepth
namespace Go.Proofs.Ytaapamoglgpocaa
open Go.RowKit

theorem bit_eq0 (a i : Nat) : (((a / 2 ^ i % 2 : Nat) : Int) == 0) = !bitv a i := by
  rw [← bit_eq]
  rcases Nat.mod_two_eq_zero_or_one (a / 2 ^ i) with h | h <;> rw [h] <;> rfl
theorem pick_bit (m s : Nat) (h : bitv s m = true) : pick (m + 1) s = pick m s ++ [m] := by
  rw [pick_succ, if_pos (of_decide_eq_true h)]
theorem pick_not (m s : Nat) (h : bitv s m = false) : pick (m + 1) s = pick m s := by
  rw [pick_succ, if_neg (of_decide_eq_false h)]
theorem pick_zero (s : Nat) : pick 0 s = [] := rfl
theorem widthOf_snoc (I C : List Nat) (i : Nat) : widthOf (I ++ [i]) C = C.length := by unfold widthOf; rw [if_neg (by simp)]
theorem tblM_snoc (M : Nat → Nat → Int) (I C : List Nat) (i : Nat) : tblM M (I ++ [i]) C = tblM M I C ++ [C.map (M i)] := by unfold tblM; simp
theorem imaxN (x y : Nat) : imax (x : Int) (y : Int) = ((max x y : Nat) : Int) := by unfold imax; split <;> omega
theorem tmod2' : (List.range 49).all (fun x => decide ((-1 ≤ ((x : Int) - 24).tmod 2 ∧ ((x : Int) - 24).tmod 2 ≤ 1) ∧ (((x : Int) - 24) % 2 = 0 ↔ ((x : Int) - 24).tmod 2 = 0))) = true := by decide +kernel
theorem tmod2 {D : Int} (h : -24 ≤ D ∧ D ≤ 24) : (-1 ≤ D.tmod 2 ∧ D.tmod 2 ≤ 1) ∧ ((2 : Int) ∣ D ↔ D.tmod 2 = 0) := by
  have := of_decide_eq_true (List.all_eq_true.1 tmod2' (D + 24).toNat (List.mem_range.2 (by omega)))
  rw [show (((D + 24).toNat : Nat) : Int) - 24 = D by omega] at this
  refine ⟨this.1, ?_⟩
  rw [← this.2]
  omega
/-- What a part gives. -/
theorem minorQ_yes {p : Int} {M : Nat → Nat → Int} {m n R k : Nat} (h : (pick m R).length = widthOf (pick m R) (pick n k)) (hd : ¬ p ∣ dets ((pick m R).map M) (pick n k)) : minorQ p M m n R k = widthOf (pick m R) (pick n k) := by
  unfold minorQ; rw [if_pos h, if_neg hd]
theorem minorQ_no {p : Int} {M : Nat → Nat → Int} {m n R k : Nat} (hd : p ∣ dets ((pick m R).map M) (pick n k)) : minorQ p M m n R k = 0 := by
  unfold minorQ; rw [if_pos hd]; split <;> rfl
theorem minorQ_not {p : Int} {M : Nat → Nat → Int} {m n R k : Nat} (h : (pick m R).length ≠ widthOf (pick m R) (pick n k)) : minorQ p M m n R k = 0 := by
  unfold minorQ; rw [if_neg h]
theorem minorQ_nil {p : Int} {M : Nat → Nat → Int} {m n R k : Nat} (h : pick m R = []) : minorQ p M m n R k = 0 := by
  unfold minorQ widthOf; rw [if_pos h]; split
  · split <;> rfl
  · rfl

/-- The determinant of a part, or 1 where there is none. -/
theorem det_part (M : Nat → Nat → Int) (hM : ∀ i c, -1 ≤ M i c ∧ M i c ≤ 1) (p : Int) (h1 : ¬ p ∣ 1) {m n R k : Nat} (h4 : m ≤ 4) (h : (pick m R).length = widthOf (pick m R) (pick n k)) (v : Value) (w : World) (hv : See2 w v (tblM M (pick m R) (pick n k))) :
    ∃ D, Calls Try.prog 104 #[v] w (Ret (.int .i64 D) w) ∧ (-24 ≤ D ∧ D ≤ 24) ∧ minorQ p M m n R k = if p ∣ D then 0 else widthOf (pick m R) (pick n k) := by
  by_cases hI : pick m R = []
  · refine ⟨1, ?_, by omega, ?_⟩
    · rw [hI] at hv
      obtain ⟨ao, cap, rfl⟩ := hv.shape
      exact det_zero ao cap w
    · rw [minorQ_nil hI, if_neg h1]
      unfold widthOf; rw [if_pos hI]
  · have hw : (pick m R).length = (pick n k).length := by
      rw [h]; unfold widthOf; rw [if_neg hI]
    have hle := pick_le m R
    refine ⟨dets ((pick m R).map M) (pick n k), det_any M hM _ v (pick m R) (pick n k) w rfl hw.symm (by omega) hv, ?_, ?_⟩
    · exact dets_24 (by rw [List.length_map, hw]) (by omega) (fun y hy c => by
        obtain ⟨i, _, rfl⟩ := List.mem_map.1 hy
        exact hM i c)
    · by_cases hd : p ∣ dets ((pick m R).map M) (pick n k)
      · rw [minorQ_no hd, if_pos hd]
      · rw [minorQ_yes h hd, if_neg hd]

set_option maxRecDepth 100000 in
set_option maxHeartbeats 4000000 in
theorem minors_any (two : Bool) (p : Int) (hp : p = if two = true then 2 else 0) (v : Value) (t : List (List Int)) (w : World) (hv : See2 w v t) (ht : T.isTab t = true) :
    Calls Try.prog 64 #[v, .bool two] w (Ret (.int .i64 (rankN p t : Int)) w) := by
  have kmax := fun w ts t x y => @run_max_2 Try.prog w ts t x y
  obtain ⟨⟨t1, t2, t3, t4⟩, _⟩ := T.isTab_iff.1 ht
  obtain ⟨i0, hi, hz0, hz1, hz2⟩ := info_parts infoInts
  obtain ⟨i1, hi1, hy0, hy1, hy2⟩ := info_parts infoInt
  have hne : t ≠ [] := by rintro rfl; simp at t1
  obtain ⟨a, cap, rfl, _, hcc⟩ := hv.open hne
  have hM : ∀ i c, -1 ≤ T.ent t i c ∧ T.ent t i c ≤ 1 := fun i c => by have := T.ent_val (i := i) (j := c) ht; omega
  obtain ⟨p1, p2⟩ := pow_le16 t2
  obtain ⟨q1, q2⟩ := pow_le16 t4
  have e1 : (2 : Int) ^ t.length = ((2 ^ t.length : Nat) : Int) := by simp
  have e2 : (2 : Int) ^ T.cols t = ((2 ^ T.cols t : Nat) : Int) := by simp
  have n64 : (t.length : Int) ≤ 64 := by omega
  have m64 : (T.cols t : Int) ≤ 64 := by omega
  have HRow : Hid (∀ i, i < t.length → (t.getD i []).length = T.cols t) := hide fun i h => T.tab_row ht h
  have HC := hide hcc
  have hq : rankN p t = minOut (minorQ p (T.ent t) t.length (T.cols t)) (2 ^ T.cols t) (2 ^ t.length) := rfl
  have HQ4 : Hid (∀ R k, minorQ p (T.ent t) t.length (T.cols t) R k ≤ 4) := hide fun R k => by
    have h1 := pick_le t.length R
    unfold minorQ
    split
    · rename_i h
      split <;> omega
    · omega
  have HDet := hide fun (R k : Nat) (h : (pick t.length R).length = widthOf (pick t.length R) (pick (T.cols t) k)) (v : Value) (ws : World) (hs : See2 ws v (tblM (T.ent t) (pick t.length R) (pick (T.cols t) k))) =>
    det_part (T.ent t) hM p (by rw [hp]; split <;> decide) t2 h v ws hs
  have HNot : Hid (∀ R k, (pick t.length R).length ≠ widthOf (pick t.length R) (pick (T.cols t) k) → minorQ p (T.ent t) t.length (T.cols t) R k = 0) := hide fun R k h => minorQ_not h
  have HEnt : Hid (∀ i c, (t.getD i []).getD c 0 = T.ent t i c) := hide fun i c => rfl
  rw [hq]
  have HP := hide hp
  clear hp hq hM hcc hv hne ht
  generalize T.ent t = M at *
  generalize hn : T.cols t = n at *
  generalize hm : t.length = m at *
  clear hn hm
  generalize hqq : minorQ p M m n = Q at *
  clear hqq
  obtain ⟨P, hP⟩ : ∃ P, P = 2 ^ m := ⟨_, rfl⟩
  obtain ⟨N, hN⟩ : ∃ N, N = 2 ^ n := ⟨_, rfl⟩
  rw [← hP] at p1 p2 e1 ⊢
  rw [← hN] at q1 q2 e2 ⊢
  have HPm := hide hP
  have HNn := hide hN
  clear hP hN
  have HB : Hid (∀ N' R, minOut Q N' R ≤ 4) := hide fun N' R => by
    rcases minOut_mem Q N' R with h | ⟨R', k, _, _, h⟩
    · omega
    · rw [h]; exact HQ4.out R' k
  have HB2 : Hid (∀ R b k, b ≤ 4 → minIn Q R b k ≤ 4) := hide fun R b k hb => by
    rcases minIn_mem Q R b k with h | ⟨k', _, h⟩
    · omega
    · rw [h]; exact HQ4.out R k'
  go_enter Try.func64, Try.ntmps64
  go_wp2
  go_loopw [5, 19] (fun bv iv wr => ∃ R : Nat, R ≤ P ∧ bv = .int .i64 (minOut Q N R : Int) ∧ iv = .int .i64 (R : Int) ∧ Hid (Chg [] w wr)) (fun _ iv _ => (P - (intOf iv).toNat))
  case atStart => exact ⟨0, Nat.zero_le _, rfl, rfl, hide (Chg.refl _ _)⟩
  case round =>
    obtain ⟨R, hR, rfl, rfl, hI⟩ := hrel
    by_cases hlt : R < P
    · have d1 : decide ((R : Int) < (P : Int)) = true := by simpa using hlt
      obtain ⟨bo0, bc0, hrow0⟩ := HC.out 0 (by omega)
      have f0 := (hrow0 wr hI.out).1
      rw [add_nought, HRow.out 0 (by omega)] at f0
      clear hrow0
      obtain ⟨b, hb⟩ : ∃ b, b = minOut Q N R := ⟨_, rfl⟩
      have hb4 := HB.out N R
      rw [← hb] at hb4 ⊢
      have HBe := hide hb
      clear hb
      go_wp2
      go_loopw [5, 27] (fun bv iv wr => ∃ k : Nat, k ≤ N ∧ bv = .int .i64 (minIn Q R b k : Int) ∧ iv = .int .i64 (k : Int) ∧ Hid (Chg [] w wr)) (fun _ iv _ => (N - (intOf iv).toNat))
      case atStart => exact ⟨0, Nat.zero_le _, rfl, rfl, hI⟩
      case round =>
        obtain ⟨k, hk, rfl, rfl, hJ⟩ := hrel
        by_cases hlk : k < N
        · have d2 : decide ((k : Int) < (N : Int)) = true := by simpa using hlk
          obtain ⟨bb, hbb⟩ : ∃ bb, bb = minIn Q R b k := ⟨_, rfl⟩
          have hbb4 := HB2.out R b k hb4
          rw [← hbb] at hbb4 ⊢
          have HBB := hide hbb
          clear hbb f0
          go_wp2
          go_loopw [8, 9, 32] (fun mv nv iv ws => ∃ r : Nat, r ≤ m ∧ nv = .int .i64 (widthOf (pick r R) (pick n k) : Int) ∧ iv = .int .i64 (r : Int) ∧ Hid (Rows2 ws w.heap.size mv (tblM M (pick r R) (pick n k)) ∧ Chg [] w ws)) (fun _ _ iv _ => (m - (intOf iv).toNat))
          case atStart => exact ⟨0, Nat.zero_le _, rfl, rfl, hide ⟨Rows2.nil _ _, hJ.out⟩⟩
          case round =>
            obtain ⟨r, hr, rfl, rfl, hK⟩ := hrel
            by_cases hlr : r < m
            · have d3 : decide ((r : Int) < (m : Int)) = true := by simpa using hlr
              obtain ⟨bo, bc, hrow⟩ := HC.out r hlr
              obtain ⟨fr, hs⟩ := hrow wr hK.out.2
              have hlen := HRow.out r hlr
              rw [hlen] at fr hs
              have HS := hide hs
              have HLen := hide hlen
              have h1 := shr_int R r
              have l1 : R / 2 ^ r < 2 ^ 63 := Nat.lt_of_le_of_lt (Nat.div_le_self _ _) (by omega)
              have a1 := and_one _ l1
              have b1 := bit_eq0 R r
              have HBit : Hid (bitv R r = bitv R r) := hide rfl
              have hii : (r : Int) ≤ 62 := by omega
              have HYes : Hid (bitv R r = true → pick (r + 1) R = pick r R ++ [r]) := hide (pick_bit r R)
              have HNo : Hid (bitv R r = false → pick (r + 1) R = pick r R) := hide (pick_not r R)
              generalize bitv R r = pb at b1 HYes HNo
              generalize R / 2 ^ r % 2 = m1 at a1 b1
              generalize R / 2 ^ r = qq1 at h1 a1
              clear l1 hs hrow hlen HBit
              cases pb with
              | false =>
                have b2 : ((m1 : Int) == 0) = true := b1
                clear b1
                go_wp2
                go_roundw
                case rel => exact ⟨r + 1, by omega, by rw [HNo.out rfl], by go_num, hide ⟨by rw [HNo.out rfl]; exact hK.out.1, hK.out.2⟩⟩
                case measure => simp [intOf]; omega
              | true =>
                have b2 : ((m1 : Int) == 0) = false := b1
                have HY := hide (HYes.out rfl)
                clear b1 HYes HNo
                obtain ⟨B4, hB4⟩ : ∃ B4, B4 = wr.heap.size := ⟨_, rfl⟩
                have HB4 := hide hB4
                clear hB4
                go_wp2
                go_loopw [12, 44] (fun rv iv ws => ∃ c : Nat, c ≤ n ∧ iv = .int .i64 (c : Int) ∧ Hid (ws.ownsRow B4 3 1 rv (pick c k).length (((pick c k).map (M r)).map (Value.int .i64)) ∧ Chg [] wr ws)) (fun _ iv _ => (n - (intOf iv).toNat))
                case atStart => exact ⟨0, Nat.zero_le _, rfl, hide ⟨World.ownsRow_nil _ _ _ _, Chg.refl _ _⟩⟩
                case round =>
                  obtain ⟨c, hc, rfl, hL⟩ := hrel
                  by_cases hlc : c < n
                  · have d4 : decide ((c : Int) < (n : Int)) = true := by simpa using hlc
                    obtain ⟨ra, rcap, hre, hcell⟩ := HS.out.open (by intro h; have := HLen.out; rw [h] at this; simp at this; omega)
                    rw [HLen.out] at hre hcell
                    cases hre
                    have fx := hcell _ hL.out.2 c hlc
                    rw [HEnt.out] at fx
                    obtain ⟨x, hx⟩ : ∃ x, x = M r c := ⟨_, rfl⟩
                    rw [← hx] at fx
                    have HX := hide hx
                    have g1 := shr_int k c
                    have l2 : k / 2 ^ c < 2 ^ 63 := Nat.lt_of_le_of_lt (Nat.div_le_self _ _) (by omega)
                    have a2 := and_one _ l2
                    have b3 := bit_eq k c
                    have hcc' : (c : Int) ≤ 62 := by omega
                    have HYc : Hid (bitv k c = true → pick (c + 1) k = pick c k ++ [c]) := hide (pick_bit c k)
                    have HNc : Hid (bitv k c = false → pick (c + 1) k = pick c k) := hide (pick_not c k)
                    generalize bitv k c = pc at b3 HYc HNc
                    generalize k / 2 ^ c % 2 = m2 at a2 b3
                    generalize k / 2 ^ c = qq2 at g1 a2
                    clear l2 hcell hx h1 a1 fr
                    cases pc with
                    | false =>
                      have b4 : ((m2 : Int) == 1) = false := b3
                      have HZn := hide (HNc.out rfl)
                      clear b3 HYc HNc
                      go_wp2
                      go_roundw
                      case rel => exact ⟨c + 1, by omega, by go_num, hide ⟨by rw [HZn.out]; exact hL.out.1, hL.out.2⟩⟩
                      case measure => simp [intOf]; omega
                    | true =>
                      have b4 : ((m2 : Int) == 1) = true := b3
                      have HZc := hide (HYc.out rfl)
                      clear b3 HYc HNc
                      have HO := hide hL.out.1
                      have CL := hide hL.out.2
                      have hlen4 := pick_le c k
                      have hzz := hL.out.2.size
                      have HZ : Hid (B4 ≤ wr.heap.size) := hide (by rw [HB4.out]; exact hzz)
                      clear hL hzz
                      go_wp2_with (at_builtin; refine wpList_append_own _ rfl _ _ 38 rfl B4 3 i1 (.int .i64 0) 1 8 Try.underlying38 hi1 hy0 hy1 hy2 rfl (by decide) _ _ _ rfl (HO.out.alloc _) ⟨wr.heap.size, 0, none⟩ 1 1 [.int .i64 x] rfl rfl (by intro j u hj; rw [add_zero_row, (Box.new wr _ _).cell j]; simpa using hj) (by intro y hy; rw [List.mem_singleton] at hy; subst hy; rfl) (by unfold maxLen; omega) (by omega) (by have := HZ.out; simp; omega) ?_; intro v1 w3 hown1 hgrow1 _)
                      go_roundw
                      case rel =>
                        refine ⟨c + 1, by omega, by go_num, hide ⟨?_, (CL.out.alloc _).grew (HO.out.alloc _) (by rw [HB4.out]; exact Nat.le_refl _) hgrow1⟩⟩
                        rw [HZc.out, List.map_append, List.map_append, List.length_append]
                        rw [HX.out] at hown1
                        exact hown1
                      case measure => simp [intOf]; omega
                  · have d4 : decide ((c : Int) < (n : Int)) = false := by simpa using hlc
                    obtain ⟨ao, rcap, rfl, hrc⟩ := row_shape hL.out.1
                    have hcn : c = n := by omega
                    have HO := hide hL.out.1
                    rw [hcn] at HO ⊢
                    clear hcn
                    have CL := hide (hK.out.2.trans hL.out.2)
                    have HK2 := hide (let ⟨us, hus, ho, hr'⟩ := hK.out.1; (⟨us, hus, hL.out.2.row ho (fun _ _ => List.not_mem_nil), fun i u h => (hr' i u h).keep hL.out.2⟩ : Rows2 wr w.heap.size _ (tblM M (pick r R) (pick n k))))
                    obtain ⟨us, hus, ho, hr'⟩ := HK2.out
                    have HUs := hide hus
                    have HOm := hide ho
                    have HRm := hide hr'
                    have hlm := pick_le r R
                    have HlI := hide (tblM_len M (pick r R) (pick n k))
                    have hsz := CL.out.size
                    rw [HlI.out] at HUs HOm
                    have hwd : widthOf (pick (r + 1) R) (pick n k) = (pick n k).length := by rw [HY.out, widthOf_snoc]
                    have HWd := hide hwd
                    clear hwd hus ho hr' HK2 fr hL hK
                    obtain ⟨L, hL⟩ : ∃ L, L = (pick n k).length := ⟨_, rfl⟩
                    rw [← hL] at HO HWd ⊢
                    have HLe := hide hL
                    clear hL
                    go_wp2_with (at_builtin; refine wpList_append_own _ rfl _ _ 22 rfl w.heap.size 38 i0 (.slice none 0 0) 1 24 Try.underlying22 hi hz0 hz1 hz2 rfl (by decide) _ _ _ rfl (HOm.out.alloc _) ⟨wr.heap.size, 0, none⟩ 1 1 [.slice ao L rcap] rfl rfl (by intro j u hj; rw [add_zero_row, (Box.new wr _ _).cell j]; simpa using hj) (by intro y hy; rw [List.mem_singleton] at hy; subst hy; rfl) (by unfold maxLen; omega) (by omega) (by simp; omega) ?_; intro v1 w3 hown1 hgrow1 _)
                    go_roundw
                    case rel =>
                      refine ⟨r + 1, by omega, by rw [HWd.out], by go_num, hide ⟨?_, (CL.out.alloc _).grew (HOm.out.alloc _) (Nat.le_refl _) hgrow1⟩⟩
                      rw [HY.out, tblM_snoc]
                      have hgA : Chg [] wr (wr.alloc (.cells #[.slice ao L rcap] 38)) := (Chg.refl _ _).alloc _
                      have hInts : Ints wr (.slice ao L rcap) ((pick n k).map (M r)) := by
                        unfold Ints
                        rw [List.length_map, ← HLe.out]
                        exact row_low HO.out (Nat.zero_le _)
                      exact Rows2.push (us := us) (u := .slice ao L rcap) (w := wr.alloc (.cells #[.slice ao L rcap] 38)) (by rw [HlI.out]; exact HUs.out) (by rw [HlI.out]; exact HOm.out.alloc _) (fun i u h => (HRm.out i u h).keep hgA) (hInts.keep hgA) hgrow1 (by rw [HlI.out]; exact hown1)
                    case measure => simp [intOf]; omega
            · have d3 : decide ((r : Int) < (m : Int)) = false := by simpa using hlr
              obtain rfl : m = r := by omega
              have hsee := hK.out.1.toSee2
              obtain ⟨ao, rcap, rfl⟩ := hsee.shape
              have CK := hide hK.out.2
              rw [tblM_len] at hsee ⊢
              have HSee := hide hsee
              clear hsee hK
              have hmx : minIn Q R b (k + 1) = max bb (Q R k) := by rw [HBB.out]; rfl
              have HMx := hide hmx
              clear hmx
              by_cases he : (pick m R).length = widthOf (pick m R) (pick n k)
              · have HD := hide (HDet.out R k he _ _ HSee.out)
                obtain ⟨D, hcall, hD24, hQ⟩ := HD.out
                have HCall := hide hcall
                have HQ := hide hQ
                rw [← he] at HQ ⊢
                have hl4 := pick_le m R
                clear HD HSee hcall hQ he
                generalize (pick m R).length = lI at *
                have d5 : ((lI : Int) != (lI : Int)) = false := by simp
                have HI := imaxN bb lI
                cases two with
                | false =>
                  have HPp : Hid (p = 0) := hide HP.out
                  by_cases hD0 : D = 0
                  · have d6 : (D != 0) = false := by simpa using hD0
                    have hQ0 : Q R k = 0 := by rw [HQ.out, HPp.out, if_pos (by rw [hD0]; exact Int.dvd_refl 0)]
                    have HN : Hid (minIn Q R b (k + 1) = bb) := hide (by rw [HMx.out, hQ0]; omega)
                    clear hQ0 HMx HQ HPp hD0
                    go_wp2_with fail
                    refine HCall.out.mono ?_
                    rintro e w2 ⟨rfl, hw2⟩
                    go_wp2
                    go_roundw
                    case rel => exact ⟨k + 1, by omega, by rw [HN.out], by go_num, hide (CK.out.trans hw2)⟩
                    case measure => simp [intOf]; omega
                  · have d6 : (D != 0) = true := by simpa using hD0
                    have hQ0 : Q R k = lI := by rw [HQ.out, HPp.out, if_neg (fun h => hD0 (Int.zero_dvd.1 h))]
                    have HN : Hid (minIn Q R b (k + 1) = max bb lI) := hide (by rw [HMx.out, hQ0])
                    clear hQ0 HMx HQ HPp hD0
                    generalize max bb lI = mx at HI HN
                    go_wp2_with fail
                    refine HCall.out.mono ?_
                    rintro e w2 ⟨rfl, hw2⟩
                    go_wp2
                    go_roundw
                    case rel => exact ⟨k + 1, by omega, by rw [HN.out], by go_num, hide (CK.out.trans hw2)⟩
                    case measure => simp [intOf]; omega
                | true =>
                  have HPp : Hid (p = 2) := hide HP.out
                  obtain ⟨E, hE⟩ : ∃ E, E = D.tmod 2 := ⟨_, rfl⟩
                  have hE1 : D.tmod 2 = E := hE.symm
                  have hE3 := tmod2 hD24
                  rw [← hE] at hE3
                  have hE2 : IntKind.i64.wrap E = E := by rw [IntKind.wrap_i64]; omega
                  have hdv : (2 : Int) ∣ D ↔ E = 0 := hE3.2
                  clear hE3
                  clear hE
                  by_cases hD0 : E = 0
                  · have d6 : (E != 0) = false := by simpa using hD0
                    have hQ0 : Q R k = 0 := by rw [HQ.out, HPp.out, if_pos (hdv.2 hD0)]
                    have HN : Hid (minIn Q R b (k + 1) = bb) := hide (by rw [HMx.out, hQ0]; omega)
                    clear hQ0 HMx HQ HPp hD0 hdv
                    go_wp2_with fail
                    refine HCall.out.mono ?_
                    rintro e w2 ⟨rfl, hw2⟩
                    go_wp2
                    go_roundw
                    case rel => exact ⟨k + 1, by omega, by rw [HN.out], by go_num, hide (CK.out.trans hw2)⟩
                    case measure => simp [intOf]; omega
                  · have d6 : (E != 0) = true := by simpa using hD0
                    have hQ0 : Q R k = lI := by rw [HQ.out, HPp.out, if_neg (fun h => hD0 (hdv.1 h))]
                    have HN : Hid (minIn Q R b (k + 1) = max bb lI) := hide (by rw [HMx.out, hQ0])
                    clear hQ0 HMx HQ HPp hD0 hdv
                    generalize max bb lI = mx at HI HN
                    go_wp2_with fail
                    refine HCall.out.mono ?_
                    rintro e w2 ⟨rfl, hw2⟩
                    go_wp2
                    go_roundw
                    case rel => exact ⟨k + 1, by omega, by rw [HN.out], by go_num, hide (CK.out.trans hw2)⟩
                    case measure => simp [intOf]; omega
              · have HN : Hid (minIn Q R b (k + 1) = bb) := hide (by rw [HMx.out, HNot.out R k he]; omega)
                clear HMx HSee
                generalize widthOf (pick m R) (pick n k) = Wd at *
                generalize (pick m R).length = lI at *
                have d5 : ((lI : Int) != (Wd : Int)) = true := by simp; omega
                go_wp2
                go_roundw
                case rel => exact ⟨k + 1, by omega, by rw [HN.out], by go_num, CK⟩
                case measure => simp [intOf]; omega
        · have d2 : decide ((k : Int) < (N : Int)) = false := by simpa using hlk
          obtain rfl : N = k := by omega
          go_wp2
          go_roundw
          case rel => exact ⟨R + 1, by omega, by rw [HBe.out]; rfl, by go_num, hJ⟩
          case measure => simp [intOf]; omega
    · have d1 : decide ((R : Int) < (P : Int)) = false := by simpa using hlt
      obtain rfl : P = R := by omega
      go_wp2
      go_ret
      exact ⟨rfl, hI.out⟩

set_option maxRecDepth 100000 in
set_option maxHeartbeats 1000000 in
theorem RRank_any (v : Value) (t : List (List Int)) (w : World) (hv : See2 w v t) (ht : T.isTab t = true) : Calls Try.prog 28 #[v] w (Ret (.int .i64 (rankN 0 t : Int)) w) := by
  have HR := hide (minors_any false 0 rfl v t w hv ht)
  obtain ⟨ao, cap, rfl⟩ := hv.shape
  generalize rankN 0 t = N at *
  clear hv ht
  generalize t.length = n at *
  go_enter Try.func28, Try.ntmps28
  go_wp2_with fail
  refine HR.out.mono ?_
  rintro e w1 ⟨rfl, hw1⟩
  go_wp2
  go_ret
  exact ⟨rfl, hw1⟩
set_option maxRecDepth 100000 in
set_option maxHeartbeats 1000000 in
theorem RRank2_any (v : Value) (t : List (List Int)) (w : World) (hv : See2 w v t) (ht : T.isTab t = true) : Calls Try.prog 29 #[v] w (Ret (.int .i64 (rankN 2 t : Int)) w) := by
  have HR := hide (minors_any true 2 rfl v t w hv ht)
  obtain ⟨ao, cap, rfl⟩ := hv.shape
  generalize rankN 2 t = N at *
  clear hv ht
  generalize t.length = n at *
  go_enter Try.func29, Try.ntmps29
  go_wp2_with fail
  refine HR.out.mono ?_
  rintro e w1 ⟨rfl, hw1⟩
  go_wp2
  go_ret
  exact ⟨rfl, hw1⟩
end Go.Proofs.Ytaapamoglgpocaa
