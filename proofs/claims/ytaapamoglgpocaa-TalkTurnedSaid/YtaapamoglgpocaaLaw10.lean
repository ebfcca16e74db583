/- Walk: the statement TalkTurned. -/
import Derived.Test.YtaapamoglgpocaaTurnW
namespace Go.Proofs.Ytaapamoglgpocaa
open Go.RowKit

/-- A valid table and its ranks, lengths and partings. -/
theorem tab_small {u : List (List Int)} (hu : T.isTab u = true) : (∀ r ∈ u, r.length ≤ 1000000) ∧ u.length ≤ 1000000 ∧ u.length ≤ 9223372036854775807 := by
  obtain ⟨⟨t1, t2, t3, t4⟩, _⟩ := T.isTab_iff.1 hu
  refine ⟨fun r hr => ?_, by omega, by omega⟩
  have := (T.rowOk_iff.1 ((T.isTab_iff.1 hu).2 r hr)).1
  omega

theorem tab_copy {u : List (List Int)} (hu : T.isTab u = true) (v : Value) (ws : World) (h : See2 ws v u) : Calls Try.prog 18 #[v] ws fun e w' => ∃ v', e = .returned v' ∧ See2 w' v' u ∧ Chg [] ws w' := by
  have := table_any v u ws h (tab_small hu).2.2
  rwa [T.cut_of_isTab hu] at this
theorem rk_good {u : List (List Int)} (hu : T.isTab u = true) (v : Value) (ws : World) (h : See2 ws v u) : Calls Try.prog 26 #[v] ws (Ret (.tuple #[.int .i64 (rankN 0 u : Int), .int .i64 0]) ws) := by
  have := Rank_any v u ws h (tab_small hu).1 (tab_small hu).2.1
  unfold rankV at this
  rwa [if_pos hu] at this
theorem rk2_good {u : List (List Int)} (hu : T.isTab u = true) (v : Value) (ws : World) (h : See2 ws v u) : Calls Try.prog 27 #[v] ws (Ret (.tuple #[.int .i64 (rankN 2 u : Int), .int .i64 0]) ws) := by
  have := Rank2_any v u ws h (tab_small hu).1 (tab_small hu).2.1
  unfold rankV at this
  rwa [if_pos hu] at this
def lenN (u : List (List Int)) : Nat := T.len u (2 ^ u.length - 1) (2 ^ T.cols u - 1)
theorem len_good {u : List (List Int)} (hu : T.isTab u = true) (v : Value) (ws : World) (h : See2 ws v u) : Calls Try.prog 35 #[v] ws (Ret (.tuple #[.int .i64 (lenN u : Int), .int .i64 0]) ws) := by
  have := Length_any v u ws h (tab_small hu).1 (tab_small hu).2.1
  unfold lenV at this
  rwa [if_pos hu] at this
theorem part_good {u : List (List Int)} (hu : T.isTab u = true) (v : Value) (ws : World) (h : See2 ws v u) : Calls Try.prog 45 #[v] ws (Ret (.tuple #[.int .i64 (partN u : Int), .int .i64 0]) ws) := by
  have := Part_any v u ws h (tab_small hu).1 (tab_small hu).2.1
  unfold partV at this
  rwa [if_pos hu] at this
theorem rankN_le4 {p : Int} (hp : p = 0 ∨ p = 2) {u : List (List Int)} (hu : T.isTab u = true) : rankN p u ≤ 4 := by
  obtain ⟨⟨t1, t2, t3, t4⟩, _⟩ := T.isTab_iff.1 hu
  obtain ⟨L, C, h1, h2, h3, h4, h5⟩ := (rankN_base hp hu).1.1
  have := h4.length_le
  rw [List.length_range] at this
  omega
theorem MatP.keepS {S : List Nat} {w w' : World} {base O m n : Nat} {G K : Nat → Nat} {M : Nat → Nat → Int} (h : MatP w base O m n G K M) (hc : Chg S w w') (hO : O ∉ S) (hG : ∀ i, i < m → G i ∉ S) : MatP w' base O m n G K M := by
  refine ⟨?_, fun i hi => ?_, h.inj, h.out, h.lowO, h.low, h.cap⟩
  · obtain ⟨cur, hb, e⟩ := h.outer
    exact ⟨cur, hb.keep hc hO, e⟩
  · obtain ⟨cs, hb, e⟩ := h.row i hi
    exact ⟨cs, hb.keep hc (hG i hi), e⟩
/-- So many values are turned. -/
def flipTo (M : Nat → Nat → Int) (r c : Nat) : Nat → Nat → Int := fun i k => if i < r ∨ (i = r ∧ k < c) then 1 - M i k else M i k
theorem flipTo_zero (M : Nat → Nat → Int) : flipTo M 0 0 = M := by
  funext i k; unfold flipTo; rw [if_neg (by omega)]
theorem flipTo_next (M : Nat → Nat → Int) (r c i k : Nat) : flipTo M r (c + 1) i k = if i = r ∧ k = c then 1 - M r c else flipTo M r c i k := by
  unfold flipTo
  by_cases h : i = r ∧ k = c
  · rw [if_pos h, if_pos (by omega), h.1, h.2]
  · rw [if_neg h]
    by_cases h2 : i < r ∨ (i = r ∧ k < c)
    · rw [if_pos h2, if_pos (by omega)]
    · rw [if_neg h2, if_neg (by omega)]
theorem flipTo_at (M : Nat → Nat → Int) (r c : Nat) : flipTo M r c r c = M r c := by unfold flipTo; rw [if_neg (by omega)]
theorem flipTo_row {M : Nat → Nat → Int} {r n i k : Nat} (hk : k < n) : flipTo M (r + 1) 0 i k = flipTo M r n i k := by
  unfold flipTo
  by_cases h : i < r ∨ (i = r ∧ k < n)
  · rw [if_pos h, if_pos (by omega)]
  · rw [if_neg h, if_neg (by omega)]
theorem flipTo_all {M : Nat → Nat → Int} {m i k : Nat} (hi : i < m) : flipTo M m 0 i k = 1 - M i k := by unfold flipTo; rw [if_pos (.inl hi)]

set_option maxRecDepth 100000 in
set_option maxHeartbeats 4000000 in
theorem turned_bad (v : Value) (t : List (List Int)) (ai aj : Int) (w : World) (hs : See2 w v t) (htl : t.length ≤ 9223372036854775807) (hrl : ∀ r ∈ t, r.length ≤ 9223372036854775807) (ht : T.isTab t = false) :
    Calls Try.prog 10 #[v, .int .i64 ai, .int .i64 aj] w (Ret (.bool true) w) := by
  have HT1 := hide fun ws (hw : Chg [] w ws) => table_any v t ws (hs.keep hw) htl
  have HTb := hide fun ws (hw : Chg [] w ws) => Table_any v t ws (hs.keep hw) hrl
  have HR0 := hide fun v' ws (h : See2 ws v' (T.cut t)) => Rank_any v' (T.cut t) ws h (cut_small t).1 (cut_small t).2
  have HR2 := hide fun v' ws (h : See2 ws v' (T.cut t)) => Rank2_any v' (T.cut t) ws h (cut_small t).1 (cut_small t).2
  have HAw := hide fun ws => awake_any ws
  rw [ht] at HTb
  have h0 : ∀ p, rankV p (T.cut t) = .tuple #[.int .i64 0, .int .i64 2] := fun p => by unfold rankV; rw [T.isTab_cut, ht]; rfl
  rw [h0] at HR0 HR2
  clear hs htl hrl ht h0 HTb
  go_enter Try.func10, Try.ntmps10
  have C0 : Hid (Chg [] w w) := hide (Chg.refl _ _)
  go_wp2_with fail
  refine (HT1.out _ C0.out).mono ?_
  rintro e w1 ⟨v1, rfl, hI, hw⟩
  have C1 : Hid (Chg [] w w1) := hide (C0.out.trans hw)
  have A1 := hide hI
  clear hw hI
  go_wp2_with fail
  refine (HR0.out _ _ A1.out).mono ?_
  rintro e w2 ⟨rfl, hw⟩
  have C2 : Hid (Chg [] w w2) := hide (C1.out.trans hw)
  have A2 := hide (A1.out.keep hw)
  clear hw 
  go_wp2_with fail
  refine (HT1.out _ C2.out).mono ?_
  rintro e w3 ⟨v3, rfl, hI, hw⟩
  have C3 : Hid (Chg [] w w3) := hide (C2.out.trans hw)
  have A3 := hide hI
  clear hw hI
  go_wp2_with fail
  refine (HR2.out _ _ A3.out).mono ?_
  rintro e w4 ⟨rfl, hw⟩
  have C4 : Hid (Chg [] w w4) := hide (C3.out.trans hw)
  have A4 := hide (A3.out.keep hw)
  clear hw 
  go_wp2_with fail
  refine (HAw.out _).mono ?_
  rintro e w5 ⟨rfl, hw⟩
  have C5 : Hid (Chg [] w w5) := hide (C4.out.trans hw)
  clear hw 
  go_wp2
  go_ret
  exact ⟨rfl, C5.out⟩

set_option maxRecDepth 100000 in
set_option maxHeartbeats 4000000 in
theorem turned_good (v : Value) (t : List (List Int)) (ai aj : Int) (w : World) (hs : See2 w v t) (htl : t.length ≤ 9223372036854775807) (hrl : ∀ r ∈ t, r.length ≤ 9223372036854775807) (ht : T.isTab t = true) :
    Calls Try.prog 10 #[v, .int .i64 ai, .int .i64 aj] w (Ret (.bool true) w) := by
  have HT1 := hide fun ws (hw : Chg [] w ws) => table_any v t ws (hs.keep hw) htl
  have HTb := hide fun ws (hw : Chg [] w ws) => Table_any v t ws (hs.keep hw) hrl
  have HR0 := hide fun v' ws (h : See2 ws v' (T.cut t)) => Rank_any v' (T.cut t) ws h (cut_small t).1 (cut_small t).2
  have HR2 := hide fun v' ws (h : See2 ws v' (T.cut t)) => Rank2_any v' (T.cut t) ws h (cut_small t).1 (cut_small t).2
  have HAw := hide fun ws => awake_any ws
  rw [ht] at HTb
  have h0 : ∀ p, rankV p (T.cut t) = .tuple #[.int .i64 (rankN p t : Int), .int .i64 0] := fun p => by unfold rankV; rw [T.isTab_cut, ht, if_pos rfl, T.cut_of_isTab ht]
  rw [h0] at HR0 HR2
  have HT3 := hide fun ws (hw : Chg [] w ws) => table_new3 v t ws (hs.keep hw) htl
  rw [T.cut_of_isTab ht] at HT1 HT3 HR0 HR2
  obtain ⟨⟨t1, t2, t3, t4⟩, _⟩ := T.isTab_iff.1 ht
  have HT := hide ht
  have HS := hide hs
  have HOv := hide fun ws (hw : Chg [] w ws) => Over_any v t ws (hs.keep hw) ht
  obtain ⟨i, hA, hi⟩ := mod_less ai t.length (by omega) (by omega)
  obtain ⟨j, hB, hj⟩ := mod_less aj t.length (by omega) (by omega)
  obtain ⟨ao, cap, rfl⟩ := hs.shape
  have HRw : Hid (∀ k, k < t.length → (t.getD k []).length = T.cols t) := hide fun k h => T.tab_row ht h
  have HRk2 := hide (rank2_le ht)
  clear hs htl hrl ht h0
  obtain ⟨m, hm⟩ : ∃ m, m = t.length := ⟨_, rfl⟩
  rw [← hm] at t1 t2 hA hB hi hj HRw HT1 HTb HT3 HOv ⊢
  have HM := hide hm
  obtain ⟨n, hn⟩ : ∃ n, n = T.cols t := ⟨_, rfl⟩
  rw [← hn] at t3 t4 HRw
  have HN := hide hn
  clear hm hn
  have dz : ((m : Int) == 0) = false := by simp; omega
  go_enter Try.func10, Try.ntmps10
  have C0 : Hid (Chg [] w w) := hide (Chg.refl _ _)
  go_wp2_with fail
  refine (HT1.out _ C0.out).mono ?_
  rintro e w1 ⟨v1, rfl, hI, hw⟩
  have C1 : Hid (Chg [] w w1) := hide (C0.out.trans hw)
  have A1 := hide hI
  clear hw hI
  go_wp2_with fail
  refine (HR0.out _ _ A1.out).mono ?_
  rintro e w2 ⟨rfl, hw⟩
  have C2 : Hid (Chg [] w w2) := hide (C1.out.trans hw)
  have A2 := hide (A1.out.keep hw)
  clear hw 
  go_wp2_with fail
  refine (HT1.out _ C2.out).mono ?_
  rintro e w3 ⟨v3, rfl, hI, hw⟩
  have C3 : Hid (Chg [] w w3) := hide (C2.out.trans hw)
  have A3 := hide hI
  clear hw hI
  go_wp2_with fail
  refine (HR2.out _ _ A3.out).mono ?_
  rintro e w4 ⟨rfl, hw⟩
  have C4 : Hid (Chg [] w w4) := hide (C3.out.trans hw)
  have A4 := hide (A3.out.keep hw)
  clear hw 
  go_wp2_with fail
  refine (HTb.out _ C4.out).mono ?_
  rintro e w5 ⟨rfl, hw⟩
  have C5 : Hid (Chg [] w w5) := hide (C4.out.trans hw)
  clear hw 
  go_wp2
  go_quiet (fail)
  rw [hA, hB]
  have C6 : Hid (Chg [] w (w5.drewN nq)) := hide (C5.out.drewN _)
  clear hA hB C5
  generalize w5.drewN nq = w6 at C6 ⊢
  go_wp2_with fail
  refine (HT3.out _ C6.out).mono ?_
  rintro e wa ⟨va, rfl, hRa, hca⟩
  obtain ⟨O1, G1, K1, cap1, rfl, hcap1, hM1⟩ := hRa.toMat (n := n) (by rw [← HM.out]; omega) (by omega) (by rw [← HM.out]; exact HRw.out)
  rw [← HM.out] at hcap1 hM1 ⊢
  have M1 := hide hM1
  have Ca := hide (C6.out.trans hca)
  have Za := hide hca.size
  clear hRa hM1 hca
  go_wp2_with fail
  refine (HT3.out _ Ca.out).mono ?_
  rintro e wb ⟨vb, rfl, hRb, hcb⟩
  obtain ⟨O2, G2, K2, cap2, rfl, hcap2, hM2⟩ := hRb.toMat (n := n) (by rw [← HM.out]; omega) (by omega) (by rw [← HM.out]; exact HRw.out)
  rw [← HM.out] at hcap2 hM2 ⊢
  have M1b := hide (M1.out.keep hcb)
  have M2 := hide hM2
  have Cb := hide (Ca.out.trans hcb)
  have HLow := hide (show ∀ q, q < m → G1 q < wa.heap.size from fun q hq => M1.out.lt hq)
  have HLO := hide M1.out.ltO
  have HBs := hide (show w.heap.size ≤ O1 ∧ (∀ q, q < m → w.heap.size ≤ G1 q) ∧ w.heap.size ≤ wa.heap.size from ⟨Nat.le_trans C6.out.size M1.out.lowO, fun q hq => Nat.le_trans C6.out.size (M1.out.low q hq), Ca.out.size⟩)
  clear hRb hM2 hcb M1 Za Ca C6
  generalize wa.heap.size = Z1 at M2 HLow HLO HBs
  generalize w6.heap.size = Z0 at M1b
  have MD := hide (M1b.out.keep ((Chg.refl [] wb).drew))
  have fO1 := MD.out.cellO hj
  have fO2 := MD.out.cellO hi
  have rO1 := MD.out.freeO j
  have rO2 := MD.out.freeO i
  have sO1 := M1b.out.freeO j
  have sO2 := M1b.out.freeO i
  have i0 : (0 : Int) ≤ (i : Int) := by omega
  have i1 : (i : Int) < (m : Int) := by omega
  have j0 : (0 : Int) ≤ (j : Int) := by omega
  have j1 : (j : Int) < (m : Int) := by omega
  obtain ⟨cur, hBO, hcur⟩ := MD.out.outer
  have BO4 : Hid (Box ((wb.setCell ⟨O1, i, none⟩ (.slice (some ⟨G1 j, 0, none⟩) n (K1 j))).drew) O1 (cur.setIfInBounds i (.slice (some ⟨G1 j, 0, none⟩) n (K1 j))) 38) := hide (hBO.set i (.slice (some ⟨G1 j, 0, none⟩) n (K1 j)))
  have fO3 : ((wb.setCell ⟨O1, i, none⟩ (.slice (some ⟨G1 j, 0, none⟩) n (K1 j))).drew).cell? ⟨O1, j, none⟩ = some (.slice (some ⟨G1 j, 0, none⟩) n (K1 j)) := by
    rw [BO4.out.cell, Array.getElem?_setIfInBounds]
    have hlt := (Array.getElem?_eq_some_iff.1 (hcur j hj)).1
    by_cases hk0 : i = j
    · rw [if_pos hk0, if_pos (by omega)]
    · rw [if_neg hk0]; exact hcur _ hj
  have rO3 : ((wb.setCell ⟨O1, i, none⟩ (.slice (some ⟨G1 j, 0, none⟩) n (K1 j))).drew).frozen? ⟨O1, j, none⟩ = false := BO4.out.free _
  clear hBO hcur BO4
  go_wp2
  go_region
  have hcs : Chg [O1] wb ((wb.setCell ⟨O1, i, none⟩ (.slice (some ⟨G1 j, 0, none⟩) n (K1 j))).setCell ⟨O1, j, none⟩ (.slice (some ⟨G1 i, 0, none⟩) n (K1 i))).drew := (((Chg.refl [O1] wb).setCell (p := ⟨O1, i, none⟩) (.inl (by simp)) _).setCell (p := ⟨O1, j, none⟩) (.inl (by simp)) _).drew
  have N1 := hide ((M1b.out.swap hi hj).keep ((Chg.refl [] _).drew))
  have N2 := hide (M2.out.keepS hcs (by have h1 := M2.out.lowO; have h2 := HLO.out; simp; omega) (fun q hq => by have h1 := M2.out.low q hq; have h2 := HLO.out; simp; omega))
  have Cc : Hid (Chg [] w _) := hide (Cb.out.trans' hcs (fun y hy => .inr (by rw [List.mem_singleton] at hy; rw [hy]; exact HBs.out.1)))
  have HLow2 : Hid (∀ q, q < m → swapF G1 i j q < Z1) := hide fun q hq => by
    unfold swapF
    split
    · exact HLow.out _ hj
    · split
      · exact HLow.out _ hi
      · exact HLow.out _ hq
  clear hcs fO1 fO2 rO1 rO2 sO1 sO2 fO3 rO3 MD M1b M2 Cb HLow
  generalize ((wb.setCell ⟨O1, i, none⟩ (.slice (some ⟨G1 j, 0, none⟩) n (K1 j))).setCell ⟨O1, j, none⟩ (.slice (some ⟨G1 i, 0, none⟩) n (K1 i))).drew = wc at N1 N2 Cc ⊢
  generalize swapF G1 i j = H1 at N1 HLow2
  generalize swapF K1 i j = L1 at N1
  go_wp2
  go_loopw [96] (fun iv ws => ∃ r : Nat, r ≤ m ∧ iv = .int .i64 (r : Int) ∧ Hid ((MatP ws Z1 O2 m n G2 K2 (flipTo (T.ent t) r 0) ∧ MatP ws Z0 O1 m n H1 L1 (swapM (T.ent t) i j)) ∧ Chg [] w ws)) (fun iv _ => (m - (intOf iv).toNat))
  case atStart => exact ⟨0, Nat.zero_le _, rfl, hide ⟨⟨by rw [flipTo_zero]; exact N2.out, N1.out⟩, Cc.out⟩⟩
  case round =>
    obtain ⟨r, hr, rfl, hI⟩ := hrel
    by_cases hlt : r < m
    · have d1 : decide ((r : Int) < (m : Int)) = true := by simpa using hlt
      have f0 := hI.out.1.1.cellO hlt
      have r0 : (0 : Int) ≤ (r : Int) := by omega
      have r1 : (r : Int) < (m : Int) := by omega
      go_wp2
      go_loopw [104] (fun iv ws => ∃ c : Nat, c ≤ n ∧ iv = .int .i64 (c : Int) ∧ Hid ((MatP ws Z1 O2 m n G2 K2 (flipTo (T.ent t) r c) ∧ MatP ws Z0 O1 m n H1 L1 (swapM (T.ent t) i j)) ∧ Chg [] w ws)) (fun iv _ => (n - (intOf iv).toNat))
      case atStart => exact ⟨0, Nat.zero_le _, rfl, hI⟩
      case round =>
        obtain ⟨c, hc, rfl, hJ⟩ := hrel
        by_cases hlc : c < n
        · have d2 : decide ((c : Int) < (n : Int)) = true := by simpa using hlc
          have MD := hide (hJ.out.1.1.keep ((Chg.refl [] _).drew))
          have g0 := MD.out.cellO hlt
          have g1 := MD.out.cell hlt hlc
          rw [flipTo_at] at g1
          have g2 := MD.out.free hlt c
          have g3 := hJ.out.1.1.free hlt c
          have hx := T.ent_val (i := r) (j := c) HT.out
          obtain ⟨x, hxe⟩ : ∃ x, x = T.ent t r c := ⟨_, rfl⟩
          rw [← hxe] at g1 hx
          have HX := hide hxe
          have hw : IntKind.i64.wrap (1 - x) = 1 - x := by rw [IntKind.wrap_i64]; omega
          have c0 : (0 : Int) ≤ (c : Int) := by omega
          have c1 : (c : Int) < (n : Int) := by omega
          have HJ := hide hJ.out
          clear hJ hxe f0
          go_wp2
          go_region
          go_wp2
          go_roundw
          case rel =>
            have hcs := Chg.set wr ⟨G2 r, c, none⟩ (.int .i64 (1 - x))
            have h2 := HJ.out.1.1.low r hlt
            refine ⟨c + 1, by omega, by go_num, hide ⟨⟨(HJ.out.1.1.put hlt (1 - x) (fun i' c' => ?_)).keep ((Chg.refl [] _).drew), (HJ.out.1.2.keepS hcs (fun h => ?_) (fun q hq h => ?_)).keep ((Chg.refl [] _).drew)⟩, (HJ.out.2.trans' hcs (fun y hy => .inr ?_)).drew⟩⟩
            · rw [flipTo_next, HX.out]
            · have h' : O1 = G2 r := List.mem_singleton.1 h
              have := HLO.out; omega
            · have h' : H1 q = G2 r := List.mem_singleton.1 h
              have := HLow2.out q hq; omega
            · have h' : y = G2 r := List.mem_singleton.1 hy
              have := HBs.out.2.2; omega
          case measure => simp [intOf]; omega
        · have d2 : decide ((c : Int) < (n : Int)) = false := by simpa using hlc
          go_wp2
          go_roundw
          case rel => exact ⟨r + 1, by omega, by go_num, hide ⟨⟨hJ.out.1.1.congr (fun i' _ c' hc' => by rw [show c = n by omega]; exact flipTo_row hc'), hJ.out.1.2⟩, hJ.out.2⟩⟩
          case measure => simp [intOf]; omega
    · have d1 : decide ((r : Int) < (m : Int)) = false := by simpa using hlt
      obtain rfl : m = r := by omega
      have hN1 : ∀ q c, q < m → c < n → ∃ k, k < m ∧ swapM (T.ent t) i j q c = T.ent t k c := fun q c hq _ => by
        unfold swapM
        split
        · exact ⟨j, hj, rfl⟩
        · split
          · exact ⟨i, hi, rfl⟩
          · exact ⟨q, hq, rfl⟩
      have hu1 : T.isTab (rowsFrom (swapM (T.ent t) i j) 0 m n) = true := tab_is ⟨by omega, t2, t3, t4⟩ fun q c hq hc => by
        obtain ⟨k, _, e⟩ := hN1 q c hq hc
        rw [e]; exact T.ent_val HT.out
      have hu2 : T.isTab (rowsFrom (fun q c => 1 - T.ent t q c) 0 m n) = true := tab_is ⟨by omega, t2, t3, t4⟩ fun q c _ _ => by
        have := T.ent_val (i := q) (j := c) HT.out
        omega
      have hc1 := tab_cols (N := swapM (T.ent t) i j) (m := m) (n := n) (by omega)
      have hc2 := tab_cols (N := fun q c => 1 - T.ent t q c) (m := m) (n := n) (by omega)
      have hl1 := tab_len (swapM (T.ent t) i j) m n
      have hl2 := tab_len (fun q c => 1 - T.ent t q c) m n
      have he1 : ∀ q c, q < m → c < n → T.ent (rowsFrom (swapM (T.ent t) i j) 0 m n) q c = swapM (T.ent t) i j q c := fun q c h h' => tab_ent h h'
      have he2 : ∀ q c, q < m → c < n → T.ent (rowsFrom (fun q c => 1 - T.ent t q c) 0 m n) q c = 1 - T.ent t q c := fun q c h h' => tab_ent h h'
      have SA0 := hide (hI.out.1.2.see0 cap1 hcap1)
      have SB0 := hide ((hI.out.1.1.congr (M' := fun q c => 1 - T.ent t q c) (fun q hq c _ => (flipTo_all hq).symm)).see0 cap2 hcap2)
      have C0 : Hid (Chg [] w wr) := hide hI.out.2
      clear hI
      generalize rowsFrom (swapM (T.ent t) i j) 0 m n = u1 at *
      generalize rowsFrom (fun q c => 1 - T.ent t q c) 0 m n = u2 at *
      have rows_eq : ∀ p : Int, p = 0 ∨ p = 2 → rankN p u1 = rankN p t := fun p hp => by
        refine Nat.le_antisymm (rank_alike hp hu1 HT.out (by rw [hc1, HN.out]) fun q hq => ?_) (rank_alike hp HT.out hu1 (by rw [hc1, HN.out]) fun q hq => ?_)
        · rw [hl1] at hq
          by_cases h1 : q = i
          · exact ⟨j, by rw [← HM.out]; exact hj, fun c hc => by rw [he1 q c hq (by rw [← hc1]; exact hc), h1]; simp [swapM]⟩
          · by_cases h2 : q = j
            · exact ⟨i, by rw [← HM.out]; exact hi, fun c hc => by rw [he1 q c hq (by rw [← hc1]; exact hc)]; unfold swapM; rw [if_neg h1, if_pos h2]⟩
            · exact ⟨q, by rw [← HM.out]; exact hq, fun c hc => by rw [he1 q c hq (by rw [← hc1]; exact hc)]; unfold swapM; rw [if_neg h1, if_neg h2]⟩
        · rw [← HM.out] at hq
          by_cases h1 : q = i
          · by_cases h3 : i = j
            · exact ⟨q, by rw [hl1]; exact hq, fun c hc => by rw [he1 q c hq (by rw [HN.out]; exact hc)]; subst h1; subst h3; simp [swapM]⟩
            · exact ⟨j, by rw [hl1]; exact hj, fun c hc => by rw [he1 j c hj (by rw [HN.out]; exact hc)]; unfold swapM; rw [if_neg (fun h => h3 h.symm), if_pos rfl, h1]⟩
          · by_cases h2 : q = j
            · exact ⟨i, by rw [hl1]; exact hi, fun c hc => by rw [he1 i c hi (by rw [HN.out]; exact hc), h2]; simp [swapM]⟩
            · exact ⟨q, by rw [hl1]; exact hq, fun c hc => by rw [he1 q c hq (by rw [HN.out]; exact hc)]; unfold swapM; rw [if_neg h1, if_neg h2]⟩
      have hf : ∀ q c, q < t.length → c < T.cols t → T.ent u2 q c = 1 - T.ent t q c := fun q c hq hc => he2 q c (by rw [HM.out]; exact hq) (by rw [HN.out]; exact hc)
      have hl2' : u2.length = t.length := by rw [hl2, HM.out]
      have hc2' : T.cols u2 = T.cols t := by rw [hc2, HN.out]
      have hclr := clear_flip HT.out hu2 hl2' hc2' hf
      have z1 := rank_flip (.inl rfl) HT.out hu2 hl2' hc2' hf
      have z2 := rank_flip (p := 0) (.inl rfl) hu2 HT.out hl2'.symm hc2'.symm (fun q c hq hc => by rw [hf q c (by rw [← hl2']; exact hq) (by rw [← hc2']; exact hc)]; omega)
      have eL : lenN u2 = lenN t := by unfold lenN; rw [hl2', hc2', len_flip hclr]
      have eP := part_flip hl2' hc2' hclr
      have hz4 := rankN_le4 (p := 0) (.inl rfl) hu2
      have ha4 := rankN_le4 (p := 0) (.inl rfl) HT.out
      have hba := HRk2.out
      have ho := over_isTab HT.out
      have HCO := hide (tab_copy ho)
      have HKO := hide (rk_good ho)
      have HKO2 := hide (rk2_good ho)
      have HCA := hide (tab_copy hu1)
      have HKA := hide (rk_good hu1)
      have HKA2 := hide (rk2_good hu1)
      have HCB := hide (tab_copy hu2)
      have HKB := hide (rk_good hu2)
      have HLB := hide (len_good hu2)
      have HPB := hide (part_good hu2)
      have HLT := hide (len_good HT.out)
      have HPT := hide (part_good HT.out)
      rw [rank_over (.inl rfl) HT.out] at HKO
      rw [rank_over (.inr rfl) HT.out] at HKO2
      rw [rows_eq 0 (.inl rfl)] at HKA
      rw [rows_eq 2 (.inr rfl)] at HKA2
      rw [eL] at HLB
      rw [eP] at HPB
      clear rows_eq hN1 hc1 hc2 hl1 hl2 he1 he2 hf hl2' hc2' hclr eL eP ho hu1 hu2 HR0 HR2 HRk2 HRw HTb
      generalize lenN t = ln at *
      generalize partN t = pn at *
      generalize rankN 0 u2 = z at *
      generalize rankN 0 t = a at *
      generalize rankN 2 t = b at *
      have dge : decide ((b : Int) ≤ (a : Int)) = true := by simp; omega
      have dab : ((a : Int) == (a : Int)) = true := by simp
      have dbb : ((b : Int) == (b : Int)) = true := by simp
      have dll : ((ln : Int) == (ln : Int)) = true := by simp
      have dpp : ((pn : Int) == (pn : Int)) = true := by simp
      have hw1 : IntKind.i64.wrap ((z : Int) - (a : Int)) = (z : Int) - (a : Int) := by rw [IntKind.wrap_i64]; omega
      have hw2 : IntKind.i64.wrap ((a : Int) - (z : Int)) = (a : Int) - (z : Int) := by rw [IntKind.wrap_i64]; omega
      have dz1 : decide ((z : Int) - (a : Int) ≤ 1) = true := by simp; omega
      have dz2 : decide ((a : Int) - (z : Int) ≤ 1) = true := by simp; omega
      have xz1 : (z : Int) - (a : Int) ≤ 1 := by omega
      have xz2 : (a : Int) - (z : Int) ≤ 1 := by omega
      have xba : (b : Int) ≤ (a : Int) := by omega
      go_wp2_with fail
      refine (HOv.out _ C0.out).mono ?_
      rintro e w1 ⟨vo, rfl, hRo, hw⟩
      have C1 : Hid (Chg [] w w1) := hide (C0.out.trans hw)
      have SA1 := hide (SA0.out.keep hw)
      have SB1 := hide (SB0.out.keep hw)
      have RO1 := hide hRo.toSee2
      clear hw hRo
      go_wp2_with fail
      refine (HCO.out _ _ RO1.out).mono ?_
      rintro e w2 ⟨v1, rfl, hI, hw⟩
      have C2 : Hid (Chg [] w w2) := hide (C1.out.trans hw)
      have SA2 := hide (SA1.out.keep hw)
      have SB2 := hide (SB1.out.keep hw)
      have RO2 := hide (RO1.out.keep hw)
      have X2 := hide hI
      clear hw hI
      go_wp2_with fail
      refine (HKO.out _ _ X2.out).mono ?_
      rintro e w3 ⟨rfl, hw⟩
      have C3 : Hid (Chg [] w w3) := hide (C2.out.trans hw)
      have SA3 := hide (SA2.out.keep hw)
      have SB3 := hide (SB2.out.keep hw)
      have RO3 := hide (RO2.out.keep hw)
      have X3 := hide (X2.out.keep hw)
      clear hw 
      go_wp2_with fail
      refine (HCA.out _ _ SA3.out).mono ?_
      rintro e w4 ⟨v2, rfl, hI, hw⟩
      have C4 : Hid (Chg [] w w4) := hide (C3.out.trans hw)
      have SA4 := hide (SA3.out.keep hw)
      have SB4 := hide (SB3.out.keep hw)
      have RO4 := hide (RO3.out.keep hw)
      have X4 := hide hI
      clear hw hI
      go_wp2_with fail
      refine (HKA.out _ _ X4.out).mono ?_
      rintro e w5 ⟨rfl, hw⟩
      have C5 : Hid (Chg [] w w5) := hide (C4.out.trans hw)
      have SA5 := hide (SA4.out.keep hw)
      have SB5 := hide (SB4.out.keep hw)
      have RO5 := hide (RO4.out.keep hw)
      have X5 := hide (X4.out.keep hw)
      clear hw 
      go_wp2_with fail
      refine (HCB.out _ _ SB5.out).mono ?_
      rintro e w6 ⟨v4, rfl, hI, hw⟩
      have C6 : Hid (Chg [] w w6) := hide (C5.out.trans hw)
      have SA6 := hide (SA5.out.keep hw)
      have SB6 := hide (SB5.out.keep hw)
      have RO6 := hide (RO5.out.keep hw)
      have X6 := hide hI
      clear hw hI
      go_wp2_with fail
      refine (HKB.out _ _ X6.out).mono ?_
      rintro e w7 ⟨rfl, hw⟩
      have C7 : Hid (Chg [] w w7) := hide (C6.out.trans hw)
      have SA7 := hide (SA6.out.keep hw)
      have SB7 := hide (SB6.out.keep hw)
      have RO7 := hide (RO6.out.keep hw)
      have X7 := hide (X6.out.keep hw)
      clear hw 
      go_wp2_with fail
      refine (HKO2.out _ _ RO7.out).mono ?_
      rintro e w8 ⟨rfl, hw⟩
      have C8 : Hid (Chg [] w w8) := hide (C7.out.trans hw)
      have SA8 := hide (SA7.out.keep hw)
      have SB8 := hide (SB7.out.keep hw)
      have RO8 := hide (RO7.out.keep hw)
      clear hw 
      go_wp2_with fail
      refine (HKA2.out _ _ SA8.out).mono ?_
      rintro e w9 ⟨rfl, hw⟩
      have C9 : Hid (Chg [] w w9) := hide (C8.out.trans hw)
      have SA9 := hide (SA8.out.keep hw)
      have SB9 := hide (SB8.out.keep hw)
      have RO9 := hide (RO8.out.keep hw)
      clear hw 
      go_wp2_with fail
      refine (HT1.out _ C9.out).mono ?_
      rintro e w10 ⟨v5, rfl, hI, hw⟩
      have C10 : Hid (Chg [] w w10) := hide (C9.out.trans hw)
      have SA10 := hide (SA9.out.keep hw)
      have SB10 := hide (SB9.out.keep hw)
      have RO10 := hide (RO9.out.keep hw)
      have X10 := hide hI
      clear hw hI
      go_wp2_with fail
      refine (HLT.out _ _ X10.out).mono ?_
      rintro e w11 ⟨rfl, hw⟩
      have C11 : Hid (Chg [] w w11) := hide (C10.out.trans hw)
      have SA11 := hide (SA10.out.keep hw)
      have SB11 := hide (SB10.out.keep hw)
      have RO11 := hide (RO10.out.keep hw)
      have X11 := hide (X10.out.keep hw)
      clear hw 
      go_wp2_with fail
      refine (HCB.out _ _ SB11.out).mono ?_
      rintro e w12 ⟨v6, rfl, hI, hw⟩
      have C12 : Hid (Chg [] w w12) := hide (C11.out.trans hw)
      have SA12 := hide (SA11.out.keep hw)
      have SB12 := hide (SB11.out.keep hw)
      have RO12 := hide (RO11.out.keep hw)
      have X12 := hide hI
      clear hw hI
      go_wp2_with fail
      refine (HLB.out _ _ X12.out).mono ?_
      rintro e w13 ⟨rfl, hw⟩
      have C13 : Hid (Chg [] w w13) := hide (C12.out.trans hw)
      have SA13 := hide (SA12.out.keep hw)
      have SB13 := hide (SB12.out.keep hw)
      have RO13 := hide (RO12.out.keep hw)
      have X13 := hide (X12.out.keep hw)
      clear hw 
      go_wp2_with fail
      refine (HT1.out _ C13.out).mono ?_
      rintro e w14 ⟨v7, rfl, hI, hw⟩
      have C14 : Hid (Chg [] w w14) := hide (C13.out.trans hw)
      have SA14 := hide (SA13.out.keep hw)
      have SB14 := hide (SB13.out.keep hw)
      have RO14 := hide (RO13.out.keep hw)
      have X14 := hide hI
      clear hw hI
      go_wp2_with fail
      refine (HPT.out _ _ X14.out).mono ?_
      rintro e w15 ⟨rfl, hw⟩
      have C15 : Hid (Chg [] w w15) := hide (C14.out.trans hw)
      have SA15 := hide (SA14.out.keep hw)
      have SB15 := hide (SB14.out.keep hw)
      have RO15 := hide (RO14.out.keep hw)
      have X15 := hide (X14.out.keep hw)
      clear hw 
      go_wp2_with fail
      refine (HPB.out _ _ SB15.out).mono ?_
      rintro e w16 ⟨rfl, hw⟩
      have C16 : Hid (Chg [] w w16) := hide (C15.out.trans hw)
      have SA16 := hide (SA15.out.keep hw)
      have SB16 := hide (SB15.out.keep hw)
      have RO16 := hide (RO15.out.keep hw)
      clear hw 
      go_wp2_with fail
      refine (HAw.out _).mono ?_
      rintro e w17 ⟨rfl, hw⟩
      have C17 : Hid (Chg [] w w17) := hide (C16.out.trans hw)
      have SA17 := hide (SA16.out.keep hw)
      have SB17 := hide (SB16.out.keep hw)
      have RO17 := hide (RO16.out.keep hw)
      clear hw 
      go_wp2
      go_ret
      exact ⟨rfl, C17.out⟩

theorem talkTurned_walk (v u1 u2 : Value) (w : World) (hv : IsRows w v) (h1 : IsInt u1) (h2 : IsInt u2) : Calls Try.prog 10 #[v, u1, u2] w (Ret (.bool true) w) := by
  obtain ⟨t, hs, htl, hrl⟩ := hv
  obtain ⟨ai, rfl, _⟩ := h1
  obtain ⟨aj, rfl, _⟩ := h2
  cases ht : T.isTab t with
  | false => exact turned_bad v t ai aj w hs htl hrl ht
  | true => exact turned_good v t ai aj w hs htl hrl ht
end Go.Proofs.Ytaapamoglgpocaa
