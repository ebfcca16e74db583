/- Walk: the length of a plan, the reference's. -/
import Derived.Test.YtaapamoglgpocaaPlanPlain
import Derived.Test.YtaapamoglgpocaaOpen
import Derived.StillTailTactics
namespace Go.Proofs.Ytaapamoglgpocaa
open Go.RowKit

/-- A row of ints that the call itself writes. -/
def IntTab (w : World) (A n : Nat) (f : Nat → Int) : Prop := ∃ cur, Box w A cur 3 ∧ cur.size = n ∧ ∀ i, i < n → cur[i]? = some (.int .i64 (f i))
theorem IntTab.lt {w : World} {A n : Nat} {f : Nat → Int} (h : IntTab w A n f) : A < w.heap.size := by obtain ⟨c, h, _⟩ := h; exact h.lt
theorem IntTab.keep {w w' : World} {A n : Nat} {f : Nat → Int} {S : List Nat} (h : IntTab w A n f) (hc : Chg S w w') (hs : A ∉ S) : IntTab w' A n f := by
  obtain ⟨c, h, hc'⟩ := h
  exact ⟨c, h.keep hc hs, hc'⟩
theorem IntTab.cell {w : World} {A n : Nat} {f : Nat → Int} (h : IntTab w A n f) {i : Nat} (hi : i < n) : w.cell? ⟨A, i, none⟩ = some (.int .i64 (f i)) := by
  obtain ⟨c, h, _, hc⟩ := h
  rw [h.cell]; exact hc i hi
theorem IntTab.free {w : World} {A n : Nat} {f : Nat → Int} (h : IntTab w A n f) (i : Nat) : w.frozen? ⟨A, i, none⟩ = false := by
  obtain ⟨c, h, _⟩ := h
  exact h.free i
theorem IntTab.set {w : World} {A n : Nat} {f g : Nat → Int} (h : IntTab w A n f) (i : Nat) (v : Int) (hg : ∀ j, j < n → g j = if j = i then v else f j) : IntTab (w.setCell ⟨A, i, none⟩ (.int .i64 v)) A n g := by
  obtain ⟨c, h, hs, hc⟩ := h
  refine ⟨_, h.set i _, by simpa using hs, fun j hj => ?_⟩
  rw [hg j hj]
  by_cases hij : j = i
  · subst hij
    rw [Array.getElem?_setIfInBounds_self, if_pos (by omega), if_pos rfl]
  · rw [Array.getElem?_setIfInBounds_ne (Ne.symm hij), hc j hj, if_neg hij]
theorem IntTab.see {w : World} {A n : Nat} {f : Nat → Int} {xs : List Int} (h : IntTab w A n f) (hl : xs.length = n) (hx : ∀ i, i < n → xs.getD i 0 = f i) : See w (.slice (some ⟨A, 0, none⟩) n n) xs :=
  .inr ⟨⟨A, 0, none⟩, n, by rw [hl], by rw [hl]; exact Nat.le_refl _, h.lt, fun i hi => by rw [add_zero_row, hx i (by omega)]; exact h.cell (by omega)⟩
theorem IntTab.made {w : World} {g n base : Nat} (h : w.ownsRow base 3 1 (.slice (some ⟨g, 0, none⟩) n n) n (madeCells (Value.int .i64 0).cells (n * 1)).toList) : IntTab w g n (fun _ => 0) := by
  rcases h.2 with ⟨h, _⟩ | ⟨g', cap', cur, he, hb, hg, hle, hm, hsz, ht⟩
  · cases h
  · cases he
    have hcells : (Value.int .i64 0).cells = #[.int .i64 0] := rfl
    rw [hcells, toList_madeCells_one, Nat.mul_one] at ht
    refine ⟨cur, hg, by omega, fun i hi => ?_⟩
    have e : (List.replicate n (Value.int .i64 0))[i]? = some (.int .i64 0) := by rw [List.getElem?_replicate, if_pos hi]
    rw [← ht, List.getElem?_take, if_pos hi] at e
    simpa using e


theorem IntTab.congr {w : World} {A n : Nat} {f g : Nat → Int} (h : IntTab w A n f) (hg : ∀ i, i < n → g i = f i) : IntTab w A n g := by
  obtain ⟨c, h, hs, hc⟩ := h
  exact ⟨c, h, hs, fun i hi => by rw [hg i hi]; exact hc i hi⟩
/-- The lengths that are known, from j on. -/
def depT (ps : List Nd) (j p : Nat) : Int := if j ≤ p then (depA ps p : Int) else 0
theorem depT_more (ps : List Nd) (j i : Nat) : depT ps j i = if i = j then (depA ps j : Int) else depT ps (j + 1) i := by
  unfold depT
  by_cases h : i = j
  · subst h
    rw [if_pos (Nat.le_refl _), if_pos rfl]
  · rw [if_neg h]
    by_cases h2 : j ≤ i
    · rw [if_pos h2, if_pos (by omega)]
    · rw [if_neg h2, if_neg (by omega)]
theorem imaxD (a b : Nat) : imax (a : Int) (b : Int) = ((max a b : Nat) : Int) := by unfold imax; split <;> omega

set_option maxRecDepth 100000 in
set_option maxHeartbeats 2000000 in
theorem RDepth_any (u : Value) (ps : List Nd) (w : World) (hu : SeeN w u ps) (hp : isPl ps = true) :
    Calls Try.prog 24 #[u] w (Ret (.int .i64 (depA ps 0 : Int)) w) := by
  have kmax := fun w ts t x y => @run_max_2 Try.prog w ts t x y
  obtain ⟨hl1, hl100, _⟩ := isPl_iff.1 hp
  have HP := hide hp
  have hne : ps ≠ [] := by rintro rfl; simp at hl1
  obtain ⟨a, cap, rfl, hcell⟩ := hu.open hne
  have HC := hide hcell
  obtain ⟨L, hL⟩ : ∃ L, L = ps.length := ⟨_, rfl⟩
  have HL := hide hL
  rw [← hL] at hl1 hl100 ⊢
  clear hp hu hne hcell hL
  obtain ⟨i0, hi, hz0, hz1, hz2⟩ := info_parts infoInt
  go_enter Try.func24, Try.ntmps24
  go_wp2_with (at_make; refine wpList_make_full _ rfl _ _ 38 rfl 0 3 i0 (.int .i64 0) 1 Try.underlying38 hi hz0 hz1 _ _ _ _ L rfl rfl rfl rfl (by rw [hz2]; omega) (by unfold maxLen; omega) (Nat.zero_le _) ?_; intro w5 hown hgrow)
  have T5 := hide (IntTab.made (by simpa using hown))
  have C5 : Hid (Chg [] w w5) := hide ((Chg.refl [] w).grown hgrow (fun k hk => by cases hk))
  have hA : Hid (w.heap.size ≤ w.heap.size) := hide (Nat.le_refl _)
  clear hown hgrow hi hz0 hz1 hz2
  generalize hAe : (w.heap.size : Nat) = A at T5 hA ⊢
  go_loopw [4] (fun iv wr => ∃ j : Nat, j ≤ L ∧ iv = .int .i64 ((j : Int) - 1) ∧ Hid (IntTab wr A L (depT ps j) ∧ Chg [] w wr)) (fun iv _ => (intOf iv + 1).toNat)
  case atStart => exact ⟨L, Nat.le_refl _, rfl, hide ⟨T5.out.congr fun i hi => if_neg (by omega), C5.out⟩⟩
  case round =>
    obtain ⟨j, hj, rfl, hI⟩ := hrel
    by_cases hj0 : j = 0
    · subst hj0
      have e0 : ((0 : Nat) : Int) - 1 = -1 := rfl
      rw [e0]
      have d1 : decide ((0 : Int) ≤ -1) = false := by decide
      have k0 := hI.out.1.cell (i := 0) (by omega)
      rw [show depT ps 0 0 = (depA ps 0 : Int) from if_pos (Nat.le_refl _)] at k0
      have lt0 := hI.out.1.lt
      have i0 : (0 : Int) < (L : Int) := by omega
      clear e0
      go_wp2
      go_ret
      exact ⟨rfl, hI.out.2⟩
    · obtain ⟨k, rfl⟩ : ∃ k, j = k + 1 := ⟨j - 1, by omega⟩
      have e0 : ((k + 1 : Nat) : Int) - 1 = (k : Int) := by omega
      rw [e0]
      have d1 : decide ((0 : Int) ≤ (k : Int)) = true := by simp
      have hk : k < ps.length := by rw [← HL.out]; omega
      obtain ⟨m0, m1, m2, m3, m4, m5⟩ := HC.out wr hI.out.2 k hk
      obtain ⟨y, hy⟩ : ∃ y, y = ps.getD k nd0 := ⟨_, rfl⟩
      rw [← hy] at m0 m1 m2 m3 m4 m5
      have hi0 : (0 : Int) ≤ (k : Int) := by omega
      have hi1 : (k : Int) < (L : Int) := by omega
      have HY := hide hy
      clear e0 hj0 hy
      obtain ⟨lf, hlf⟩ : ∃ b, b = y.leaf := ⟨_, rfl⟩
      rw [← hlf] at m0
      cases lf with
      | true =>
        have D : Hid (depA ps k = 0) := hide (depA_leaf hk (by rw [← HY.out]; exact hlf.symm))
        clear hlf hk
        go_wp2
        go_roundw
        case rel => exact ⟨k, by omega, by go_num, hide ⟨hI.out.1.congr fun i hi => by
          rw [depT_more]
          by_cases hik : i = k
          · subst hik
            rw [if_pos rfl, D.out]
            exact (if_neg (by omega)).symm
          · rw [if_neg hik], hI.out.2⟩⟩
        case measure => simp [intOf]
      | false =>
        have hlf' : (ps.getD k nd0).leaf = false := by rw [← HY.out]; exact hlf.symm
        have D := depA_node HP.out hk hlf'
        obtain ⟨⟨n1, n2⟩, n3, n4⟩ := node_next HP.out hk hlf'
        have ok := (ndOk_node hlf').1 ((isPl_iff.1 HP.out).2.2 k hk)
        rw [← HY.out] at D n1 n2 n3 n4 ok
        rw [← HL.out] at n2 n4
        obtain ⟨p, hp⟩ := Int.eq_ofNat_of_zero_le (show 0 ≤ y.no by omega)
        obtain ⟨q, hq⟩ := Int.eq_ofNat_of_zero_le (show 0 ≤ y.yes by omega)
        rw [hp] at m4 D n1 n2
        rw [hq] at m5 D n3 n4
        simp only [Int.toNat_natCast] at D n1 n2 n3 n4
        have c1 := hI.out.1.cell n2
        have c2 := hI.out.1.cell n4
        rw [show depT ps (k + 1) p = (depA ps p : Int) from if_pos (by omega)] at c1
        rw [show depT ps (k + 1) q = (depA ps q : Int) from if_pos (by omega)] at c2
        have b1 := depA_le HP.out p
        have b2 := depA_le HP.out q
        have HM := imaxD (depA ps p) (depA ps q)
        obtain ⟨M, hM⟩ : ∃ M, M = max (depA ps p) (depA ps q) := ⟨_, rfl⟩
        have hM1 : M ≤ 100 := by omega
        rw [← hM] at HM D
        have D := hide D
        have hw : IntKind.i64.wrap (1 + (M : Int)) = ((1 + M : Nat) : Int) := by rw [show (1 : Int) + (M : Int) = ((1 + M : Nat) : Int) by omega]; exact wraps_i64 _ (by omega) (by omega)
        have lt0 := hI.out.1.lt
        have HDr := hide ((Chg.refl [] wr).drew)
        have p0 : (0 : Int) ≤ (p : Int) := by omega
        have p1 : (p : Int) < (L : Int) := by omega
        have q0 : (0 : Int) ≤ (q : Int) := by omega
        have q1 : (q : Int) < (L : Int) := by omega
        have kL : k < L := by omega
        clear hlf hk hlf' ok hp hq hM n1 n3
        generalize depA ps p = x1 at c1 b1 HM
        generalize depA ps q = x2 at c2 b2 HM
        go_wp2
        go_still_tail 21, (by kernel_rfl)
        try change wpList _ _ _ _ _ wr.drew
        have T6 := hide (hI.out.1.keep HDr.out List.not_mem_nil)
        have C6 : Hid (Chg [] w wr.drew) := hide (hI.out.2.trans HDr.out)
        clear c1 c2 m0 m1 m2 m3 m4 m5 HDr lt0
        generalize wr.drew = W at T6 C6 ⊢
        have lt0 := T6.out.lt
        have fz := T6.out.free k
        have ck := T6.out.cell kL
        go_wp2
        go_roundw
        case rel => exact ⟨k, by omega, by go_num, hide ⟨T6.out.set k _ (fun i _ => by
          rw [depT_more, D.out, Int.natCast_add]; rfl), C6.out.setCell (.inr (by rw [← hAe]; exact Nat.le_refl _)) _⟩⟩
        case measure => simp [intOf]
end Go.Proofs.Ytaapamoglgpocaa
