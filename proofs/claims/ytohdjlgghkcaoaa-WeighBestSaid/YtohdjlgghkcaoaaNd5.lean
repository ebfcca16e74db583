/- Walks: the reference's Need and Bound. -/
import Derived.Test.YtohdjlgghkcaoaaNd4
namespace Go.Proofs.Ytohdjlgghkcaoaa
open Go.RowKit

theorem enough_all : ∀ n, n ≤ 6 → EnoughOk n := by
  have key : ∀ n, n ≤ 6 → (∀ m, n = m + 1 → EnoughOk m) → EnoughOk n := by
    intro n hn hW k A t w hk hT hM
    by_cases h1 : k.poss = 1
    · exact enough_one n k A t w hk hT hM h1
    · cases n with
      | zero => exact enough_zero k A t w hk hT hM h1
      | succ m =>
        rw [show ((m + 1 : Nat) : Int) = (m : Int) + 1 from by omega]
        by_cases h0 : t (W.place k (m + 1)) = 0
        · exact enough_new m hn (hW m rfl) k A t w hk hT hM h1 h0
        · exact enough_known m hn k A t w hk hT hM h1 h0
  intro n
  induction n with
  | zero => exact fun h => key 0 h (fun m hm => by omega)
  | succ m ih => exact fun h => key (m + 1) h (fun m' hm' => by
    have e : m = m' := by omega
    rw [← e]; exact ih (by omega))

theorem infoByte : (Try.prog.info? 5).map (fun i => (i.zero, i.size, i.bytes)) = some (some (.int .u8 0), 1, 1) := by kernel_rfl
theorem Tab.made {w : World} {g n cap base : Nat} (hn : n = 537824) (h : w.ownsRow base 5 1 (.slice (some ⟨g, 0, none⟩) n cap) n (madeCells (Value.int .u8 0).cells (n * 1)).toList) (hc : cap = n) : Tab w g (fun _ => 0) := by
  rcases h.2 with ⟨h, _⟩ | ⟨g', cap', cur, he, hb, hg, hle, hm, hsz, ht⟩
  · cases h
  · cases he
    subst hc
    have hcells : (Value.int .u8 0).cells = #[.int .u8 0] := rfl
    rw [hcells, toList_madeCells_one, Nat.mul_one] at ht
    refine ⟨cur, hg, by omega, fun i hi => ?_⟩
    have hi' : i < cap := by omega
    have e : (List.replicate cap (Value.int .u8 0))[i]? = some (.int .u8 0) := by rw [List.getElem?_replicate, if_pos hi']
    rw [← ht, List.getElem?_take, if_pos hi'] at e
    simpa using e

/-- What Need answers of valid coins. -/
def needV (k : W.K) : Value := match W.need 6 k with | some n => .tuple #[.int .i64 (n : Int), .int .i64 0] | none => .tuple #[.int .i64 0, .int .i64 4]
theorem needV_some {k : W.K} {n : Nat} (h : W.need 6 k = some n) : needV k = .tuple #[.int .i64 (n : Int), .int .i64 0] := by unfold needV; rw [h]
theorem needV_none {k : W.K} (h : W.need 6 k = none) : needV k = .tuple #[.int .i64 0, .int .i64 4] := by unfold needV; rw [h]

set_option maxRecDepth 100000 in
set_option maxHeartbeats 1000000 in
theorem RNeed_K (k : W.K) (hk : okK k) (w : World) :
    Calls Try.prog 26 #[.agg #[.int .i64 (k.b : Int), .int .i64 (k.h : Int), .int .i64 (k.l : Int), .int .i64 (k.g : Int), .bool k.n]] w
      (Ret (needV k) w) := by
  obtain ⟨i0, hi, hz0, hz1, hz2⟩ := info_parts infoByte
  obtain ⟨Z, hZ⟩ : ∃ Z : Nat, Z = 537824 := ⟨_, rfl⟩
  have hE : ∀ (n : Nat), n ≤ 6 → ∀ (A : Nat) (t : Nat → Nat) (w : World), Tab w A t → W.MetOK t (n + 1) →
      Calls Try.prog 57 #[.agg #[.int .i64 (k.b : Int), .int .i64 (k.h : Int), .int .i64 (k.l : Int), .int .i64 (k.g : Int), .bool k.n], .int .i64 (n : Int), .slice (some ⟨A, 0, none⟩) Z Z] w
        fun e w' => e = .returned (.bool (W.wins n k)) ∧ TabOk w w' A t n := by
    rw [hZ]; exact fun n hn A t w hT hM => enough_all n hn k A t w hk hT hM
  have HE := hide hE
  have HK := hide hk
  have HZ := hide hZ
  clear hE hk
  go_enter Try.func26, Try.ntmps26
  clear hZ
  go_wp2_with (at_make; refine wpList_make_full _ rfl _ _ 86 rfl w.heap.size 5 i0 (.int .u8 0) 1 Try.underlying86 hi hz0 hz1 _ _ _ _ Z rfl rfl (by have := HZ.out; omega) (by have := HZ.out; omega) (by have := HZ.out; rw [hz2]; omega) (by have := HZ.out; unfold maxLen; omega) (by simp) ?_; intro w1 hown hgrow)
  have bk := (Box.new w #[.int .i64 (k.b : Int), .int .i64 (k.h : Int), .int .i64 (k.l : Int), .int .i64 (k.g : Int), .bool k.n] 30)
  have hT1 := Tab.made HZ.out (by simpa using hown) rfl
  have C1 : Hid (Chg [] w w1) := hide (((Chg.refl [] w).alloc _).grown hgrow (fun k hk => by cases hk))
  have BK : Hid (Box w1 w.heap.size #[.int .i64 (k.b : Int), .int .i64 (k.h : Int), .int .i64 (k.l : Int), .int .i64 (k.g : Int), .bool k.n] 30) := hide (bk.keep ((Chg.refl [] _).grown hgrow (fun k hk => by cases hk)) (by simp))
  have T1 := hide hT1
  have nA : w.heap.size ≠ w.heap.size + 1 := by omega
  have lw : w.heap.size ≤ w.heap.size + 1 := by omega
  clear bk hT1 hown hgrow
  generalize hAA : w.heap.size + 1 = A1 at T1 nA lw ⊢
  have hA1 : Hid (∀ x ∈ [A1], x ∈ ([] : List Nat) ∨ w.heap.size ≤ x) := hide fun x hx => .inr (by rw [List.mem_singleton.1 hx]; exact lw)
  clear hAA lw
  generalize w.heap.size = A0 at BK nA ⊢
  go_loopw [7] (fun i wr => ∃ n : Nat, n ≤ 7 ∧ i = .int .i64 (n : Int) ∧ Hid ((∀ j, j < n → W.wins j k = false) ∧ Chg [A1] w1 wr ∧ ∃ t, Tab wr A1 t ∧ W.MetOK t n ∧ ∀ i, n * 76832 ≤ i → t i = 0)) (fun i _ => 7 - (intOf i).toNat)
  case atStart => exact ⟨0, Nat.zero_le _, rfl, hide ⟨fun j h => by omega, Chg.refl _ _, _, T1.out, W.MetOK.zero _, fun _ _ => rfl⟩⟩
  case round =>
    obtain ⟨n, hn, rfl, hI⟩ := hrel
    by_cases hlt : n < 7
    · have d1 : decide ((n : Int) < 7) = true := by simp; omega
      have bk := BK.out.keep hI.out.2.1 (by simpa using nA)
      have x0 := bk.cell 0
      have x1 := bk.cell 1
      have x2 := bk.cell 2
      have x3 := bk.cell 3
      have x4 := bk.cell 4
      simp at x0 x1 x2 x3 x4
      clear bk
      obtain ⟨hno, hc, t, hT, hM, hz⟩ := hI.out
      have hM' : W.MetOK t (n + 1) := fun k' j hk' hj => by
        rcases (show j < n ∨ j = n by omega) with h | rfl
        · exact hM k' j hk' h
        · exact .inl (hz _ (W.place_ge k' j))
      have HT := hide (And.intro hT hM')
      have HX := hide (And.intro hno (And.intro hc hz))
      clear hno hc hT hM hz hM'
      go_wp2_with fail
      refine (HE.out n (by omega) A1 t _ HT.out.1 HT.out.2).mono ?_
      rintro e w2 ⟨rfl, hc2, t2, T2, M2, S2⟩
      have HJ : Hid (Chg [A1] w1 w2 ∧ ∃ t, Tab w2 A1 t ∧ W.MetOK t (n + 1) ∧ ∀ i, (n + 1) * 76832 ≤ i → t i = 0) := hide ⟨HX.out.2.1.trans hc2, t2, T2, M2, fun i hi => (S2 i hi).trans (HX.out.2.2 i (Nat.le_trans (Nat.mul_le_mul_right 76832 (Nat.le_succ n)) hi))⟩
      clear hc2 T2 M2 S2 x0 x1 x2 x3 x4
      cases hb : W.wins n k with
      | true =>
        have hnd : W.need 7 k = some n := W.need_some.2 ⟨hlt, hb, HX.out.1⟩
        rw [W.need_eq HK.out.1 HK.out.2.2] at hnd
        have HND := hide hnd
        clear hb hnd
        go_wp2
        go_ret2
        exact ⟨by rw [needV_some HND.out]; rfl, C1.out.trans' HJ.out.1 hA1.out⟩
      | false =>
        have HB := hide hb
        clear hb
        go_wp2
        go_roundw
        case rel => exact ⟨n + 1, by omega, by go_num, hide ⟨fun j hj => by
          rcases (show j < n ∨ j = n by omega) with h | rfl
          · exact HX.out.1 j h
          · exact HB.out, HJ.out⟩⟩
        case measure => simp [intOf]; omega
    · have d1 : decide ((n : Int) < 7) = false := by simp; omega
      obtain rfl : n = 7 := by omega
      have hnd : W.need 7 k = none := W.need_none.2 hI.out.1
      rw [W.need_eq HK.out.1 HK.out.2.2] at hnd
      have HND := hide hnd
      clear hnd
      go_wp2
      go_ret2
      exact ⟨by rw [needV_none HND.out]; rfl, C1.out.trans' hI.out.2.1 hA1.out⟩

set_option maxRecDepth 100000 in
set_option maxHeartbeats 1000000 in
theorem RBound_K (k : W.K) (hk : okK k) (w : World) :
    Calls Try.prog 27 #[.agg #[.int .i64 (k.b : Int), .int .i64 (k.h : Int), .int .i64 (k.l : Int), .int .i64 (k.g : Int), .bool k.n]] w (Ret (.int .i64 (W.bound k : Int)) w) := by
  have HP := hide fun w1 => rposs_K k hk w1
  have HK := hide hk
  have hp28 : k.poss ≤ 27 := by
    have h1 := hk.1
    unfold W.K.poss
    split <;> omega
  clear hk
  go_enter Try.func27, Try.ntmps27
  go_wp2
  have bk := (Box.new w #[.int .i64 (k.b : Int), .int .i64 (k.h : Int), .int .i64 (k.l : Int), .int .i64 (k.g : Int), .bool k.n] 30)
  have cw : Hid (Chg [] w (w.alloc (.cells #[.int .i64 (k.b : Int), .int .i64 (k.h : Int), .int .i64 (k.l : Int), .int .i64 (k.g : Int), .bool k.n] 30))) := hide ((Chg.refl _ _).alloc _)
  generalize w.alloc (.cells #[.int .i64 (k.b : Int), .int .i64 (k.h : Int), .int .i64 (k.l : Int), .int .i64 (k.g : Int), .bool k.n] 30) = w1 at bk cw ⊢
  have BK := hide bk
  clear bk
  generalize w.heap.size = A at BK ⊢
  go_loopw [3, 4] (fun n r wr => ∃ j : Nat, j ≤ 3 ∧ n = .int .i64 (j : Int) ∧ r = .int .i64 (pw j : Int) ∧ Hid ((∀ i, i < j → pw i < k.poss) ∧ Chg [] w1 wr)) (fun n _ _ => 3 - (intOf n).toNat)
  case atStart => exact ⟨0, by omega, rfl, rfl, hide ⟨fun i h => by omega, Chg.refl _ _⟩⟩
  case round =>
    obtain ⟨j, hj, rfl, rfl, hI⟩ := hrel
    have bk := BK.out.keep hI.out.2 (by simp)
    have f2 := fun o => bk.cell o
    have hp6 : pw j ≤ 729 := pow6 (by omega)
    by_cases hlt : pw j < k.poss
    · have d1 : decide ((pw j : Int) < (k.poss : Int)) = true := by simpa using hlt
      have hj3 : Hid (j < 3) := hide (by
        rcases Nat.lt_or_ge j 3 with h | h
        · exact h
        · obtain rfl : j = 3 := by omega
          have : pw 3 = 27 := rfl
          omega)
      go_wp2_with (go_at_call 28; refine (HP.out _).mono ?_; rintro e w2 ⟨rfl, hw2⟩)
      go_roundw
      case rel => exact ⟨j + 1, by have := hj3.out; omega, by go_num, by rw [pw_succ]; go_num, hide ⟨fun i h => by
        rcases (show i < j ∨ i = j by omega) with h | rfl
        · exact hI.out.1 i h
        · exact hlt, hI.out.2.trans hw2⟩⟩
      case measure => have := hj3.out; simp [intOf]; omega
    · have d1 : decide ((pw j : Int) < (k.poss : Int)) = false := by simpa using hlt
      have E : Hid (W.bound k = j) := hide (bound_eq HK.out hlt hI.out.1)
      go_wp2_with (go_at_call 28; refine (HP.out _).mono ?_; rintro e w2 ⟨rfl, hw2⟩)
      go_ret
      exact ⟨by rw [E.out]; rfl, (cw.out.trans hI.out.2).trans hw2⟩
end Go.Proofs.Ytohdjlgghkcaoaa
