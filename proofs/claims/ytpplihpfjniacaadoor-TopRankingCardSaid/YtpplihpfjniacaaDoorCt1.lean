/- Walk: orders: Count of two free elements; stands. -/
import Derived.Test.YtpplihpfjniacaaDoorRd1
import Derived.Test.YtpplihpfjniacaaDoorITab
namespace Go.Proofs.YtpplihpfjniacaaDoor
open Go.RowKit Go.Shelf
attribute [local go_sem] Oper.semAt_some

set_option maxRecDepth 100000 in
theorem all_any (n : Nat) (A : Nat → Nat) (w : World) (h6 : n ≤ 6) : Calls Tryd.prog 81 #[ordV n A] w (Ret (.int .i64 ((2 ^ n - 1 : Nat) : Int)) w) := by
  have ew := wrap_pow (m := n) (by omega)
  have hp := Nat.two_pow_pos n
  have hp6 : 2 ^ n ≤ 2 ^ 6 := Nat.pow_le_pow_right (by decide) h6
  obtain ⟨P, hP⟩ : ∃ P, P = 2 ^ n := ⟨_, rfl⟩
  rw [← hP] at ew hp hp6 ⊢
  have es : IntKind.i64.wrap ((P : Int) - 1) = ((P - 1 : Nat) : Int) := by rw [IntKind.wrap_i64]; omega
  have n0 : (0 : Int) ≤ (n : Int) := by omega
  have n1 : (n : Int) < 64 := by omega
  generalize P - 1 = R at es ⊢
  unfold ordV ordC
  clear hP hp hp6 h6
  go_enter Tryd.func81, Tryd.ntmps81
  go_wp2
  go_ret
  exact ⟨rfl, by (repeat' (first | with_reducible exact Chg.refl _ _ | with_reducible assumption | with_reducible apply Chg.drewN | with_reducible apply Chg.drew | with_reducible apply Chg.alloc | (with_reducible refine Chg.setCell ?_ (Or.inr ?_) _) | (with_reducible refine Chg.trans ?_ (by assumption)) | (simp; done) | (simp; omega)))⟩

theorem IntTab.row {B : Nat} {W W' : World} {row : Option Nat} {A n : Nat} {f : Nat → Int} (h : IntTab W A n f) (hg : W.grownBy W' row) (hr : ∀ r, row = some r → B ≤ r ∧ ∃ o : Obj, W.heap[r]? = some o ∧ o.isCells = false) : IntTab W' A n f := by
  obtain ⟨c, h, h2⟩ := h
  exact ⟨c, h.row hg hr, h2⟩
theorem wb_none (x n : Nat) : Lr.wb (fun _ => 0) x n = 0 := Nat.eq_of_testBit_eq fun i => by rw [Lr.wb_test]; simp
/-- How many lines two free elements have below a set of them. -/
def wf (q : Nat) : Nat := if q = 3 then 2 else 1
def pc2 (q : Nat) : Nat := if q = 3 then 2 else if q = 0 then 0 else 1
def tabS (s q : Nat) : Int := if q < s then (wf q : Int) else 0
def tabY (s Y q : Nat) : Int := if q = s then ((pc2 s - pc2 Y : Nat) : Int) else if q < s then (wf q : Int) else 0
def lowOk (s Y : Nat) : Prop := Lib.ctz 64 Y < 2 ∧ andnN s (2 ^ Lib.ctz 64 Y) < s ∧ wf (andnN s (2 ^ Lib.ctz 64 Y)) = 1 ∧ pc2 s - pc2 Y + 1 = pc2 s - pc2 (Y &&& (Y - 1)) ∧ pc2 s - pc2 Y < 2 ∧ (Y &&& (Y - 1)) < 4 ∧ (Y &&& (Y - 1)) &&& s = Y &&& (Y - 1)
instance (s Y : Nat) : Decidable (lowOk s Y) := by unfold lowOk; infer_instance
theorem two_low' : (List.range 4).all (fun s => (List.range 4).all fun Y => Y == 0 || !(Y &&& s == Y) || decide (lowOk s Y)) = true := by decide +kernel
theorem two_low {s Y : Nat} (hs : s < 4) (hY : Y < 4) (h0 : Y ≠ 0) (h : Y &&& s = Y) : lowOk s Y := by
  have h1 := List.all_eq_true.1 (List.all_eq_true.1 two_low' s (List.mem_range.2 hs)) Y (List.mem_range.2 hY)
  simpa [h0, h] using h1
theorem ord_two : ordC 2 (fun _ => 0) = #[.int .i64 2, .int .i64 0, .int .i64 0, .int .i64 0, .int .i64 0, .int .i64 0, .int .i64 0] := rfl
theorem tab_one (q : Nat) : tabS 1 q = if q = 0 then 1 else 0 := by
  unfold tabS
  by_cases e : q = 0
  · subst e; rfl
  · rw [if_neg (by omega), if_neg e]
/-- The number that a box holds. -/
def atPtr (v : Value) (w : World) : Nat := match v with
  | .pointer (some p) => boxN p.block w
  | _ => 0
theorem tab_last (s : Nat) (h : s < 4) (h1 : 1 ≤ s) (q : Nat) : tabY s 0 q = tabS (s + 1) q := by
  unfold tabY tabS
  by_cases e : q = s
  · subst e
    rw [if_pos rfl, if_pos (by omega)]
    rcases (show q = 1 ∨ q = 2 ∨ q = 3 by omega) with rfl | rfl | rfl <;> rfl
  · rw [if_neg e]
    by_cases h2 : q < s
    · rw [if_pos h2, if_pos (by omega)]
    · rw [if_neg h2, if_neg (by omega)]
theorem tab_first (s : Nat) (h1 : 1 ≤ s) (q : Nat) : tabS s q = tabY s s q := by
  unfold tabY tabS
  by_cases e : q = s
  · subst e
    rw [if_pos rfl, if_neg (by omega), Nat.sub_self]
    rfl
  · rw [if_neg e]

set_option maxRecDepth 100000 in
set_option maxHeartbeats 4000000 in
theorem counted_two (w : World) (hT : Tz w) : Calls Tryd.prog 72 #[ordV 2 fun _ => 0] w (Ret (.int .i64 2) w) := by
  have HAll := hide fun ws => all_any 2 (fun _ => 0) ws (by decide)
  have HT := hide hT
  obtain ⟨i0, hi, hz0, hz1, hz2⟩ := info_parts infoInt
  unfold ordV at HAll ⊢
  rw [ord_two] at HAll ⊢
  have e4 : ((2 ^ 2 - 1 : Nat) : Int) = 3 := rfl
  rw [e4] at HAll
  clear hT e4
  refine calls_calm 9 Tryd.func72 rfl ?_
  simp only [Tryd.ntmps72, List.size_toArray, List.length_cons, List.length_nil, Nat.reduceAdd, Nat.reduceSub, Array.replicate_succ, Array.replicate_zero, List.push_toArray, List.append_toArray, List.nil_append, List.cons_append]
  go_wp2_with fail
  obtain ⟨Z, hZ⟩ : ∃ Z, w.heap.size = Z := ⟨_, rfl⟩
  rw [hZ]
  obtain ⟨W1, e1, b1, c1, z1⟩ := alloc_box hZ #[.int .i64 2, .int .i64 0, .int .i64 0, .int .i64 0, .int .i64 0, .int .i64 0, .int .i64 0] 72
  rw [e1]
  refine (HAll.out _).mono ?_
  rintro e W2 ⟨rfl, c2⟩
  have B12 := hide (b1.keep c2 List.not_mem_nil)
  have C12 := hide (c1.trans c2)
  have Z2 : Hid (Z < W2.heap.size) := hide (b1.keep c2 List.not_mem_nil).lt
  clear e1 b1 c1 c2 z1
  go_wp2_with (at_make; refine wpList_make_full _ rfl _ _ 22 rfl 0 3 i0 (.int .i64 0) 1 Tryd.underlying22 hi hz0 hz1 _ _ _ _ 4 rfl rfl rfl rfl (by rw [hz2]; omega) (by unfold maxLen; omega) (Nat.zero_le _) ?_; intro w5 hown hgrow; have T5 := IntTab.made (by simpa using hown); have t50 := T5.cell (show 0 < 4 by decide); have t5f := T5.free 0; have t5l := T5.lt)
  obtain ⟨A, hA⟩ : ∃ A, W2.heap.size = A := ⟨_, rfl⟩
  obtain ⟨E, hE⟩ : ∃ E, w5.heap.size = E := ⟨_, rfl⟩
  rw [hA] at T5 ⊢
  rw [hE]
  have C25 := (Chg.refl [] W2).grown hgrow (fun k hk => by cases hk)
  have B15 := B12.out.keep C25 List.not_mem_nil
  have hZA : Z < A := by have := Z2.out; omega
  have hAE : A < E := by rw [← hE]; exact T5.lt
  have T6 := T5.set (g := fun q => if q = 0 then 1 else 0) 0 1 (fun j _ => by split <;> simp_all)
  have cs := Chg.set w5 ⟨A, 0, none⟩ (.int .i64 1)
  have B16 := B15.set' (p := ⟨A, 0, none⟩) (by show Z ≠ A; omega) (.int .i64 1)
  have C6 := (C12.out.trans C25).setCell (p := ⟨A, 0, none⟩) (.inr (by show w.heap.size ≤ A; omega)) (.int .i64 1)
  have z6 : (w5.setCell ⟨A, 0, none⟩ (.int .i64 1)).heap.size = E := by simpa [World.setCell] using hE
  generalize w5.setCell ⟨A, 0, none⟩ (.int .i64 1) = W6 at T6 B16 C6 z6 ⊢
  obtain ⟨W7, e7, b7, c7, z7⟩ := alloc_box z6 #[.slice (some ⟨A, 0, none⟩) 4 4] 22
  rw [e7]
  obtain ⟨W8, e8, b8, c8, z8⟩ := alloc_box z7 #[.int .i64 1] 3
  rw [e8]
  have c78 := c7.trans c8
  have HI8 : Hid ((Box W8 Z #[.int .i64 2, .int .i64 0, .int .i64 0, .int .i64 0, .int .i64 0, .int .i64 0, .int .i64 0] 72 ∧ IntTab W8 A 4 (tabS 1) ∧ Box W8 E #[.slice (some ⟨A, 0, none⟩) 4 4] 22 ∧ Chg [] w W8) ∧ Box W8 (E + 1) #[.int .i64 1] 3 ∧ Marks Z W8.heap.size W8 [] ∧ Tz W8) :=
    hide ⟨⟨B16.keep c78 List.not_mem_nil, (T6.keep c78 List.not_mem_nil).congr (fun q _ => tab_one q), b7.keep c8 List.not_mem_nil, C6.trans c78⟩, b8, Marks.nil _ _ _, HT.out.keep (C6.trans c78)⟩
  clear e7 b7 c7 z7 e8 b8 c8 z8 c78 T6 B16 C6 z6 cs T5 B15 C25 hown hgrow t50 t5f t5l hi hz0 hz1 hz2 hA hE
  refine wp_loop (fun a' w' => ∃ (s : Nat) (ds : List Deferred) (Bs : Nat), ((1 ≤ s ∧ s ≤ 4) ∧ E < Bs ∧ Hid ((Box w' Z #[.int .i64 2, .int .i64 0, .int .i64 0, .int .i64 0, .int .i64 0, .int .i64 0, .int .i64 0] 72 ∧ IntTab w' A 4 (tabS s) ∧ Box w' E #[.slice (some ⟨A, 0, none⟩) 4 4] 22 ∧ Chg [] w w') ∧ Box w' Bs #[.int .i64 (s : Int)] 3 ∧ Marks Z w'.heap.size w' ds ∧ Tz w')) ∧
    ∃ u12 u13 u14 u15 u16 u17 u18 u19 u49 : Value, a' = { tmps := #[Value.agg #[Value.int IntKind.i64 2, Value.int IntKind.i64 0, Value.int IntKind.i64 0, Value.int IntKind.i64 0, Value.int IntKind.i64 0, Value.int IntKind.i64 0, Value.int IntKind.i64 0], Value.pointer (some { block := Z, off := 0 }), Value.int IntKind.i64 0, Value.pointer (some ⟨E, 0, none⟩), .pointer (some ⟨Bs, 0, none⟩), undef, Value.agg #[Value.int IntKind.i64 2, Value.int IntKind.i64 0, Value.int IntKind.i64 0, Value.int IntKind.i64 0, Value.int IntKind.i64 0, Value.int IntKind.i64 0, Value.int IntKind.i64 0], Value.int IntKind.i64 3, Value.int IntKind.i64 4, Value.slice (some ⟨A, 0, none⟩) 4 4, Value.slice (some ⟨A, 0, none⟩) 4 4, Value.pointer (some ⟨A, 0, none⟩), u12, u13, u14, u15, u16, u17, u18, u19, undef, undef, undef, undef, undef, undef, undef, undef, undef, undef, undef, undef, undef, undef, undef, undef, undef, undef, undef, undef, undef, undef, undef, undef, undef, undef, undef, undef, undef, u49, undef, undef, undef, undef, undef], defers := ds }) (fun a' w' => 4 - atPtr (a'.tmps.getD 4 undef) w') ⟨1, [], E + 1, ⟨by omega, by omega, HI8⟩, _, _, _, _, _, _, _, _, _, rfl⟩ ?_
  rintro a' wr ⟨s, ds, Bs, ⟨⟨hs1, hs4⟩, hBs, hI⟩, u12, u13, u14, u15, u16, u17, u18, u19, u49, rfl⟩
  have f3 := hI.out.2.1.cell 0
  have l3 := hI.out.2.1.lt
  have l1 := hI.out.1.1.lt
  obtain ⟨⟨p0, p1, p2, p3, p4, p5, p6⟩, _⟩ := ord_all (A := fun _ => 0) (n := 2) hI.out.1.1
  simp only [List.getElem?_toArray, List.getElem?_cons_zero] at f3
  go_wp2
  refine wp_region_ext (by kernel_rfl) (by kernel_rfl) ?_
  repeat (first | go_big_quiet_step ((go_at_call 81; exact calls_of_ret (HAll.out _))) | quiet_step ((go_at_call 81; exact calls_of_ret (HAll.out _))))
  refine wpQuiet_nil ?_
  intro wx hx
  have HE10 : Hid (atPtr (.pointer (some ⟨Bs, 0, none⟩)) wr = s) := hide (boxN_eq (x := s) hI.out.2.1)
  obtain ⟨⟨k1, k2, k3, k4⟩, k5, k6, k7⟩ := hI.out
  have HI2 := hide (And.intro (And.intro (k1.keep hx List.not_mem_nil) (And.intro (k2.keep hx List.not_mem_nil) (And.intro (k3.keep hx List.not_mem_nil) (k4.trans hx)))) (And.intro (k5.keep hx List.not_mem_nil) (And.intro (k6.keep0 hx) (k7.keep hx))))
  have hzx := hx.size
  have hzs : Bs < wr.heap.size := k5.lt
  clear k1 k2 k3 k4 k5 k6 k7 hx hI f3 l3 l1 p0 p1 p2 p3 p4 p5 p6
  have f3 := HI2.out.2.1.cell 0
  have l3 := HI2.out.2.1.lt
  simp only [List.getElem?_toArray, List.getElem?_cons_zero] at f3
  by_cases hs : s ≤ 3
  · have d5 : decide ((s : Int) ≤ 3) = true := by simp; omega
    have d5n : decide (s ≤ 3) = true := by simpa using hs
    go_wp2_with fail
    refine (elements_any s _).mono ?_
    rintro e W7 ⟨rfl, rfl⟩
    obtain ⟨B, hB⟩ : ∃ B, wx.heap.size = B := ⟨_, rfl⟩
    rw [hB]
    obtain ⟨W7, e7, b7, c7, z7⟩ := alloc_box hB #[.int .i64 (s : Int)] 3
    rw [e7]
    obtain ⟨⟨k1, k2, k3, k4⟩, k5, k6, k7⟩ := HI2.out
    have HI7 : Hid ((Box W7 Z #[.int .i64 2, .int .i64 0, .int .i64 0, .int .i64 0, .int .i64 0, .int .i64 0, .int .i64 0] 72 ∧ IntTab W7 A 4 (tabY s s) ∧ Box W7 E #[.slice (some ⟨A, 0, none⟩) 4 4] 22 ∧ Chg [] w W7) ∧ Box W7 Bs #[.int .i64 (s : Int)] 3 ∧ Marks Z B W7 ds) :=
      hide ⟨⟨k1.keep c7 List.not_mem_nil, (k2.keep c7 List.not_mem_nil).congr (fun q _ => (tab_first s hs1 q).symm), k3.keep c7 List.not_mem_nil, k4.trans c7⟩, k5.keep c7 List.not_mem_nil, (k6.up (by omega)).keep0 c7⟩
    have HT7 := hide (k7.keep c7)
    have HB7 := hide b7
    have hBB : Bs < B := by omega
    clear k1 k2 k3 k4 k5 k6 k7 b7 e7 c7 f3 l3 HI2
    go_wp2
    refine (wpIn_wide (n := 9)).1 ?_
    refine bits_out (by decide) rfl (enters_of Tryd.func97 (by kernel_rfl) rfl) (elems_in 8 B (by decide)) rfl (X := s) (by omega) HB7.out HT7.out
      (fun Y W => ((Box W Z #[.int .i64 2, .int .i64 0, .int .i64 0, .int .i64 0, .int .i64 0, .int .i64 0, .int .i64 0] 72 ∧ IntTab W A 4 (tabY s Y) ∧ Box W E #[.slice (some ⟨A, 0, none⟩) 4 4] 22 ∧ Chg [] w W) ∧ Box W Bs #[.int .i64 (s : Int)] 3 ∧ Marks Z B W ds) ∧ Y < 4 ∧ Y &&& s = Y)
      (fun Y W W' row hs hg hr => by
        obtain ⟨⟨⟨k1, k2, k3, k4⟩, k6, k7⟩, k8⟩ := hs
        exact ⟨⟨⟨k1.row hg hr, k2.row hg hr, k3.row hg hr, k4.row' (by omega) hg hr⟩, k6.row hg hr, k7.row (by omega) hg hr⟩, k8⟩)
      (fun Y W u hs => by
        obtain ⟨⟨⟨k1, k2, k3, k4⟩, k6, k7⟩, k8⟩ := hs
        have cs := Chg.set W ⟨B, 0, none⟩ u
        have hn : ∀ y, y ≠ B → y ∉ [(⟨B, 0, none⟩ : Addr).block] := fun y hy hm => hy (List.mem_singleton.1 hm)
        refine ⟨⟨⟨k1.keep cs (hn _ (by omega)), k2.keep cs (hn _ (by omega)), k3.keep cs (hn _ (by omega)), k4.setCell (.inr (by show w.heap.size ≤ B; omega)) _⟩, k6.keep cs (hn _ (by omega)), k7.low cs (by intro x hx; rw [List.mem_singleton] at hx; have hx : x = B := hx; omega)⟩, k8⟩)
      ⟨HI7.out, by omega, Nat.and_self s⟩ ?f ?assign ?body ?done
    case assign =>
      intro l Y W K hK
      gi_wp2
      exact hK
    case body =>
      rintro l Y W hl ⟨r, hr⟩ hY0 hY65 ⟨⟨⟨k1, k2, k3, k4⟩, k6, k7⟩, hY4, hYs⟩ hBY hTY
      obtain ⟨y1, y2, y3, y4, y5, y6, y7⟩ := two_low (by omega) hY4 hY0 hYs
      have HBl := hide fun ws => below_any 2 (fun _ => 0) (Lib.ctz 64 Y) ws (by decide) (by omega) (by simp)
      rw [wb_none, Int.natCast_zero] at HBl
      unfold ordV at HBl
      rw [ord_two] at HBl
      have fk : W.cell? ⟨Z, 1 + Lib.ctz 64 Y, none⟩ = some (.int .i64 0) := ord_at (A := fun _ => 0) (n := 2) k1 (by omega)
      have e1 : bits .andNot .i64 0 (s : Int) = 0 := by
        have := and_not (a := 0) (b := s) (by decide) (by omega)
        rw [show andnN 0 s = 0 by unfold andnN; simp] at this
        simpa using this
      have e2 : bits .and .i64 0 (s : Int) = 0 := by
        have := land_nat 0 s (by decide) (by omega)
        simpa using this
      have e3 := andn1 (a := s) (i := Lib.ctz 64 Y) (by omega) (by omega)
      obtain ⟨d, hd⟩ : ∃ d, d = andnN s (2 ^ Lib.ctz 64 Y) := ⟨_, rfl⟩
      rw [← hd] at e3 y2 y3
      have HE3 := hide e3
      have HD := hide hd
      clear e3 hd
      obtain ⟨x, hx⟩ : ∃ x, x = pc2 s - pc2 Y := ⟨_, rfl⟩
      rw [← hx] at y4 y5
      have HTab : Hid (∀ q, tabY s (Y &&& (Y - 1)) q = if q = s then ((x + 1 : Nat) : Int) else tabY s Y q) := hide fun q => by
        unfold tabY
        by_cases e : q = s
        · rw [if_pos e, if_pos e, ← y4]
        · rw [if_neg e, if_neg e, if_neg e]
      have fs : W.cell? ⟨A, s, none⟩ = some (.int .i64 (x : Int)) := by
        rw [k2.cell (by omega)]
        unfold tabY
        rw [if_pos rfl, ← hx]
      have fd : W.cell? ⟨A, d, none⟩ = some (.int .i64 1) := by
        rw [k2.cell (by omega)]
        unfold tabY
        rw [if_neg (by omega), if_pos y2, y3]
        rfl
      have e6 := add1 (x := x) (Nat.lt_trans y5 (by decide))
      have e7 := add2 (x := x) (Nat.lt_trans y5 (by decide))
      have fz := k2.free s
      have lA := k2.lt
      have lE := k3.lt
      have fE := k3.cell 0
      have fB := k6.cell 0
      have lB := k6.lt
      simp only [List.getElem?_toArray, List.getElem?_cons_zero] at fE fB
      obtain ⟨⟨p0, p1, p2, p3, p4, p5, p6⟩, l1⟩ := ord_all (A := fun _ => 0) (n := 2) k1
      obtain ⟨k, hk⟩ : ∃ k, k = Lib.ctz 64 Y := ⟨_, rfl⟩
      rw [← hk] at HBl fk HE3 y1 ⊢
      have q0 : (0 : Int) ≤ (k : Int) := by omega
      have q6 : (k : Int) < 6 := by omega
      have q64 : (k : Int) < 64 := by omega
      have s0 : (0 : Int) ≤ (s : Int) := by omega
      have s4 : (s : Int) < 4 := by omega
      have d0 : (0 : Int) ≤ (d : Int) := by omega
      have d4 : (d : Int) < 4 := by omega
      have HW1 := hide (And.intro (And.intro k1 (And.intro k2 (And.intro k3 k4))) (And.intro k6 k7))
      have HBY := hide hBY
      have HTY := hide hTY
      have HY7 := hide (And.intro y6 y7)
      have e4 := shl1 (i := k) (by omega)
      have e5 := shl2 (i := k) (by omega)
      have e3 := HE3.out
      have HK := hide hk
      have HX := hide hx
      clear k1 k2 k3 k4 k6 k7 hBY hTY hr hk hx y4 y5 y6 y7 y3
      gi_wp2
      refine region_round_ext (by kernel_rfl) (by kernel_rfl) (by kernel_rfl) ?_
      repeat (first | go_big_quiet_step ((go_at_call 75; exact calls_of_ret (HBl.out _))) | quiet_step ((go_at_call 75; exact calls_of_ret (HBl.out _))))
      refine wpQuiet_nil ?_
      intro wy hy
      replace fs := (hy.cell lA List.not_mem_nil s).trans fs
      replace fd := (hy.cell lA List.not_mem_nil d).trans fd
      replace fz := (hy.frozen lA List.not_mem_nil s).trans fz
      replace fE := (hy.cell lE List.not_mem_nil 0).trans fE
      replace fB := (hy.cell lB List.not_mem_nil 0).trans fB
      replace lA := Nat.lt_of_lt_of_le lA hy.size
      replace lE := Nat.lt_of_lt_of_le lE hy.size
      replace lB := Nat.lt_of_lt_of_le lB hy.size
      have HY := hide hy
      clear p0 p1 p2 p3 p4 p5 p6 l1 fk hy e1 e2 HBl
      gi_wp2
      refine region_round_still 13 (by kernel_rfl) (by kernel_rfl) (by kernel_rfl) ?_
      simp only [List.take_succ_cons, List.take_zero, List.drop_succ_cons, List.drop_zero]
      repeat still_step
      try refine wpStill_nil ?_
      go_wp2
      simp only [goesOn]
      gi_wp2
      obtain ⟨⟨k1, k2, k3, k4⟩, k6, k7⟩ := HW1.out
      have CY := HY.out
      have CS := (Chg.set wy ⟨A, s, none⟩ (.int .i64 ((x + 1 : Nat) : Int))).drew
      have hn : ∀ y, y ≠ A → y ∉ [(⟨A, s, none⟩ : Addr).block] := fun y hy hm => hy (List.mem_singleton.1 hm)
      have tl := HT.out.lt
      have hBsW := k6.lt
      refine ⟨(kf_chg CY (fun s h => by cases h)).trans (kf_chg CS (fun y hm => by rw [List.mem_singleton] at hm; have hm : y = A := hm; exact .inl (by omega))), (HBY.out.keep CY List.not_mem_nil).keep CS (hn _ (by omega)), (HTY.out.keep CY).keepS CS (hn _ (by omega)),
        ⟨⟨⟨(k1.keep CY List.not_mem_nil).keep CS (hn _ (by omega)), ?_, (k3.keep CY List.not_mem_nil).keep CS (hn _ (by omega)), ((k4.trans CY).setCell (.inr (by show w.heap.size ≤ A; omega)) _).drew⟩, (k6.keep CY List.not_mem_nil).keep CS (hn _ (by omega)), (k7.keep0 CY).keep CS (fun y hm o ho => ?_)⟩, HY7.out⟩⟩
      · exact ((k2.keep CY List.not_mem_nil).set s _ (fun q _ => HTab.out q)).keep ((Chg.refl [] _).drew) List.not_mem_nil
      · rw [List.mem_singleton] at hm
        obtain rfl : y = A := hm
        obtain ⟨c, hc, _⟩ := k2.keep CY List.not_mem_nil
        rw [show wy.heap[y]? = _ from hc] at ho
        cases ho; rfl
    case done =>
      rintro D W hD ⟨⟨⟨k1, k2, k3, k4⟩, k6, k7⟩, _, _⟩ hTW hK
      have fB := k6.cell 0
      have lB := k6.lt
      simp only [List.getElem?_toArray, List.getElem?_cons_zero] at fB
      have HEb := hide (boxN_eq (x := s) k6)
      have HE6 := hide (add1 (x := s) (Nat.lt_of_le_of_lt hs (by decide)))
      have HW1 := hide (And.intro (And.intro k1 (And.intro (k2.congr (fun q _ => (tab_last s (by omega) hs1 q).symm)) (And.intro k3 k4))) (And.intro (k7.push (V := W.heap.size) (by omega) (by omega) (Array.getElem?_eq_some_iff.1 hK).1 hK) hTW))
      have HBW := hide (show Bs < W.heap.size from lB)
      clear k1 k2 k3 k4 k6 k7 hTW hK
      go_wp2
      obtain ⟨⟨k1, k2, k3, k4⟩, k6, k7⟩ := HW1.out
      obtain ⟨W8, e8, b8, c8, z8⟩ := alloc_box (w := W) rfl #[.int .i64 ((s : Int) + 1)] 3
      rw [e8]
      have es : ((s + 1 : Nat) : Int) = (s : Int) + 1 := by omega
      refine ⟨⟨s + 1, _, W.heap.size, ⟨⟨by omega, by omega⟩, by have := HBW.out; omega, hide ⟨⟨k1.keep c8 List.not_mem_nil, k2.keep c8 List.not_mem_nil, k3.keep c8 List.not_mem_nil, k4.trans c8⟩, by rw [es]; exact b8, (k6.up (by omega)).keep0 c8, k7.keep c8⟩⟩, _, _, _, _, _, _, _, _, _, rfl⟩, ?_⟩
      have b8' : BoxI W8 W.heap.size (s + 1) := by unfold BoxI; rw [es]; exact b8
      have e9 : atPtr (.pointer (some ⟨W.heap.size, 0, none⟩)) W8 = s + 1 := boxN_eq b8'
      show 4 - atPtr (.pointer (some ⟨W.heap.size, 0, none⟩)) W8 < 4 - atPtr (.pointer (some ⟨Bs, 0, none⟩)) wr
      rw [e9, HE10.out]
      omega
  · have d5 : decide ((s : Int) ≤ 3) = false := by simp; omega
    have d5n : decide (s ≤ 3) = false := by simpa using hs
    obtain rfl : s = 4 := by omega
    obtain ⟨⟨k1, k2, k3, k4⟩, k5, k6, k7⟩ := HI2.out
    have fE := k3.cell 0
    have lE := k3.lt
    have fA : wx.cell? ⟨A, 3, none⟩ = some (.int .i64 2) := k2.cell (by decide)
    have lA := k2.lt
    obtain ⟨⟨p0, p1, p2, p3, p4, p5, p6⟩, l1⟩ := ord_all (A := fun _ => 0) (n := 2) k1
    simp only [List.getElem?_toArray, List.getElem?_cons_zero] at fE
    clear k1 k2 k3 k4 k5 k6 k7 f3 l3 hs
    go_wp2
    refine wp_region_ext (by kernel_rfl) (by kernel_rfl) ?_
    repeat (first | go_big_quiet_step ((go_at_call 81; exact calls_of_ret (HAll.out _))) | quiet_step ((go_at_call 81; exact calls_of_ret (HAll.out _))))
    refine wpQuiet_nil ?_
    intro wx hx
    have HC := hide (HI2.out.1.2.2.2.trans hx)
    have HM := hide (HI2.out.2.2.1.keep0 hx)
    clear hx fE lE fA lA p0 p1 p2 p3 p4 p5 p6 l1
    go_wp2
    refine leavesM (B := Z) (U := _) (K := fun W' => Chg [] w W') (fun _ W1 W2 row hs hg hr => hs.row' (Nat.le_of_eq hZ) hg hr) (fun W' hs => ?_) _ _ HM.out HC.out
    exact ⟨_, results_tmp rfl _ _ _, rfl, hs⟩

set_option maxRecDepth 100000 in
theorem Count_two (v : Value) (w : World) (hv : See w v [0, 0]) (hT : Tz w) : Calls Tryd.prog 37 #[v] w (Ret (.tuple #[.int .i64 2, .int .i64 0]) w) := by
  have HR := hide (read_any 2 (fun _ => 0) v w hv (by decide) (by decide) (Tr.ord_zero 2) hT)
  have HC := hide fun ws hw => counted_two ws (hT.keep hw)
  obtain ⟨ao, cap, rfl⟩ := hv.shape
  unfold ordV at HR HC
  rw [ord_two] at HR HC
  clear hv hT
  go_enter Tryd.func37, Tryd.ntmps37
  go_wp2_with fail
  refine HR.out.mono ?_
  rintro e w2 ⟨rfl, h2⟩
  have H2 := hide h2
  clear h2
  go_wp2_with fail
  refine (HC.out _ (H2.out.alloc _)).mono ?_
  rintro e w3 ⟨rfl, h3⟩
  have H3 := hide ((H2.out.alloc _).trans h3)
  clear h3
  go_wp2
  go_ret2
  exact ⟨rfl, H3.out⟩
theorem see_two (w : World) : See (w.alloc (.cells #[.int .i64 0, .int .i64 0] 3)) (.slice (some ⟨w.heap.size, 0, none⟩) 2 2) [0, 0] := by
  refine .inr ⟨⟨w.heap.size, 0, none⟩, 2, rfl, Nat.le_refl _, by simp, fun i hi => ?_⟩
  rw [add_zero_row]
  refine ((Box.new w #[.int .i64 0, .int .i64 0] 3).cell i).trans ?_
  match i, hi with
  | 0, _ => rfl
  | 1, _ => rfl
set_option maxRecDepth 100000 in
theorem stands_any (w : World) (hT : Tz w) : Calls Tryd.prog 14 #[] w (Ret (.bool true) w) := by
  have HC := hide fun ws (hw : Chg [] w ws) v (hv : See ws v [0, 0]) => Count_two v ws hv (hT.keep hw)
  clear hT
  go_enter Tryd.func14, Tryd.ntmps14
  go_wp2_with fail
  refine (HC.out _ ((Chg.refl [] w).alloc _) _ (see_two w)).mono ?_
  rintro e w1 ⟨rfl, hw⟩
  have HW := hide (((Chg.refl [] w).alloc _).trans hw)
  clear hw
  go_wp2
  go_ret
  exact ⟨rfl, HW.out⟩
end Go.Proofs.YtpplihpfjniacaaDoor
