/- Walk: orders: add. -/
import Derived.Test.YtpplihpfjniacaaDoorRg3
import Derived.Test.YtpplihpfjniacaaDoorRnd
import Derived.Test.YtpplihpfjniacaaDoorOrP
namespace Go.Proofs.YtpplihpfjniacaaDoor
open Go.RowKit Go.Shelf
attribute [local go_sem] Oper.semAt_some

/-- What is above, where only some below were raised. -/
def midN (M up : Nat) (A : Nat → Nat) (Y : Nat) : Nat → Nat := fun k => if (M.testBit k && !Y.testBit k) = true then A k ||| up else A k
theorem ordC_set {n k v : Nat} {A B : Nat → Nat} (hk : k < 6) (h : ∀ q, B q = if q = k then v else A q) : (ordC n A).setIfInBounds (1 + k) (.int .i64 (v : Int)) = ordC n B := by
  obtain rfl : B = fun q => if q = k then v else A q := funext h
  match k, hk with
  | 0, _ => rfl
  | 1, _ => rfl
  | 2, _ => rfl
  | 3, _ => rfl
  | 4, _ => rfl
  | 5, _ => rfl
theorem midN_start (M up : Nat) (A : Nat → Nat) : midN M up A M = A := by
  funext k
  unfold midN
  rw [if_neg]
  cases M.testBit k <;> decide
theorem midN_at {M up Y k : Nat} {A : Nat → Nat} (h : Y.testBit k = true) : midN M up A Y k = A k := by
  unfold midN
  rw [h, if_neg]
  cases M.testBit k <;> decide
theorem midN_next {M up Y : Nat} {A : Nat → Nat} (h0 : Y ≠ 0) (h : Y < 65536) (hM : ∀ k, Y.testBit k = true → M.testBit k = true) (q : Nat) :
    midN M up A (Y &&& (Y - 1)) q = if q = Lib.ctz 64 Y then A (Lib.ctz 64 Y) ||| up else midN M up A Y q := by
  have hl := fun j => Fam.low_test h0 (show Y < 2 ^ 64 by omega) j
  unfold midN
  by_cases e : q = Lib.ctz 64 Y
  · subst e
    rw [if_pos rfl, (hl _).2.2, hM _ (hl 0).2.1, (hl 0).2.1]
    simp
  · rw [if_neg e, (hl q).2.2]
    simp [e]
theorem midN_end (n i j : Nat) (A : Nat → Nat) : midN (Lr.wb A i n ||| 2 ^ i) (A j ||| 2 ^ j) A 0 = Tr.addN n A i j := by
  funext k
  unfold midN Tr.addN
  simp

/-- All that a walk wants of a box of an order. -/
theorem ord_all {w : World} {B n : Nat} {A : Nat → Nat} (h : Box w B (ordC n A) 72) :
    (w.cell? ⟨B, 0, none⟩ = some (.int .i64 (n : Int)) ∧ w.cell? ⟨B, 1, none⟩ = some (.int .i64 (A 0 : Int)) ∧ w.cell? ⟨B, 2, none⟩ = some (.int .i64 (A 1 : Int)) ∧ w.cell? ⟨B, 3, none⟩ = some (.int .i64 (A 2 : Int)) ∧ w.cell? ⟨B, 4, none⟩ = some (.int .i64 (A 3 : Int)) ∧ w.cell? ⟨B, 5, none⟩ = some (.int .i64 (A 4 : Int)) ∧ w.cell? ⟨B, 6, none⟩ = some (.int .i64 (A 5 : Int))) ∧ B < w.heap.size :=
  ⟨⟨h.cell 0, h.cell 1, h.cell 2, h.cell 3, h.cell 4, h.cell 5, h.cell 6⟩, h.lt⟩
theorem ord_free {w : World} {B : Nat} {cs : Array Value} {T : TypeId} (h : Box w B cs T) :
    w.frozen? ⟨B, 0, none⟩ = false ∧ w.frozen? ⟨B, 1, none⟩ = false ∧ w.frozen? ⟨B, 2, none⟩ = false ∧ w.frozen? ⟨B, 3, none⟩ = false ∧ w.frozen? ⟨B, 4, none⟩ = false ∧ w.frozen? ⟨B, 5, none⟩ = false ∧ w.frozen? ⟨B, 6, none⟩ = false :=
  ⟨h.free 0, h.free 1, h.free 2, h.free 3, h.free 4, h.free 5, h.free 6⟩
/-- A whole order stored. -/
theorem ord_put {w : World} {B n m : Nat} {A C : Nat → Nat} (h : Box w B (ordC n A) 72) :
    Box ((((((((w.setCell ⟨B, 0, none⟩ (.int .i64 (m : Int))).setCell ⟨B, 1, none⟩ (.int .i64 (C 0 : Int))).setCell ⟨B, 2, none⟩ (.int .i64 (C 1 : Int))).setCell ⟨B, 3, none⟩ (.int .i64 (C 2 : Int))).setCell ⟨B, 4, none⟩ (.int .i64 (C 3 : Int))).setCell ⟨B, 5, none⟩ (.int .i64 (C 4 : Int))).setCell ⟨B, 6, none⟩ (.int .i64 (C 5 : Int)))) B (ordC m C) 72 := by
  have k := ((((((h.set 0 (.int .i64 (m : Int))).set 1 (.int .i64 (C 0 : Int))).set 2 (.int .i64 (C 1 : Int))).set 3 (.int .i64 (C 2 : Int))).set 4 (.int .i64 (C 3 : Int))).set 5 (.int .i64 (C 4 : Int))).set 6 (.int .i64 (C 5 : Int))
  unfold ordC at k ⊢
  simp only [List.setIfInBounds_toArray, List.set_cons_zero, List.set_cons_succ] at k
  exact k
theorem chg_put {S : List Nat} {w0 w : World} {B : Nat} {u0 u1 u2 u3 u4 u5 u6 : Value} (h : Chg S w0 w) (hB : B ∈ S ∨ w0.heap.size ≤ B) :
    Chg S w0 (((((((w.setCell ⟨B, 0, none⟩ u0).setCell ⟨B, 1, none⟩ u1).setCell ⟨B, 2, none⟩ u2).setCell ⟨B, 3, none⟩ u3).setCell ⟨B, 4, none⟩ u4).setCell ⟨B, 5, none⟩ u5).setCell ⟨B, 6, none⟩ u6) :=
  ((((((h.setCell hB _).setCell hB _).setCell hB _).setCell hB _).setCell hB _).setCell hB _).setCell hB _
set_option maxRecDepth 100000 in
set_option maxHeartbeats 2000000 in
theorem add_any (n i j : Nat) (A : Nat → Nat) (w : World) (hn : n ≤ 6) (hi : i < n) (hj : j < n) (hA : ∀ j, A j < 64) (hT : Tz w) :
    Calls Tryd.prog 41 #[ordV n A, .int .i64 (i : Int), .int .i64 (j : Int)] w (Ret (ordV n (Tr.addN n A i j)) w) := by
  have HBl := hide fun ws => below_any n A i ws hn (by omega) hA
  unfold ordV
  have HT := hide hT
  refine calls_calm 9 Tryd.func41 rfl ?_
  simp only [Tryd.ntmps41, List.size_toArray, List.length_cons, List.length_nil, Nat.reduceAdd, Nat.reduceSub, Array.replicate_succ, Array.replicate_zero, List.push_toArray, List.append_toArray, List.nil_append, List.cons_append]
  clear hT
  have hjA := hA j
  have eor2 := or1 (a := A j) (i := j) (by omega) (by omega)
  have ew := shl1 (i := j) (by omega)
  have ew2 := shl2 (i := j) (by omega)
  obtain ⟨up, hup⟩ : ∃ up, up = A j ||| 2 ^ j := ⟨_, rfl⟩
  rw [← hup] at eor2
  have HUp := hide hup
  have j0 : (0 : Int) ≤ (j : Int) := by omega
  have j1 : (j : Int) < 64 := by omega
  have j6 : (j : Int) < 6 := by omega
  clear hup hjA
  go_wp2
  have b3 := (Box.new w (ordC n A) 72)
  have c3 := (Chg.refl [] w).alloc (.cells (ordC n A) 72)
  have z3 : (w.alloc (.cells (ordC n A) 72)).heap.size = w.heap.size + 1 := by simp
  generalize hW3 : w.alloc (.cells (ordC n A) 72) = W3 at b3 c3 z3 ⊢
  have b6 := Box.at W3 #[.int .i64 0, .int .i64 0, .int .i64 0, .int .i64 0, .int .i64 0, .int .i64 0, .int .i64 0] 72 z3.symm
  have c6 := (Chg.refl [] W3).alloc (.cells #[.int .i64 0, .int .i64 0, .int .i64 0, .int .i64 0, .int .i64 0, .int .i64 0, .int .i64 0] 72)
  have z6 : (W3.alloc (.cells #[.int .i64 0, .int .i64 0, .int .i64 0, .int .i64 0, .int .i64 0, .int .i64 0, .int .i64 0] 72)).heap.size = w.heap.size + 1 + 1 := by simp [z3]
  generalize hW6 : W3.alloc (.cells #[.int .i64 0, .int .i64 0, .int .i64 0, .int .i64 0, .int .i64 0, .int .i64 0, .int .i64 0] 72) = W6 at b6 c6 z6 ⊢
  have b36 := b3.keep c6 List.not_mem_nil
  have HC6 := hide (c3.trans c6)
  have f1 := ord_at b36 (show j < 6 by omega)
  have l1 := b36.lt
  have B6 := hide b6
  have B36 := hide b36
  have HHA := hide hA
  clear hW3 hW6 c3 c6 z3 b3 b6 b36 hA
  go_region
  have b7 := (Box.at W6 #[.int .i64 (up : Int)] 3 z6.symm).keep ((Chg.refl [] _).drew) List.not_mem_nil
  have c7 := ((Chg.refl [] W6).alloc (.cells #[.int .i64 (up : Int)] 3)).drew
  have z7 : ((W6.alloc (.cells #[.int .i64 (up : Int)] 3)).drew).heap.size = w.heap.size + 1 + 1 + 1 := by
    show (W6.alloc (.cells #[.int .i64 (up : Int)] 3)).heap.size = _
    simp [z6]
  generalize (W6.alloc (.cells #[.int .i64 (up : Int)] 3)).drew = W7 at b7 c7 z7 ⊢
  have B37 := hide (B36.out.keep c7 List.not_mem_nil)
  have B67 := hide (B6.out.keep c7 List.not_mem_nil)
  have B7 := hide b7
  have HC7 := hide (HC6.out.trans c7)
  have f0 := B37.out.cell 0
  have f1 := B37.out.cell 1
  have f2 := B37.out.cell 2
  have f3 := B37.out.cell 3
  have f4 := B37.out.cell 4
  have f5 := B37.out.cell 5
  have f6 := B37.out.cell 6
  have l3 := B37.out.lt
  unfold ordC at f0 f1 f2 f3 f4 f5 f6
  simp only [List.getElem?_toArray, List.getElem?_cons_zero, List.getElem?_cons_succ] at f0 f1 f2 f3 f4 f5 f6
  unfold ordV ordC at HBl
  clear c7 b7 eor2 B6 B36 HC6 l1 j0 j1 j6
  have hw64 : Lr.wb A i n < 2 ^ 6 := Nat.lt_of_lt_of_le (Lr.wb_lt A i n) (Nat.pow_le_pow_right (by decide) hn)
  have hpi : (2 : Nat) ^ i ≤ 2 ^ 5 := Nat.pow_le_pow_right (by decide) (by omega)
  have eor2 := or1 (a := Lr.wb A i n) (i := i) (by omega) (by omega)
  have ewi := shl1 (i := i) (by omega)
  have ewi2 := shl2 (i := i) (by omega)
  have hM : Lr.wb A i n ||| 2 ^ i < 64 := Nat.or_lt_two_pow (n := 6) hw64 (by omega)
  obtain ⟨M, hMe⟩ : ∃ M, M = Lr.wb A i n ||| 2 ^ i := ⟨_, rfl⟩
  rw [← hMe] at eor2 hM
  have HM := hide hMe
  have i0 : (0 : Int) ≤ (i : Int) := by omega
  have i1 : (i : Int) < 64 := by omega
  clear hMe hpi hw64
  generalize Lr.wb A i n = wbv at HBl eor2
  go_wp2
  go_region_with ((first | (go_at_call 75; refine (HBl.out _).mono ?_; rintro e w8 ⟨rfl, hw8⟩; dsimp only) | (go_at_call 74; refine (elements_any _ _).mono ?_; rintro e w9 ⟨rfl, rfl⟩; dsimp only)))
  have k8 := (Chg.refl [] W7).drew.trans hw8
  have B38 := B37.out.keep k8 List.not_mem_nil
  have B68 := B67.out.keep k8 List.not_mem_nil
  have B78 := B7.out.keep k8 List.not_mem_nil
  have HC8 := HC7.out.trans k8
  have z8 : w.heap.size + 1 + 1 + 1 ≤ w8.heap.size := by have := k8.size; omega
  have b9 := Box.new w8 #[.int .i64 (M : Int)] 3
  have c9 := (Chg.refl [] w8).alloc (.cells #[.int .i64 (M : Int)] 3)
  have z9 : (w8.alloc (.cells #[.int .i64 (M : Int)] 3)).heap.size = w8.heap.size + 1 := by simp
  generalize w8.alloc (.cells #[.int .i64 (M : Int)] 3) = w9 at b9 c9 z9 ⊢
  obtain ⟨B, hB⟩ : ∃ B, B = w8.heap.size := ⟨_, rfl⟩
  rw [← hB] at b9 z9 z8 ⊢
  obtain ⟨Z, hZ⟩ : ∃ Z, Z = w.heap.size := ⟨_, rfl⟩
  have HI0 := hide (And.intro (B38.keep c9 List.not_mem_nil) (And.intro (B68.keep c9 List.not_mem_nil) (And.intro (B78.keep c9 List.not_mem_nil) (HC8.trans c9))))
  rw [← hZ] at HI0 z8 ⊢
  have HB9 := hide b9
  have HT9 := hide (HT.out.keep (HC8.trans c9))
  have HZ := hide hZ
  clear hB hZ b9 c9 B38 B68 B78 HC8 k8 hw8 f0 f1 f2 f3 f4 f5 f6 l3 B37 B67 B7 HC7 HBl z7 eor2 ewi ewi2 ew ew2 i0 i1
  go_wp2
  refine (wpIn_wide (n := 9)).1 ?_
  have hZw : w.heap.size ≤ w9.heap.size := by have := HZ.out; omega
  refine bits_out (by decide) rfl (enters_of Tryd.func97 (by kernel_rfl) rfl) (elems_in 8 B (by decide)) rfl (X := M) (by omega) HB9.out HT9.out
    (fun Y W => (Box W Z (ordC n (midN M up A Y)) 72 ∧ Box W (Z + 1) #[.int .i64 0, .int .i64 0, .int .i64 0, .int .i64 0, .int .i64 0, .int .i64 0, .int .i64 0] 72 ∧ Box W (Z + 1 + 1) #[.int .i64 (up : Int)] 3 ∧ Chg [] w W) ∧ ∀ k, Y.testBit k = true → M.testBit k = true)
    (fun s W W' row hs hg hr => ⟨⟨hs.1.1.row hg hr, hs.1.2.1.row hg hr, hs.1.2.2.1.row hg hr, hs.1.2.2.2.row' hZw hg hr⟩, hs.2⟩)
    (fun Y W u hs => ⟨⟨hs.1.1.set' (by show Z ≠ B; omega) _, hs.1.2.1.set' (by show Z + 1 ≠ B; omega) _, hs.1.2.2.1.set' (by show Z + 1 + 1 ≠ B; omega) _, hs.1.2.2.2.setCell (.inr (by have := HZ.out; show w.heap.size ≤ B; omega)) _⟩, hs.2⟩)
    ⟨by rw [midN_start]; exact HI0.out, fun _ h => h⟩ ?f ?assign ?body ?done
  case assign =>
    intro l Y W K hK
    gi_wp2
    exact hK
  case body =>
    rintro l Y W hl ⟨r, hr⟩ hY0 hY65 ⟨⟨hb1, hb2, hb3, hc⟩, hsub⟩ hBY hTY
    have hkM := hsub _ (ctz_low hY0 hY65)
    have HNx := hide (fun q => midN_next (up := up) (A := A) hY0 hY65 hsub q)
    have HSub : Hid (∀ k, (Y &&& (Y - 1)).testBit k = true → M.testBit k = true) := hide fun k hk => hsub k (by rw [Nat.testBit_and, Bool.and_eq_true] at hk; exact hk.1)
    have hk6 : Lib.ctz 64 Y < 6 := Tr.bit_ltn (n := 6) hM hkM
    have fk := ord_at hb1 hk6
    rw [midN_at (ctz_low hY0 hY65)] at fk
    obtain ⟨k, hk⟩ : ∃ k, k = Lib.ctz 64 Y := ⟨_, rfl⟩
    rw [← hk] at fk hk6 HNx ⊢
    have hAk := HHA.out k
    have hup64 : up < 64 := by rw [HUp.out]; exact Nat.or_lt_two_pow (n := 6) (HHA.out j) (Nat.lt_of_lt_of_le (Nat.pow_lt_pow_right (by decide) (show j < 6 by omega)) (Nat.le_refl _))
    have eor := lor_nat (A k) up (by omega) (by omega)
    have HW1 := hide (And.intro hb1 (And.intro hb2 (And.intro hb3 hc)))
    obtain ⟨x, hx⟩ : ∃ x, x = A k ||| up := ⟨_, rfl⟩
    rw [← hx] at eor
    have HX := hide hx
    have fu := hb3.cell 0
    simp only [List.getElem?_toArray, List.getElem?_cons_zero] at fu
    have l1 := hb1.lt
    have l3 := hb3.lt
    have fz := hb1.free (1 + k)
    have k0 : (0 : Int) ≤ (k : Int) := by omega
    have k6 : (k : Int) < 6 := by omega
    have HBY := hide hBY
    have HTY := hide hTY
    have HK := hide hk
    clear hb1 hb2 hb3 hc hsub hkM hAk hup64 hx hk hr hBY hTY
    gi_wp2
    refine region_round_still 8 (by kernel_rfl) (by kernel_rfl) (by kernel_rfl) ?_
    simp only [List.take_succ_cons, List.take_zero, List.drop_succ_cons, List.drop_zero]
    repeat still_step
    try refine wpStill_nil ?_
    go_wp2
    have CS := (Chg.set W ⟨Z, 1 + k, none⟩ (.int .i64 (x : Int))).drew
    obtain ⟨hb1, hb2, hb3, hc⟩ := HW1.out
    have hs : ∀ y, y ≠ Z → y ∉ [(⟨Z, 1 + k, none⟩ : Addr).block] := fun y hy hm => hy (List.mem_singleton.1 hm)
    have hl1 := hb1.lt
    refine ⟨kf_chg CS (fun s hm => by rw [List.mem_singleton] at hm; have hm : s = Z := hm; exact .inl (by omega)), HBY.out.keep CS (hs _ (by omega)), HTY.out.keepS CS (hs _ (by have := HT.out.lt; have := HZ.out; omega)),
      ⟨⟨?_, hb2.keep CS (hs _ (by omega)), hb3.keep CS (hs _ (by omega)), (hc.setCell (.inr (by have := HZ.out; show w.heap.size ≤ Z; omega)) _).drew⟩, HSub.out⟩⟩
    have e := ordC_set (n := n) hk6 (B := midN M up A (Y &&& (Y - 1))) (v := x) (A := midN M up A Y) (fun q => by rw [HNx.out, HX.out])
    rw [← e]
    exact hb1.set (1 + k) _
  case done =>
    rintro D W hD ⟨⟨hb1, hb2, hb3, hc⟩, _⟩ hT hK
    rw [HM.out, HUp.out, midN_end] at hb1
    obtain ⟨A', hA'⟩ : ∃ A', A' = Tr.addN n A i j := ⟨_, rfl⟩
    rw [← hA'] at hb1
    have HA' := hide hA'
    clear hA'
    obtain ⟨⟨f0, f1, f2, f3, f4, f5, f6⟩, l3⟩ := ord_all hb1
    obtain ⟨⟨p0, p1, p2, p3, p4, p5, p6⟩, l4⟩ := ord_all (A := fun _ => 0) (n := 0) hb2
    obtain ⟨g0, g1, g2, g3, g4, g5, g6⟩ := ord_free hb2
    have HB2 := hide hb2
    have HC := hide hc
    have HK := hide hK
    clear hb1 hb2 hb3 hc hK hT
    go_wp2
    have hZD : Z + 1 < D := by omega
    have hKn := ((chg_put (B := Z + 1) (S := [Z + 1]) (Chg.refl _ W) (.inl (by simp)) (u0 := .int .i64 (n : Int)) (u1 := .int .i64 (A' 0 : Int)) (u2 := .int .i64 (A' 1 : Int)) (u3 := .int .i64 (A' 2 : Int)) (u4 := .int .i64 (A' 3 : Int)) (u5 := .int .i64 (A' 4 : Int)) (u6 := .int .i64 (A' 5 : Int))).block D (Array.getElem?_eq_some_iff.1 HK.out).1 (by simp; omega)).trans HK.out
    refine leavesM (B := w9.heap.size) (U := D + 1) (K := fun W' => Box W' (Z + 1) (ordC n A') 72 ∧ Chg [] w W') (fun _ W1 W2 row hs hg hr => ⟨hs.1.row hg hr, hs.2.row' hZw hg hr⟩) (fun W' hs => ?_) _ _ ((Marks.nil _ D _).push hD (Nat.le_refl _) (Nat.lt_succ_self _) hKn) ⟨ord_put (n := 0) (A := fun _ => 0) HB2.out, chg_put (B := Z + 1) HC.out (.inr (by have := HZ.out; omega))⟩
    obtain ⟨⟨q0, q1, q2, q3, q4, q5, q6⟩, q7⟩ := ord_all hs.1
    refine ⟨.agg (ordC n A'), ?_, by rw [HA'.out], hs.2⟩
    unfold ordC
    simp [results, Tryd.results41, go_sem, q0, q1, q2, q3, q4, q5, q6]
end Go.Proofs.YtpplihpfjniacaaDoor
