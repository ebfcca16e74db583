/- Plans as lists of nodes; where they lie. -/
import Derived.Test.YtaapamoglgpocaaLen3
import Derived.Laws.StructEq
namespace Go.Proofs.Ytaapamoglgpocaa
open Go.RowKit

/-- A node of a plan. -/
structure Nd where
  leaf : Bool
  val : Int
  who : Int
  set : Int
  no : Int
  yes : Int
def nd0 : Nd := ⟨false, 0, 0, 0, 0, 0⟩
def ndV (x : Nd) : Value := .agg #[.bool x.leaf, .int .i64 x.val, .int .i64 x.who, .int .i64 x.set, .int .i64 x.no, .int .i64 x.yes]
/-- A slice of these nodes, wherever it lies. -/
def SeeN (w : World) (v : Value) (ps : List Nd) : Prop :=
  ∃ ao cap, v = .slice ao ps.length cap ∧ ps.length ≤ cap ∧ (ps ≠ [] → ∃ a, ao = some a ∧ a.block < w.heap.size ∧ ∀ i, i < ps.length →
    w.cell? (a.add (i * 6)) = some (.bool (ps.getD i nd0).leaf) ∧ w.cell? (a.add (i * 6 + 1)) = some (.int .i64 (ps.getD i nd0).val) ∧ w.cell? (a.add (i * 6 + 2)) = some (.int .i64 (ps.getD i nd0).who) ∧
    w.cell? (a.add (i * 6 + 3)) = some (.int .i64 (ps.getD i nd0).set) ∧ w.cell? (a.add (i * 6 + 4)) = some (.int .i64 (ps.getD i nd0).no) ∧ w.cell? (a.add (i * 6 + 5)) = some (.int .i64 (ps.getD i nd0).yes))
theorem SeeN.keep {w w' : World} {v : Value} {ps : List Nd} (h : SeeN w v ps) (hc : Chg [] w w') : SeeN w' v ps := by
  obtain ⟨ao, cap, e, hle, hA⟩ := h
  refine ⟨ao, cap, e, hle, fun hne => ?_⟩
  obtain ⟨a, rfl, hb, hx⟩ := hA hne
  have k : ∀ j, w'.cell? (a.add j) = w.cell? (a.add j) := fun j => hc.cellA (by rw [add_block]; exact hb) List.not_mem_nil
  refine ⟨a, rfl, Nat.lt_of_lt_of_le hb hc.size, fun i hi => ?_⟩
  rw [k, k, k, k, k, k]
  exact hx i hi
theorem SeeN.shape {w : World} {v : Value} {ps : List Nd} (h : SeeN w v ps) : ∃ ao cap, v = .slice ao ps.length cap := by
  obtain ⟨ao, cap, e, _⟩ := h
  exact ⟨ao, cap, e⟩
theorem add_in (a : Addr) (x : Nat) {j : Nat} (hj : 1 ≤ j) : a.add (x + j) = ⟨(a.add x).block, (a.add x).off + j, none⟩ := by
  unfold Addr.add
  rw [if_neg (by omega)]
  split
  · rename_i h; subst h; simp
  · simp [Nat.add_assoc]
theorem SeeN.open {w : World} {v : Value} {ps : List Nd} (h : SeeN w v ps) (hne : ps ≠ []) : ∃ a cap, v = .slice (some a) ps.length cap ∧ ∀ wr, Chg [] w wr → ∀ i, i < ps.length →
    wr.cell? (a.add (i * 6)) = some (.bool (ps.getD i nd0).leaf) ∧ wr.cell? ⟨(a.add (i * 6)).block, (a.add (i * 6)).off + 1, none⟩ = some (.int .i64 (ps.getD i nd0).val) ∧ wr.cell? ⟨(a.add (i * 6)).block, (a.add (i * 6)).off + 2, none⟩ = some (.int .i64 (ps.getD i nd0).who) ∧
    wr.cell? ⟨(a.add (i * 6)).block, (a.add (i * 6)).off + 3, none⟩ = some (.int .i64 (ps.getD i nd0).set) ∧ wr.cell? ⟨(a.add (i * 6)).block, (a.add (i * 6)).off + 4, none⟩ = some (.int .i64 (ps.getD i nd0).no) ∧ wr.cell? ⟨(a.add (i * 6)).block, (a.add (i * 6)).off + 5, none⟩ = some (.int .i64 (ps.getD i nd0).yes) := by
  obtain ⟨ao, cap, rfl, _, hA⟩ := h
  obtain ⟨a, rfl, hb, hx⟩ := hA hne
  refine ⟨a, cap, rfl, fun wr hw i hi => ?_⟩
  have k : ∀ j, wr.cell? (a.add j) = w.cell? (a.add j) := fun j => hw.cellA (by rw [add_block]; exact hb) List.not_mem_nil
  rw [← add_in a (i * 6) (by decide : 1 ≤ 1), ← add_in a (i * 6) (by decide : 1 ≤ 2), ← add_in a (i * 6) (by decide : 1 ≤ 3), ← add_in a (i * 6) (by decide : 1 ≤ 4), ← add_in a (i * 6) (by decide : 1 ≤ 5), k, k, k, k, k, k]
  exact hx i hi

theorem nd_cells {w X : World} {x : Nd} {T : TypeId} (hX : Chg [] (w.alloc (.cells #[.bool x.leaf, .int .i64 x.val, .int .i64 x.who, .int .i64 x.set, .int .i64 x.no, .int .i64 x.yes] T)) X) :
    X.cell? ⟨w.heap.size, 1, none⟩ = some (.int .i64 x.val) ∧ X.cell? ⟨w.heap.size, 2, none⟩ = some (.int .i64 x.who) ∧ X.cell? ⟨w.heap.size, 3, none⟩ = some (.int .i64 x.set) ∧ X.cell? ⟨w.heap.size, 4, none⟩ = some (.int .i64 x.no) ∧ X.cell? ⟨w.heap.size, 5, none⟩ = some (.int .i64 x.yes) ∧ w.heap.size < X.heap.size := by
  have b := (Box.new w #[.bool x.leaf, .int .i64 x.val, .int .i64 x.who, .int .i64 x.set, .int .i64 x.no, .int .i64 x.yes] T).keep hX List.not_mem_nil
  exact ⟨b.cell 1, b.cell 2, b.cell 3, b.cell 4, b.cell 5, b.lt⟩
/-- What is a plan. -/
def ndOk (n i : Nat) (x : Nd) : Bool := if x.leaf = true then decide (x.val = 0 ∨ x.val = 1) && decide (x.who = 0 ∧ x.set = 0 ∧ x.no = 0 ∧ x.yes = 0)
  else decide (x.val = 0 ∧ (x.who = 0 ∨ x.who = 1)) && decide (0 ≤ x.set ∧ x.set ≤ 15 ∧ (i : Int) < x.no ∧ x.no < (n : Int) ∧ (i : Int) < x.yes ∧ x.yes < (n : Int))
theorem ndOk_leaf {n i : Nat} {x : Nd} (h : x.leaf = true) : ndOk n i x = true ↔ (x.val = 0 ∨ x.val = 1) ∧ x.who = 0 ∧ x.set = 0 ∧ x.no = 0 ∧ x.yes = 0 := by
  unfold ndOk
  rw [if_pos h, Bool.and_eq_true, decide_eq_true_iff, decide_eq_true_iff]
theorem ndOk_node {n i : Nat} {x : Nd} (h : x.leaf = false) : ndOk n i x = true ↔ (x.val = 0 ∧ (x.who = 0 ∨ x.who = 1)) ∧ 0 ≤ x.set ∧ x.set ≤ 15 ∧ (i : Int) < x.no ∧ x.no < (n : Int) ∧ (i : Int) < x.yes ∧ x.yes < (n : Int) := by
  unfold ndOk
  rw [h, if_neg (by decide), Bool.and_eq_true, decide_eq_true_iff, decide_eq_true_iff]
def isPl (ps : List Nd) : Bool := decide (1 ≤ ps.length) && decide (ps.length ≤ 100) && (List.range ps.length).all fun i => ndOk ps.length i (ps.getD i nd0)
theorem isPl_iff {ps : List Nd} : isPl ps = true ↔ 1 ≤ ps.length ∧ ps.length ≤ 100 ∧ ∀ i, i < ps.length → ndOk ps.length i (ps.getD i nd0) = true := by
  unfold isPl
  simp only [Bool.and_eq_true, decide_eq_true_eq, List.all_eq_true, List.mem_range, and_assoc]
theorem isPl_bad {ps : List Nd} {i : Nat} (hi : i < ps.length) (h : ndOk ps.length i (ps.getD i nd0) ≠ true) : isPl ps = false := by
  rw [Bool.eq_false_iff]
  intro h'
  exact h ((isPl_iff.1 h').2.2 i hi)
theorem isPl_len {ps : List Nd} (h : ¬ (1 ≤ ps.length ∧ ps.length ≤ 100)) : isPl ps = false := by
  rw [Bool.eq_false_iff]
  intro h'
  have := isPl_iff.1 h'
  exact h ⟨this.1, this.2.1⟩
def bitB (x : Int) : Bool := decide (x = 0 ∨ x = 1)
theorem bit_any (x : Int) (w : World) : Calls Try.prog 59 #[.int .i64 x] w (Ret (.bool (bitB x)) w) := by
  by_cases h0 : x = 0
  · subst h0
    go_enter Try.func59, Try.ntmps59
    go_wp2
    go_ret
    exact ⟨rfl, Chg.refl _ _⟩
  · have d0 : (x == 0) = false := by simpa using h0
    have HE : Hid (bitB x = (x == 1)) := hide (by unfold bitB; rw [Bool.eq_iff_iff, decide_eq_true_iff, beq_iff_eq]; omega)
    clear h0
    go_enter Try.func59, Try.ntmps59
    go_wp2
    go_ret
    exact ⟨by rw [HE.out]; rfl, Chg.refl _ _⟩

set_option maxRecDepth 100000 in
set_option maxHeartbeats 4000000 in
theorem RPlan_any (v : Value) (ps : List Nd) (w : World) (hv : SeeN w v ps) (hl : ps.length ≤ 9223372036854775807) : Calls Try.prog 22 #[v] w (Ret (.bool (isPl ps)) w) := by
  obtain ⟨ao, cap, rfl⟩ := hv.shape
  have HV := hide hv
  clear hv
  obtain ⟨L, hL⟩ : ∃ L, L = ps.length := ⟨_, rfl⟩
  have HL := hide hL
  rw [← hL] at hl ⊢
  clear hL
  obtain ⟨R, hR⟩ : ∃ R, R = isPl ps := ⟨_, rfl⟩
  rw [← hR]
  have HR := hide hR
  clear hR
  go_enter Try.func22, Try.ntmps22
  go_wp2
  go_loopw [7] (fun iv wr => ∃ i : Nat, i ≤ L ∧ iv = .int .i64 (i : Int) ∧ Hid ((∀ j, j < i → ndOk L j (ps.getD j nd0) = true) ∧ Chg [] w wr)) (fun iv _ => L - (intOf iv).toNat)
  case atStart => exact ⟨0, Nat.zero_le _, rfl, hide ⟨fun j h => by omega, Chg.refl _ _⟩⟩
  case round =>
    obtain ⟨i, hi, rfl, hI⟩ := hrel
    by_cases hlt : i < L
    · have d1 : decide ((i : Int) < (L : Int)) = true := by simpa using hlt
      have hne : ps ≠ [] := by rintro rfl; have := HL.out; simp at this; omega
      obtain ⟨a, cap', e, hcell⟩ := HV.out.open hne
      rw [← HL.out] at e
      cases e
      obtain ⟨k0, k1, k2, k3, k4, k5⟩ := hcell wr hI.out.2 i (by rw [← HL.out]; exact hlt)
      have hi0 : (0 : Int) ≤ (i : Int) := by omega
      have hi1 : (i : Int) < (L : Int) := by omega
      clear hcell hne
      obtain ⟨x, hx⟩ : ∃ x, x = ps.getD i nd0 := ⟨_, rfl⟩
      rw [← hx] at k0 k1 k2 k3 k4 k5
      have HX := hide hx
      have C1 : Hid (Chg [] w (wr.alloc (.cells #[.bool x.leaf, .int .i64 x.val, .int .i64 x.who, .int .i64 x.set, .int .i64 x.no, .int .i64 x.yes] 77))) := hide (hI.out.2.alloc _)
      have HBx := hide fun X (hX : Chg [] (wr.alloc (.cells #[.bool x.leaf, .int .i64 x.val, .int .i64 x.who, .int .i64 x.set, .int .i64 x.no, .int .i64 x.yes] 77)) X) => nd_cells (T := 77) hX
      clear hx
      cases hlf : x.leaf with
      | true =>
        rw [hlf] at k0 C1 HBx
        by_cases hbval : ¬ (x.val = 0 ∨ x.val = 1)
        · have bval : bitB x.val = false := by unfold bitB; rw [decide_eq_false_iff_not]; exact hbval
          have E : Hid (R = false) := hide (by
            rw [HR.out]
            refine isPl_bad (i := i) (by rw [← HL.out]; exact hlt) ?_
            rw [← HX.out]
            intro h
            have := (ndOk_leaf hlf).1 h
            have hll := HL.out
            omega)
          go_wp2_with (go_at_call 59; (with_reducible refine Calls.mono (bit_any _ _) ?_); rintro e wb ⟨rfl, hwb⟩; obtain ⟨z1, z2, z3, z4, z5, lz⟩ := HBx.out _ hwb)
          go_ret
          exact ⟨by rw [E.out]; rfl, C1.out.trans hwb⟩
        · have bval : bitB x.val = true := by unfold bitB; rw [decide_eq_true_iff]; omega
          by_cases hwho : x.who ≠ 0
          · have dwho : (x.who != 0) = true := by simpa using hwho
            have E : Hid (R = false) := hide (by
              rw [HR.out]
              refine isPl_bad (i := i) (by rw [← HL.out]; exact hlt) ?_
              rw [← HX.out]
              intro h
              have := (ndOk_leaf hlf).1 h
              have hll := HL.out
              omega)
            go_wp2_with (go_at_call 59; (with_reducible refine Calls.mono (bit_any _ _) ?_); rintro e wb ⟨rfl, hwb⟩; obtain ⟨z1, z2, z3, z4, z5, lz⟩ := HBx.out _ hwb)
            go_ret
            exact ⟨by rw [E.out]; rfl, C1.out.trans hwb⟩
          · have dwho : (x.who != 0) = false := by simpa using hwho
            by_cases hset : x.set ≠ 0
            · have dset : (x.set != 0) = true := by simpa using hset
              have E : Hid (R = false) := hide (by
                rw [HR.out]
                refine isPl_bad (i := i) (by rw [← HL.out]; exact hlt) ?_
                rw [← HX.out]
                intro h
                have := (ndOk_leaf hlf).1 h
                have hll := HL.out
                omega)
              go_wp2_with (go_at_call 59; (with_reducible refine Calls.mono (bit_any _ _) ?_); rintro e wb ⟨rfl, hwb⟩; obtain ⟨z1, z2, z3, z4, z5, lz⟩ := HBx.out _ hwb)
              go_ret
              exact ⟨by rw [E.out]; rfl, C1.out.trans hwb⟩
            · have dset : (x.set != 0) = false := by simpa using hset
              by_cases hno : x.no ≠ 0
              · have dno : (x.no != 0) = true := by simpa using hno
                have E : Hid (R = false) := hide (by
                  rw [HR.out]
                  refine isPl_bad (i := i) (by rw [← HL.out]; exact hlt) ?_
                  rw [← HX.out]
                  intro h
                  have := (ndOk_leaf hlf).1 h
                  have hll := HL.out
                  omega)
                go_wp2_with (go_at_call 59; (with_reducible refine Calls.mono (bit_any _ _) ?_); rintro e wb ⟨rfl, hwb⟩; obtain ⟨z1, z2, z3, z4, z5, lz⟩ := HBx.out _ hwb)
                go_ret
                exact ⟨by rw [E.out]; rfl, C1.out.trans hwb⟩
              · have dno : (x.no != 0) = false := by simpa using hno
                by_cases hyes : x.yes ≠ 0
                · have dyes : (x.yes != 0) = true := by simpa using hyes
                  have E : Hid (R = false) := hide (by
                    rw [HR.out]
                    refine isPl_bad (i := i) (by rw [← HL.out]; exact hlt) ?_
                    rw [← HX.out]
                    intro h
                    have := (ndOk_leaf hlf).1 h
                    have hll := HL.out
                    omega)
                  go_wp2_with (go_at_call 59; (with_reducible refine Calls.mono (bit_any _ _) ?_); rintro e wb ⟨rfl, hwb⟩; obtain ⟨z1, z2, z3, z4, z5, lz⟩ := HBx.out _ hwb)
                  go_ret
                  exact ⟨by rw [E.out]; rfl, C1.out.trans hwb⟩
                · have dyes : (x.yes != 0) = false := by simpa using hyes
                  have HOk : Hid (∀ j, j < i + 1 → ndOk L j (ps.getD j nd0) = true) := hide (fun j hj => by
                    rcases (show j < i ∨ j = i by omega) with h | rfl
                    · exact hI.out.1 j h
                    · rw [← HX.out]
                      refine (ndOk_leaf hlf).2 ?_
                      omega)
                  go_wp2_with (go_at_call 59; (with_reducible refine Calls.mono (bit_any _ _) ?_); rintro e wb ⟨rfl, hwb⟩; obtain ⟨z1, z2, z3, z4, z5, lz⟩ := HBx.out _ hwb)
                  go_roundw
                  case rel => exact ⟨i + 1, by omega, by go_num, hide ⟨HOk.out, C1.out.trans hwb⟩⟩
                  case measure => simp [intOf]; omega
      | false =>
        rw [hlf] at k0 C1 HBx
        by_cases hval : x.val ≠ 0
        · have dval : (x.val != 0) = true := by simpa using hval
          have E : Hid (R = false) := hide (by
            rw [HR.out]
            refine isPl_bad (i := i) (by rw [← HL.out]; exact hlt) ?_
            rw [← HX.out]
            intro h
            have := (ndOk_node hlf).1 h
            have hll := HL.out
            omega)
          go_wp2
          go_ret
          exact ⟨by rw [E.out]; rfl, C1.out⟩
        · have dval : (x.val != 0) = false := by simpa using hval
          by_cases hbwho : ¬ (x.who = 0 ∨ x.who = 1)
          · have bwho : bitB x.who = false := by unfold bitB; rw [decide_eq_false_iff_not]; exact hbwho
            have E : Hid (R = false) := hide (by
              rw [HR.out]
              refine isPl_bad (i := i) (by rw [← HL.out]; exact hlt) ?_
              rw [← HX.out]
              intro h
              have := (ndOk_node hlf).1 h
              have hll := HL.out
              omega)
            go_wp2_with (go_at_call 59; (with_reducible refine Calls.mono (bit_any _ _) ?_); rintro e wb ⟨rfl, hwb⟩; obtain ⟨z1, z2, z3, z4, z5, lz⟩ := HBx.out _ hwb)
            go_ret
            exact ⟨by rw [E.out]; rfl, C1.out.trans hwb⟩
          · have bwho : bitB x.who = true := by unfold bitB; rw [decide_eq_true_iff]; omega
            by_cases hs1 : x.set < 0
            · have ds1 : decide (x.set < 0) = true := by simpa using hs1
              have E : Hid (R = false) := hide (by
                rw [HR.out]
                refine isPl_bad (i := i) (by rw [← HL.out]; exact hlt) ?_
                rw [← HX.out]
                intro h
                have := (ndOk_node hlf).1 h
                have hll := HL.out
                omega)
              go_wp2_with (go_at_call 59; (with_reducible refine Calls.mono (bit_any _ _) ?_); rintro e wb ⟨rfl, hwb⟩; obtain ⟨z1, z2, z3, z4, z5, lz⟩ := HBx.out _ hwb)
              go_ret
              exact ⟨by rw [E.out]; rfl, C1.out.trans hwb⟩
            · have ds1 : decide (x.set < 0) = false := by simpa using hs1
              by_cases hs2 : 15 < x.set
              · have ds2 : decide (15 < x.set) = true := by simpa using hs2
                have E : Hid (R = false) := hide (by
                  rw [HR.out]
                  refine isPl_bad (i := i) (by rw [← HL.out]; exact hlt) ?_
                  rw [← HX.out]
                  intro h
                  have := (ndOk_node hlf).1 h
                  have hll := HL.out
                  omega)
                go_wp2_with (go_at_call 59; (with_reducible refine Calls.mono (bit_any _ _) ?_); rintro e wb ⟨rfl, hwb⟩; obtain ⟨z1, z2, z3, z4, z5, lz⟩ := HBx.out _ hwb)
                go_ret
                exact ⟨by rw [E.out]; rfl, C1.out.trans hwb⟩
              · have ds2 : decide (15 < x.set) = false := by simpa using hs2
                by_cases hn1 : x.no ≤ (i : Int)
                · have dn1 : decide (x.no ≤ (i : Int)) = true := by simpa using hn1
                  have E : Hid (R = false) := hide (by
                    rw [HR.out]
                    refine isPl_bad (i := i) (by rw [← HL.out]; exact hlt) ?_
                    rw [← HX.out]
                    intro h
                    have := (ndOk_node hlf).1 h
                    have hll := HL.out
                    omega)
                  go_wp2_with (go_at_call 59; (with_reducible refine Calls.mono (bit_any _ _) ?_); rintro e wb ⟨rfl, hwb⟩; obtain ⟨z1, z2, z3, z4, z5, lz⟩ := HBx.out _ hwb)
                  go_ret
                  exact ⟨by rw [E.out]; rfl, C1.out.trans hwb⟩
                · have dn1 : decide (x.no ≤ (i : Int)) = false := by simpa using hn1
                  by_cases hn2 : (L : Int) ≤ x.no
                  · have dn2 : decide ((L : Int) ≤ x.no) = true := by simpa using hn2
                    have E : Hid (R = false) := hide (by
                      rw [HR.out]
                      refine isPl_bad (i := i) (by rw [← HL.out]; exact hlt) ?_
                      rw [← HX.out]
                      intro h
                      have := (ndOk_node hlf).1 h
                      have hll := HL.out
                      omega)
                    go_wp2_with (go_at_call 59; (with_reducible refine Calls.mono (bit_any _ _) ?_); rintro e wb ⟨rfl, hwb⟩; obtain ⟨z1, z2, z3, z4, z5, lz⟩ := HBx.out _ hwb)
                    go_ret
                    exact ⟨by rw [E.out]; rfl, C1.out.trans hwb⟩
                  · have dn2 : decide ((L : Int) ≤ x.no) = false := by simpa using hn2
                    by_cases hy1 : x.yes ≤ (i : Int)
                    · have dy1 : decide (x.yes ≤ (i : Int)) = true := by simpa using hy1
                      have E : Hid (R = false) := hide (by
                        rw [HR.out]
                        refine isPl_bad (i := i) (by rw [← HL.out]; exact hlt) ?_
                        rw [← HX.out]
                        intro h
                        have := (ndOk_node hlf).1 h
                        have hll := HL.out
                        omega)
                      go_wp2_with (go_at_call 59; (with_reducible refine Calls.mono (bit_any _ _) ?_); rintro e wb ⟨rfl, hwb⟩; obtain ⟨z1, z2, z3, z4, z5, lz⟩ := HBx.out _ hwb)
                      go_ret
                      exact ⟨by rw [E.out]; rfl, C1.out.trans hwb⟩
                    · have dy1 : decide (x.yes ≤ (i : Int)) = false := by simpa using hy1
                      by_cases hy2 : (L : Int) ≤ x.yes
                      · have dy2 : decide ((L : Int) ≤ x.yes) = true := by simpa using hy2
                        have E : Hid (R = false) := hide (by
                          rw [HR.out]
                          refine isPl_bad (i := i) (by rw [← HL.out]; exact hlt) ?_
                          rw [← HX.out]
                          intro h
                          have := (ndOk_node hlf).1 h
                          have hll := HL.out
                          omega)
                        go_wp2_with (go_at_call 59; (with_reducible refine Calls.mono (bit_any _ _) ?_); rintro e wb ⟨rfl, hwb⟩; obtain ⟨z1, z2, z3, z4, z5, lz⟩ := HBx.out _ hwb)
                        go_ret
                        exact ⟨by rw [E.out]; rfl, C1.out.trans hwb⟩
                      · have dy2 : decide ((L : Int) ≤ x.yes) = false := by simpa using hy2
                        have HOk : Hid (∀ j, j < i + 1 → ndOk L j (ps.getD j nd0) = true) := hide (fun j hj => by
                          rcases (show j < i ∨ j = i by omega) with h | rfl
                          · exact hI.out.1 j h
                          · rw [← HX.out]
                            refine (ndOk_node hlf).2 ?_
                            omega)
                        go_wp2_with (go_at_call 59; (with_reducible refine Calls.mono (bit_any _ _) ?_); rintro e wb ⟨rfl, hwb⟩; obtain ⟨z1, z2, z3, z4, z5, lz⟩ := HBx.out _ hwb)
                        go_roundw
                        case rel => exact ⟨i + 1, by omega, by go_num, hide ⟨HOk.out, C1.out.trans hwb⟩⟩
                        case measure => simp [intOf]; omega
    · have d1 : decide ((i : Int) < (L : Int)) = false := by simpa using hlt
      obtain rfl : i = L := by omega
      by_cases h1 : 1 ≤ i
      · have d2 : decide ((1 : Int) ≤ (i : Int)) = true := by simp; omega
        by_cases h2 : i ≤ 100
        · have d3 : decide ((i : Int) ≤ 100) = true := by simp; omega
          have E : Hid (R = true) := hide (by rw [HR.out]; exact isPl_iff.2 ⟨by rw [← HL.out]; exact h1, by rw [← HL.out]; exact h2, fun j hj => by rw [← HL.out] at hj ⊢; exact hI.out.1 j hj⟩)
          go_wp2
          go_ret
          exact ⟨by rw [E.out]; rfl, hI.out.2⟩
        · have d3 : decide ((i : Int) ≤ 100) = false := by simp; omega
          have E : Hid (R = false) := hide (by rw [HR.out]; exact isPl_len (by rw [← HL.out]; omega))
          go_wp2
          go_ret
          exact ⟨by rw [E.out]; rfl, hI.out.2⟩
      · have d2 : decide ((1 : Int) ≤ (i : Int)) = false := by simp; omega
        have E : Hid (R = false) := hide (by rw [HR.out]; exact isPl_len (by rw [← HL.out]; omega))
        go_wp2
        go_ret
        exact ⟨by rw [E.out]; rfl, hI.out.2⟩
end Go.Proofs.Ytaapamoglgpocaa

/- Walk: what is a plan, the program's. -/
namespace Go.Proofs.Ytaapamoglgpocaa
open Go.RowKit

set_option maxRecDepth 100000 in
set_option maxHeartbeats 4000000 in
theorem isPlan_any (v : Value) (ps : List Nd) (w : World) (hv : SeeN w v ps) (hl : ps.length ≤ 1000000) : Calls Try.prog 65 #[v] w (Ret (.bool (isPl ps)) w) := by
  have kmin := fun w ts t x y => @run_min_2 Try.prog w ts t x y
  have kmax := fun w ts t x y => @run_max_2 Try.prog w ts t x y
  obtain ⟨ao, cap, rfl⟩ := hv.shape
  have HV := hide hv
  clear hv
  obtain ⟨L, hL⟩ : ∃ L, L = ps.length := ⟨_, rfl⟩
  have HL := hide hL
  rw [← hL] at hl ⊢
  clear hL
  obtain ⟨R, hR⟩ : ∃ R, R = isPl ps := ⟨_, rfl⟩
  rw [← hR]
  have HR := hide hR
  clear hR
  by_cases h1 : L < 1
  · have d1 : decide ((L : Int) < 1) = true := by simp; omega
    have E : Hid (R = false) := hide (by rw [HR.out]; exact isPl_len (by rw [← HL.out]; omega))
    go_enter Try.func65, Try.ntmps65
    go_wp2
    go_ret
    exact ⟨by rw [E.out]; rfl, Chg.refl _ _⟩
  by_cases h2 : 100 < L
  · have d1 : decide ((L : Int) < 1) = false := by simp; omega
    have d2 : decide ((100 : Int) < (L : Int)) = true := by simp; omega
    have E : Hid (R = false) := hide (by rw [HR.out]; exact isPl_len (by rw [← HL.out]; omega))
    go_enter Try.func65, Try.ntmps65
    go_wp2
    go_ret
    exact ⟨by rw [E.out]; rfl, Chg.refl _ _⟩
  have d1 : decide ((L : Int) < 1) = false := by simp; omega
  have d2 : decide ((100 : Int) < (L : Int)) = false := by simp; omega
  go_enter Try.func65, Try.ntmps65
  go_wp2
  go_loopw [15] (fun iv wr => ∃ i : Nat, i ≤ L ∧ iv = .int .i64 (i : Int) ∧ Hid ((∀ j, j < i → ndOk L j (ps.getD j nd0) = true) ∧ Chg [] w wr)) (fun iv _ => L - (intOf iv).toNat)
  case atStart => exact ⟨0, Nat.zero_le _, rfl, hide ⟨fun j h => by omega, Chg.refl _ _⟩⟩
  case round =>
    obtain ⟨i, hi, rfl, hI⟩ := hrel
    by_cases hlt : i < L
    · have d3 : decide ((i : Int) < (L : Int)) = true := by simpa using hlt
      have hne : ps ≠ [] := by rintro rfl; have := HL.out; simp at this; omega
      obtain ⟨a, cap', e, hcell⟩ := HV.out.open hne
      rw [← HL.out] at e
      cases e
      obtain ⟨k0, k1, k2, k3, k4, k5⟩ := hcell wr hI.out.2 i (by rw [← HL.out]; exact hlt)
      have hi0 : (0 : Int) ≤ (i : Int) := by omega
      have hi1 : (i : Int) < (L : Int) := by omega
      clear hcell hne
      obtain ⟨x, hx⟩ : ∃ x, x = ps.getD i nd0 := ⟨_, rfl⟩
      rw [← hx] at k0 k1 k2 k3 k4 k5
      have HX := hide hx
      clear hx
      obtain ⟨mi, hmi⟩ : ∃ mi, imin x.no x.yes = mi := ⟨_, rfl⟩
      obtain ⟨ma, hma⟩ : ∃ ma, imax x.no x.yes = ma := ⟨_, rfl⟩
      have HMi : Hid ((mi = x.no ∨ mi = x.yes) ∧ mi ≤ x.no ∧ mi ≤ x.yes ∧ (ma = x.no ∨ ma = x.yes) ∧ x.no ≤ ma ∧ x.yes ≤ ma) := hide (by
        obtain ⟨p1, p2, p3⟩ := imin_pick x.no x.yes
        obtain ⟨q1, q2, q3⟩ := imax_pick x.no x.yes
        rw [hmi] at p1 p2 p3
        rw [hma] at q1 q2 q3
        omega)
      have hm0 : True := trivial
      cases hlf : x.leaf with
      | true =>
        rw [hlf] at k0
        clear hmi hma
        by_cases hv0 : x.val = 0
        · have dv0 : (x.val != 0) = false := by simpa using hv0
          by_cases hwho : x.who ≠ 0
          · have dwho : (x.who == 0) = false := by simpa using hwho
            have E : Hid (R = false) := hide (by
              rw [HR.out]
              refine isPl_bad (i := i) (by rw [← HL.out]; exact hlt) ?_
              rw [← HX.out]
              intro h
              have := (ndOk_leaf hlf).1 h
              have hll := HL.out
              have hm1 := HMi.out
              omega)
            clear hm0
            go_wp2
            go_ret
            exact ⟨by rw [E.out]; rfl, hI.out.2.alloc _⟩
          · have dwho : (x.who == 0) = true := by simpa using hwho
            by_cases hset : x.set ≠ 0
            · have dset : (x.set == 0) = false := by simpa using hset
              have E : Hid (R = false) := hide (by
                rw [HR.out]
                refine isPl_bad (i := i) (by rw [← HL.out]; exact hlt) ?_
                rw [← HX.out]
                intro h
                have := (ndOk_leaf hlf).1 h
                have hll := HL.out
                have hm1 := HMi.out
                omega)
              clear hm0
              go_wp2
              go_ret
              exact ⟨by rw [E.out]; rfl, hI.out.2.alloc _⟩
            · have dset : (x.set == 0) = true := by simpa using hset
              by_cases hno : x.no ≠ 0
              · have dno : (x.no == 0) = false := by simpa using hno
                have E : Hid (R = false) := hide (by
                  rw [HR.out]
                  refine isPl_bad (i := i) (by rw [← HL.out]; exact hlt) ?_
                  rw [← HX.out]
                  intro h
                  have := (ndOk_leaf hlf).1 h
                  have hll := HL.out
                  have hm1 := HMi.out
                  omega)
                clear hm0
                go_wp2
                go_ret
                exact ⟨by rw [E.out]; rfl, hI.out.2.alloc _⟩
              · have dno : (x.no == 0) = true := by simpa using hno
                by_cases hyes : x.yes ≠ 0
                · have dyes : (x.yes == 0) = false := by simpa using hyes
                  have E : Hid (R = false) := hide (by
                    rw [HR.out]
                    refine isPl_bad (i := i) (by rw [← HL.out]; exact hlt) ?_
                    rw [← HX.out]
                    intro h
                    have := (ndOk_leaf hlf).1 h
                    have hll := HL.out
                    have hm1 := HMi.out
                    omega)
                  clear hm0
                  go_wp2
                  go_ret
                  exact ⟨by rw [E.out]; rfl, hI.out.2.alloc _⟩
                · have dyes : (x.yes == 0) = true := by simpa using hyes
                  have HOk : Hid (∀ j, j < i + 1 → ndOk L j (ps.getD j nd0) = true) := hide (fun j hj => by
                    rcases (show j < i ∨ j = i by omega) with h | rfl
                    · exact hI.out.1 j h
                    · rw [← HX.out]
                      have hm1 := HMi.out
                      refine (ndOk_leaf hlf).2 ?_
                      omega)
                  clear hm0
                  go_wp2
                  go_roundw
                  case rel => exact ⟨i + 1, by omega, by go_num, hide ⟨HOk.out, hI.out.2.alloc _⟩⟩
                  case measure => simp [intOf]; omega
        · have dv0 : (x.val != 0) = true := by simpa using hv0
          by_cases hv1 : x.val = 1
          · have dv1 : (x.val != 1) = false := by simpa using hv1
            by_cases hwho : x.who ≠ 0
            · have dwho : (x.who == 0) = false := by simpa using hwho
              have E : Hid (R = false) := hide (by
                rw [HR.out]
                refine isPl_bad (i := i) (by rw [← HL.out]; exact hlt) ?_
                rw [← HX.out]
                intro h
                have := (ndOk_leaf hlf).1 h
                have hll := HL.out
                have hm1 := HMi.out
                omega)
              clear hm0
              go_wp2
              go_ret
              exact ⟨by rw [E.out]; rfl, hI.out.2.alloc _⟩
            · have dwho : (x.who == 0) = true := by simpa using hwho
              by_cases hset : x.set ≠ 0
              · have dset : (x.set == 0) = false := by simpa using hset
                have E : Hid (R = false) := hide (by
                  rw [HR.out]
                  refine isPl_bad (i := i) (by rw [← HL.out]; exact hlt) ?_
                  rw [← HX.out]
                  intro h
                  have := (ndOk_leaf hlf).1 h
                  have hll := HL.out
                  have hm1 := HMi.out
                  omega)
                clear hm0
                go_wp2
                go_ret
                exact ⟨by rw [E.out]; rfl, hI.out.2.alloc _⟩
              · have dset : (x.set == 0) = true := by simpa using hset
                by_cases hno : x.no ≠ 0
                · have dno : (x.no == 0) = false := by simpa using hno
                  have E : Hid (R = false) := hide (by
                    rw [HR.out]
                    refine isPl_bad (i := i) (by rw [← HL.out]; exact hlt) ?_
                    rw [← HX.out]
                    intro h
                    have := (ndOk_leaf hlf).1 h
                    have hll := HL.out
                    have hm1 := HMi.out
                    omega)
                  clear hm0
                  go_wp2
                  go_ret
                  exact ⟨by rw [E.out]; rfl, hI.out.2.alloc _⟩
                · have dno : (x.no == 0) = true := by simpa using hno
                  by_cases hyes : x.yes ≠ 0
                  · have dyes : (x.yes == 0) = false := by simpa using hyes
                    have E : Hid (R = false) := hide (by
                      rw [HR.out]
                      refine isPl_bad (i := i) (by rw [← HL.out]; exact hlt) ?_
                      rw [← HX.out]
                      intro h
                      have := (ndOk_leaf hlf).1 h
                      have hll := HL.out
                      have hm1 := HMi.out
                      omega)
                    clear hm0
                    go_wp2
                    go_ret
                    exact ⟨by rw [E.out]; rfl, hI.out.2.alloc _⟩
                  · have dyes : (x.yes == 0) = true := by simpa using hyes
                    have HOk : Hid (∀ j, j < i + 1 → ndOk L j (ps.getD j nd0) = true) := hide (fun j hj => by
                      rcases (show j < i ∨ j = i by omega) with h | rfl
                      · exact hI.out.1 j h
                      · rw [← HX.out]
                        have hm1 := HMi.out
                        refine (ndOk_leaf hlf).2 ?_
                        omega)
                    clear hm0
                    go_wp2
                    go_roundw
                    case rel => exact ⟨i + 1, by omega, by go_num, hide ⟨HOk.out, hI.out.2.alloc _⟩⟩
                    case measure => simp [intOf]; omega
          · have dv1 : (x.val != 1) = true := by simpa using hv1
            have E : Hid (R = false) := hide (by
              rw [HR.out]
              refine isPl_bad (i := i) (by rw [← HL.out]; exact hlt) ?_
              rw [← HX.out]
              intro h
              have := (ndOk_leaf hlf).1 h
              have hll := HL.out
              have hm1 := HMi.out
              omega)
            clear hm0
            go_wp2
            go_ret
            exact ⟨by rw [E.out]; rfl, hI.out.2.alloc _⟩
      | false =>
        rw [hlf] at k0
        by_cases hv0 : x.val ≠ 0
        · have dv0 : (x.val != 0) = true := by simpa using hv0
          have E : Hid (R = false) := hide (by
            rw [HR.out]
            refine isPl_bad (i := i) (by rw [← HL.out]; exact hlt) ?_
            rw [← HX.out]
            intro h
            have := (ndOk_node hlf).1 h
            have hll := HL.out
            have hm1 := HMi.out
            omega)
          clear hm0
          go_wp2
          go_ret
          exact ⟨by rw [E.out]; rfl, hI.out.2.alloc _⟩
        · have dv0 : (x.val != 0) = false := by simpa using hv0
          by_cases hw0 : x.who = 0
          · have dw0 : (x.who != 0) = false := by simpa using hw0
            by_cases hs1 : x.set < 0
            · have ds1 : decide (x.set < 0) = true := by simpa using hs1
              have E : Hid (R = false) := hide (by
                rw [HR.out]
                refine isPl_bad (i := i) (by rw [← HL.out]; exact hlt) ?_
                rw [← HX.out]
                intro h
                have := (ndOk_node hlf).1 h
                have hll := HL.out
                have hm1 := HMi.out
                omega)
              clear hm0
              go_wp2
              go_ret
              exact ⟨by rw [E.out]; rfl, hI.out.2.alloc _⟩
            · have ds1 : decide (x.set < 0) = false := by simpa using hs1
              by_cases hs2 : 16 ≤ x.set
              · have ds2 : decide (16 ≤ x.set) = true := by simpa using hs2
                have E : Hid (R = false) := hide (by
                  rw [HR.out]
                  refine isPl_bad (i := i) (by rw [← HL.out]; exact hlt) ?_
                  rw [← HX.out]
                  intro h
                  have := (ndOk_node hlf).1 h
                  have hll := HL.out
                  have hm1 := HMi.out
                  omega)
                clear hm0
                go_wp2
                go_ret
                exact ⟨by rw [E.out]; rfl, hI.out.2.alloc _⟩
              · have ds2 : decide (16 ≤ x.set) = false := by simpa using hs2
                by_cases hn1 : mi ≤ (i : Int)
                · have dn1 : decide (mi ≤ (i : Int)) = true := by simpa using hn1
                  have E : Hid (R = false) := hide (by
                    rw [HR.out]
                    refine isPl_bad (i := i) (by rw [← HL.out]; exact hlt) ?_
                    rw [← HX.out]
                    intro h
                    have := (ndOk_node hlf).1 h
                    have hll := HL.out
                    have hm1 := HMi.out
                    omega)
                  clear hm0
                  go_wp2
                  go_ret
                  exact ⟨by rw [E.out]; rfl, hI.out.2.alloc _⟩
                · have dn1 : decide (mi ≤ (i : Int)) = false := by simpa using hn1
                  by_cases hn2 : (L : Int) ≤ ma
                  · have dn2 : decide ((L : Int) ≤ ma) = true := by simpa using hn2
                    have E : Hid (R = false) := hide (by
                      rw [HR.out]
                      refine isPl_bad (i := i) (by rw [← HL.out]; exact hlt) ?_
                      rw [← HX.out]
                      intro h
                      have := (ndOk_node hlf).1 h
                      have hll := HL.out
                      have hm1 := HMi.out
                      omega)
                    clear hm0
                    go_wp2
                    go_ret
                    exact ⟨by rw [E.out]; rfl, hI.out.2.alloc _⟩
                  · have dn2 : decide ((L : Int) ≤ ma) = false := by simpa using hn2
                    have HOk : Hid (∀ j, j < i + 1 → ndOk L j (ps.getD j nd0) = true) := hide (fun j hj => by
                      rcases (show j < i ∨ j = i by omega) with h | rfl
                      · exact hI.out.1 j h
                      · rw [← HX.out]
                        have hm1 := HMi.out
                        refine (ndOk_node hlf).2 ?_
                        omega)
                    clear hm0
                    go_wp2
                    go_roundw
                    case rel => exact ⟨i + 1, by omega, by go_num, hide ⟨HOk.out, hI.out.2.alloc _⟩⟩
                    case measure => simp [intOf]; omega
          · have dw0 : (x.who != 0) = true := by simpa using hw0
            by_cases hw1 : x.who = 1
            · have dw1 : (x.who != 1) = false := by simpa using hw1
              by_cases hs1 : x.set < 0
              · have ds1 : decide (x.set < 0) = true := by simpa using hs1
                have E : Hid (R = false) := hide (by
                  rw [HR.out]
                  refine isPl_bad (i := i) (by rw [← HL.out]; exact hlt) ?_
                  rw [← HX.out]
                  intro h
                  have := (ndOk_node hlf).1 h
                  have hll := HL.out
                  have hm1 := HMi.out
                  omega)
                clear hm0
                go_wp2
                go_ret
                exact ⟨by rw [E.out]; rfl, hI.out.2.alloc _⟩
              · have ds1 : decide (x.set < 0) = false := by simpa using hs1
                by_cases hs2 : 16 ≤ x.set
                · have ds2 : decide (16 ≤ x.set) = true := by simpa using hs2
                  have E : Hid (R = false) := hide (by
                    rw [HR.out]
                    refine isPl_bad (i := i) (by rw [← HL.out]; exact hlt) ?_
                    rw [← HX.out]
                    intro h
                    have := (ndOk_node hlf).1 h
                    have hll := HL.out
                    have hm1 := HMi.out
                    omega)
                  clear hm0
                  go_wp2
                  go_ret
                  exact ⟨by rw [E.out]; rfl, hI.out.2.alloc _⟩
                · have ds2 : decide (16 ≤ x.set) = false := by simpa using hs2
                  by_cases hn1 : mi ≤ (i : Int)
                  · have dn1 : decide (mi ≤ (i : Int)) = true := by simpa using hn1
                    have E : Hid (R = false) := hide (by
                      rw [HR.out]
                      refine isPl_bad (i := i) (by rw [← HL.out]; exact hlt) ?_
                      rw [← HX.out]
                      intro h
                      have := (ndOk_node hlf).1 h
                      have hll := HL.out
                      have hm1 := HMi.out
                      omega)
                    clear hm0
                    go_wp2
                    go_ret
                    exact ⟨by rw [E.out]; rfl, hI.out.2.alloc _⟩
                  · have dn1 : decide (mi ≤ (i : Int)) = false := by simpa using hn1
                    by_cases hn2 : (L : Int) ≤ ma
                    · have dn2 : decide ((L : Int) ≤ ma) = true := by simpa using hn2
                      have E : Hid (R = false) := hide (by
                        rw [HR.out]
                        refine isPl_bad (i := i) (by rw [← HL.out]; exact hlt) ?_
                        rw [← HX.out]
                        intro h
                        have := (ndOk_node hlf).1 h
                        have hll := HL.out
                        have hm1 := HMi.out
                        omega)
                      clear hm0
                      go_wp2
                      go_ret
                      exact ⟨by rw [E.out]; rfl, hI.out.2.alloc _⟩
                    · have dn2 : decide ((L : Int) ≤ ma) = false := by simpa using hn2
                      have HOk : Hid (∀ j, j < i + 1 → ndOk L j (ps.getD j nd0) = true) := hide (fun j hj => by
                        rcases (show j < i ∨ j = i by omega) with h | rfl
                        · exact hI.out.1 j h
                        · rw [← HX.out]
                          have hm1 := HMi.out
                          refine (ndOk_node hlf).2 ?_
                          omega)
                      clear hm0
                      go_wp2
                      go_roundw
                      case rel => exact ⟨i + 1, by omega, by go_num, hide ⟨HOk.out, hI.out.2.alloc _⟩⟩
                      case measure => simp [intOf]; omega
            · have dw1 : (x.who != 1) = true := by simpa using hw1
              have E : Hid (R = false) := hide (by
                rw [HR.out]
                refine isPl_bad (i := i) (by rw [← HL.out]; exact hlt) ?_
                rw [← HX.out]
                intro h
                have := (ndOk_node hlf).1 h
                have hll := HL.out
                have hm1 := HMi.out
                omega)
              clear hm0
              go_wp2
              go_ret
              exact ⟨by rw [E.out]; rfl, hI.out.2.alloc _⟩
    · have d3 : decide ((i : Int) < (L : Int)) = false := by simpa using hlt
      obtain rfl : i = L := by omega
      have E : Hid (R = true) := hide (by rw [HR.out]; exact isPl_iff.2 ⟨by rw [← HL.out]; omega, by rw [← HL.out]; omega, fun j hj => by rw [← HL.out] at hj ⊢; exact hI.out.1 j hj⟩)
      go_wp2
      go_ret
      exact ⟨by rw [E.out]; rfl, hI.out.2⟩
end Go.Proofs.Ytaapamoglgpocaa
