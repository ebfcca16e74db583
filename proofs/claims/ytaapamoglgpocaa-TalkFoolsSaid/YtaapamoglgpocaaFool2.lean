/- Walk: the entries of a table with a value. -/
import Derived.Test.YtaapamoglgpocaaFool1
namespace Go.Proofs.Ytaapamoglgpocaa
open Go.RowKit

def entsRow (t : List (List Int)) (v : Int) (i j : Nat) : List Pr := (List.range j).filterMap fun q => if T.ent t i q = v then some ((i : Int), (q : Int)) else none
def entsTo (t : List (List Int)) (v : Int) (i : Nat) : List Pr := (List.range i).flatMap fun a => entsRow t v a (T.cols t)
def ents (t : List (List Int)) (v : Int) : List Pr := entsTo t v t.length
theorem entsRow_succ (t : List (List Int)) (v : Int) (i j : Nat) : entsRow t v i (j + 1) = entsRow t v i j ++ (if T.ent t i j = v then [((i : Int), (j : Int))] else []) := by
  unfold entsRow
  rw [List.range_succ, List.filterMap_append]
  congr 1
  by_cases h : T.ent t i j = v
  · simp [h]
  · simp [h]
theorem entsTo_succ (t : List (List Int)) (v : Int) (i : Nat) : entsTo t v (i + 1) = entsTo t v i ++ entsRow t v i (T.cols t) := by
  unfold entsTo
  rw [List.range_succ, List.flatMap_append]
  simp
theorem entsRow_len (t : List (List Int)) (v : Int) (i : Nat) : ∀ j, (entsRow t v i j).length ≤ j
  | 0 => Nat.le_refl _
  | j + 1 => by
    have := entsRow_len t v i j
    rw [entsRow_succ, List.length_append]
    split <;> simp <;> omega
theorem entsTo_len (t : List (List Int)) (v : Int) : ∀ i, (entsTo t v i).length ≤ i * T.cols t
  | 0 => by simp [entsTo]
  | i + 1 => by
    have h1 := entsTo_len t v i
    have h2 := entsRow_len t v i (T.cols t)
    rw [entsTo_succ, List.length_append, Nat.add_mul]
    omega
theorem entsRow_mem {t : List (List Int)} {v : Int} {i j : Nat} {x : Pr} : x ∈ entsRow t v i j ↔ ∃ q, q < j ∧ T.ent t i q = v ∧ x = ((i : Int), (q : Int)) := by
  unfold entsRow
  rw [List.mem_filterMap]
  constructor
  · rintro ⟨q, hq, h⟩
    by_cases he : T.ent t i q = v
    · rw [if_pos he] at h
      exact ⟨q, List.mem_range.1 hq, he, by simpa using h.symm⟩
    · rw [if_neg he] at h; cases h
  · rintro ⟨q, hq, he, rfl⟩
    exact ⟨q, List.mem_range.2 hq, by rw [if_pos he]⟩
theorem ents_mem {t : List (List Int)} {v : Int} {x : Pr} : x ∈ ents t v ↔ ∃ i q, i < t.length ∧ q < T.cols t ∧ T.ent t i q = v ∧ x = ((i : Int), (q : Int)) := by
  unfold ents entsTo
  rw [List.mem_flatMap]
  constructor
  · rintro ⟨i, hi, h⟩
    obtain ⟨q, h1, h2, h3⟩ := entsRow_mem.1 h
    exact ⟨i, q, List.mem_range.1 hi, h1, h2, h3⟩
  · rintro ⟨i, q, hi, h1, h2, h3⟩
    exact ⟨i, List.mem_range.2 hi, entsRow_mem.2 ⟨q, h1, h2, h3⟩⟩
theorem ents_in {t : List (List Int)} {v : Int} {x : Pr} (h : x ∈ ents t v) : InT t x := by
  obtain ⟨i, q, h1, h2, _, h4⟩ := ents_mem.1 h
  exact ⟨i, q, h4, h1, h2⟩
theorem ents_len {t : List (List Int)} (ht : T.isTab t = true) (v : Int) : (ents t v).length ≤ 16 := by
  obtain ⟨⟨t1, t2, t3, t4⟩, _⟩ := T.isTab_iff.1 ht
  have h := entsTo_len t v t.length
  have : t.length * T.cols t ≤ 4 * 4 := Nat.mul_le_mul t2 t4
  unfold ents
  omega

set_option maxRecDepth 100000 in
set_option maxHeartbeats 2000000 in
theorem entries_any (vt : Value) (t : List (List Int)) (v : Int) (w : World) (hv : See2 w vt t) (ht : T.isTab t = true) :
    Calls Try.prog 68 #[vt, .int .i64 v] w fun e w' => ∃ v', e = .returned v' ∧ w'.ownsRow w.heap.size 60 2 v' (ents t v).length (flatP (ents t v)) ∧ Chg [] w w' := by
  obtain ⟨i0, hi', hz0, hz1, hz2⟩ := info_parts infoPair
  obtain ⟨a, cap, rfl, hE⟩ := ent_cells hv ht
  have HE := hide hE
  obtain ⟨⟨t1, t2, t3, t4⟩, _⟩ := T.isTab_iff.1 ht
  have HTl := hide (entsTo_len t v)
  have HRl := hide (entsRow_len t v)
  have HTs := hide (entsTo_succ t v)
  unfold ents
  generalize hn : t.length = n at *
  generalize hm : T.cols t = m at *
  clear hv ht hE hn hm
  go_enter Try.func68, Try.ntmps68
  go_wp2
  go_loopw [5, 12] (fun ov iv wr => ∃ (i : Nat), i ≤ n ∧ iv = .int .i64 (i : Int) ∧ Hid (wr.ownsRow w.heap.size 60 2 ov (entsTo t v i).length (flatP (entsTo t v i)) ∧ Chg [] w wr)) (fun _ iv _ => n - (intOf iv).toNat)
  case atStart => exact ⟨0, Nat.zero_le _, rfl, hide ⟨World.ownsRow_nil _ _ _ _, Chg.refl _ _⟩⟩
  case round =>
    obtain ⟨i, hi, rfl, hI⟩ := hrel
    by_cases hlt : i < n
    · have d1 : decide ((i : Int) < (n : Int)) = true := by simpa using hlt
      obtain ⟨b, bc, hrow⟩ := HE.out i hlt
      have fr := (hrow wr hI.out.2).1
      have HRow := hide hrow
      clear hrow
      go_wp2
      go_loopw [5, 19] (fun ov jv wq => ∃ (j : Nat), j ≤ m ∧ jv = .int .i64 (j : Int) ∧ Hid (wq.ownsRow w.heap.size 60 2 ov (entsTo t v i ++ entsRow t v i j).length (flatP (entsTo t v i ++ entsRow t v i j)) ∧ Chg [] w wq)) (fun _ jv _ => m - (intOf jv).toNat)
      case atStart => exact ⟨0, Nat.zero_le _, rfl, hide ⟨by rw [show entsRow t v i 0 = [] from rfl, List.append_nil]; exact hI.out.1, hI.out.2⟩⟩
      case round =>
        obtain ⟨j, hj, rfl, hJ⟩ := hrel
        by_cases hlj : j < m
        · have d2 : decide ((j : Int) < (m : Int)) = true := by simpa using hlj
          have fx := (HRow.out wr hJ.out.2).2 j hlj
          obtain ⟨z, hz⟩ : ∃ z, z = T.ent t i j := ⟨_, rfl⟩
          rw [← hz] at fx
          obtain ⟨oo, oc, rfl, hoc⟩ := row_shape hJ.out.1
          have hst := entsRow_succ t v i j
          rw [← hz] at hst
          have hk : (entsTo t v i ++ entsRow t v i j).length ≤ 100 := by
            have h1 := HTl.out i
            have h2 := HRl.out i j
            have : i * m ≤ 4 * 4 := Nat.mul_le_mul (by omega) t4
            rw [List.length_append]
            omega
          have HOw := hide hJ.out.1
          have C2 := hide hJ.out.2
          have hs2 := C2.out.size
          have HSt := hide hst
          generalize hL : entsTo t v i ++ entsRow t v i j = L at *
          have HLe := hide hL
          clear hJ hz hst hL
          by_cases hzv : z = v
          · have d3 : (z == v) = true := by simpa using hzv
            have HSn : Hid (entsTo t v i ++ entsRow t v i (j + 1) = L ++ [((i : Int), (j : Int))]) := hide (by rw [HSt.out, if_pos hzv, ← List.append_assoc, HLe.out])
            clear hzv
            go_wp2_with (at_builtin; refine wpList_append_own _ rfl _ _ 46 rfl w.heap.size 60 i0 (.agg #[.int .i64 0, .int .i64 0]) 2 16 Try.underlying46 hi' hz0 hz1 hz2 rfl (by decide) _ _ _ rfl (HOw.out.alloc _) ⟨wr.heap.size, 0, none⟩ 1 1 (prCells ((i : Int), (j : Int))).toList rfl rfl (pr_news wr ((i : Int), (j : Int)) _ rfl) (pr_one ((i : Int), (j : Int))) (by unfold maxLen; omega) (by omega) (by simp; omega) ?_; intro v1 w2 hown1 hgrow1 _)
            go_roundw
            case rel => exact ⟨j + 1, by omega, by go_num, hide ⟨by
              rw [HSn.out, List.length_append, flatP_snoc]
              exact hown1, chg_grown (C2.out.alloc _) (HOw.out.alloc _) (Nat.le_refl _) hgrow1⟩⟩
            case measure => simp [intOf]; omega
          · have d3 : (z == v) = false := by simpa using hzv
            have HSn : Hid (entsTo t v i ++ entsRow t v i (j + 1) = L) := hide (by rw [HSt.out, if_neg hzv, List.append_nil, HLe.out])
            clear hzv
            go_wp2
            go_roundw
            case rel => exact ⟨j + 1, by omega, by go_num, hide ⟨by rw [HSn.out]; exact HOw.out, C2.out⟩⟩
            case measure => simp [intOf]; omega
        · have d2 : decide ((j : Int) < (m : Int)) = false := by simpa using hlj
          obtain rfl : j = m := by omega
          go_wp2
          go_roundw
          case rel => exact ⟨i + 1, by omega, by go_num, hide ⟨by rw [HTs.out]; exact hJ.out.1, hJ.out.2⟩⟩
          case measure => simp [intOf]; omega
    · have d1 : decide ((i : Int) < (n : Int)) = false := by simpa using hlt
      obtain rfl : i = n := by omega
      go_wp2
      go_ret
      exact ⟨_, rfl, hI.out.1, hI.out.2⟩
theorem isValue_any (vt : Value) (t : List (List Int)) (v : Int) (w : World) (hv : See2 w vt t) (hl : ∀ r ∈ t, r.length ≤ 1000000) (htl : t.length ≤ 1000000) :
    Calls Try.prog 67 #[vt, .int .i64 v] w (Ret (.bool (T.isTab t && decide (v = 0 ∨ v = 1))) w) := by
  have HVa := hide (valid_any vt t w hv hl htl)
  obtain ⟨ao, cap, rfl⟩ := hv.shape
  clear hv hl htl
  generalize t.length = n at *
  cases ht : T.isTab t with
  | false =>
    rw [ht] at HVa
    clear ht
    go_enter Try.func67, Try.ntmps67
    go_wp2_with fail
    refine HVa.out.mono ?_
    rintro e w1 ⟨rfl, hw1⟩
    go_wp2
    go_ret
    exact ⟨rfl, hw1⟩
  | true =>
    rw [ht] at HVa
    obtain ⟨R, hR⟩ : ∃ R, R = (true && decide (v = 0 ∨ v = 1)) := ⟨_, rfl⟩
    rw [← hR]
    have HR := hide hR
    clear ht hR
    by_cases h0 : v = 0
    · have d1 : (v == 0) = true := by simpa using h0
      have E : Hid (R = true) := hide (by rw [HR.out]; simp [h0])
      clear h0
      go_enter Try.func67, Try.ntmps67
      go_wp2_with fail
      refine HVa.out.mono ?_
      rintro e w1 ⟨rfl, hw1⟩
      go_wp2
      go_ret
      exact ⟨by rw [E.out]; rfl, hw1⟩
    · have d1 : (v == 0) = false := by simpa using h0
      by_cases h1 : v = 1
      · have d2 : (v == 1) = true := by simpa using h1
        have E : Hid (R = true) := hide (by rw [HR.out]; simp [h1])
        clear h0 h1
        go_enter Try.func67, Try.ntmps67
        go_wp2_with fail
        refine HVa.out.mono ?_
        rintro e w1 ⟨rfl, hw1⟩
        go_wp2
        go_ret
        exact ⟨by rw [E.out]; rfl, hw1⟩
      · have d2 : (v == 1) = false := by simpa using h1
        have E : Hid (R = false) := hide (by rw [HR.out]; simp [h0, h1])
        clear h0 h1
        go_enter Try.func67, Try.ntmps67
        go_wp2_with fail
        refine HVa.out.mono ?_
        rintro e w1 ⟨rfl, hw1⟩
        go_wp2
        go_ret
        exact ⟨by rw [E.out]; rfl, hw1⟩
end Go.Proofs.Ytaapamoglgpocaa
