/- Walks: two entries compared; pairs searched; the closure of Fool's search. -/
import Derived.Test.YtaapamoglgpocaaOpenP
namespace Go.Proofs.Ytaapamoglgpocaa
open Go.RowKit

/-- Whether two entries can be in a fooling set. -/
def fooledB (t : List (List Int)) (v : Int) (a b : Pr) : Bool := (T.ent t a.1.toNat b.2.toNat != v) || (T.ent t b.1.toNat a.2.toNat != v)
/-- A pair that is a place of the table. -/
def InT (t : List (List Int)) (a : Pr) : Prop := ∃ i j : Nat, a = ((i : Int), (j : Int)) ∧ i < t.length ∧ j < T.cols t
set_option maxRecDepth 100000 in
set_option maxHeartbeats 1000000 in
theorem fooled_any (vt : Value) (t : List (List Int)) (v : Int) (x y : Pr) (w : World) (hv : See2 w vt t) (ht : T.isTab t = true) (hx : InT t x) (hy : InT t y) :
    Calls Try.prog 72 #[vt, .int .i64 v, prV x, prV y] w (Ret (.bool (fooledB t v x y)) w) := by
  obtain ⟨i, j, rfl, hi, hj⟩ := hx
  obtain ⟨k, l, rfl, hk, hl⟩ := hy
  obtain ⟨a, cap, rfl, hE⟩ := ent_cells hv ht
  obtain ⟨b1, c1, h1⟩ := hE i hi
  obtain ⟨b2, c2, h2⟩ := hE k hk
  unfold prV fooledB
  simp only [Int.toNat_natCast]
  generalize t.length = n at *
  generalize T.cols t = m at *
  have bx := Box.new w #[.int .i64 (i : Int), .int .i64 (j : Int)] 60
  have by_ := Box.new (w.alloc (.cells #[.int .i64 (i : Int), .int .i64 (j : Int)] 60)) #[.int .i64 (k : Int), .int .i64 (l : Int)] 60
  have hc : Chg [] w ((w.alloc (.cells #[.int .i64 (i : Int), .int .i64 (j : Int)] 60)).alloc (.cells #[.int .i64 (k : Int), .int .i64 (l : Int)] 60)) := ((Chg.refl _ _).alloc _).alloc _
  have bx2 := bx.old (.cells #[.int .i64 (k : Int), .int .i64 (l : Int)] 60)
  rw [World.size_alloc] at by_
  have x0 := bx2.cell 0
  have x1 := bx2.cell 1
  have y0 := by_.cell 0
  have y1 := by_.cell 1
  have lx := bx2.lt
  have ly := by_.lt
  simp only [List.getElem?_toArray, List.getElem?_cons_zero, List.getElem?_cons_succ] at x0 x1 y0 y1
  have fi := (h1 _ hc).1
  have fil := (h1 _ hc).2 l hl
  have fk := (h2 _ hc).1
  have fkj := (h2 _ hc).2 j hj
  have i0 : (0 : Int) ≤ (i : Int) := by omega
  have i1 : (i : Int) < (n : Int) := by omega
  have j0 : (0 : Int) ≤ (j : Int) := by omega
  have j1 : (j : Int) < (m : Int) := by omega
  have k0 : (0 : Int) ≤ (k : Int) := by omega
  have k1 : (k : Int) < (n : Int) := by omega
  have l0 : (0 : Int) ≤ (l : Int) := by omega
  have l1 : (l : Int) < (m : Int) := by omega
  obtain ⟨p, hp0⟩ : ∃ p, p = T.ent t i l := ⟨_, rfl⟩
  obtain ⟨q, hq0⟩ : ∃ q, q = T.ent t k j := ⟨_, rfl⟩
  rw [← hp0, ← hq0]
  rw [← hp0] at fil
  rw [← hq0] at fkj
  have HC := hide hc
  obtain ⟨R, hR⟩ : ∃ R, R = ((p != v) || (q != v)) := ⟨_, rfl⟩
  rw [← hR]
  have HR := hide hR
  clear hv ht hE h1 h2 bx by_ bx2 hc hi hj hk hl hp0 hq0 hR
  go_enter Try.func72, Try.ntmps72
  go_wp2
  generalize hW : (w.alloc (.cells #[.int .i64 (i : Int), .int .i64 (j : Int)] 60)).alloc (.cells #[.int .i64 (k : Int), .int .i64 (l : Int)] 60) = W at *
  by_cases hp : p = v
  · have d1 : (p != v) = false := by simpa using hp
    clear hp hW
    by_cases hq : q = v
    · have d2 : (q != v) = false := by simpa using hq
      have E : Hid (R = false) := hide (by rw [HR.out, d1, d2]; rfl)
      clear hq
      go_quiet (fail)
      go_wp2
      go_ret
      exact ⟨by rw [E.out]; rfl, HC.out.drewN _⟩
    · have d2 : (q != v) = true := by simpa using hq
      have E : Hid (R = true) := hide (by rw [HR.out, d1, d2]; rfl)
      clear hq
      go_quiet (fail)
      go_wp2
      go_ret
      exact ⟨by rw [E.out]; rfl, HC.out.drewN _⟩
  · have d1 : (p != v) = true := by simpa using hp
    have E : Hid (R = true) := hide (by rw [HR.out, d1]; rfl)
    clear hp hW
    go_quiet (fail)
    go_wp2
    go_ret
    exact ⟨by rw [E.out]; rfl, HC.out.drewN _⟩

set_option maxRecDepth 100000 in
set_option maxHeartbeats 1000000 in
theorem Index_pairs (F : FuncId) (cp : Array Value) (P : Pr → Bool) (v : Value) (t : List Pr) (w : World) (hv : SeeP w v t) (hl : t.length ≤ 1000000)
    (hcall : ∀ args W, (callFunc F args).run Try.prog W = .ok (.enter F args) W) (hF : ∀ r ws, r ∈ t → Chg [] w ws → Calls Try.prog F (#[prV r] ++ cp) ws (Ret (.bool (P r)) ws)) :
    Calls Try.prog 105 #[v, .func (.func F) #[] cp] w fun e w' => ∃ r : Int, e = .returned (.int .i64 r) ∧ decide (0 ≤ r) = t.any P ∧ Chg [] w w' := by
  obtain ⟨ao, cap, rfl, _⟩ := hv.shape
  have HV := hide hv
  have HF := hide hF
  clear hv hF
  generalize hn : t.length = n at *
  have HN := hide hn
  clear hn
  go_enter Try.func105, Try.ntmps105
  go_wp2
  go_loopw [8] (fun i wr => ∃ j : Nat, j ≤ n ∧ i = .int .i64 (j : Int) ∧ Hid ((∀ q, q < j → P (t.getD q pr0) = false) ∧ Chg [] w wr)) (fun i _ => (n - (intOf i).toNat))
  case atStart => exact ⟨0, Nat.zero_le _, rfl, hide ⟨fun q h => by omega, Chg.refl _ _⟩⟩
  case round =>
    obtain ⟨j, hj, rfl, hI⟩ := hrel
    by_cases hlt : j < n
    · have d1 : decide ((j : Int) < (n : Int)) = true := by simpa using hlt
      have nx : t ≠ [] := fun h => by have := HN.out; rw [h] at this; simp at this; omega
      obtain ⟨a, cap', e, _, hc⟩ := HV.out.open nx
      obtain ⟨rfl, hn1, rfl⟩ : ao = some a ∧ n = t.length ∧ cap = cap' := by simpa using e
      obtain ⟨fx, fy⟩ := hc wr hI.out.2 j (by rw [HN.out]; exact hlt)
      have HMem : Hid (t.getD j pr0 ∈ t) := hide (by
        rw [List.getD_eq_getElem?_getD, List.getElem?_eq_getElem (by rw [HN.out]; exact hlt)]
        exact List.getElem_mem _)
      have HC := hide (HF.out _ wr HMem.out hI.out.2)
      obtain ⟨x, hxe⟩ : ∃ x, x = t.getD j pr0 := ⟨_, rfl⟩
      rw [← hxe] at fx fy HC HMem
      have HXE := hide hxe
      unfold prV at HC
      have j0 : (0 : Int) ≤ (j : Int) := by omega
      have j1 : (j : Int) < (n : Int) := by omega
      clear nx hc hxe e hn1
      go_wp2_with fail
      refine HC.out.mono ?_
      rintro e w1 ⟨rfl, hw1⟩
      cases hp : P x with
      | true =>
        have HP := hide hp
        clear hp
        go_wp2
        go_ret
        refine ⟨_, rfl, ?_, hI.out.2.trans hw1⟩
        have : t.any P = true := List.any_eq_true.2 ⟨x, HMem.out, HP.out⟩
        rw [this]
        simp
      | false =>
        have HP := hide hp
        clear hp
        go_wp2
        go_roundw
        case rel => exact ⟨j + 1, by omega, by go_num, hide ⟨fun q hq => by
          rcases (show q < j ∨ q = j by omega) with h | rfl
          · exact hI.out.1 q h
          · rw [← HXE.out]; exact HP.out, hI.out.2.trans hw1⟩⟩
        case measure => simp [intOf]; omega
    · have d1 : decide ((j : Int) < (n : Int)) = false := by simpa using hlt
      go_wp2
      go_ret
      refine ⟨_, rfl, ?_, hI.out.2⟩
      have : t.any P = false := by
        rw [Bool.eq_false_iff]
        intro h
        obtain ⟨x, hx, hp⟩ := List.any_eq_true.1 h
        obtain ⟨q, hq, he⟩ := List.getElem_of_mem hx
        have := hI.out.1 q (by rw [HN.out] at hq; omega)
        rw [List.getD_eq_getElem?_getD, List.getElem?_eq_getElem hq] at this
        simp only [Option.getD_some, he, hp] at this
        cases this
      rw [this]
      decide

set_option maxRecDepth 100000 in
set_option maxHeartbeats 1000000 in
theorem Contains_pairs (F : FuncId) (cp : Array Value) (P : Pr → Bool) (v : Value) (t : List Pr) (w : World) (hv : SeeP w v t) (hl : t.length ≤ 1000000)
    (hcall : ∀ args W, (callFunc F args).run Try.prog W = .ok (.enter F args) W) (hF : ∀ r ws, r ∈ t → Chg [] w ws → Calls Try.prog F (#[prV r] ++ cp) ws (Ret (.bool (P r)) ws)) :
    Calls Try.prog 70 #[v, .func (.func F) #[] cp] w (Ret (.bool (t.any P)) w) := by
  have HI := hide (Index_pairs F cp P v t w hv hl hcall hF)
  clear hF hv hcall
  go_enter Try.func70, Try.ntmps70
  go_wp2_with fail
  refine HI.out.mono ?_
  rintro e w1 ⟨r, rfl, hr, hc⟩
  have HR := hide hr
  clear hr
  go_wp2
  go_ret
  exact ⟨by rw [← HR.out]; rfl, hc⟩

end Go.Proofs.Ytaapamoglgpocaa

/- Walk: the entries of a table with a value. -/
namespace Go.Proofs.Ytaapamoglgpocaa
open Go.RowKit

def entsRow (t : List (List Int)) (v : Int) (i j : Nat) : List Pr := (List.range j).filterMap fun q => if T.ent t i q = v then some ((i : Int), (q : Int)) else none
def entsTo (t : List (List Int)) (v : Int) (i : Nat) : List Pr := (List.range i).flatMap fun a => entsRow t v a (T.cols t)
def ents (t : List (List Int)) (v : Int) : List Pr := entsTo t v t.length
theorem entsRow_succ (t : List (List Int)) (v : Int) (i j : Nat) : entsRow t v i (j + 1) = entsRow t v i j ++ (if T.ent t i j = v then [((i : Int), (j : Int))] else []) := by
  unfold entsRow
  rw [List.range_succ, List.filterMap_append]
  congr 1
  by_cases h : T.ent t i j = v
  · simp [h]
  · simp [h]
theorem entsTo_succ (t : List (List Int)) (v : Int) (i : Nat) : entsTo t v (i + 1) = entsTo t v i ++ entsRow t v i (T.cols t) := by
  unfold entsTo
  rw [List.range_succ, List.flatMap_append]
  simp
theorem entsRow_len (t : List (List Int)) (v : Int) (i : Nat) : ∀ j, (entsRow t v i j).length ≤ j
  | 0 => Nat.le_refl _
  | j + 1 => by
    have := entsRow_len t v i j
    rw [entsRow_succ, List.length_append]
    split <;> simp <;> omega
theorem entsTo_len (t : List (List Int)) (v : Int) : ∀ i, (entsTo t v i).length ≤ i * T.cols t
  | 0 => by simp [entsTo]
  | i + 1 => by
    have h1 := entsTo_len t v i
    have h2 := entsRow_len t v i (T.cols t)
    rw [entsTo_succ, List.length_append, Nat.add_mul]
    omega
theorem entsRow_mem {t : List (List Int)} {v : Int} {i j : Nat} {x : Pr} : x ∈ entsRow t v i j ↔ ∃ q, q < j ∧ T.ent t i q = v ∧ x = ((i : Int), (q : Int)) := by
  unfold entsRow
  rw [List.mem_filterMap]
  constructor
  · rintro ⟨q, hq, h⟩
    by_cases he : T.ent t i q = v
    · rw [if_pos he] at h
      exact ⟨q, List.mem_range.1 hq, he, by simpa using h.symm⟩
    · rw [if_neg he] at h; cases h
  · rintro ⟨q, hq, he, rfl⟩
    exact ⟨q, List.mem_range.2 hq, by rw [if_pos he]⟩
theorem ents_mem {t : List (List Int)} {v : Int} {x : Pr} : x ∈ ents t v ↔ ∃ i q, i < t.length ∧ q < T.cols t ∧ T.ent t i q = v ∧ x = ((i : Int), (q : Int)) := by
  unfold ents entsTo
  rw [List.mem_flatMap]
  constructor
  · rintro ⟨i, hi, h⟩
    obtain ⟨q, h1, h2, h3⟩ := entsRow_mem.1 h
    exact ⟨i, q, List.mem_range.1 hi, h1, h2, h3⟩
  · rintro ⟨i, q, hi, h1, h2, h3⟩
    exact ⟨i, List.mem_range.2 hi, entsRow_mem.2 ⟨q, h1, h2, h3⟩⟩
theorem ents_in {t : List (List Int)} {v : Int} {x : Pr} (h : x ∈ ents t v) : InT t x := by
  obtain ⟨i, q, h1, h2, _, h4⟩ := ents_mem.1 h
  exact ⟨i, q, h4, h1, h2⟩
theorem ents_len {t : List (List Int)} (ht : T.isTab t = true) (v : Int) : (ents t v).length ≤ 16 := by
  obtain ⟨⟨t1, t2, t3, t4⟩, _⟩ := T.isTab_iff.1 ht
  have h := entsTo_len t v t.length
  have : t.length * T.cols t ≤ 4 * 4 := Nat.mul_le_mul t2 t4
  unfold ents
  omega

set_option maxRecDepth 100000 in
set_option maxHeartbeats 2000000 in
theorem entries_any (vt : Value) (t : List (List Int)) (v : Int) (w : World) (hv : See2 w vt t) (ht : T.isTab t = true) :
    Calls Try.prog 68 #[vt, .int .i64 v] w fun e w' => ∃ v', e = .returned v' ∧ w'.ownsRow w.heap.size 60 2 v' (ents t v).length (flatP (ents t v)) ∧ Chg [] w w' := by
  obtain ⟨i0, hi', hz0, hz1, hz2⟩ := info_parts infoPair
  obtain ⟨a, cap, rfl, hE⟩ := ent_cells hv ht
  have HE := hide hE
  obtain ⟨⟨t1, t2, t3, t4⟩, _⟩ := T.isTab_iff.1 ht
  have HTl := hide (entsTo_len t v)
  have HRl := hide (entsRow_len t v)
  have HTs := hide (entsTo_succ t v)
  unfold ents
  generalize hn : t.length = n at *
  generalize hm : T.cols t = m at *
  clear hv ht hE hn hm
  go_enter Try.func68, Try.ntmps68
  go_wp2
  go_loopw [5, 12] (fun ov iv wr => ∃ (i : Nat), i ≤ n ∧ iv = .int .i64 (i : Int) ∧ Hid (wr.ownsRow w.heap.size 60 2 ov (entsTo t v i).length (flatP (entsTo t v i)) ∧ Chg [] w wr)) (fun _ iv _ => n - (intOf iv).toNat)
  case atStart => exact ⟨0, Nat.zero_le _, rfl, hide ⟨World.ownsRow_nil _ _ _ _, Chg.refl _ _⟩⟩
  case round =>
    obtain ⟨i, hi, rfl, hI⟩ := hrel
    by_cases hlt : i < n
    · have d1 : decide ((i : Int) < (n : Int)) = true := by simpa using hlt
      obtain ⟨b, bc, hrow⟩ := HE.out i hlt
      have fr := (hrow wr hI.out.2).1
      have HRow := hide hrow
      clear hrow
      go_wp2
      go_loopw [5, 19] (fun ov jv wq => ∃ (j : Nat), j ≤ m ∧ jv = .int .i64 (j : Int) ∧ Hid (wq.ownsRow w.heap.size 60 2 ov (entsTo t v i ++ entsRow t v i j).length (flatP (entsTo t v i ++ entsRow t v i j)) ∧ Chg [] w wq)) (fun _ jv _ => m - (intOf jv).toNat)
      case atStart => exact ⟨0, Nat.zero_le _, rfl, hide ⟨by rw [show entsRow t v i 0 = [] from rfl, List.append_nil]; exact hI.out.1, hI.out.2⟩⟩
      case round =>
        obtain ⟨j, hj, rfl, hJ⟩ := hrel
        by_cases hlj : j < m
        · have d2 : decide ((j : Int) < (m : Int)) = true := by simpa using hlj
          have fx := (HRow.out wr hJ.out.2).2 j hlj
          obtain ⟨z, hz⟩ : ∃ z, z = T.ent t i j := ⟨_, rfl⟩
          rw [← hz] at fx
          obtain ⟨oo, oc, rfl, hoc⟩ := row_shape hJ.out.1
          have hst := entsRow_succ t v i j
          rw [← hz] at hst
          have hk : (entsTo t v i ++ entsRow t v i j).length ≤ 100 := by
            have h1 := HTl.out i
            have h2 := HRl.out i j
            have : i * m ≤ 4 * 4 := Nat.mul_le_mul (by omega) t4
            rw [List.length_append]
            omega
          have HOw := hide hJ.out.1
          have C2 := hide hJ.out.2
          have hs2 := C2.out.size
          have HSt := hide hst
          generalize hL : entsTo t v i ++ entsRow t v i j = L at *
          have HLe := hide hL
          clear hJ hz hst hL
          by_cases hzv : z = v
          · have d3 : (z == v) = true := by simpa using hzv
            have HSn : Hid (entsTo t v i ++ entsRow t v i (j + 1) = L ++ [((i : Int), (j : Int))]) := hide (by rw [HSt.out, if_pos hzv, ← List.append_assoc, HLe.out])
            clear hzv
            go_wp2_with (at_builtin; refine wpList_append_own _ rfl _ _ 46 rfl w.heap.size 60 i0 (.agg #[.int .i64 0, .int .i64 0]) 2 16 Try.underlying46 hi' hz0 hz1 hz2 rfl (by decide) _ _ _ rfl (HOw.out.alloc _) ⟨wr.heap.size, 0, none⟩ 1 1 (prCells ((i : Int), (j : Int))).toList rfl rfl (pr_news wr ((i : Int), (j : Int)) _ rfl) (pr_one ((i : Int), (j : Int))) (by unfold maxLen; omega) (by omega) (by simp; omega) ?_; intro v1 w2 hown1 hgrow1 _)
            go_roundw
            case rel => exact ⟨j + 1, by omega, by go_num, hide ⟨by
              rw [HSn.out, List.length_append, flatP_snoc]
              exact hown1, chg_grown (C2.out.alloc _) (HOw.out.alloc _) (Nat.le_refl _) hgrow1⟩⟩
            case measure => simp [intOf]; omega
          · have d3 : (z == v) = false := by simpa using hzv
            have HSn : Hid (entsTo t v i ++ entsRow t v i (j + 1) = L) := hide (by rw [HSt.out, if_neg hzv, List.append_nil, HLe.out])
            clear hzv
            go_wp2
            go_roundw
            case rel => exact ⟨j + 1, by omega, by go_num, hide ⟨by rw [HSn.out]; exact HOw.out, C2.out⟩⟩
            case measure => simp [intOf]; omega
        · have d2 : decide ((j : Int) < (m : Int)) = false := by simpa using hlj
          obtain rfl : j = m := by omega
          go_wp2
          go_roundw
          case rel => exact ⟨i + 1, by omega, by go_num, hide ⟨by rw [HTs.out]; exact hJ.out.1, hJ.out.2⟩⟩
          case measure => simp [intOf]; omega
    · have d1 : decide ((i : Int) < (n : Int)) = false := by simpa using hlt
      obtain rfl : i = n := by omega
      go_wp2
      go_ret
      exact ⟨_, rfl, hI.out.1, hI.out.2⟩
theorem isValue_any (vt : Value) (t : List (List Int)) (v : Int) (w : World) (hv : See2 w vt t) (hl : ∀ r ∈ t, r.length ≤ 1000000) (htl : t.length ≤ 1000000) :
    Calls Try.prog 67 #[vt, .int .i64 v] w (Ret (.bool (T.isTab t && decide (v = 0 ∨ v = 1))) w) := by
  have HVa := hide (valid_any vt t w hv hl htl)
  obtain ⟨ao, cap, rfl⟩ := hv.shape
  clear hv hl htl
  generalize t.length = n at *
  cases ht : T.isTab t with
  | false =>
    rw [ht] at HVa
    clear ht
    go_enter Try.func67, Try.ntmps67
    go_wp2_with fail
    refine HVa.out.mono ?_
    rintro e w1 ⟨rfl, hw1⟩
    go_wp2
    go_ret
    exact ⟨rfl, hw1⟩
  | true =>
    rw [ht] at HVa
    obtain ⟨R, hR⟩ : ∃ R, R = (true && decide (v = 0 ∨ v = 1)) := ⟨_, rfl⟩
    rw [← hR]
    have HR := hide hR
    clear ht hR
    by_cases h0 : v = 0
    · have d1 : (v == 0) = true := by simpa using h0
      have E : Hid (R = true) := hide (by rw [HR.out]; simp [h0])
      clear h0
      go_enter Try.func67, Try.ntmps67
      go_wp2_with fail
      refine HVa.out.mono ?_
      rintro e w1 ⟨rfl, hw1⟩
      go_wp2
      go_ret
      exact ⟨by rw [E.out]; rfl, hw1⟩
    · have d1 : (v == 0) = false := by simpa using h0
      by_cases h1 : v = 1
      · have d2 : (v == 1) = true := by simpa using h1
        have E : Hid (R = true) := hide (by rw [HR.out]; simp [h1])
        clear h0 h1
        go_enter Try.func67, Try.ntmps67
        go_wp2_with fail
        refine HVa.out.mono ?_
        rintro e w1 ⟨rfl, hw1⟩
        go_wp2
        go_ret
        exact ⟨by rw [E.out]; rfl, hw1⟩
      · have d2 : (v == 1) = false := by simpa using h1
        have E : Hid (R = false) := hide (by rw [HR.out]; simp [h0, h1])
        clear h0 h1
        go_enter Try.func67, Try.ntmps67
        go_wp2_with fail
        refine HVa.out.mono ?_
        rintro e w1 ⟨rfl, hw1⟩
        go_wp2
        go_ret
        exact ⟨by rw [E.out]; rfl, hw1⟩
end Go.Proofs.Ytaapamoglgpocaa

/- The memory of Fool's search; its inner closure. -/
namespace Go.Proofs.Ytaapamoglgpocaa
open Go.RowKit

/-- The greater one of two sets, the elder one if they are equal. -/
def updM (now best : List Pr) : List Pr := if best.length < now.length then now else best
def okB (t : List (List Int)) (v : Int) (now : List Pr) (e : Pr) : Bool := !(now.any fun a => !(fooledB t v a e))
def growM (t : List (List Int)) (v : Int) : List Pr → List Pr → List Pr → List Pr
  | [], _, best => best
  | e :: rest, now, best => growM t v rest now (if okB t v now e = true then growM t v rest (now ++ [e]) (updM (now ++ [e]) best) else best)

/-- The blocks of the boxes: the set so far, the best one, all entries, the table, the value, the function. -/
structure FB where
  n : Nat
  b : Nat
  a : Nat
  t : Nat
  v : Nat
  g : Nat
def FB.caps (B : FB) : Array Value := #[.pointer (some ⟨B.n, 0, none⟩), .pointer (some ⟨B.b, 0, none⟩), .pointer (some ⟨B.a, 0, none⟩), .pointer (some ⟨B.t, 0, none⟩), .pointer (some ⟨B.v, 0, none⟩), .pointer (some ⟨B.g, 0, none⟩)]
/-- What does not change: all entries, the table, the value, the function. -/
structure FoolFix (W0 : World) (B : FB) (allv vt : Value) (t : List (List Int)) (v : Int) (all : List Pr) : Prop where
  ba : Box W0 B.a #[allv] 46
  bt : Box W0 B.t #[vt] 69
  bv : Box W0 B.v #[.int .i64 v] 3
  bg : Box W0 B.g #[.func (.func 69) #[] #[.pointer (some ⟨B.n, 0, none⟩), .pointer (some ⟨B.b, 0, none⟩), .pointer (some ⟨B.a, 0, none⟩), .pointer (some ⟨B.t, 0, none⟩), .pointer (some ⟨B.v, 0, none⟩), .pointer (some ⟨B.g, 0, none⟩)]] 88
  sa : SeeP W0 allv all
  st : See2 W0 vt t
  tab : T.isTab t = true
  ins : ∀ x ∈ all, InT t x
  few : all.length ≤ 16
  nb : B.n ≠ B.b
  n1 : B.n ∉ [B.a, B.t, B.v, B.g]
  b1 : B.b ∉ [B.a, B.t, B.v, B.g]
  ln : B.n < W0.heap.size
  lb : B.b < W0.heap.size
  -- what is read lies apart from the two boxes
  an : ∀ w, Chg [B.n, B.b] W0 w → SeeP w allv all ∧ See2 w vt t
/-- What changes: the set so far and the best one, each in a row of the search's own. -/
structure FoolSt (W0 : World) (B : FB) (w : World) (nv bv : Value) (now best : List Pr) : Prop where
  bn : Box w B.n #[nv] 46
  bb : Box w B.b #[bv] 46
  on : w.ownsRow W0.heap.size 60 2 nv now.length (flatP now)
  ob : w.ownsRow W0.heap.size 60 2 bv best.length (flatP best)
  ap : bv.ownBlock = none ∨ bv.ownBlock ≠ nv.ownBlock
  ch : Chg [B.n, B.b] W0 w

theorem FoolFix.atA {W0 w : World} {B : FB} {allv vt : Value} {t : List (List Int)} {v : Int} {all : List Pr} (h : FoolFix W0 B allv vt t v all) (hc : Chg [B.n, B.b] W0 w) : Box w B.a #[allv] 46 ∧ Box w B.t #[vt] 69 ∧ Box w B.v #[.int .i64 v] 3 ∧ Box w B.g #[.func (.func 69) #[] #[.pointer (some ⟨B.n, 0, none⟩), .pointer (some ⟨B.b, 0, none⟩), .pointer (some ⟨B.a, 0, none⟩), .pointer (some ⟨B.t, 0, none⟩), .pointer (some ⟨B.v, 0, none⟩), .pointer (some ⟨B.g, 0, none⟩)]] 88 := by
  have h1 := h.n1
  have h2 := h.b1
  simp only [List.mem_cons, List.not_mem_nil, or_false, not_or] at h1 h2
  exact ⟨h.ba.keep hc (by simp; exact ⟨Ne.symm h1.1, Ne.symm h2.1⟩), h.bt.keep hc (by simp; exact ⟨Ne.symm h1.2.1, Ne.symm h2.2.1⟩), h.bv.keep hc (by simp; exact ⟨Ne.symm h1.2.2.1, Ne.symm h2.2.2.1⟩), h.bg.keep hc (by simp; exact ⟨Ne.symm h1.2.2.2, Ne.symm h2.2.2.2⟩)⟩

/-- A cell reads alike wherever only new blocks came. -/
theorem extCell {W : World} {p : Addr} {u : Value} (h : W.cell? p = some u) : ∀ x : ExtOf W, x.at.cell? p = some u := fun x => (x.chg.cellA (lt_of_cell h) List.not_mem_nil).trans h
theorem extLt {W : World} {b : Nat} (h : b < W.heap.size) : ∀ x : ExtOf W, b < x.at.heap.size := fun x => Nat.lt_of_lt_of_le h x.chg.size

set_option maxRecDepth 100000 in
set_option maxHeartbeats 1000000 in
theorem notFooled (Bt Bv Ba Bi : Nat) (vt allv : Value) (t : List (List Int)) (v : Int) (all : List Pr) (i : Nat) (x : Pr) (w : World) (h1 : w.cell? ⟨Bt, 0, none⟩ = some vt) (h2 : w.cell? ⟨Bv, 0, none⟩ = some (.int .i64 v)) (h3 : w.cell? ⟨Ba, 0, none⟩ = some allv) (h4 : w.cell? ⟨Bi, 0, none⟩ = some (.int .i64 (i : Int)))
    (hs : See2 w vt t) (ha : SeeP w allv all) (ht : T.isTab t = true) (hi : i < all.length) (hx : InT t x) (hin : ∀ y ∈ all, InT t y) :
    Calls Try.prog 71 (#[prV x] ++ #[.pointer (some ⟨Bt, 0, none⟩), .pointer (some ⟨Bv, 0, none⟩), .pointer (some ⟨Ba, 0, none⟩), .pointer (some ⟨Bi, 0, none⟩)]) w (Ret (.bool (!fooledB t v x (all.getD i pr0))) w) := by
  have hmem : all.getD i pr0 ∈ all := by
    rw [List.getD_eq_getElem?_getD, List.getElem?_eq_getElem hi]
    exact List.getElem_mem _
  have HF := hide fun ws (hw : Chg [] w ws) => fooled_any vt t v x (all.getD i pr0) ws (hs.keep hw) ht hx (hin _ hmem)
  have hne : all ≠ [] := by rintro rfl; simp at hi
  obtain ⟨a, cap, rfl, lba, hc⟩ := ha.open hne
  obtain ⟨m0, m1⟩ := hc (w.alloc (.cells (prCells x) 60)) ((Chg.refl [] w).alloc _) i hi
  have ca : Chg [] w (w.alloc (.cells (prCells x) 60)) := (Chg.refl [] w).alloc _
  have l1 := lt_of_cell h1
  have l2 := lt_of_cell h2
  have l3 := lt_of_cell h3
  have l4 := lt_of_cell h4
  have g1 := (ca.cell l1 List.not_mem_nil 0).trans h1
  have g2 := (ca.cell l2 List.not_mem_nil 0).trans h2
  have g3 := (ca.cell l3 List.not_mem_nil 0).trans h3
  have g4 := (ca.cell l4 List.not_mem_nil 0).trans h4
  have bx := Box.new w (prCells x) 60
  have x0 := bx.cell 0
  have x1 := bx.cell 1
  have lx := bx.lt
  obtain ⟨y, hy⟩ : ∃ y, y = all.getD i pr0 := ⟨_, rfl⟩
  rw [← hy] at HF m0 m1 ⊢
  unfold prV prCells at *
  simp only [List.getElem?_toArray, List.getElem?_cons_zero, List.getElem?_cons_succ] at x0 x1
  have HC := hide ca
  obtain ⟨R, hR⟩ : ∃ R, R = fooledB t v x y := ⟨_, rfl⟩
  rw [← hR] at HF ⊢
  have i0 : (0 : Int) ≤ (i : Int) := by omega
  have i1 : (i : Int) < (all.length : Int) := by omega
  generalize all.length = n at *
  obtain ⟨xa, xb⟩ := x
  obtain ⟨ya, yb⟩ := y
  clear h1 h2 h3 h4 hs ha ht hi hx hin hmem hne hc ca l1 l2 l3 l4 bx hy hR
  go_enter Try.func71, Try.ntmps71
  go_wp2
  generalize hW : w.alloc (.cells #[.int .i64 xa, .int .i64 xb] 60) = W at *
  clear hW
  replace g1 := extCell g1
  replace g2 := extCell g2
  replace g3 := extCell g3
  replace g4 := extCell g4
  replace x0 := extCell x0
  replace x1 := extCell x1
  replace m0 := extCell m0
  replace m1 := extCell m1
  replace lx := extLt lx
  refine wp_region_ext (by kernel_rfl) (by kernel_rfl) ?_
  repeat (first | go_big_quiet_step ((go_at_call 72; exact calls_of_ret (HF.out _ (HC.out.trans (ExtOf.chg _))))) | quiet_step ((go_at_call 72; exact calls_of_ret (HF.out _ (HC.out.trans (ExtOf.chg _))))))
  refine wpQuiet_nil ?_
  intro wx hx
  go_wp2
  go_ret
  exact ⟨rfl, HC.out.trans hx⟩
theorem callFool (args : Array Value) (W : World) : (callFunc 71 args).run Try.prog W = .ok (.enter 71 args) W := by kernel_rfl
theorem callGrow (args : Array Value) (W : World) : (callFunc 69 args).run Try.prog W = .ok (.enter 69 args) W := by kernel_rfl
end Go.Proofs.Ytaapamoglgpocaa
