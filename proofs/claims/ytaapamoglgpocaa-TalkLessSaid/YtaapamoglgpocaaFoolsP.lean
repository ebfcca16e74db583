/- Walks: R.Value, slices.Index of pairs, the closure of Fools, Fools. -/
import Derived.Test.YtaapamoglgpocaaRFool
import Derived.Laws.EntriesVeiled
import Derived.BigQuiet
import Derived.Test.YtaapamoglgpocaaOpenP
namespace Go.Proofs.Ytaapamoglgpocaa
open Go.RowKit

set_option maxHeartbeats 1000000 in
theorem Rbit_any (v : Int) (w : World) : Calls Try.prog 59 #[.int .i64 v] w (Ret (.bool (decide (v = 0 ∨ v = 1))) w) := by
  obtain ⟨R, hR⟩ : ∃ R, R = decide (v = 0 ∨ v = 1) := ⟨_, rfl⟩
  rw [← hR]
  have HR := hide hR
  clear hR
  by_cases h0 : v = 0
  · have d1 : (v == 0) = true := by simpa using h0
    have E : Hid (R = true) := hide (by rw [HR.out]; simp [h0])
    clear h0
    go_enter Try.func59, Try.ntmps59
    go_wp2
    go_ret
    exact ⟨by rw [E.out]; rfl, Chg.refl _ _⟩
  · have d1 : (v == 0) = false := by simpa using h0
    by_cases h1 : v = 1
    · have d2 : (v == 1) = true := by simpa using h1
      have E : Hid (R = true) := hide (by rw [HR.out]; simp [h1])
      clear h0 h1
      go_enter Try.func59, Try.ntmps59
      go_wp2
      go_ret
      exact ⟨by rw [E.out]; rfl, Chg.refl _ _⟩
    · have d2 : (v == 1) = false := by simpa using h1
      have E : Hid (R = false) := hide (by rw [HR.out]; simp [h0, h1])
      clear h0 h1
      go_enter Try.func59, Try.ntmps59
      go_wp2
      go_ret
      exact ⟨by rw [E.out]; rfl, Chg.refl _ _⟩
set_option maxHeartbeats 1000000 in
theorem RValue_any (v : Int) (w : World) : Calls Try.prog 40 #[.int .i64 v] w (Ret (.bool (decide (v = 0 ∨ v = 1))) w) := by
  have HB := hide (Rbit_any v w)
  generalize decide (v = 0 ∨ v = 1) = R at *
  go_enter Try.func40, Try.ntmps40
  go_wp2_with fail
  refine HB.out.mono ?_
  rintro e w1 ⟨rfl, hw1⟩
  go_wp2
  go_ret
  exact ⟨rfl, hw1⟩
/-- Where a pair stands first, or -1. -/
def idxP (l : List Pr) (x : Pr) : Int := match l.findIdx? (fun y => decide (x = y)) with
  | some i => (i : Int)
  | none => -1
theorem idxP_at {l : List Pr} {x : Pr} {i : Nat} (hi : i < l.length) (h : l.getD i pr0 = x) (hn : ∀ q, q < i → l.getD q pr0 ≠ x) : idxP l x = (i : Int) := by
  have hg : ∀ q (hq : q < l.length), l.getD q pr0 = l[q] := fun q hq => by rw [List.getD_eq_getElem?_getD, List.getElem?_eq_getElem hq]; rfl
  have e : l.findIdx? (fun y => decide (x = y)) = some i := by
    rw [List.findIdx?_eq_some_iff_getElem]
    refine ⟨hi, decide_eq_true ?_, fun j hj => ?_⟩
    · rw [← hg i hi, h]
    · have := hn j hj
      rw [hg j (by omega)] at this
      simpa using fun h => this h.symm
  unfold idxP
  rw [e]
theorem idxP_none {l : List Pr} {x : Pr} (hn : ∀ q, q < l.length → l.getD q pr0 ≠ x) : idxP l x = -1 := by
  have hg : ∀ q (hq : q < l.length), l.getD q pr0 = l[q] := fun q hq => by rw [List.getD_eq_getElem?_getD, List.getElem?_eq_getElem hq]; rfl
  have e : l.findIdx? (fun y => decide (x = y)) = none := by
    rw [List.findIdx?_eq_none_iff]
    intro y hy
    obtain ⟨q, hq, rfl⟩ := List.getElem_of_mem hy
    have := hn q hq
    rw [hg q hq] at this
    simpa using fun h => this h.symm
  unfold idxP
  rw [e]

set_option maxRecDepth 100000 in
set_option maxHeartbeats 1000000 in
theorem IndexP_any (v : Value) (l : List Pr) (xa xb : Int) (w : World) (hv : SeeP w v l) (hl : l.length ≤ 1000000) :
    Calls Try.prog 75 #[v, .agg #[.int .i64 xa, .int .i64 xb]] w (Ret (.int .i64 (idxP l (xa, xb))) w) := by
  obtain ⟨ao, cap, rfl, _⟩ := hv.shape
  have HV := hide hv
  obtain ⟨R, hR⟩ : ∃ R, R = idxP l (xa, xb) := ⟨_, rfl⟩
  rw [← hR]
  have HAt := hide (fun (i : Nat) (hi : i < l.length) (h : l.getD i pr0 = (xa, xb)) (hn : ∀ q, q < i → l.getD q pr0 ≠ (xa, xb)) => hR.trans (idxP_at hi h hn))
  have HNo := hide (fun (hn : ∀ q, q < l.length → l.getD q pr0 ≠ (xa, xb)) => hR.trans (idxP_none hn))
  clear hv hR
  obtain ⟨n, hn⟩ : ∃ n, n = l.length := ⟨_, rfl⟩
  have HN := hide hn
  rw [← hn] at HV HAt HNo hl ⊢
  clear hn
  have bx := Box.new w #[.int .i64 xa, .int .i64 xb] 60
  have hc0 : Chg [] w (w.alloc (.cells #[.int .i64 xa, .int .i64 xb] 60)) := (Chg.refl [] w).alloc _
  go_enter Try.func75, Try.ntmps75
  go_wp2
  generalize w.alloc (.cells #[.int .i64 xa, .int .i64 xb] 60) = w0 at bx hc0 ⊢
  generalize w.heap.size = Bx at bx ⊢
  have S0 := hide (And.intro bx hc0)
  clear bx hc0
  go_loopw [8] (fun iv wr => ∃ i : Nat, i ≤ n ∧ iv = .int .i64 (i : Int) ∧ Hid ((∀ q, q < i → l.getD q pr0 ≠ (xa, xb)) ∧ Chg [] w wr ∧ Box wr Bx #[.int .i64 xa, .int .i64 xb] 60)) (fun iv _ => n - (intOf iv).toNat)
  case atStart => exact ⟨0, Nat.zero_le _, rfl, hide ⟨fun q h => by omega, S0.out.2, S0.out.1⟩⟩
  case round =>
    obtain ⟨i, hi, rfl, hI⟩ := hrel
    by_cases hlt : i < n
    · have d1 : decide ((i : Int) < (n : Int)) = true := by simpa using hlt
      have nx : l ≠ [] := fun h => by have := HN.out; rw [h] at this; simp at this; omega
      obtain ⟨a, c1, e1, _, hc1⟩ := HV.out.open nx
      obtain ⟨rfl, hn1, rfl⟩ : ao = some a ∧ n = l.length ∧ cap = c1 := by simpa using e1
      obtain ⟨y0, y1⟩ := hc1 wr hI.out.2.1 i (by rw [← HN.out]; exact hlt)
      obtain ⟨y, hy⟩ : ∃ y, y = l.getD i pr0 := ⟨_, rfl⟩
      rw [← hy] at y0 y1
      have i0 : (0 : Int) ≤ (i : Int) := by omega
      have i1 : (i : Int) < (n : Int) := by omega
      have HY := hide hy
      have C1 := hide hI.out.2.1
      have BX := hide hI.out.2.2
      have HQ := hide hI.out.1
      have x0 := BX.out.cell 0
      have x1 := BX.out.cell 1
      have lx := BX.out.lt
      simp only [List.getElem?_toArray, List.getElem?_cons_zero, List.getElem?_cons_succ] at x0 x1
      obtain ⟨ya, yb⟩ := y
      clear nx hc1 hy hI e1 hn1
      by_cases hxy : (xa, xb) = (ya, yb)
      · have d2 := eqP_iff.2 hxy
        have HE := hide hxy
        clear hxy
        go_wp2
        go_quiet (fail)
        have C2 : Hid (Chg [] w (wr.drewN nq)) := hide (C1.out.drewN _)
        clear x0 x1 y0 y1
        generalize wr.drewN nq = w2 at C2 ⊢
        go_wp2
        go_ret
        have E := HAt.out i hlt (by rw [← HY.out, HE.out]) HQ.out
        exact ⟨by rw [E]; rfl, C2.out⟩
      · have d2 := eqP_not hxy
        have HE : Hid (l.getD i pr0 ≠ (xa, xb)) := hide (by rw [← HY.out]; exact fun h => hxy h.symm)
        clear hxy
        go_wp2
        go_quiet (fail)
        have C2 : Hid (Chg [] w (wr.drewN nq)) := hide (C1.out.drewN _)
        have B2 := hide (BX.out.keep ((Chg.refl [] wr).drewN nq) List.not_mem_nil)
        clear x0 x1 y0 y1 lx
        generalize wr.drewN nq = w2 at C2 B2 ⊢
        go_wp2
        go_roundw
        case rel => exact ⟨i + 1, by omega, by go_num, hide ⟨fun q hq => by
          rcases (show q < i ∨ q = i by omega) with h | rfl
          · exact HQ.out q h
          · exact HE.out, C2.out, B2.out⟩⟩
        case measure => simp [intOf]; omega
    · have d1 : decide ((i : Int) < (n : Int)) = false := by simpa using hlt
      obtain rfl : i = n := by omega
      have E := hide (HNo.out hI.out.1)
      have C1 := hide hI.out.2.1
      clear hI
      go_wp2
      go_ret
      exact ⟨by rw [E.out]; rfl, C1.out⟩

set_option maxRecDepth 100000 in
set_option maxHeartbeats 1000000 in
theorem notFools (Bt Bv Be : Nat) (vt : Value) (t : List (List Int)) (v : Int) (y x : Pr) (w : World) (h1 : w.cell? ⟨Bt, 0, none⟩ = some vt) (h2 : w.cell? ⟨Bv, 0, none⟩ = some (.int .i64 v)) (h3 : Box w Be (prCells x) 60)
    (hs : See2 w vt t) (ht : T.isTab t = true) (hx : InT t x) (hy : InT t y) :
    Calls Try.prog 76 (#[prV y] ++ #[.pointer (some ⟨Bt, 0, none⟩), .pointer (some ⟨Bv, 0, none⟩), .pointer (some ⟨Be, 0, none⟩)]) w (Ret (.bool (!fooledB t v x y)) w) := by
  have HF := hide fun ws (hw : Chg [] w ws) => fooled_any vt t v x y ws (hs.keep hw) ht hx hy
  have ca : Chg [] w (w.alloc (.cells (prCells y) 60)) := (Chg.refl [] w).alloc _
  have l1 := lt_of_cell h1
  have l2 := lt_of_cell h2
  have g1 := (ca.cell l1 List.not_mem_nil 0).trans h1
  have g2 := (ca.cell l2 List.not_mem_nil 0).trans h2
  have be := h3.keep ca List.not_mem_nil
  have m0 := be.cell 0
  have m1 := be.cell 1
  have le := be.lt
  have bx := Box.new w (prCells y) 60
  have x0 := bx.cell 0
  have x1 := bx.cell 1
  have lx := bx.lt
  unfold prV prCells at *
  simp only [List.getElem?_toArray, List.getElem?_cons_zero, List.getElem?_cons_succ] at x0 x1 m0 m1
  have HC := hide ca
  obtain ⟨R, hR⟩ : ∃ R, R = fooledB t v x y := ⟨_, rfl⟩
  rw [← hR] at HF ⊢
  obtain ⟨xa, xb⟩ := x
  obtain ⟨ya, yb⟩ := y
  clear h1 h2 h3 hs ht hx hy ca l1 l2 bx be hR
  go_enter Try.func76, Try.ntmps76
  go_wp2_with fail
  refine (HF.out _ HC.out).mono ?_
  rintro e w1 ⟨rfl, hx⟩
  go_wp2
  go_ret
  exact ⟨rfl, HC.out.trans hx⟩
theorem callFools (args : Array Value) (W : World) : (callFunc 76 args).run Try.prog W = .ok (.enter 76 args) W := by kernel_rfl
end Go.Proofs.Ytaapamoglgpocaa

/- Walk: Fools. -/
namespace Go.Proofs.Ytaapamoglgpocaa
open Go.RowKit

def lastI (t : List (List Int)) (v : Int) (pre : List Pr) : Int := if pre.isEmpty then -1 else idxP (ents t v) (lastP pre)
/-- One entry behind others, as Fools sees it. -/
def stepT (t : List (List Int)) (v : Int) (pre : List Pr) (x : Pr) : Bool := !decide (idxP (ents t v) x ≤ lastI t v pre) && !(pre.any fun y => !fooledB t v x y)
def foolsT (t : List (List Int)) (v : Int) (l : List Pr) : Bool := (List.range l.length).all fun i => stepT t v (l.take i) (l.getD i pr0)
theorem foolsT_false {t : List (List Int)} {v : Int} {l : List Pr} {i : Nat} (hi : i < l.length) (h : stepT t v (l.take i) (l.getD i pr0) = false) : foolsT t v l = false := by
  unfold foolsT
  rw [Bool.eq_false_iff]
  intro h'
  have := List.all_eq_true.1 h' i (List.mem_range.2 hi)
  rw [h] at this
  cases this
theorem foolsT_true {t : List (List Int)} {v : Int} {l : List Pr} (h : ∀ i, i < l.length → stepT t v (l.take i) (l.getD i pr0) = true) : foolsT t v l = true := List.all_eq_true.2 fun i hi => h i (List.mem_range.1 hi)
theorem idxP_ge (l : List Pr) (x : Pr) : -1 ≤ idxP l x := by
  unfold idxP
  split <;> omega
theorem idxP_mem {l : List Pr} {x : Pr} (h : 0 ≤ idxP l x) : x ∈ l := by
  unfold idxP at h
  split at h
  · rename_i i e
    obtain ⟨hi, h1, _⟩ := List.findIdx?_eq_some_iff_getElem.1 e
    rw [of_decide_eq_true h1]
    exact List.getElem_mem _
  · omega
theorem lastI_ge (t : List (List Int)) (v : Int) (pre : List Pr) : -1 ≤ lastI t v pre := by
  unfold lastI
  split
  · exact Int.le_refl _
  · exact idxP_ge _ _
theorem stepT_idx {t : List (List Int)} {v : Int} {pre : List Pr} {x : Pr} (h : stepT t v pre x = true) : lastI t v pre < idxP (ents t v) x := by
  unfold stepT at h
  simp only [Bool.and_eq_true, Bool.not_eq_true', decide_eq_false_iff_not] at h
  omega
theorem stepT_in {t : List (List Int)} {v : Int} {pre : List Pr} {x : Pr} (h : stepT t v pre x = true) : InT t x := by
  have h1 := stepT_idx h
  have h2 := lastI_ge t v pre
  have h3 : 0 ≤ idxP (ents t v) x := by omega
  exact ents_in (idxP_mem h3)
theorem lastI_succ {t : List (List Int)} {v : Int} {l : List Pr} {i : Nat} (hi : i < l.length) : lastI t v (l.take (i + 1)) = idxP (ents t v) (l.getD i pr0) := by
  unfold lastI
  rw [take_ne hi]
  simp only [Bool.false_eq_true, if_false]
  congr 1
  unfold lastP
  have e : (l.take (i + 1)).length = i + 1 := by rw [List.length_take]; omega
  rw [e, Nat.add_sub_cancel, List.getD_eq_getElem?_getD, List.getD_eq_getElem?_getD, List.getElem?_take, if_pos (by omega)]
set_option maxRecDepth 100000 in
set_option maxHeartbeats 1000000 in
theorem Fools_bad (v u : Value) (t : List (List Int)) (x : Int) (l : List Pr) (w : World) (hv : See2 w v t) (hl : ∀ r ∈ t, r.length ≤ 1000000) (htl : t.length ≤ 1000000) (hb : (T.isTab t && decide (x = 0 ∨ x = 1)) = false) (hu : SeeP w u l) :
    Calls Try.prog 38 #[v, .int .i64 x, u] w (Ret (.tuple #[.bool false, .int .i64 2]) w) := by
  obtain ⟨ao, cap, rfl⟩ := hv.shape
  obtain ⟨uo, ucap, rfl, hucap⟩ := hu.shape
  have HVa := hide fun ws (hw : Chg [] w ws) => isValue_any _ t x ws (hv.keep hw) hl htl
  rw [hb] at HVa
  clear hv hl htl hb hu
  generalize t.length = n at *
  generalize l.length = L at *
  go_enter Try.func38, Try.ntmps38
  go_wp2_with fail
  refine (HVa.out _ (((Chg.refl _ _).alloc _).alloc _)).mono ?_
  rintro e w1 ⟨rfl, hw1⟩
  go_wp2
  go_ret2
  exact ⟨rfl, (((Chg.refl _ _).alloc _).alloc _).trans hw1⟩

set_option maxRecDepth 100000 in
set_option maxHeartbeats 4000000 in
theorem Fools_good (v u : Value) (t : List (List Int)) (x : Int) (l : List Pr) (w : World) (hv : See2 w v t) (hl : ∀ r ∈ t, r.length ≤ 1000000) (htl : t.length ≤ 1000000) (ht : T.isTab t = true) (hx : x = 0 ∨ x = 1) (hu : SeeP w u l) (hll : l.length ≤ 1000000) :
    Calls Try.prog 38 #[v, .int .i64 x, u] w (Ret (.tuple #[.bool (foolsT t x l), .int .i64 0]) w) := by
  obtain ⟨ao, cap, rfl⟩ := hv.shape
  obtain ⟨uo, ucap, rfl, hucap⟩ := hu.shape
  have HVa := hide fun ws (hw : Chg [] w ws) => isValue_any _ t x ws (hv.keep hw) hl htl
  rw [ht, decide_eq_true hx] at HVa
  have HEn := hide fun ws (hw : Chg [] w ws) => entries_any _ t x ws (hv.keep hw) ht
  have HV := hide hv
  have HT := hide ht
  have HU := hide hu
  have HLn := hide (ents_len ht x)
  obtain ⟨R, hR⟩ : ∃ R, R = foolsT t x l := ⟨_, rfl⟩
  rw [← hR]
  have HF := hide (fun (i : Nat) (hi : i < l.length) (h : stepT t x (l.take i) (l.getD i pr0) = false) => hR.trans (foolsT_false hi h))
  have HTr := hide (fun (h : ∀ i, i < l.length → stepT t x (l.take i) (l.getD i pr0) = true) => hR.trans (foolsT_true h))
  clear hv hl htl ht hx hu hR
  obtain ⟨n, hn⟩ : ∃ n, n = t.length := ⟨_, rfl⟩
  rw [← hn] at HVa HEn HV ⊢
  clear hn
  obtain ⟨L, hL⟩ : ∃ L, L = l.length := ⟨_, rfl⟩
  have HL := hide hL
  rw [← hL] at hucap HU hll HF HTr ⊢
  clear hL
  go_enter Try.func38, Try.ntmps38
  go_wp2_with fail
  have b3 := Box.new w #[.int .i64 x] 3
  have b6 := Box.new (w.alloc (.cells #[.int .i64 x] 3)) #[.slice ao n cap] 69
  have b3' := b3.old (.cells #[.slice ao n cap] 69)
  have c0 : Chg [] w ((w.alloc (.cells #[.int .i64 x] 3)).alloc (.cells #[.slice ao n cap] 69)) := ((Chg.refl _ _).alloc _).alloc _
  rw [World.size_alloc] at b6
  generalize (w.alloc (.cells #[.int .i64 x] 3)).alloc (.cells #[.slice ao n cap] 69) = w0 at b3' b6 c0 ⊢
  obtain ⟨Bt, hBt⟩ : ∃ y, y = w.heap.size + 1 := ⟨_, rfl⟩
  obtain ⟨Bv, hBv⟩ : ∃ y, y = w.heap.size := ⟨_, rfl⟩
  rw [← hBt] at b6 ⊢
  rw [← hBv] at b3' ⊢
  clear hBt hBv b3
  refine (HVa.out _ c0).mono ?_
  rintro e w1 ⟨rfl, hw1⟩
  have k3 := (b3'.keep hw1 List.not_mem_nil).cell 0
  have k6 := (b6.keep hw1 List.not_mem_nil).cell 0
  have l3 := (b3'.keep hw1 List.not_mem_nil).lt
  have l6 := (b6.keep hw1 List.not_mem_nil).lt
  simp only [List.getElem?_toArray, List.getElem?_cons_zero] at k3 k6
  have C1 := hide (c0.trans hw1)
  have B3 := hide (b3'.keep hw1 List.not_mem_nil)
  have B6 := hide (b6.keep hw1 List.not_mem_nil)
  clear b3' b6 c0 hw1
  go_wp2_with fail
  refine (HEn.out _ C1.out).mono ?_
  rintro e w2 ⟨v2, rfl, ho2, hw2⟩
  obtain ⟨o2, c2, rfl, hc2⟩ := row_shape ho2
  have HO2 := hide (pairs_see ho2)
  have C2 := hide (C1.out.trans hw2)
  have B3 := hide (B3.out.keep hw2 List.not_mem_nil)
  have B6 := hide (B6.out.keep hw2 List.not_mem_nil)
  obtain ⟨LE, hLE⟩ : ∃ L, L = (ents t x).length := ⟨_, rfl⟩
  rw [← hLE] at HO2 HLn ⊢
  have HLE := hide hLE
  clear ho2 hw2 hLE k3 k6 l3 l6 hc2
  go_wp2
  go_loopw [10, 24] (fun av iv wr => ∃ (i : Nat), i ≤ L ∧ av = .int .i64 (lastI t x (l.take i)) ∧ iv = .int .i64 (i : Int) ∧ Hid ((∀ q, q < i → stepT t x (l.take q) (l.getD q pr0) = true) ∧ Chg [] w2 wr)) (fun _ iv _ => L - (intOf iv).toNat)
  case atStart => exact ⟨0, Nat.zero_le _, rfl, rfl, hide ⟨fun q h => by omega, Chg.refl _ _⟩⟩
  case round =>
    obtain ⟨i, hi, rfl, rfl, hI⟩ := hrel
    by_cases hlt : i < L
    · have d1 : decide ((i : Int) < (L : Int)) = true := by simpa using hlt
      have hil : i < l.length := by rw [← HL.out]; exact hlt
      have nx : l ≠ [] := by rintro rfl; simp at hil
      obtain ⟨ua, uc, e1, lua, hcell⟩ := HU.out.open nx
      obtain ⟨rfl, hL1, rfl⟩ : uo = some ua ∧ L = l.length ∧ ucap = uc := by simpa using e1
      have C3 := hide (C2.out.trans hI.out.2)
      obtain ⟨x0, x1⟩ := hcell wr C3.out i hil
      obtain ⟨y, hy⟩ : ∃ y, y = l.getD i pr0 := ⟨_, rfl⟩
      rw [← hy] at x0 x1
      have HX := hide hy
      obtain ⟨xa, xb⟩ := y
      have hEx := HF.out i hlt
      rw [← hy] at hEx
      have HEx := hide hEx
      have HQ := hide hI.out.1
      have C4 := hide hI.out.2
      have i0 : (0 : Int) ≤ (i : Int) := by omega
      have i1 : (i : Int) < (L : Int) := by omega
      have bx := Box.new wr #[.int .i64 xa, .int .i64 xb] 60
      have hc2 : Chg [] wr (wr.alloc (.cells #[.int .i64 xa, .int .i64 xb] 60)) := (Chg.refl _ _).alloc _
      clear e1 hL1 hcell hI hy nx hEx
      obtain ⟨p, hp⟩ : ∃ p, p = lastI t x (l.take i) := ⟨_, rfl⟩
      have HPg : Hid (-1 ≤ p) := hide (by rw [hp]; exact lastI_ge _ _ _)
      rw [← hp]
      have HP := hide hp
      clear hp
      go_wp2_with fail
      generalize hWW : wr.alloc (.cells #[.int .i64 xa, .int .i64 xb] 60) = w3 at bx hc2 ⊢
      generalize wr.heap.size = Bx at bx ⊢
      have C5 : Hid (Chg [] w2 w3) := hide (C4.out.trans hc2)
      have BX := hide bx
      clear hWW bx hc2 x0 x1
      have hix := IndexP_any _ (ents t x) xa xb w3 (HO2.out.keep C5.out) (by rw [← HLE.out]; have := HLn.out; omega)
      refine hix.mono ?_
      rintro e w4 ⟨rfl, hw4⟩
      have C6 : Hid (Chg [] w2 w4) := hide (C5.out.trans hw4)
      have BX4 := hide (BX.out.keep hw4 List.not_mem_nil)
      clear hw4 BX hix C5
      obtain ⟨q, hq⟩ : ∃ q, q = idxP (ents t x) (xa, xb) := ⟨_, rfl⟩
      have HQx := hide hq
      rw [← hq]
      clear hq
      by_cases hle : q ≤ p
      · have d2 : decide (q ≤ p) = true := by simpa using hle
        have E : Hid (R = false) := hide (HEx.out (by unfold stepT; rw [← HQx.out, ← HP.out, decide_eq_true hle]; rfl))
        clear hle
        have C7 := hide (C2.out.trans C6.out)
        go_wp2
        go_ret2
        exact ⟨by rw [E.out]; rfl, C7.out⟩
      · have d2 : decide (q ≤ p) = false := by simpa using hle
        have hXin : InT t (xa, xb) := ents_in (idxP_mem (l := ents t x) (by rw [← HQx.out]; have := HPg.out; omega))
        have HStep : Hid (stepT t x (l.take i) (xa, xb) = !((l.take i).any fun y => !fooledB t x (xa, xb) y)) := hide (by unfold stepT; rw [← HQx.out, ← HP.out, decide_eq_false hle]; rfl)
        have hsee : SeeP w4 (.slice (some ua) i ucap) (l.take i) := (HU.out.keep (C2.out.trans C6.out)).take i (by omega)
        have c3 := (B3.out.keep C6.out List.not_mem_nil).cell 0
        have c6 := (B6.out.keep C6.out List.not_mem_nil).cell 0
        have hst := HV.out.keep (C2.out.trans C6.out)
        have hCon := Contains_pairs 76 #[.pointer (some ⟨Bt, 0, none⟩), .pointer (some ⟨Bv, 0, none⟩), .pointer (some ⟨Bx, 0, none⟩)] (fun y => !fooledB t x (xa, xb) y) (.slice (some ua) i ucap) (l.take i) w4 hsee (by rw [List.length_take]; omega) callFools
          (fun r ws hr hw => notFools Bt Bv Bx _ t x r (xa, xb) ws ((hw.cellA (lt_of_cell c6) List.not_mem_nil).trans c6) ((hw.cellA (lt_of_cell c3) List.not_mem_nil).trans c3) (BX4.out.keep hw List.not_mem_nil) (hst.keep hw) HT.out hXin (by
            obtain ⟨j, hj, he⟩ := List.getElem_of_mem hr
            rw [List.length_take] at hj
            have := stepT_in (HQ.out j (by omega))
            rw [List.getElem_take] at he
            rw [List.getD_eq_getElem?_getD, List.getElem?_eq_getElem (by omega)] at this
            simp only [Option.getD_some, he] at this
            exact this))
        have HCon := hide hCon
        clear hXin hsee c3 c6 hst hCon hle
        have ic1 : (i : Int) ≤ (ucap : Int) := by omega
        generalize hb : ((l.take i).any fun y => !fooledB t x (xa, xb) y) = b at HCon HStep
        clear hb
        go_wp2_with fail
        refine HCon.out.mono ?_
        rintro e w5 ⟨rfl, hw5⟩
        have C7 := hide (C6.out.trans hw5)
        clear hw5
        cases b with
        | true =>
          have E : Hid (R = false) := hide (HEx.out (by rw [HStep.out]; rfl))
          have C8 := hide (C2.out.trans C7.out)
          go_wp2
          go_ret2
          exact ⟨by rw [E.out]; rfl, C8.out⟩
        | false =>
          have HNx : Hid (lastI t x (l.take (i + 1)) = q) := hide (by rw [lastI_succ hil, ← HX.out, ← HQx.out])
          go_wp2
          go_roundw
          case rel => exact ⟨i + 1, by omega, by rw [HNx.out], by go_num, hide ⟨fun r hr => by
            rcases (show r < i ∨ r = i by omega) with h | rfl
            · exact HQ.out r h
            · rw [← HX.out, HStep.out]; rfl, C7.out⟩⟩
          case measure => simp [intOf]; omega
    · have d1 : decide ((i : Int) < (L : Int)) = false := by simpa using hlt
      obtain rfl : i = L := by omega
      have E : Hid (R = true) := hide (HTr.out hI.out.1)
      have C3 := hide (C2.out.trans hI.out.2)
      clear hI
      go_wp2
      go_ret2
      exact ⟨by rw [E.out]; rfl, C3.out⟩
end Go.Proofs.Ytaapamoglgpocaa

/- Plain: both searches for fooling sets answer alike, both tests too. -/
namespace Go.Proofs.Ytaapamoglgpocaa
open Go.RowKit

theorem range_cells (n m : Nat) : List.range ((n + 1) * m) = List.range (n * m) ++ (List.range m).map fun q => n * m + q := by
  rw [Nat.add_mul, Nat.one_mul, List.range_add]
theorem cellsT_succ (n m : Nat) : cellsT (n + 1) m = cellsT n m ++ (List.range m).map fun q => (((n : Nat) : Int), ((q : Nat) : Int)) := by
  unfold cellsT
  rw [range_cells, List.map_append, List.map_map]
  congr 1
  refine List.map_congr_left fun q hq => ?_
  have hq := List.mem_range.1 hq
  have h1 : (n * m + q) / m = n := by
    rw [Nat.mul_comm, Nat.mul_add_div (by omega), Nat.div_eq_of_lt hq]; rfl
  have h2 : (n * m + q) % m = q := by
    rw [Nat.mul_comm, Nat.mul_add_mod, Nat.mod_eq_of_lt hq]
  simp only [Function.comp, h1, h2]
def valB (t : List (List Int)) (v : Int) (e : Pr) : Bool := decide (T.ent t e.1.toNat e.2.toNat = v)
theorem entsRow_filter (t : List (List Int)) (v : Int) (i m : Nat) : entsRow t v i m = ((List.range m).map fun q => (((i : Nat) : Int), ((q : Nat) : Int))).filter (valB t v) := by
  unfold entsRow
  rw [List.filter_map]
  generalize List.range m = l
  induction l with
  | nil => rfl
  | cons q l ih =>
    rw [List.filterMap_cons, List.filter_cons]
    by_cases h : T.ent t i q = v
    · have e : (valB t v ∘ fun (q : Nat) => (((i : Nat) : Int), ((q : Nat) : Int))) q = true := by simp [valB, h]
      rw [if_pos h, if_pos e, List.map_cons, ← ih]
    · have e : (valB t v ∘ fun (q : Nat) => (((i : Nat) : Int), ((q : Nat) : Int))) q = false := by simp [valB, h]
      rw [if_neg h, if_neg (by rw [e]; decide), ← ih]
theorem ents_filter (t : List (List Int)) (v : Int) : ents t v = (cellsT t.length (T.cols t)).filter (valB t v) := by
  unfold ents
  generalize t.length = n
  induction n with
  | zero => simp [entsTo, cellsT]
  | succ n ih => rw [entsTo_succ, cellsT_succ, List.filter_append, ← entsRow_filter, ih]
theorem cells_sorted (n m : Nat) : (cellsT n m).Pairwise (fun a b => ltB a b = true) := by
  unfold cellsT
  rw [List.pairwise_map]
  refine List.Pairwise.imp ?_ List.pairwise_lt_range
  intro a b hab
  unfold ltB
  simp only [Bool.or_eq_true, Bool.and_eq_true, decide_eq_true_eq]
  have h1 := Nat.div_le_div_right (c := m) (Nat.le_of_lt hab)
  rcases Nat.lt_or_ge (a / m) (b / m) with h | h
  · exact .inl (by omega)
  · have h2 : a / m = b / m := by omega
    refine .inr ⟨by omega, ?_⟩
    have h3 := Nat.div_add_mod a m
    have h4 := Nat.div_add_mod b m
    rw [h2] at h3
    omega
theorem ents_sorted (t : List (List Int)) (v : Int) : (ents t v).Pairwise (fun a b => ltB a b = true) := by
  rw [ents_filter]
  exact (cells_sorted _ _).filter _
theorem ents_place {t : List (List Int)} {v : Int} {x : Pr} : placeB t v x = true ↔ x ∈ ents t v := by
  rw [placeB_iff, ents_mem]
  constructor
  · rintro ⟨h1, h2, h3, h4, h5⟩
    obtain ⟨a, b⟩ := x
    obtain ⟨p, rfl⟩ := Int.eq_ofNat_of_zero_le h1
    obtain ⟨q, rfl⟩ := Int.eq_ofNat_of_zero_le h3
    simp only [Int.toNat_natCast] at h5
    exact ⟨p, q, by simp only [] at h2; omega, by simp only [] at h4; omega, h5, rfl⟩
  · rintro ⟨p, q, h1, h2, h3, rfl⟩
    simp only [Int.toNat_natCast]
    exact ⟨by omega, by omega, by omega, by omega, h3⟩
theorem fooled_comm (t : List (List Int)) (v : Int) (a b : Pr) : fooledB t v a b = fooledB t v b a := by
  unfold fooledB
  rw [Bool.or_comm]
theorem all_not_any {α : Type} (l : List α) (f : α → Bool) : l.all f = !(l.any fun y => !f y) := by
  induction l with
  | nil => rfl
  | cons x l ih => rw [List.all_cons, List.any_cons, ih]; cases f x <;> simp
theorem growM_growG (t : List (List Int)) (v : Int) : ∀ (rest now best : List Pr), growM t v rest now best = growG (okB t v) rest now best
  | [], _, _ => rfl
  | e :: rest, now, best => by
    unfold growM growG
    rw [growM_growG t v rest, growM_growG t v rest]
theorem growG_cons (ok : List Pr → Pr → Bool) (e : Pr) (rest now best : List Pr) : growG ok (e :: rest) now best = growG ok rest now (if ok now e = true then growG ok rest (now ++ [e]) (updM (now ++ [e]) best) else best) := rfl
theorem growG_filter (ok : List Pr → Pr → Bool) (p : Pr → Bool) : ∀ (rest now best : List Pr), (∀ e ∈ rest, p e = false → ∀ now, ok now e = false) → growG ok rest now best = growG ok (rest.filter p) now best
  | [], _, _, _ => rfl
  | e :: rest, now, best, h => by
    have hr : ∀ e ∈ rest, p e = false → ∀ now, ok now e = false := fun e' h' => h e' (List.mem_cons_of_mem _ h')
    rw [List.filter_cons]
    cases hp : p e with
    | true =>
      rw [if_pos rfl, growG_cons, growG_cons, growG_filter ok p rest _ _ hr, growG_filter ok p rest (now ++ [e]) _ hr]
    | false =>
      rw [if_neg (by decide), growG_cons, h e (List.mem_cons_self ..) hp now, if_neg (by decide)]
      exact growG_filter ok p rest _ _ hr
theorem foolsM_snoc (t : List (List Int)) (v : Int) (l : List Pr) (x : Pr) : foolsM t v (l ++ [x]) = (foolsM t v l && stepB t v l x) := by
  unfold foolsM
  rw [List.length_append, List.length_singleton, List.range_succ, List.all_append]
  congr 1
  · have hc : ∀ i, i ∈ List.range l.length → stepB t v ((l ++ [x]).take i) ((l ++ [x]).getD i pr0) = stepB t v (l.take i) (l.getD i pr0) := fun i hi => by
      have hi := List.mem_range.1 hi
      rw [List.take_append_of_le_length (by omega), List.getD_eq_getElem?_getD, List.getElem?_append_left hi, ← List.getD_eq_getElem?_getD]
    rw [Bool.eq_iff_iff, List.all_eq_true, List.all_eq_true]
    exact ⟨fun h i hi => by rw [← hc i hi]; exact h i hi, fun h i hi => by rw [hc i hi]; exact h i hi⟩
  · simp [List.getD_eq_getElem?_getD]
/-- What holds at each call of the search. -/
def GInv (t : List (List Int)) (v : Int) (now rest : List Pr) : Prop := foolsM t v now = true ∧ (∀ e ∈ rest, (now.isEmpty || ltB (lastP now) e) = true) ∧ rest.Pairwise (fun a b => ltB a b = true) ∧ ∀ e ∈ rest, placeB t v e = true
theorem GInv.eq {t : List (List Int)} {v : Int} {now rest : List Pr} {e : Pr} (h : GInv t v now (e :: rest)) : okR t v now e = okB t v now e := by
  obtain ⟨h1, h2, _, h4⟩ := h
  unfold okR okB
  rw [foolsM_snoc, h1, Bool.true_and]
  unfold stepB
  rw [h4 e (List.mem_cons_self ..), h2 e (List.mem_cons_self ..), Bool.true_and, Bool.true_and, all_not_any]
  congr 1
  congr 1
  funext y
  rw [fooled_comm]
theorem GInv.skip {t : List (List Int)} {v : Int} {now rest : List Pr} {e : Pr} (h : GInv t v now (e :: rest)) : GInv t v now rest :=
  ⟨h.1, fun x hx => h.2.1 x (List.mem_cons_of_mem _ hx), (List.pairwise_cons.1 h.2.2.1).2, fun x hx => h.2.2.2 x (List.mem_cons_of_mem _ hx)⟩
theorem lastP_snoc (now : List Pr) (e : Pr) : lastP (now ++ [e]) = e := by
  unfold lastP
  simp [List.getD_eq_getElem?_getD]
theorem GInv.push {t : List (List Int)} {v : Int} {now rest : List Pr} {e : Pr} (h : GInv t v now (e :: rest)) (hk : okR t v now e = true) : GInv t v (now ++ [e]) rest :=
  ⟨hk, fun x hx => by rw [lastP_snoc, (List.pairwise_cons.1 h.2.2.1).1 x hx, Bool.or_true], h.skip.2.2.1, h.skip.2.2.2⟩
theorem growG_eq (t : List (List Int)) (v : Int) : ∀ (rest now best : List Pr), GInv t v now rest → growG (okR t v) rest now best = growG (okB t v) rest now best
  | [], _, _, _ => rfl
  | e :: rest, now, best, h => by
    rw [growG_cons, growG_cons, h.eq]
    cases hk : okB t v now e with
    | true =>
      rw [if_pos rfl, if_pos rfl, growG_eq t v rest (now ++ [e]) _ (h.push (by rw [h.eq]; exact hk)), growG_eq t v rest _ _ h.skip]
    | false =>
      rw [if_neg (by decide), if_neg (by decide), growG_eq t v rest _ _ h.skip]
theorem rfoolM_eq (t : List (List Int)) (v : Int) : rfoolM t v = foolM t v := by
  unfold rfoolM foolM
  rw [growM_growG, growG_filter (okR t v) (valB t v), ← ents_filter]
  · exact growG_eq t v _ _ _ ⟨rfl, fun e _ => rfl, ents_sorted t v, fun e he => ents_place.2 he⟩
  · intro e he hp now
    unfold okR
    rw [foolsM_snoc, place_false, Bool.and_false]
    rw [Bool.eq_false_iff]
    intro h
    have := (placeB_iff.1 h).2.2.2.2
    unfold valB at hp
    rw [decide_eq_true this] at hp
    cases hp
theorem idxP_spec {l : List Pr} {x : Pr} (h : x ∈ l) : ∃ i, i < l.length ∧ idxP l x = (i : Int) ∧ l.getD i pr0 = x := by
  cases e : l.findIdx? (fun y => decide (x = y)) with
  | none =>
    rw [List.findIdx?_eq_none_iff] at e
    have := e x h
    simp at this
  | some i =>
    refine ⟨i, ?_⟩
    have e' := e
    obtain ⟨hi, h1, _⟩ := List.findIdx?_eq_some_iff_getElem.1 e
    refine ⟨hi, by unfold idxP; rw [e'], ?_⟩
    rw [List.getD_eq_getElem?_getD, List.getElem?_eq_getElem hi]
    exact (of_decide_eq_true h1).symm
theorem sorted_lt {l : List Pr} (h : l.Pairwise (fun a b => ltB a b = true)) {i j : Nat} (hij : i < j) (hj : j < l.length) : ltB (l.getD i pr0) (l.getD j pr0) = true := by
  rw [List.getD_eq_getElem?_getD, List.getElem?_eq_getElem (by omega), List.getD_eq_getElem?_getD, List.getElem?_eq_getElem hj]
  exact List.pairwise_iff_getElem.1 h i j (by omega) hj hij
theorem ltB_irrefl (a : Pr) : ltB a a = false := by unfold ltB; simp
theorem ltB_asymm {a b : Pr} (h : ltB a b = true) : ltB b a = false := by
  unfold ltB at *
  simp only [Bool.or_eq_true, Bool.and_eq_true, decide_eq_true_eq] at h
  rw [Bool.eq_false_iff]
  simp only [ne_eq, Bool.or_eq_true, Bool.and_eq_true, decide_eq_true_eq]
  omega
/-- Both orders are one. -/
theorem idx_lt {t : List (List Int)} {v : Int} {x y : Pr} (hx : x ∈ ents t v) (hy : y ∈ ents t v) : idxP (ents t v) x < idxP (ents t v) y ↔ ltB x y = true := by
  obtain ⟨i, hi, e1, e2⟩ := idxP_spec hx
  obtain ⟨j, hj, e3, e4⟩ := idxP_spec hy
  rw [e1, e3]
  constructor
  · intro h
    have := sorted_lt (ents_sorted t v) (show i < j by omega) hj
    rwa [e2, e4] at this
  · intro h
    rcases Nat.lt_or_ge i j with h' | h'
    · omega
    · exfalso
      rcases Nat.lt_or_ge j i with h2 | h2
      · have h3 := sorted_lt (ents_sorted t v) h2 hi
        rw [e2, e4] at h3
        rw [ltB_asymm h3] at h
        cases h
      · obtain rfl : i = j := by omega
        rw [e2] at e4
        subst e4
        rw [ltB_irrefl] at h
        cases h
theorem foolsT_at {t : List (List Int)} {v : Int} {l : List Pr} (h : foolsT t v l = true) {i : Nat} (hi : i < l.length) : stepT t v (l.take i) (l.getD i pr0) = true := List.all_eq_true.1 h i (List.mem_range.2 hi)
theorem foolsM_at {t : List (List Int)} {v : Int} {l : List Pr} (h : foolsM t v l = true) {i : Nat} (hi : i < l.length) : stepB t v (l.take i) (l.getD i pr0) = true := List.all_eq_true.1 h i (List.mem_range.2 hi)
theorem stepT_mem {t : List (List Int)} {v : Int} {pre : List Pr} {x : Pr} (h : stepT t v pre x = true) : x ∈ ents t v := by
  have h1 := stepT_idx h
  have h2 := lastI_ge t v pre
  have h3 : 0 ≤ idxP (ents t v) x := by omega
  exact idxP_mem h3
theorem fools_eq (t : List (List Int)) (v : Int) (l : List Pr) : foolsT t v l = foolsM t v l := by
  rw [Bool.eq_iff_iff]
  constructor
  · intro h
    refine fools_true fun i hi => ?_
    have hs := foolsT_at h hi
    have hm := stepT_mem hs
    unfold stepB
    rw [ents_place.2 hm, Bool.true_and, Bool.and_eq_true]
    constructor
    · rcases Nat.eq_zero_or_pos i with rfl | h0
      · rfl
      · obtain ⟨j, rfl⟩ : ∃ j, i = j + 1 := ⟨i - 1, by omega⟩
        have hj := stepT_mem (foolsT_at h (show j < l.length by omega))
        have h1 := stepT_idx hs
        rw [lastI_succ (by omega)] at h1
        rw [lastP_take hi (by omega), Nat.add_sub_cancel, (idx_lt hj hm).1 h1, Bool.or_true]
    · unfold stepT at hs
      rw [Bool.and_eq_true] at hs
      rw [all_not_any]
      exact hs.2
  · intro h
    refine foolsT_true fun i hi => ?_
    have hs := foolsM_at h hi
    have hp := ents_place.1 (step_place hs)
    unfold stepB at hs
    rw [Bool.and_eq_true, Bool.and_eq_true] at hs
    unfold stepT
    rw [Bool.and_eq_true]
    constructor
    · rw [Bool.not_eq_true', decide_eq_false_iff_not]
      rcases Nat.eq_zero_or_pos i with rfl | h0
      · obtain ⟨k, _, e, _⟩ := idxP_spec hp
        rw [e]
        unfold lastI
        simp only [List.take_zero, List.isEmpty_nil, if_true]
        omega
      · obtain ⟨j, rfl⟩ : ∃ j, i = j + 1 := ⟨i - 1, by omega⟩
        have hj := ents_place.1 (step_place (foolsM_at h (show j < l.length by omega)))
        have h1 := hs.1.2
        rw [take_ne (by omega), lastP_take hi (by omega), Nat.add_sub_cancel, Bool.false_or] at h1
        have h2 := (idx_lt hj hp).2 h1
        rw [lastI_succ (by omega)]
        omega
    · rw [← all_not_any]
      exact hs.2
/-- A fooling set is no longer than the entries. -/
theorem foolsT_len {t : List (List Int)} {v : Int} {l : List Pr} (h : foolsT t v l = true) : l.length ≤ (ents t v).length := by
  have hk : ∀ i, i < l.length → (i : Int) ≤ idxP (ents t v) (l.getD i pr0) := by
    intro i
    induction i with
    | zero =>
      intro hi
      obtain ⟨k, _, e, _⟩ := idxP_spec (stepT_mem (foolsT_at h hi))
      rw [e]
      omega
    | succ i ih =>
      intro hi
      have h1 := stepT_idx (foolsT_at h hi)
      rw [lastI_succ (by omega)] at h1
      have := ih (by omega)
      omega
  rcases Nat.eq_zero_or_pos l.length with h0 | h0
  · omega
  · have h1 := hk (l.length - 1) (by omega)
    obtain ⟨k, hk', e, _⟩ := idxP_spec (stepT_mem (foolsT_at h (show l.length - 1 < l.length by omega)))
    rw [e] at h1
    omega
theorem fools_take {t : List (List Int)} {v : Int} {l : List Pr} (he : (ents t v).length ≤ 16) : foolsT t v (l.take 40) = foolsM t v l := by
  rcases Nat.le_total l.length 40 with h | h
  · rw [List.take_of_length_le h, fools_eq]
  · have h1 : foolsT t v (l.take 40) = false := by
      rw [Bool.eq_false_iff]
      intro h'
      have := foolsT_len h'
      rw [List.length_take] at this
      omega
    have h2 : foolsT t v l = false := by
      rw [Bool.eq_false_iff]
      intro h'
      have := foolsT_len h'
      omega
    rw [h1, ← fools_eq, h2]
end Go.Proofs.Ytaapamoglgpocaa
