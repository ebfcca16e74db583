/- Walks: R.Value, slices.Index of pairs, the closure of Fools, Fools. -/
import Derived.Test.YtaapamoglgpocaaRFool
import Derived.Laws.EntriesVeiled
import Derived.BigQuiet
namespace Go.Proofs.Ytaapamoglgpocaa
open Go.RowKit

set_option maxHeartbeats 1000000 in
theorem Rbit_any (v : Int) (w : World) : Calls Try.prog 59 #[.int .i64 v] w (Ret (.bool (decide (v = 0 ∨ v = 1))) w) := by
  obtain ⟨R, hR⟩ : ∃ R, R = decide (v = 0 ∨ v = 1) := ⟨_, rfl⟩
  rw [← hR]
  have HR := hide hR
  clear hR
  by_cases h0 : v = 0
  · have d1 : (v == 0) = true := by simpa using h0
    have E : Hid (R = true) := hide (by rw [HR.out]; simp [h0])
    clear h0
    go_enter Try.func59, Try.ntmps59
    go_wp2
    go_ret
    exact ⟨by rw [E.out]; rfl, Chg.refl _ _⟩
  · have d1 : (v == 0) = false := by simpa using h0
    by_cases h1 : v = 1
    · have d2 : (v == 1) = true := by simpa using h1
      have E : Hid (R = true) := hide (by rw [HR.out]; simp [h1])
      clear h0 h1
      go_enter Try.func59, Try.ntmps59
      go_wp2
      go_ret
      exact ⟨by rw [E.out]; rfl, Chg.refl _ _⟩
    · have d2 : (v == 1) = false := by simpa using h1
      have E : Hid (R = false) := hide (by rw [HR.out]; simp [h0, h1])
      clear h0 h1
      go_enter Try.func59, Try.ntmps59
      go_wp2
      go_ret
      exact ⟨by rw [E.out]; rfl, Chg.refl _ _⟩
set_option maxHeartbeats 1000000 in
theorem RValue_any (v : Int) (w : World) : Calls Try.prog 40 #[.int .i64 v] w (Ret (.bool (decide (v = 0 ∨ v = 1))) w) := by
  have HB := hide (Rbit_any v w)
  generalize decide (v = 0 ∨ v = 1) = R at *
  go_enter Try.func40, Try.ntmps40
  go_wp2_with fail
  refine HB.out.mono ?_
  rintro e w1 ⟨rfl, hw1⟩
  go_wp2
  go_ret
  exact ⟨rfl, hw1⟩
/-- Where a pair stands first, or -1. -/
def idxP (l : List Pr) (x : Pr) : Int := match l.findIdx? (fun y => decide (x = y)) with
  | some i => (i : Int)
  | none => -1
theorem idxP_at {l : List Pr} {x : Pr} {i : Nat} (hi : i < l.length) (h : l.getD i pr0 = x) (hn : ∀ q, q < i → l.getD q pr0 ≠ x) : idxP l x = (i : Int) := by
  have hg : ∀ q (hq : q < l.length), l.getD q pr0 = l[q] := fun q hq => by rw [List.getD_eq_getElem?_getD, List.getElem?_eq_getElem hq]; rfl
  have e : l.findIdx? (fun y => decide (x = y)) = some i := by
    rw [List.findIdx?_eq_some_iff_getElem]
    refine ⟨hi, decide_eq_true ?_, fun j hj => ?_⟩
    · rw [← hg i hi, h]
    · have := hn j hj
      rw [hg j (by omega)] at this
      simpa using fun h => this h.symm
  unfold idxP
  rw [e]
theorem idxP_none {l : List Pr} {x : Pr} (hn : ∀ q, q < l.length → l.getD q pr0 ≠ x) : idxP l x = -1 := by
  have hg : ∀ q (hq : q < l.length), l.getD q pr0 = l[q] := fun q hq => by rw [List.getD_eq_getElem?_getD, List.getElem?_eq_getElem hq]; rfl
  have e : l.findIdx? (fun y => decide (x = y)) = none := by
    rw [List.findIdx?_eq_none_iff]
    intro y hy
    obtain ⟨q, hq, rfl⟩ := List.getElem_of_mem hy
    have := hn q hq
    rw [hg q hq] at this
    simpa using fun h => this h.symm
  unfold idxP
  rw [e]

set_option maxRecDepth 100000 in
set_option maxHeartbeats 1000000 in
theorem IndexP_any (v : Value) (l : List Pr) (xa xb : Int) (w : World) (hv : SeeP w v l) (hl : l.length ≤ 1000000) :
    Calls Try.prog 75 #[v, .agg #[.int .i64 xa, .int .i64 xb]] w (Ret (.int .i64 (idxP l (xa, xb))) w) := by
  obtain ⟨ao, cap, rfl, _⟩ := hv.shape
  have HV := hide hv
  obtain ⟨R, hR⟩ : ∃ R, R = idxP l (xa, xb) := ⟨_, rfl⟩
  rw [← hR]
  have HAt := hide (fun (i : Nat) (hi : i < l.length) (h : l.getD i pr0 = (xa, xb)) (hn : ∀ q, q < i → l.getD q pr0 ≠ (xa, xb)) => hR.trans (idxP_at hi h hn))
  have HNo := hide (fun (hn : ∀ q, q < l.length → l.getD q pr0 ≠ (xa, xb)) => hR.trans (idxP_none hn))
  clear hv hR
  obtain ⟨n, hn⟩ : ∃ n, n = l.length := ⟨_, rfl⟩
  have HN := hide hn
  rw [← hn] at HV HAt HNo hl ⊢
  clear hn
  have bx := Box.new w #[.int .i64 xa, .int .i64 xb] 60
  have hc0 : Chg [] w (w.alloc (.cells #[.int .i64 xa, .int .i64 xb] 60)) := (Chg.refl [] w).alloc _
  go_enter Try.func75, Try.ntmps75
  go_wp2
  generalize w.alloc (.cells #[.int .i64 xa, .int .i64 xb] 60) = w0 at bx hc0 ⊢
  generalize w.heap.size = Bx at bx ⊢
  have S0 := hide (And.intro bx hc0)
  clear bx hc0
  go_loopw [8] (fun iv wr => ∃ i : Nat, i ≤ n ∧ iv = .int .i64 (i : Int) ∧ Hid ((∀ q, q < i → l.getD q pr0 ≠ (xa, xb)) ∧ Chg [] w wr ∧ Box wr Bx #[.int .i64 xa, .int .i64 xb] 60)) (fun iv _ => n - (intOf iv).toNat)
  case atStart => exact ⟨0, Nat.zero_le _, rfl, hide ⟨fun q h => by omega, S0.out.2, S0.out.1⟩⟩
  case round =>
    obtain ⟨i, hi, rfl, hI⟩ := hrel
    by_cases hlt : i < n
    · have d1 : decide ((i : Int) < (n : Int)) = true := by simpa using hlt
      have nx : l ≠ [] := fun h => by have := HN.out; rw [h] at this; simp at this; omega
      obtain ⟨a, c1, e1, _, hc1⟩ := HV.out.open nx
      obtain ⟨rfl, hn1, rfl⟩ : ao = some a ∧ n = l.length ∧ cap = c1 := by simpa using e1
      obtain ⟨y0, y1⟩ := hc1 wr hI.out.2.1 i (by rw [← HN.out]; exact hlt)
      obtain ⟨y, hy⟩ : ∃ y, y = l.getD i pr0 := ⟨_, rfl⟩
      rw [← hy] at y0 y1
      have i0 : (0 : Int) ≤ (i : Int) := by omega
      have i1 : (i : Int) < (n : Int) := by omega
      have HY := hide hy
      have C1 := hide hI.out.2.1
      have BX := hide hI.out.2.2
      have HQ := hide hI.out.1
      have x0 := BX.out.cell 0
      have x1 := BX.out.cell 1
      have lx := BX.out.lt
      simp only [List.getElem?_toArray, List.getElem?_cons_zero, List.getElem?_cons_succ] at x0 x1
      obtain ⟨ya, yb⟩ := y
      clear nx hc1 hy hI e1 hn1
      by_cases hxy : (xa, xb) = (ya, yb)
      · have d2 := eqP_iff.2 hxy
        have HE := hide hxy
        clear hxy
        go_wp2
        go_quiet (fail)
        have C2 : Hid (Chg [] w (wr.drewN nq)) := hide (C1.out.drewN _)
        clear x0 x1 y0 y1
        generalize wr.drewN nq = w2 at C2 ⊢
        go_wp2
        go_ret
        have E := HAt.out i hlt (by rw [← HY.out, HE.out]) HQ.out
        exact ⟨by rw [E]; rfl, C2.out⟩
      · have d2 := eqP_not hxy
        have HE : Hid (l.getD i pr0 ≠ (xa, xb)) := hide (by rw [← HY.out]; exact fun h => hxy h.symm)
        clear hxy
        go_wp2
        go_quiet (fail)
        have C2 : Hid (Chg [] w (wr.drewN nq)) := hide (C1.out.drewN _)
        have B2 := hide (BX.out.keep ((Chg.refl [] wr).drewN nq) List.not_mem_nil)
        clear x0 x1 y0 y1 lx
        generalize wr.drewN nq = w2 at C2 B2 ⊢
        go_wp2
        go_roundw
        case rel => exact ⟨i + 1, by omega, by go_num, hide ⟨fun q hq => by
          rcases (show q < i ∨ q = i by omega) with h | rfl
          · exact HQ.out q h
          · exact HE.out, C2.out, B2.out⟩⟩
        case measure => simp [intOf]; omega
    · have d1 : decide ((i : Int) < (n : Int)) = false := by simpa using hlt
      obtain rfl : i = n := by omega
      have E := hide (HNo.out hI.out.1)
      have C1 := hide hI.out.2.1
      clear hI
      go_wp2
      go_ret
      exact ⟨by rw [E.out]; rfl, C1.out⟩

set_option maxRecDepth 100000 in
set_option maxHeartbeats 1000000 in
theorem notFools (Bt Bv Be : Nat) (vt : Value) (t : List (List Int)) (v : Int) (y x : Pr) (w : World) (h1 : w.cell? ⟨Bt, 0, none⟩ = some vt) (h2 : w.cell? ⟨Bv, 0, none⟩ = some (.int .i64 v)) (h3 : Box w Be (prCells x) 60)
    (hs : See2 w vt t) (ht : T.isTab t = true) (hx : InT t x) (hy : InT t y) :
    Calls Try.prog 76 (#[prV y] ++ #[.pointer (some ⟨Bt, 0, none⟩), .pointer (some ⟨Bv, 0, none⟩), .pointer (some ⟨Be, 0, none⟩)]) w (Ret (.bool (!fooledB t v x y)) w) := by
  have HF := hide fun ws (hw : Chg [] w ws) => fooled_any vt t v x y ws (hs.keep hw) ht hx hy
  have ca : Chg [] w (w.alloc (.cells (prCells y) 60)) := (Chg.refl [] w).alloc _
  have l1 := lt_of_cell h1
  have l2 := lt_of_cell h2
  have g1 := (ca.cell l1 List.not_mem_nil 0).trans h1
  have g2 := (ca.cell l2 List.not_mem_nil 0).trans h2
  have be := h3.keep ca List.not_mem_nil
  have m0 := be.cell 0
  have m1 := be.cell 1
  have le := be.lt
  have bx := Box.new w (prCells y) 60
  have x0 := bx.cell 0
  have x1 := bx.cell 1
  have lx := bx.lt
  unfold prV prCells at *
  simp only [List.getElem?_toArray, List.getElem?_cons_zero, List.getElem?_cons_succ] at x0 x1 m0 m1
  have HC := hide ca
  obtain ⟨R, hR⟩ : ∃ R, R = fooledB t v x y := ⟨_, rfl⟩
  rw [← hR] at HF ⊢
  obtain ⟨xa, xb⟩ := x
  obtain ⟨ya, yb⟩ := y
  clear h1 h2 h3 hs ht hx hy ca l1 l2 bx be hR
  go_enter Try.func76, Try.ntmps76
  go_wp2_with fail
  refine (HF.out _ HC.out).mono ?_
  rintro e w1 ⟨rfl, hx⟩
  go_wp2
  go_ret
  exact ⟨rfl, HC.out.trans hx⟩
theorem callFools (args : Array Value) (W : World) : (callFunc 76 args).run Try.prog W = .ok (.enter 76 args) W := by kernel_rfl
end Go.Proofs.Ytaapamoglgpocaa
