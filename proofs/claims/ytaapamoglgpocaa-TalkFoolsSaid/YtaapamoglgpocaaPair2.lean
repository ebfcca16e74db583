/- Walks: pairs compared, searched; the entries of a table with a value. -/
import Derived.Test.YtaapamoglgpocaaPair
import Derived.Test.YtaapamoglgpocaaTbl
import Derived.Test.YtaapamoglgpocaaLaw12
import Derived.ChangeKeysEq
namespace Go.Proofs.Ytaapamoglgpocaa
open Go.RowKit

theorem part_p0 (a b : Int) (w : World) : (part 3 #[.int .i64 a, .int .i64 b] 0).run Try.prog w = .ok (.int .i64 a) w := by kernel_rfl
theorem part_p1 (a b : Int) (w : World) : (part 3 #[.int .i64 a, .int .i64 b] (Try.prog.cellsOf 3)).run Try.prog w = .ok (.int .i64 b) w := by kernel_rfl
theorem eq_int (a b : Int) (w : World) : (Op.equalIn 9999 3 (.int .i64 a) (.int .i64 b)).run Try.prog w = .ok (a == b) w := by kernel_rfl
theorem eq_pair (x y : Pr) (w : World) : (Op.equal 60 (prV x) (prV y)).run Try.prog w = .ok (decide (x = y)) w := by
  obtain ⟨i0, hi', hz0, hz1, hz2⟩ := info_parts infoInt
  obtain ⟨a, b⟩ := x
  obtain ⟨c, d⟩ := y
  have h := run_equalIn_array (P := Try.prog) (w := w) 9999 #[.int .i64 a, .int .i64 b] #[.int .i64 c, .int .i64 d] Try.underlying60 hi'
  unfold Op.equal prV
  refine Eq.trans h ?_
  simp [Op.eqItems, List.range_succ, part_p0, part_p1, eq_int]
  by_cases h1 : a = c
  · by_cases h2 : b = d
    · simp [h1, h2]
    · simp [h1, h2]
  · simp [h1]
/-- Whether two pairs are the same. -/
def eqP (a b c d : Int) : Bool := decide ((a, b) = (c, d))
theorem eqP_iff {a b c d : Int} : eqP a b c d = true ↔ (a, b) = (c, d) := by unfold eqP; rw [decide_eq_true_eq]
theorem eqP_self (a b : Int) : eqP a b a b = true := eqP_iff.2 rfl
theorem eqP_not {a b c d : Int} (h : ¬ (a, b) = (c, d)) : eqP a b c d = false := by unfold eqP; rw [decide_eq_false_iff_not]; exact h
@[go_sem] theorem run_equal_pair (a b c d : Int) (w : World) : (Op.equal 60 (.agg #[.int .i64 a, .int .i64 b]) (.agg #[.int .i64 c, .int .i64 d])).run Try.prog w = .ok (eqP a b c d) w := eq_pair (a, b) (c, d) w
@[go_sem] theorem run_equalIn_pair (a b c d : Int) (w : World) : (Op.equalIn 10000 60 (.agg #[.int .i64 a, .int .i64 b]) (.agg #[.int .i64 c, .int .i64 d])).run Try.prog w = .ok (eqP a b c d) w := eq_pair (a, b) (c, d) w

set_option maxRecDepth 100000 in
set_option maxHeartbeats 1000000 in
theorem EqualP_any (v u : Value) (xs ys : List Pr) (w : World) (hv : SeeP w v xs) (hu : SeeP w u ys) (hl : xs.length ≤ 1000000) :
    Calls Try.prog 41 #[v, u] w (Ret (.bool (decide (xs = ys))) w) := by
  obtain ⟨ao, cap, rfl, _⟩ := hv.shape
  obtain ⟨bo, cap', rfl, _⟩ := hu.shape
  have HV := hide hv
  have HU := hide hu
  clear hv hu
  by_cases hlen : xs.length = ys.length
  · have d0 : ((xs.length : Int) != (ys.length : Int)) = false := by simp [hlen]
    obtain ⟨n, hn⟩ : ∃ n, n = xs.length := ⟨_, rfl⟩
    rw [← hlen] at HU d0 ⊢
    have HN := hide hn
    rw [← hn] at HV HU d0 hl ⊢
    have HN2 : Hid (n = ys.length) := hide (hn.trans hlen)
    clear hn hlen
    go_enter Try.func41, Try.ntmps41
    go_wp2
    go_loopw [13] (fun iv wr => ∃ i : Nat, i ≤ n ∧ iv = .int .i64 (i : Int) ∧ Hid ((∀ q, q < i → xs.getD q pr0 = ys.getD q pr0) ∧ Chg [] w wr)) (fun iv _ => n - (intOf iv).toNat)
    case atStart => exact ⟨0, Nat.zero_le _, rfl, hide ⟨fun q h => by omega, Chg.refl _ _⟩⟩
    case round =>
      obtain ⟨i, hi, rfl, hI⟩ := hrel
      by_cases hlt : i < n
      · have d1 : decide ((i : Int) < (n : Int)) = true := by simpa using hlt
        have nx : xs ≠ [] := fun h => by have := HN.out; rw [h] at this; simp at this; omega
        have ny : ys ≠ [] := fun h => by have := HN2.out; rw [h] at this; simp at this; omega
        obtain ⟨a, c1, e1, _, hc1⟩ := HV.out.open nx
        obtain ⟨b, c2, e2, _, hc2⟩ := HU.out.open ny
        obtain ⟨rfl, hn1, rfl⟩ : ao = some a ∧ n = xs.length ∧ cap = c1 := by simpa using e1
        obtain ⟨rfl, hn2, rfl⟩ : bo = some b ∧ n = ys.length ∧ cap' = c2 := by simpa using e2
        obtain ⟨x0, x1⟩ := hc1 wr hI.out.2 i (by rw [← HN.out]; exact hlt)
        obtain ⟨y0, y1⟩ := hc2 wr hI.out.2 i (by rw [← HN2.out]; exact hlt)
        obtain ⟨x, hx⟩ : ∃ x, x = xs.getD i pr0 := ⟨_, rfl⟩
        obtain ⟨y, hy⟩ : ∃ y, y = ys.getD i pr0 := ⟨_, rfl⟩
        rw [← hx] at x0 x1
        rw [← hy] at y0 y1
        have i0 : (0 : Int) ≤ (i : Int) := by omega
        have i1 : (i : Int) < (n : Int) := by omega
        have HX := hide hx
        have HY := hide hy
        have C1 := hide hI.out.2
        have HQ := hide hI.out.1
        obtain ⟨xa, xb⟩ := x
        obtain ⟨ya, yb⟩ := y
        clear nx ny hc1 hc2 hx hy hI e1 e2 hn1 hn2
        by_cases hxy : (xa, xb) = (ya, yb)
        · have d2 := eqP_iff.2 hxy
          have HE := hide hxy
          clear hxy
          go_wp2
          go_quiet (fail)
          have C2 : Hid (Chg [] w (wr.drewN nq)) := hide (C1.out.drewN _)
          clear x0 x1 y0 y1
          generalize wr.drewN nq = w2 at C2 ⊢
          go_wp2
          go_roundw
          case rel => exact ⟨i + 1, by omega, by go_num, hide ⟨fun q hq => by
            rcases (show q < i ∨ q = i by omega) with h | rfl
            · exact HQ.out q h
            · rw [← HX.out, ← HY.out]; exact HE.out, C2.out⟩⟩
          case measure => simp [intOf]; omega
        · have d2 := eqP_not hxy
          have HE : Hid (decide (xs = ys) = false) := hide (decide_eq_false fun h => hxy (by rw [HX.out, HY.out, h]))
          clear hxy
          go_wp2
          go_quiet (fail)
          have C2 : Hid (Chg [] w (wr.drewN nq)) := hide (C1.out.drewN _)
          clear x0 x1 y0 y1
          generalize wr.drewN nq = w2 at C2 ⊢
          go_wp2
          go_ret
          exact ⟨by rw [HE.out]; rfl, C2.out⟩
      · have d1 : decide ((i : Int) < (n : Int)) = false := by simpa using hlt
        obtain rfl : i = n := by omega
        have HE : Hid (decide (xs = ys) = true) := hide (decide_eq_true (List.ext_getElem? fun q => by
          rcases Nat.lt_or_ge q i with h | h
          · have := hI.out.1 q h
            have h1 : q < xs.length := by rw [← HN.out]; exact h
            have h2 : q < ys.length := by rw [← HN2.out]; exact h
            rw [List.getD_eq_getElem?_getD, List.getD_eq_getElem?_getD, List.getElem?_eq_getElem h1, List.getElem?_eq_getElem h2] at this
            rw [List.getElem?_eq_getElem h1, List.getElem?_eq_getElem h2]
            exact congrArg some this
          · rw [List.getElem?_eq_none (by rw [← HN.out]; exact h), List.getElem?_eq_none (by rw [← HN2.out]; exact h)]))
        go_wp2
        go_ret
        exact ⟨by rw [HE.out]; rfl, hI.out.2⟩
  · have d0 : ((xs.length : Int) != (ys.length : Int)) = true := by simp; omega
    have HE : Hid (decide (xs = ys) = false) := hide (decide_eq_false fun h => hlen (by rw [h]))
    rw [HE.out]
    clear hlen
    generalize xs.length = n at *
    generalize ys.length = m at *
    go_enter Try.func41, Try.ntmps41
    go_wp2
    go_ret
    exact ⟨rfl, Chg.refl _ _⟩
end Go.Proofs.Ytaapamoglgpocaa
