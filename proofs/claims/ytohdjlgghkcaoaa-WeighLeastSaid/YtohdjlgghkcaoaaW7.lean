/- Walks: one Load, made and handed on if it is one. -/
import Derived.Test.YtohdjlgghkcaoaaW6
namespace Go.Proofs.Ytohdjlgghkcaoaa
open Go.RowKit

/-- A variable of one cell. -/
def At (w : World) (A : Nat) (v : Value) : Prop := w.cell? ⟨A, 0, none⟩ = some v
theorem At.lt {w : World} {A : Nat} {v : Value} (h : At w A v) : A < w.heap.size := World.block_lt_of_cell? _ _ h
theorem At.keep {w w' : World} {A : Nat} {v : Value} {S : List Nat} (h : At w A v) (hc : Chg S w w') (hs : A ∉ S) : At w' A v := (hc.cell h.lt hs 0).trans h
/-- What is known, in its five cells. -/
structure KAt (w : World) (A : Nat) (b h l g : Int) (n : Bool) : Prop where
  c0 : w.cell? ⟨A, 0, none⟩ = some (.int .i64 b)
  c1 : w.cell? ⟨A, 1, none⟩ = some (.int .i64 h)
  c2 : w.cell? ⟨A, 2, none⟩ = some (.int .i64 l)
  c3 : w.cell? ⟨A, 3, none⟩ = some (.int .i64 g)
  c4 : w.cell? ⟨A, 4, none⟩ = some (.bool n)
theorem KAt.lt {w : World} {A : Nat} {b h l g : Int} {n : Bool} (q : KAt w A b h l g n) : A < w.heap.size := World.block_lt_of_cell? _ _ q.c0
theorem KAt.keep {w w' : World} {A : Nat} {b h l g : Int} {n : Bool} {S : List Nat} (q : KAt w A b h l g n) (hc : Chg S w w') (hs : A ∉ S) : KAt w' A b h l g n :=
  ⟨(hc.cell q.lt hs 0).trans q.c0, (hc.cell q.lt hs 1).trans q.c1, (hc.cell q.lt hs 2).trans q.c2, (hc.cell q.lt hs 3).trans q.c3, (hc.cell q.lt hs 4).trans q.c4⟩

def small (k : W.K) : Prop := k.b ≤ 13 ∧ k.h ≤ 13 ∧ k.l ≤ 13 ∧ k.g ≤ 13

set_option maxRecDepth 100000 in
set_option maxHeartbeats 2000000 in
theorem make_one (k : W.K) (hk : small k) (x : W.L) (hx : x.b0 ≤ 13 ∧ x.b1 ≤ 13 ∧ x.h0 ≤ 13 ∧ x.h1 ≤ 13 ∧ x.l0 ≤ 13 ∧ x.l1 ≤ 13) (A0 A1 A2 A3 AK AM : Nat) (F : FuncId) (CAP : Array Value) (S : List Nat) (J : List W.L → World → Prop) (Z : World → Prop) (D : List W.L) (w : World)
    (q0 : At w A0 (.int .i64 (x.b0 : Int))) (q1 : At w A1 (.int .i64 (x.b1 : Int))) (q2 : At w A2 (.int .i64 (x.h0 : Int))) (q3 : At w A3 (.int .i64 (x.h1 : Int)))
    (qk : KAt w AK k.b k.h k.l k.g k.n) (qm : At w AM (.func (.func F) #[] CAP))
    (hcall : ∀ args W, (callFunc F args).run Try.prog W = .ok (.enter F args) W)
    (hstab : ∀ D w1 w2, J D w1 → Chg [] w1 w2 → J D w2) (hJ : J D w)
    (hskip : ∀ w1, W.fits k x = false → J D w1 → J (D ++ [x]) w1)
    (hmore : ∀ g0 g1 w1, W.fits k x = true → g0 = (x.g0 : Int) → g1 = (x.g1 : Int) → Chg [] w w1 → J D w1 →
      Calls Try.prog F (#[.agg #[.int .i64 (x.b0 : Int), .int .i64 (x.b1 : Int), .int .i64 (x.h0 : Int), .int .i64 (x.h1 : Int), .int .i64 (x.l0 : Int), .int .i64 (x.l1 : Int), .int .i64 g0, .int .i64 g1]] ++ CAP) w1 (Goes S w1 (J (D ++ [x])) Z)) :
    Calls Try.prog 91 #[.int .i64 (x.l0 : Int), .int .i64 (x.l1 : Int), .pointer (some ⟨A0, 0, none⟩), .pointer (some ⟨A1, 0, none⟩), .pointer (some ⟨A2, 0, none⟩), .pointer (some ⟨A3, 0, none⟩), .pointer (some ⟨AK, 0, none⟩), .pointer (some ⟨AM, 0, none⟩)] w (Goes S w (J (D ++ [x])) Z) := by
  have HM := hide hmore
  have HS := hide hskip
  have HT := hide hstab
  have HJ := hide hJ
  clear hmore hskip hstab hJ
  have l0 := q0.lt
  have l1 := q1.lt
  have l2 := q2.lt
  have l3 := q3.lt
  have l4 := qk.lt
  have l5 := qm.lt
  unfold At at q0 q1 q2 q3 qm
  obtain ⟨k0, k1, k2, k3, k4⟩ := qk
  have m1 := fun w ts t y => @run_max_2 Try.prog w ts t y 0
  have p0 := W.panI_zero x.b0 x.b1 x.h0 x.h1 x.l0 x.l1 0 0
  have p1 := W.panI_one x.b0 x.b1 x.h0 x.h1 x.l0 x.l1 0 0
  have HX := hide hx
  obtain ⟨x0, x1, x2, x3, x4, x5⟩ := hx
  have HK := hide hk
  clear hk
  go_enter Try.func91, Try.ntmps91
  go_wp2
  refine wp_region_ext (by kernel_rfl) (by kernel_rfl) ?_
  repeat (first | go_big_quiet_step ((go_at_call 77; (refine calls_of_ret (pan_any _ _ _ _ _ _ _ _ _ _ ?_ ?_ ?_ ?_ ?_ ?_ ?_ ?_ ?_ ?_ ?_ ?_ ?_ ?_ ?_ ?_ ?_) <;> omega))) | quiet_step ((go_at_call 77; (refine calls_of_ret (pan_any _ _ _ _ _ _ _ _ _ _ ?_ ?_ ?_ ?_ ?_ ?_ ?_ ?_ ?_ ?_ ?_ ?_ ?_ ?_ ?_ ?_ ?_) <;> omega))))
  refine wpQuiet_nil ?_
  intro wx hx
  obtain ⟨hc0, hf0⟩ := hx.reads
  have hzz := hx.size
  simp at hzz
  have hz : w.heap.size < wx.heap.size := by omega
  have hz5 : AM < wx.heap.size := by omega
  have hz6 : AM < w.heap.size + 1 := by omega
  have hz7 : AK < w.heap.size + 1 := by omega
  have n5 : AM ≠ w.heap.size := by omega
  go_wp2_with fail
  have E0 : imax (-((x.b0 : Int) + (x.h0 : Int) + (x.l0 : Int) - ((x.b1 : Int) + (x.h1 : Int) + (x.l1 : Int)))) 0 = (x.g0 : Int) := W.g0_eq (by simp [W.L.left, W.L.right])
  have E1 : imax ((x.b0 : Int) + (x.h0 : Int) + (x.l0 : Int) - ((x.b1 : Int) + (x.h1 : Int) + (x.l1 : Int))) 0 = (x.g1 : Int) := W.g1_eq (by simp [W.L.left, W.L.right])
  generalize imax (-((x.b0 : Int) + (x.h0 : Int) + (x.l0 : Int) - ((x.b1 : Int) + (x.h1 : Int) + (x.l1 : Int)))) 0 = g0 at E0 ⊢
  generalize imax ((x.b0 : Int) + (x.h0 : Int) + (x.l0 : Int) - ((x.b1 : Int) + (x.h1 : Int) + (x.l1 : Int))) 0 = g1 at E1 ⊢
  have hL := W.isLd_fits (k := k) E0 E1
  have F0 := hide E0
  have F1 := hide E1
  clear E0 E1
  obtain ⟨r1, r2, r3, r4⟩ := HK.out
  refine (isload_any _ _ _ _ _ _ _ _ _ _ _ _ _ _ ⟨by omega, by omega⟩ ⟨by omega, by omega⟩ ⟨by omega, by omega⟩ ⟨by omega, by omega⟩).mono ?_
  rintro e w1 ⟨rfl, hw1⟩
  obtain ⟨hc1, hf1⟩ := hw1.reads
  have hw0 : Hid (Chg [] w w1) := by
    clear hc0 hf0 hc1 hf1
    refine Chg.trans ?_ hw1
    refine Chg.setCell (Chg.setCell (Chg.trans ((Chg.refl _ _).alloc _) hx) ?_ _) ?_ _ <;> exact .inr (Nat.le_refl _)
  by_cases hfit : W.fits k x = true
  · rw [hfit] at hL
    go_wp2_with fail
    refine (HM.out g0 g1 w1 hfit F0.out F1.out hw0.out (HT.out _ _ _ HJ.out hw0.out)).mono ?_
    rintro e w2 ⟨hchg, ⟨rfl, hj⟩ | ⟨rfl, hz⟩⟩
    · go_wp2
      go_ret
      exact ⟨hw0.out.toAny.trans hchg, .inl ⟨rfl, hj⟩⟩
    · go_wp2
      go_ret
      exact ⟨hw0.out.toAny.trans hchg, .inr ⟨rfl, hz⟩⟩
  · rw [Bool.not_eq_true] at hfit
    rw [hfit] at hL
    go_wp2
    go_ret
    exact ⟨hw0.out.toAny, .inl ⟨rfl, HS.out _ hfit (HT.out _ _ _ HJ.out hw0.out)⟩⟩
end Go.Proofs.Ytohdjlgghkcaoaa
