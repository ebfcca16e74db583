/- Walks: Best. -/
import Derived.Test.YtohdjlgghkcaoaaW13
import Derived.Test.YtohdjlgghkcaoaaHalt
namespace Go.Proofs.Ytohdjlgghkcaoaa
open Go.RowKit

set_option maxRecDepth 100000 in
set_option maxHeartbeats 1000000 in
theorem Best_no (b h l g : Int) (n : Bool) (hv : W.vld b h l g n = false) (w : World) :
    Calls Try.prog 29 #[.agg #[.int .i64 b, .int .i64 h, .int .i64 l, .int .i64 g, .bool n]] w (Ret (.tuple #[vL0, .int .i64 2]) w) := by
  go_enter Try.func29, Try.ntmps29
  go_wp2_with fail
  have c0 : Hid (Chg [] w ((w.alloc (.cells #[.int .i64 b, .int .i64 h, .int .i64 l, .int .i64 g, .bool n] 27)).alloc (.cells zero8 37))) := hide (((Chg.refl _ _).alloc _).alloc _)
  have b1 := Box.at (w.alloc (.cells #[.int .i64 b, .int .i64 h, .int .i64 l, .int .i64 g, .bool n] 27)) zero8 37 (n := w.heap.size + 1) (by simp)
  unfold zero8 at c0 b1
  have B1 := hide b1
  clear b1
  refine (valid_any _ _ _ _ _ _).mono ?_
  generalize ((w.alloc (.cells #[.int .i64 b, .int .i64 h, .int .i64 l, .int .i64 g, .bool n] 27)).alloc (.cells #[.int .i64 0, .int .i64 0, .int .i64 0, .int .i64 0, .int .i64 0, .int .i64 0, .int .i64 0, .int .i64 0] 37)) = W0 at c0 B1 ⊢
  rintro e w1 ⟨rfl, hw1⟩
  have C1 : Hid (Chg [] w w1) := hide (c0.out.trans hw1)
  have b1 := B1.out.keep hw1 (by simp)
  have f1 := fun o => b1.cell o
  have g1 := fun o => b1.free o
  clear hw1 b1
  go_wp2
  refine bodyPost_ret (v := .tuple #[vL0, .int .i64 2]) ?_ rfl (Ret.mk rfl ?_)
  · simp [results, Try.results29, go_sem, f1, vL0]
  · clear f1 g1
    repeat (first | (with_reducible refine Chg.setCell ?_ (Or.inr (by first | (simp; done) | (simp; omega))) _) | with_reducible apply Chg.drew)
    exact C1.out

/-- What Best answers. -/
def BestIs (k : W.K) (v : Value) : Prop :=
  (v = .tuple #[vL0, .int .i64 4] ∧ (W.need 6 k = none ∨ W.need 6 k = some 0)) ∨ ∃ m x, v = .tuple #[vLx x, .int .i64 0] ∧ W.need 6 k = some (m + 1) ∧ W.fits k x = true ∧ W.good (W.wins m) k x = true

set_option maxRecDepth 100000 in
set_option maxHeartbeats 2000000 in
theorem Best_yes (k : W.K) (hk : okK k) (w : World) :
    Calls Try.prog 29 #[.agg #[.int .i64 (k.b : Int), .int .i64 (k.h : Int), .int .i64 (k.l : Int), .int .i64 (k.g : Int), .bool k.n]] w fun e w' => ∃ v, e = .returned v ∧ BestIs k v ∧ Chg [] w w' := by
  have hmm := @run_makeMap Try.prog
  have hV := fun w => valid_any (k.b : Int) (k.h : Int) (k.l : Int) (k.g : Int) k.n w
  rw [hk.vld] at hV
  have HV := hide hV
  have HK := hide hk
  clear hk hV
  go_enter Try.func29, Try.ntmps29
  go_wp2_with fail
  have c0 : Hid (Chg [] w ((w.alloc (.cells #[.int .i64 (k.b : Int), .int .i64 (k.h : Int), .int .i64 (k.l : Int), .int .i64 (k.g : Int), .bool k.n] 27)).alloc (.cells zero8 37))) := hide (((Chg.refl _ _).alloc _).alloc _)
  have b0 := (Box.new w #[.int .i64 (k.b : Int), .int .i64 (k.h : Int), .int .i64 (k.l : Int), .int .i64 (k.g : Int), .bool k.n] 27).old (.cells zero8 37)
  have b1 := Box.at (w.alloc (.cells #[.int .i64 (k.b : Int), .int .i64 (k.h : Int), .int .i64 (k.l : Int), .int .i64 (k.g : Int), .bool k.n] 27)) zero8 37 (n := w.heap.size + 1) (by simp)
  unfold zero8 at c0 b0 b1
  have B0 := hide b0
  have B1 := hide b1
  clear b0 b1
  refine (HV.out _).mono ?_
  generalize ((w.alloc (.cells #[.int .i64 (k.b : Int), .int .i64 (k.h : Int), .int .i64 (k.l : Int), .int .i64 (k.g : Int), .bool k.n] 27)).alloc (.cells #[.int .i64 0, .int .i64 0, .int .i64 0, .int .i64 0, .int .i64 0, .int .i64 0, .int .i64 0, .int .i64 0] 37)) = W0 at c0 B0 B1 ⊢
  rintro e w1 ⟨rfl, hw1⟩
  have C1 : Hid (Chg [] w w1) := hide (c0.out.trans hw1)
  have D0 := hide (B0.out.keep hw1 (by simp))
  have D1 := hide (B1.out.keep hw1 (by simp))
  have l0 := D0.out.lt
  have l1 := D1.out.lt
  have f0 := fun o => D0.out.cell o
  clear hw1 B0 B1 c0
  have HMp := MemoIs.new w1
  have hbbN : At ((w1.alloc (Obj.map #[] 0)).alloc (Obj.cells #[Value.map (some w1.heap.size)] 79)) (w1.heap.size + 1) (.map (some w1.heap.size)) := At.of_box (Box.at _ _ _ (by simp))
  have c1 : Chg [] w1 ((w1.alloc (Obj.map #[] 0)).alloc (Obj.cells #[Value.map (some w1.heap.size)] 79)) := ((Chg.refl _ _).alloc _).alloc _
  have HMM := hide (HMp.keep ((Chg.refl [] _).alloc (Obj.cells #[Value.map (some w1.heap.size)] 79)) (by simp))
  have HBB := hide hbbN
  have CC1 := hide c1
  clear HMp hbbN c1
  go_wp2_with fail
  refine (need_any k HK.out (w1.heap.size + 1) w1.heap.size _ HBB.out HMM.out (by omega)).mono ?_
  have hT : Hid (∀ x ∈ [w1.heap.size], x ∈ ([] : List Nat) ∨ w1.heap.size ≤ x) := hide fun x hx => .inr (by rw [List.mem_singleton.1 hx]; exact Nat.le_refl _)
  have q0 : w.heap.size ≠ w1.heap.size := by omega
  have q1 : w.heap.size + 1 ≠ w1.heap.size := by omega
  have q2 : w1.heap.size + 1 ≠ w1.heap.size := by omega
  generalize ((w1.alloc (Obj.map #[] 0)).alloc (Obj.cells #[Value.map (some w1.heap.size)] 79)) = W2 at HMM HBB CC1 ⊢
  rintro e w2 ⟨rfl, hc2, hm2⟩
  have HM2 := hide hm2
  have HB2 := hide (HBB.out.keep hc2 (by simp))
  have C2 := hide hc2
  have E0 := hide ((D0.out.keep CC1.out (by simp)).keep hc2 (by simpa using q0))
  have E1 := hide ((D1.out.keep CC1.out (by simp)).keep hc2 (by simpa using q1))
  have CW : Hid (Chg [] w1 w2) := hide (CC1.out.trans' hc2 (by simp))
  have e0 := fun o => E0.out.cell o
  have le0 := E0.out.lt
  have g1 := fun o => E1.out.free o
  have e1 := fun o => E1.out.cell o
  clear hc2 hm2 f0 l0 l1 HMM HBB CC1 D0 D1
  cases hn : W.need 6 k with
  | none =>
    have HN := hide hn
    clear hn
    rw [needR]
    go_wp2
    refine bodyPost_ret (v := .tuple #[vL0, .int .i64 4]) ?_ rfl ⟨_, rfl, .inl ⟨rfl, .inl HN.out⟩, ?_⟩
    · simp [results, Try.results29, go_sem, e1, vL0]
    · clear e1 g1 e0
      repeat (first | (with_reducible refine Chg.setCell ?_ (Or.inr (by first | (simp; done) | (simp; omega))) _) | with_reducible apply Chg.drew)
      exact C1.out.trans CW.out
  | some j =>
    cases j with
    | zero =>
      have HN := hide hn
      clear hn
      rw [needR]
      go_wp2
      refine bodyPost_ret (v := .tuple #[vL0, .int .i64 4]) ?_ rfl ⟨_, rfl, .inl ⟨rfl, .inr HN.out⟩, ?_⟩
      · simp [results, Try.results29, go_sem, e1, vL0]
      · clear e1 g1 e0
        repeat (first | (with_reducible refine Chg.setCell ?_ (Or.inr (by first | (simp; done) | (simp; omega))) _) | with_reducible apply Chg.drew)
        exact C1.out.trans CW.out
    | succ m =>
      have HN := hide hn
      have hm6 : m + 1 < 6 := (W.need_some.1 hn).1
      have hwin := (W.need_some.1 hn).2.1
      have HWin := hide hwin
      clear hn hwin
      have dn : ((m : Int) + 1 == 0) = false := by simp; omega
      rw [needR, show ((m + 1 : Nat) : Int) = (m : Int) + 1 from by omega]
      clear e1 g1
      go_wp2_with fail
      refine (load_any m (by omega) (wins_any m (by omega)) k HK.out (w1.heap.size + 1) w1.heap.size w2 HB2.out HM2.out q2).mono ?_
      rintro e w3 ⟨hc3, _, hres⟩
      obtain ⟨x, rfl, hf, hg⟩ : ∃ x, e = .returned (.tuple #[vLx x, .bool true]) ∧ W.fits k x = true ∧ W.good (W.wins m) k x = true := by
        rcases hres with ⟨_, hno⟩ | h
        · exfalso
          rcases W.wins_succ.1 HWin.out with h' | ⟨_, x, h1, h2⟩
          · have := (W.need_some.1 HN.out).2.2 0 (by omega)
            rw [W.wins_zero.2 h'] at this
            cases this
          · exact absurd ((hno x h1).symm.trans h2) (by decide)
        · exact h
      have HFG := hide (And.intro hf hg)
      have CW3 : Hid (Chg [] w1 w3) := hide (CW.out.trans' hc3 (fun x hx => .inr (by rw [List.mem_singleton.1 hx]; exact Nat.le_refl _)))
      have E3 := hide (E1.out.keep hc3 (by simpa using q1))
      have e3 := fun o => E3.out.cell o
      have g3 := fun o => E3.out.free o
      have le3 := E3.out.lt
      clear hf hg hc3 hres e0 le0
      unfold vLx
      go_wp2
      refine bodyPost_ret (v := .tuple #[vLx x, .int .i64 0]) ?_ rfl ⟨_, rfl, .inr ⟨m, x, rfl, HN.out, HFG.out.1, HFG.out.2⟩, ?_⟩
      · have bx := (E3.out.set8 (.int .i64 (x.b0 : Int)) (.int .i64 (x.b1 : Int)) (.int .i64 (x.h0 : Int)) (.int .i64 (x.h1 : Int)) (.int .i64 (x.l0 : Int)) (.int .i64 (x.l1 : Int)) (.int .i64 (x.g0 : Int)) (.int .i64 (x.g1 : Int))).old (.cells #[.int .i64 (x.b0 : Int), .int .i64 (x.b1 : Int), .int .i64 (x.h0 : Int), .int .i64 (x.h1 : Int), .int .i64 (x.l0 : Int), .int .i64 (x.l1 : Int), .int .i64 (x.g0 : Int), .int .i64 (x.g1 : Int)] 37)
        have fx := fun o => bx.cell o
        clear e3 g3
        simp [results, Try.results29, go_sem, fx, vLx]
      · clear e3 g3
        repeat (first | (with_reducible refine Chg.setCell ?_ (Or.inr (by first | (simp; done) | (simp; omega))) _) | with_reducible apply Chg.drew | with_reducible apply Chg.alloc)
        exact C1.out.trans CW3.out
end Go.Proofs.Ytohdjlgghkcaoaa
