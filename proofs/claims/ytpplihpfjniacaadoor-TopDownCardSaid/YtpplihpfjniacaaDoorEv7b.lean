/- Walks: families: read (the list is that of the family). -/
import Derived.Test.YtpplihpfjniacaaDoorEv7
namespace Go.Proofs.YtpplihpfjniacaaDoor
open Go.RowKit

attribute [-go_sem] run_eql_struct
set_option maxRecDepth 100000 in
set_option maxHeartbeats 16000000 in
theorem read_gt (n X Y : Nat) (b2 : Bool) (v : Value) (w : World)
    (hcol : ∀ ws, Chg [] w ws → Calls Tryd.prog 58 #[.int .i64 (n : Int), v] ws (Ret (.tuple #[famV n X, .bool true]) ws))
    (hlist : ∀ ws, Chg [] w ws → Calls Tryd.prog 59 #[famV n X] ws fun e w' => ∃ u, e = .returned u ∧ (∀ ws, Chg [] w' ws → Calls Tryd.prog 21 #[u, v] ws (Ret (.bool true) ws)) ∧ Chg [] ws w')
    (hclo : ∀ ws, Calls Tryd.prog 60 #[famV n X] ws (Ret (famV n Y) ws)) (eY : ((Y : Int) == (X : Int)) = b2) :
    Calls Tryd.prog 25 #[.int .i64 (n : Int), v] w (Ret (.tuple #[famV n X, .bool (true && b2)]) w) := by
  have HCo := hide hcol
  have HLi := hide hlist
  have HCl := hide hclo
  have eN : ((n : Int) == (n : Int)) = true := by simp
  unfold famV at *
  clear hcol hlist hclo
  have HW := hide (show Box (w.alloc (.cells #[.int .i64 0, .int .u64 0] 50)) w.heap.size #[.int .i64 0, .int .u64 0] 50 ∧ Chg [] w (w.alloc (.cells #[.int .i64 0, .int .u64 0] 50)) from ⟨Box.new _ _ _, (Chg.refl _ _).alloc _⟩)
  go_enter Tryd.func25, Tryd.ntmps25
  go_wp2_with fail
  refine (HCo.out _ HW.out.2).mono ?_
  rintro e w1 ⟨rfl, hw⟩
  have b1' := (HW.out.1.keep hw List.not_mem_nil).old (.cells #[.int .i64 (n : Int), .int .u64 (X : Int)] 50)
  have b2' := Box.new w1 #[.int .i64 (n : Int), .int .u64 (X : Int)] 50
  have c2 := (HW.out.2.trans hw).alloc (.cells #[.int .i64 (n : Int), .int .u64 (X : Int)] 50)
  have hA2 := (HW.out.1.keep hw List.not_mem_nil).lt
  clear HW hw
  go_wp2
  generalize w1.alloc (.cells #[.int .i64 (n : Int), .int .u64 (X : Int)] 50) = W at b1' b2' c2 ⊢
  have hA2 : w.heap.size < w1.heap.size := hA2
  generalize w1.heap.size = B at b2' hA2 ⊢
  obtain ⟨A, hA⟩ : ∃ A, A = w.heap.size := ⟨_, rfl⟩
  have HA : Hid (w.heap.size ≤ A) := hide (Nat.le_of_eq hA.symm)
  rw [← hA] at b1' hA2 ⊢
  have HB := hide (And.intro b1' (And.intro b2' c2))
  have nAB : B ∉ [A] := by
    have := b1'.lt
    have := hA2
    simp
    omega
  have HK := hide (fun X' (hX' : Chg [A] W X') => (⟨(b2'.keep hX' nAB).cell 0, (b2'.keep hX' nAB).cell 1⟩ : X'.cell? ⟨B, 0, none⟩ = some (.int .i64 (n : Int)) ∧ X'.cell? ⟨B, 1, none⟩ = some (.int .u64 (X : Int))))
  have p0 := b2'.cell 0
  have p1 := b2'.cell 1
  have l2 := b2'.lt
  simp only [List.getElem?_toArray, List.getElem?_cons_zero, List.getElem?_cons_succ] at p0 p1
  have HLc := hide fun ws (h : Chg [] W ws) => HLi.out ws (c2.trans h)
  have ne1 : B ≠ A := fun e => nAB (List.mem_singleton.2 e)
  have ne2 : A ≠ B := fun e => ne1 e.symm
  clear b1' b2' c2 hA hA2 nAB HK
  go_region_with ((first | (go_at_call 59; (with_reducible refine Calls.mono (HLc.out _ ?hcA) ?_); (case hcA => ((repeat' (first | with_reducible exact Chg.refl _ _ | with_reducible assumption | with_reducible apply Chg.drewN | with_reducible apply Chg.drew | with_reducible apply Chg.alloc | (with_reducible refine Chg.setCell ?_ (Or.inr ?_) _) | (with_reducible refine Chg.trans ?_ (by assumption)) | (simp; done) | (simp; omega))))); rintro e wA ⟨u, rfl, hEq, hcA⟩; have kA : Chg [] W wA := (by (repeat' (first | with_reducible exact Chg.refl _ _ | with_reducible assumption | with_reducible apply Chg.drewN | with_reducible apply Chg.drew | with_reducible apply Chg.alloc | (with_reducible refine Chg.setCell ?_ (Or.inr ?_) _) | (with_reducible refine Chg.trans ?_ (by assumption)) | (simp; done) | (simp; omega)))); have qaA := HB.out.1.keep kA List.not_mem_nil; have q0A := qaA.cell 0; have q1A := qaA.cell 1; have g0A := qaA.free 0; have g1A := qaA.free 1; have l1A := qaA.lt; have paA := HB.out.2.1.keep kA List.not_mem_nil; have p0A := paA.cell 0; have p1A := paA.cell 1; have l2A := paA.lt; simp only [List.getElem?_toArray, List.getElem?_cons_zero, List.getElem?_cons_succ] at q0A q1A p0A p1A; clear qaA paA) | (go_at_call 21; (with_reducible refine Calls.mono (hEq _ ?hcZ) ?_); (case hcZ => ((repeat' (first | with_reducible exact Chg.refl _ _ | with_reducible assumption | with_reducible apply Chg.drewN | with_reducible apply Chg.drew | with_reducible apply Chg.alloc | (with_reducible refine Chg.setCell ?_ (Or.inr ?_) _) | (with_reducible refine Chg.trans ?_ (by assumption)) | (simp; done) | (simp; omega))))); rintro e wZ ⟨rfl, hcZ⟩; have kZ : Chg [] W wZ := (by (repeat' (first | with_reducible exact Chg.refl _ _ | with_reducible assumption | with_reducible apply Chg.drewN | with_reducible apply Chg.drew | with_reducible apply Chg.alloc | (with_reducible refine Chg.setCell ?_ (Or.inr ?_) _) | (with_reducible refine Chg.trans ?_ (by assumption)) | (simp; done) | (simp; omega)))); have qaZ := HB.out.1.keep kZ List.not_mem_nil; have q0Z := qaZ.cell 0; have q1Z := qaZ.cell 1; have g0Z := qaZ.free 0; have g1Z := qaZ.free 1; have l1Z := qaZ.lt; have paZ := HB.out.2.1.keep kZ List.not_mem_nil; have p0Z := paZ.cell 0; have p1Z := paZ.cell 1; have l2Z := paZ.lt; simp only [List.getElem?_toArray, List.getElem?_cons_zero, List.getElem?_cons_succ] at q0Z q1Z p0Z p1Z; clear qaZ paZ) | (go_at_call 60; (with_reducible refine Calls.mono (HCl.out _) ?_); rintro e wY ⟨rfl, hcY⟩; have kY : Chg [] W wY := (by (repeat' (first | with_reducible exact Chg.refl _ _ | with_reducible assumption | with_reducible apply Chg.drewN | with_reducible apply Chg.drew | with_reducible apply Chg.alloc | (with_reducible refine Chg.setCell ?_ (Or.inr ?_) _) | (with_reducible refine Chg.trans ?_ (by assumption)) | (simp; done) | (simp; omega)))); have qaY := HB.out.1.keep kY List.not_mem_nil; have q0Y := qaY.cell 0; have q1Y := qaY.cell 1; have g0Y := qaY.free 0; have g1Y := qaY.free 1; have l1Y := qaY.lt; have paY := HB.out.2.1.keep kY List.not_mem_nil; have p0Y := paY.cell 0; have p1Y := paY.cell 1; have l2Y := paY.lt; simp only [List.getElem?_toArray, List.getElem?_cons_zero, List.getElem?_cons_succ] at q0Y q1Y p0Y p1Y; clear qaY paY)))
  all_goals
    go_wp2
    refine bodyPost_ret (v := .tuple #[.agg #[.int .i64 (n : Int), .int .u64 (X : Int)], .bool b2]) ?_ rfl ⟨rfl, ?_⟩
    · simp [results, Tryd.results25, go_sem, q0Y, q1Y]
    · have hA := HA.out
      have c3 := HB.out.2.2
      have c4 := c3.trans kY
      (repeat' (first | with_reducible exact Chg.refl _ _ | with_reducible assumption | with_reducible apply Chg.drewN | with_reducible apply Chg.drew | with_reducible apply Chg.alloc | (with_reducible refine Chg.setCell ?_ (Or.inr ?_) _) | (with_reducible refine Chg.trans ?_ (by assumption)) | (simp; done) | (simp; omega)))
end Go.Proofs.YtpplihpfjniacaaDoor
