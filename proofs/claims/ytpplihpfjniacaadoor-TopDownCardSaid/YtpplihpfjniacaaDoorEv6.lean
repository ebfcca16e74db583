/- Walks: families: collect. -/
import Derived.Test.YtpplihpfjniacaaDoorEv5
namespace Go.Proofs.YtpplihpfjniacaaDoor
open Go.RowKit

def famI (n : Int) (F : Nat) : Value := .agg #[.int .i64 n, .int .u64 (F : Int)]
set_option maxRecDepth 100000 in
set_option maxHeartbeats 2000000 in
theorem collect_out (n : Int) (v : Value) (l : List Int) (w : World) (hv : See w v l) (hb : ¬ (1 ≤ n ∧ n ≤ 6 ∧ l.length ≤ 64)) :
    Calls Tryd.prog 58 #[.int .i64 n, v] w (Ret (.tuple #[famI n 0, .bool false]) w) := by
  obtain ⟨ao, cap, rfl⟩ := hv.shape
  have b1 := (Box.new w #[.int .i64 0, .int .u64 0] 50)
  unfold famI
  generalize l.length = m at *
  clear hv
  by_cases h1 : n < 1
  · have d1 : decide (n < 1) = true := by simpa using h1
    go_enter Tryd.func58, Tryd.ntmps58
    go_wp2
    refine bodyPost_ret (v := .tuple #[.agg #[.int .i64 n, .int .u64 0], .bool false]) ?_ rfl ⟨rfl, ?_⟩
    · simp [results, Tryd.results58, go_sem]
    · (repeat' (first | with_reducible exact Chg.refl _ _ | with_reducible assumption | with_reducible apply Chg.drewN | with_reducible apply Chg.drew | with_reducible apply Chg.alloc | (with_reducible refine Chg.setCell ?_ (Or.inr ?_) _) | (with_reducible refine Chg.trans ?_ (by assumption)) | (simp; done) | (simp; omega)))
  · have d1 : decide (n < 1) = false := by simpa using h1
    by_cases h2 : n ≤ 6
    · have d2 : decide (n > 6) = false := by simp; omega
      have d2' : decide (6 < n) = false := by simp; omega
      have d3 : decide ((m : Int) > 64) = true := by simp; omega
      have d3' : decide ((64 : Int) < (m : Int)) = true := by simp; omega
      have d3n : decide (64 < m) = true := by simp; omega
      go_enter Tryd.func58, Tryd.ntmps58
      go_wp2
      refine bodyPost_ret (v := .tuple #[.agg #[.int .i64 n, .int .u64 0], .bool false]) ?_ rfl ⟨rfl, ?_⟩
      · simp [results, Tryd.results58, go_sem]
      · (repeat' (first | with_reducible exact Chg.refl _ _ | with_reducible assumption | with_reducible apply Chg.drewN | with_reducible apply Chg.drew | with_reducible apply Chg.alloc | (with_reducible refine Chg.setCell ?_ (Or.inr ?_) _) | (with_reducible refine Chg.trans ?_ (by assumption)) | (simp; done) | (simp; omega)))
    · have d2 : decide (n > 6) = true := by simp; omega
      have d2' : decide (6 < n) = true := by simp; omega
      go_enter Tryd.func58, Tryd.ntmps58
      go_wp2
      refine bodyPost_ret (v := .tuple #[.agg #[.int .i64 n, .int .u64 0], .bool false]) ?_ rfl ⟨rfl, ?_⟩
      · simp [results, Tryd.results58, go_sem]
      · (repeat' (first | with_reducible exact Chg.refl _ _ | with_reducible assumption | with_reducible apply Chg.drewN | with_reducible apply Chg.drew | with_reducible apply Chg.alloc | (with_reducible refine Chg.setCell ?_ (Or.inr ?_) _) | (with_reducible refine Chg.trans ?_ (by assumption)) | (simp; done) | (simp; omega)))

theorem setOf_snoc (l : List Int) (x : Int) : Fam.setOf (l ++ [x]) = Fam.setOf l ||| 2 ^ x.toNat := by
  unfold Fam.setOf
  rw [List.foldl_append]
  rfl
theorem take_snoc {l : List Int} {k : Nat} (h : k < l.length) : l.take (k + 1) = l.take k ++ [l.getD k 0] := by
  rw [List.take_add_one, List.getElem?_eq_getElem h, List.getD_eq_getElem?_getD, List.getElem?_eq_getElem h]
  rfl
def CollOut (n : Nat) (l : List Int) (w : World) (e : Ending) (w' : World) : Prop :=
  Chg [] w w' ∧ ((Fam.sets n l = true ∧ e = .returned (.tuple #[famV n (Fam.setOf l), .bool true])) ∨ (Fam.sets n l = false ∧ ∃ X : Nat, X < 18446744073709551616 ∧ e = .returned (.tuple #[famV n X, .bool false])))
set_option maxRecDepth 100000 in
set_option maxHeartbeats 2000000 in
theorem collect_in (n : Nat) (v : Value) (l : List Int) (w : World) (hv : See w v l) (h1 : 1 ≤ n) (h6 : n ≤ 6) (h64 : l.length ≤ 64) :
    Calls Tryd.prog 58 #[.int .i64 (n : Int), v] w (CollOut n l w) := by
  have HV := hide hv
  obtain ⟨ao, cap, rfl⟩ := hv.shape
  clear hv
  have p64 := Fam.pow_64 h6
  have ep : wrap64 (2 ^ n) = ((2 ^ n : Nat) : Int) := by
    have e : ((2 : Int) ^ n) = ((2 ^ n : Nat) : Int) := by rw [Int.natCast_pow]; rfl
    rw [e]
    generalize 2 ^ n = m at p64
    unfold wrap64; omega
  have d1 : decide ((n : Int) < 1) = false := by simp; omega
  have d2 : decide ((n : Int) > 6) = false := by simp; omega
  have d2' : decide ((6 : Int) < (n : Int)) = false := by simp; omega
  have d2n : decide (6 < n) = false := by simp; omega
  obtain ⟨m, hm⟩ : ∃ m, m = l.length := ⟨_, rfl⟩
  rw [← hm] at HV h64 ⊢
  have d3 : decide ((m : Int) > 64) = false := by simp; omega
  have d3' : decide ((64 : Int) < (m : Int)) = false := by simp; omega
  have d3n : decide (64 < m) = false := by simp; omega
  have n0 : (0 : Int) ≤ (n : Int) := by omega
  have n1 : (n : Int) < 64 := by omega
  have n2 : (n : Int) ≤ 64 := by omega
  have HM := hide hm
  clear hm
  go_enter Tryd.func58, Tryd.ntmps58
  go_wp2
  have b1 := (Box.new w #[.int .i64 0, .int .u64 0] 50).old (.cells #[.int .i64 (n : Int), .int .u64 0] 50)
  have b2 := Box.at (w.alloc (.cells #[.int .i64 0, .int .u64 0] 50)) #[.int .i64 (n : Int), .int .u64 0] 50 (n := w.heap.size + 1) (by simp)
  have c2 := ((Chg.refl [] w).alloc (.cells #[.int .i64 0, .int .u64 0] 50)).alloc (.cells #[.int .i64 (n : Int), .int .u64 0] 50)
  generalize (w.alloc (.cells #[.int .i64 0, .int .u64 0] 50)).alloc (.cells #[.int .i64 (n : Int), .int .u64 0] 50) = W at b1 b2 c2 ⊢
  obtain ⟨A, hA⟩ : ∃ A, A = w.heap.size := ⟨_, rfl⟩
  have HA : Hid (w.heap.size ≤ A) := hide (Nat.le_of_eq hA.symm)
  rw [← hA] at b1 b2 ⊢
  have HB : Hid (Box W A #[.int .i64 0, .int .u64 0] 50 ∧ Box W (A + 1) #[.int .i64 (n : Int), .int .u64 0] 50 ∧ Chg [] w W) := hide ⟨b1, b2, c2⟩
  clear b1 b2 c2 hA
  go_loopw [25] (fun kv ws => ∃ k : Nat, k ≤ m ∧ kv = .int .i64 (k : Int) ∧ Hid (Fam.sets n (l.take k) = true ∧ Box ws A #[.int .i64 0, .int .u64 0] 50 ∧ Box ws (A + 1) #[.int .i64 (n : Int), .int .u64 (Fam.setOf (l.take k) : Int)] 50 ∧ Chg [] w ws)) (fun kv _ => m - (intOf kv).toNat)
  case atStart => exact ⟨0, Nat.zero_le _, rfl, hide ⟨rfl, HB.out⟩⟩
  case round =>
    obtain ⟨k, hk, rfl, hI⟩ := hrel
    have HX : Hid (Fam.setOf (l.take k) < 18446744073709551616) := hide (Fam.setOf_lt (n := 64) fun s hs => by have := (Fam.sets_nat hI.out.1 hs).1; have := Fam.pow_64 h6; omega)
    by_cases hlt : k < m
    · have d5 : decide ((k : Int) < (m : Int)) = true := by simp; omega
      have k0 : (0 : Int) ≤ (k : Int) := by omega
      have hlk : k < l.length := by rw [← HM.out]; exact hlt
      have nl : l ≠ [] := fun e => by rw [e] at hlk; simp at hlk
      obtain ⟨a, cap', e, hcell⟩ := HV.out.open nl
      obtain ⟨rfl, hx1, rfl⟩ : ao = some a ∧ m = l.length ∧ cap = cap' := by simpa using e
      have fx := hcell wr hI.out.2.2.2 k hlk
      have hmem : l.getD k 0 ∈ l := by
        rw [List.getD_eq_getElem?_getD, List.getElem?_eq_getElem hlk]
        exact List.getElem_mem hlk
      have HT := hide (take_snoc hlk)
      have HF0 := hide (fun (h : ¬ (0 ≤ l.getD k 0 ∧ l.getD k 0 < ((2 ^ n : Nat) : Int))) => (show Fam.sets n l = false from by
        cases hs : Fam.sets n l with
        | false => rfl
        | true =>
          have := Fam.sets_iff.1 hs _ hmem
          rw [Int.natCast_pow] at h
          exact absurd this h))
      have q0 := hI.out.2.1.cell 0
      have q1 := hI.out.2.1.cell 1
      have g0 := hI.out.2.1.free 0
      have g1 := hI.out.2.1.free 1
      have l2 := hI.out.2.1.lt
      have p0 := hI.out.2.2.1.cell 0
      have p1 := hI.out.2.2.1.cell 1
      have f1 := hI.out.2.2.1.free 1
      have l1 := hI.out.2.2.1.lt
      have HC := hide hI.out.2.2.2
      have HI := hide hI.out
      simp only [List.getElem?_toArray, List.getElem?_cons_zero, List.getElem?_cons_succ] at p0 p1 q0 q1
      clear hI nl e hx1 hcell hmem hlk
      generalize l.getD k 0 = x at *
      obtain ⟨X, hXe⟩ : ∃ X, X = Fam.setOf (l.take k) := ⟨_, rfl⟩
      rw [← hXe] at HX p1 HI
      have HXe := hide hXe
      clear hXe
      by_cases hx0 : x < 0
      · have e1 : decide (x < 0) = true := by simpa using hx0
        have HF := hide (HF0.out (by omega))
        clear hx0
        go_wp2
        refine bodyPost_ret (v := .tuple #[.agg #[.int .i64 (n : Int), .int .u64 (X : Int)], .bool false]) ?_ rfl ⟨?_, .inr ⟨HF.out, X, HX.out, rfl⟩⟩
        · simp [results, Tryd.results58, go_sem, q0, q1]
        · have hA := HA.out
          have c3 := HC.out
          (repeat' (first | with_reducible exact Chg.refl _ _ | with_reducible assumption | with_reducible apply Chg.drewN | with_reducible apply Chg.drew | with_reducible apply Chg.alloc | (with_reducible refine Chg.setCell ?_ (Or.inr ?_) _) | (with_reducible refine Chg.trans ?_ (by assumption)) | (simp; done) | (simp; omega)))
      · have e1 : decide (x < 0) = false := by simpa using hx0
        obtain ⟨y, rfl⟩ : ∃ y : Nat, x = (y : Int) := ⟨x.toNat, by omega⟩
        obtain ⟨P, hP⟩ : ∃ P, P = 2 ^ n := ⟨_, rfl⟩
        rw [← hP] at ep p64 HF0
        have HP := hide hP
        clear hP
        by_cases hy : y < P
        · have e2 : decide ((y : Int) ≥ (P : Int)) = false := by simp; omega
          have e2' : decide ((P : Int) ≤ (y : Int)) = false := by simp; omega
          have e2n : decide (P ≤ y) = false := by simp; omega
          have y0 : (0 : Int) ≤ (y : Int) := by omega
          have y1 : (y : Int) < 64 := by omega
          have hd : y < 64 := by omega
          have HN : Hid (Fam.setOf (l.take (k + 1)) = X ||| 2 ^ y ∧ Fam.sets n (l.take (k + 1)) = true) := hide (by
            rw [HT.out]
            refine ⟨by rw [setOf_snoc, HXe.out]; rfl, Fam.sets_iff.2 fun s hs => ?_⟩
            rcases List.mem_append.1 hs with h | h
            · exact Fam.sets_iff.1 HI.out.1 s h
            · rw [List.mem_singleton] at h
              subst h
              have : ((P : Nat) : Int) = 2 ^ n := by rw [HP.out, Int.natCast_pow]; rfl
              omega)
          go_wp2
          go_region
          all_goals
            go_wp2
            rw [or_u64 HX.out hd]
            go_roundw
            case rel =>
              have hA := HA.out
              exact ⟨k + 1, by omega, by go_num, hide ⟨HN.out.2, by rw [HN.out.1]; exact ⟨(HI.out.2.1.set' (by simp) _).keep ((Chg.refl [] _).drew) List.not_mem_nil, (HI.out.2.2.1.set 1 _).keep ((Chg.refl [] _).drew) List.not_mem_nil, (HI.out.2.2.2.setCell (.inr (by simp; omega)) _).drew⟩⟩⟩
            case measure => simp [intOf]; omega
        · have e2 : decide ((y : Int) ≥ (P : Int)) = true := by simp; omega
          have e2' : decide ((P : Int) ≤ (y : Int)) = true := by simp; omega
          have e2n : decide (P ≤ y) = true := by simp; omega
          have HF := hide (HF0.out (by omega))
          go_wp2
          refine bodyPost_ret (v := .tuple #[.agg #[.int .i64 (n : Int), .int .u64 (X : Int)], .bool false]) ?_ rfl ⟨?_, .inr ⟨HF.out, X, HX.out, rfl⟩⟩
          · simp [results, Tryd.results58, go_sem, q0, q1]
          · have hA := HA.out
            have c3 := HC.out
            (repeat' (first | with_reducible exact Chg.refl _ _ | with_reducible assumption | with_reducible apply Chg.drewN | with_reducible apply Chg.drew | with_reducible apply Chg.alloc | (with_reducible refine Chg.setCell ?_ (Or.inr ?_) _) | (with_reducible refine Chg.trans ?_ (by assumption)) | (simp; done) | (simp; omega)))
    · have d5 : decide ((k : Int) < (m : Int)) = false := by simp; omega
      have hkm : k = m := by omega
      have HR : Hid (Fam.sets n l = true ∧ Fam.setOf (l.take k) = Fam.setOf l) := hide (by
        have h := hI.out.1
        rw [hkm, HM.out, List.take_length] at h ⊢
        exact ⟨h, rfl⟩)
      have q0 := hI.out.2.1.cell 0
      have q1 := hI.out.2.1.cell 1
      have g0 := hI.out.2.1.free 0
      have g1 := hI.out.2.1.free 1
      have l2 := hI.out.2.1.lt
      have p0 := hI.out.2.2.1.cell 0
      have p1 := hI.out.2.2.1.cell 1
      have l1 := hI.out.2.2.1.lt
      have HC := hide hI.out.2.2.2
      simp only [List.getElem?_toArray, List.getElem?_cons_zero, List.getElem?_cons_succ] at p0 p1 q0 q1
      clear hI hkm
      generalize Fam.setOf (l.take k) = X at *
      go_wp2
      refine bodyPost_ret (v := .tuple #[.agg #[.int .i64 (n : Int), .int .u64 (X : Int)], .bool true]) ?_ rfl ⟨?_, .inl ⟨HR.out.1, by rw [← HR.out.2]; rfl⟩⟩
      · simp [results, Tryd.results58, go_sem, q0, q1]
      · have hA := HA.out
        have c3 := HC.out
        (repeat' (first | with_reducible exact Chg.refl _ _ | with_reducible assumption | with_reducible apply Chg.drewN | with_reducible apply Chg.drew | with_reducible apply Chg.alloc | (with_reducible refine Chg.setCell ?_ (Or.inr ?_) _) | (with_reducible refine Chg.trans ?_ (by assumption)) | (simp; done) | (simp; omega)))
end Go.Proofs.YtpplihpfjniacaaDoor
