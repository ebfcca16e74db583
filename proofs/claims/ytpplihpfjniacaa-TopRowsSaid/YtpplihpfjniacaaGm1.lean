/- Walks: games: read. -/
import Derived.Test.YtpplihpfjniacaaITab
import Derived.Deep.RegionHeld3
namespace Go.Proofs.Ytpplihpfjniacaa
open Go.RowKit

/-- A game of two colours. -/
def gameV (p : Nat) : Value := .agg #[.int .i64 (p : Int), .int .i64 2, .int .i64 ((2 ^ p : Nat) : Int)]
set_option maxRecDepth 100000 in
theorem read1_any (B p P : Nat) (x : Int) (w : World) (hb : Box w B #[.int .i64 (p : Int), .int .i64 2, .int .i64 (P : Int)] 54) (hx : 0 ≤ x ∧ x < (P : Int)) :
    Calls Try.prog 41 #[.int .i64 x, .pointer (some ⟨B, 0, none⟩)] w (Ret (.bool false) w) := by
  have c2 := hb.cell 2
  have lb := hb.lt
  simp only [List.getElem?_toArray, List.getElem?_cons_zero, List.getElem?_cons_succ] at c2
  have d1 : decide (x < 0) = false := by simp; omega
  have d2 : decide (x ≥ (P : Int)) = false := by simp; omega
  have d2' : decide ((P : Int) ≤ x) = false := by simp; omega
  go_enter Try.func41, Try.ntmps41
  go_wp2
  go_ret
  exact ⟨rfl, Chg.refl _ _⟩
set_option maxRecDepth 100000 in
set_option maxHeartbeats 1000000 in
theorem index_no (B p P : Nat) (v : Value) (l : List Int) (w : World) (hb : Box w B #[.int .i64 (p : Int), .int .i64 2, .int .i64 (P : Int)] 54) (hv : See w v l) (hl : l.length ≤ 100) (hx : ∀ x ∈ l, 0 ≤ x ∧ x < (P : Int)) :
    Calls Try.prog 60 #[v, .func (.func 41) #[] #[.pointer (some ⟨B, 0, none⟩)]] w (Ret (.int .i64 (-1)) w) := by
  have HF := hide fun x ws (hw : Chg [] w ws) (h : 0 ≤ x ∧ x < (P : Int)) => read1_any B p P x ws (hb.keep hw List.not_mem_nil) h
  have HX := hide hx
  have HV := hide hv
  obtain ⟨ao, cap, rfl⟩ := hv.shape
  clear hb hv hx
  generalize hn : l.length = n at *
  have HN := hide hn
  clear hn
  go_enter Try.func60, Try.ntmps60
  go_wp2
  go_loopw [8] (fun i wr => ∃ j : Nat, j ≤ n ∧ i = .int .i64 (j : Int) ∧ Hid (Chg [] w wr)) (fun i _ => (n - (intOf i).toNat))
  case atStart => exact ⟨0, Nat.zero_le _, rfl, hide (Chg.refl _ _)⟩
  case round =>
    obtain ⟨j, hj, rfl, hI⟩ := hrel
    by_cases hlt : j < n
    · have d1 : decide ((j : Int) < (n : Int)) = true := by simpa using hlt
      have j0 : (0 : Int) ≤ (j : Int) := by omega
      have nx : l ≠ [] := fun h => by have := HN.out; rw [h] at this; simp at this; omega
      obtain ⟨a, cap', e, hc⟩ := HV.out.open nx
      cases e
      have fx := hc wr hI.out j (by rw [HN.out]; exact hlt)
      have hm := HX.out _ (getD_mem (by rw [HN.out]; exact hlt))
      generalize l.getD j 0 = x at *
      have HFx := hide fun ws (hw : Chg [] w ws) => HF.out x ws hw hm
      clear nx hc hm
      go_wp2_with fail
      refine (HFx.out _ hI.out).mono ?_
      rintro e w1 ⟨rfl, hw1⟩
      go_wp2
      go_roundw
      case rel => exact ⟨j + 1, by omega, by go_num, hide (hI.out.trans hw1)⟩
      case measure => simp [intOf]; omega
    · have d1 : decide ((j : Int) < (n : Int)) = false := by simpa using hlt
      go_wp2
      go_ret
      exact ⟨rfl, hI.out⟩
set_option maxRecDepth 100000 in
theorem contains_no (B p P : Nat) (v : Value) (l : List Int) (w : World) (hb : Box w B #[.int .i64 (p : Int), .int .i64 2, .int .i64 (P : Int)] 54) (hv : See w v l) (hl : l.length ≤ 100) (hx : ∀ x ∈ l, 0 ≤ x ∧ x < (P : Int)) :
    Calls Try.prog 40 #[v, .func (.func 41) #[] #[.pointer (some ⟨B, 0, none⟩)]] w (Ret (.bool false) w) := by
  have HI := hide (index_no B p P v l w hb hv hl hx)
  obtain ⟨ao, cap, rfl⟩ := hv.shape
  clear hb hv hx hl
  generalize l.length = n at *
  go_enter Try.func40, Try.ntmps40
  go_wp2_with fail
  refine HI.out.mono ?_
  rintro e w1 ⟨rfl, hw⟩
  go_wp2
  go_ret
  exact ⟨rfl, hw⟩
set_option maxRecDepth 100000 in
set_option maxHeartbeats 4000000 in
theorem readG_any (p : Nat) (v : Value) (l : List Int) (w : World) (hp : 1 ≤ p ∧ p ≤ 4) (hv : See w v l) (hl : l.length ≤ 100) (hx : ∀ x ∈ l, 0 ≤ x ∧ x < ((2 ^ p : Nat) : Int)) :
    Calls Try.prog 22 #[.int .i64 (p : Int), .int .i64 2, v] w (Ret (.tuple #[gameV p, .bool true]) w) := by
  have HCo := hide fun B ws (hw : Chg [] w ws) (hb : Box ws B #[.int .i64 (p : Int), .int .i64 2, .int .i64 ((2 ^ p : Nat) : Int)] 54) => contains_no B p (2 ^ p) v l ws hb (hv.keep hw) hl hx
  obtain ⟨ao, cap, rfl⟩ := hv.shape
  unfold gameV
  have hp16 : (2 : Nat) ^ p ≤ 2 ^ 4 := Nat.pow_le_pow_right (by decide) hp.2
  have q1 : decide ((p : Int) < 1) = false := by simp; omega
  have q2 : decide ((p : Int) > 4) = false := by simp; omega
  have q2' : decide ((4 : Int) < (p : Int)) = false := by simp; omega
  have q2n : decide (4 < p) = false := by simp; omega
  have HP := hide (fun i (hi : i ≤ p) => (Nat.le_trans (Nat.pow_le_pow_right (by decide) (show i ≤ 4 by omega)) (by decide) : (2 : Nat) ^ i ≤ 16))
  have HPs : Hid (∀ i, (2 : Nat) ^ (i + 1) = 2 ^ i * 2) := hide fun i => Nat.pow_succ 2 i
  have HP0 : Hid ((2 : Nat) ^ 0 = 1) := hide rfl
  obtain ⟨pw, hpw⟩ : ∃ pw : Nat → Nat, pw = fun i => 2 ^ i := ⟨_, rfl⟩
  have e : ∀ i, 2 ^ i = pw i := fun i => by rw [hpw]
  simp only [e] at HCo HP HPs HP0 ⊢
  generalize l.length = n at *
  clear hv hx hp16 e hpw hl
  go_enter Try.func22, Try.ntmps22
  go_wp2
  have b1 := (Box.new w #[.int .i64 0, .int .i64 0, .int .i64 0] 54).old (.cells #[.int .i64 (p : Int), .int .i64 2, .int .i64 1] 54)
  have b2 := Box.at (w.alloc (.cells #[.int .i64 0, .int .i64 0, .int .i64 0] 54)) #[.int .i64 (p : Int), .int .i64 2, .int .i64 1] 54 (n := w.heap.size + 1) (by simp)
  have c2 := ((Chg.refl [] w).alloc (.cells #[.int .i64 0, .int .i64 0, .int .i64 0] 54)).alloc (.cells #[.int .i64 (p : Int), .int .i64 2, .int .i64 1] 54)
  generalize (w.alloc (.cells #[.int .i64 0, .int .i64 0, .int .i64 0] 54)).alloc (.cells #[.int .i64 (p : Int), .int .i64 2, .int .i64 1] 54) = W at b1 b2 c2 ⊢
  obtain ⟨A, hA⟩ : ∃ A, A = w.heap.size := ⟨_, rfl⟩
  have HA : Hid (w.heap.size ≤ A) := hide (Nat.le_of_eq hA.symm)
  rw [← hA] at b1 b2 ⊢
  have HB : Hid (Box W A #[.int .i64 0, .int .i64 0, .int .i64 0] 54 ∧ Box W (A + 1) #[.int .i64 (p : Int), .int .i64 2, .int .i64 1] 54 ∧ Chg [] w W) := hide ⟨b1, b2, c2⟩
  clear b1 b2 c2 hA
  go_loopw [28] (fun kv ws => ∃ k : Nat, k ≤ p ∧ kv = .int .i64 (k : Int) ∧ Hid (Box ws A #[.int .i64 0, .int .i64 0, .int .i64 0] 54 ∧ Box ws (A + 1) #[.int .i64 (p : Int), .int .i64 2, .int .i64 (pw k : Int)] 54 ∧ Chg [] w ws)) (fun kv _ => p - (intOf kv).toNat)
  case atStart => exact ⟨0, Nat.zero_le _, rfl, hide ⟨HB.out.1, by rw [HP0.out]; exact HB.out.2.1, HB.out.2.2⟩⟩
  case round =>
    obtain ⟨k, hk, rfl, hI⟩ := hrel
    have g0 := hI.out.2.1.cell 0
    have g1 := hI.out.2.1.cell 1
    have g2 := hI.out.2.1.cell 2
    have f2 := hI.out.2.1.free 2
    have l2 := hI.out.2.1.lt
    have hpk := HP.out k hk
    have HPk := hide (HPs.out k)
    simp only [List.getElem?_toArray, List.getElem?_cons_zero, List.getElem?_cons_succ] at g0 g1 g2
    by_cases hlt : k < p
    · have d5 : decide ((k : Int) < (p : Int)) = true := by simp; omega
      obtain ⟨z, hz⟩ : ∃ z, z = pw k := ⟨_, rfl⟩
      rw [← hz] at g2 hpk HPk hI
      have em : IntKind.i64.wrap ((z : Int) * 2) = ((z * 2 : Nat) : Int) := by rw [IntKind.wrap_i64]; omega
      clear hz
      go_wp2
      go_roundw
      case rel =>
        have hA := HA.out
        refine ⟨k + 1, by omega, by go_num, hide ⟨hI.out.1.set' (by simp) _, ?_, hI.out.2.2.setCell (.inr (by show w.heap.size ≤ A + 1; omega)) _⟩⟩
        rw [HPk.out, Int.natCast_mul]
        exact hI.out.2.1.set 2 _
      case measure => simp [intOf]; omega
    · have d5 : decide ((k : Int) < (p : Int)) = false := by simp; omega
      have hkp : k = p := by omega
      rw [hkp] at g2 hI hpk
      obtain ⟨P, hP⟩ : ∃ P, P = pw p := ⟨_, rfl⟩
      rw [← hP] at g2 hpk hI HCo
      have HPp := hide hP
      have d6 : decide ((P : Int) ≤ 256) = true := by simp; omega
      have d6n : decide (P ≤ 256) = true := by simp; omega
      have a0 := hI.out.1.cell 0
      have a1 := hI.out.1.cell 1
      have a2 := hI.out.1.cell 2
      have aa := hI.out.1.free 0
      have ab := hI.out.1.free 1
      have ac := hI.out.1.free 2
      have al := hI.out.1.lt
      simp only [List.getElem?_toArray, List.getElem?_cons_zero, List.getElem?_cons_succ] at a0 a1 a2
      have HCl := hide fun ws (hw : Chg [] wr ws) => HCo.out (A + 1) ws (hI.out.2.2.trans hw) (hI.out.2.1.keep hw List.not_mem_nil)
      have HI := hide hI.out
      have n1 : ¬ A + 1 = A := by omega
      have n2 : ¬ A = A + 1 := by omega
      clear hI hP hkp HPk
      go_wp2
      go_region_with (go_at_call 40; (with_reducible refine Calls.mono (HCl.out _ ?hcA) ?_); (case hcA => ((repeat' (first | with_reducible exact Chg.refl _ _ | with_reducible assumption | with_reducible apply Chg.drewN | with_reducible apply Chg.drew | with_reducible apply Chg.alloc | (with_reducible refine Chg.setCell ?_ (Or.inr ?_) _) | (with_reducible refine Chg.trans ?_ (by assumption)) | (simp; done) | (simp; omega))))); rintro e w2 ⟨rfl, hw2⟩; have kW : Chg [] wr w2 := (by (repeat' (first | with_reducible exact Chg.refl _ _ | with_reducible assumption | with_reducible apply Chg.drewN | with_reducible apply Chg.drew | with_reducible apply Chg.alloc | (with_reducible refine Chg.setCell ?_ (Or.inr ?_) _) | (with_reducible refine Chg.trans ?_ (by assumption)) | (simp; done) | (simp; omega)))); have qa := HI.out.1.keep kW List.not_mem_nil; have qb := HI.out.2.1.keep kW List.not_mem_nil; have a0' := qa.cell 0; have a1' := qa.cell 1; have a2' := qa.cell 2; have aa' := qa.free 0; have ab' := qa.free 1; have ac' := qa.free 2; have al' := qa.lt; have b0' := qb.cell 0; have b1' := qb.cell 1; have b2' := qb.cell 2; have bl' := qb.lt; simp only [List.getElem?_toArray, List.getElem?_cons_zero, List.getElem?_cons_succ] at a0' a1' a2' b0' b1' b2'; have HKW := hide kW; clear qa qb kW)
      all_goals
        go_wp2
        refine bodyPost_ret (v := .tuple #[.agg #[.int .i64 (p : Int), .int .i64 2, .int .i64 (P : Int)], .bool true]) ?_ rfl ⟨by rw [HPp.out], ?_⟩
        · simp [results, Try.results22, go_sem, a0', a1', a2']
        · have hA := HA.out
          have c3 := HI.out.2.2.trans HKW.out
          (repeat' (first | with_reducible exact Chg.refl _ _ | with_reducible assumption | with_reducible apply Chg.drewN | with_reducible apply Chg.drew | with_reducible apply Chg.alloc | (with_reducible refine Chg.setCell ?_ (Or.inr ?_) _) | (with_reducible refine Chg.trans ?_ (by assumption)) | (simp; done) | (simp; omega)))
end Go.Proofs.Ytpplihpfjniacaa
