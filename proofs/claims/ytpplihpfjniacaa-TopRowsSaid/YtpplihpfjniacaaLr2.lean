/- Walks: classes: read. -/
import Derived.Test.YtpplihpfjniacaaOnes
namespace Go.Proofs.Ytpplihpfjniacaa
open Go.RowKit Go.Maps

set_option maxRecDepth 100000 in
set_option maxHeartbeats 2000000 in
theorem readC_good (p : Nat) (v : Value) (l : List Int) (w : World) (hv : See w v l) (hl : okC p l) :
    Calls Try.prog 15 #[.int .i64 (p : Int), v] w fun e w' => ∃ Bs bd ao cap, e = .returned (.tuple #[.pointer (some ⟨Bs, 0, none⟩), .bool true]) ∧ School w Bs bd p ao cap l w' ∧ IM.KnownM w' bd (fun _ => none) := by
  have hmm := @run_makeMap Try.prog
  obtain ⟨p1, p5, l1, l16, hb, hso⟩ := id hl
  have nl : l ≠ [] := fun e => by rw [e] at l1; simp at l1
  have HV := hide hv
  obtain ⟨a, cap, rfl, hcell⟩ := hv.open nl
  have HCe := hide hcell
  have g0 := (hl.at (i := 0) (by omega)).1
  have g1 := hl.at (i := l.length - 1) (by omega)
  have HSo := hide (fun i (hi : i + 1 < l.length) => (by
    have := List.pairwise_iff_getElem.1 hso i (i + 1) (by omega) hi (by omega)
    have h1 := (hl.at (i := i) (by omega)).1
    have h2 := (hl.at hi).1
    rw [List.getD_eq_getElem?_getD, List.getElem?_eq_getElem (show i < l.length by omega), Option.getD_some] at h1
    rw [List.getD_eq_getElem?_getD, List.getElem?_eq_getElem hi, Option.getD_some] at h2
    omega : cf l i < cf l (i + 1)))
  have HAt := hide fun i (hi : i < l.length) => hl.at hi
  have hw0 := hcell w (Chg.refl _ _) 0 (by omega)
  have hw1 := hcell w (Chg.refl _ _) (l.length - 1) (by omega)
  rw [g0, add_nought] at hw0
  rw [g1.1] at hw1
  obtain ⟨m, hm⟩ : ∃ m, m = l.length := ⟨_, rfl⟩
  have HM := hide hm
  rw [← hm] at HV HCe HSo HAt l1 l16 hw1 ⊢
  have g1 := g1.2
  rw [← hm] at g1
  clear hv hl hb hso hcell nl hm g0
  generalize hc0 : cf l 0 = c0 at *
  generalize hcm : cf l (m - 1) = cm at *
  clear hc0 hcm
  have pp : (2 : Nat) ^ p ≤ 2 ^ 5 := Nat.pow_le_pow_right (by decide) p5
  have ew : wrap64 (2 ^ p) = ((2 ^ p : Nat) : Int) := by
    have e : ((2 : Int) ^ p) = ((2 ^ p : Nat) : Int) := by rw [Int.natCast_pow]; rfl
    rw [e]
    generalize 2 ^ p = q at pp
    unfold wrap64; omega
  obtain ⟨P, hP⟩ : ∃ P, P = 2 ^ p := ⟨_, rfl⟩
  rw [← hP] at ew pp g1
  clear hP
  have q1 : decide ((p : Int) < 1) = false := by simp; omega
  have q2 : decide ((p : Int) > 5) = false := by simp; omega
  have q2' : decide ((5 : Int) < (p : Int)) = false := by simp; omega
  have q2n : decide (5 < p) = false := by simp; omega
  have q3 : decide ((m : Int) < 1) = false := by simp; omega
  have q4 : decide ((m : Int) > 16) = false := by simp; omega
  have q4' : decide ((16 : Int) < (m : Int)) = false := by simp; omega
  have q4n : decide (16 < m) = false := by simp; omega
  have q5 : decide ((c0 : Int) < 0) = false := by simp
  have q6 : decide ((cm : Int) ≥ (P : Int)) = false := by simpa using g1
  have q6' : decide ((P : Int) ≤ (cm : Int)) = false := by simp; omega
  have q6n : decide (P ≤ cm) = false := by simp; omega
  have em : (m : Int) - 1 = ((m - 1 : Nat) : Int) := by omega
  have m0 : (0 : Int) < (m : Int) := by omega
  have m1 : (0 : Int) ≤ ((m - 1 : Nat) : Int) := by omega
  have m2 : ((m - 1 : Nat) : Int) < (m : Int) := by omega
  have n0 : (0 : Int) ≤ (p : Int) := by omega
  have n1 : (p : Int) < 64 := by omega
  generalize m - 1 = mp at *
  go_enter Try.func15, Try.ntmps15
  go_wp2
  go_big_quiet (fail)
  have C1 : Hid (Chg [] w (w.drewN nq)) := hide ((Chg.refl [] w).drewN _)
  generalize w.drewN nq = W1 at C1 ⊢
  clear hw0 hw1 q1 q2 q2' q2n q3 q4 q4' q4n q5 q6 q6' q6n em m1 m2 ew pp g1
  go_wp2
  go_loopw [6] (fun kv ws => ∃ i : Nat, 1 ≤ i ∧ i ≤ m ∧ kv = .int .i64 (i : Int) ∧ Hid (Chg [] w ws)) (fun kv _ => m - (intOf kv).toNat)
  case atStart => exact ⟨1, Nat.le_refl _, l1, rfl, C1⟩
  case round =>
    obtain ⟨i, hi1, hi, rfl, hI⟩ := hrel
    by_cases hlt : i < m
    · have d1 : decide ((i : Int) < (m : Int)) = true := by simp; omega
      have ei : (i : Int) - 1 = ((i - 1 : Nat) : Int) := by omega
      have i0 : (0 : Int) ≤ (i : Int) := by omega
      have i1 : (0 : Int) ≤ ((i - 1 : Nat) : Int) := by omega
      have i2 : ((i - 1 : Nat) : Int) < (m : Int) := by omega
      have fx := HCe.out wr hI.out i hlt
      have fy := HCe.out wr hI.out (i - 1) (by omega)
      rw [(HAt.out i hlt).1] at fx
      rw [(HAt.out (i - 1) (by omega)).1] at fy
      have hs := HSo.out (i - 1) (by omega)
      rw [show i - 1 + 1 = i by omega] at hs
      generalize i - 1 = j at *
      generalize cf l i = ci at *
      generalize cf l j = cj at *
      have d2 : decide ((cj : Int) ≥ (ci : Int)) = false := by simp; omega
      have d2' : decide ((ci : Int) ≤ (cj : Int)) = false := by simp; omega
      have d2n : decide (ci ≤ cj) = false := by simp; omega
      go_wp2
      go_big_quiet (fail)
      go_wp2
      go_roundw
      case rel => exact ⟨i + 1, by omega, by omega, by go_num, hide (hI.out.trans ((Chg.refl [] wr).drewN _))⟩
      case measure => simp [intOf]; omega
    · have d1 : decide ((i : Int) < (m : Int)) = false := by simp; omega
      go_wp2
      have hk := (IM.KnownM.new wr).keep ((Chg.refl [] (wr.alloc (.map #[] 0))).alloc (.cells #[.int .i64 (p : Int), .slice (some a) m cap, .map (some wr.heap.size)] 73)) List.not_mem_nil
      have bx := Box.at (wr.alloc (.map #[] 0)) #[.int .i64 (p : Int), .slice (some a) m cap, .map (some wr.heap.size)] 73 (n := wr.heap.size + 1) (by simp)
      have hch := (hI.out.alloc (.map #[] 0)).alloc (.cells #[.int .i64 (p : Int), .slice (some a) m cap, .map (some wr.heap.size)] 73)
      have hsz := hI.out.size
      go_ret2
      refine ⟨wr.heap.size + 1, wr.heap.size, some a, cap, rfl, ⟨by rw [← HM.out]; exact bx, by rw [← HM.out]; exact HV.out, by omega, by omega, by omega, ?_, hch⟩, hk⟩
      have := hk.lt
      exact this
end Go.Proofs.Ytpplihpfjniacaa
