/- Walks: games: all codes, what is left without marks. -/
import Derived.Test.YtpplihpfjniacaaGm1
namespace Go.Proofs.Ytpplihpfjniacaa
open Go.RowKit

/-- The numbers below one. -/
def upto (n : Nat) : List Int := (List.range n).map fun (k : Nat) => (k : Int)
theorem upto_len (n : Nat) : (upto n).length = n := by unfold upto; rw [List.length_map, List.length_range]
theorem upto_succ (n : Nat) : upto n ++ [(n : Int)] = upto (n + 1) := by
  unfold upto
  rw [List.range_succ, List.map_append]
  rfl
set_option maxRecDepth 100000 in
set_option maxHeartbeats 1000000 in
theorem allG_any (p : Nat) (w : World) (hp : 1 ≤ p ∧ p ≤ 4) :
    Calls Try.prog 42 #[gameV p] w fun e w' => ∃ v, e = .returned v ∧ Ints w' v (upto (2 ^ p)) ∧ Chg [] w w' := by
  obtain ⟨i0, hi, hz0, hz1, hz2⟩ := info_parts infoInt
  unfold gameV
  have hp16 : (2 : Nat) ^ p ≤ 2 ^ 4 := Nat.pow_le_pow_right (by decide) hp.2
  generalize 2 ^ p = P at *
  clear hp
  go_enter Try.func42, Try.ntmps42
  go_wp2
  have hch : Chg [] w (w.alloc (.cells #[.int .i64 (p : Int), .int .i64 2, .int .i64 (P : Int)] 54)) := (Chg.refl _ _).alloc _
  have HC0 := hide hch
  generalize w.alloc (.cells #[.int .i64 (p : Int), .int .i64 2, .int .i64 (P : Int)] 54) = W0 at *
  clear hch
  go_loopw [3, 7] (fun v iv wr => ∃ k : Nat, k ≤ P ∧ iv = .int .i64 (k : Int) ∧ Hid (wr.ownsRow w.heap.size 3 1 v k ((upto k).map (Value.int .i64)) ∧ Chg [] w wr)) (fun _ iv _ => P - (intOf iv).toNat)
  case atStart => exact ⟨0, Nat.zero_le _, rfl, hide ⟨World.ownsRow_nil _ _ _ _, HC0.out⟩⟩
  case round =>
    obtain ⟨k, hk, rfl, hI⟩ := hrel
    by_cases hlt : k < P
    · have d1 : decide ((k : Int) < (P : Int)) = true := by simp; omega
      have hown := hI.out.1
      have hch1 := hI.out.2
      have hsz := hch1.size
      go_wp2_with (at_builtin; refine wpList_append_own _ rfl _ _ 23 rfl w.heap.size 3 i0 (.int .i64 0) 1 8 Try.underlying23 hi hz0 hz1 hz2 rfl (by decide) _ _ _ rfl (hown.alloc _) ⟨wr.heap.size, 0, none⟩ 1 1 [.int .i64 (k : Int)] rfl rfl (by intro j u hj; match j, hj with | 0, hj => simp at hj; subst hj; simp [Addr.add]) (by intro u hu; simp at hu; subst hu; rfl) (by unfold maxLen; omega) (by omega) (by simp; omega) ?_; intro v1 w3 hown1 hgrow1 _)
      go_roundw
      case rel => exact ⟨k + 1, by omega, by go_num, hide ⟨by rw [← upto_succ, List.map_append]; exact hown1, (hch1.alloc _).grew (hown.alloc _) (Nat.le_refl _) hgrow1⟩⟩
      case measure => simp [intOf]; omega
    · have d1 : decide ((k : Int) < (P : Int)) = false := by simp; omega
      have e : k = P := by omega
      subst e
      go_wp2
      go_ret
      refine ⟨_, rfl, ?_, hI.out.2⟩
      have h := row_low (base' := 0) hI.out.1 (Nat.zero_le _)
      have e2 := upto_len k
      unfold Ints
      rw [e2]
      exact h
set_option maxRecDepth 100000 in
set_option maxHeartbeats 1000000 in
theorem leftG_any (p : Nat) (w : World) (hp : 1 ≤ p ∧ p ≤ 4) :
    Calls Try.prog 23 #[gameV p, .slice none 0 0] w fun e w' => ∃ v, e = .returned (.tuple #[v, .bool true]) ∧ Ints w' v (upto (2 ^ p)) ∧ Chg [] w w' := by
  have HA := hide fun ws => allG_any p ws hp
  unfold gameV at HA ⊢
  generalize 2 ^ p = P at *
  clear hp
  have b1 := Box.new w #[.int .i64 (p : Int), .int .i64 2, .int .i64 (P : Int)] 54
  have c0 := b1.cell 0
  have c1 := b1.cell 1
  have c2 := b1.cell 2
  have bl := b1.lt
  simp only [List.getElem?_toArray, List.getElem?_cons_zero, List.getElem?_cons_succ] at c0 c1 c2
  have C1 := hide ((Chg.refl [] w).alloc (.cells #[.int .i64 (p : Int), .int .i64 2, .int .i64 (P : Int)] 54))
  clear b1
  go_enter Try.func23, Try.ntmps23
  go_wp2_with fail
  refine (HA.out _).mono ?_
  rintro e w2 ⟨v, rfl, hv, hw⟩
  have HH := hide (And.intro hv (C1.out.trans hw))
  clear hv hw c0 c1 c2 bl
  go_wp2
  refine loopW_start (loopW_round ?_)
  go_wp2
  go_ret2
  exact ⟨v, by rfl, HH.out⟩
set_option maxRecDepth 100000 in
set_option maxHeartbeats 1000000 in
theorem LeftG_any (p : Nat) (w : World) (hp : 1 ≤ p ∧ p ≤ 4) :
    Calls Try.prog 9 #[.int .i64 (p : Int), .int .i64 2, .slice none 0 0] w fun e w' => ∃ v, e = .returned (.tuple #[v, .int .i64 0]) ∧ Ints w' v (upto (2 ^ p)) ∧ Chg [] w w' := by
  have HR := hide (readG_any p (.slice none 0 0) [] w hp (.inl ⟨rfl, none, 0, rfl⟩) (by simp) (fun _ h => by cases h))
  have HL := hide fun ws => leftG_any p ws hp
  unfold gameV at HR HL
  generalize 2 ^ p = P at *
  clear hp
  go_enter Try.func9, Try.ntmps9
  go_wp2_with fail
  refine HR.out.mono ?_
  rintro e w2 ⟨rfl, hw⟩
  have C2 := hide hw
  have b2 := Box.new w2 #[.int .i64 (p : Int), .int .i64 2, .int .i64 (P : Int)] 54
  have c0 := b2.cell 0
  have c1 := b2.cell 1
  have c2 := b2.cell 2
  have bl := b2.lt
  simp only [List.getElem?_toArray, List.getElem?_cons_zero, List.getElem?_cons_succ] at c0 c1 c2
  clear hw b2
  go_wp2_with fail
  refine (HL.out _).mono ?_
  rintro e w3 ⟨v, rfl, hv, hw⟩
  have HH := hide (And.intro hv ((C2.out.alloc (.cells #[.int .i64 (p : Int), .int .i64 2, .int .i64 (P : Int)] 54)).trans hw))
  clear hv hw c0 c1 c2 bl
  go_wp2
  go_ret2
  exact ⟨v, by rfl, HH.out⟩
end Go.Proofs.Ytpplihpfjniacaa
