/- Walks: families: Ask. -/
import Derived.Test.YtpplihpfjniacaaDoorEv7c
import Derived.Test.YtpplihpfjniacaaDoorEv9
namespace Go.Proofs.YtpplihpfjniacaaDoor
open Go.RowKit Go.Maps

def askN (n : Int) (l : List Int) : Nat := E.need n.toNat (fun s => (Fam.setOf l).testBit s) 0 0
def askV (n : Int) (l : List Int) : Value := if okR n l = true then .tuple #[.int .i64 (askN n l : Int), .int .i64 0] else .tuple #[.int .i64 0, .int .i64 2]
set_option maxRecDepth 100000 in
set_option maxHeartbeats 1000000 in
theorem Ask_any (n : Int) (v : Value) (l : List Int) (w : World) (hv : See w v l) (hT : Tz w) :
    Calls Tryd.prog 6 #[.int .i64 n, v] w (Ret (askV n l) w) := by
  have HR := hide (read_any n v l w hv hT)
  unfold ReadOut famI at HR
  cases hk : okR n l with
  | false =>
    have E : Hid (askV n l = .tuple #[.int .i64 0, .int .i64 2]) := hide (by unfold askV; rw [hk]; rfl)
    rw [hk] at HR
    clear hv hT hk
    go_enter Tryd.func6, Tryd.ntmps6
    go_wp2_with fail
    refine HR.out.mono ?_
    rintro e w1 ⟨hw, ⟨h, _⟩ | ⟨_, m, X, rfl⟩⟩
    · cases h
    have HW := hide hw
    clear hw
    go_wp2
    go_ret2
    exact ⟨by rw [E.out]; rfl, by have := HW.out; (repeat' (first | with_reducible exact Chg.refl _ _ | with_reducible assumption | with_reducible apply Chg.drewN | with_reducible apply Chg.drew | with_reducible apply Chg.alloc | (with_reducible refine Chg.setCell ?_ (Or.inr ?_) _) | (with_reducible refine Chg.trans ?_ (by assumption)) | (simp; done) | (simp; omega)))⟩
  | true =>
    have hb : 1 ≤ n ∧ n ≤ 6 ∧ l.length ≤ 64 := by
      unfold okR at hk
      rw [Bool.and_eq_true] at hk
      exact of_decide_eq_true hk.1
    obtain ⟨m, rfl⟩ : ∃ m : Nat, n = (m : Int) := ⟨n.toNat, by omega⟩
    have hs : Fam.sets m l = true := by
      unfold okR Fam.readB at hk
      rw [Bool.and_eq_true, Bool.and_eq_true, Bool.and_eq_true] at hk
      exact hk.2.1.1
    have hX : Fam.setOf l < 18446744073709551616 := Fam.setOf_lt (n := 64) fun s h => by have := (Fam.sets_nat hs h).1; have := Fam.pow_64 (n := m) (by omega); omega
    have E : Hid (askV (m : Int) l = .tuple #[.int .i64 (E.need m (fun s => (Fam.setOf l).testBit s) 0 0 : Int), .int .i64 0]) := hide (by unfold askV; rw [hk]; rfl)
    rw [hk, Int.toNat_natCast] at HR
    generalize Fam.setOf l = X at *
    have HAs := hide fun ws => asker_any m X ws
    have HAk := hide fun w2 Ba bk bb (n1 : Ba ≠ bk) (n2 : Ba ≠ bb) (n3 : bk ≠ bb) (hB : w2.heap.size ≤ Ba ∧ w2.heap.size ≤ bk ∧ w2.heap.size ≤ bb) => ask_all w2 Ba bk bb m X hX (by omega) n1 n2 n3 hB (2 ^ m + 1) 0 0
    have hp := hide (Nat.two_pow_pos m)
    unfold famV viewV at *
    clear hv hT hk hs hX
    go_enter Tryd.func6, Tryd.ntmps6
    go_wp2_with fail
    refine HR.out.mono ?_
    rintro e w1 ⟨hw, he⟩
    obtain rfl : e = .returned (.tuple #[.agg #[.int .i64 (m : Int), .int .u64 (X : Int)], .bool true]) := by
      rcases he with ⟨_, h⟩ | ⟨h, _⟩
      · exact h
      · cases h
    clear he
    have HW := hide (hw.alloc (.cells #[.int .i64 (m : Int), .int .u64 (X : Int)] 50))
    have bx := Box.new w1 #[.int .i64 (m : Int), .int .u64 (X : Int)] 50
    clear hw
    have b0 := bx.cell 0
    have b1 := bx.cell 1
    have lb := bx.lt
    simp only [List.getElem?_toArray, List.getElem?_cons_zero, List.getElem?_cons_succ] at b0 b1
    clear bx
    go_wp2_with fail
    refine (HAs.out _).mono ?_
    rintro e w2 ⟨Ba, bk, bb, rfl, hA, h1, h2, h3, n1, n2, n3⟩
    have HA := hide hA
    have HB := hide (And.intro h1 (And.intro h2 h3))
    have HN := hide (And.intro n1 (And.intro n2 n3))
    clear hA h1 h2 h3 n1 n2 n3
    go_wp2_with fail
    refine (HAk.out _ Ba bk bb HN.out.1 HN.out.2.1 HN.out.2.2 HB.out w2 _ hp.out hp.out (by rw [Nat.sub_zero]; exact Nat.lt_succ_self _) HA.out (fun _ _ _ _ _ h => by cases h)).mono ?_
    rintro e w3 ⟨rfl, fk, hA3, _⟩
    have HW3 := hide (HW.out.trans hA3.2.2.2)
    clear hA3
    go_wp2
    go_ret2
    exact ⟨by rw [E.out]; rfl, HW3.out⟩
end Go.Proofs.YtpplihpfjniacaaDoor
