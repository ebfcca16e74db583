/- Walks: families: then, list. -/
import Derived.Test.YtpplihpfjniacaaDoorEv2
namespace Go.Proofs.YtpplihpfjniacaaDoor
open Go.RowKit

theorem pow16 {x : Nat} (hx : x < 16) : (2 : Nat) ^ x < 65536 := Nat.pow_lt_pow_right (a := 2) (by decide) hx
theorem or_shl {a x : Nat} (ha : a < 65536) (hx : x < 16) : bits BinOp.or IntKind.i64 (a : Int) (wrap64 (2 ^ x)) = ((a ||| 2 ^ x : Nat) : Int) := by
  have h1 := pow16 hx
  have e1 : wrap64 (2 ^ x) = ((2 ^ x : Nat) : Int) := by
    have e : ((2 : Int) ^ x) = ((2 ^ x : Nat) : Int) := by rw [Int.natCast_pow]; rfl
    rw [e]
    generalize 2 ^ x = m at h1
    unfold wrap64; omega
  rw [e1, or_nat _ _ (by omega) (by omega)]
def viewV (a i : Nat) : Value := .agg #[.int .i64 (a : Int), .int .i64 (i : Int)]
set_option maxRecDepth 100000 in
set_option maxHeartbeats 1000000 in
theorem then_any (a i x : Nat) (b : Bool) (w : World) (ha : a < 65536) (hi : i < 65536) (hx : x < 16) :
    Calls Tryd.prog 62 #[viewV a i, .int .i64 (x : Int), .bool b] w (Ret (viewV (a ||| 2 ^ x) (if b then i ||| 2 ^ x else i)) w) := by
  unfold viewV
  have x0 : (0 : Int) ≤ (x : Int) := by omega
  have x1 : (x : Int) < 64 := by omega
  have b1 := Box.new w #[.int .i64 (a : Int), .int .i64 (i : Int)] 57
  have b2 := Box.at (w.alloc (.cells #[.int .i64 (a : Int), .int .i64 (i : Int)] 57)) #[.int .i64 0, .int .i64 0] 57 (n := w.heap.size + 1) (by simp)
  have c2 := ((Chg.refl [] w).alloc (.cells #[.int .i64 (a : Int), .int .i64 (i : Int)] 57)).alloc (.cells #[.int .i64 0, .int .i64 0] 57)
  have b1 := b1.old (.cells #[.int .i64 0, .int .i64 0] 57)
  have ea := or_shl ha hx
  have ei := or_shl hi hx
  have HS : Hid (w.heap.size ≤ w.heap.size) := hide (Nat.le_refl _)
  cases b with
  | false =>
    go_enter Tryd.func62, Tryd.ntmps62
    go_wp2
    generalize (w.alloc (.cells #[.int .i64 (a : Int), .int .i64 (i : Int)] 57)).alloc (.cells #[.int .i64 0, .int .i64 0] 57) = W at b1 b2 c2 ⊢
    obtain ⟨A, hA⟩ : ∃ A, A = w.heap.size := ⟨_, rfl⟩
    rw [← hA] at b1 b2 ⊢
    have HA := hide hA
    have p0 := b1.cell 0
    have p1 := b1.cell 1
    have f0 := b1.free 0
    have f1 := b1.free 1
    have l1 := b1.lt
    have l2 := b2.lt
    have g0 := b2.free 0
    have g1 := b2.free 1
    have q0 := b2.cell 0
    have q1 := b2.cell 1
    simp only [List.getElem?_toArray, List.getElem?_cons_zero, List.getElem?_cons_succ] at p0 p1 q0 q1
    clear hA
    go_region
    all_goals
      go_wp2
      refine bodyPost_ret (v := .agg #[.int .i64 ((a ||| 2 ^ x : Nat) : Int), .int .i64 (i : Int)]) ?_ rfl ⟨by rfl, ?_⟩
      · simp [results, Tryd.results62, go_sem, q0, q1]
      · have hA := HA.out
        (repeat' (first | with_reducible exact Chg.refl _ _ | with_reducible assumption | with_reducible apply Chg.drewN | with_reducible apply Chg.drew | with_reducible apply Chg.alloc | (with_reducible refine Chg.setCell ?_ (Or.inr ?_) _) | (with_reducible refine Chg.trans ?_ (by assumption)) | (simp; done) | (simp; omega)))
  | true =>
    go_enter Tryd.func62, Tryd.ntmps62
    go_wp2
    generalize (w.alloc (.cells #[.int .i64 (a : Int), .int .i64 (i : Int)] 57)).alloc (.cells #[.int .i64 0, .int .i64 0] 57) = W at b1 b2 c2 ⊢
    obtain ⟨A, hA⟩ : ∃ A, A = w.heap.size := ⟨_, rfl⟩
    rw [← hA] at b1 b2 ⊢
    have HA := hide hA
    have p0 := b1.cell 0
    have p1 := b1.cell 1
    have f0 := b1.free 0
    have f1 := b1.free 1
    have l1 := b1.lt
    have l2 := b2.lt
    have g0 := b2.free 0
    have g1 := b2.free 1
    have q0 := b2.cell 0
    have q1 := b2.cell 1
    simp only [List.getElem?_toArray, List.getElem?_cons_zero, List.getElem?_cons_succ] at p0 p1 q0 q1
    clear hA
    go_region
    all_goals
      go_wp2
      go_region
      all_goals
        go_wp2
        refine bodyPost_ret (v := .agg #[.int .i64 ((a ||| 2 ^ x : Nat) : Int), .int .i64 ((i ||| 2 ^ x : Nat) : Int)]) ?_ rfl ⟨by rfl, ?_⟩
        · simp [results, Tryd.results62, go_sem, q0, q1]
        · have hA := HA.out
          (repeat' (first | with_reducible exact Chg.refl _ _ | with_reducible assumption | with_reducible apply Chg.drewN | with_reducible apply Chg.drew | with_reducible apply Chg.alloc | (with_reducible refine Chg.setCell ?_ (Or.inr ?_) _) | (with_reducible refine Chg.trans ?_ (by assumption)) | (simp; done) | (simp; omega)))

set_option maxRecDepth 100000 in
set_option maxHeartbeats 1000000 in
theorem list_any (n F : Nat) (w : World) (hF : F < 18446744073709551616) (hT : Tz w) :
    Calls Tryd.prog 59 #[famV n F] w fun e w' => ∃ v, e = .returned v ∧ Ints w' v (Fam.bitsList F) ∧ Chg [] w w' := by
  obtain ⟨i0, hi, hz0, hz1, hz2⟩ := info_parts infoInt
  unfold famV
  have HT := hide hT
  clear hT
  go_enter Tryd.func59, Tryd.ntmps59
  go_wp2
  have hch : Chg [] w (w.alloc (.cells #[.int .i64 (n : Int), .int .u64 (F : Int)] 50)) := (Chg.refl _ _).alloc _
  have HC0 := hide hch
  generalize w.alloc (.cells #[.int .i64 (n : Int), .int .u64 (F : Int)] 50) = W0 at *
  go_loopw [3, 4] (fun v m wr => ∃ (X : Nat) (pre : List Int), m = .int .u64 (X : Int) ∧ X < 18446744073709551616 ∧ Hid (Fam.bitsList F = pre ++ Fam.bitsList X ∧ wr.ownsRow w.heap.size 3 1 v pre.length (pre.map (Value.int .i64)) ∧ Chg [] w wr)) (fun _ m _ => (intOf m).natAbs)
  case atStart => exact ⟨F, [], rfl, hF, hide ⟨rfl, World.ownsRow_nil _ _ _ _, HC0.out⟩⟩
  case round =>
    obtain ⟨X, pre, rfl, hX, hI⟩ := hrel
    by_cases h0 : X = 0
    · subst h0
      go_wp2
      go_ret
      refine ⟨_, rfl, ?_, hI.out.2.2⟩
      have h := hI.out.1
      rw [Fam.bits_zero, List.append_nil] at h
      rw [h]
      exact row_low hI.out.2.1 (Nat.zero_le _)
    · have d0 : ((X : Int) != 0) = true := by simp; omega
      have hlen : pre.length < 64 := by
        have h1 := congrArg List.length hI.out.1
        have h2 := Fam.bits_len F
        rw [Fam.bits_low h0 hX, List.length_append, List.length_cons] at h1
        omega
      have es : IntKind.u64.wrap ((X : Int) - 1) = ((X - 1 : Nat) : Int) := by rw [IntKind.wrap_u64]; omega
      have ea := bits_and_u64_nat X (X - 1) hX (by omega)
      have hnx := Fam.and_pred_lt h0
      have HL := hide (Fam.bits_low h0 hX)
      obtain ⟨z, hz⟩ : ∃ z, z = Lib.ctz 64 X := ⟨_, rfl⟩
      have HTz := hide (tz_any X wr h0 hX (HT.out.keep hI.out.2.2))
      rw [← hz] at HL HTz
      clear hz
      generalize X &&& (X - 1) = X2 at *
      generalize X - 1 = X1 at *
      go_wp2_with fail
      refine HTz.out.mono ?_
      rintro e w1 ⟨rfl, hw1⟩
      have hown := hw1.row hI.out.2.1 (fun _ _ => List.not_mem_nil)
      have hch1 := hI.out.2.2.trans hw1
      have hsz := hch1.size
      clear hw1
      go_wp2_with (at_builtin; refine wpList_append_own _ rfl _ _ 22 rfl w.heap.size 3 i0 (.int .i64 0) 1 8 Tryd.underlying22 hi hz0 hz1 hz2 rfl (by decide) _ _ _ rfl (hown.alloc _) ⟨w1.heap.size, 0, none⟩ 1 1 [.int .i64 (z : Int)] rfl rfl (by intro j u hj; match j, hj with | 0, hj => simp at hj; subst hj; simp [Addr.add]) (by intro u hu; simp at hu; subst hu; rfl) (by unfold maxLen; omega) (by omega) (by simp; omega) ?_; intro v1 w3 hown1 hgrow1 _)
      go_roundw
      case rel => exact ⟨X2, pre ++ [(z : Int)], rfl, by omega, hide ⟨by rw [hI.out.1, HL.out, List.append_assoc]; rfl, by simpa using hown1, (hch1.alloc _).grew (hown.alloc _) (Nat.le_refl _) hgrow1⟩⟩
      case measure => simp [intOf]; omega
end Go.Proofs.YtpplihpfjniacaaDoor
