/- Walk: rectangles, the reference's. -/
import Derived.Test.YtaapamoglgpocaaRCov1
namespace Go.Proofs.Ytaapamoglgpocaa
open Go.RowKit

def setV (s : Nat) : Value := .int .i64 (s : Int)
set_option maxRecDepth 100000 in
set_option maxHeartbeats 2000000 in
theorem rectangles_new (vt : Value) (t : List (List Int)) (v : Int) (w : World) (hv : See2 w vt t) (ht : T.isTab t = true) : Calls Try.prog 84 #[vt, .int .i64 v] w
    (fun e w' => ∃ v', e = .returned v' ∧ w'.ownsRow w.heap.size 3 1 v' (setsN t v).length ((setsN t v).map setV) ∧ Chg [] w w') := by
  obtain ⟨⟨t1, t2, t3, t4⟩, _⟩ := T.isTab_iff.1 ht
  obtain ⟨i0, hi', hz0, hz1, hz2⟩ := info_parts infoInt
  have hne : t ≠ [] := by rintro rfl; simp at t1
  obtain ⟨a, cap, rfl, _, hc⟩ := hv.open hne
  obtain ⟨bo, bc, h0⟩ := hc 0 (by omega)
  rw [add_nought, row0] at h0
  have H0 := hide h0
  obtain ⟨p1, p2⟩ := pow_le16 t2
  obtain ⟨q1, q2⟩ := pow_le16 t4
  have HRe := hide fun x y ws (hw : Chg [] w ws) => Rectangle_any _ t v x y ws (hv.keep hw) ht
  have HEn : Hid (setsN t v = setsTo t v (2 ^ t.length * 2 ^ T.cols t)) := hide rfl
  have HSt := hide fun k => setsTo_succ t v k
  have HOk : Hid (∀ i j : Nat, j < 2 ^ T.cols t → setOk t v (i * 2 ^ T.cols t + j) = rectI t v (i : Int) (j : Int) ∧ bitsN ((i * 2 ^ T.cols t + j) / 2 ^ T.cols t) ((i * 2 ^ T.cols t + j) % 2 ^ T.cols t) = bitsN i j) := hide fun i j hj => by
    have e1 : (i * 2 ^ T.cols t + j) / 2 ^ T.cols t = i := by
      rw [Nat.mul_comm, Nat.mul_add_div (by omega), Nat.div_eq_of_lt hj, Nat.add_zero]
    have e2 : (i * 2 ^ T.cols t + j) % 2 ^ T.cols t = j := by
      rw [Nat.mul_comm, Nat.mul_add_mod, Nat.mod_eq_of_lt hj]
    unfold setOk
    rw [e1, e2]
    exact ⟨rfl, rfl⟩
  have HLen := hide fun k => setsTo_len t v k
  have e1 : (2 : Int) ^ t.length = ((2 ^ t.length : Nat) : Int) := by simp
  have e2 : (2 : Int) ^ T.cols t = ((2 ^ T.cols t : Nat) : Int) := by simp
  have n64 : (t.length : Int) ≤ 64 := by omega
  have m64 : (T.cols t : Int) ≤ 64 := by omega
  have w1 : IntKind.i64.wrap (2 ^ t.length) = ((2 ^ t.length : Nat) : Int) := by rw [e1]; exact wraps_i64 _ (by omega) (by omega)
  have w2 : IntKind.i64.wrap (2 ^ T.cols t) = ((2 ^ T.cols t : Nat) : Int) := by rw [e2]; exact wraps_i64 _ (by omega) (by omega)
  clear e1 e2
  generalize 2 ^ t.length = P at *
  generalize 2 ^ T.cols t = Q at *
  clear hv ht hne hc h0
  generalize T.cols t = m at *
  generalize t.length = n at *
  have hn1 : 0 < n := by omega
  go_enter Try.func84, Try.ntmps84
  go_wp2
  go_loopw [5, 11] (fun ov iv wr => ∃ i : Nat, i ≤ P ∧ iv = .int .i64 (i : Int) ∧ Hid (wr.ownsRow w.heap.size 3 1 ov (setsTo t v (i * Q)).length ((setsTo t v (i * Q)).map setV) ∧ Chg [] w wr)) (fun _ iv _ => (P - (intOf iv).toNat))
  case atStart => exact ⟨0, Nat.zero_le _, rfl, hide ⟨by rw [Nat.zero_mul, setsTo_zero]; exact World.ownsRow_nil _ _ _ _, Chg.refl _ _⟩⟩
  case round =>
    obtain ⟨i, hi, rfl, hI⟩ := hrel
    by_cases hlt : i < P
    · have d1 : decide ((i : Int) < (P : Int)) = true := by simpa using hlt
      have f0 := (H0.out wr hI.out.2).1
      go_wp2
      go_loopw [5, 19] (fun ov jv wq => ∃ j : Nat, j ≤ Q ∧ jv = .int .i64 (j : Int) ∧ Hid (wq.ownsRow w.heap.size 3 1 ov (setsTo t v (i * Q + j)).length ((setsTo t v (i * Q + j)).map setV) ∧ Chg [] w wq)) (fun _ jv _ => (Q - (intOf jv).toNat))
      case atStart => exact ⟨0, Nat.zero_le _, rfl, hI⟩
      case round =>
        obtain ⟨j, hj, rfl, hK⟩ := hrel
        by_cases hlj : j < Q
        · have d2 : decide ((j : Int) < (Q : Int)) = true := by simpa using hlj
          obtain ⟨ok1, ok2⟩ := HOk.out i j hlj
          have hst := HSt.out (i * Q + j)
          rw [ok1, ok2] at hst
          have HR := hide (HRe.out (i : Int) (j : Int) _ hK.out.2)
          have HCe := hide fun ws => cells_any i j ws (by omega) (by omega)
          have hb16 := bitsN_lt i j
          generalize bitsN i j = b at *
          have HS2 := hide hst
          have HO := hide hK.out.1
          have CL := hide hK.out.2
          obtain ⟨oo, oc, rfl, hoc⟩ := row_shape hK.out.1
          have hk256 : i * Q + j ≤ 256 := by
            have h1 : (i + 1) * Q ≤ P * Q := Nat.mul_le_mul_right _ hlt
            have h2 : P * Q ≤ 16 * 16 := Nat.mul_le_mul p2 q2
            rw [Nat.succ_mul] at h1
            omega
          have hlen := HLen.out (i * Q + j)
          have hsz := hK.out.2.size
          have hij : i * Q + (j + 1) = (i * Q + j) + 1 := by omega
          have HIJ := hide hij
          clear hst ok1 ok2 hK hij
          generalize i * Q + j = k at *
          generalize setsTo t v k = S0 at *
          generalize hLe : S0.length = L at *
          have HLe := hide hLe
          clear hLe
          cases hr : rectI t v (i : Int) (j : Int) with
          | false =>
            have HZ : Hid (setsTo t v (i * Q + (j + 1)) = S0) := hide (by rw [HIJ.out, HS2.out, hr]; rfl)
            rw [hr] at HR
            clear hr HS2
            go_wp2_with fail
            refine HR.out.mono ?_
            rintro e w3 ⟨rfl, hw3⟩
            have HO3 := hide (hw3.row HO.out (fun _ _ => List.not_mem_nil))
            have CL3 := hide (CL.out.trans hw3)
            clear hw3
            go_wp2
            go_roundw
            case rel => exact ⟨j + 1, by omega, by go_num, hide ⟨by rw [HZ.out, HLe.out]; exact HO3.out, CL3.out⟩⟩
            case measure => simp [intOf]; omega
          | true =>
            have HZ : Hid (setsTo t v (i * Q + (j + 1)) = S0 ++ [b]) := hide (by rw [HIJ.out, HS2.out, hr]; rfl)
            rw [hr] at HR
            clear hr HS2
            go_wp2_with fail
            refine HR.out.mono ?_
            rintro e w3 ⟨rfl, hw3⟩
            have HO3 := hide (hw3.row HO.out (fun _ _ => List.not_mem_nil))
            have CL3 := hide (CL.out.trans hw3)
            have hsz3 := CL3.out.size
            clear hw3
            go_wp2_with fail
            refine (HCe.out _).mono ?_
            rintro e w4 ⟨rfl, rfl⟩
            go_wp2_with (at_builtin; refine wpList_append_own _ rfl _ _ 38 rfl w.heap.size 3 i0 (.int .i64 0) 1 8 Try.underlying38 hi' hz0 hz1 hz2 rfl (by decide) _ _ _ rfl (HO3.out.alloc _) ⟨w4.heap.size, 0, none⟩ 1 1 [.int .i64 (b : Int)] rfl rfl (by intro j u hj; rw [add_zero_row, (Box.new w4 _ _).cell j]; simpa using hj) (by intro y hy; rw [List.mem_singleton] at hy; subst hy; rfl) (by unfold maxLen; omega) (by omega) (by simp; omega) ?_; intro v1 w5 hown1 hgrow1 _)
            go_roundw
            case rel =>
              refine ⟨j + 1, by omega, by go_num, hide ⟨?_, (CL3.out.alloc _).grew (HO3.out.alloc _) (Nat.le_refl _) hgrow1⟩⟩
              rw [HZ.out, List.map_append, List.length_append, HLe.out]
              exact hown1
            case measure => simp [intOf]; omega
        · have d2 : decide ((j : Int) < (Q : Int)) = false := by simpa using hlj
          have hjQ : i * Q + j = (i + 1) * Q := by rw [Nat.succ_mul]; omega
          have HK := hide hK.out
          rw [hjQ] at HK
          clear hK hjQ
          go_wp2
          go_roundw
          case rel => exact ⟨i + 1, by omega, by go_num, HK⟩
          case measure => simp [intOf]; omega
    · have d1 : decide ((i : Int) < (P : Int)) = false := by simpa using hlt
      obtain rfl : i = P := by omega
      go_wp2
      go_ret
      exact ⟨_, rfl, by rw [HEn.out]; exact hI.out.1, hI.out.2⟩
end Go.Proofs.Ytaapamoglgpocaa
