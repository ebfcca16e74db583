/- Walks: rectangles. -/
import Derived.Test.YtpplihpfjniacaaDoorValid
import Derived.Laws.BitsLemmas
namespace Go.Proofs.YtpplihpfjniacaaDoor
open Go.RowKit

theorem wraps_i64 (n : Int) (h0 : 0 ≤ n) (h1 : n < 2 ^ 63) : IntKind.i64.wrap n = n := by rw [IntKind.wrap_i64]; omega
theorem and_nat (a b : Nat) (ha : a < 2 ^ 63) (hb : b < 2 ^ 63) : bits .and .i64 (a : Int) (b : Int) = ((a &&& b : Nat) : Int) := (bits_nat .i64 63 (by decide) wraps_i64 a b ha hb).1
theorem or_nat (a b : Nat) (ha : a < 2 ^ 63) (hb : b < 2 ^ 63) : bits .or .i64 (a : Int) (b : Int) = ((a ||| b : Nat) : Int) := (bits_nat .i64 63 (by decide) wraps_i64 a b ha hb).2
theorem and_one (a : Nat) (ha : a < 2 ^ 63) : bits .and .i64 (a : Int) 1 = ((a % 2 : Nat) : Int) := by
  have := and_nat a 1 ha (by decide)
  rw [Nat.and_one_is_mod] at this
  exact this
theorem shr_int (r i : Nat) : (r : Int) / 2 ^ i = ((r / 2 ^ i : Nat) : Int) := by simp
def bitv (a i : Nat) : Bool := decide (a / 2 ^ i % 2 = 1)
theorem bit_eq (a i : Nat) : (((a / 2 ^ i % 2 : Nat) : Int) == 1) = bitv a i := by
  unfold bitv
  generalize a / 2 ^ i % 2 = m
  rw [Bool.eq_iff_iff, beq_iff_eq, decide_eq_true_iff]
  omega

set_option maxRecDepth 100000 in
theorem has_any (r c i j : Nat) (w : World) (hr : r < 65536) (hc : c < 65536) (hi : i ≤ 62) (hj : j ≤ 62) :
    Calls Tryd.prog 96 #[.agg #[.int .i64 (r : Int), .int .i64 (c : Int)], .int .i64 (i : Int), .int .i64 (j : Int)] w (Ret (.bool (T.has r c i j)) w) := by
  have h1 := shr_int r i
  have h2 := shr_int c j
  have l1 : r / 2 ^ i < 2 ^ 63 := Nat.lt_of_le_of_lt (Nat.div_le_self _ _) (by omega)
  have l2 : c / 2 ^ j < 2 ^ 63 := Nat.lt_of_le_of_lt (Nat.div_le_self _ _) (by omega)
  have a1 := and_one _ l1
  have a2 := and_one _ l2
  have b1 := bit_eq r i
  have b2 := bit_eq c j
  have HE : Hid (T.has r c i j = (bitv r i && bitv c j)) := hide rfl
  generalize T.has r c i j = b at HE ⊢
  generalize bitv r i = x at b1 HE
  generalize bitv c j = y at b2 HE
  generalize r / 2 ^ i % 2 = m1 at a1 b1
  generalize c / 2 ^ j % 2 = m2 at a2 b2
  generalize r / 2 ^ i = q1 at h1 a1
  generalize c / 2 ^ j = q2 at h2 a2
  clear l1 l2
  cases x with
  | false =>
    go_enter Tryd.func96, Tryd.ntmps96
    go_wp2
    go_ret
    exact ⟨by rw [HE.out]; rfl, (Chg.refl _ _).alloc _⟩
  | true =>
    go_enter Tryd.func96, Tryd.ntmps96
    go_wp2
    go_ret
    exact ⟨by rw [HE.out]; cases y <;> rfl, (Chg.refl _ _).alloc _⟩
end Go.Proofs.YtpplihpfjniacaaDoor

/- Walk: whether a rectangle is clear. -/
namespace Go.Proofs.YtpplihpfjniacaaDoor
open Go.RowKit

def clrV (o : Option Int) : Value := match o with
  | some x => .tuple #[.int .i64 x, .bool true]
  | none => .tuple #[.int .i64 0, .bool false]

set_option maxRecDepth 100000 in
set_option maxHeartbeats 2000000 in
theorem clear_any (v : Value) (t : List (List Int)) (r c : Nat) (w : World) (hv : See2 w v t) (ht : T.isTab t = true) (hr : r < 65536) (hc : c < 65536) :
    Calls Tryd.prog 68 #[v, .agg #[.int .i64 (r : Int), .int .i64 (c : Int)]] w (Ret (clrV (T.clrM t r c)) w) := by
  obtain ⟨⟨t1, t2, t3, t4⟩, _⟩ := T.isTab_iff.1 ht
  have hne : t ≠ [] := by rintro rfl; simp at t1
  obtain ⟨a, cap, rfl, _, hcc⟩ := hv.open hne
  have HC := hide hcc
  have HT := hide ht
  have HR := hide (And.intro hr hc)
  obtain ⟨n, hn⟩ : ∃ n, n = t.length := ⟨_, rfl⟩
  have HN := hide hn
  rw [← hn] at t1 t2 ⊢
  obtain ⟨m, hm⟩ : ∃ m, m = T.cols t := ⟨_, rfl⟩
  have HM := hide hm
  rw [← hm] at t3 t4
  obtain ⟨R, hR⟩ : ∃ R, R = T.clrM t r c := ⟨_, rfl⟩
  rw [← hR]
  have HRe := hide hR
  clear hcc hv hne hr hc ht hn hm hR
  go_enter Tryd.func68, Tryd.ntmps68
  go_wp2
  have bx := Box.new w #[.int .i64 (r : Int), .int .i64 (c : Int)] 66
  have C0 : Hid (Chg [] w (w.alloc (.cells #[.int .i64 (r : Int), .int .i64 (c : Int)] 66))) := hide ((Chg.refl _ _).alloc _)
  have BX := hide bx
  clear bx
  generalize w.alloc (.cells #[.int .i64 (r : Int), .int .i64 (c : Int)] 66) = W0 at C0 BX ⊢
  generalize w.heap.size = Br at BX ⊢
  go_loopw [4, 12] (fun xv iv wr => ∃ (i : Nat) (x : Int), i ≤ n ∧ -1 ≤ x ∧ x ≤ 1 ∧ xv = .int .i64 x ∧ iv = .int .i64 (i : Int) ∧ Hid (T.tabTo t r c i = some x ∧ Chg [] W0 wr)) (fun _ iv _ => n - (intOf iv).toNat)
  case atStart => exact ⟨0, -1, Nat.zero_le _, by omega, by omega, rfl, rfl, hide ⟨rfl, Chg.refl _ _⟩⟩
  case round =>
    obtain ⟨i, x, hi, hx1, hx2, rfl, rfl, hI⟩ := hrel
    by_cases hlt : i < n
    · have d1 : decide ((i : Int) < (n : Int)) = true := by simpa using hlt
      obtain ⟨bo, bc, hrow⟩ := HC.out i (by rw [← HN.out]; exact hlt)
      have hlen : (t.getD i []).length = m := by rw [HM.out]; exact T.tab_row HT.out (by rw [← HN.out]; exact hlt)
      obtain ⟨fr, hs⟩ := hrow wr (C0.out.trans hI.out.2)
      rw [hlen] at fr hs
      have HLen := hide hlen
      have HRow := hide hrow
      rw [hlen] at HRow
      clear hrow hs hlen
      go_wp2
      go_loopw [4, 19] (fun xv jv wq => ∃ (j : Nat) (y : Int), j ≤ m ∧ -1 ≤ y ∧ y ≤ 1 ∧ xv = .int .i64 y ∧ jv = .int .i64 (j : Int) ∧ Hid (T.rowTo t r c i (some x) j = some y ∧ Chg [] W0 wq)) (fun _ jv _ => m - (intOf jv).toNat)
      case atStart => exact ⟨0, x, Nat.zero_le _, hx1, hx2, rfl, rfl, hide ⟨rfl, hI.out.2⟩⟩
      case round =>
        obtain ⟨j, y, hj, hy1, hy2, rfl, rfl, hJ⟩ := hrel
        by_cases hlj : j < m
        · have d2 : decide ((j : Int) < (m : Int)) = true := by simpa using hlj
          obtain ⟨_, hs⟩ := HRow.out wr (C0.out.trans hJ.out.2)
          have hrn : t.getD i [] ≠ [] := by intro h; have := HLen.out; rw [h] at this; simp at this; omega
          obtain ⟨a2, cap2, e2, hx⟩ := hs.open hrn
          rw [HLen.out] at e2
          cases e2
          have fx0 := hx wr (Chg.refl _ _) j (by rw [HLen.out]; exact hlj)
          obtain ⟨z, hz⟩ : ∃ z, z = T.ent t i j := ⟨_, rfl⟩
          have fx : wr.cell? (a2.add j) = some (.int .i64 z) := by rw [hz]; exact fx0
          clear fx0
          obtain ⟨z1, z2⟩ := T.ent_val HT.out (i := i) (j := j)
          rw [← hz] at z1 z2
          have bx := BX.out.keep hJ.out.2 List.not_mem_nil
          have c0 := bx.cell 0
          have c1 := bx.cell 1
          have lb := bx.lt
          simp at c0 c1
          have HCall := hide (has_any r c i j wr HR.out.1 HR.out.2 (by omega) (by omega))
          have hst : T.rowTo t r c i (some x) (j + 1) = T.step (some y) (T.has r c i j) z := by
            show T.step (T.rowTo t r c i (some x) j) (T.has r c i j) (T.ent t i j) = _
            rw [hJ.out.1, hz]
          have HSt := hide hst
          clear hs hrn hx hz bx hst
          cases hb : T.has r c i j with
          | false =>
            rw [hb] at HSt HCall
            have E : Hid (T.rowTo t r c i (some x) (j + 1) = some y) := hide HSt.out
            clear hb
            go_wp2_with fail
            refine HCall.out.mono ?_
            rintro e w3 ⟨rfl, hw3⟩
            have C3 : Hid (Chg [] W0 w3) := hide (hJ.out.2.trans hw3)
            clear hw3
            go_wp2
            go_roundw
            case rel => exact ⟨j + 1, y, by omega, hy1, hy2, rfl, by go_num, hide ⟨E.out, C3.out⟩⟩
            case measure => simp [intOf]; omega
          | true =>
            rw [hb] at HSt HCall
            clear hb
            by_cases hy0 : 0 ≤ y
            · have d3 : decide (0 ≤ y) = true := by simpa using hy0
              by_cases hyz : y = z
              · subst hyz
                have E : Hid (T.rowTo t r c i (some x) (j + 1) = some y) := hide (by rw [HSt.out]; unfold T.step; simp)
                have d4 : (y != y) = false := by simp
                go_wp2_with fail
                refine HCall.out.mono ?_
                rintro e w3 ⟨rfl, hw3⟩
                have C3 : Hid (Chg [] W0 w3) := hide (hJ.out.2.trans hw3)
                clear hw3
                go_wp2
                go_roundw
                case rel => exact ⟨j + 1, y, by omega, hy1, hy2, rfl, by go_num, hide ⟨E.out, C3.out⟩⟩
                case measure => simp [intOf]; omega
              · have d4 : (y != z) = true := by simpa using hyz
                have E : Hid (R = none) := hide (by
                  rw [HRe.out]
                  refine T.clrM_none (i := i) (j := j + 1) (by rw [← HN.out]; exact hlt) (by rw [← HM.out]; omega) ?_
                  rw [hI.out.1, HSt.out]
                  unfold T.step
                  simp only [if_true]
                  rw [if_pos ⟨hy0, hyz⟩])
                have HYz := hide hyz
                clear hyz
                go_wp2_with fail
                refine HCall.out.mono ?_
                rintro e w3 ⟨rfl, hw3⟩
                have C3 : Hid (Chg [] W0 w3) := hide (hJ.out.2.trans hw3)
                clear hw3
                go_wp2
                go_ret2
                exact ⟨by rw [E.out]; rfl, C0.out.trans C3.out⟩
            · have d3 : decide (0 ≤ y) = false := by simpa using hy0
              have E : Hid (T.rowTo t r c i (some x) (j + 1) = some z) := hide (by rw [HSt.out]; unfold T.step; simp only [if_true]; rw [if_neg (fun h => hy0 h.1)])
              go_wp2_with fail
              refine HCall.out.mono ?_
              rintro e w3 ⟨rfl, hw3⟩
              have C3 : Hid (Chg [] W0 w3) := hide (hJ.out.2.trans hw3)
              clear hw3
              go_wp2
              go_roundw
              case rel => exact ⟨j + 1, z, by omega, by omega, by omega, rfl, by go_num, hide ⟨E.out, C3.out⟩⟩
              case measure => simp [intOf]; omega
        · have d2 : decide ((j : Int) < (m : Int)) = false := by simpa using hlj
          obtain rfl : j = m := by omega
          go_wp2
          go_roundw
          case rel => exact ⟨i + 1, y, by omega, hy1, hy2, rfl, by go_num, hide ⟨by
            show T.rowTo t r c i (T.tabTo t r c i) (T.cols t) = some y
            rw [hI.out.1, ← HM.out]; exact hJ.out.1, hJ.out.2⟩⟩
          case measure => simp [intOf]; omega
    · have d1 : decide ((i : Int) < (n : Int)) = false := by simpa using hlt
      obtain rfl : i = n := by omega
      have E : Hid (R = some x) := hide (by rw [HRe.out]; unfold T.clrM; rw [← HN.out]; exact hI.out.1)
      go_wp2
      go_ret2
      exact ⟨by rw [E.out]; rfl, C0.out.trans hI.out.2⟩
end Go.Proofs.YtpplihpfjniacaaDoor

/- Walks: the whole table, and the two parts of a rectangle. -/
namespace Go.Proofs.YtpplihpfjniacaaDoor
open Go.RowKit

def rectV (r c : Nat) : Value := .agg #[.int .i64 (r : Int), .int .i64 (c : Int)]
theorem pow_le16 {n : Nat} (h : n ≤ 4) : 1 ≤ 2 ^ n ∧ 2 ^ n ≤ 16 := by
  rcases (show n = 0 ∨ n = 1 ∨ n = 2 ∨ n = 3 ∨ n = 4 by omega) with rfl | rfl | rfl | rfl | rfl <;> decide

set_option maxRecDepth 100000 in
set_option maxHeartbeats 1000000 in
theorem whole_any (v : Value) (t : List (List Int)) (w : World) (hv : See2 w v t) (ht : T.isTab t = true) :
    Calls Tryd.prog 34 #[v] w (Ret (rectV (2 ^ t.length - 1) (2 ^ T.cols t - 1)) w) := by
  obtain ⟨⟨t1, t2, t3, t4⟩, _⟩ := T.isTab_iff.1 ht
  have hne : t ≠ [] := by rintro rfl; simp at t1
  obtain ⟨a, cap, rfl, _, hcc⟩ := hv.open hne
  obtain ⟨bo, bc, h0⟩ := hcc 0 (by omega)
  have H0 := hide (h0 ((w.alloc (.cells #[.int .i64 0, .int .i64 0] 66))) ((Chg.refl _ _).alloc _))
  have f0 := H0.out.1
  rw [add_nought, row0] at f0
  obtain ⟨p1, p2⟩ := pow_le16 t2
  obtain ⟨q1, q2⟩ := pow_le16 t4
  have e1 : (2 : Int) ^ t.length = ((2 ^ t.length : Nat) : Int) := by simp
  have e2 : (2 : Int) ^ T.cols t = ((2 ^ T.cols t : Nat) : Int) := by simp
  have n64 : (t.length : Int) ≤ 64 := by omega
  have m64 : (T.cols t : Int) ≤ 64 := by omega
  generalize T.cols t = m at *
  generalize t.length = n at *
  clear hv ht hcc h0 hne
  obtain ⟨P, hP⟩ : ∃ P, P = 2 ^ n := ⟨_, rfl⟩
  obtain ⟨Q, hQ⟩ : ∃ Q, Q = 2 ^ m := ⟨_, rfl⟩
  rw [← hP] at p1 p2 e1 ⊢
  rw [← hQ] at q1 q2 e2 ⊢
  have HE : Hid (rectV (P - 1) (Q - 1) = .agg #[.int .i64 ((P : Int) - 1), .int .i64 ((Q : Int) - 1)]) := hide (by unfold rectV; rw [show ((P - 1 : Nat) : Int) = (P : Int) - 1 by omega, show ((Q - 1 : Nat) : Int) = (Q : Int) - 1 by omega])
  clear hP hQ H0
  go_enter Tryd.func34, Tryd.ntmps34
  go_wp2
  go_region
  all_goals
    go_wp2
    refine bodyPost_ret (v := .agg #[.int .i64 ((P : Int) - 1), .int .i64 ((Q : Int) - 1)]) ?_ rfl ⟨by rw [HE.out], ?_⟩
    · simp [results, Tryd.results34, go_sem]
    · (repeat' (first | with_reducible exact Chg.refl _ _ | with_reducible assumption | with_reducible apply Chg.drewN | with_reducible apply Chg.drew | with_reducible apply Chg.alloc | (with_reducible refine Chg.setCell ?_ (Or.inr ?_) _) | (with_reducible refine Chg.trans ?_ (by assumption)) | (simp; done) | (simp; omega)))

theorem not16' : (List.range 16).all (fun a => (List.range 16).all fun b => decide (bits .andNot .i64 (a : Int) (b : Int) = ((a - (a &&& b) : Nat) : Int))) = true := by decide +kernel
theorem andNot_16 {a b : Nat} (ha : a < 16) (hb : b < 16) : bits .andNot .i64 (a : Int) (b : Int) = ((a - (a &&& b) : Nat) : Int) :=
  of_decide_eq_true (List.all_eq_true.1 (List.all_eq_true.1 not16' a (List.mem_range.2 ha)) b (List.mem_range.2 hb))

/-- The two parts. -/
def byV (r c who s : Nat) : Value := if who = 0 then .tuple #[rectV (r - s) c, rectV s c, .bool true] else .tuple #[rectV r (c - s), rectV r s, .bool true]

set_option maxRecDepth 100000 in
set_option maxHeartbeats 1000000 in
theorem by_any (r c who s : Nat) (w : World) (hr : r < 16) (hc : c < 16) (hw : who = 0 ∨ who = 1) (hs : s ∈ T.subs (if who = 0 then r else c)) :
    Calls Tryd.prog 69 #[rectV r c, .agg #[.int .i64 (who : Int), .int .i64 (s : Int)]] w (Ret (byV r c who s) w) := by
  unfold rectV
  rcases hw with rfl | rfl
  · rw [if_pos rfl] at hs
    obtain ⟨m1, m2, m3, m4, m5, m6⟩ := T.subs_mem hr hs
    have b1 := andNot_16 hr (show s < 16 by omega)
    have b2 := and_nat r s (by omega) (by omega)
    rw [Nat.and_comm, m3] at b1 b2
    have hn : (((r - s : Nat) : Int) != 0) = true := by simp; omega
    have hy : ((s : Int) != 0) = true := by simp; omega
    have HV : Hid (byV r c 0 s = .tuple #[.agg #[.int .i64 ((r - s : Nat) : Int), .int .i64 (c : Int)], .agg #[.int .i64 (s : Int), .int .i64 (c : Int)], .bool true]) := hide rfl
    clear hs m1 m2 m3 m4 m5 m6
    generalize r - s = d at *
    go_enter Tryd.func69, Tryd.ntmps69
    go_wp2
    go_region
    all_goals
      go_wp2
      go_region
      all_goals
        go_wp2
        go_region
        all_goals
          go_wp2
          refine bodyPost_ret (v := .tuple #[.agg #[.int .i64 (d : Int), .int .i64 (c : Int)], .agg #[.int .i64 (s : Int), .int .i64 (c : Int)], .bool true]) ?_ rfl ⟨by rw [HV.out], ?_⟩
          · simp [results, Tryd.results69, go_sem]
          · (repeat' (first | with_reducible exact Chg.refl _ _ | with_reducible assumption | with_reducible apply Chg.drewN | with_reducible apply Chg.drew | with_reducible apply Chg.alloc | (with_reducible refine Chg.setCell ?_ (Or.inr ?_) _) | (with_reducible refine Chg.trans ?_ (by assumption)) | (simp; done) | (simp; omega)))
  · rw [if_neg (by decide)] at hs
    obtain ⟨m1, m2, m3, m4, m5, m6⟩ := T.subs_mem hc hs
    have b1 := andNot_16 hc (show s < 16 by omega)
    have b2 := and_nat c s (by omega) (by omega)
    rw [Nat.and_comm, m3] at b1 b2
    have hn : (((c - s : Nat) : Int) != 0) = true := by simp; omega
    have hy : ((s : Int) != 0) = true := by simp; omega
    have HV : Hid (byV r c 1 s = .tuple #[.agg #[.int .i64 (r : Int), .int .i64 ((c - s : Nat) : Int)], .agg #[.int .i64 (r : Int), .int .i64 (s : Int)], .bool true]) := hide rfl
    clear hs m1 m2 m3 m4 m5 m6
    generalize c - s = d at *
    go_enter Tryd.func69, Tryd.ntmps69
    go_wp2
    go_region
    all_goals
      go_wp2
      go_region
      all_goals
        go_wp2
        go_region
        all_goals
          go_wp2
          refine bodyPost_ret (v := .tuple #[.agg #[.int .i64 (r : Int), .int .i64 (d : Int)], .agg #[.int .i64 (r : Int), .int .i64 (s : Int)], .bool true]) ?_ rfl ⟨by rw [HV.out], ?_⟩
          · simp [results, Tryd.results69, go_sem]
          · (repeat' (first | with_reducible exact Chg.refl _ _ | with_reducible assumption | with_reducible apply Chg.drewN | with_reducible apply Chg.drew | with_reducible apply Chg.alloc | (with_reducible refine Chg.setCell ?_ (Or.inr ?_) _) | (with_reducible refine Chg.trans ?_ (by assumption)) | (simp; done) | (simp; omega)))
end Go.Proofs.YtpplihpfjniacaaDoor
