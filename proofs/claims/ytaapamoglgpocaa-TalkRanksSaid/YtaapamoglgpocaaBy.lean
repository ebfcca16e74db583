/- Walks: the whole table, and the two parts of a rectangle. -/
import Derived.Test.YtaapamoglgpocaaClear
namespace Go.Proofs.Ytaapamoglgpocaa
open Go.RowKit

def rectV (r c : Nat) : Value := .agg #[.int .i64 (r : Int), .int .i64 (c : Int)]
theorem pow_le16 {n : Nat} (h : n ≤ 4) : 1 ≤ 2 ^ n ∧ 2 ^ n ≤ 16 := by
  rcases (show n = 0 ∨ n = 1 ∨ n = 2 ∨ n = 3 ∨ n = 4 by omega) with rfl | rfl | rfl | rfl | rfl <;> decide

set_option maxRecDepth 100000 in
set_option maxHeartbeats 1000000 in
theorem whole_any (v : Value) (t : List (List Int)) (w : World) (hv : See2 w v t) (ht : T.isTab t = true) :
    Calls Try.prog 58 #[v] w (Ret (rectV (2 ^ t.length - 1) (2 ^ T.cols t - 1)) w) := by
  obtain ⟨⟨t1, t2, t3, t4⟩, _⟩ := T.isTab_iff.1 ht
  have hne : t ≠ [] := by rintro rfl; simp at t1
  obtain ⟨a, cap, rfl, _, hcc⟩ := hv.open hne
  obtain ⟨bo, bc, h0⟩ := hcc 0 (by omega)
  have H0 := hide (h0 ((w.alloc (.cells #[.int .i64 0, .int .i64 0] 75))) ((Chg.refl _ _).alloc _))
  have f0 := H0.out.1
  rw [add_nought, row0] at f0
  obtain ⟨p1, p2⟩ := pow_le16 t2
  obtain ⟨q1, q2⟩ := pow_le16 t4
  have e1 : (2 : Int) ^ t.length = ((2 ^ t.length : Nat) : Int) := by simp
  have e2 : (2 : Int) ^ T.cols t = ((2 ^ T.cols t : Nat) : Int) := by simp
  have n64 : (t.length : Int) ≤ 64 := by omega
  have m64 : (T.cols t : Int) ≤ 64 := by omega
  generalize T.cols t = m at *
  generalize t.length = n at *
  clear hv ht hcc h0 hne
  obtain ⟨P, hP⟩ : ∃ P, P = 2 ^ n := ⟨_, rfl⟩
  obtain ⟨Q, hQ⟩ : ∃ Q, Q = 2 ^ m := ⟨_, rfl⟩
  rw [← hP] at p1 p2 e1 ⊢
  rw [← hQ] at q1 q2 e2 ⊢
  have HE : Hid (rectV (P - 1) (Q - 1) = .agg #[.int .i64 ((P : Int) - 1), .int .i64 ((Q : Int) - 1)]) := hide (by unfold rectV; rw [show ((P - 1 : Nat) : Int) = (P : Int) - 1 by omega, show ((Q - 1 : Nat) : Int) = (Q : Int) - 1 by omega])
  clear hP hQ H0
  go_enter Try.func58, Try.ntmps58
  go_wp2
  go_region
  all_goals
    go_wp2
    refine bodyPost_ret (v := .agg #[.int .i64 ((P : Int) - 1), .int .i64 ((Q : Int) - 1)]) ?_ rfl ⟨by rw [HE.out], ?_⟩
    · simp [results, Try.results58, go_sem]
    · (repeat' (first | with_reducible exact Chg.refl _ _ | with_reducible assumption | with_reducible apply Chg.drewN | with_reducible apply Chg.drew | with_reducible apply Chg.alloc | (with_reducible refine Chg.setCell ?_ (Or.inr ?_) _) | (with_reducible refine Chg.trans ?_ (by assumption)) | (simp; done) | (simp; omega)))

theorem not16' : (List.range 16).all (fun a => (List.range 16).all fun b => decide (bits .andNot .i64 (a : Int) (b : Int) = ((a - (a &&& b) : Nat) : Int))) = true := by decide +kernel
theorem andNot_16 {a b : Nat} (ha : a < 16) (hb : b < 16) : bits .andNot .i64 (a : Int) (b : Int) = ((a - (a &&& b) : Nat) : Int) :=
  of_decide_eq_true (List.all_eq_true.1 (List.all_eq_true.1 not16' a (List.mem_range.2 ha)) b (List.mem_range.2 hb))

/-- The two parts. -/
def byV (r c who s : Nat) : Value := if who = 0 then .tuple #[rectV (r - s) c, rectV s c, .bool true] else .tuple #[rectV r (c - s), rectV r s, .bool true]

set_option maxRecDepth 100000 in
set_option maxHeartbeats 1000000 in
theorem by_any (r c who s : Nat) (w : World) (hr : r < 16) (hc : c < 16) (hw : who = 0 ∨ who = 1) (hs : s ∈ T.subs (if who = 0 then r else c)) :
    Calls Try.prog 100 #[rectV r c, .agg #[.int .i64 (who : Int), .int .i64 (s : Int)]] w (Ret (byV r c who s) w) := by
  unfold rectV
  rcases hw with rfl | rfl
  · rw [if_pos rfl] at hs
    obtain ⟨m1, m2, m3, m4, m5, m6⟩ := T.subs_mem hr hs
    have b1 := andNot_16 hr (show s < 16 by omega)
    have b2 := and_nat r s (by omega) (by omega)
    rw [Nat.and_comm, m3] at b1 b2
    have hn : (((r - s : Nat) : Int) != 0) = true := by simp; omega
    have hy : ((s : Int) != 0) = true := by simp; omega
    have HV : Hid (byV r c 0 s = .tuple #[.agg #[.int .i64 ((r - s : Nat) : Int), .int .i64 (c : Int)], .agg #[.int .i64 (s : Int), .int .i64 (c : Int)], .bool true]) := hide rfl
    clear hs m1 m2 m3 m4 m5 m6
    generalize r - s = d at *
    go_enter Try.func100, Try.ntmps100
    go_wp2
    go_region
    all_goals
      go_wp2
      go_region
      all_goals
        go_wp2
        go_region
        all_goals
          go_wp2
          refine bodyPost_ret (v := .tuple #[.agg #[.int .i64 (d : Int), .int .i64 (c : Int)], .agg #[.int .i64 (s : Int), .int .i64 (c : Int)], .bool true]) ?_ rfl ⟨by rw [HV.out], ?_⟩
          · simp [results, Try.results100, go_sem]
          · (repeat' (first | with_reducible exact Chg.refl _ _ | with_reducible assumption | with_reducible apply Chg.drewN | with_reducible apply Chg.drew | with_reducible apply Chg.alloc | (with_reducible refine Chg.setCell ?_ (Or.inr ?_) _) | (with_reducible refine Chg.trans ?_ (by assumption)) | (simp; done) | (simp; omega)))
  · rw [if_neg (by decide)] at hs
    obtain ⟨m1, m2, m3, m4, m5, m6⟩ := T.subs_mem hc hs
    have b1 := andNot_16 hc (show s < 16 by omega)
    have b2 := and_nat c s (by omega) (by omega)
    rw [Nat.and_comm, m3] at b1 b2
    have hn : (((c - s : Nat) : Int) != 0) = true := by simp; omega
    have hy : ((s : Int) != 0) = true := by simp; omega
    have HV : Hid (byV r c 1 s = .tuple #[.agg #[.int .i64 (r : Int), .int .i64 ((c - s : Nat) : Int)], .agg #[.int .i64 (r : Int), .int .i64 (s : Int)], .bool true]) := hide rfl
    clear hs m1 m2 m3 m4 m5 m6
    generalize c - s = d at *
    go_enter Try.func100, Try.ntmps100
    go_wp2
    go_region
    all_goals
      go_wp2
      go_region
      all_goals
        go_wp2
        go_region
        all_goals
          go_wp2
          refine bodyPost_ret (v := .tuple #[.agg #[.int .i64 (r : Int), .int .i64 (d : Int)], .agg #[.int .i64 (r : Int), .int .i64 (s : Int)], .bool true]) ?_ rfl ⟨by rw [HV.out], ?_⟩
          · simp [results, Try.results100, go_sem]
          · (repeat' (first | with_reducible exact Chg.refl _ _ | with_reducible assumption | with_reducible apply Chg.drewN | with_reducible apply Chg.drew | with_reducible apply Chg.alloc | (with_reducible refine Chg.setCell ?_ (Or.inr ?_) _) | (with_reducible refine Chg.trans ?_ (by assumption)) | (simp; done) | (simp; omega)))
end Go.Proofs.Ytaapamoglgpocaa
