/- Walk: Plan. -/
import Derived.Test.YtaapamoglgpocaaPlan1
namespace Go.Proofs.Ytaapamoglgpocaa
open Go.RowKit Go.Maps

theorem plan_all (w1 : World) (Bd bk bf : Nat) (vt : Value) (t : List (List Int)) (base : Nat) (hv : See2 w1 vt t) (ht : T.isTab t = true) (n1 : Bd ≠ bk) (n2 : Bd ≠ bf) (n3 : bk ≠ bf) (hB : w1.heap.size ≤ Bd ∧ w1.heap.size ≤ bk ∧ w1.heap.size ≤ bf) (hb : Bd < base ∧ bk < base ∧ bf < base) : ∀ F, PlanOk w1 Bd bk bf vt t base F
  | 0 => fun r c k w fk ff pre lv _ h => by omega
  | F + 1 => plan_more w1 Bd bk bf vt t base F hv ht n1 n2 n3 hB hb (plan_all w1 Bd bk bf vt t base hv ht n1 n2 n3 hB hb F)
theorem pop4 {a : Nat} (h : a < 16) : T.pop a ≤ 4 := by
  have : (List.range 16).all (fun a => decide (T.pop a ≤ 4)) = true := by decide +kernel
  exact of_decide_eq_true (List.all_eq_true.1 this a (List.mem_range.2 h))
/-- What Plan returns for a table. -/
def PlanOf (t : List (List Int)) (v : Value) (w w' : World) (xs : List Nd) : Prop := Pl t (2 ^ t.length - 1) (2 ^ T.cols t - 1) 0 xs ∧ w'.ownsRow w.heap.size 54 6 v xs.length (flat xs) ∧ Chg [] w w'

set_option maxRecDepth 100000 in
set_option maxHeartbeats 1000000 in
theorem Plan_bad (v : Value) (t : List (List Int)) (w : World) (hv : See2 w v t) (hl : ∀ r ∈ t, r.length ≤ 1000000) (htl : t.length ≤ 1000000) (ht : T.isTab t = false) : Calls Try.prog 17 #[v] w (Ret (.tuple #[.slice none 0 0, .int .i64 2]) w) := by
  have HVa := hide (valid_any v t w hv hl htl)
  obtain ⟨ao, cap, rfl⟩ := hv.shape
  rw [ht] at HVa
  clear hv hl htl ht
  generalize t.length = n at *
  go_enter Try.func17, Try.ntmps17
  go_wp2_with fail
  refine HVa.out.mono ?_
  rintro e w1 ⟨rfl, hw1⟩
  go_wp2
  go_ret2
  exact ⟨rfl, hw1⟩

set_option maxRecDepth 100000 in
set_option maxHeartbeats 1000000 in
theorem Plan_good (v : Value) (t : List (List Int)) (w : World) (hv : See2 w v t) (hl : ∀ r ∈ t, r.length ≤ 1000000) (htl : t.length ≤ 1000000) (ht : T.isTab t = true) :
    Calls Try.prog 17 #[v] w fun e w' => ∃ v' xs, e = .returned (.tuple #[v', .int .i64 0]) ∧ PlanOf t v' w w' xs := by
  have HVa := hide (valid_any v t w hv hl htl)
  obtain ⟨ao, cap, rfl⟩ := hv.shape
  rw [ht] at HVa
  have HDb := hide fun ws (hw : Chg [] w ws) => debate_any _ t ws (hv.keep hw)
  have HWh := hide fun ws (hw : Chg [] w ws) => whole_any _ t ws (hv.keep hw) ht
  have HPl := hide fun w2 w3 Bd bk bf (hw : Chg [] w w2) (n1 : Bd ≠ bk) (n2 : Bd ≠ bf) (n3 : bk ≠ bf) (hB : w2.heap.size ≤ Bd ∧ w2.heap.size ≤ bk ∧ w2.heap.size ≤ bf) (hb : Bd < (w3 : World).heap.size ∧ bk < w3.heap.size ∧ bf < w3.heap.size) => plan_all w2 Bd bk bf _ t w3.heap.size (hv.keep hw) ht n1 n2 n3 hB hb (2 ^ t.length - 1 + (2 ^ T.cols t - 1) + 1)
  have HWi := hide (whole_within ht)
  obtain ⟨⟨t1, t2, t3, t4⟩, _⟩ := T.isTab_iff.1 ht
  have r1 := hide (whole_lt t1 t2)
  have r2 := hide (whole_lt t3 t4)
  have HPop : Hid (0 + 2 * (T.pop (2 ^ t.length - 1) * T.pop (2 ^ T.cols t - 1)) ≤ 1000) := hide (by
    have h1 := pop4 r1.out.1
    have h2 := pop4 r2.out.1
    have := Nat.mul_le_mul h1 h2
    omega)
  unfold PlanOf
  clear hv hl htl ht t1 t2 t3 t4
  generalize 2 ^ T.cols t - 1 = c at *
  generalize 2 ^ t.length - 1 = r at *
  generalize t.length = n at *
  go_enter Try.func17, Try.ntmps17
  go_wp2_with fail
  refine HVa.out.mono ?_
  rintro e w1 ⟨rfl, hw1⟩
  go_wp2_with fail
  refine (HDb.out _ hw1).mono ?_
  rintro e w2 ⟨Bd, bk, bf, rfl, hD, hB1, hB2, hB3, n1, n2, n3⟩
  have HD := hide hD
  have HN := hide (And.intro n1 (And.intro n2 n3))
  have HB := hide (And.intro hB1 (And.intro hB2 hB3))
  have HW1 := hide hw1
  clear hD hB1 hB2 hB3 n1 n2 n3 hw1
  go_wp2_with fail
  refine (HWh.out _ (HW1.out.trans HD.out.2.2.2)).mono ?_
  rintro e w3 ⟨rfl, hw3⟩
  have HW3 := hide hw3
  have HD3 := hide (HD.out.keep hw3)
  have HC3 := hide (HW1.out.trans (HD.out.2.2.2.trans hw3))
  clear hw3
  have hgo := HPl.out w1 w3 Bd bk bf HW1.out HN.out.1 HN.out.2.1 HN.out.2.2 HB.out ⟨HD3.out.1.lt, HD3.out.2.1.lt, HD3.out.2.2.1.lt⟩ r c 0 w3 _ _ [] (.slice none 0 0) HWi.out (Nat.lt_succ_self _) HD3.out (fun _ _ _ _ _ h => by cases h) rfl (World.ownsRow_nil _ _ _ _) HPop.out (Nat.le_refl _)
  unfold rectV at hgo ⊢
  have HGo := hide hgo
  clear hgo
  go_wp2_with fail
  refine HGo.out.mono ?_
  rintro e w4 ⟨v', fk, ff, xs, rfl, hD4, _, hP, ho, _, _⟩
  have HR := hide (And.intro hP (And.intro (row_low ho HC3.out.size) (HW1.out.trans hD4.2.2.2)))
  clear hP ho hD4
  go_wp2
  go_ret2
  rw [Nat.zero_add, List.nil_append] at HR
  exact ⟨v', xs, rfl, HR.out⟩
end Go.Proofs.Ytaapamoglgpocaa
