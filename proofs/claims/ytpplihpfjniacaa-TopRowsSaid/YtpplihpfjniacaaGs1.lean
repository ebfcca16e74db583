/- Walks: guesses: sum, choose, weight, after, of one number. -/
import Derived.Test.YtpplihpfjniacaaITab
namespace Go.Proofs.Ytpplihpfjniacaa
open Go.RowKit

set_option maxRecDepth 100000 in
theorem gsum_one (v : Value) (n : Nat) (w : World) (hv : See w v [(n : Int)]) (hn : n ≤ 1000) : Calls Try.prog 35 #[v] w (Ret (.int .i64 (n : Int)) w) := by
  obtain ⟨a, cap, rfl, hcell⟩ := hv.open (by simp)
  have f0 := hcell w (Chg.refl _ _) 0 (by simp)
  rw [add_nought] at f0
  simp only [List.getD_cons_zero, List.length_cons, List.length_nil, Nat.zero_add] at f0 ⊢
  clear hcell hv
  go_enter Try.func35, Try.ntmps35
  go_wp2
  refine loopW_start (loopW_round ?_)
  go_wp2
  refine loopW_round ?_
  go_wp2
  go_ret
  exact ⟨by rfl, Chg.refl _ _⟩
set_option maxRecDepth 100000 in
theorem choose_zero (q : Int) (w : World) : Calls Try.prog 56 #[.int .i64 q, .int .i64 0] w (Ret (.int .i64 1) w) := by
  go_enter Try.func56, Try.ntmps56
  go_wp2
  refine loopW_start (loopW_round ?_)
  go_wp2
  go_ret
  exact ⟨by rfl, Chg.refl _ _⟩
set_option maxRecDepth 100000 in
theorem weight_one (v : Value) (n : Nat) (q : Int) (w : World) (hv : See w v [(n : Int)]) (hn : n ≤ 1000) : Calls Try.prog 36 #[v, .int .i64 q] w (Ret (.int .i64 (n : Int)) w) := by
  have HC := hide fun ws => choose_zero q ws
  obtain ⟨a, cap, rfl, hcell⟩ := hv.open (by simp)
  have f0 := hcell w (Chg.refl _ _) 0 (by simp)
  rw [add_nought] at f0
  simp only [List.getD_cons_zero, List.length_cons, List.length_nil, Nat.zero_add] at f0 ⊢
  clear hcell hv
  go_enter Try.func36, Try.ntmps36
  go_wp2
  refine loopW_start (loopW_round ?_)
  go_wp2
  refine loopW_start (loopW_round ?_)
  go_wp2_with fail
  refine (HC.out _).mono ?_
  rintro e w2 ⟨rfl, hw⟩
  go_wp2
  refine loopW_round ?_
  go_wp2
  refine loopW_round ?_
  go_wp2
  go_ret
  exact ⟨by rfl, hw⟩
/-- What is left after a reply. -/
def aftN (n x : Nat) (yes : Bool) : Nat := if yes then x else n - x
set_option maxRecDepth 100000 in
set_option maxHeartbeats 2000000 in
theorem after_one (v u : Value) (n x : Nat) (yes : Bool) (w : World) (hv : See w v [(n : Int)]) (hu : See w u [(x : Int)]) (hn : n ≤ 1000) (hx : x ≤ n) :
    Calls Try.prog 58 #[v, u, .bool yes] w fun e w' => ∃ v', e = .returned v' ∧ See w' v' [(aftN n x yes : Int)] ∧ Chg [] w w' := by
  obtain ⟨i0, hi, hz0, hz1, hz2⟩ := info_parts infoInt
  obtain ⟨a, cap, rfl, hcell⟩ := hv.open (by simp)
  obtain ⟨b, cap2, rfl, hcell2⟩ := hu.open (by simp)
  have f0 := hcell w (Chg.refl _ _) 0 (by simp)
  have g0 := hcell2 w (Chg.refl _ _) 0 (by simp)
  have HC1 := hide fun wr (hw : Chg [] w wr) => hcell wr hw 0 (by simp)
  have HC2 := hide fun wr (hw : Chg [] w wr) => hcell2 wr hw 0 (by simp)
  simp only [add_nought, List.getD_cons_zero, List.length_cons, List.length_nil, Nat.zero_add] at f0 g0 HC1 HC2 ⊢
  have esub : IntKind.i64.wrap ((n : Int) - (x : Int)) = ((n - x : Nat) : Int) := by rw [IntKind.wrap_i64]; omega
  have esub' : (n : Int) - (x : Int) = ((n - x : Nat) : Int) := by omega
  clear hcell hcell2 hv hu
  go_enter Try.func58, Try.ntmps58
  go_wp2_with (at_make; refine wpList_make_full _ rfl _ _ 43 rfl w.heap.size 3 i0 (.int .i64 0) 1 Try.underlying43 hi hz0 hz1 _ _ _ _ 1 rfl rfl rfl rfl (by rw [hz2]; omega) (by unfold maxLen; omega) (Nat.le_refl _) ?_; intro w5 hown hgrow)
  have T5 := hide (IntTab.made (by simpa using hown))
  have C5 : Hid (Chg [] w w5) := hide ((Chg.refl _ _).grown hgrow (fun k hk => by cases hk))
  clear hown hgrow
  obtain ⟨g, hg⟩ : ∃ g, g = w.heap.size := ⟨_, rfl⟩
  rw [← hg] at T5 ⊢
  have HG : Hid (w.heap.size ≤ g) := hide (Nat.le_of_eq hg.symm)
  clear hg
  have q0 := T5.out.cell (show 0 < 1 by decide)
  have qf := T5.out.free 0
  have ql := T5.out.lt
  have fx := HC1.out _ C5.out
  have gx := HC2.out _ C5.out
  clear f0 g0
  refine loopW_start (loopW_round ?_)
  cases yes with
  | true =>
    go_wp2
    go_big_quiet (fail)
    have T6 := hide (T5.out.keep ((Chg.refl [] w5).drewN nq) List.not_mem_nil)
    have C6 := hide (C5.out.drewN nq)
    generalize w5.drewN nq = w6 at *
    clear q0 qf ql fx gx
    have q0 := T6.out.cell (show 0 < 1 by decide)
    have qf := T6.out.free 0
    have ql := T6.out.lt
    go_wp2
    refine loopW_round ?_
    go_wp2
    have T7 := T6.out.set 0 (x : Int) (g := fun _ => (x : Int)) (fun j hj => by rw [if_pos (by omega)])
    go_ret
    exact ⟨_, rfl, T7.see (by simp) (fun i hi => by obtain rfl : i = 0 := by omega
                                                    rfl), C6.out.setCell (.inr HG.out) _⟩
  | false =>
    go_wp2
    go_big_quiet (fail)
    have T6 := hide (T5.out.keep ((Chg.refl [] w5).drewN nq) List.not_mem_nil)
    have C6 := hide (C5.out.drewN nq)
    generalize w5.drewN nq = w6 at *
    clear q0 qf ql fx gx
    have q0 := T6.out.cell (show 0 < 1 by decide)
    have qf := T6.out.free 0
    have ql := T6.out.lt
    go_wp2
    refine loopW_round ?_
    go_wp2
    have T7 := T6.out.set 0 ((n - x : Nat) : Int) (g := fun _ => ((n - x : Nat) : Int)) (fun j hj => by rw [if_pos (by omega)])
    go_ret
    exact ⟨_, rfl, T7.see (by simp) (fun i hi => by obtain rfl : i = 0 := by omega
                                                    rfl), C6.out.setCell (.inr HG.out) _⟩
end Go.Proofs.Ytpplihpfjniacaa
