/- Walks: guesses: wins, of one number. -/
import Derived.Test.YtpplihpfjniacaaPMap
namespace Go.Proofs.Ytpplihpfjniacaa
open Go.RowKit Go.Maps

theorem KnownP.apart {w : World} {bk : Nat} {fk : Nat → Nat → Option Bool} (h : PM.KnownM w bk fk) {a : Addr} {u : Value} (hc : w.cell? a = some u) : a.block ≠ bk := by
  obtain ⟨D, ⟨es, clock, hb, _⟩, _⟩ := h
  intro e
  unfold World.cell? at hc
  rw [e, hb] at hc
  simp at hc
theorem See.keepM {w w' : World} {bk : Nat} {fk : Nat → Nat → Option Bool} {v : Value} {xs : List Int} (h : See w v xs) (hk : PM.KnownM w bk fk) (hc : Chg [bk] w w') : See w' v xs := by
  rcases h with ⟨rfl, ao, cap, rfl⟩ | ⟨a, cap, e, hle, hb, hx⟩
  · exact .inl ⟨rfl, ao, cap, rfl⟩
  · by_cases h0 : xs = []
    · subst h0
      exact .inl ⟨rfl, _, _, e⟩
    · have hpos := List.length_pos_iff.2 h0
      have hne := KnownP.apart hk (hx 0 hpos)
      rw [add_block] at hne
      refine .inr ⟨a, cap, e, hle, Nat.lt_of_lt_of_le hb hc.size, fun i hi => ?_⟩
      rw [hc.cellA (by rw [add_block]; exact hb) (by rw [add_block]; simpa using hne)]
      exact hx i hi
/-- What is known of positions: those that are there are won. -/
def Iv (Bi bk : Nat) (w : World) (fk : Nat → Nat → Option Bool) : Prop :=
  Box w Bi #[.map (some bk)] 47 ∧ PM.KnownM w bk fk ∧ Bi ≠ bk ∧ ∀ n q b, n < 64 → q < 64 → fk n q = some b → b = true
theorem Iv.keep {Bi bk : Nat} {w w' : World} {fk : Nat → Nat → Option Bool} (h : Iv Bi bk w fk) (hc : Chg [] w w') : Iv Bi bk w' fk :=
  ⟨h.1.keep hc List.not_mem_nil, h.2.1.keep hc List.not_mem_nil, h.2.2.1, h.2.2.2⟩
def WinsIs (Bi bk : Nat) (r : Value) (w : World) (e : Ending) (w' : World) : Prop := e = .returned r ∧ ∃ fk', Iv Bi bk w' fk' ∧ Chg [bk] w w'
def WinsC (Bi bk q : Nat) : Prop := ∀ (n : Nat) (v : Value) (w : World) (fk : Nat → Nat → Option Bool), n ≤ 40 → See w v [(n : Int)] → Iv Bi bk w fk →
  Calls Try.prog 18 #[.pointer (some ⟨Bi, 0, none⟩), v, .int .i64 (q : Int)] w (WinsIs Bi bk (.bool (decide (n ≤ 2 ^ q))) w)
def AskG (Bi bk q : Nat) : Prop := ∀ (n : Nat) (v : Value) (w : World) (fk : Nat → Nat → Option Bool), 2 ≤ n → n ≤ 40 → n ≤ 2 ^ q → See w v [(n : Int)] → Iv Bi bk w fk →
  Calls Try.prog 37 #[.pointer (some ⟨Bi, 0, none⟩), v, .int .i64 (q : Int)] w (fun e w' => ∃ u, e = .returned (.tuple #[u, .bool true]) ∧ ∃ fk', Iv Bi bk w' fk' ∧ Chg [bk] w w')

set_option maxRecDepth 100000 in
set_option maxHeartbeats 2000000 in
theorem wins_low (Bi bk q n : Nat) (v : Value) (w : World) (fk : Nat → Nat → Option Bool) (hn : n ≤ 40) (hv : See w v [(n : Int)]) (hI : Iv Bi bk w fk) (hq : n ≤ 1 ∨ q = 0 ∨ (q < 40 ∧ 2 ^ q < n)) :
    Calls Try.prog 18 #[.pointer (some ⟨Bi, 0, none⟩), v, .int .i64 (q : Int)] w (WinsIs Bi bk (.bool (decide (n ≤ 2 ^ q))) w) := by
  have HS := hide (gsum_one v n w hv (by omega))
  have HWt := hide fun ws (hw : Chg [] w ws) => weight_one v n q ws (hv.keep hw) (by omega)
  have HI := hide hI
  obtain ⟨a, cap, rfl, _⟩ := hv.open (by simp)
  simp only [List.length_cons, List.length_nil, Nat.zero_add] at HS HWt ⊢
  clear hv hI
  have hp := Nat.two_pow_pos q
  by_cases h1 : n ≤ 1
  · have d1 : decide ((n : Int) ≤ 1) = true := by simp; omega
    rw [decide_eq_true (show n ≤ 2 ^ q by omega)]
    go_enter Try.func18, Try.ntmps18
    go_wp2_with fail
    refine HS.out.mono ?_
    rintro e w2 ⟨rfl, hw⟩
    go_wp2
    go_ret
    exact ⟨rfl, fk, HI.out.keep hw, hw.toAny⟩
  · have d1 : decide ((n : Int) ≤ 1) = false := by simp; omega
    by_cases hq0 : q = 0
    · have d2 : ((q : Int) == 0) = true := by simp [hq0]
      rw [decide_eq_false (show ¬ n ≤ 2 ^ q by rw [hq0]; simpa using h1)]
      go_enter Try.func18, Try.ntmps18
      go_wp2_with fail
      refine HS.out.mono ?_
      rintro e w2 ⟨rfl, hw⟩
      have HW := hide hw
      clear hw
      go_wp2
      go_big_quiet (fail)
      go_wp2
      go_ret
      exact ⟨rfl, fk, HI.out.keep (HW.out.drewN nq), (HW.out.drewN nq).toAny⟩
    · have d2 : ((q : Int) == 0) = false := by simp [hq0]
      have hq2 : q < 40 ∧ 2 ^ q < n := by rcases hq with h | h | h <;> first | exact h | exact absurd h h1 | exact absurd h hq0
      have q0 : (0 : Int) ≤ (q : Int) := by omega
      have q1 : (q : Int) < 64 := by omega
      have ew : wrap64 (2 ^ q) = ((2 ^ q : Nat) : Int) := by
        have e : ((2 : Int) ^ q) = ((2 ^ q : Nat) : Int) := by rw [Int.natCast_pow]; rfl
        rw [e]
        have := hq2.2
        generalize 2 ^ q = z at *
        unfold wrap64; omega
      rw [decide_eq_false (show ¬ n ≤ 2 ^ q by omega)]
      obtain ⟨P, hP⟩ : ∃ P, P = 2 ^ q := ⟨_, rfl⟩
      rw [← hP] at ew hq2
      have d3 : decide ((n : Int) > (P : Int)) = true := by simp; omega
      have d3' : decide ((P : Int) < (n : Int)) = true := by simp; omega
      have d3n : decide (P < n) = true := by simp; omega
      clear hP hq hp
      go_enter Try.func18, Try.ntmps18
      go_wp2_with fail
      refine HS.out.mono ?_
      rintro e w2 ⟨rfl, hw⟩
      have HW := hide hw
      clear hw
      go_wp2
      refine wp_region_ext (by kernel_rfl) (by kernel_rfl) ?_
      repeat (first | go_big_quiet_step ((go_at_call 36; exact calls_of_ret (HWt.out _ (Chg.trans HW.out (ExtOf.chg _))))) | quiet_step ((go_at_call 36; exact calls_of_ret (HWt.out _ (Chg.trans HW.out (ExtOf.chg _))))))
      refine wpQuiet_nil ?_
      intro wx hx
      have HX := hide (HW.out.trans hx)
      go_wp2
      go_ret
      exact ⟨rfl, fk, HI.out.keep HX.out, HX.out.toAny⟩
end Go.Proofs.Ytpplihpfjniacaa
