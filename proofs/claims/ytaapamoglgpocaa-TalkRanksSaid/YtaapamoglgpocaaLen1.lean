/- Walks: the debate's memory; what is known already. -/
import Derived.Test.YtaapamoglgpocaaMaps
import Derived.Deep.RegionHeld3
namespace Go.Proofs.Ytaapamoglgpocaa
open Go.RowKit Go.Maps

/-- The debate's memory. -/
def Deb (w1 : World) (Bd bk bf : Nat) (vt : Value) (w : World) (fk : Nat → Nat → Option Nat) (ff : Nat → Nat → Option (Nat × Nat)) : Prop :=
  Box w Bd #[vt, .map (some bk), .map (some bf)] 126 ∧ KnownM w bk fk ∧ FirstM w bf ff ∧ Chg [] w1 w
theorem Deb.keep {w1 w w' : World} {Bd bk bf : Nat} {vt : Value} {fk : Nat → Nat → Option Nat} {ff : Nat → Nat → Option (Nat × Nat)} (h : Deb w1 Bd bk bf vt w fk ff) (hc : Chg [] w w') : Deb w1 Bd bk bf vt w' fk ff :=
  ⟨h.1.keep hc List.not_mem_nil, h.2.1.keep hc List.not_mem_nil, h.2.2.1.keep hc List.not_mem_nil, h.2.2.2.trans hc⟩
/-- A split of least cost. -/
def GoodS (t : List (List Int)) (r c who s : Nat) : Prop := ((who = 0 ∧ s ∈ T.subs r) ∨ (who = 1 ∧ s ∈ T.subs c)) ∧ T.cost t r c who s = T.len t r c
def Vald (t : List (List Int)) (fk : Nat → Nat → Option Nat) (ff : Nat → Nat → Option (Nat × Nat)) : Prop :=
  ∀ r c n, r < 16 → c < 16 → fk r c = some n → n = T.len t r c ∧ ∃ who s, ff r c = some (who, s) ∧ GoodS t r c who s
/-- What was known of greater rectangles is known still, and no more. -/
def Rest (r c : Nat) (fk fk' : Nat → Nat → Option Nat) (ff ff' : Nat → Nat → Option (Nat × Nat)) : Prop := ∀ r' c', r + c ≤ r' + c' → ¬ (r' = r ∧ c' = c) → fk' r' c' = fk r' c' ∧ ff' r' c' = ff r' c'
theorem Rest.refl (r c : Nat) (fk : Nat → Nat → Option Nat) (ff : Nat → Nat → Option (Nat × Nat)) : Rest r c fk fk ff ff := fun _ _ _ _ => ⟨rfl, rfl⟩
def LenIs (w1 : World) (Bd bk bf : Nat) (vt : Value) (t : List (List Int)) (r c : Nat) (fk : Nat → Nat → Option Nat) (ff : Nat → Nat → Option (Nat × Nat)) (w w' : World) (e : Ending) : Prop :=
  e = .returned (.int .i64 (T.len t r c : Int)) ∧ ∃ fk' ff', Deb w1 Bd bk bf vt w' fk' ff' ∧ Vald t fk' ff' ∧ Chg [bk, bf] w w' ∧ Rest r c fk fk' ff ff' ∧ (T.clear t r c = false → ∃ who s, ff' r c = some (who, s) ∧ GoodS t r c who s)
def LenOk (w1 : World) (Bd bk bf : Nat) (vt : Value) (t : List (List Int)) (F : Nat) : Prop := ∀ (r c : Nat) (w : World) (fk : Nat → Nat → Option Nat) (ff : Nat → Nat → Option (Nat × Nat)), r < 16 → c < 16 → r ≠ 0 → c ≠ 0 → r + c < F → Deb w1 Bd bk bf vt w fk ff → Vald t fk ff →
  Calls Try.prog 73 #[.pointer (some ⟨Bd, 0, none⟩), rectV r c] w fun e w' => LenIs w1 Bd bk bf vt t r c fk ff w w' e

/-- The least cost of the first q ways to split. -/
def bq (t : List (List Int)) (r c q : Nat) : Nat := if q = 0 then 8 else if q = 1 then T.best ((T.subs r).map (T.cost t r c 0)) else T.len t r c
theorem bq_zero (t : List (List Int)) (r c : Nat) : bq t r c 0 = 8 := rfl
theorem bq_step {t : List (List Int)} {r c q : Nat} (hr : r < 16) (hc : c < 16) (hcl : T.clear t r c = false) (hq : q < 2) : bq t r c (q + 1) = min (bq t r c q) (T.best ((T.subs (if q = 0 then r else c)).map (T.cost t r c q))) := by
  rcases (show q = 0 ∨ q = 1 by omega) with rfl | rfl
  · have hb : ∀ l : List Nat, T.best l ≤ 8 := fun l => by
      have := T.best_append [] l
      rw [List.nil_append, T.best_nil] at this
      omega
    show T.best _ = min 8 _
    rw [if_pos rfl]
    have := hb ((T.subs r).map (T.cost t r c 0))
    omega
  · show T.len t r c = min (T.best _) _
    rw [T.len_eq hr hc, hcl, if_neg (by decide), T.best_append, if_neg (by decide)]
/-- The best split up to now. -/
def SoFar (t : List (List Int)) (r c B : Nat) (ff : Nat → Nat → Option (Nat × Nat)) : Prop := B = 8 ∨ ∃ who s, ff r c = some (who, s) ∧ ((who = 0 ∧ s ∈ T.subs r) ∨ (who = 1 ∧ s ∈ T.subs c)) ∧ T.cost t r c who s = B
theorem SoFar.good {t : List (List Int)} (ht : T.isTab t = true) {r c : Nat} (hr : r < 16) (hc : c < 16) (hr0 : r ≠ 0) (hc0 : c ≠ 0) {ff : Nat → Nat → Option (Nat × Nat)} (h : SoFar t r c (T.len t r c) ff) : ∃ who s, ff r c = some (who, s) ∧ GoodS t r c who s := by
  rcases h with h | ⟨who, s, h1, h2, h3⟩
  · have := T.len_lt ht hr hc hr0 hc0
    omega
  · exact ⟨who, s, h1, h2, h3⟩

/-- The two parts of a split. -/
theorem by_split {t : List (List Int)} {r c q x : Nat} (hr : r < 16) (hc : c < 16) (hr0 : r ≠ 0) (hc0 : c ≠ 0) (hq : q = 0 ∨ q = 1) (hx : x ∈ T.subs (if q = 0 then r else c)) :
    ∃ r0 c0 r1 c1, byV r c q x = .tuple #[rectV r0 c0, rectV r1 c1, .bool true] ∧ T.cost t r c q x = 1 + max (T.len t r0 c0) (T.len t r1 c1) ∧ (r0 < 16 ∧ c0 < 16 ∧ r0 ≠ 0 ∧ c0 ≠ 0 ∧ r0 + c0 < r + c) ∧ (r1 < 16 ∧ c1 < 16 ∧ r1 ≠ 0 ∧ c1 ≠ 0 ∧ r1 + c1 < r + c) := by
  rcases hq with rfl | rfl
  · rw [if_pos rfl] at hx
    obtain ⟨m1, m2, _, m4, m5, _⟩ := T.subs_mem hr hx
    exact ⟨r - x, c, x, c, rfl, rfl, ⟨by omega, hc, m4, hc0, by omega⟩, ⟨by omega, hc, m1, hc0, by omega⟩⟩
  · rw [if_neg (by decide)] at hx
    obtain ⟨m1, m2, _, m4, m5, _⟩ := T.subs_mem hc hx
    exact ⟨r, c - x, r, x, rfl, rfl, ⟨hr, by omega, hr0, m4, by omega⟩, ⟨hr, by omega, hr0, m1, by omega⟩⟩

set_option maxRecDepth 100000 in
set_option maxHeartbeats 1000000 in
theorem debate_any (v : Value) (t : List (List Int)) (w : World) (hv : See2 w v t) :
    Calls Try.prog 56 #[v] w fun e w' => ∃ Bd bk bf, e = .returned (.pointer (some ⟨Bd, 0, none⟩)) ∧ Deb w Bd bk bf v w' (fun _ _ => none) (fun _ _ => none) ∧ w.heap.size ≤ Bd ∧ w.heap.size ≤ bk ∧ w.heap.size ≤ bf ∧ Bd ≠ bk ∧ Bd ≠ bf ∧ bk ≠ bf := by
  obtain ⟨ao, cap, rfl⟩ := hv.shape
  clear hv
  generalize t.length = n
  have hmm := @run_makeMap Try.prog
  go_enter Try.func56, Try.ntmps56
  go_wp2
  have hk := (KnownM.new w).keep ((Chg.refl [] (w.alloc (.map #[] 0))).alloc (.map #[] 0)) List.not_mem_nil
  have hf := FirstM.new (w.alloc (.map #[] 0))
  have hc : Chg [] w ((w.alloc (.map #[] 0)).alloc (.map #[] 0)) := ((Chg.refl [] w).alloc _).alloc _
  have hs2 : (w.alloc (.map #[] 0)).heap.size = w.heap.size + 1 := by simp
  rw [hs2] at hf
  have hs3 : ((w.alloc (.map #[] 0)).alloc (.map #[] 0)).heap.size = w.heap.size + 1 + 1 := by simp
  generalize (w.alloc (.map #[] 0)).alloc (.map #[] 0) = w2 at hk hf hc hs3 ⊢
  go_ret
  have bx := Box.new w2 #[.slice ao n cap, .map (some w.heap.size), .map (some (w.heap.size + 1))] 126
  rw [hs3] at bx
  have hca : Chg [] w2 (w2.alloc (.cells #[.slice ao n cap, .map (some w.heap.size), .map (some (w.heap.size + 1))] 126)) := (Chg.refl _ _).alloc _
  exact ⟨_, _, _, rfl, ⟨bx, hk.keep hca List.not_mem_nil, hf.keep hca List.not_mem_nil, hc.trans hca⟩, by omega, Nat.le_refl _, by omega, by omega, by omega, by omega⟩
end Go.Proofs.Ytaapamoglgpocaa
