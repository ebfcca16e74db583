/- Walks: a Load, tried: each result that can come is settled by one weighing less. -/
import Derived.Test.YtohdjlgghkcaoaaMemo
namespace Go.Proofs.Ytohdjlgghkcaoaa
open Go.RowKit

def aftOf (k : W.K) (x : W.L) (r : Int) : W.K := if r = 0 then W.aftE k x else if r = -1 then W.aftL k x else W.aftR k x
theorem aftOf_L (k : W.K) (x : W.L) : aftOf k x (-1) = W.aftL k x := by simp [aftOf]
theorem aftOf_E (k : W.K) (x : W.L) : aftOf k x 0 = W.aftE k x := by simp [aftOf]
theorem aftOf_R (k : W.K) (x : W.L) : aftOf k x 1 = W.aftR k x := by simp [aftOf]
def okK (k : W.K) : Prop := k.b + k.h + k.l ≤ 13 ∧ k.g ≤ 13 ∧ 1 ≤ k.poss
theorem okK.small {k : W.K} (h : okK k) : small k := by obtain ⟨h1, h2, _⟩ := h; exact ⟨by omega, by omega, by omega, h2⟩
theorem poss_cast (k : W.K) : W.possI k.b k.h k.l k.n = (k.poss : Int) := by
  unfold W.possI W.K.poss
  split <;> simp
theorem okK.vld {k : W.K} (h : okK k) : W.vld k.b k.h k.l k.g k.n = true := by
  obtain ⟨h1, h2, h3⟩ := h
  rw [W.vld_iff, poss_cast]; omega

theorem aftI_of {k : W.K} {x : W.L} (hf : W.fits k x = true) (r : Int) :
    W.aftI k.b k.h k.l k.g k.n x.b0 x.b1 x.h0 x.h1 x.l0 x.l1 r = ⟨(aftOf k x r).b, (aftOf k x r).h, (aftOf k x r).l, (aftOf k x r).g, (aftOf k x r).n⟩ := by
  obtain ⟨f1, f2, f3, _⟩ := W.fits_iff.1 hf
  unfold W.aftI aftOf
  split
  · simp only [W.aftE, W.K.to, W.K.coins, imin, W.KI.mk.injEq, and_true]
    refine ⟨by omega, by omega, by omega, ?_⟩
    split <;> omega
  · split
    · simp only [W.aftL, W.K.to, W.K.coins, imin, W.KI.mk.injEq, and_true]
      refine ⟨by omega, by omega, by omega, ?_⟩
      split <;> omega
    · simp only [W.aftR, W.K.to, W.K.coins, imin, W.KI.mk.injEq, and_true]
      refine ⟨by omega, by omega, by omega, ?_⟩
      split <;> omega

theorem aftOf_ok {k : W.K} {x : W.L} (hk : okK k) (hf : W.fits k x = true) (r : Int) (hp : 0 < (aftOf k x r).poss) : okK (aftOf k x r) := by
  obtain ⟨f1, f2, f3, _⟩ := W.fits_iff.1 hf
  obtain ⟨h1, _⟩ := hk
  refine ⟨?_, ?_, hp⟩
  · unfold aftOf
    split
    · simp only [W.aftE, W.K.to]; omega
    · split
      · simp only [W.aftL, W.K.to]; omega
      · simp only [W.aftR, W.K.to]; omega
  · unfold aftOf
    split
    · simp only [W.aftE, W.K.to]; omega
    · split
      · simp only [W.aftL, W.K.to]; omega
      · simp only [W.aftR, W.K.to]; omega

def vKn (k : W.K) : Value := .agg #[.int .i64 (k.b : Int), .int .i64 (k.h : Int), .int .i64 (k.l : Int), .int .i64 (k.g : Int), .bool k.n]

theorem after_K (k : W.K) (x : W.L) (g0 g1 r : Int) (w : World) (hk : okK k) (hf : W.fits k x = true) (e0 : g0 = (x.g0 : Int)) (e1 : g1 = (x.g1 : Int)) (hr : r = -1 ∨ r = 0 ∨ r = 1) :
    Calls Try.prog 53 #[.agg #[.int .i64 (k.b : Int), .int .i64 (k.h : Int), .int .i64 (k.l : Int), .int .i64 (k.g : Int), .bool k.n], .agg #[.int .i64 (x.b0 : Int), .int .i64 (x.b1 : Int), .int .i64 (x.h0 : Int), .int .i64 (x.h1 : Int), .int .i64 (x.l0 : Int), .int .i64 (x.l1 : Int), .int .i64 g0, .int .i64 g1], .int .i64 r] w
      (Ret (.tuple #[vKn (aftOf k x r), .bool (decide (0 < (aftOf k x r).poss))]) w) := by
  have h := after_any k.b k.h k.l k.g x.b0 x.b1 x.h0 x.h1 x.l0 x.l1 g0 g1 r k.n w hk.vld (by rw [W.isLd_fits e0 e1]; exact hf) hr
  rw [aftI_of hf] at h
  have e : afterV ⟨(aftOf k x r).b, (aftOf k x r).h, (aftOf k x r).l, (aftOf k x r).g, (aftOf k x r).n⟩ = .tuple #[vKn (aftOf k x r), .bool (decide (0 < (aftOf k x r).poss))] := by
    unfold afterV vKI vKn W.KI.poss
    simp only [poss_cast]
    congr 3
    simp
  rw [e] at h
  exact h

/-- So many weighings: what 'wins' is asked and answers. -/
def WinsOk (m : Nat) : Prop := ∀ (k : W.K) (bb bm : Nat) (w : World), okK k → At w bb (.map (some bm)) → MemoIs w bm → bb ≠ bm →
  Calls Try.prog 75 #[.pointer (some ⟨bb, 0, none⟩), .agg #[.int .i64 (k.b : Int), .int .i64 (k.h : Int), .int .i64 (k.l : Int), .int .i64 (k.g : Int), .bool k.n], .int .i64 (m : Int)] w
    fun e w' => e = .returned (.bool (W.wins m k)) ∧ Chg [bm] w w' ∧ MemoIs w' bm

/-- The best Load's eight cells. -/
structure LAt (w : World) (A : Nat) (x : W.L) (g0 g1 : Int) : Prop where
  c0 : w.cell? ⟨A, 0, none⟩ = some (.int .i64 (x.b0 : Int))
  c1 : w.cell? ⟨A, 1, none⟩ = some (.int .i64 (x.b1 : Int))
  c2 : w.cell? ⟨A, 2, none⟩ = some (.int .i64 (x.h0 : Int))
  c3 : w.cell? ⟨A, 3, none⟩ = some (.int .i64 (x.h1 : Int))
  c4 : w.cell? ⟨A, 4, none⟩ = some (.int .i64 (x.l0 : Int))
  c5 : w.cell? ⟨A, 5, none⟩ = some (.int .i64 (x.l1 : Int))
  c6 : w.cell? ⟨A, 6, none⟩ = some (.int .i64 g0)
  c7 : w.cell? ⟨A, 7, none⟩ = some (.int .i64 g1)

/-- Of the results before r none is left unsettled. -/
def upR (m : Nat) (k : W.K) (x : W.L) (r : Int) : Prop := ∀ r', -1 ≤ r' → r' < r → W.fine (W.wins m) (aftOf k x r') = true
theorem upR_all {m : Nat} {k : W.K} {x : W.L} {r : Int} (hr : 1 < r) (h : upR m k x r) : W.good (W.wins m) k x = true :=
  W.good_iff.2 ⟨by rw [← aftOf_L]; exact h (-1) (by omega) (by omega), by rw [← aftOf_E]; exact h 0 (by omega) (by omega), by rw [← aftOf_R]; exact h 1 (by omega) (by omega)⟩
theorem upR_not {m : Nat} {k : W.K} {x : W.L} {r : Int} (h1 : -1 ≤ r) (h2 : r ≤ 1) (h : W.fine (W.wins m) (aftOf k x r) = false) : W.good (W.wins m) k x = false := by
  rw [Bool.eq_false_iff]
  intro hg
  obtain ⟨g1, g2, g3⟩ := W.good_iff.1 hg
  rcases (show r = -1 ∨ r = 0 ∨ r = 1 by omega) with rfl | rfl | rfl
  · rw [aftOf_L] at h; exact absurd (h.symm.trans g1) (by decide)
  · rw [aftOf_E] at h; exact absurd (h.symm.trans g2) (by decide)
  · rw [aftOf_R] at h; exact absurd (h.symm.trans g3) (by decide)
theorem upR_succ {m : Nat} {k : W.K} {x : W.L} {r : Int} (h : upR m k x r) (hr : W.fine (W.wins m) (aftOf k x r) = true) : upR m k x (r + 1) := fun r' h1 h2 => by
  rcases (show r' < r ∨ r' = r by omega) with h' | rfl
  · exact h r' h1 h'
  · exact hr

end Go.Proofs.Ytohdjlgghkcaoaa
