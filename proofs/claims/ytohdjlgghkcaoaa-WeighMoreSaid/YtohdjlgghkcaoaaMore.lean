/- What the searches say of the swapped and of one good coin more. -/
import Derived.Test.YtohdjlgghkcaoaaLaw6
namespace Go.Proofs.Ytohdjlgghkcaoaa
open Go.RowKit

/-- No fewer good coins: no more weighings. -/
theorem W.need_more {k : W.K} {n : Nat} (h : W.need 6 k = some n) : ∃ m, m ≤ n ∧ W.need 6 ⟨k.b, k.h, k.l, k.g + 1, k.n⟩ = some m := by
  obtain ⟨h1, h2, -⟩ := W.need_some.1 h
  have h3 : W.wins n ⟨k.b, k.h, k.l, k.g + 1, k.n⟩ = true := W.wins_more (k := k) (k' := ⟨k.b, k.h, k.l, k.g + 1, k.n⟩) rfl rfl rfl rfl (Nat.le_succ _) h2
  cases hm : W.need 6 ⟨k.b, k.h, k.l, k.g + 1, k.n⟩ with
  | none => have := W.need_none.1 hm n h1; rw [h3] at this; cases this
  | some m =>
    refine ⟨m, ?_, rfl⟩
    obtain ⟨-, -, h5⟩ := W.need_some.1 hm
    rcases Nat.lt_or_ge n m with hlt | hge
    · have := h5 n hlt; rw [h3] at this; cases this
    · exact hge
theorem W.need_swap (k : W.K) : W.need 6 k.swap = W.need 6 k := by
  cases h : W.need 6 k with
  | none => rw [W.need_none] at h ⊢; intro j hj; rw [W.wins_swap]; exact h j hj
  | some n =>
    rw [W.need_some] at h ⊢
    exact ⟨h.1, by rw [W.wins_swap]; exact h.2.1, fun j hj => by rw [W.wins_swap]; exact h.2.2 j hj⟩

theorem need_facts (b h l g : Int) (n : Bool) (hv : W.vld b h l g n = true) : ∃ x e : Int, (e = 0 ∨ e = 4) ∧
    (∀ w, Calls Try.prog 16 #[.agg #[.int .i64 b, .int .i64 h, .int .i64 l, .int .i64 g, .bool n]] w (Ret (.tuple #[.int .i64 x, .int .i64 e]) w)) ∧
    (∀ w, Calls Try.prog 16 #[.agg #[.int .i64 b, .int .i64 l, .int .i64 h, .int .i64 g, .bool n]] w (Ret (.tuple #[.int .i64 x, .int .i64 e]) w)) ∧
    (g < 13 → ∃ y f : Int, (e = 0 → f = 0 ∧ y ≤ x) ∧ ∀ w, Calls Try.prog 16 #[.agg #[.int .i64 b, .int .i64 h, .int .i64 l, .int .i64 (g + 1), .bool n]] w (Ret (.tuple #[.int .i64 y, .int .i64 f]) w)) := by
  obtain ⟨k, hk, rfl, rfl, rfl, rfl, rfl⟩ := vld_K hv
  have hs : okK k.swap := ⟨by have := hk.1; show k.b + k.l + k.h ≤ 13; omega, hk.2.1, by rw [W.poss_swap]; exact hk.2.2⟩
  have N1 := fun w => Need_yes k hk w
  have N2 := fun w => Need_yes k.swap hs w
  rw [W.need_swap] at N2
  have N3 : (k.g : Int) < 13 → ∀ w, _ := fun hg w => Need_yes ⟨k.b, k.h, k.l, k.g + 1, k.n⟩ ⟨hk.1, by simp only []; omega, hk.2.2⟩ w
  cases hn : W.need 6 k with
  | none =>
    rw [hn] at N1 N2
    refine ⟨0, 4, .inr rfl, N1, N2, fun hg => ?_⟩
    have N := N3 hg
    cases hm : W.need 6 ⟨k.b, k.h, k.l, k.g + 1, k.n⟩ with
    | none => rw [hm] at N; exact ⟨0, 4, fun h => absurd h (by decide), N⟩
    | some m => rw [hm] at N; exact ⟨m, 0, fun h => absurd h (by decide), N⟩
  | some x =>
    rw [hn] at N1 N2
    refine ⟨x, 0, .inl rfl, N1, N2, fun hg => ?_⟩
    have N := N3 hg
    obtain ⟨m, hle, hm⟩ := W.need_more hn
    rw [hm] at N
    exact ⟨m, 0, fun _ => ⟨rfl, by omega⟩, N⟩
/-- What After says of each result: no load; it cannot come; or a state with so many possibilities, and these sum to those before. -/
theorem more_after (b h l g b0 b1 h0 h1 l0 l1 g0 g1 : Int) (n : Bool) (hv : W.vld b h l g n = true) : ∃ p : Int → Int, (∀ r, 0 ≤ p r ∧ p r ≤ 27) ∧ p (-1) + p 0 + p 1 = W.possI b h l n ∧
    ∀ r, -1 ≤ r → r ≤ 1 → ∃ b' h' l' g' : Int, ∃ n' : Bool, ∃ e' : Int, (e' = 2 ∨ (e' = 4 ∧ p r = 0) ∨ (e' = 0 ∧ 0 < p r ∧ W.possI b' h' l' n' = p r ∧ 0 ≤ b' ∧ b' ≤ 13 ∧ 0 ≤ h' ∧ h' ≤ 13 ∧ 0 ≤ l' ∧ l' ≤ 13)) ∧
      ∀ w, Calls Try.prog 18 #[.agg #[.int .i64 b, .int .i64 h, .int .i64 l, .int .i64 g, .bool n], .agg #[.int .i64 b0, .int .i64 b1, .int .i64 h0, .int .i64 h1, .int .i64 l0, .int .i64 l1, .int .i64 g0, .int .i64 g1], .int .i64 r] w (Ret (.tuple #[.agg #[.int .i64 b', .int .i64 h', .int .i64 l', .int .i64 g', .bool n'], .int .i64 e']) w) := by
  obtain ⟨a1, a2, a3, a4, a5, a6, a7, a8, a9, a10⟩ := W.vld_iff.1 hv
  have hp : 0 ≤ W.possI b h l n ∧ W.possI b h l n ≤ 27 := by unfold W.possI at a10 ⊢; split <;> omega
  cases hL : W.isLd b h l g b0 b1 h0 h1 l0 l1 g0 g1 with
  | false =>
    refine ⟨fun r => if r = -1 then W.possI b h l n else 0, fun r => ?_, by simp, fun r _ _ => ⟨0, 0, 0, 0, false, 2, .inl rfl, fun w => ?_⟩⟩
    · show 0 ≤ (if r = -1 then W.possI b h l n else 0) ∧ (if r = -1 then W.possI b h l n else 0) ≤ 27
      split <;> omega
    · exact After_no b h l g b0 b1 h0 h1 l0 l1 g0 g1 r n w (.inr ⟨hv, .inl hL⟩)
  | true =>
    obtain ⟨⟨x1, x2, x3⟩, ⟨x4, x5, x6⟩, ⟨x7, x8, x9⟩, -, -, -⟩ := W.isLd_iff.1 hL
    have hpp : ∀ r, 0 ≤ (W.aftI b h l g n b0 b1 h0 h1 l0 l1 r).poss ∧ (W.aftI b h l g n b0 b1 h0 h1 l0 l1 r).poss ≤ 27 ∧
        0 ≤ (W.aftI b h l g n b0 b1 h0 h1 l0 l1 r).b ∧ (W.aftI b h l g n b0 b1 h0 h1 l0 l1 r).b ≤ 13 ∧ 0 ≤ (W.aftI b h l g n b0 b1 h0 h1 l0 l1 r).h ∧ (W.aftI b h l g n b0 b1 h0 h1 l0 l1 r).h ≤ 13 ∧ 0 ≤ (W.aftI b h l g n b0 b1 h0 h1 l0 l1 r).l ∧ (W.aftI b h l g n b0 b1 h0 h1 l0 l1 r).l ≤ 13 := fun r => by
      unfold W.aftI W.KI.poss
      split
      · simp only [W.possI]; split <;> omega
      · split
        · simp only [W.possI]; simp; omega
        · simp only [W.possI]; simp; omega
    refine ⟨fun r => (W.aftI b h l g n b0 b1 h0 h1 l0 l1 r).poss, fun r => ⟨(hpp r).1, (hpp r).2.1⟩, ?_, fun r h0' h1' => ?_⟩
    · simp only [W.aftI, W.KI.poss, W.possI]
      simp
      split <;> omega
    · have hA := fun w => After_yes b h l g b0 b1 h0 h1 l0 l1 g0 g1 r n w hv hL h0' h1'
      by_cases hq : 0 < (W.aftI b h l g n b0 b1 h0 h1 l0 l1 r).poss
      · rw [← afterE_yes hq] at hA
        exact ⟨_, _, _, _, _, 0, .inr (.inr ⟨rfl, hq, rfl, (hpp r).2.2⟩), hA⟩
      · rw [← afterE_no hq] at hA
        exact ⟨0, 0, 0, 0, false, 4, .inr (.inl ⟨rfl, by have := (hpp r).1; show (W.aftI b h l g n b0 b1 h0 h1 l0 l1 r).poss = 0; omega⟩), hA⟩

/-- The possibilities of the results before r. -/
def upPs (p : Int → Int) (r : Int) : Int := if r ≤ -1 then 0 else if r = 0 then p (-1) else if r = 1 then p (-1) + p 0 else p (-1) + p 0 + p 1
theorem upPs_start (p : Int → Int) : upPs p (-1) = 0 := rfl
theorem upPs_end (p : Int → Int) {r : Int} (h : 1 < r) : upPs p r = p (-1) + p 0 + p 1 := by unfold upPs; rw [if_neg (by omega), if_neg (by omega), if_neg (by omega)]
theorem upPs_succ (p : Int → Int) {r : Int} (h0 : -1 ≤ r) (h1 : r ≤ 1) : upPs p (r + 1) = upPs p r + p r := by
  rcases (show r = -1 ∨ r = 0 ∨ r = 1 by omega) with rfl | rfl | rfl <;> simp [upPs]
theorem upPs_le {p : Int → Int} (h : ∀ r, 0 ≤ p r ∧ p r ≤ 27) (r : Int) : 0 ≤ upPs p r ∧ upPs p r ≤ 81 := by
  have h1 := h (-1)
  have h2 := h 0
  have h3 := h 1
  unfold upPs
  split
  · omega
  · split
    · omega
    · split <;> omega
end Go.Proofs.Ytohdjlgghkcaoaa
