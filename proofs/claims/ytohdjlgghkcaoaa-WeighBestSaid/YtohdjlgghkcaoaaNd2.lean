/- Walks: the reference's table, its places; what is known after a weighing. -/
import Derived.Test.YtohdjlgghkcaoaaNd1
import Derived.Test.YtohdjlgghkcaoaaW15
namespace Go.Proofs.Ytohdjlgghkcaoaa
open Go.RowKit

/-- The table's cells. -/
def Tab (w : World) (A : Nat) (t : Nat → Nat) : Prop := ∃ cur, Box w A cur 5 ∧ cur.size = 537824 ∧ ∀ i, i < 537824 → cur[i]? = some (.int .u8 (t i : Int))
theorem Tab.lt {w : World} {A : Nat} {t : Nat → Nat} (h : Tab w A t) : A < w.heap.size := by obtain ⟨c, h, _⟩ := h; exact h.lt
theorem Tab.keep {w w' : World} {A : Nat} {t : Nat → Nat} {S : List Nat} (h : Tab w A t) (hc : Chg S w w') (hs : A ∉ S) : Tab w' A t := by
  obtain ⟨c, h, hc'⟩ := h
  exact ⟨c, h.keep hc hs, hc'⟩
theorem Tab.cell {w : World} {A : Nat} {t : Nat → Nat} (h : Tab w A t) {i : Nat} (hi : i < 537824) : w.cell? ⟨A, i, none⟩ = some (.int .u8 (t i : Int)) := by
  obtain ⟨c, h, _, hc⟩ := h
  rw [h.cell]; exact hc i hi
theorem Tab.free {w : World} {A : Nat} {t : Nat → Nat} (h : Tab w A t) (i : Nat) : w.frozen? ⟨A, i, none⟩ = false := by
  obtain ⟨c, h, _⟩ := h
  exact h.free i
theorem Tab.set {w : World} {A : Nat} {t : Nat → Nat} (h : Tab w A t) (i v : Nat) : Tab (w.setCell ⟨A, i, none⟩ (.int .u8 (v : Int))) A (W.up t i v) := by
  obtain ⟨c, h, hs, hc⟩ := h
  refine ⟨_, h.set i _, by simpa using hs, fun j hj => ?_⟩
  by_cases hij : j = i
  · subst hij
    rw [Array.getElem?_setIfInBounds_self, if_pos (by omega)]
    simp [W.up]
  · rw [Array.getElem?_setIfInBounds_ne (Ne.symm hij), hc j hj]
    simp [W.up, hij]
theorem okK.sm {k : W.K} (h : okK k) : W.sm k := by obtain ⟨h1, h2, _⟩ := h; exact ⟨by omega, by omega, by omega, h2⟩
theorem place_cast (k : W.K) (n : Nat) : (W.place k n : Int) = (if k.n then 2 * ((((((n : Int) * 14 + k.b) * 14 + k.h) * 14 + k.l) * 14) + k.g) + 1 else 2 * ((((((n : Int) * 14 + k.b) * 14 + k.h) * 14 + k.l) * 14) + k.g)) := by
  unfold W.place
  cases k.n <;> simp

set_option maxRecDepth 100000 in
set_option maxHeartbeats 1000000 in
theorem place_any (k : W.K) (n : Nat) (hk : W.sm k) (hn : n ≤ 6) (w : World) :
    Calls Try.prog 78 #[.agg #[.int .i64 (k.b : Int), .int .i64 (k.h : Int), .int .i64 (k.l : Int), .int .i64 (k.g : Int), .bool k.n], .int .i64 (n : Int)] w (Ret (.int .i64 (W.place k n : Int)) w) := by
  rw [place_cast]
  obtain ⟨h1, h2, h3, h4⟩ := hk
  cases k.n
  all_goals
    go_enter Try.func78, Try.ntmps78
    go_wp2
    go_ret
    exact ⟨rfl, by (repeat' (first | with_reducible exact Chg.refl _ _ | with_reducible assumption | with_reducible apply Chg.drewN | with_reducible apply Chg.drew | with_reducible apply Chg.alloc | (with_reducible refine Chg.setCell ?_ (Or.inr ?_) _) | (with_reducible refine Chg.trans ?_ (by assumption)) | (simp; done) | (simp; omega)))⟩

theorem RAfter_K (k : W.K) (x : W.L) (r : Int) (w : World) (hk : okK k) (hf : W.fits k x = true) (r0 : -1 ≤ r) (r1 : r ≤ 1) :
    Calls Try.prog 24 #[.agg #[.int .i64 (k.b : Int), .int .i64 (k.h : Int), .int .i64 (k.l : Int), .int .i64 (k.g : Int), .bool k.n], .agg #[.int .i64 (x.b0 : Int), .int .i64 (x.b1 : Int), .int .i64 (x.h0 : Int), .int .i64 (x.h1 : Int), .int .i64 (x.l0 : Int), .int .i64 (x.l1 : Int), .int .i64 (x.g0 : Int), .int .i64 (x.g1 : Int)], .int .i64 r] w
      (Ret (if 0 < (aftOf k x r).poss then .tuple #[.agg #[.int .i64 ((aftOf k x r).b : Int), .int .i64 ((aftOf k x r).h : Int), .int .i64 ((aftOf k x r).l : Int), .int .i64 ((aftOf k x r).g : Int), .bool (aftOf k x r).n], .int .i64 0]
        else .tuple #[.agg #[.int .i64 0, .int .i64 0, .int .i64 0, .int .i64 0, .bool false], .int .i64 4]) w) := by
  have h := RAfter_any k.b k.h k.l k.g x.b0 x.b1 x.h0 x.h1 x.l0 x.l1 x.g0 x.g1 r k.n w hk.vld (by rw [W.isLd_fits rfl rfl]; exact hf) r0 r1
  rw [aftI_of hf] at h
  unfold afterE at h
  have e : W.KI.poss ⟨(aftOf k x r).b, (aftOf k x r).h, (aftOf k x r).l, (aftOf k x r).g, (aftOf k x r).n⟩ = ((aftOf k x r).poss : Int) := poss_cast _
  rw [e] at h
  by_cases hp : 0 < (aftOf k x r).poss
  · rw [if_pos hp]; rw [if_pos (by omega)] at h; exact h
  · rw [if_neg hp]; rw [if_neg (by omega)] at h; exact h
end Go.Proofs.Ytohdjlgghkcaoaa
