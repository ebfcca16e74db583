/- Walks: the digits of a number, the program's and the reference's. -/
import Derived.Test.YtohdjlgghkcaoaaPansPlain
import Derived.Test.YtohdjlgghkcaoaaW13
import Derived.OwnWalk
namespace Go.Proofs.Ytohdjlgghkcaoaa
open Go.RowKit

theorem infoInt : (Try.prog.info? 3).map (fun i => (i.zero, i.size, i.bytes)) = some (some (.int .i64 0), 1, 8) := by kernel_rfl

/-- A slice of ints that nobody else writes. -/
def Ints (w : World) (v : Value) (xs : List Int) : Prop := w.ownsRow 0 3 1 v xs.length (xs.map (Value.int .i64))
theorem Chg.row {S : List Nat} {w w' : World} (h : Chg S w w') {base : Nat} {e : TypeId} {size : Nat} {v : Value} {n : Nat} {xs : List Value} (ho : w.ownsRow base e size v n xs) (hs : ∀ g, v.ownBlock = some g → g ∉ S) : w'.ownsRow base e size v n xs := by
  refine ⟨ho.1, ?_⟩
  rcases ho.2 with hn | ⟨g, cap, cur, rfl, hb, hg, rest⟩
  · exact .inl hn
  · refine .inr ⟨g, cap, cur, rfl, hb, ?_, rest⟩
    rw [h.block g (Array.getElem?_eq_some_iff.1 hg).1 (hs g rfl)]
    exact hg
theorem row_low {w : World} {base base' : Nat} {e : TypeId} {size : Nat} {v : Value} {n : Nat} {xs : List Value} (h : w.ownsRow base e size v n xs) (hb : base' ≤ base) : w.ownsRow base' e size v n xs := by
  refine ⟨h.1, ?_⟩
  rcases h.2 with hn | ⟨g, cap, cur, rfl, hb', rest⟩
  · exact .inl hn
  · exact .inr ⟨g, cap, cur, rfl, by omega, rest⟩
theorem Ints.keep {w w' : World} {v : Value} {xs : List Int} (h : Ints w v xs) (hc : Chg [] w w') : Ints w' v xs := hc.row h (fun _ _ => List.not_mem_nil)
theorem Ints.see {w : World} {v : Value} {xs : List Int} (h : Ints w v xs) : (v = .slice none 0 0 ∧ xs = []) ∨ ∃ g cap, v = .slice (some ⟨g, 0, none⟩) xs.length cap ∧ xs.length ≤ cap ∧ g < w.heap.size ∧ ∀ i, i < xs.length → w.cell? ⟨g, i, none⟩ = some (.int .i64 (xs.getD i 0)) := by
  rcases h.2 with ⟨rfl, hn⟩ | ⟨g, cap, cur, rfl, hb, hg, hle, hcap, hsz, ht⟩
  · exact .inl ⟨rfl, List.length_eq_zero_iff.1 hn⟩
  · refine .inr ⟨g, cap, rfl, hle, (Array.getElem?_eq_some_iff.1 hg).1, fun i hi => ?_⟩
    rw [cell_of_row w g i cur 3 (0, 0) hg]
    have e : (xs.map (Value.int .i64))[i]? = some (.int .i64 (xs.getD i 0)) := by
      rw [List.getElem?_map, List.getElem?_eq_getElem hi, List.getD_eq_getElem?_getD, List.getElem?_eq_getElem hi]
      rfl
    rw [← ht, List.getElem?_take] at e
    split at e
    · simpa using e
    · cases e
/-- What an append leaves. -/
theorem Chg.grew {w w1 w2 : World} {base : Nat} {v : Value} {e : TypeId} {size n : Nat} {xs : List Value} (h : Chg [] w w1) (ho : w1.ownsRow base e size v n xs) (hb : w.heap.size ≤ base) (hg : w1.grownBy w2 v.ownBlock) : Chg [] w w2 :=
  h.grown hg (fun k hk => .inr (Nat.le_trans hb (ho.lt k hk).1))

set_option maxRecDepth 100000 in
set_option maxHeartbeats 1000000 in
theorem RPans_any (n : Int) (w : World) (h0 : -1000 ≤ n) (h1 : n ≤ 1000) :
    Calls Try.prog 33 #[.int .i64 n] w fun e w' => ∃ v, e = .returned v ∧ Ints w' v (W.digs 7 n) ∧ Chg [] w w' := by
  obtain ⟨i0, hi, hz0, hz1, hz2⟩ := info_parts infoInt
  go_enter Try.func33, Try.ntmps33
  go_wp2
  go_loopw [0, 3] (fun m v wr => ∃ (f : Nat) (c : Int) (pre : List Int), m = .int .i64 c ∧ f ≤ 7 ∧ c ≤ W.qf f ∧ -W.qf f ≤ c ∧ Hid (W.digs 7 n = pre ++ W.digs f c ∧ pre.length ≤ 7 - f ∧ wr.ownsRow w.heap.size 3 1 v pre.length (pre.map (Value.int .i64)) ∧ Chg [] w wr)) (fun m _ _ => (intOf m).natAbs)
  case atStart => exact ⟨7, n, [], rfl, Nat.le_refl _, by rw [W.qf7]; omega, by rw [W.qf7]; omega, hide ⟨rfl, Nat.zero_le _, World.ownsRow_nil _ _ _ _, Chg.refl _ _⟩⟩
  case round =>
    obtain ⟨f, c, pre, rfl, hf, hc1, hc2, hI⟩ := hrel
    have hq := W.qf_le hf
    by_cases hc : c = 0
    · subst hc
      go_wp2
      go_ret
      refine ⟨_, rfl, ?_, hI.out.2.2.2⟩
      have h := hI.out.1
      rw [W.digs_zero, List.append_nil] at h
      rw [h]
      exact row_low hI.out.2.2.1 (Nat.zero_le _)
    · have d0 : (c == 0) = false := by simpa using hc
      obtain ⟨g, rfl, hd, hb1, hb2⟩ := W.digs_cons hc1 hc2 hc
      obtain ⟨q, e1, e2, e3, e4⟩ := W.bal_spec c
      have t1 : (c.tmod 3 + 4).tmod 3 = W.bal c + 1 := W.rbal c
      have t2 : (c - (W.bal c + 1) + 1).tdiv 3 = W.bnx c := by rw [show c - (W.bal c + 1) + 1 = c - W.bal c by omega]; rfl
      have t3 := W.tm3_le c
      have HD := hide (And.intro hd (And.intro hb1 (And.intro hb2 (And.intro e1 e2))))
      have hw : -1093 ≤ W.bnx c ∧ W.bnx c ≤ 1093 := by have := W.qf_le (show g ≤ 7 by omega); omega
      clear hd hb1 hb2 e1 e2 hc
      have hlen := hI.out.2.1
      have hown := hI.out.2.2.1
      have hch := hI.out.2.2.2.size
      go_wp2_with (at_builtin; refine wpList_append_own _ rfl _ _ 51 rfl w.heap.size 3 i0 (.int .i64 0) 1 8 Try.underlying51 hi hz0 hz1 hz2 rfl (by decide) _ _ _ rfl (hown.alloc _) ⟨wr.heap.size, 0, none⟩ 1 1 [.int .i64 (W.bal c)] rfl rfl (by intro j u hj; match j, hj with | 0, hj => simp at hj; subst hj; simp [Addr.add]) (by intro u hu; simp at hu; subst hu; rfl) (by unfold maxLen; omega) (by omega) (by simp; omega) ?_; intro v1 w1 hown1 hgrow1 _)
      go_roundw
      case rel =>
        obtain ⟨hd, hb1, hb2, e1, e2⟩ := HD.out
        refine ⟨g, W.bnx c, pre ++ [W.bal c], rfl, by omega, hb1, hb2, hide ⟨?_, by simp; omega, ?_, (hI.out.2.2.2.alloc _).grew (hown.alloc _) (Nat.le_refl _) hgrow1⟩⟩
        · rw [hI.out.1, hd, List.append_assoc]; rfl
        · simpa using hown1
      case measure =>
        obtain ⟨hd, hb1, hb2, e1, e2⟩ := HD.out
        have hc : c ≠ 0 := by simpa using d0
        simp [intOf]; omega
end Go.Proofs.Ytohdjlgghkcaoaa
