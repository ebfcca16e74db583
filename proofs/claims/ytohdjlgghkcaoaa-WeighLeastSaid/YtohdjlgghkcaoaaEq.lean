/- Walks: slices of ints that are read: Equal. -/
import Derived.Test.YtohdjlgghkcaoaaPans1
import Derived.Deep.QuietTactic
namespace Go.Proofs.Ytohdjlgghkcaoaa
open Go.RowKit

/-- A slice of these ints, wherever it lies. -/
def See (w : World) (v : Value) (xs : List Int) : Prop :=
  (xs = [] ∧ ∃ ao cap, v = .slice ao 0 cap) ∨ ∃ a cap, v = .slice (some a) xs.length cap ∧ xs.length ≤ cap ∧ a.block < w.heap.size ∧ ∀ i, i < xs.length → w.cell? (a.add i) = some (.int .i64 (xs.getD i 0))
theorem Chg.cellA {S : List Nat} {a w : World} (h : Chg S a w) {p : Addr} (hb : p.block < a.heap.size) (hs : p.block ∉ S) : w.cell? p = a.cell? p := World.cell?_of_block (h.block _ hb hs)
theorem add_block (a : Addr) (i : Nat) : (a.add i).block = a.block := by unfold Addr.add; split <;> rfl
theorem See.keep {w w' : World} {v : Value} {xs : List Int} (h : See w v xs) (hc : Chg [] w w') : See w' v xs := by
  rcases h with h | ⟨a, cap, e, hle, hb, hx⟩
  · exact .inl h
  · exact .inr ⟨a, cap, e, hle, Nat.lt_of_lt_of_le hb hc.size, fun i hi => (hc.cellA (by rw [add_block]; exact hb) List.not_mem_nil).trans (hx i hi)⟩
theorem add_zero_row (g i : Nat) : (⟨g, 0, none⟩ : Addr).add i = ⟨g, i, none⟩ := by unfold Addr.add; split <;> simp_all
theorem Ints.toSee {w : World} {v : Value} {xs : List Int} (h : Ints w v xs) : See w v xs := by
  rcases h.see with ⟨rfl, rfl⟩ | ⟨g, cap, e, hle, hb, hx⟩
  · exact .inl ⟨rfl, _, _, rfl⟩
  · exact .inr ⟨⟨g, 0, none⟩, cap, e, hle, hb, fun i hi => by rw [add_zero_row]; exact hx i hi⟩
theorem See.len {w : World} {v : Value} {xs : List Int} (h : See w v xs) : ∃ ao cap, v = .slice ao xs.length cap ∧ xs.length ≤ cap ∧ (xs ≠ [] → ∃ a, ao = some a ∧ a.block < w.heap.size ∧ ∀ i, i < xs.length → w.cell? (a.add i) = some (.int .i64 (xs.getD i 0))) := by
  rcases h with ⟨rfl, ao, cap, e⟩ | ⟨a, cap, e, hle, hb, hx⟩
  · exact ⟨ao, cap, e, Nat.zero_le _, fun h => absurd rfl h⟩
  · exact ⟨some a, cap, e, hle, fun _ => ⟨a, rfl, hb, hx⟩⟩

/-- So many of them are the same. -/
def sameTo (xs ys : List Int) (k : Nat) : Prop := ∀ i, i < k → xs.getD i 0 = ys.getD i 0
theorem sameTo_all {xs ys : List Int} (h : xs.length = ys.length) (hs : sameTo xs ys xs.length) : xs = ys := by
  apply List.ext_getElem h
  intro i h1 h2
  have := hs i h1
  simpa [List.getD_eq_getElem?_getD, List.getElem?_eq_getElem h1, List.getElem?_eq_getElem h2] using this
theorem sameTo_succ {xs ys : List Int} {k : Nat} (h : sameTo xs ys k) (he : xs.getD k 0 = ys.getD k 0) : sameTo xs ys (k + 1) := fun i hi => by
  rcases (show i < k ∨ i = k by omega) with h' | rfl
  · exact h i h'
  · exact he

set_option maxRecDepth 100000 in
set_option maxHeartbeats 1000000 in
theorem Equal_any (v u : Value) (xs ys : List Int) (w : World) (hv : See w v xs) (hu : See w u ys) (hl : xs.length < 1000000) :
    Calls Try.prog 32 #[v, u] w (Ret (.bool (decide (xs = ys))) w) := by
  obtain ⟨ao, cap, rfl, _, hA⟩ := hv.len
  obtain ⟨bo, cap', rfl, _, hB⟩ := hu.len
  by_cases he : xs.length = ys.length
  · have HA := hide hA
    have HB := hide hB
    have HE := hide he
    rw [← he]
    have d0 : ((xs.length : Int) == (xs.length : Int)) = true := by simp
    clear hA hB he hv hu
    generalize hn : xs.length = n at *
    have HN := hide hn
    clear hn
    go_enter Try.func32, Try.ntmps32
    go_wp2
    go_loopw [13] (fun i wr => ∃ k : Nat, k ≤ n ∧ i = .int .i64 (k : Int) ∧ Hid (sameTo xs ys k ∧ Chg [] w wr)) (fun i _ => (n - (intOf i).toNat))
    case atStart => exact ⟨0, Nat.zero_le _, rfl, hide ⟨fun i h => by omega, Chg.refl _ _⟩⟩
    case round =>
      obtain ⟨k, hk, rfl, hI⟩ := hrel
      by_cases hlt : k < n
      · have d1 : decide ((k : Int) < (n : Int)) = true := by simpa using hlt
        have nx : xs ≠ [] := fun h => by have := HN.out; rw [h] at this; simp at this; omega
        have ny : ys ≠ [] := fun h => by have := HE.out; rw [h] at this; simp at this; omega
        obtain ⟨a, rfl, ba, ca⟩ := HA.out nx
        obtain ⟨b, rfl, bb, cb⟩ := HB.out ny
        have fx := ((hI.out.2.cellA (by rw [add_block]; exact ba) List.not_mem_nil).trans (ca k hlt))
        have fy := ((hI.out.2.cellA (by rw [add_block]; exact bb) List.not_mem_nil).trans (cb k (by rw [← HE.out]; exact hlt)))
        have hs : sameTo xs ys (k + 1) ∨ xs.getD k 0 ≠ ys.getD k 0 := by
          by_cases h : xs.getD k 0 = ys.getD k 0
          · exact .inl (sameTo_succ hI.out.1 h)
          · exact .inr h
        have hs2 : xs.getD k 0 = ys.getD k 0 → sameTo xs ys (k + 1) := sameTo_succ hI.out.1
        have hs3 : xs.getD k 0 ≠ ys.getD k 0 → xs ≠ ys := fun h h' => h (by rw [h'])
        generalize xs.getD k 0 = x at fx hs2 hs3
        generalize ys.getD k 0 = y at fy hs2 hs3
        clear hs nx ny ba bb ca cb
        have HS2 := hide hs2
        have HS3 := hide hs3
        clear hs2 hs3
        by_cases hxy : x = y
        · have d2 : (x == y) = true := by simpa using hxy
          have HXY := hide hxy
          clear hxy
          go_wp2
          go_quiet (fail)
          go_wp2
          go_roundw
          case rel => exact ⟨k + 1, by omega, by go_num, hide ⟨HS2.out HXY.out, hI.out.2.drewN _⟩⟩
          case measure => simp [intOf]; omega
        · have d2 : (x == y) = false := by simpa using hxy
          have HXY := hide hxy
          clear hxy
          go_wp2
          go_quiet (fail)
          go_wp2
          go_ret
          exact ⟨by rw [decide_eq_false (HS3.out HXY.out)]; rfl, hI.out.2.drewN _⟩
      · have d1 : decide ((k : Int) < (n : Int)) = false := by simpa using hlt
        go_wp2
        go_ret
        obtain rfl : k = n := by omega
        exact ⟨by rw [decide_eq_true (sameTo_all (HN.out.trans HE.out) (by rw [HN.out]; exact hI.out.1))]; rfl, hI.out.2⟩
  · have d0 : ((xs.length : Int) == (ys.length : Int)) = false := by simp; omega
    have hne : xs ≠ ys := fun h => he (by rw [h])
    rw [decide_eq_false hne]
    clear hA hB hv hu he hne
    generalize xs.length = n at *
    generalize ys.length = m at *
    go_enter Try.func32, Try.ntmps32
    go_wp2
    go_ret
    exact ⟨rfl, Chg.refl _ _⟩
end Go.Proofs.Ytohdjlgghkcaoaa
