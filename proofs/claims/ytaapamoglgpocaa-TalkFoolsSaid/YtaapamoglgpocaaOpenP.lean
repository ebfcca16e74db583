/- How a slice of pairs is read; walk: pairs, the cut of one. -/
import Derived.Test.YtaapamoglgpocaaOpen
import Derived.Test.YtaapamoglgpocaaPair2
namespace Go.Proofs.Ytaapamoglgpocaa
open Go.ChangeShapes Go.WideShapes Go.ChangeAt Go.RowKit

theorem cellsOfPair : Try.prog.cellsOf 60 = 2 := by kernel_rfl
/-- A slice of pairs. -/
def IsPairs (w : World) (v : Value) : Prop := ∃ ps, SeeP w v ps ∧ ps.length ≤ 9223372036854775807
section
variable {H : Type} {enc : TypeId × Value → H} {w : World} {base : Nat} {spare : Nat → Bool} {held : Bool}
set_option maxRecDepth 100000 in
theorem pair_cells {n : Nat} {cs : List Value} {x : Option (DataW H × List MemPlace)} (hl : cs.length = 2) (h : DataW.trod enc Try.prog w base spare held n 60 cs = x) (hx : x.isSome = true) :
    ∃ y : Pr, cs = [.int .i64 y.1, .int .i64 y.2] := by
  obtain ⟨z, rfl⟩ := Option.isSome_iff_exists.1 hx
  obtain ⟨xs, m, _, _, _, hxl, hg⟩ := DataW.trod_array Try.underlying60 h
  match cs, hl with
  | [c0, c1], _ =>
    have g0 : DataW.trod enc Try.prog w base spare held m 3 [c0] = xs[0]? := by simpa [cellsOfInt] using hg 0 (by omega)
    have g1 : DataW.trod enc Try.prog w base spare held m 3 [c1] = xs[1]? := by simpa [cellsOfInt] using hg 1 (by omega)
    obtain ⟨k0, rfl, _⟩ := cell_int g0 (by simp [hxl])
    obtain ⟨k1, rfl, _⟩ := cell_int g1 (by simp [hxl])
    exact ⟨(k0, k1), rfl⟩
set_option maxRecDepth 100000 in
theorem open_pairs' {r : Reach} {b0 : Nat} {v : Value} {d : DataW H} {ps : List MemPlace} (hv : Value.okWide Try.prog w r b0 46 v) (h : DataW.Trod enc Try.prog w base spare held 46 v d ps) : IsPairs w v := by
  obtain ⟨a0, len0, cap0, rfl⟩ := okWide_slice Try.underlying46 hv
  obtain ⟨fuel, hf⟩ := h
  rcases DataW.trod_slice Try.underlying46 hf with ⟨e, _⟩ | ⟨a, len, cap, elems, rest, n, _, e, _, _, hle, hcap, hlen, hel, _, _⟩
  · have e' : Value.slice a0 len0 cap0 = .slice none 0 0 := by simpa [Value.cells] using e
    cases e'
    exact ⟨[], ⟨none, 0, rfl, by simp, fun h => absurd rfl h⟩, by simp⟩
  · have e' : Value.slice a0 len0 cap0 = .slice (some a) len cap := by simpa [Value.cells] using e
    rw [e']
    have each : ∀ i, ∃ y : Pr, i < len → ∀ k u, ([.int .i64 y.1, .int .i64 y.2] : List Value)[k]? = some u → w.cell? (a.add (i * 2 + k)) = some u := by
      intro i
      by_cases hi : i < len
      · have hb := hel i hi
        rw [cellsOfPair] at hb
        obtain ⟨y, hy⟩ : ∃ y, elems[i]? = some y := ⟨_, List.getElem?_eq_getElem (by omega)⟩
        rw [hy, Option.bind_eq_some_iff] at hb
        obtain ⟨cs', hcs, hy'⟩ := hb
        obtain ⟨_, hl1, hc0⟩ := World.cells?_some hcs
        obtain ⟨z, rfl⟩ := pair_cells hl1 hy' rfl
        refine ⟨z, fun _ k u hk => ?_⟩
        have hk2 : k < 2 := by
          have := (List.getElem?_eq_some_iff.1 hk).1
          simpa using this
        have hc := hc0 k hk2
        have e2 : (a.add (i * 2)).add k = a.add (i * 2 + k) := by
          by_cases h0 : k = 0
          · subst h0; rw [add_nought]; rfl
          · rw [add_in a (i * 2) (by omega : 1 ≤ k)]
            unfold Addr.add
            rw [if_neg h0]
        rw [e2] at hc
        rw [hc]
        exact hk
      · exact ⟨pr0, fun h => absurd h hi⟩
    obtain ⟨f, hf⟩ := Classical.axiomOfChoice each
    have hl : ((List.range len).map f).length = len := by simp
    have hg : ∀ i, i < len → ((List.range len).map f).getD i pr0 = f i := fun i hi => by
      rw [List.getD_eq_getElem?_getD, List.getElem?_map, List.getElem?_range hi]; rfl
    refine ⟨(List.range len).map f, ⟨some a, cap, by rw [hl], by rw [hl]; exact hle, fun hne => ⟨a, rfl, ?_, fun i hi => ?_⟩⟩, by rw [hl]; unfold maxLen at hcap; omega⟩
    · have h0 : 0 < len := by
        rcases Nat.eq_zero_or_pos len with h | h
        · subst h; simp at hne
        · exact h
      have := lt_of_cell (hf 0 h0 0 _ rfl)
      rwa [add_block] at this
    · rw [hl] at hi
      rw [hg i hi]
      have h6 := hf i hi
      exact ⟨h6 0 _ rfl, h6 1 _ rfl⟩
end
theorem SeeP.take {w : World} {ao : Option Addr} {n c : Nat} {ps : List Pr} (h : SeeP w (.slice ao n c) ps) (i : Nat) (hi : i ≤ n) : SeeP w (.slice ao i c) (ps.take i) := by
  obtain ⟨ao', cap, e, hle, hA⟩ := h
  cases e
  have e : (ps.take i).length = i := by rw [List.length_take]; omega
  refine ⟨ao, c, by rw [e], by omega, fun hne => ?_⟩
  obtain ⟨a, rfl, hb, hc⟩ := hA (by rintro rfl; simp at hne)
  refine ⟨a, rfl, hb, fun j hj => ?_⟩
  rw [e] at hj
  have := hc j (by omega)
  rw [List.getD_eq_getElem?_getD, List.getElem?_take, if_pos hj, ← List.getD_eq_getElem?_getD]
  exact this

set_option maxRecDepth 100000 in
set_option maxHeartbeats 1000000 in
theorem pairs_any (v : Value) (l : List Pr) (w : World) (hv : SeeP w v l) :
    Calls Try.prog 39 #[v] w fun e w' => ∃ v', e = .returned v' ∧ SeeP w' v' (l.take 40) ∧ Chg [] w w' := by
  obtain ⟨ao, cap, rfl, hcap⟩ := hv.shape
  have e40 : l.take 40 = l.take (min l.length 40) := by
    rcases Nat.le_total l.length 40 with h | h
    · rw [Nat.min_eq_left h, List.take_of_length_le h, List.take_of_length_le (Nat.le_refl _)]
    · rw [Nat.min_eq_right h]
  have HC := hide (CloneP_any _ _ w (hv.take (min l.length 40) (Nat.min_le_left _ _)) (by rw [List.length_take]; omega))
  rw [e40]
  have HL : Hid ((l.take (min l.length 40)).length = min l.length 40) := hide (by rw [List.length_take]; omega)
  clear hv e40
  generalize hmi : min l.length 40 = m at *
  have hm1 : m ≤ l.length := by omega
  have hm0 : (if l.length < 40 then l.length else 40) = m := by split <;> omega
  generalize l.length = n at *
  have i0 : (0 : Int) ≤ (m : Int) := by omega
  have i1 : (m : Int) ≤ (cap : Int) := by omega
  go_enter Try.func39, Try.ntmps39
  go_wp2_with fail
  all_goals (
    first
      | (obtain rfl : m = n := by omega
         refine HC.out.mono ?_)
      | (obtain rfl : m = 40 := by omega
         refine HC.out.mono ?_)
    rintro e w1 ⟨v1, rfl, ho, hw⟩
    have HS := hide (pairs_see ho)
    have HW := hide hw
    clear ho hw HC
    go_wp2
    go_ret
    exact ⟨v1, rfl, HS.out, HW.out⟩)
end Go.Proofs.Ytaapamoglgpocaa
