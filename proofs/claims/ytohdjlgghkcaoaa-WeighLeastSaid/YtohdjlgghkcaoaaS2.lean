/- Walks: slices of slices; the copy of a table. -/
import Derived.Test.YtohdjlgghkcaoaaS1
namespace Go.Proofs.Ytohdjlgghkcaoaa
open Go.RowKit

/-- A slice of slices of these ints, wherever it lies. -/
def See2 (w : World) (v : Value) (t : List (List Int)) : Prop :=
  ∃ ao cap, v = .slice ao t.length cap ∧ t.length ≤ cap ∧ (t ≠ [] → ∃ a, ao = some a ∧ a.block < w.heap.size ∧ ∀ i, i < t.length → ∃ u, w.cell? (a.add i) = some u ∧ See w u (t.getD i []))
theorem See2.keep {w w' : World} {v : Value} {t : List (List Int)} (h : See2 w v t) (hc : Chg [] w w') : See2 w' v t := by
  obtain ⟨ao, cap, e, hle, hA⟩ := h
  refine ⟨ao, cap, e, hle, fun hne => ?_⟩
  obtain ⟨a, rfl, hb, hx⟩ := hA hne
  refine ⟨a, rfl, Nat.lt_of_lt_of_le hb hc.size, fun i hi => ?_⟩
  obtain ⟨u, hu, hs⟩ := hx i hi
  exact ⟨u, (hc.cellA (by rw [add_block]; exact hb) List.not_mem_nil).trans hu, hs.keep hc⟩

theorem infoInts : (Try.prog.info? 51).map (fun i => (i.zero, i.size, i.bytes)) = some (some (.slice none 0 0), 1, 24) := by kernel_rfl

theorem Ints.shape {w : World} {v : Value} {xs : List Int} (h : Ints w v xs) : ∃ a n c, v = .slice a n c := by
  rcases h.see with ⟨e, _⟩ | ⟨g, cap, e, _⟩
  · exact ⟨_, _, _, e⟩
  · exact ⟨_, _, _, e⟩
/-- Rows that the call itself made, in a slice that the call itself made. -/
def Rows2 (w : World) (base : Nat) (v : Value) (t : List (List Int)) : Prop :=
  ∃ us : List Value, us.length = t.length ∧ w.ownsRow base 51 1 v t.length us ∧ ∀ i u, us[i]? = some u → Ints w u (t.getD i [])
theorem Rows2.nil (w : World) (base : Nat) : Rows2 w base (.slice none 0 0) [] := ⟨[], rfl, World.ownsRow_nil _ _ _ _, fun i u h => by simp at h⟩
theorem ints_apart {w w' : World} {base n m : Nat} {v u : Value} {us : List Value} {xs : List Int} (h : w.ownsRow base 51 m v n us) (hu : Ints w u xs) (hg : w.grownBy w' v.ownBlock) : Ints w' u xs := by
  refine World.ownsRow.kept hu hg ?_
  rcases hu.2 with ⟨rfl, _⟩ | ⟨g, cap, cur, rfl, _, hh, _⟩
  · exact .inl rfl
  · refine .inr ?_
    intro e
    rcases h.2 with ⟨rfl, _⟩ | ⟨g', cap', cur', rfl, _, hh', _⟩
    · cases e
    · simp only [Value.ownBlock, Option.some.injEq] at e
      subst e
      rw [hh] at hh'
      simp at hh'
theorem Rows2.push {w w' : World} {base : Nat} {v v' u : Value} {t : List (List Int)} {us : List Value} {xs : List Int} (hl : us.length = t.length) (ho : w.ownsRow base 51 1 v t.length us) (hr : ∀ i u, us[i]? = some u → Ints w u (t.getD i []))
    (hu : Ints w u xs) (hg : w.grownBy w' v.ownBlock) (ho' : w'.ownsRow base 51 1 v' (t.length + 1) (us ++ [u])) : Rows2 w' base v' (t ++ [xs]) := by
  refine ⟨us ++ [u], by simp [hl], by simpa using ho', fun i u' hi => ?_⟩
  rcases Nat.lt_or_ge i us.length with h | h
  · rw [List.getElem?_append_left h] at hi
    have := ints_apart ho (hr i u' hi) hg
    rw [List.getD_eq_getElem?_getD, List.getElem?_append_left (by omega), ← List.getD_eq_getElem?_getD]
    exact this
  · rw [List.getElem?_append_right h] at hi
    have hi0 : i - us.length = 0 := by
      rcases Nat.eq_zero_or_pos (i - us.length) with h' | h'
      · exact h'
      · rw [List.getElem?_eq_none (by simp; omega)] at hi; cases hi
    rw [hi0] at hi
    simp at hi
    subst hi
    have e : i = t.length := by omega
    rw [List.getD_eq_getElem?_getD, e, List.getElem?_append_right (Nat.le_refl _)]
    simpa using ints_apart ho hu hg
theorem Rows2.toSee2 {w : World} {base : Nat} {v : Value} {t : List (List Int)} (h : Rows2 w base v t) : See2 w v t := by
  obtain ⟨us, hl, ho, hr⟩ := h
  rcases ho.2 with ⟨rfl, hn⟩ | ⟨g, cap, cur, rfl, hb, hg, hle, hcap, hsz, ht⟩
  · exact ⟨none, 0, by rw [hn], by omega, fun hne => absurd (List.length_eq_zero_iff.1 hn) hne⟩
  · refine ⟨some ⟨g, 0, none⟩, cap, rfl, hle, fun _ => ⟨_, rfl, (Array.getElem?_eq_some_iff.1 hg).1, fun i hi => ?_⟩⟩
    obtain ⟨x, e⟩ : ∃ x, us[i]? = some x := ⟨_, List.getElem?_eq_getElem (by omega)⟩
    refine ⟨x, ?_, (hr i _ e).toSee⟩
    rw [add_zero_row, cell_of_row w g i cur 51 (0, 0) hg]
    rw [← ht, List.getElem?_take] at e
    split at e
    · simpa using e
    · cases e

set_option maxRecDepth 100000 in
set_option maxHeartbeats 1000000 in
theorem table_any (v : Value) (t : List (List Int)) (w : World) (hv : See2 w v t) (hl : t.length ≤ 9223372036854775807) :
    Calls Try.prog 43 #[v] w fun e w' => ∃ v', e = .returned v' ∧ See2 w' v' ((t.take 16).map (·.take 16)) ∧ Chg [] w w' := by
  obtain ⟨i0, hi, hz0, hz1, hz2⟩ := info_parts infoInts
  obtain ⟨ao, cap, rfl, _, hA⟩ := hv
  have HA := hide hA
  clear hA
  generalize hn : t.length = n at *
  have HN := hide hn
  clear hn
  go_enter Try.func43, Try.ntmps43
  go_wp2
  go_loopw [3, 8] (fun o i wr => ∃ j : Nat, j ≤ n ∧ i = .int .i64 (j : Int) ∧ Hid (Rows2 wr w.heap.size o (((t.take j).take 16).map (·.take 16)) ∧ Chg [] w wr)) (fun _ i _ => (n - (intOf i).toNat))
  case atStart => exact ⟨0, Nat.zero_le _, rfl, hide ⟨Rows2.nil _ _, Chg.refl _ _⟩⟩
  case round =>
    obtain ⟨j, hj, rfl, hI⟩ := hrel
    by_cases hlt : j < n
    · have d1 : decide ((j : Int) < (n : Int)) = true := by simpa using hlt
      have nx : t ≠ [] := fun h => by have := HN.out; rw [h] at this; simp at this; omega
      obtain ⟨a, rfl, ba, ca⟩ := HA.out nx
      obtain ⟨u, hu, hs⟩ := ca j hlt
      have fx := ((hI.out.2.cellA (by rw [add_block]; exact ba) List.not_mem_nil).trans hu)
      have HS := hide (hs.keep hI.out.2)
      clear ca hu hs nx
      by_cases h16 : j < 16
      · have d2 : decide ((j : Int) < 16) = true := by simp; omega
        go_wp2_with fail
        refine (list_any _ _ _ HS.out).mono ?_
        rintro e w1 ⟨u', rfl, hI1, hc1⟩
        obtain ⟨bo, bn, bc, rfl⟩ := hI1.shape
        obtain ⟨us, hus, ho, hr⟩ := hI.out.1
        have hlm : (((t.take j).take 16).map (·.take 16)).length = j := by rw [List.length_map, List.length_take, List.length_take, HN.out]; omega
        have ho1 := hc1.row ho (fun _ _ => List.not_mem_nil)
        rw [hlm] at ho1
        have HO := hide ho1
        have HR := hide (And.intro hus (And.intro ho1 (fun i u h => (hr i u h).keep hc1)))
        have HI1 := hide hI1
        have HC1 := hide hc1
        have HLM := hide hlm
        have hsz := hc1.size
        have hsz0 := hI.out.2.size
        clear hI1 hc1 hus ho hr ho1 hlm fx
        go_wp2_with (at_builtin; refine wpList_append_own _ rfl _ _ 62 rfl w.heap.size 51 i0 (.slice none 0 0) 1 24 Try.underlying62 hi hz0 hz1 hz2 rfl (by decide) _ _ _ rfl (HO.out.alloc _) ⟨w1.heap.size, 0, none⟩ 1 1 [.slice bo bn bc] rfl rfl (by intro j u hj; rw [add_zero_row, (Box.new w1 _ _).cell j]; simpa using hj) (by intro x hx; rw [List.mem_singleton] at hx; subst hx; rfl) (by unfold maxLen; omega) (by omega) (by simp; omega) ?_; intro v1 w2 hown1 hgrow1 _)
        go_roundw
        case rel =>
          refine ⟨j + 1, by omega, by go_num, hide ⟨?_, (((hI.out.2.trans HC1.out).alloc _).grew (HO.out.alloc _) (Nat.le_refl _) hgrow1)⟩⟩
          have e : ((t.take (j + 1)).take 16).map (·.take 16) = ((t.take j).take 16).map (·.take 16) ++ [(t.getD j []).take 16] := by
            rw [List.take_take, List.take_take, Nat.min_eq_right (by omega), Nat.min_eq_right (by omega), List.take_add_one, List.map_append, List.getD_eq_getElem?_getD, List.getElem?_eq_getElem (by rw [HN.out]; exact hlt)]
            rfl
          rw [e]
          have hgA : Chg [] w1 (w1.alloc (.cells #[.slice bo bn bc] 51)) := (Chg.refl _ _).alloc _
          exact Rows2.push (us := us) (u := .slice bo bn bc) (w := w1.alloc (.cells #[.slice bo bn bc] 51)) (by rw [HLM.out]; exact HR.out.1.trans HLM.out) (by rw [HLM.out]; exact HO.out.alloc _) (fun i u h => (HR.out.2.2 i u h).keep hgA) (HI1.out.keep hgA) hgrow1 (by rw [HLM.out]; exact hown1)
        case measure => simp [intOf]; omega
      · have d2 : decide ((j : Int) < 16) = false := by simp; omega
        go_wp2
        go_roundw
        case rel => exact ⟨j + 1, by omega, by go_num, hide ⟨by
          have e : (t.take (j + 1)).take 16 = (t.take j).take 16 := by rw [List.take_take, List.take_take, Nat.min_eq_left (by omega), Nat.min_eq_left (by omega)]
          rw [e]; exact hI.out.1, hI.out.2⟩⟩
        case measure => simp [intOf]; omega
    · have d1 : decide ((j : Int) < (n : Int)) = false := by simpa using hlt
      obtain rfl : j = n := by omega
      go_wp2
      go_ret
      refine ⟨_, rfl, ?_, hI.out.2⟩
      have h := hI.out.1.toSee2
      have e : t.take j = t := List.take_of_length_le (by rw [HN.out]; exact Nat.le_refl _)
      rw [e] at h
      exact h
end Go.Proofs.Ytohdjlgghkcaoaa
