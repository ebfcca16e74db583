/- The map of what was tried: a look-up and a store. -/
import Derived.Test.YtohdjlgghkcaoaaW8
import Derived.DeepKeys4
import Derived.Test.YtohdjlgghkcaoaaOpen
import Derived.Maps.Keyed
namespace Go.Proofs.Ytohdjlgghkcaoaa
open Go.RowKit Go.WideMaps

theorem rowTry : (112 : TypeId) < Try.prog.types.size := Nat.le_of_ble_eq_true (by kernel_rfl)
theorem deepTry : Try.prog.keyTypeAt (Try.prog.types.size + 1) 112 = true := by kernel_rfl
theorem lawTry : KeyLaw Try.prog 112 := deep_law_laid laidOut (m := 4) (by omega) rowTry (by kernel_rfl) (by kernel_rfl)
theorem cellsTry : Try.prog.cellsOf 112 = 6 := by kernel_rfl
theorem cellsKnown : Try.prog.cellsOf 27 = 5 := by kernel_rfl
theorem cellsInt : Try.prog.cellsOf 3 = 1 := by kernel_rfl
theorem cellsBool : Try.prog.cellsOf 4 = 1 := by kernel_rfl
theorem sizeTypes : ∃ s, Try.prog.types.size + 1 = s + 4 := by
  have h : 4 ≤ Try.prog.types.size := Nat.le_of_ble_eq_true (by kernel_rfl)
  obtain ⟨s, e⟩ := Nat.exists_eq_add_of_le h
  exact ⟨s + 1, by rw [e, Nat.add_comm 4 s, Nat.add_right_comm]⟩

def keyV (b h l g : Int) (n : Bool) (m : Int) : Value := .agg #[.int .i64 b, .int .i64 h, .int .i64 l, .int .i64 g, .bool n, .int .i64 m]

def in63 (x : Int) : Prop := -9223372036854775808 ≤ x ∧ x ≤ 9223372036854775807
theorem wf63 {x : Int} (h : in63 x) : (Lit.int .i64 x).wf = true := WalkArith.wf_i64 h

theorem key_some {b h l g m : Int} {n : Bool} (hb : in63 b) (hh : in63 h) (hl : in63 l) (hg : in63 g) (hm : in63 m) : ∃ x, keyOf Try.prog 112 (keyV b h l g n m) = some x := by
  obtain ⟨s, hs⟩ := sizeTypes
  have hf : (keyV b h l g n m).formed Try.prog 112 = true := by simp [keyV, Value.formed, Try.underlying112, cellsTry]
  have hk : Try.prog.keyType 112 = true := deepTry
  unfold keyOf
  simp only [Try.underlying112, hk, hf, Bool.and_self, if_true, hs]
  simp [keyV, Value.cells, Program.keyLits, Try.underlying112, Try.underlying27, Try.underlying3, Try.underlying4, cellsTry, cellsKnown, cellsInt, cellsBool, wf63 hb, wf63 hh, wf63 hl, wf63 hg, wf63 hm]
  rw [if_pos (by decide)]
  exact ⟨_, rfl⟩

def keyK (k : W.K) (m : Nat) : Value := keyV k.b k.h k.l k.g k.n m
theorem keyK_inj {k k' : W.K} {m m' : Nat} (h : keyK k m = keyK k' m') : k = k' ∧ m = m' := by
  obtain ⟨b, h1, l, g, n⟩ := k
  obtain ⟨b', h', l', g', n'⟩ := k'
  simp [keyK, keyV] at h
  obtain ⟨h0, h2, h3, h4, rfl, h5⟩ := h
  refine ⟨?_, by omega⟩
  rw [W.K.mk.injEq]
  exact ⟨by omega, by omega, by omega, by omega, rfl⟩
theorem keyK_some {k : W.K} {m : Nat} (hk : small k) (hm : m ≤ 6) : ∃ x, keyOf Try.prog 112 (keyK k m) = some x := by
  obtain ⟨h1, h2, h3, h4⟩ := hk
  exact key_some ⟨by omega, by omega⟩ ⟨by omega, by omega⟩ ⟨by omega, by omega⟩ ⟨by omega, by omega⟩ ⟨by omega, by omega⟩

/-- Whatever the map holds is right. -/
def MemoIs (w : World) (bm : Nat) : Prop :=
  ∃ es clock, w.heap[bm]? = some (.map es clock) ∧ ∀ e ∈ es.toList, ∃ (k : W.K) (m : Nat), small k ∧ m ≤ 6 ∧ e.key = keyK k m ∧ e.val = .bool (W.wins m k)

theorem MemoIs.lt {w : World} {bm : Nat} (h : MemoIs w bm) : bm < w.heap.size := by
  obtain ⟨es, clock, hb, _⟩ := h
  exact (Array.getElem?_eq_some_iff.1 hb).1
theorem MemoIs.keep {w w' : World} {bm : Nat} {S : List Nat} (h : MemoIs w bm) (hc : Chg S w w') (hs : bm ∉ S) : MemoIs w' bm := by
  have hlt := h.lt
  obtain ⟨es, clock, hb, he⟩ := h
  exact ⟨es, clock, (hc.block bm hlt hs).trans hb, he⟩
theorem MemoIs.new (w : World) : MemoIs (w.alloc (.map #[] 0)) w.heap.size := ⟨#[], 0, heap_alloc_new _ _, by simp⟩

theorem zeroBool (w : World) : (zeroValue 4).run Try.prog w = .ok (.bool false) w := by kernel_rfl
theorem keyed : Maps.Keyed Try.prog 112 := Maps.Keyed.of_law lawTry

theorem MemoIs.look {w : World} {bm : Nat} (h : MemoIs w bm) {k : W.K} {m : Nat} (hk : small k) (hm : m ≤ 6) :
    ∃ v ok, (Instr.lookup 77 (.map (some bm)) (keyK k m) true).run Try.prog w = .ok (.tuple #[.bool v, .bool ok]) w ∧ (ok = true → v = W.wins m k) := by
  obtain ⟨es, clock, hb, he⟩ := h
  obtain ⟨kl, hkey⟩ := keyK_some hk hm
  have hkeys : ∀ e ∈ es.toList, ∃ l, keyOf Try.prog 112 e.key = some l := fun e hm => by
    obtain ⟨k', m', h1, h2, h3, _⟩ := he e hm
    rw [h3]; exact keyK_some h1 h2
  rcases keyed.find w hkey es.toList hkeys with ⟨h1, _⟩ | ⟨j, e0, h1, h2, h3⟩
  · exact ⟨false, false, by simp [Instr.lookup, run_underlying Try.underlying77, MapKept.run_getObj_map hb, keyed.check w _ hkey, h1, Result.andThen], fun e => by cases e⟩
  · obtain ⟨k', m', _, _, e1, e2⟩ := he e0 (List.mem_of_getElem? h2)
    obtain ⟨rfl, rfl⟩ := keyK_inj (h3.symm.trans e1)
    exact ⟨W.wins m k, true, by simp [Instr.lookup, run_underlying Try.underlying77, MapKept.run_getObj_map hb, keyed.check w _ hkey, h1, e2, Result.andThen], fun _ => rfl⟩

theorem chg_setBlock {w : World} {b : Nat} (o : Obj) : Chg [b] w (ChangeMaps.setBlock w b o) := by
  refine ⟨rfl, rfl, rfl, by simp [ChangeMaps.setBlock], fun k _ hs => ?_⟩
  simp only [ChangeMaps.setBlock, Array.getElem?_setIfInBounds]
  rw [if_neg (by simp at hs; omega)]

theorem MemoIs.store {w : World} {bm : Nat} (h : MemoIs w bm) {k : W.K} {m : Nat} (hk : small k) (hm : m ≤ 6) :
    ∃ w', (Instr.mapUpdate 77 (.map (some bm)) (keyK k m) (.bool (W.wins m k))).run Try.prog w = .ok () w' ∧ MemoIs w' bm ∧ Chg [bm] w w' := by
  have hlt := h.lt
  obtain ⟨es, clock, hb, he⟩ := h
  obtain ⟨kl, hkey⟩ := keyK_some hk hm
  have hkeys : ∀ e ∈ es.toList, ∃ l, keyOf Try.prog 112 e.key = some l := fun e hm => by
    obtain ⟨k', m', h1, h2, h3, _⟩ := he e hm
    rw [h3]; exact keyK_some h1 h2
  rcases keyed.find w hkey es.toList hkeys with ⟨h1, _⟩ | ⟨j, e0, h1, h2, h3⟩
  · refine ⟨ChangeMaps.setBlock w bm (.map (es.push ⟨keyK k m, .bool (W.wins m k), clock⟩) (clock + 1)), ?_, ⟨_, _, ChangeMaps.heap_setBlock_same hb _, ?_⟩, chg_setBlock _⟩
    · simp [Instr.mapUpdate, run_underlying Try.underlying77, MapKept.run_getObj_map hb, keyed.check w false hkey, h1, MapKept.run_setObj_map _ hb, Result.andThen, ChangeMaps.setBlock]
    · intro e hm'
      simp only [Array.toList_push, List.mem_append, List.mem_singleton] at hm'
      rcases hm' with hm' | rfl
      · exact he e hm'
      · exact ⟨k, m, hk, hm, rfl, rfl⟩
  · have hj : j < es.size := by have := (List.getElem?_eq_some_iff.1 h2).1; simpa using this
    have hej : es[j]? = some e0 := by rw [← Array.getElem?_toList]; exact h2
    refine ⟨ChangeMaps.setBlock w bm (.map (es.modify j fun e => { e with key := keyK k m, val := .bool (W.wins m k) }) clock), ?_, ⟨_, _, ChangeMaps.heap_setBlock_same hb _, ?_⟩, chg_setBlock _⟩
    · simp [Instr.mapUpdate, run_underlying Try.underlying77, MapKept.run_getObj_map hb, keyed.check w false hkey, h1, hej, h3, keyed.stays w hkey, MapKept.run_setObj_map _ hb, Result.andThen, ChangeMaps.setBlock]
    · intro e hm'
      obtain ⟨i, hi⟩ := List.mem_iff_getElem?.1 hm'
      rw [Array.getElem?_toList, Array.getElem?_modify] at hi
      split at hi
      · obtain ⟨e', he', rfl⟩ := Option.map_eq_some_iff.1 hi
        exact ⟨k, m, hk, hm, rfl, rfl⟩
      · exact he e (by rw [← Array.getElem?_toList] at hi; exact List.mem_of_getElem? hi)
end Go.Proofs.Ytohdjlgghkcaoaa
