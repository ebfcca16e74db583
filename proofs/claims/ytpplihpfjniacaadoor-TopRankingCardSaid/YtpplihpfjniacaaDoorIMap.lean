/- Maps by ints: what they hold, as functions. -/
import Derived.Test.YtpplihpfjniacaaDoorValid
import Derived.DeepKeys4
import Derived.OpenShut
import Derived.Maps.Keyed
import Derived.Maps.OwnSet
import Derived.Maps.Range
import Derived.Deep.RegionHeld3
namespace Go.Proofs.YtpplihpfjniacaaDoor
namespace IM
open Go.RowKit Go.Maps Go.WideMaps

theorem keyedV : Maps.Keyed Tryd.prog 3 := Maps.int_keyed Tryd.underlying3
theorem cellsInt : Tryd.prog.cellsOf 3 = 1 := by kernel_rfl
theorem sizeTypes : ∃ s, Tryd.prog.types.size + 1 = s + 4 := by
  have h : 4 ≤ Tryd.prog.types.size := Nat.le_of_ble_eq_true (by kernel_rfl)
  obtain ⟨s, e⟩ := Nat.exists_eq_add_of_le h
  exact ⟨s + 1, by rw [e, Nat.add_comm 4 s, Nat.add_right_comm]⟩
theorem wfN {x : Nat} (h : x < 65536) : (Lit.int .i64 (x : Int)).wf = true := WalkArith.wf_i64 (by omega)
def ikV (r : Nat) : Value := .int .i64 (r : Int)
theorem key_some {r : Nat} (hr : r < 65536) : ∃ x, keyOf Tryd.prog 3 (ikV r) = some x := ⟨_, keyOf_int_mk Tryd.underlying3 (wfN hr)⟩
theorem ikV_inj {r r' : Nat} (h : ikV r = ikV r') : r = r' := by
  simp [ikV] at h
  omega

/-- The map reads as this function of ints. -/
def MapF {V : Type} (enc : V → DataW Unit) (D : DataW Unit) (f : Nat → Option V) : Prop :=
  Tidy D ∧ (∀ k, Maps.has D k = true → ∃ r, r < 65536 ∧ keyOf Tryd.prog 3 (ikV r) = some k) ∧
    ∀ r k, r < 65536 → keyOf Tryd.prog 3 (ikV r) = some k → Maps.has D k = (f r).isSome ∧ ∀ v, f r = some v → ∀ z, D.atKey k z = enc v
def upd {V : Type} (f : Nat → Option V) (r : Nat) (v : V) (r' : Nat) : Option V := if r' = r then some v else f r'
theorem upd_same {V : Type} (f : Nat → Option V) (r : Nat) (v : V) : upd f r v r = some v := by unfold upd; rw [if_pos rfl]
theorem upd_other {V : Type} (f : Nat → Option V) {r r' : Nat} (v : V) (h : ¬ r' = r) : upd f r v r' = f r' := by unfold upd; rw [if_neg h]
theorem MapF.nil {V : Type} (enc : V → DataW Unit) : MapF enc (.map []) (fun _ => none) := ⟨tidy_empty, fun k h => absurd h (by simp [Maps.has]), fun _ _ _ _ => ⟨rfl, fun _ h => by cases h⟩⟩
theorem MapF.put {V : Type} {enc : V → DataW Unit} {D : DataW Unit} {f : Nat → Option V} (h : MapF enc D f) {r : Nat} {k : Lit} (hr : r < 65536) (hk : keyOf Tryd.prog 3 (ikV r) = some k) (v : V) : MapF enc (D.put k (enc v)) (upd f r v) := by
  have hkl := keyedV.key hk
  refine ⟨h.1.put hkl _, fun k' hk' => ?_, fun r' k' hr' hk' => ?_⟩
  · by_cases e : k' = k
    · rw [e]; exact ⟨r, hr, hk⟩
    · rw [has_put_other e] at hk'
      exact h.2.1 k' hk'
  · by_cases e : r' = r
    · obtain rfl := e
      rw [hk] at hk'
      cases hk'
      rw [upd_same]
      exact ⟨has_put_same h.1.isMap hkl _, fun v' hv' z => by cases hv'; exact atKey_put_same h.1.isMap hkl _ _⟩
    · rw [upd_other _ _ e]
      have hne : k' ≠ k := fun e' => by
        rw [e'] at hk'
        exact e (ikV_inj (keyedV.inj hk' hk))
      rw [has_put_other hne]
      obtain ⟨h1, h2⟩ := h.2.2 r' k' hr' hk'
      exact ⟨h1, fun v' hv' z => by rw [atKey_put_other hne]; exact h2 v' hv' z⟩
theorem nodup_of_pairs {es : List (Lit × DataW Unit)} (h : es.Pairwise (fun p q => p.1 ≠ q.1)) : (es.map (·.1)).Nodup := by
  unfold List.Nodup
  rw [List.pairwise_map]
  exact h
theorem len_le_of_mem {α : Type} [DecidableEq α] : ∀ (l r : List α), l.Nodup → (∀ x ∈ l, x ∈ r) → l.length ≤ r.length
  | [], _, _, _ => Nat.zero_le _
  | x :: l, r, hn, hs => by
    have hx := hs x (List.mem_cons_self ..)
    rw [List.nodup_cons] at hn
    have := len_le_of_mem l (r.erase x) hn.2 (fun y hy => (List.mem_erase_of_ne (fun e => hn.1 (by rw [← e]; exact hy))).2 (hs y (List.mem_cons_of_mem _ hy)))
    rw [List.length_erase_of_mem hx] at this
    have := List.length_pos_of_mem hx
    rw [List.length_cons]
    omega
/-- It has no more entries than there are ints. -/
theorem MapF.size {V : Type} {enc : V → DataW Unit} {D : DataW Unit} {f : Nat → Option V} (h : MapF enc D f) (he : ∃ es, D = .map es ∧ es.Pairwise (fun p q => p.1 ≠ q.1) ∧ ∀ p ∈ es, WideAt.IsKeyLit p.1) : Maps.size D ≤ 65536 := by
  obtain ⟨es, rfl, hp, hkl⟩ := he
  haveI : DecidableEq Lit := Classical.typeDecidableEq Lit
  have hl := len_le_of_mem (es.map (·.1)) ((List.range 65536).map fun i => (keyOf Tryd.prog 3 (ikV i)).getD (.bool false)) (nodup_of_pairs hp) (fun k hm => by
    obtain ⟨p, hp1, rfl⟩ := List.mem_map.1 hm
    have hh : Maps.has (.map es) p.1 = true := by
      rw [has_eq, List.any_eq_true]
      refine ⟨p, hp1, ?_⟩
      have hk2 := hkl p hp1
      cases hp2 : p.1 <;> rw [hp2] at hk2 <;> first | (simp [Lit.sameKey]; done) | (exact absurd hk2 (by simp [WideAt.IsKeyLit]))
    obtain ⟨r, hr, hk⟩ := h.2.1 _ hh
    refine List.mem_map.2 ⟨r, List.mem_range.2 hr, ?_⟩
    rw [hk]
    rfl)
  rw [List.length_map, List.length_map, List.length_range] at hl
  exact hl
theorem own_small {w : World} {R : Value → Option (DataW Unit × List MemPlace)} {b n : Nat} {V : Type} {enc : V → DataW Unit} {D : DataW Unit} {f : Nat → Option V} (h : w.ownsMap Tryd.prog 3 R b n D) (hf : MapF enc D f) : w.ownsMap Tryd.prog 3 R b 65536 D := by
  have hs := hf.size (h.entries keyedV)
  obtain ⟨es, clock, hb, F, hn, rfl⟩ := h
  refine ⟨es, clock, hb, F, ?_, rfl⟩
  have : Maps.size (DataW.map ((es.toList.map (Go.WideElems.rg Tryd.prog 3 R)).foldr DataW.insert [])) = es.size := by simp [Maps.size, length_sorted]
  omega

def intR (v : Value) : Option (DataW Unit × List MemPlace) := match v with
  | .int .i64 x => some (.lit (.int .i64 x), [])
  | _ => none
def natD (n : Nat) : DataW Unit := .lit (.int .i64 (n : Int))
theorem intR_mk (n : Nat) : intR (.int .i64 (n : Int)) = some (natD n, []) := rfl
theorem intR_inv {v : Value} {x : Int} {ps : List MemPlace} (h : intR v = some (.lit (.int .i64 x), ps)) : v = .int .i64 x := by
  unfold intR at h
  split at h
  · simp at h; rw [h.1]
  · cases h
def KnownM (w : World) (b : Nat) (f : Nat → Option Nat) : Prop := ∃ D, w.ownsMap Tryd.prog 3 intR b 65536 D ∧ MapF natD D f
theorem own_keep {w w' : World} {R : Value → Option (DataW Unit × List MemPlace)} {b n : Nat} {D : DataW Unit} {S : List Nat} (h : w.ownsMap Tryd.prog 3 R b n D) (hc : Chg S w w') (hs : b ∉ S) : w'.ownsMap Tryd.prog 3 R b n D := by
  have hlt := h.lt
  obtain ⟨es, clock, hb, F, hn, e⟩ := h
  exact ⟨es, clock, (hc.block b hlt hs).trans hb, F, hn, e⟩
theorem KnownM.keep {w w' : World} {b : Nat} {f : Nat → Option Nat} {S : List Nat} (h : KnownM w b f) (hc : Chg S w w') (hs : b ∉ S) : KnownM w' b f := by
  obtain ⟨D, h, hf⟩ := h
  exact ⟨D, own_keep h hc hs, hf⟩
theorem KnownM.lt {w : World} {b : Nat} {f : Nat → Option Nat} (h : KnownM w b f) : b < w.heap.size := by obtain ⟨D, h, _⟩ := h; exact h.lt
theorem zeroInt (w : World) : (zeroValue 3).run Tryd.prog w = .ok (.int .i64 0) w := by kernel_rfl
theorem KnownM.look {w : World} {b : Nat} {f : Nat → Option Nat} (h : KnownM w b f) {r : Nat} (hr : r < 65536) :
    (Instr.lookup 96 (.map (some b)) (ikV r) true).run Tryd.prog w = .ok (.tuple #[.int .i64 (((f r).getD 0 : Nat) : Int), .bool (f r).isSome]) w := by
  obtain ⟨D, h, hf⟩ := h
  obtain ⟨k, hk⟩ := key_some hr
  obtain ⟨v, ps, hrun, hv⟩ := h.look_ok keyedV Tryd.underlying96 (zeroInt w) (intR_mk 0) hk
  obtain ⟨h1, h2⟩ := hf.2.2 r k hr hk
  rw [h1] at hrun
  rw [hrun]
  have hv' : v = .int .i64 (((f r).getD 0 : Nat) : Int) := by
    cases hfr : f r with
    | none =>
      rw [hfr] at h1
      rw [atKey_of_not_has h1] at hv
      exact intR_inv hv
    | some n =>
      rw [h2 n hfr] at hv
      exact intR_inv hv
  rw [hv']
theorem chg_of_grown {w w' : World} {b : Nat} (h : w.grownBy w' (some b)) : Chg [b] w w' := (Chg.refl _ _).grown h (fun k hk => by cases hk; exact .inl (List.mem_singleton.2 rfl))
theorem KnownM.store {w : World} {b : Nat} {f : Nat → Option Nat} (h : KnownM w b f) {r : Nat} (hr : r < 65536) (n : Nat) :
    ∃ w', (Instr.mapUpdate 96 (.map (some b)) (ikV r) (.int .i64 (n : Int))).run Tryd.prog w = .ok () w' ∧ KnownM w' b (upd f r n) ∧ Chg [b] w w' := by
  obtain ⟨D, h, hf⟩ := h
  obtain ⟨k, hk⟩ := key_some hr
  obtain ⟨w', hrun, h1, h2⟩ := h.update keyedV Tryd.underlying96 (by unfold maxLen; omega) hk (intR_mk n)
  have hf' := hf.put hr hk n
  exact ⟨w', hrun, ⟨_, own_small h1 hf', hf'⟩, chg_of_grown h2⟩
theorem KnownM.new (w : World) : KnownM (w.alloc (.map #[] 0)) w.heap.size (fun _ => none) := ⟨_, (World.ownsMap_made w _ _ _).mono (Nat.zero_le _), MapF.nil _⟩
end IM
end Go.Proofs.YtpplihpfjniacaaDoor
