/- Maps by positions: what they hold, as functions. -/
import Derived.Test.YtpplihpfjniacaaGs1
import Derived.DeepKeys4
import Derived.OpenShut
import Derived.Maps.Keyed
import Derived.Maps.OwnSet
import Derived.Maps.Range
import Derived.Deep.RegionHeld3
namespace Go.Proofs.Ytpplihpfjniacaa
namespace PM
open Go.RowKit Go.Maps Go.WideMaps

theorem laidOutV : laidOutB Try.prog = true := by kernel_rfl
theorem rowPos : (78 : TypeId) < Try.prog.types.size := Nat.le_of_ble_eq_true (by kernel_rfl)
theorem lawPos : KeyLaw Try.prog 78 := deep_law_laid laidOutV (m := 4) (by omega) rowPos (by kernel_rfl) (by kernel_rfl)
theorem keyedP : Maps.Keyed Try.prog 78 := Maps.Keyed.of_law lawPos
theorem cellsPos : Try.prog.cellsOf 78 = 6 := by kernel_rfl
theorem cellsInt : Try.prog.cellsOf 3 = 1 := by kernel_rfl
theorem deepPos : Try.prog.keyTypeAt (Try.prog.types.size + 1) 78 = true := by kernel_rfl
theorem sizeTypes : ∃ s, Try.prog.types.size + 1 = s + 4 := by
  have h : 4 ≤ Try.prog.types.size := Nat.le_of_ble_eq_true (by kernel_rfl)
  obtain ⟨s, e⟩ := Nat.exists_eq_add_of_le h
  exact ⟨s + 1, by rw [e, Nat.add_comm 4 s, Nat.add_right_comm]⟩
theorem wfN {x : Nat} (h : x < 65536) : (Lit.int .i64 (x : Int)).wf = true := WalkArith.wf_i64 (by omega)
def posV (n q : Nat) : Value := .agg #[.int .i64 (n : Int), .int .i64 0, .int .i64 0, .int .i64 0, .int .i64 1, .int .i64 (q : Int)]
theorem cellsArr : Try.prog.cellsOf 76 = 4 := by kernel_rfl
theorem key_some {r c : Nat} (hr : r < 65536) (hc : c < 65536) : ∃ x, keyOf Try.prog 78 (posV r c) = some x := by
  obtain ⟨s, hs⟩ := sizeTypes
  have hf : (posV r c).formed Try.prog 78 = true := by simp [posV, Value.formed, Try.underlying78, cellsPos]
  have hk : Try.prog.keyType 78 = true := deepPos
  have w0 : (Lit.int .i64 0).wf = true := wfN (x := 0) (by decide)
  have w1 : (Lit.int .i64 1).wf = true := wfN (x := 1) (by decide)
  unfold keyOf
  simp only [Try.underlying78, hk, hf, Bool.and_self, if_true, hs]
  simp [posV, Value.cells, Program.keyLits, Try.underlying78, Try.underlying3, Try.underlying76, cellsPos, cellsArr, cellsInt, wfN hr, wfN hc, List.range_succ, w0, w1]

theorem posV_inj {r c r' c' : Nat} (h : posV r c = posV r' c') : r = r' ∧ c = c' := by
  simp [posV] at h
  omega

/-- The map reads as this function of positions. -/
def MapF {V : Type} (enc : V → DataW Unit) (D : DataW Unit) (f : Nat → Nat → Option V) : Prop :=
  Tidy D ∧ (∀ k, Maps.has D k = true → ∃ r c, r < 64 ∧ c < 64 ∧ keyOf Try.prog 78 (posV r c) = some k) ∧
    ∀ r c k, r < 64 → c < 64 → keyOf Try.prog 78 (posV r c) = some k → Maps.has D k = (f r c).isSome ∧ ∀ v, f r c = some v → ∀ z, D.atKey k z = enc v
def upd {V : Type} (f : Nat → Nat → Option V) (r c : Nat) (v : V) (r' c' : Nat) : Option V := if r' = r ∧ c' = c then some v else f r' c'
theorem upd_same {V : Type} (f : Nat → Nat → Option V) (r c : Nat) (v : V) : upd f r c v r c = some v := by unfold upd; rw [if_pos ⟨rfl, rfl⟩]
theorem upd_other {V : Type} (f : Nat → Nat → Option V) {r c r' c' : Nat} (v : V) (h : ¬ (r' = r ∧ c' = c)) : upd f r c v r' c' = f r' c' := by unfold upd; rw [if_neg h]
theorem MapF.nil {V : Type} (enc : V → DataW Unit) : MapF enc (.map []) (fun _ _ => none) := ⟨tidy_empty, fun k h => absurd h (by simp [Maps.has]), fun _ _ _ _ _ _ => ⟨rfl, fun _ h => by cases h⟩⟩
theorem MapF.put {V : Type} {enc : V → DataW Unit} {D : DataW Unit} {f : Nat → Nat → Option V} (h : MapF enc D f) {r c : Nat} {k : Lit} (hr : r < 64) (hc : c < 64) (hk : keyOf Try.prog 78 (posV r c) = some k) (v : V) : MapF enc (D.put k (enc v)) (upd f r c v) := by
  have hkl := keyedP.key hk
  refine ⟨h.1.put hkl _, fun k' hk' => ?_, fun r' c' k' hr' hc' hk' => ?_⟩
  · by_cases e : k' = k
    · rw [e]; exact ⟨r, c, hr, hc, hk⟩
    · rw [has_put_other e] at hk'
      exact h.2.1 k' hk'
  · by_cases e : r' = r ∧ c' = c
    · obtain ⟨rfl, rfl⟩ := e
      rw [hk] at hk'
      cases hk'
      rw [upd_same]
      exact ⟨has_put_same h.1.isMap hkl _, fun v' hv' z => by cases hv'; exact atKey_put_same h.1.isMap hkl _ _⟩
    · rw [upd_other _ _ e]
      have hne : k' ≠ k := fun e' => by
        rw [e'] at hk'
        obtain ⟨h1, h2⟩ := posV_inj (keyedP.inj hk' hk)
        exact e ⟨h1, h2⟩
      rw [has_put_other hne]
      obtain ⟨h1, h2⟩ := h.2.2 r' c' k' hr' hc' hk'
      exact ⟨h1, fun v' hv' z => by rw [atKey_put_other hne]; exact h2 v' hv' z⟩
theorem nodup_of_pairs {es : List (Lit × DataW Unit)} (h : es.Pairwise (fun p q => p.1 ≠ q.1)) : (es.map (·.1)).Nodup := by
  unfold List.Nodup
  rw [List.pairwise_map]
  exact h
theorem len_le_of_mem {α : Type} [DecidableEq α] : ∀ (l r : List α), l.Nodup → (∀ x ∈ l, x ∈ r) → l.length ≤ r.length
  | [], _, _, _ => Nat.zero_le _
  | x :: l, r, hn, hs => by
    have hx := hs x (List.mem_cons_self ..)
    rw [List.nodup_cons] at hn
    have := len_le_of_mem l (r.erase x) hn.2 (fun y hy => (List.mem_erase_of_ne (fun e => hn.1 (by rw [← e]; exact hy))).2 (hs y (List.mem_cons_of_mem _ hy)))
    rw [List.length_erase_of_mem hx] at this
    have := List.length_pos_of_mem hx
    rw [List.length_cons]
    omega
/-- It has no more entries than there are positions. -/
theorem MapF.size {V : Type} {enc : V → DataW Unit} {D : DataW Unit} {f : Nat → Nat → Option V} (h : MapF enc D f) (he : ∃ es, D = .map es ∧ es.Pairwise (fun p q => p.1 ≠ q.1) ∧ ∀ p ∈ es, WideAt.IsKeyLit p.1) : Maps.size D ≤ 4096 := by
  obtain ⟨es, rfl, hp, hkl⟩ := he
  haveI : DecidableEq Lit := Classical.typeDecidableEq Lit
  have hl := len_le_of_mem (es.map (·.1)) ((List.range 4096).map fun i => (keyOf Try.prog 78 (posV (i / 64) (i % 64))).getD (.bool false)) (nodup_of_pairs hp) (fun k hm => by
    obtain ⟨p, hp1, rfl⟩ := List.mem_map.1 hm
    have hh : Maps.has (.map es) p.1 = true := by
      rw [has_eq, List.any_eq_true]
      refine ⟨p, hp1, ?_⟩
      have hk2 := hkl p hp1
      cases hp2 : p.1 <;> rw [hp2] at hk2 <;> first | (simp [Lit.sameKey]; done) | (exact absurd hk2 (by simp [WideAt.IsKeyLit]))
    obtain ⟨r, c, hr, hc, hk⟩ := h.2.1 _ hh
    refine List.mem_map.2 ⟨64 * r + c, List.mem_range.2 (by omega), ?_⟩
    rw [show (64 * r + c) / 64 = r by omega, show (64 * r + c) % 64 = c by omega, hk]
    rfl)
  rw [List.length_map, List.length_map, List.length_range] at hl
  exact hl
theorem own_small {w : World} {R : Value → Option (DataW Unit × List MemPlace)} {b n : Nat} {V : Type} {enc : V → DataW Unit} {D : DataW Unit} {f : Nat → Nat → Option V} (h : w.ownsMap Try.prog 78 R b n D) (hf : MapF enc D f) : w.ownsMap Try.prog 78 R b 4096 D := by
  have hs := hf.size (h.entries keyedP)
  obtain ⟨es, clock, hb, F, hn, rfl⟩ := h
  refine ⟨es, clock, hb, F, ?_, rfl⟩
  have : Maps.size (DataW.map ((es.toList.map (Go.WideElems.rg Try.prog 78 R)).foldr DataW.insert [])) = es.size := by simp [Maps.size, length_sorted]
  omega

def boolR (v : Value) : Option (DataW Unit × List MemPlace) := match v with
  | .bool x => some (.lit (.bool x), [])
  | _ => none
def boolD (b : Bool) : DataW Unit := .lit (.bool b)
theorem boolR_mk (b : Bool) : boolR (.bool b) = some (boolD b, []) := rfl
theorem boolR_inv {v : Value} {x : Bool} {ps : List MemPlace} (h : boolR v = some (.lit (.bool x), ps)) : v = .bool x := by
  unfold boolR at h
  split at h
  · simp at h; rw [h.1]
  · cases h
def KnownM (w : World) (b : Nat) (f : Nat → Nat → Option Bool) : Prop := ∃ D, w.ownsMap Try.prog 78 boolR b 4096 D ∧ MapF boolD D f
theorem own_keep {w w' : World} {R : Value → Option (DataW Unit × List MemPlace)} {b n : Nat} {D : DataW Unit} {S : List Nat} (h : w.ownsMap Try.prog 78 R b n D) (hc : Chg S w w') (hs : b ∉ S) : w'.ownsMap Try.prog 78 R b n D := by
  have hlt := h.lt
  obtain ⟨es, clock, hb, F, hn, e⟩ := h
  exact ⟨es, clock, (hc.block b hlt hs).trans hb, F, hn, e⟩
theorem KnownM.keep {w w' : World} {b : Nat} {f : Nat → Nat → Option Bool} {S : List Nat} (h : KnownM w b f) (hc : Chg S w w') (hs : b ∉ S) : KnownM w' b f := by
  obtain ⟨D, h, hf⟩ := h
  exact ⟨D, own_keep h hc hs, hf⟩
theorem KnownM.lt {w : World} {b : Nat} {f : Nat → Nat → Option Bool} (h : KnownM w b f) : b < w.heap.size := by obtain ⟨D, h, _⟩ := h; exact h.lt
theorem zeroInt (w : World) : (zeroValue 4).run Try.prog w = .ok (.bool false) w := by kernel_rfl
theorem KnownM.look {w : World} {b : Nat} {f : Nat → Nat → Option Bool} (h : KnownM w b f) {r c : Nat} (hr : r < 64) (hc : c < 64) :
    (Instr.lookup 45 (.map (some b)) (posV r c) true).run Try.prog w = .ok (.tuple #[.bool ((f r c).getD false), .bool (f r c).isSome]) w := by
  obtain ⟨D, h, hf⟩ := h
  obtain ⟨k, hk⟩ := key_some (show r < 65536 by omega) (show c < 65536 by omega)
  obtain ⟨v, ps, hrun, hv⟩ := h.look_ok keyedP Try.underlying45 (zeroInt w) (boolR_mk false) hk
  obtain ⟨h1, h2⟩ := hf.2.2 r c k hr hc hk
  rw [h1] at hrun
  rw [hrun]
  have hv' : v = .bool ((f r c).getD false) := by
    cases hfr : f r c with
    | none =>
      rw [hfr] at h1
      rw [atKey_of_not_has h1] at hv
      exact boolR_inv hv
    | some n =>
      rw [h2 n hfr] at hv
      exact boolR_inv hv
  rw [hv']
theorem chg_of_grown {w w' : World} {b : Nat} (h : w.grownBy w' (some b)) : Chg [b] w w' := (Chg.refl _ _).grown h (fun k hk => by cases hk; exact .inl (List.mem_singleton.2 rfl))
theorem KnownM.store {w : World} {b : Nat} {f : Nat → Nat → Option Bool} (h : KnownM w b f) {r c : Nat} (hr : r < 64) (hc : c < 64) (n : Bool) :
    ∃ w', (Instr.mapUpdate 45 (.map (some b)) (posV r c) (.bool n)).run Try.prog w = .ok () w' ∧ KnownM w' b (upd f r c n) ∧ Chg [b] w w' := by
  obtain ⟨D, h, hf⟩ := h
  obtain ⟨k, hk⟩ := key_some (show r < 65536 by omega) (show c < 65536 by omega)
  obtain ⟨w', hrun, h1, h2⟩ := h.update keyedP Try.underlying45 (by unfold maxLen; omega) hk (boolR_mk n)
  have hf' := hf.put hr hc hk n
  exact ⟨w', hrun, ⟨_, own_small h1 hf', hf'⟩, chg_of_grown h2⟩
theorem KnownM.new (w : World) : KnownM (w.alloc (.map #[] 0)) w.heap.size (fun _ _ => none) := ⟨_, (World.ownsMap_made w _ _ _).mono (Nat.zero_le _), MapF.nil _⟩
end PM
end Go.Proofs.Ytpplihpfjniacaa
