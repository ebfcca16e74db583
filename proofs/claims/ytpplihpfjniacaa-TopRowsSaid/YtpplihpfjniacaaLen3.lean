/- Maps by rectangles: what they hold, as functions. -/
import Derived.Test.YtpplihpfjniacaaBy
import Derived.Test.YtpplihpfjniacaaTPlain2
import Derived.DeepKeys4
import Derived.OpenShut
import Derived.Maps.Keyed
import Derived.Maps.OwnSet
import Derived.Maps.Range
import Derived.Deep.RegionHeld3
namespace Go.Proofs.Ytpplihpfjniacaa
open Go.RowKit Go.Maps Go.WideMaps

theorem laidOut : laidOutB Try.prog = true := by kernel_rfl
theorem rowRect : (70 : TypeId) < Try.prog.types.size := Nat.le_of_ble_eq_true (by kernel_rfl)
theorem lawRect : KeyLaw Try.prog 70 := deep_law_laid laidOut (m := 4) (by omega) rowRect (by kernel_rfl) (by kernel_rfl)
theorem keyedR : Maps.Keyed Try.prog 70 := Maps.Keyed.of_law lawRect
theorem cellsRect : Try.prog.cellsOf 70 = 2 := by kernel_rfl
theorem cellsInt : Try.prog.cellsOf 3 = 1 := by kernel_rfl
theorem deepRect : Try.prog.keyTypeAt (Try.prog.types.size + 1) 70 = true := by kernel_rfl
theorem sizeTypes : ∃ s, Try.prog.types.size + 1 = s + 4 := by
  have h : 4 ≤ Try.prog.types.size := Nat.le_of_ble_eq_true (by kernel_rfl)
  obtain ⟨s, e⟩ := Nat.exists_eq_add_of_le h
  exact ⟨s + 1, by rw [e, Nat.add_comm 4 s, Nat.add_right_comm]⟩
theorem wfN {x : Nat} (h : x < 65536) : (Lit.int .i64 (x : Int)).wf = true := WalkArith.wf_i64 (by omega)
theorem key_some {r c : Nat} (hr : r < 65536) (hc : c < 65536) : ∃ x, keyOf Try.prog 70 (rectV r c) = some x := by
  obtain ⟨s, hs⟩ := sizeTypes
  have hf : (rectV r c).formed Try.prog 70 = true := by simp [rectV, Value.formed, Try.underlying70, cellsRect]
  have hk : Try.prog.keyType 70 = true := deepRect
  unfold keyOf
  simp only [Try.underlying70, hk, hf, Bool.and_self, if_true, hs]
  simp [rectV, Value.cells, Program.keyLits, Try.underlying70, Try.underlying3, cellsRect, cellsInt, wfN hr, wfN hc]
theorem rectV_inj {r c r' c' : Nat} (h : rectV r c = rectV r' c') : r = r' ∧ c = c' := by
  simp [rectV] at h
  omega

/-- The map reads as this function of rectangles. -/
def MapF {V : Type} (enc : V → DataW Unit) (D : DataW Unit) (f : Nat → Nat → Option V) : Prop :=
  Tidy D ∧ (∀ k, Maps.has D k = true → ∃ r c, r < 16 ∧ c < 16 ∧ keyOf Try.prog 70 (rectV r c) = some k) ∧
    ∀ r c k, r < 16 → c < 16 → keyOf Try.prog 70 (rectV r c) = some k → Maps.has D k = (f r c).isSome ∧ ∀ v, f r c = some v → ∀ z, D.atKey k z = enc v
def upd {V : Type} (f : Nat → Nat → Option V) (r c : Nat) (v : V) (r' c' : Nat) : Option V := if r' = r ∧ c' = c then some v else f r' c'
theorem upd_same {V : Type} (f : Nat → Nat → Option V) (r c : Nat) (v : V) : upd f r c v r c = some v := by unfold upd; rw [if_pos ⟨rfl, rfl⟩]
theorem upd_other {V : Type} (f : Nat → Nat → Option V) {r c r' c' : Nat} (v : V) (h : ¬ (r' = r ∧ c' = c)) : upd f r c v r' c' = f r' c' := by unfold upd; rw [if_neg h]
theorem MapF.nil {V : Type} (enc : V → DataW Unit) : MapF enc (.map []) (fun _ _ => none) := ⟨tidy_empty, fun k h => absurd h (by simp [Maps.has]), fun _ _ _ _ _ _ => ⟨rfl, fun _ h => by cases h⟩⟩
theorem MapF.put {V : Type} {enc : V → DataW Unit} {D : DataW Unit} {f : Nat → Nat → Option V} (h : MapF enc D f) {r c : Nat} {k : Lit} (hr : r < 16) (hc : c < 16) (hk : keyOf Try.prog 70 (rectV r c) = some k) (v : V) : MapF enc (D.put k (enc v)) (upd f r c v) := by
  have hkl := keyedR.key hk
  refine ⟨h.1.put hkl _, fun k' hk' => ?_, fun r' c' k' hr' hc' hk' => ?_⟩
  · by_cases e : k' = k
    · rw [e]; exact ⟨r, c, hr, hc, hk⟩
    · rw [has_put_other e] at hk'
      exact h.2.1 k' hk'
  · by_cases e : r' = r ∧ c' = c
    · obtain ⟨rfl, rfl⟩ := e
      rw [hk] at hk'
      cases hk'
      rw [upd_same]
      exact ⟨has_put_same h.1.isMap hkl _, fun v' hv' z => by cases hv'; exact atKey_put_same h.1.isMap hkl _ _⟩
    · rw [upd_other _ _ e]
      have hne : k' ≠ k := fun e' => by
        rw [e'] at hk'
        obtain ⟨h1, h2⟩ := rectV_inj (keyedR.inj hk' hk)
        exact e ⟨h1, h2⟩
      rw [has_put_other hne]
      obtain ⟨h1, h2⟩ := h.2.2 r' c' k' hr' hc' hk'
      exact ⟨h1, fun v' hv' z => by rw [atKey_put_other hne]; exact h2 v' hv' z⟩
theorem nodup_of_pairs {es : List (Lit × DataW Unit)} (h : es.Pairwise (fun p q => p.1 ≠ q.1)) : (es.map (·.1)).Nodup := by
  unfold List.Nodup
  rw [List.pairwise_map]
  exact h
theorem len_le_of_mem {α : Type} [DecidableEq α] : ∀ (l r : List α), l.Nodup → (∀ x ∈ l, x ∈ r) → l.length ≤ r.length
  | [], _, _, _ => Nat.zero_le _
  | x :: l, r, hn, hs => by
    have hx := hs x (List.mem_cons_self ..)
    rw [List.nodup_cons] at hn
    have := len_le_of_mem l (r.erase x) hn.2 (fun y hy => (List.mem_erase_of_ne (fun e => hn.1 (by rw [← e]; exact hy))).2 (hs y (List.mem_cons_of_mem _ hy)))
    rw [List.length_erase_of_mem hx] at this
    have := List.length_pos_of_mem hx
    rw [List.length_cons]
    omega
/-- It has no more entries than there are rectangles. -/
theorem MapF.size {V : Type} {enc : V → DataW Unit} {D : DataW Unit} {f : Nat → Nat → Option V} (h : MapF enc D f) (he : ∃ es, D = .map es ∧ es.Pairwise (fun p q => p.1 ≠ q.1) ∧ ∀ p ∈ es, WideAt.IsKeyLit p.1) : Maps.size D ≤ 256 := by
  obtain ⟨es, rfl, hp, hkl⟩ := he
  haveI : DecidableEq Lit := Classical.typeDecidableEq Lit
  have hl := len_le_of_mem (es.map (·.1)) ((List.range 256).map fun i => (keyOf Try.prog 70 (rectV (i / 16) (i % 16))).getD (.bool false)) (nodup_of_pairs hp) (fun k hm => by
    obtain ⟨p, hp1, rfl⟩ := List.mem_map.1 hm
    have hh : Maps.has (.map es) p.1 = true := by
      rw [has_eq, List.any_eq_true]
      refine ⟨p, hp1, ?_⟩
      have hk2 := hkl p hp1
      cases hp2 : p.1 <;> rw [hp2] at hk2 <;> first | (simp [Lit.sameKey]; done) | (exact absurd hk2 (by simp [WideAt.IsKeyLit]))
    obtain ⟨r, c, hr, hc, hk⟩ := h.2.1 _ hh
    refine List.mem_map.2 ⟨16 * r + c, List.mem_range.2 (by omega), ?_⟩
    rw [show (16 * r + c) / 16 = r by omega, show (16 * r + c) % 16 = c by omega, hk]
    rfl)
  rw [List.length_map, List.length_map, List.length_range] at hl
  exact hl
theorem own_small {w : World} {R : Value → Option (DataW Unit × List MemPlace)} {b n : Nat} {V : Type} {enc : V → DataW Unit} {D : DataW Unit} {f : Nat → Nat → Option V} (h : w.ownsMap Try.prog 70 R b n D) (hf : MapF enc D f) : w.ownsMap Try.prog 70 R b 256 D := by
  have hs := hf.size (h.entries keyedR)
  obtain ⟨es, clock, hb, F, hn, rfl⟩ := h
  refine ⟨es, clock, hb, F, ?_, rfl⟩
  have : Maps.size (DataW.map ((es.toList.map (Go.WideElems.rg Try.prog 70 R)).foldr DataW.insert [])) = es.size := by simp [Maps.size, length_sorted]
  omega

def intR (v : Value) : Option (DataW Unit × List MemPlace) := match v with
  | .int .i64 x => some (.lit (.int .i64 x), [])
  | _ => none
def natD (n : Nat) : DataW Unit := .lit (.int .i64 (n : Int))
def splitR (v : Value) : Option (DataW Unit × List MemPlace) := match v with
  | .agg cs => match cs.toList with
    | [.int .i64 x, .int .i64 y] => some (.agg [.lit (.int .i64 x), .lit (.int .i64 y)], [])
    | _ => none
  | _ => none
def splitD (p : Nat × Nat) : DataW Unit := .agg [.lit (.int .i64 (p.1 : Int)), .lit (.int .i64 (p.2 : Int))]
def splitV (p : Nat × Nat) : Value := .agg #[.int .i64 (p.1 : Int), .int .i64 (p.2 : Int)]
theorem intR_mk (n : Nat) : intR (.int .i64 (n : Int)) = some (natD n, []) := rfl
theorem splitR_mk (p : Nat × Nat) : splitR (splitV p) = some (splitD p, []) := rfl
theorem intR_inv {v : Value} {x : Int} {ps : List MemPlace} (h : intR v = some (.lit (.int .i64 x), ps)) : v = .int .i64 x := by
  unfold intR at h
  split at h
  · simp at h; rw [h.1]
  · cases h
theorem splitR_inv {v : Value} {p : Nat × Nat} {ps : List MemPlace} (h : splitR v = some (splitD p, ps)) : v = splitV p := by
  unfold splitR at h
  split at h
  · rename_i cs
    split at h
    · rename_i x y e
      simp [splitD] at h
      have : cs = #[.int .i64 x, .int .i64 y] := by rw [← Array.toList_inj]; exact e
      rw [this, h.1.1, h.1.2]; rfl
    · cases h
  · cases h

/-- The map of lengths; the map of splits. -/
def KnownM (w : World) (b : Nat) (f : Nat → Nat → Option Nat) : Prop := ∃ D, w.ownsMap Try.prog 70 intR b 256 D ∧ MapF natD D f
def FirstM (w : World) (b : Nat) (f : Nat → Nat → Option (Nat × Nat)) : Prop := ∃ D, w.ownsMap Try.prog 70 splitR b 256 D ∧ MapF splitD D f
theorem own_keep {w w' : World} {R : Value → Option (DataW Unit × List MemPlace)} {b n : Nat} {D : DataW Unit} {S : List Nat} (h : w.ownsMap Try.prog 70 R b n D) (hc : Chg S w w') (hs : b ∉ S) : w'.ownsMap Try.prog 70 R b n D := by
  have hlt := h.lt
  obtain ⟨es, clock, hb, F, hn, e⟩ := h
  exact ⟨es, clock, (hc.block b hlt hs).trans hb, F, hn, e⟩
theorem KnownM.keep {w w' : World} {b : Nat} {f : Nat → Nat → Option Nat} {S : List Nat} (h : KnownM w b f) (hc : Chg S w w') (hs : b ∉ S) : KnownM w' b f := by
  obtain ⟨D, h, hf⟩ := h
  exact ⟨D, own_keep h hc hs, hf⟩
theorem FirstM.keep {w w' : World} {b : Nat} {f : Nat → Nat → Option (Nat × Nat)} {S : List Nat} (h : FirstM w b f) (hc : Chg S w w') (hs : b ∉ S) : FirstM w' b f := by
  obtain ⟨D, h, hf⟩ := h
  exact ⟨D, own_keep h hc hs, hf⟩
theorem KnownM.lt {w : World} {b : Nat} {f : Nat → Nat → Option Nat} (h : KnownM w b f) : b < w.heap.size := by obtain ⟨D, h, _⟩ := h; exact h.lt
theorem FirstM.lt {w : World} {b : Nat} {f : Nat → Nat → Option (Nat × Nat)} (h : FirstM w b f) : b < w.heap.size := by obtain ⟨D, h, _⟩ := h; exact h.lt
theorem zeroInt (w : World) : (zeroValue 3).run Try.prog w = .ok (.int .i64 0) w := by kernel_rfl
theorem zeroSplit (w : World) : (zeroValue 103).run Try.prog w = .ok (splitV (0, 0)) w := by kernel_rfl
theorem KnownM.look {w : World} {b : Nat} {f : Nat → Nat → Option Nat} (h : KnownM w b f) {r c : Nat} (hr : r < 16) (hc : c < 16) :
    (Instr.lookup 97 (.map (some b)) (rectV r c) true).run Try.prog w = .ok (.tuple #[.int .i64 (((f r c).getD 0 : Nat) : Int), .bool (f r c).isSome]) w := by
  obtain ⟨D, h, hf⟩ := h
  obtain ⟨k, hk⟩ := key_some (show r < 65536 by omega) (show c < 65536 by omega)
  obtain ⟨v, ps, hrun, hv⟩ := h.look_ok keyedR Try.underlying97 (zeroInt w) (intR_mk 0) hk
  obtain ⟨h1, h2⟩ := hf.2.2 r c k hr hc hk
  rw [h1] at hrun
  rw [hrun]
  have hv' : v = .int .i64 (((f r c).getD 0 : Nat) : Int) := by
    cases hfr : f r c with
    | none =>
      rw [hfr] at h1
      rw [atKey_of_not_has h1] at hv
      exact intR_inv hv
    | some n =>
      rw [h2 n hfr] at hv
      exact intR_inv hv
  rw [hv']
theorem FirstM.look {w : World} {b : Nat} {f : Nat → Nat → Option (Nat × Nat)} (h : FirstM w b f) {r c : Nat} (hr : r < 16) (hc : c < 16) :
    (Instr.lookup 98 (.map (some b)) (rectV r c) false).run Try.prog w = .ok (splitV ((f r c).getD (0, 0))) w := by
  obtain ⟨D, h, hf⟩ := h
  obtain ⟨k, hk⟩ := key_some (show r < 65536 by omega) (show c < 65536 by omega)
  obtain ⟨v, ps, hrun, hv⟩ := h.lookup keyedR Try.underlying98 (zeroSplit w) (splitR_mk (0, 0)) hk
  obtain ⟨h1, h2⟩ := hf.2.2 r c k hr hc hk
  rw [hrun]
  have hv' : v = splitV ((f r c).getD (0, 0)) := by
    cases hfr : f r c with
    | none =>
      rw [hfr] at h1
      rw [atKey_of_not_has h1] at hv
      exact splitR_inv hv
    | some p =>
      rw [h2 p hfr] at hv
      exact splitR_inv hv
  rw [hv']
theorem chg_of_grown {w w' : World} {b : Nat} (h : w.grownBy w' (some b)) : Chg [b] w w' := (Chg.refl _ _).grown h (fun k hk => by cases hk; exact .inl (List.mem_singleton.2 rfl))
theorem KnownM.store {w : World} {b : Nat} {f : Nat → Nat → Option Nat} (h : KnownM w b f) {r c : Nat} (hr : r < 16) (hc : c < 16) (n : Nat) :
    ∃ w', (Instr.mapUpdate 97 (.map (some b)) (rectV r c) (.int .i64 (n : Int))).run Try.prog w = .ok () w' ∧ KnownM w' b (upd f r c n) ∧ Chg [b] w w' := by
  obtain ⟨D, h, hf⟩ := h
  obtain ⟨k, hk⟩ := key_some (show r < 65536 by omega) (show c < 65536 by omega)
  obtain ⟨w', hrun, h1, h2⟩ := h.update keyedR Try.underlying97 (by unfold maxLen; omega) hk (intR_mk n)
  have hf' := hf.put hr hc hk n
  exact ⟨w', hrun, ⟨_, own_small h1 hf', hf'⟩, chg_of_grown h2⟩
theorem FirstM.store {w : World} {b : Nat} {f : Nat → Nat → Option (Nat × Nat)} (h : FirstM w b f) {r c : Nat} (hr : r < 16) (hc : c < 16) (p : Nat × Nat) :
    ∃ w', (Instr.mapUpdate 98 (.map (some b)) (rectV r c) (splitV p)).run Try.prog w = .ok () w' ∧ FirstM w' b (upd f r c p) ∧ Chg [b] w w' := by
  obtain ⟨D, h, hf⟩ := h
  obtain ⟨k, hk⟩ := key_some (show r < 65536 by omega) (show c < 65536 by omega)
  obtain ⟨w', hrun, h1, h2⟩ := h.update keyedR Try.underlying98 (by unfold maxLen; omega) hk (splitR_mk p)
  have hf' := hf.put hr hc hk p
  exact ⟨w', hrun, ⟨_, own_small h1 hf', hf'⟩, chg_of_grown h2⟩
theorem KnownM.new (w : World) : KnownM (w.alloc (.map #[] 0)) w.heap.size (fun _ _ => none) := ⟨_, (World.ownsMap_made w _ _ _).mono (Nat.zero_le _), MapF.nil _⟩
theorem FirstM.new (w : World) : FirstM (w.alloc (.map #[] 0)) w.heap.size (fun _ _ => none) := ⟨_, (World.ownsMap_made w _ _ _).mono (Nat.zero_le _), MapF.nil _⟩
end Go.Proofs.Ytpplihpfjniacaa

/- Walks: the debate's memory; what is known already. -/
namespace Go.Proofs.Ytpplihpfjniacaa
open Go.RowKit Go.Maps

/-- The debate's memory. -/
def Deb (w1 : World) (Bd bk bf : Nat) (vt : Value) (w : World) (fk : Nat → Nat → Option Nat) (ff : Nat → Nat → Option (Nat × Nat)) : Prop :=
  Box w Bd #[vt, .map (some bk), .map (some bf)] 100 ∧ KnownM w bk fk ∧ FirstM w bf ff ∧ Chg [] w1 w
theorem Deb.keep {w1 w w' : World} {Bd bk bf : Nat} {vt : Value} {fk : Nat → Nat → Option Nat} {ff : Nat → Nat → Option (Nat × Nat)} (h : Deb w1 Bd bk bf vt w fk ff) (hc : Chg [] w w') : Deb w1 Bd bk bf vt w' fk ff :=
  ⟨h.1.keep hc List.not_mem_nil, h.2.1.keep hc List.not_mem_nil, h.2.2.1.keep hc List.not_mem_nil, h.2.2.2.trans hc⟩
/-- A split of least cost. -/
def GoodS (t : List (List Int)) (r c who s : Nat) : Prop := ((who = 0 ∧ s ∈ T.subs r) ∨ (who = 1 ∧ s ∈ T.subs c)) ∧ T.cost t r c who s = T.len t r c
def Vald (t : List (List Int)) (fk : Nat → Nat → Option Nat) (ff : Nat → Nat → Option (Nat × Nat)) : Prop :=
  ∀ r c n, r < 16 → c < 16 → fk r c = some n → n = T.len t r c ∧ ∃ who s, ff r c = some (who, s) ∧ GoodS t r c who s
/-- What was known of greater rectangles is known still, and no more. -/
def Rest (r c : Nat) (fk fk' : Nat → Nat → Option Nat) (ff ff' : Nat → Nat → Option (Nat × Nat)) : Prop := ∀ r' c', r + c ≤ r' + c' → ¬ (r' = r ∧ c' = c) → fk' r' c' = fk r' c' ∧ ff' r' c' = ff r' c'
theorem Rest.refl (r c : Nat) (fk : Nat → Nat → Option Nat) (ff : Nat → Nat → Option (Nat × Nat)) : Rest r c fk fk ff ff := fun _ _ _ _ => ⟨rfl, rfl⟩
def LenIs (w1 : World) (Bd bk bf : Nat) (vt : Value) (t : List (List Int)) (r c : Nat) (fk : Nat → Nat → Option Nat) (ff : Nat → Nat → Option (Nat × Nat)) (w w' : World) (e : Ending) : Prop :=
  e = .returned (.int .i64 (T.len t r c : Int)) ∧ ∃ fk' ff', Deb w1 Bd bk bf vt w' fk' ff' ∧ Vald t fk' ff' ∧ Chg [bk, bf] w w' ∧ Rest r c fk fk' ff ff' ∧ (T.clear t r c = false → ∃ who s, ff' r c = some (who, s) ∧ GoodS t r c who s)
def LenOk (w1 : World) (Bd bk bf : Nat) (vt : Value) (t : List (List Int)) (F : Nat) : Prop := ∀ (r c : Nat) (w : World) (fk : Nat → Nat → Option Nat) (ff : Nat → Nat → Option (Nat × Nat)), r < 16 → c < 16 → r ≠ 0 → c ≠ 0 → r + c < F → Deb w1 Bd bk bf vt w fk ff → Vald t fk ff →
  Calls Try.prog 31 #[.pointer (some ⟨Bd, 0, none⟩), rectV r c] w fun e w' => LenIs w1 Bd bk bf vt t r c fk ff w w' e

/-- The least cost of the first q ways to split. -/
def bq (t : List (List Int)) (r c q : Nat) : Nat := if q = 0 then 8 else if q = 1 then T.best ((T.subs r).map (T.cost t r c 0)) else T.len t r c
theorem bq_zero (t : List (List Int)) (r c : Nat) : bq t r c 0 = 8 := rfl
theorem bq_step {t : List (List Int)} {r c q : Nat} (hr : r < 16) (hc : c < 16) (hcl : T.clear t r c = false) (hq : q < 2) : bq t r c (q + 1) = min (bq t r c q) (T.best ((T.subs (if q = 0 then r else c)).map (T.cost t r c q))) := by
  rcases (show q = 0 ∨ q = 1 by omega) with rfl | rfl
  · have hb : ∀ l : List Nat, T.best l ≤ 8 := fun l => by
      have := T.best_append [] l
      rw [List.nil_append, T.best_nil] at this
      omega
    show T.best _ = min 8 _
    rw [if_pos rfl]
    have := hb ((T.subs r).map (T.cost t r c 0))
    omega
  · show T.len t r c = min (T.best _) _
    rw [T.len_eq hr hc, hcl, if_neg (by decide), T.best_append, if_neg (by decide)]
/-- The best split up to now. -/
def SoFar (t : List (List Int)) (r c B : Nat) (ff : Nat → Nat → Option (Nat × Nat)) : Prop := B = 8 ∨ ∃ who s, ff r c = some (who, s) ∧ ((who = 0 ∧ s ∈ T.subs r) ∨ (who = 1 ∧ s ∈ T.subs c)) ∧ T.cost t r c who s = B
theorem SoFar.good {t : List (List Int)} (ht : T.isTab t = true) {r c : Nat} (hr : r < 16) (hc : c < 16) (hr0 : r ≠ 0) (hc0 : c ≠ 0) {ff : Nat → Nat → Option (Nat × Nat)} (h : SoFar t r c (T.len t r c) ff) : ∃ who s, ff r c = some (who, s) ∧ GoodS t r c who s := by
  rcases h with h | ⟨who, s, h1, h2, h3⟩
  · have := T.len_lt ht hr hc hr0 hc0
    omega
  · exact ⟨who, s, h1, h2, h3⟩

/-- The two parts of a split. -/
theorem by_split {t : List (List Int)} {r c q x : Nat} (hr : r < 16) (hc : c < 16) (hr0 : r ≠ 0) (hc0 : c ≠ 0) (hq : q = 0 ∨ q = 1) (hx : x ∈ T.subs (if q = 0 then r else c)) :
    ∃ r0 c0 r1 c1, byV r c q x = .tuple #[rectV r0 c0, rectV r1 c1, .bool true] ∧ T.cost t r c q x = 1 + max (T.len t r0 c0) (T.len t r1 c1) ∧ (r0 < 16 ∧ c0 < 16 ∧ r0 ≠ 0 ∧ c0 ≠ 0 ∧ r0 + c0 < r + c) ∧ (r1 < 16 ∧ c1 < 16 ∧ r1 ≠ 0 ∧ c1 ≠ 0 ∧ r1 + c1 < r + c) := by
  rcases hq with rfl | rfl
  · rw [if_pos rfl] at hx
    obtain ⟨m1, m2, _, m4, m5, _⟩ := T.subs_mem hr hx
    exact ⟨r - x, c, x, c, rfl, rfl, ⟨by omega, hc, m4, hc0, by omega⟩, ⟨by omega, hc, m1, hc0, by omega⟩⟩
  · rw [if_neg (by decide)] at hx
    obtain ⟨m1, m2, _, m4, m5, _⟩ := T.subs_mem hc hx
    exact ⟨r, c - x, r, x, rfl, rfl, ⟨hr, by omega, hr0, m4, by omega⟩, ⟨hr, by omega, hr0, m1, by omega⟩⟩

set_option maxRecDepth 100000 in
set_option maxHeartbeats 1000000 in
theorem debate_any (v : Value) (t : List (List Int)) (w : World) (hv : See2 w v t) :
    Calls Try.prog 30 #[v] w fun e w' => ∃ Bd bk bf, e = .returned (.pointer (some ⟨Bd, 0, none⟩)) ∧ Deb w Bd bk bf v w' (fun _ _ => none) (fun _ _ => none) ∧ w.heap.size ≤ Bd ∧ w.heap.size ≤ bk ∧ w.heap.size ≤ bf ∧ Bd ≠ bk ∧ Bd ≠ bf ∧ bk ≠ bf := by
  obtain ⟨ao, cap, rfl⟩ := hv.shape
  clear hv
  generalize t.length = n
  have hmm := @run_makeMap Try.prog
  go_enter Try.func30, Try.ntmps30
  go_wp2
  have hk := (KnownM.new w).keep ((Chg.refl [] (w.alloc (.map #[] 0))).alloc (.map #[] 0)) List.not_mem_nil
  have hf := FirstM.new (w.alloc (.map #[] 0))
  have hc : Chg [] w ((w.alloc (.map #[] 0)).alloc (.map #[] 0)) := ((Chg.refl [] w).alloc _).alloc _
  have hs2 : (w.alloc (.map #[] 0)).heap.size = w.heap.size + 1 := by simp
  rw [hs2] at hf
  have hs3 : ((w.alloc (.map #[] 0)).alloc (.map #[] 0)).heap.size = w.heap.size + 1 + 1 := by simp
  generalize (w.alloc (.map #[] 0)).alloc (.map #[] 0) = w2 at hk hf hc hs3 ⊢
  go_ret
  have bx := Box.new w2 #[.slice ao n cap, .map (some w.heap.size), .map (some (w.heap.size + 1))] 100
  rw [hs3] at bx
  have hca : Chg [] w2 (w2.alloc (.cells #[.slice ao n cap, .map (some w.heap.size), .map (some (w.heap.size + 1))] 100)) := (Chg.refl _ _).alloc _
  exact ⟨_, _, _, rfl, ⟨bx, hk.keep hca List.not_mem_nil, hf.keep hca List.not_mem_nil, hc.trans hca⟩, by omega, Nat.le_refl _, by omega, by omega, by omega, by omega⟩
end Go.Proofs.Ytpplihpfjniacaa

/- Walk: the least talk about a rectangle. -/
namespace Go.Proofs.Ytpplihpfjniacaa
open Go.RowKit Go.Maps


set_option maxRecDepth 100000 in
set_option maxHeartbeats 4000000 in
theorem length_more (w1 : World) (Bd bk bf : Nat) (vt : Value) (t : List (List Int)) (F : Nat) (hv : See2 w1 vt t) (ht : T.isTab t = true) (n1 : Bd ≠ bk) (n2 : Bd ≠ bf) (n3 : bk ≠ bf) (hB : w1.heap.size ≤ Bd ∧ w1.heap.size ≤ bk ∧ w1.heap.size ≤ bf)
    (IH : LenOk w1 Bd bk bf vt t F) : LenOk w1 Bd bk bf vt t (F + 1) := by
  intro r c w fk ff hr hc hr0 hc0 hF hD hV
  obtain ⟨ao, cap, rfl⟩ := hv.shape
  have HD := hide hD
  have HV := hide hV
  have HIH := hide IH
  have hcl := hide fun ws (hw : Chg [] w ws) => clear_any (.slice ao t.length cap) t r c ws (hv.keep (hD.2.2.2.trans hw)) ht (by omega) (by omega)
  have HT := hide ht
  have NN := hide n3
  have HBs := hide hB
  obtain ⟨b1, hkm, _, hch⟩ := hD
  have c0 := b1.cell 0
  have c1 := b1.cell 1
  have c2 := b1.cell 2
  have ld := b1.lt
  simp at c0 c1 c2
  have HB1 := hide b1
  have hlk := hkm.look hr hc
  unfold rectV at hcl ⊢
  generalize t.length = n at *
  clear hv hV IH ht b1 hkm hch hlk
  go_enter Try.func31, Try.ntmps31
  go_wp2
  have bx := Box.new w #[.int .i64 (r : Int), .int .i64 (c : Int)] 70
  have C0 : Hid (Chg [] w (w.alloc (.cells #[.int .i64 (r : Int), .int .i64 (c : Int)] 70))) := hide ((Chg.refl _ _).alloc _)
  have hsz0 := C0.out.size
  have c0 : (w.alloc (.cells #[.int .i64 (r : Int), .int .i64 (c : Int)] 70)).cell? ⟨Bd, 0, none⟩ = some (.slice ao n cap) := (C0.out.cell ld List.not_mem_nil 0).trans c0
  have x0 := bx.cell 0
  have x1 := bx.cell 1
  have lx := bx.lt
  have BX := hide bx
  have HBr : Hid (w.heap.size ≤ w.heap.size) := hide (Nat.le_refl _)
  simp only [List.getElem?_toArray, List.getElem?_cons_zero, List.getElem?_cons_succ] at x0 x1
  clear bx
  have ld0 : Bd < (w.alloc (.cells #[.int .i64 (r : Int), .int .i64 (c : Int)] 70)).heap.size := by omega
  generalize w.alloc (.cells #[.int .i64 (r : Int), .int .i64 (c : Int)] 70) = W0 at C0 c0 x0 x1 lx ld0 BX hsz0 ⊢
  obtain ⟨Br, hBr⟩ : ∃ Br, Br = w.heap.size := ⟨_, rfl⟩
  rw [← hBr] at x0 x1 lx BX ⊢
  have HBr := hide hBr
  clear hBr
  have HClr : Hid (T.clear t r c = (T.clrM t r c).isSome) := hide rfl
  generalize T.clrM t r c = o at hcl HClr
  cases o with
  | some x =>
    unfold clrV at hcl
    simp only [] at hcl
    refine wp_region_ext (by kernel_rfl) (by kernel_rfl) ?_
    repeat (first | go_big_quiet_step ((go_at_call 53; exact calls_of_ret (hcl.out _ (Chg.trans C0.out (ExtOf.chg _))))) | quiet_step ((go_at_call 53; exact calls_of_ret (hcl.out _ (Chg.trans C0.out (ExtOf.chg _))))))
    refine wpQuiet_nil ?_
    intro wx hx
    have E : Hid (T.len t r c = 0) := hide (by rw [T.len_eq hr hc, if_pos (by rw [HClr.out]; rfl)])
    have CX : Hid (Chg [] w wx) := hide (C0.out.trans hx)
    go_wp2
    go_ret
    exact ⟨by rw [E.out]; rfl, fk, ff, HD.out.keep CX.out, HV.out, CX.out.toAny, Rest.refl _ _ _ _, fun h => by rw [HClr.out] at h; cases h⟩
  | none =>
    unfold clrV at hcl
    simp only [] at hcl
    have HCl : Hid (T.clear t r c = false) := hide HClr.out
    refine wp_region_ext (by kernel_rfl) (by kernel_rfl) ?_
    repeat (first | go_big_quiet_step ((go_at_call 53; exact calls_of_ret (hcl.out _ (Chg.trans C0.out (ExtOf.chg _))))) | quiet_step ((go_at_call 53; exact calls_of_ret (hcl.out _ (Chg.trans C0.out (ExtOf.chg _))))))
    refine wpQuiet_nil ?_
    intro wx hx
    have CX : Hid (Chg [] w wx) := hide (C0.out.trans hx)
    have HDx := hide (HD.out.keep CX.out)
    have d1 := HDx.out.1.cell 1
    have ldx := HDx.out.1.lt
    have bxx := BX.out.keep hx List.not_mem_nil
    have y0 := bxx.cell 0
    have y1 := bxx.cell 1
    have ly := bxx.lt
    simp only [List.getElem?_toArray, List.getElem?_cons_zero, List.getElem?_cons_succ] at d1 y0 y1
    have hrun := fun nq => (HDx.out.2.1.keep ((Chg.refl [] wx).drewN nq) List.not_mem_nil).look (r := r) (c := c) hr hc
    unfold rectV at hrun
    have BXx := hide bxx
    clear bxx c0 x0 x1 lx ld0 hcl
    cases hfk : fk r c with
    | some m =>
      have E := HV.out r c m hr hc hfk
      obtain ⟨rfl, who, s, hs1, hs2⟩ := E
      rw [hfk] at hrun
      have HS := hide (And.intro hs1 hs2)
      simp only [Option.getD_some, Option.isSome_some] at hrun
      clear hs1 hs2 hfk
      go_wp2
      go_quiet (fail)
      have CN : Hid (Chg [] w (wx.drewN nq)) := hide (CX.out.drewN _)
      go_wp2
      go_ret
      exact ⟨rfl, fk, ff, HD.out.keep CN.out, HV.out, CN.out.toAny, Rest.refl _ _ _ _, fun _ => ⟨who, s, HS.out⟩⟩
    | none =>
      rw [hfk] at hrun
      simp only [Option.getD_none, Option.isSome_none] at hrun
      have HFk := hide hfk
      clear hfk
      go_wp2
      go_quiet (fail)
      have CN : Hid (Chg [] w (wx.drewN nq)) := hide (CX.out.drewN _)
      have BXn := hide (BXx.out.keep ((Chg.refl [] wx).drewN nq) List.not_mem_nil)
      clear hrun
      go_wp2
      have bs := Box.new (wx.drewN nq) #[.int .i64 (r : Int), .int .i64 (c : Int)] 3
      have C3 : Hid (Chg [] w ((wx.drewN nq).alloc (.cells #[.int .i64 (r : Int), .int .i64 (c : Int)] 3))) := hide (CN.out.alloc _)
      have BX3 := hide (BXn.out.old (.cells #[.int .i64 (r : Int), .int .i64 (c : Int)] 3))
      have hbs : w.heap.size ≤ wx.heap.size := CX.out.size
      have bs : Box ((wx.drewN nq).alloc (.cells #[.int .i64 (r : Int), .int .i64 (c : Int)] 3)) wx.heap.size #[.int .i64 (r : Int), .int .i64 (c : Int)] 3 := bs
      have hkl := HD.out.2.1.lt
      have hfl := HD.out.2.2.1.lt
      have BS := hide bs
      clear bs d1 y0 y1 ly ldx
      generalize (wx.drewN nq).alloc (.cells #[.int .i64 (r : Int), .int .i64 (c : Int)] 3) = W3 at BS BX3 C3 ⊢
      generalize wx.heap.size = Bs at BS hbs ⊢
      have NS : Hid (Bd ∉ [bk, bf] ∧ Br ∉ [bk, bf] ∧ Bs ∉ [bk, bf]) := hide (by have := HBr.out; simp; omega)
      have NL : Hid (bk < w.heap.size ∧ bf < w.heap.size) := hide ⟨hkl, hfl⟩
      have D3 := hide (HD.out.keep C3.out)
      clear hkl hfl hbs
      go_loopw [9, 45] (fun Bv qv wr => ∃ (q B : Nat), q ≤ 2 ∧ B ≤ 8 ∧ Bv = .int .i64 (B : Int) ∧ qv = .int .i64 (q : Int) ∧ Hid (B = bq t r c q ∧ ∃ fk' ff', Deb w1 Bd bk bf (.slice ao n cap) wr fk' ff' ∧ Vald t fk' ff' ∧ fk' r c = none ∧ Chg [bk, bf] W3 wr ∧ Rest r c fk fk' ff ff' ∧ SoFar t r c B ff')) (fun _ qv _ => 2 - (intOf qv).toNat)
      case atStart => exact ⟨0, 8, by omega, by omega, rfl, rfl, hide ⟨rfl, fk, ff, D3.out, HV.out, HFk.out, Chg.refl _ _, Rest.refl _ _ _ _, .inl rfl⟩⟩
      case round =>
        obtain ⟨q, B, hq, hB8, rfl, rfl, hI⟩ := hrel
        by_cases hlt : q < 2
        · have e1 : decide ((q : Int) < 2) = true := by simp; omega
          have hq2 : q = 0 ∨ q = 1 := by omega
          have q0 : (0 : Int) ≤ (q : Int) := by omega
          have HQ := hide hq2
          obtain ⟨al, hal⟩ : ∃ al, al = if q = 0 then r else c := ⟨_, rfl⟩
          have hal16 : al < 16 ∧ al ≠ 0 := by rw [hal]; split <;> exact ⟨by omega, by omega⟩
          have fs : ∀ X, Chg [bk, bf] W3 X → X.cell? ⟨Bs, q, none⟩ = some (.int .i64 (al : Int)) := fun X hX => by
            rw [(BS.out.keep hX NS.out.2.2).cell, hal]
            rcases hq2 with rfl | rfl <;> rfl
          obtain ⟨top1, top2⟩ := T.top_ok hal16.1 hal16.2
          have fx := fs wr (by obtain ⟨_, _, _, _, _, _, h, _⟩ := hI.out; exact h)
          have HAl := hide hal
          have hal1 : al < 16 := hal16.1
          have HAl0 : Hid (al ≠ 0) := hide hal16.2
          have ea : (al : Int) - 1 = ((al - 1 : Nat) : Int) := by omega
          have eb := and_nat al (al - 1) (by omega) (by omega)
          have hTop : Hid (T.subs al = T.rem al (al &&& (al - 1))) := hide rfl
          generalize al - 1 = al1 at ea eb top1 top2 hTop
          generalize al &&& al1 = x0 at eb top1 top2 hTop
          have HTop := hide top1
          clear hal hal16 fs hq2 top1
          go_wp2
          go_loopw [9, 12] (fun Bv xv wq => ∃ (B' x : Nat), B' ≤ 8 ∧ x < al ∧ Bv = .int .i64 (B' : Int) ∧ xv = .int .i64 (x : Int) ∧ Hid (x &&& al = x ∧ bq t r c (q + 1) = min B' (T.best ((T.rem al x).map (T.cost t r c q))) ∧ ∃ fk' ff', Deb w1 Bd bk bf (.slice ao n cap) wq fk' ff' ∧ Vald t fk' ff' ∧ fk' r c = none ∧ Chg [bk, bf] W3 wq ∧ Rest r c fk fk' ff ff' ∧ SoFar t r c B' ff')) (fun _ xv _ => (intOf xv).toNat)
          case atStart => exact ⟨B, x0, hB8, top2, rfl, rfl, hide ⟨HTop.out, by rw [bq_step hr hc HCl.out hlt, ← HAl.out, hTop.out, hI.out.1], hI.out.2⟩⟩
          case round =>
            obtain ⟨B', x, hB', hxal, rfl, rfl, hJ⟩ := hrel
            by_cases hx0 : x = 0
            · subst hx0
              have d2 : decide ((0 : Int) < ((0 : Nat) : Int)) = false := by simp
              have hb := hJ.out.2.1
              rw [T.rem_zero, List.map_nil, T.best_nil] at hb
              have HB : Hid (B' = bq t r c (q + 1)) := hide (by omega)
              clear hb
              go_wp2
              go_roundw
              case rel => exact ⟨q + 1, B', by omega, hB', rfl, by go_num, hide ⟨HB.out, hJ.out.2.2⟩⟩
              case measure => simp [intOf]; omega
            · have hxp : 0 < x := by omega
              have d2 : decide ((0 : Int) < (x : Int)) = true := by simp; omega
              obtain ⟨hxa, hbq, fk', ff', hDe, hVa, hNo, hCh, hRe, hSo⟩ := hJ.out
              have hxs : x ∈ T.subs (if q = 0 then r else c) := by rw [← HAl.out]; exact T.mem_subs hal1 (by omega) hx0 (by omega) hxa
              obtain ⟨rs1, rs2, rs3⟩ := T.rem_step hal1 (show x < 16 by omega) hx0 hxa
              rw [rs1, List.map_cons, T.best_cons] at hbq
              obtain ⟨r0, c0, r1, c1, hby, hco, hA, hZ⟩ := by_split (t := t) hr hc hr0 hc0 HQ.out hxs
              have hbyc : Hid (∀ ws, Calls Try.prog 54 #[.agg #[.int .i64 (r : Int), .int .i64 (c : Int)], .agg #[.int .i64 (q : Int), .int .i64 (x : Int)]] ws (Ret (.tuple #[.agg #[.int .i64 (r0 : Int), .int .i64 (c0 : Int)], .agg #[.int .i64 (r1 : Int), .int .i64 (c1 : Int)], .bool true]) ws)) := hide fun ws => by
                have := by_any r c q x ws hr hc HQ.out hxs
                rw [hby] at this
                exact this
              have ex : (x : Int) - 1 = ((x - 1 : Nat) : Int) := by omega
              have exb := and_nat (x - 1) al (by omega) (by omega)
              have HNx : Hid (((x - 1) &&& al) &&& al = (x - 1) &&& al ∧ (x - 1) &&& al < x) := hide ⟨rs3, rs2⟩
              have HBq := hide hbq
              have hMx : (if T.len t r0 c0 < T.len t r1 c1 then (T.len t r1 c1 : Int) else (T.len t r0 c0 : Int)) = ((max (T.len t r0 c0) (T.len t r1 c1) : Nat) : Int) := by split <;> omega
              have hM16 : max (T.len t r0 c0) (T.len t r1 c1) ≤ 6 := by
                have := T.len_lt HT.out hA.1 hA.2.1 hA.2.2.1 hA.2.2.2.1
                have := T.len_lt HT.out hZ.1 hZ.2.1 hZ.2.2.1 hZ.2.2.2.1
                omega
              have bxr := BX3.out.keep hCh NS.out.2.1
              have y0 := bxr.cell 0
              have y1 := bxr.cell 1
              have ly := bxr.lt
              simp only [List.getElem?_toArray, List.getElem?_cons_zero, List.getElem?_cons_succ] at y0 y1
              have HSt := hide (And.intro hDe (And.intro hVa (And.intro hNo (And.intro hCh (And.intro hRe hSo)))))
              have HCo := hide hco
              have HA := hide hA
              have HZ := hide hZ
              have HXs := hide hxs
              generalize (x - 1) &&& al = x2 at exb HNx HBq
              generalize x - 1 = x1 at ex exb
              clear hxa hbq hDe hVa hNo hCh hRe hSo rs1 rs2 rs3 hby bxr hco hA hZ hxs
              go_wp2_with (go_at_call 54; refine (hbyc.out _).mono ?_; rintro e wb ⟨rfl, hwb⟩)
              have hCb : Chg [] wr wb := ((Chg.refl [] wr).alloc _).trans hwb
              have bn := (Box.new wb #[.int .i64 (r0 : Int), .int .i64 (c0 : Int)] 70).old (.cells #[.int .i64 (r1 : Int), .int .i64 (c1 : Int)] 70)
              have by' := Box.at (wb.alloc (.cells #[.int .i64 (r0 : Int), .int .i64 (c0 : Int)] 70)) #[.int .i64 (r1 : Int), .int .i64 (c1 : Int)] 70 (n := wb.heap.size + 1) (by simp)
              have bq13 := (Box.new wr #[.int .i64 (q : Int), .int .i64 (x : Int)] 103).keep (hwb.trans (((Chg.refl [] wb).alloc (.cells #[.int .i64 (r0 : Int), .int .i64 (c0 : Int)] 70)).alloc (.cells #[.int .i64 (r1 : Int), .int .i64 (c1 : Int)] 70))) List.not_mem_nil
              have CB : Hid (Chg [] wr ((wb.alloc (.cells #[.int .i64 (r0 : Int), .int .i64 (c0 : Int)] 70)).alloc (.cells #[.int .i64 (r1 : Int), .int .i64 (c1 : Int)] 70))) := hide ((hCb.alloc _).alloc _)
              have hsb := hCb.size
              have hsr := HSt.out.2.2.2.1.size
              have hs3 := C3.out.size
              have NB : Hid (wb.heap.size ∉ [bk, bf] ∧ wb.heap.size + 1 ∉ [bk, bf] ∧ wr.heap.size ∉ [bk, bf]) := hide (by have := NL.out; simp; omega)
              have BN := hide bn
              have BY := hide by'
              have B13 := hide bq13
              clear bn by' bq13 hCb hwb y0 y1 ly hsb hsr hs3
              generalize (wb.alloc (.cells #[.int .i64 (r0 : Int), .int .i64 (c0 : Int)] 70)).alloc (.cells #[.int .i64 (r1 : Int), .int .i64 (c1 : Int)] 70) = W4 at BN BY B13 CB ⊢
              generalize wb.heap.size = Bn at BN BY NB ⊢
              generalize wr.heap.size = B3 at B13 NB ⊢
              have HK := hide fun X (hX : Chg [bk, bf] W4 X) => (⟨(BN.out.keep hX NB.out.1).cell 0, (BN.out.keep hX NB.out.1).cell 1, (BY.out.keep hX NB.out.2.1).cell 0, (BY.out.keep hX NB.out.2.1).cell 1⟩ : X.cell? ⟨Bn, 0, none⟩ = some (.int .i64 (r0 : Int)) ∧ X.cell? ⟨Bn, 1, none⟩ = some (.int .i64 (c0 : Int)) ∧ X.cell? ⟨Bn + 1, 0, none⟩ = some (.int .i64 (r1 : Int)) ∧ X.cell? ⟨Bn + 1, 1, none⟩ = some (.int .i64 (c1 : Int)))
              have n0 := BN.out.cell 0
              have n1' := BN.out.cell 1
              have m0 := BY.out.cell 0
              have m1 := BY.out.cell 1
              have ln := BN.out.lt
              have ly := BY.out.lt
              simp only [List.getElem?_toArray, List.getElem?_cons_zero, List.getElem?_cons_succ] at n0 n1' m0 m1
              have HNoC := hide fun X (hX : Chg [] W4 X) => HIH.out r0 c0 X fk' ff' HA.out.1 HA.out.2.1 HA.out.2.2.1 HA.out.2.2.2.1 (by have := HA.out.2.2.2.2; omega) ((HSt.out.1.keep CB.out).keep hX) HSt.out.2.1
              have HYeC := hide fun X fk1 ff1 (hX : Deb w1 Bd bk bf (.slice ao n cap) X fk1 ff1) (hV : Vald t fk1 ff1) => HIH.out r1 c1 X fk1 ff1 HZ.out.1 HZ.out.2.1 HZ.out.2.2.1 HZ.out.2.2.2.1 (by have := HZ.out.2.2.2.2; omega) hX hV
              unfold rectV at HNoC HYeC
              obtain ⟨M, hM⟩ : ∃ M, M = max (T.len t r0 c0) (T.len t r1 c1) := ⟨_, rfl⟩
              rw [← hM] at hMx hM16
              have HMe := hide hM
              have hwr : IntKind.i64.wrap (1 + (M : Int)) = 1 + (M : Int) := by rw [IntKind.wrap_i64]; omega
              clear hM
              go_region_held3 (fun X => X.cell? ⟨Bn, 0, none⟩ = some (.int .i64 (r0 : Int)) ∧ X.cell? ⟨Bn, 1, none⟩ = some (.int .i64 (c0 : Int)) ∧ X.cell? ⟨Bn + 1, 0, none⟩ = some (.int .i64 (r1 : Int)) ∧ X.cell? ⟨Bn + 1, 1, none⟩ = some (.int .i64 (c1 : Int)))
                (first | (focus (refine HK.out _ ?_; (repeat' (first | with_reducible exact Chg.refl _ _ | with_reducible assumption | with_reducible apply Chg.drewN | with_reducible apply Chg.drew | with_reducible apply Chg.alloc | (with_reducible refine Chg.setCell ?_ (Or.inr ?_) _) | (with_reducible refine Chg.trans ?_ (by assumption)) | (simp; done) | (simp; omega))); done)))
                ((first | (go_at_call 31; (with_reducible refine Calls.mono (HNoC.out _ ?hcA) ?_); (case hcA => ((repeat' (first | with_reducible exact Chg.refl _ _ | with_reducible assumption | with_reducible apply Chg.drewN | with_reducible apply Chg.drew | with_reducible apply Chg.alloc | (with_reducible refine Chg.setCell ?_ (Or.inr ?_) _) | (with_reducible refine Chg.trans ?_ (by assumption)) | (simp; done) | (simp; omega))))); rintro e wA ⟨rfl, fkA, ffA, dA, vA, hcA, rA, _⟩) | (go_at_call 31; (with_reducible refine Calls.mono (HYeC.out _ fkA ffA (dA.keep ?hcZ) vA) ?_); (case hcZ => ((repeat' (first | with_reducible exact Chg.refl _ _ | with_reducible assumption | with_reducible apply Chg.drewN | with_reducible apply Chg.drew | with_reducible apply Chg.alloc | (with_reducible refine Chg.setCell ?_ (Or.inr ?_) _) | (with_reducible refine Chg.trans ?_ (by assumption)) | (simp; done) | (simp; omega))))); rintro e wZ ⟨rfl, fkZ, ffZ, dZ, vZ, hcZ, rZ, _⟩)))
              have CZ : Hid (Chg [bk, bf] W4 wZ) := hide (((Chg.refl _ _).drew.trans hcA).trans hcZ)
              have hcost : Hid (T.cost t r c q x = 1 + M) := hide (by rw [HCo.out, HMe.out])
              have hA := HA.out
              have hZ := HZ.out
              obtain ⟨sDe, sVa, sNo, sCh, sRe, sSo⟩ := HSt.out
              have hboth : ∀ r' c', r + c ≤ r' + c' → fkZ r' c' = fk' r' c' ∧ ffZ r' c' = ff' r' c' := fun r' c' h => by
                obtain ⟨z1, z2⟩ := rZ r' c' (by omega) (by omega)
                obtain ⟨a1, a2⟩ := rA r' c' (by omega) (by omega)
                exact ⟨z1.trans a1, z2.trans a2⟩
              have hnoZ : fkZ r c = none := by rw [(hboth r c (Nat.le_refl _)).1]; exact sNo
              have hReZ : Rest r c fk fkZ ff ffZ := fun r' c' h1 h2 => by
                obtain ⟨e1, e2⟩ := hboth r' c' h1
                obtain ⟨f1, f2⟩ := sRe r' c' h1 h2
                exact ⟨e1.trans f1, e2.trans f2⟩
              have hSoZ : SoFar t r c B' ffZ := by
                unfold SoFar at sSo ⊢
                rw [(hboth r c (Nat.le_refl _)).2]
                exact sSo
              have hChZ : Chg [bk, bf] W3 wZ := (sCh.trans CB.out.toAny).trans CZ.out
              have bxz := BX3.out.keep hChZ NS.out.2.1
              have b3z := B13.out.keep CZ.out NB.out.2.2
              have y0 := bxz.cell 0
              have y1 := bxz.cell 1
              have ly := bxz.lt
              have s0 := b3z.cell 0
              have s1 := b3z.cell 1
              have ls := b3z.lt
              have d1 := dZ.1.cell 2
              have ldz := dZ.1.lt
              simp only [List.getElem?_toArray, List.getElem?_cons_zero, List.getElem?_cons_succ] at y0 y1 s0 s1 d1
              have hdd := dZ.keep (Chg.refl [] wZ).drew
              obtain ⟨w5, hst, hm5, hc5⟩ := hdd.2.2.1.store hr hc (q, x)
              have hd5 : Deb w1 Bd bk bf (.slice ao n cap) w5 fkZ (upd ffZ r c (q, x)) := ⟨hdd.1.keep hc5 (by have := NS.out.1; simp at this; simp [this.2]), hdd.2.1.keep hc5 (by have := NN.out; simp; omega), hm5, hdd.2.2.2.trans' hc5 (fun y hy => .inr (by simp at hy; rw [hy]; exact HBs.out.2.2))⟩
              have hv5 : Vald t fkZ (upd ffZ r c (q, x)) := fun r' c' m hr' hc' hm => by
                have hne : ¬ (r' = r ∧ c' = c) := fun e => by rw [e.1, e.2, hnoZ] at hm; cases hm
                rw [upd_other _ _ hne]
                exact vZ r' c' m hr' hc' hm
              have hr5 : Rest r c fk fkZ ff (upd ffZ r c (q, x)) := fun r' c' h1 h2 => by rw [upd_other _ _ h2]; exact hReZ r' c' h1 h2
              have hs5 : SoFar t r c (1 + M) (upd ffZ r c (q, x)) := .inr ⟨q, x, upd_same _ _ _ _, by
                rcases HQ.out with h | h
                · left; exact ⟨h, by have := HXs.out; rwa [if_pos h] at this⟩
                · right; exact ⟨h, by have := HXs.out; rwa [if_neg (by omega)] at this⟩, hcost.out⟩
              have hc5' : Chg [bk, bf] W3 w5 := (hChZ.trans (Chg.refl _ _).drew).trans (hc5.mono (fun y hy => by simp at hy; simp [hy]))
              have HH5 := hide (And.intro hd5 (And.intro hv5 (And.intro hnoZ (And.intro hc5' (And.intro hr5 hs5)))))
              have HHZ := hide (And.intro dZ (And.intro vZ (And.intro hnoZ (And.intro hChZ (And.intro hReZ hSoZ)))))
              unfold splitV at hst
              unfold rectV at hst
              clear dA vA hcA rA dZ vZ hcZ rZ hA hZ sDe sVa sNo sCh sRe sSo hboth hnoZ hReZ hSoZ hChZ bxz b3z hdd hm5 hc5 hd5 hv5 hr5 hs5 hc5' n0 n1' m0 m1 ln
              by_cases hlt2 : 1 + M < B'
              · have d3 : decide (1 + (M : Int) < (B' : Int)) = true := by simp; omega
                have HNe : Hid (bq t r c (q + 1) = min (1 + M) (T.best ((T.rem al x2).map (T.cost t r c q)))) := hide (by have := HBq.out; rw [hcost.out] at this; omega)
                go_wp2
                go_region
                all_goals
                  go_wp2
                  go_roundw
                  case rel => exact ⟨1 + M, x2, by omega, by have := HNx.out.2; omega, by go_num, by go_num, hide ⟨HNx.out.1, HNe.out, _, _, HH5.out⟩⟩
                  case measure => have := HNx.out.2; simp [intOf]; omega
              · have d3 : decide (1 + (M : Int) < (B' : Int)) = false := by simp; omega
                have HNe : Hid (bq t r c (q + 1) = min B' (T.best ((T.rem al x2).map (T.cost t r c q)))) := hide (by have := HBq.out; rw [hcost.out] at this; omega)
                go_wp2
                go_roundw
                case rel => exact ⟨B', x2, hB', by have := HNx.out.2; omega, rfl, by go_num, hide ⟨HNx.out.1, HNe.out, _, _, HHZ.out⟩⟩
                case measure => have := HNx.out.2; simp [intOf]; omega
        · have e1 : decide ((q : Int) < 2) = false := by simp; omega
          obtain rfl : q = 2 := by omega
          obtain ⟨hB0, fk', ff', hDe, hVa, hNo, hCh, hRe, hSo⟩ := hI.out
          have hBq : B = T.len t r c := hB0
          clear hB0
          rw [hBq] at hSo
          have hGo := hSo.good HT.out hr hc hr0 hc0
          have bxr := BX3.out.keep hCh NS.out.2.1
          have y0 := bxr.cell 0
          have y1 := bxr.cell 1
          have ly := bxr.lt
          have d1 := hDe.1.cell 1
          have ldr := hDe.1.lt
          simp only [List.getElem?_toArray, List.getElem?_cons_zero, List.getElem?_cons_succ] at y0 y1 d1
          have hDd := hDe.keep (Chg.refl [] wr).drew
          obtain ⟨w4, hst, hm4, hc4⟩ := hDd.2.1.store hr hc B
          have hb4 : Chg [bk, bf] w w4 := (C3.out.toAny.trans (hCh.trans (Chg.refl _ _).drew)).trans (hc4.mono (fun x hx => by simp at hx; simp [hx]))
          have hd4 : Deb w1 Bd bk bf (.slice ao n cap) w4 (upd fk' r c B) ff' := ⟨hDd.1.keep hc4 (by have := NS.out.1; simp at this; simp [this.1]), hm4, hDd.2.2.1.keep hc4 (by have := NN.out; simp; omega), hDd.2.2.2.trans' hc4 (fun x hx => .inr (by simp at hx; rw [hx]; exact HBs.out.2.1))⟩
          have hv4 : Vald t (upd fk' r c B) ff' := fun r' c' m hr' hc' hm => by
            by_cases e : r' = r ∧ c' = c
            · obtain ⟨rfl, rfl⟩ := e
              rw [upd_same] at hm
              cases hm
              exact ⟨hBq, hGo⟩
            · rw [upd_other _ _ e] at hm
              exact hVa r' c' m hr' hc' hm
          have hr4 : Rest r c fk (upd fk' r c B) ff ff' := fun r' c' h1 h2 => by rw [upd_other _ _ h2]; exact hRe r' c' h1 h2
          have HH := hide (And.intro hd4 (And.intro hv4 (And.intro hb4 (And.intro hr4 hGo))))
          have HBq := hide hBq
          unfold rectV at hst
          clear hDe hVa hNo hCh hRe hSo hGo bxr hDd hm4 hc4 hd4 hv4 hb4 hr4 hBq
          go_wp2
          go_region
          all_goals
            go_wp2
            go_ret
            exact ⟨by rw [← HBq.out]; rfl, _, _, HH.out.1, HH.out.2.1, HH.out.2.2.1, HH.out.2.2.2.1, fun _ => HH.out.2.2.2.2⟩
end Go.Proofs.Ytpplihpfjniacaa

/- Walks: Length, awake. -/
namespace Go.Proofs.Ytpplihpfjniacaa
open Go.RowKit Go.Maps

theorem length_all (w1 : World) (Bd bk bf : Nat) (vt : Value) (t : List (List Int)) (hv : See2 w1 vt t) (ht : T.isTab t = true) (n1 : Bd ≠ bk) (n2 : Bd ≠ bf) (n3 : bk ≠ bf) (hB : w1.heap.size ≤ Bd ∧ w1.heap.size ≤ bk ∧ w1.heap.size ≤ bf) : ∀ F, LenOk w1 Bd bk bf vt t F
  | 0 => fun r c w fk ff _ _ _ _ h => by omega
  | F + 1 => length_more w1 Bd bk bf vt t F hv ht n1 n2 n3 hB (length_all w1 Bd bk bf vt t hv ht n1 n2 n3 hB F)
/-- The least talk about a whole table. -/
def lenT (t : List (List Int)) : Nat := T.len t (2 ^ t.length - 1) (2 ^ T.cols t - 1)
def lenV (t : List (List Int)) : Value := if T.isTab t = true then .tuple #[.int .i64 (lenT t : Int), .int .i64 0] else .tuple #[.int .i64 0, .int .i64 2]
theorem whole_lt {n : Nat} (h1 : 1 ≤ n) (h4 : n ≤ 4) : 2 ^ n - 1 < 16 ∧ 2 ^ n - 1 ≠ 0 := by
  rcases (show n = 1 ∨ n = 2 ∨ n = 3 ∨ n = 4 by omega) with rfl | rfl | rfl | rfl <;> decide

set_option maxRecDepth 100000 in
set_option maxHeartbeats 1000000 in
theorem Length_any (v : Value) (t : List (List Int)) (w : World) (hv : See2 w v t) (hl : ∀ r ∈ t, r.length ≤ 1000000) (htl : t.length ≤ 1000000) : Calls Try.prog 13 #[v] w (Ret (lenV t) w) := by
  have HVa := hide (valid_any v t w hv hl htl)
  obtain ⟨ao, cap, rfl⟩ := hv.shape
  cases ht : T.isTab t with
  | false =>
    rw [ht] at HVa
    have E : Hid (lenV t = .tuple #[.int .i64 0, .int .i64 2]) := hide (by unfold lenV; rw [ht]; rfl)
    clear hv hl htl ht
    generalize t.length = n at *
    go_enter Try.func13, Try.ntmps13
    go_wp2_with fail
    refine HVa.out.mono ?_
    rintro e w1 ⟨rfl, hw1⟩
    go_wp2
    go_ret2
    exact ⟨by rw [E.out]; rfl, hw1⟩
  | true =>
    rw [ht] at HVa
    have E : Hid (lenV t = .tuple #[.int .i64 (T.len t (2 ^ t.length - 1) (2 ^ T.cols t - 1) : Int), .int .i64 0]) := hide (by unfold lenV; rw [if_pos ht]; rfl)
    have HDb := hide fun ws (hw : Chg [] w ws) => debate_any _ t ws (hv.keep hw)
    have HWh := hide fun ws (hw : Chg [] w ws) => whole_any _ t ws (hv.keep hw) ht
    have HLn := hide fun w2 Bd bk bf (hw : Chg [] w w2) (n1 : Bd ≠ bk) (n2 : Bd ≠ bf) (n3 : bk ≠ bf) (hB : w2.heap.size ≤ Bd ∧ w2.heap.size ≤ bk ∧ w2.heap.size ≤ bf) => length_all w2 Bd bk bf _ t (hv.keep hw) ht n1 n2 n3 hB (2 ^ t.length - 1 + (2 ^ T.cols t - 1) + 1)
    obtain ⟨⟨t1, t2, t3, t4⟩, _⟩ := T.isTab_iff.1 ht
    have r1 := hide (whole_lt t1 t2)
    have r2 := hide (whole_lt t3 t4)
    clear hv hl htl ht t1 t2 t3 t4
    generalize 2 ^ T.cols t - 1 = c at *
    generalize 2 ^ t.length - 1 = r at *
    generalize t.length = n at *
    go_enter Try.func13, Try.ntmps13
    go_wp2_with fail
    refine HVa.out.mono ?_
    rintro e w1 ⟨rfl, hw1⟩
    go_wp2_with fail
    refine (HDb.out _ hw1).mono ?_
    rintro e w2 ⟨Bd, bk, bf, rfl, hD, hB1, hB2, hB3, n1, n2, n3⟩
    have HD := hide hD
    have HN := hide (And.intro n1 (And.intro n2 n3))
    have HB := hide (And.intro hB1 (And.intro hB2 hB3))
    have HW1 := hide hw1
    clear hD hB1 hB2 hB3 n1 n2 n3 hw1
    go_wp2_with fail
    refine (HWh.out _ (HW1.out.trans HD.out.2.2.2)).mono ?_
    rintro e w3 ⟨rfl, hw3⟩
    unfold rectV
    have HW3 := hide hw3
    clear hw3
    go_wp2_with fail
    refine (HLn.out w1 Bd bk bf HW1.out HN.out.1 HN.out.2.1 HN.out.2.2 HB.out r c w3 _ _ r1.out.1 r2.out.1 r1.out.2 r2.out.2 (Nat.lt_succ_self _) (HD.out.keep HW3.out) (fun _ _ _ _ _ h => by cases h)).mono ?_
    rintro e w4 ⟨rfl, fk, ff, hD4, _⟩
    have HW4 := hide (HW1.out.trans hD4.2.2.2)
    clear hD4
    go_wp2
    go_ret2
    exact ⟨by rw [E.out]; rfl, HW4.out⟩

theorem see2_ex (w : World) : See2 ((w.alloc (.cells #[.int .i64 0, .int .i64 1] 3)).alloc (.cells #[.slice (some ⟨w.heap.size, 0, none⟩) 2 2] 23)) (.slice (some ⟨w.heap.size + 1, 0, none⟩) 1 1) [[0, 1]] := by
  refine ⟨some ⟨w.heap.size + 1, 0, none⟩, 1, rfl, Nat.le_refl _, fun _ => ⟨_, rfl, by simp, fun i hi => ?_⟩⟩
  obtain rfl : i = 0 := by simpa using hi
  refine ⟨.slice (some ⟨w.heap.size, 0, none⟩) 2 2, ?_, .inr ⟨⟨w.heap.size, 0, none⟩, 2, rfl, Nat.le_refl _, by simp; omega, fun j hj => ?_⟩⟩
  · rw [add_zero_row]
    have := (Box.at (w.alloc (.cells #[.int .i64 0, .int .i64 1] 3)) #[.slice (some ⟨w.heap.size, 0, none⟩) 2 2] 23 (n := w.heap.size + 1) (by simp)).cell 0
    exact this
  · rw [add_zero_row]
    have := ((Box.new w #[.int .i64 0, .int .i64 1] 3).old (.cells #[.slice (some ⟨w.heap.size, 0, none⟩) 2 2] 23)).cell j
    rw [this]
    match j, hj with
    | 0, _ => rfl
    | 1, _ => rfl
theorem lenV_ex : lenV [[0, 1]] = .tuple #[.int .i64 1, .int .i64 0] := by
  unfold lenV
  rw [if_pos (by decide), show lenT [[0, 1]] = 1 by decide +kernel]
  rfl
end Go.Proofs.Ytpplihpfjniacaa
