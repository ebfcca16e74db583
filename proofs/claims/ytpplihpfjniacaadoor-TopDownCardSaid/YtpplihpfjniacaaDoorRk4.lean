/- Walks: small parts of rank; rows of numbers, each in a block of its own. -/
import Derived.Test.YtpplihpfjniacaaDoorValid
import Derived.Test.YtpplihpfjniacaaDoorRkMin
import Derived.BigRegion
import Derived.BigQuiet
import Derived.StillTailTactics
namespace Go.Proofs.YtpplihpfjniacaaDoor
open Go.RowKit

set_option maxRecDepth 100000 in
set_option maxHeartbeats 1000000 in
theorem Index_at (F : FuncId) (cp : Array Value) (P : List Int → Bool) (v : Value) (t : List (List Int)) (w : World) (hv : See2 w v t) (hl : t.length ≤ 1000000)
    (hcall : ∀ args W, (callFunc F args).run Tryd.prog W = .ok (.enter F args) W) (hF : ∀ u r ws, r ∈ t → Chg [] w ws → See ws u r → Calls Tryd.prog F (#[u] ++ cp) ws (Ret (.bool (P r)) ws)) :
    Calls Tryd.prog 70 #[v, .func (.func F) #[] cp] w fun e w' => ∃ r : Int, e = .returned (.int .i64 r) ∧
      ((∃ k : Nat, k < t.length ∧ r = (k : Int) ∧ P (t.getD k []) = true ∧ ∀ q, q < k → P (t.getD q []) = false) ∨ (r = -1 ∧ ∀ q, q < t.length → P (t.getD q []) = false)) ∧ Chg [] w w' := by
  obtain ⟨ao, cap, rfl⟩ := hv.shape
  have HV := hide hv
  have HF := hide hF
  clear hv hF
  generalize hn : t.length = n at *
  have HN := hide hn
  clear hn
  go_enter Tryd.func70, Tryd.ntmps70
  go_wp2
  go_loopw [8] (fun i wr => ∃ j : Nat, j ≤ n ∧ i = .int .i64 (j : Int) ∧ Hid ((∀ q, q < j → P (t.getD q []) = false) ∧ Chg [] w wr)) (fun i _ => (n - (intOf i).toNat))
  case atStart => exact ⟨0, Nat.zero_le _, rfl, hide ⟨fun q h => by omega, Chg.refl _ _⟩⟩
  case round =>
    obtain ⟨j, hj, rfl, hI⟩ := hrel
    by_cases hlt : j < n
    · have d1 : decide ((j : Int) < (n : Int)) = true := by simpa using hlt
      have nx : t ≠ [] := fun h => by have := HN.out; rw [h] at this; simp at this; omega
      obtain ⟨a, cap', e, _, hc⟩ := HV.out.open nx
      cases e
      obtain ⟨bo, bc, hrow⟩ := hc j (by rw [HN.out]; exact hlt)
      obtain ⟨fx, hs⟩ := hrow wr hI.out.2
      have HMem : Hid (t.getD j [] ∈ t) := hide (T.row_mem (by rw [HN.out]; exact hlt))
      have HC := hide (HF.out _ _ wr HMem.out hI.out.2 hs)
      obtain ⟨x, hxe⟩ : ∃ x, x = t.getD j [] := ⟨_, rfl⟩
      rw [← hxe] at fx HC HMem
      have HXE := hide hxe
      clear nx hc hxe hrow hs
      go_wp2_with fail
      refine HC.out.mono ?_
      rintro e w1 ⟨rfl, hw1⟩
      cases hp : P x with
      | true =>
        have HP := hide hp
        clear hp
        go_wp2
        go_ret
        exact ⟨_, rfl, .inl ⟨j, hlt, rfl, by rw [← HXE.out]; exact HP.out, hI.out.1⟩, hI.out.2.trans hw1⟩
      | false =>
        have HP := hide hp
        clear hp
        go_wp2
        go_roundw
        case rel => exact ⟨j + 1, by omega, by go_num, hide ⟨fun q hq => by
          rcases (show q < j ∨ q = j by omega) with h | rfl
          · exact hI.out.1 q h
          · rw [← HXE.out]; exact HP.out, hI.out.2.trans hw1⟩⟩
        case measure => simp [intOf]; omega
    · have d1 : decide ((j : Int) < (n : Int)) = false := by simpa using hlt
      go_wp2
      go_ret
      exact ⟨_, rfl, .inr ⟨rfl, fun q hq => hI.out.1 q (by omega)⟩, hI.out.2⟩

theorem callRk (args : Array Value) (W : World) : (callFunc 71 args).run Tryd.prog W = .ok (.enter 71 args) W := by kernel_rfl
set_option maxRecDepth 100000 in
set_option maxHeartbeats 1000000 in
theorem rk_any (u : Value) (r : List Int) (J j : Nat) (w : World) (hu : See w u r) (hJ : w.cell? ⟨J, 0, none⟩ = some (.int .i64 (j : Int))) (hj : j < r.length) :
    Calls Tryd.prog 71 #[u, .pointer (some ⟨J, 0, none⟩)] w (Ret (.bool (decide (r.getD j 0 ≠ 0))) w) := by
  have hne : r ≠ [] := by rintro rfl; simp at hj
  obtain ⟨a, cap, rfl, hc⟩ := hu.open hne
  have f0 := hc w (Chg.refl _ _) j hj
  have e1 : (r.getD j 0 != 0) = decide (r.getD j 0 ≠ 0) := by
    generalize r.getD j 0 = x
    by_cases h : x = 0 <;> simp [h]
  generalize decide (r.getD j 0 ≠ 0) = R at e1 ⊢
  generalize r.getD j 0 = x at f0 e1
  clear hu hc hne
  generalize r.length = L at *
  go_enter Tryd.func71, Tryd.ntmps71
  go_wp2
  go_ret
  exact ⟨rfl, Chg.refl _ _⟩

/-- What the two make of four numbers. -/
def cross0 (a b c d : Int) : Int := wrap64 (wrap64 (a * d) - wrap64 (b * c))
def cross2 (a b c d : Int) : Int := bits .and .i64 (bits .xor .i64 (wrap64 (a * d)) (wrap64 (b * c))) 1
set_option maxRecDepth 100000 in
set_option maxHeartbeats 1000000 in
theorem cross0_any (a b c d : Int) (w : World) : Calls Tryd.prog 36 #[.int .i64 a, .int .i64 b, .int .i64 c, .int .i64 d] w (fun e w' => e = .returned (.int .i64 (cross0 a b c d)) ∧ w' = w) := by
  go_enter Tryd.func36, Tryd.ntmps36
  go_wp2
  go_ret
  exact ⟨rfl, rfl⟩

/-- Rows of numbers, each in a block of its own, in a block of its own. -/
structure MatP (w : World) (base O m n : Nat) (G K : Nat → Nat) (M : Nat → Nat → Int) : Prop where
  outer : ∃ cur, Box w O cur 22 ∧ ∀ i, i < m → cur[i]? = some (.slice (some ⟨G i, 0, none⟩) n (K i))
  row : ∀ i, i < m → ∃ cs, Box w (G i) cs 3 ∧ ∀ c, c < n → cs[c]? = some (.int .i64 (M i c))
  inj : ∀ i k, i < m → k < m → G i = G k → i = k
  out : ∀ i, i < m → G i ≠ O
  lowO : base ≤ O
  low : ∀ i, i < m → base ≤ G i
  cap : ∀ i, i < m → n ≤ K i

theorem MatP.ltO {w : World} {base O m n : Nat} {G K : Nat → Nat} {M : Nat → Nat → Int} (h : MatP w base O m n G K M) : O < w.heap.size := by
  obtain ⟨cur, hb, -⟩ := h.outer; exact hb.lt
theorem MatP.lt {w : World} {base O m n : Nat} {G K : Nat → Nat} {M : Nat → Nat → Int} (h : MatP w base O m n G K M) {i : Nat} (hi : i < m) : G i < w.heap.size := by
  obtain ⟨cur, hb, -⟩ := h.row i hi; exact hb.lt
theorem MatP.keep {w w' : World} {base O m n : Nat} {G K : Nat → Nat} {M : Nat → Nat → Int} (h : MatP w base O m n G K M) (hc : Chg [] w w') : MatP w' base O m n G K M := by
  refine ⟨?_, fun i hi => ?_, h.inj, h.out, h.lowO, h.low, h.cap⟩
  · obtain ⟨cur, hb, e⟩ := h.outer
    exact ⟨cur, hb.keep hc List.not_mem_nil, e⟩
  · obtain ⟨cs, hb, e⟩ := h.row i hi
    exact ⟨cs, hb.keep hc List.not_mem_nil, e⟩
theorem MatP.cellO {w : World} {base O m n : Nat} {G K : Nat → Nat} {M : Nat → Nat → Int} (h : MatP w base O m n G K M) {i : Nat} (hi : i < m) :
    w.cell? ⟨O, i, none⟩ = some (.slice (some ⟨G i, 0, none⟩) n (K i)) := by
  obtain ⟨cur, hb, e⟩ := h.outer
  rw [hb.cell]; exact e i hi
theorem MatP.freeO {w : World} {base O m n : Nat} {G K : Nat → Nat} {M : Nat → Nat → Int} (h : MatP w base O m n G K M) (i : Nat) : w.frozen? ⟨O, i, none⟩ = false := by
  obtain ⟨cur, hb, e⟩ := h.outer
  exact hb.free i
theorem MatP.cell {w : World} {base O m n : Nat} {G K : Nat → Nat} {M : Nat → Nat → Int} (h : MatP w base O m n G K M) {i c : Nat} (hi : i < m) (hc : c < n) :
    w.cell? ⟨G i, c, none⟩ = some (.int .i64 (M i c)) := by
  obtain ⟨cs, hb, e⟩ := h.row i hi
  rw [hb.cell]; exact e c hc
theorem MatP.free {w : World} {base O m n : Nat} {G K : Nat → Nat} {M : Nat → Nat → Int} (h : MatP w base O m n G K M) {i : Nat} (hi : i < m) (c : Nat) : w.frozen? ⟨G i, c, none⟩ = false := by
  obtain ⟨cs, hb, e⟩ := h.row i hi
  exact hb.free c
theorem MatP.congr {w : World} {base O m n : Nat} {G K : Nat → Nat} {M M' : Nat → Nat → Int} (h : MatP w base O m n G K M) (he : ∀ i, i < m → ∀ c, c < n → M' i c = M i c) : MatP w base O m n G K M' := by
  refine ⟨h.outer, fun i hi => ?_, h.inj, h.out, h.lowO, h.low, h.cap⟩
  obtain ⟨cs, hb, e⟩ := h.row i hi
  exact ⟨cs, hb, fun c hc => by rw [e c hc, he i hi c hc]⟩
theorem MatP.put {w : World} {base O m n : Nat} {G K : Nat → Nat} {M M' : Nat → Nat → Int} (h : MatP w base O m n G K M) {i c : Nat} (hi : i < m) (v : Int)
    (hM : ∀ i' c', M' i' c' = if i' = i ∧ c' = c then v else M i' c') : MatP (w.setCell ⟨G i, c, none⟩ (.int .i64 v)) base O m n G K M' := by
  refine ⟨?_, fun k hk => ?_, h.inj, h.out, h.lowO, h.low, h.cap⟩
  · obtain ⟨cur, hb, e⟩ := h.outer
    exact ⟨cur, hb.set' (fun h' => h.out i hi h'.symm) _, e⟩
  · obtain ⟨cs, hb, e⟩ := h.row k hk
    by_cases hki : k = i
    · subst hki
      refine ⟨_, hb.set c _, fun c' hc' => ?_⟩
      rw [hM, Array.getElem?_setIfInBounds]
      have hlt : c' < cs.size := (Array.getElem?_eq_some_iff.1 (e c' hc')).1
      by_cases hcc : c = c'
      · subst hcc; rw [if_pos rfl, if_pos hlt, if_pos ⟨rfl, rfl⟩]
      · rw [if_neg hcc, if_neg (fun h => hcc h.2.symm)]; exact e c' hc'
    · refine ⟨cs, hb.set' (fun h' => hki (h.inj k i hk hi h')) _, fun c' hc' => ?_⟩
      rw [hM, if_neg (fun h => hki h.1)]; exact e c' hc'
/-- Two rows change their places. -/
def swapF (G : Nat → Nat) (a b : Nat) : Nat → Nat := fun i => if i = a then G b else if i = b then G a else G i
theorem MatP.swap {w : World} {base O m n : Nat} {G K : Nat → Nat} {M : Nat → Nat → Int} (h : MatP w base O m n G K M) {a b : Nat} (ha : a < m) (hb : b < m) :
    MatP ((w.setCell ⟨O, a, none⟩ (.slice (some ⟨G b, 0, none⟩) n (K b))).setCell ⟨O, b, none⟩ (.slice (some ⟨G a, 0, none⟩) n (K a))) base O m n (swapF G a b) (swapF K a b) (swapM M a b) := by
  have hx : ∀ i, i < m → ∃ k, k < m ∧ swapF G a b i = G k ∧ swapF K a b i = K k ∧ swapM M a b i = M k ∧ (i = a → k = b) ∧ (i = b → k = a) ∧ (i ≠ a → i ≠ b → k = i) := fun i hi => by
    by_cases h1 : i = a
    · refine ⟨b, hb, by simp [swapF, h1], by simp [swapF, h1], by simp [swapM, h1], fun _ => rfl, fun h2 => by omega, fun h2 => absurd h1 h2⟩
    · by_cases h2 : i = b
      · refine ⟨a, ha, ?_, ?_, ?_, fun h => absurd h h1, fun _ => rfl, fun _ h => absurd h2 h⟩
        · simp only [swapF]; rw [if_neg h1, if_pos h2]
        · simp only [swapF]; rw [if_neg h1, if_pos h2]
        · simp only [swapM]; rw [if_neg h1, if_pos h2]
      · refine ⟨i, hi, ?_, ?_, ?_, fun h => absurd h h1, fun h => absurd h h2, fun _ _ => rfl⟩
        · simp only [swapF]; rw [if_neg h1, if_neg h2]
        · simp only [swapF]; rw [if_neg h1, if_neg h2]
        · simp only [swapM]; rw [if_neg h1, if_neg h2]
  refine ⟨?_, fun i hi => ?_, fun i k hi hk e => ?_, fun i hi => ?_, h.lowO, fun i hi => ?_, fun i hi => ?_⟩
  · obtain ⟨cur, hB, e⟩ := h.outer
    refine ⟨_, (hB.set a _).set b _, fun i hi => ?_⟩
    have lt : ∀ k, k < m → k < cur.size := fun k hk => (Array.getElem?_eq_some_iff.1 (e k hk)).1
    rw [Array.getElem?_setIfInBounds, Array.size_setIfInBounds]
    by_cases h1 : b = i
    · subst h1
      rw [if_pos rfl, if_pos (lt b hb)]
      by_cases h2 : b = a
      · subst h2; simp [swapF]
      · simp [swapF, h2]
    · rw [if_neg h1, Array.getElem?_setIfInBounds]
      by_cases h2 : a = i
      · subst h2
        rw [if_pos rfl, if_pos (lt a ha)]
        simp [swapF]
      · rw [if_neg h2, e i hi]
        simp only [swapF]
        rw [if_neg (fun h => h2 h.symm), if_neg (fun h => h1 h.symm), if_neg (fun h => h2 h.symm), if_neg (fun h => h1 h.symm)]
  · obtain ⟨k, hk, e1, -, e3, -⟩ := hx i hi
    obtain ⟨cs, hB, e⟩ := h.row k hk
    rw [e1, e3]
    exact ⟨cs, (hB.set' (h.out k hk) _).set' (h.out k hk) _, e⟩
  · obtain ⟨i', hi', e1, -, -, a1, a2, a3⟩ := hx i hi
    obtain ⟨k', hk', f1, -, -, b1, b2, b3⟩ := hx k hk
    have := h.inj i' k' hi' hk' (by rw [← e1, ← f1]; exact e)
    omega
  · obtain ⟨k, hk, e1, -⟩ := hx i hi
    rw [e1]; exact h.out k hk
  · obtain ⟨k, hk, e1, -⟩ := hx i hi
    rw [e1]; exact h.low k hk
  · obtain ⟨k, hk, -, e1, -⟩ := hx i hi
    rw [e1]; exact h.cap k hk
/-- The rows from one on, as a slice of slices. -/
def rowsFrom (M : Nat → Nat → Int) (o m n : Nat) : List (List Int) := (List.range (m - o)).map fun i => (List.range n).map (M (o + i))
theorem rowsFrom_len (M : Nat → Nat → Int) (o m n : Nat) : (rowsFrom M o m n).length = m - o := by simp [rowsFrom]
theorem rowsFrom_get {M : Nat → Nat → Int} {o m n i : Nat} (h : i < m - o) : (rowsFrom M o m n).getD i [] = (List.range n).map (M (o + i)) := by
  unfold rowsFrom
  rw [List.getD_eq_getElem?_getD, List.getElem?_map, List.getElem?_range h]; rfl
theorem range_get {x : Nat → Int} {n c : Nat} (h : c < n) : ((List.range n).map x).getD c 0 = x c := by
  rw [List.getD_eq_getElem?_getD, List.getElem?_map, List.getElem?_range h]; rfl
theorem MatP.see {w : World} {base O m n : Nat} {G K : Nat → Nat} {M : Nat → Nat → Int} (h : MatP w base O m n G K M) (o cap : Nat) (hcap : m - o ≤ cap) :
    See2 w (.slice (some ⟨O, o, none⟩) (m - o) cap) (rowsFrom M o m n) := by
  refine ⟨some ⟨O, o, none⟩, cap, by rw [rowsFrom_len], by rw [rowsFrom_len]; exact hcap, fun _ => ⟨_, rfl, h.ltO, fun i hi => ?_⟩⟩
  rw [rowsFrom_len] at hi
  have hi' : o + i < m := by omega
  refine ⟨.slice (some ⟨G (o + i), 0, none⟩) n (K (o + i)), ?_, ?_⟩
  · have e : (⟨O, o, none⟩ : Addr).add i = ⟨O, o + i, none⟩ := by unfold Addr.add; split <;> simp_all
    rw [e]; exact h.cellO hi'
  · rw [rowsFrom_get hi]
    by_cases hn : n = 0
    · subst hn; exact .inl ⟨rfl, _, _, rfl⟩
    · refine .inr ⟨⟨G (o + i), 0, none⟩, K (o + i), by simp, by simp; exact h.cap _ hi', h.lt hi', fun c hc => ?_⟩
      have hc' : c < n := by simpa using hc
      rw [add_zero_row, h.cell hi' hc', range_get hc']
end Go.Proofs.YtpplihpfjniacaaDoor

/- Walk: rank. -/
namespace Go.Proofs.YtpplihpfjniacaaDoor
open Go.RowKit

/-- Rows that the call itself made, in blocks of their own. -/
def Rows3 (w : World) (base : Nat) (v : Value) (t : List (List Int)) : Prop :=
  ∃ us : List Value, us.length = t.length ∧ w.ownsRow base 22 1 v t.length us ∧
    (∀ i u, us[i]? = some u → w.ownsRow base 3 1 u (t.getD i []).length ((t.getD i []).map (Value.int .i64))) ∧
    ∀ (i k : Nat) (u u' : Value), i < k → us[i]? = some u → us[k]? = some u' → u.ownBlock = none ∨ u.ownBlock ≠ u'.ownBlock
theorem Rows3.nil (w : World) (base : Nat) : Rows3 w base (.slice none 0 0) [] := ⟨[], rfl, World.ownsRow_nil _ _ _ _, fun i u h => by simp at h, fun i k u u' _ h => by simp at h⟩
theorem row_part {w w' : World} {base base' n m : Nat} {v u : Value} {us xs : List Value} (h : w.ownsRow base 22 1 v n us) (hu : w.ownsRow base' 3 1 u m xs) (hg : w.grownBy w' v.ownBlock) : w'.ownsRow base' 3 1 u m xs := by
  refine World.ownsRow.kept hu hg ?_
  rcases row_apart hu h (by decide) with e | e
  · rcases hu.2 with ⟨rfl, _⟩ | ⟨g, cap, cur, rfl, _⟩
    · exact .inl rfl
    · cases e
  · exact .inr e
theorem Rows3.push {w w' : World} {base B : Nat} {v v' u : Value} {t : List (List Int)} {us : List Value} {xs : List Int} (hl : us.length = t.length) (ho : w.ownsRow base 22 1 v t.length us)
    (hr : ∀ i u, us[i]? = some u → w.ownsRow base 3 1 u (t.getD i []).length ((t.getD i []).map (Value.int .i64)))
    (hd : ∀ (i k : Nat) (u u' : Value), i < k → us[i]? = some u → us[k]? = some u' → u.ownBlock = none ∨ u.ownBlock ≠ u'.ownBlock)
    (hB : base ≤ B) (hlow : ∀ (i : Nat) (u : Value) (g : Nat), us[i]? = some u → u.ownBlock = some g → g < B)
    (hu : w.ownsRow B 3 1 u xs.length (xs.map (Value.int .i64))) (hg : w.grownBy w' v.ownBlock) (ho' : w'.ownsRow base 22 1 v' (t.length + 1) (us ++ [u])) : Rows3 w' base v' (t ++ [xs]) := by
  have hlast : ∀ {i u'}, us.length ≤ i → (us ++ [u])[i]? = some u' → i = us.length ∧ u' = u := by
    intro i u' h hi
    rw [List.getElem?_append_right h] at hi
    have hi0 : i - us.length = 0 := by
      rcases Nat.eq_zero_or_pos (i - us.length) with h' | h'
      · exact h'
      · rw [List.getElem?_eq_none (by simp; omega)] at hi; cases hi
    rw [hi0] at hi
    simp at hi
    exact ⟨by omega, hi.symm⟩
  refine ⟨us ++ [u], by simp [hl], by simpa using ho', fun i u' hi => ?_, fun i k u1 u2 hik h1 h2 => ?_⟩
  · rcases Nat.lt_or_ge i us.length with h | h
    · rw [List.getElem?_append_left h] at hi
      have := row_part ho (hr i u' hi) hg
      rw [List.getD_eq_getElem?_getD, List.getElem?_append_left (by omega), ← List.getD_eq_getElem?_getD]
      exact this
    · obtain ⟨e, rfl⟩ := hlast h hi
      rw [List.getD_eq_getElem?_getD, e, hl, List.getElem?_append_right (Nat.le_refl _)]
      simpa using row_low (row_part ho hu hg) hB
  · rcases Nat.lt_or_ge k us.length with h | h
    · rw [List.getElem?_append_left h] at h2
      rw [List.getElem?_append_left (by omega)] at h1
      exact hd i k u1 u2 hik h1 h2
    · obtain ⟨e, rfl⟩ := hlast h h2
      rw [List.getElem?_append_left (by omega)] at h1
      cases ho1 : u1.ownBlock with
      | none => exact .inl rfl
      | some g =>
        refine .inr fun e => ?_
        have a1 := hlow i u1 g h1 ho1
        have a2 := (hu.lt g e.symm).1
        omega
def blockOf : Value → Nat
  | .slice (some a) _ _ => a.block
  | _ => 0
def capOf : Value → Nat
  | .slice _ _ c => c
  | _ => 0
theorem Rows3.toMat {w : World} {base n : Nat} {v : Value} {t : List (List Int)} (h : Rows3 w base v t) (hm : 0 < t.length) (hn : 0 < n) (hr : ∀ i, i < t.length → (t.getD i []).length = n) :
    ∃ O G K cap, v = .slice (some ⟨O, 0, none⟩) t.length cap ∧ t.length ≤ cap ∧ MatP w base O t.length n G K (fun i c => (t.getD i []).getD c 0) := by
  obtain ⟨us, hl, ho, hrow, hd⟩ := h
  rcases ho.2 with ⟨rfl, h0⟩ | ⟨g, cap, cur, rfl, hb, hg, hle, hcap, hsz, ht⟩
  · omega
  · have key : ∀ i, i < t.length → ∃ u gi k cs, us[i]? = some u ∧ u = .slice (some ⟨gi, 0, none⟩) n k ∧ base ≤ gi ∧ n ≤ k ∧ Box w gi cs 3 ∧ ∀ c, c < n → cs[c]? = some (.int .i64 ((t.getD i []).getD c 0)) := by
      intro i hi
      obtain ⟨u, hu⟩ : ∃ u, us[i]? = some u := ⟨_, List.getElem?_eq_getElem (by omega)⟩
      have h1 := hrow i u hu
      rw [hr i hi] at h1
      rcases h1.2 with ⟨rfl, h0⟩ | ⟨gi, k, cs, rfl, hbi, hgi, hlei, hcapi, hszi, hti⟩
      · omega
      · refine ⟨_, gi, k, cs, hu, rfl, hbi, hlei, hgi, fun c hc => ?_⟩
        have e : ((t.getD i []).map (Value.int .i64))[c]? = some (.int .i64 ((t.getD i []).getD c 0)) := by
          rw [List.getElem?_map, List.getElem?_eq_getElem (by rw [hr i hi]; exact hc), List.getD_eq_getElem?_getD (l := t.getD i []), List.getElem?_eq_getElem (by rw [hr i hi]; exact hc)]
          rfl
        rw [← hti, List.getElem?_take] at e
        split at e
        · simpa using e
        · cases e
    refine ⟨g, fun i => blockOf (us.getD i default), fun i => capOf (us.getD i default), cap, rfl, hle, ?_⟩
    have key2 : ∀ i, i < t.length → ∃ cs, us[i]? = some (.slice (some ⟨blockOf (us.getD i default), 0, none⟩) n (capOf (us.getD i default))) ∧ base ≤ blockOf (us.getD i default) ∧ n ≤ capOf (us.getD i default) ∧ Box w (blockOf (us.getD i default)) cs 3 ∧ ∀ c, c < n → cs[c]? = some (.int .i64 ((t.getD i []).getD c 0)) := by
      intro i hi
      obtain ⟨u, gi, k, cs, hu, rfl, h1, h2, h3, h4⟩ := key i hi
      have e : us.getD i default = .slice (some ⟨gi, 0, none⟩) n k := by rw [List.getD_eq_getElem?_getD, hu]; rfl
      rw [e]
      exact ⟨cs, hu, h1, h2, h3, h4⟩
    refine ⟨⟨cur, hg, fun i hi => ?_⟩, fun i hi => ?_, fun i k hi hk e => ?_, fun i hi e => ?_, hb, fun i hi => ?_, fun i hi => ?_⟩
    · obtain ⟨cs, hu, -⟩ := key2 i hi
      generalize blockOf (us.getD i default) = gi at hu ⊢
      generalize capOf (us.getD i default) = ki at hu ⊢
      have e := hu
      rw [← ht, List.getElem?_take] at e
      split at e
      · simpa using e
      · cases e
    · obtain ⟨cs, hu, h1, h2, h3, h4⟩ := key2 i hi
      exact ⟨cs, h3, h4⟩
    · obtain ⟨cs, hu, h1, h2, h3, h4⟩ := key2 i hi
      obtain ⟨cs', hu', -⟩ := key2 k hk
      rcases Nat.lt_trichotomy i k with hlt | heq | hgt
      · rcases hd i k _ _ hlt hu hu' with h' | h'
        · cases h'
        · exact absurd (by simp only [Value.ownBlock]; rw [show blockOf (us.getD i default) = blockOf (us.getD k default) from e]) h'
      · exact heq
      · rcases hd k i _ _ hgt hu' hu with h' | h'
        · cases h'
        · exact absurd (by simp only [Value.ownBlock]; rw [show blockOf (us.getD i default) = blockOf (us.getD k default) from e]) h'
    · obtain ⟨cs, hu, h1, h2, h3, h4⟩ := key2 i hi
      have e' : blockOf (us.getD i default) = g := e
      rw [e'] at h3
      have := (show w.heap[g]? = some (.cells cs 3 (0, 0)) from h3).symm.trans hg
      simp at this
    · obtain ⟨cs, hu, h1, h2, h3, h4⟩ := key2 i hi
      exact h1
    · obtain ⟨cs, hu, h1, h2, h3, h4⟩ := key2 i hi
      exact h2
end Go.Proofs.YtpplihpfjniacaaDoor

/- Walk: rank. -/
namespace Go.Proofs.YtpplihpfjniacaaDoor
open Go.RowKit

/-- One row, so far. -/
def rowX (X : Int → Int → Int → Int → Int) (N : Nat → Nat → Int) (o j i c : Nat) : Nat → Nat → Int :=
  fun i' c' => if i' = i ∧ c' < c then X (N i c') (N i j) (N o c') (N o j) else N i' c'
/-- The rows before one. -/
def elimTo (X : Int → Int → Int → Int → Int) (N : Nat → Nat → Int) (o j i : Nat) : Nat → Nat → Int :=
  fun i' c' => if o < i' ∧ i' < i then X (N i' c') (N i' j) (N o c') (N o j) else N i' c'
theorem elimTo_start (X : Int → Int → Int → Int → Int) (N : Nat → Nat → Int) (o j : Nat) : elimTo X N o j (o + 1) = N := by
  funext i c; unfold elimTo; rw [if_neg (by omega)]
theorem rowX_start (X : Int → Int → Int → Int → Int) (N : Nat → Nat → Int) (o j i : Nat) : rowX X N o j i 0 = N := by
  funext i' c; unfold rowX; rw [if_neg (by omega)]
theorem elimTo_in {X : Int → Int → Int → Int → Int} {N : Nat → Nat → Int} {o j i i' c : Nat} (h : o < i' ∧ i' < i) : elimTo X N o j i i' c = X (N i' c) (N i' j) (N o c) (N o j) := by
  unfold elimTo; rw [if_pos h]
theorem elimTo_out {X : Int → Int → Int → Int → Int} {N : Nat → Nat → Int} {o j i i' c : Nat} (h : ¬ (o < i' ∧ i' < i)) : elimTo X N o j i i' c = N i' c := by
  unfold elimTo; rw [if_neg h]
theorem elimTo_next {X : Int → Int → Int → Int → Int} {N : Nat → Nat → Int} {o j i n : Nat} (h : o < i) : ∀ i' c, c < n → elimTo X N o j (i + 1) i' c = rowX X (elimTo X N o j i) o j i n i' c := by
  intro i' c hc
  unfold rowX
  by_cases h1 : i' = i
  · subst h1
    rw [elimTo_in ⟨h, by omega⟩, if_pos ⟨rfl, hc⟩, elimTo_out (by omega), elimTo_out (by omega), elimTo_out (by omega), elimTo_out (by omega)]
  · rw [if_neg (fun h => h1 h.1)]
    by_cases h2 : o < i' ∧ i' < i
    · rw [elimTo_in ⟨h2.1, by omega⟩, elimTo_in h2]
    · rw [elimTo_out (by omega), elimTo_out h2]
theorem elimTo_all {X : Int → Int → Int → Int → Int} {N : Nat → Nat → Int} {o j m : Nat} : ∀ i, i < m → ∀ c, elimM X N o j i c = elimTo X N o j m i c := by
  intro i hi c
  unfold elimM elimTo
  by_cases h : o < i
  · rw [if_pos h, if_pos ⟨h, hi⟩]
  · rw [if_neg h, if_neg (fun h' => h h'.1)]
theorem rowX_at {X : Int → Int → Int → Int → Int} {N : Nat → Nat → Int} {o j i c : Nat} {i' c' : Nat} (h : ¬ (i' = i ∧ c' < c)) : rowX X N o j i c i' c' = N i' c' := by
  unfold rowX; rw [if_neg h]
theorem rowX_next {X : Int → Int → Int → Int → Int} {N : Nat → Nat → Int} {o j i c : Nat} (i' c' : Nat) :
    rowX X N o j i (c + 1) i' c' = if i' = i ∧ c' = c then X (N i c) (N i j) (N o c) (N o j) else rowX X N o j i c i' c' := by
  unfold rowX
  by_cases h1 : i' = i ∧ c' = c
  · rw [if_pos h1, if_pos ⟨h1.1, by omega⟩, h1.2]
  · rw [if_neg h1]
    by_cases h2 : i' = i ∧ c' < c
    · rw [if_pos h2, if_pos ⟨h2.1, by omega⟩]
    · rw [if_neg h2, if_neg (by omega)]

def nz (j : Nat) (r : List Int) : Bool := decide (r.getD j 0 ≠ 0)
/-- Where the first row that is not zero stands. -/
theorem pv_found {M : Nat → Nat → Int} {j o m k : Nat} (hk : k < m - o) (h1 : M (o + k) j ≠ 0) (h2 : ∀ q, q < k → M (o + q) j = 0) : pv M j (m - o) o = o + k := by
  have hge := pv_ge M j (m - o) o
  have hbe := pv_before M j (m - o) o
  have hat := pv_at M j (m - o) o
  rcases Nat.lt_trichotomy (pv M j (m - o) o) (o + k) with h | h | h
  · exact absurd (by have := h2 (pv M j (m - o) o - o) (by omega); rwa [show o + (pv M j (m - o) o - o) = pv M j (m - o) o by omega] at this) (hat (by omega))
  · exact h
  · exact absurd (hbe (o + k) (by omega) h) h1
theorem pv_none {M : Nat → Nat → Int} {j o m : Nat} (ho : o < m) (h2 : ∀ q, q < m - o → M (o + q) j = 0) : pv M j (m - o) o = m := by
  have hge := pv_ge M j (m - o) o
  have hat := pv_at M j (m - o) o
  rcases Nat.lt_or_ge (pv M j (m - o) o) m with h | h
  · exact absurd (by have := h2 (pv M j (m - o) o - o) (by omega); rwa [show o + (pv M j (m - o) o - o) = pv M j (m - o) o by omega] at this) (hat (by omega))
  · omega
theorem nz_from {M : Nat → Nat → Int} {o m n j k : Nat} (hk : k < m - o) (hj : j < n) : nz j ((rowsFrom M o m n).getD k []) = decide (M (o + k) j ≠ 0) := by
  unfold nz
  rw [rowsFrom_get hk, range_get hj]

set_option maxRecDepth 100000 in
set_option maxHeartbeats 2000000 in
theorem rank_good (F : FuncId) (X : Int → Int → Int → Int → Int) (v : Value) (t : List (List Int)) (w : World) (hv : See2 w v t) (ht : T.isTab t = true)
    (hcall : ∀ args W, (callFunc F args).run Tryd.prog W = .ok (.enter F args) W) (hX : ∀ a b c d ws, Calls Tryd.prog F #[.int .i64 a, .int .i64 b, .int .i64 c, .int .i64 d] ws (fun e w' => e = .returned (.int .i64 (X a b c d)) ∧ w' = ws))
    (R : Nat) (hR : rkGo X t.length (T.cols t) 0 0 (T.ent t) = R) :
    Calls Tryd.prog 35 #[v, .func (.func F) #[] #[]] w (Ret (.tuple #[.int .i64 (R : Int), .int .i64 0]) w) := by
  obtain ⟨⟨t1, t2, t3, t4⟩, _⟩ := T.isTab_iff.1 ht
  have HVa := hide (valid_any v t w hv (fun r hr => by
    obtain ⟨q, hq, he⟩ := List.getElem_of_mem hr
    have := T.tab_row ht hq
    rw [List.getD_eq_getElem?_getD, List.getElem?_eq_getElem hq] at this
    simp only [Option.getD_some, he] at this
    omega) (by omega))
  rw [ht] at HVa
  obtain ⟨i0, hi, hz0, hz1, hz2⟩ := info_parts infoInts
  have hne : t ≠ [] := by rintro rfl; simp at t1
  obtain ⟨a, cap, rfl, _, hc⟩ := hv.open hne
  have HRow : Hid (∀ i, i < t.length → (t.getD i []).length = T.cols t) := hide fun i h => T.tab_row ht h
  have HC := hide hc
  have HR := hide hR
  have HX := hide hX
  clear hc hv hne hR hX ht
  obtain ⟨n, hn⟩ : ∃ n, n = T.cols t := ⟨_, rfl⟩
  rw [← hn] at t3 t4 HR HRow
  have HNc := hide hn
  obtain ⟨m, hm⟩ : ∃ m, m = t.length := ⟨_, rfl⟩
  rw [← hm] at t1 t2 HR HRow HVa HC ⊢
  have HM := hide hm
  clear hn hm
  go_enter Tryd.func35, Tryd.ntmps35
  go_wp2_with fail
  refine HVa.out.mono ?_
  rintro e w1 ⟨rfl, hw1⟩
  have HW1 := hide hw1
  clear hw1
  go_wp2
  go_loopw [6, 20] (fun ov iv wr => ∃ j : Nat, j ≤ m ∧ iv = .int .i64 (j : Int) ∧ Hid (Rows3 wr w.heap.size ov (t.take j) ∧ Chg [] w wr)) (fun _ iv _ => (m - (intOf iv).toNat))
  case atStart => exact ⟨0, Nat.zero_le _, rfl, hide ⟨Rows3.nil _ _, HW1.out⟩⟩
  case round =>
    obtain ⟨j, hj, rfl, hI⟩ := hrel
    by_cases hlt : j < m
    · have d1 : decide ((j : Int) < (m : Int)) = true := by simpa using hlt
      obtain ⟨bo, bc, hrow⟩ := HC.out j hlt
      obtain ⟨fx, hs⟩ := hrow wr hI.out.2
      have hlen := HRow.out j hlt
      have HSx := hide hs
      rw [hlen] at fx HSx
      have hlm : (t.getD j []).length ≤ 1000000 := by omega
      have HLen := hide hlen
      clear hrow hs hlen
      have HCl := hide (Clone_new _ _ _ HSx.out hlm)
      clear hlm
      go_wp2_with fail
      refine HCl.out.mono ?_
      rintro e w2 ⟨u', rfl, hI1, hc1⟩
      obtain ⟨ao, bcap, rfl, _⟩ := row_shape hI1
      obtain ⟨us, hus, ho, hr, hd⟩ := hI.out.1
      have hlt' : (t.take j).length = j := by rw [List.length_take, ← HM.out]; omega
      have hlow : ∀ (i : Nat) (u : Value) (g : Nat), us[i]? = some u → u.ownBlock = some g → g < wr.heap.size := fun i u g h1 h2 => ((hr i u h1).lt g h2).2
      have ho1 := hc1.row ho (fun _ _ => List.not_mem_nil)
      rw [hlt'] at ho1
      have HO := hide ho1
      have HRR : Hid (∀ i u, us[i]? = some u → w2.ownsRow w.heap.size 3 1 u ((t.take j).getD i []).length (((t.take j).getD i []).map (Value.int .i64))) := hide fun i u h => hc1.row (hr i u h) (fun _ _ => List.not_mem_nil)
      have HD := hide hd
      have HLow := hide hlow
      have HUs := hide hus
      rw [HLen.out] at hI1
      have HI1 := hide hI1
      have HC1 := hide hc1
      have hsz := hc1.size
      have hsz0 := hI.out.2.size
      have HLT := hide hlt'
      clear hI1 hc1 hus ho hr hd ho1 hlow hlt' fx
      rw [HLen.out]
      go_wp2_with (at_builtin; refine wpList_append_own _ rfl _ _ 29 rfl w.heap.size 22 i0 (.slice none 0 0) 1 24 Tryd.underlying29 hi hz0 hz1 hz2 rfl (by decide) _ _ _ rfl (HO.out.alloc _) ⟨w2.heap.size, 0, none⟩ 1 1 [.slice ao n bcap] rfl rfl (by intro j u hj; rw [add_zero_row, (Box.new w2 _ _).cell j]; simpa using hj) (by intro x hx; rw [List.mem_singleton] at hx; subst hx; rfl) (by unfold maxLen; omega) (by omega) (by simp; omega) ?_; intro v1 w3 hown1 hgrow1 _)
      go_roundw
      case rel =>
        refine ⟨j + 1, by omega, by go_num, hide ⟨?_, (((hI.out.2.trans HC1.out).alloc _).grew (HO.out.alloc _) (Nat.le_refl _) hgrow1)⟩⟩
        have e : t.take (j + 1) = t.take j ++ [t.getD j []] := by
          rw [List.take_add_one, List.getD_eq_getElem?_getD, List.getElem?_eq_getElem (by rw [← HM.out]; exact hlt)]
          rfl
        rw [e]
        exact Rows3.push (us := us) (u := .slice ao n bcap) (w := w2.alloc (.cells #[.slice ao n bcap] 22)) (B := wr.heap.size) HUs.out (by rw [HLT.out]; exact HO.out.alloc _) (fun i u h => (HRR.out i u h).alloc _) HD.out hI.out.2.size HLow.out (by rw [HLen.out]; exact HI1.out.alloc _) hgrow1 (by rw [HLT.out]; exact hown1)
      case measure => simp [intOf]; omega
    · have d1 : decide ((j : Int) < (m : Int)) = false := by simpa using hlt
      obtain rfl : m = j := by omega
      have h1 := hI.out.1
      rw [List.take_of_length_le (by rw [← HM.out]; exact Nat.le_refl _)] at h1
      obtain ⟨O, G, K, rcap, rfl, hcap, hMat⟩ := h1.toMat (n := n) (by rw [← HM.out]; omega) (by omega) (by rw [← HM.out]; exact HRow.out)
      rw [← HM.out] at hcap hMat
      have HMat : Hid (MatP wr w.heap.size O m n G K (T.ent t)) := hide hMat
      rw [← HM.out]
      have CW := hide hI.out.2
      obtain ⟨bo, bc, hrow⟩ := HC.out 0 (by omega)
      have fx := (hrow wr CW.out).1
      rw [add_nought, HRow.out 0 (by omega)] at fx
      clear hrow h1 hMat hI
      go_wp2
      have HB := hide (Nat.le_refl w.heap.size)
      obtain ⟨base, hbase⟩ : ∃ b, b = w.heap.size := ⟨_, rfl⟩
      rw [← hbase] at HMat
      have HBase := hide hbase
      clear hbase
      go_loopw [9, 34] (fun ov iv ws => ∃ j o : Nat, j ≤ n ∧ o < m ∧ ov = .int .i64 (o : Int) ∧ iv = .int .i64 (j : Int) ∧ Hid (∃ G K M, (MatP ws base O m n G K M ∧ rkGo X m (n - j) j o M = R) ∧ Chg [] w ws)) (fun _ iv _ => (n - (intOf iv).toNat))
      case atStart => exact ⟨0, 0, Nat.zero_le _, by omega, rfl, rfl, hide ⟨G, K, T.ent t, ⟨HMat.out, HR.out⟩, CW.out⟩⟩
      case round =>
        obtain ⟨j, o, hj, ho, rfl, rfl, hI⟩ := hrel
        by_cases hlj : j < n
        · have d2 : decide ((j : Int) < (n : Int)) = true := by simpa using hlj
          obtain ⟨G1, K1, M1, ⟨hM1, hR1⟩, hc1⟩ := hI.out
          have HM1 := hide hM1
          have HR1 := hide hR1
          have HC1 := hide hc1
          have ltO := hM1.ltO
          have p0 : (0 : Int) ≤ (o : Int) := by omega
          have p1 : (o : Int) ≤ (m : Int) := by omega
          clear hM1 hR1 hc1 hI
          go_wp2_with fail
          have C2 : Hid (Chg [] w (wr.alloc (.cells #[.int .i64 (j : Int)] 3))) := hide (HC1.out.alloc _)
          have HM2 := hide (HM1.out.keep ((Chg.refl [] wr).alloc (.cells #[.int .i64 (j : Int)] 3)))
          have BJ := hide (Box.new wr #[.int .i64 (j : Int)] 3)
          have HltO := hide ltO
          have HltG : Hid (∀ i, i < m → G1 i < wr.heap.size) := hide fun i hi => HM1.out.lt hi
          generalize wr.alloc (.cells #[.int .i64 (j : Int)] 3) = W2 at C2 HM2 BJ ⊢
          generalize wr.heap.size = J at BJ HltO HltG ⊢
          clear HM1 HC1 ltO
          have HIx := hide (Index_at 71 #[.pointer (some ⟨J, 0, none⟩)] (nz j) (.slice (some ⟨O, o, none⟩) (m - o) (rcap - o)) (rowsFrom M1 o m n) W2 (HM2.out.see o (rcap - o) (by omega)) (by rw [rowsFrom_len]; omega) callRk
            (fun u r ws hr hws hs => rk_any u r J j ws hs (((BJ.out.keep hws List.not_mem_nil).cell 0).trans rfl) (by
              obtain ⟨q, hq, rfl⟩ := List.mem_map.1 hr
              rw [List.length_map, List.length_range]; exact hlj)))
          refine HIx.out.mono ?_
          clear HIx
          rintro e w3 ⟨r, rfl, hr, hc3⟩
          have HM3 := hide (HM2.out.keep hc3)
          have BJ3 := hide (BJ.out.keep hc3 List.not_mem_nil)
          have C3 := hide (C2.out.trans hc3)
          clear HM2 BJ C2 hc3
          rcases hr with ⟨k, hk, rfl, hk1, hk2⟩ | ⟨rfl, hk2⟩
          · rw [rowsFrom_len] at hk
            rw [nz_from hk hlj] at hk1
            have hk1' : M1 (o + k) j ≠ 0 := of_decide_eq_true hk1
            have hk2' : ∀ q, q < k → M1 (o + q) j = 0 := fun q hq => by
              have := hk2 q hq
              rw [nz_from (by omega) hlj] at this
              simpa using this
            have HPv := hide (pv_found hk hk1' hk2')
            clear hk1 hk2 hk1' hk2'
            have d3 : decide ((k : Int) < 0) = false := by simp
            have HM4 := hide (HM3.out.keep ((Chg.refl [] w3).drew))
            have fO1 := HM4.out.cellO (i := o + k) (by omega)
            have fO2 := HM4.out.cellO (i := o) (by omega)
            have rO1 := HM4.out.freeO (o + k)
            have rO2 := HM4.out.freeO o
            have sO1 := HM3.out.freeO (o + k)
            have sO2 := HM3.out.freeO o
            have hw : IntKind.i64.wrap ((o : Int) + (k : Int)) = ((o + k : Nat) : Int) := by rw [← Int.natCast_add]; rw [IntKind.wrap_i64]; omega
            have q0 : (0 : Int) ≤ ((o + k : Nat) : Int) := by omega
            have q1 : ((o + k : Nat) : Int) < (m : Int) := by omega
            have p2 : (o : Int) < (m : Int) := by omega
            have okm : o + k < m := by omega
            obtain ⟨cur, hBO, hcur⟩ := HM4.out.outer
            have BO3 := hide (hBO.set o (.slice (some ⟨G1 (o + k), 0, none⟩) n (K1 (o + k))))
            have BO4 : Hid (Box ((w3.setCell ⟨O, o, none⟩ (.slice (some ⟨G1 (o + k), 0, none⟩) n (K1 (o + k)))).drew) O (cur.setIfInBounds o (.slice (some ⟨G1 (o + k), 0, none⟩) n (K1 (o + k)))) 22) := hide BO3.out
            have fO3 : ((w3.setCell ⟨O, o, none⟩ (.slice (some ⟨G1 (o + k), 0, none⟩) n (K1 (o + k)))).drew).cell? ⟨O, o + k, none⟩ = some (.slice (some ⟨G1 (o + k), 0, none⟩) n (K1 (o + k))) := by
              rw [BO4.out.cell, Array.getElem?_setIfInBounds]
              have hlt := (Array.getElem?_eq_some_iff.1 (hcur (o + k) okm)).1
              by_cases hk0 : o = o + k
              · rw [if_pos hk0, if_pos (by omega)]
              · rw [if_neg hk0]; exact hcur _ okm
            have rO3 : ((w3.setCell ⟨O, o, none⟩ (.slice (some ⟨G1 (o + k), 0, none⟩) n (K1 (o + k)))).drew).frozen? ⟨O, o + k, none⟩ = false := BO4.out.free _
            clear hBO hcur BO3 BO4
            go_wp2_with fail
            go_region
            have HM5 := hide ((HM3.out.swap ho okm).keep ((Chg.refl [] _).drew))
            have BJ5 := hide (((BJ3.out.set' (p := ⟨O, o, none⟩) (fun h => by have := HltO.out; have h' : J = O := h; omega) (.slice (some ⟨G1 (o + k), 0, none⟩) n (K1 (o + k)))).set' (p := ⟨O, o + k, none⟩) (fun h => by have := HltO.out; have h' : J = O := h; omega) (.slice (some ⟨G1 o, 0, none⟩) n (K1 o))).keep ((Chg.refl [] _).drew) List.not_mem_nil)
            have HlO := HM3.out.lowO
            have C5 := hide (((C3.out.setCell (p := ⟨O, o, none⟩) (.inr (by rw [← HBase.out]; exact HlO)) (.slice (some ⟨G1 (o + k), 0, none⟩) n (K1 (o + k)))).setCell (p := ⟨O, o + k, none⟩) (.inr (by rw [← HBase.out]; exact HlO)) (.slice (some ⟨G1 o, 0, none⟩) n (K1 o))).drew)
            have HltG5 : Hid (∀ i, i < m → swapF G1 o (o + k) i < J) := hide fun i hi => by
              unfold swapF
              split
              · exact HltG.out _ okm
              · split
                · exact HltG.out _ ho
                · exact HltG.out _ hi
            clear fO1 fO2 rO1 rO2 sO1 sO2 fO3 rO3 HM4 HlO HltG
            generalize ((w3.setCell ⟨O, o, none⟩ (.slice (some ⟨G1 (o + k), 0, none⟩) n (K1 (o + k)))).setCell ⟨O, o + k, none⟩ (.slice (some ⟨G1 o, 0, none⟩) n (K1 o))).drew = W5 at HM5 BJ5 C5 ⊢
            clear HM3 BJ3 C3 q0 q1 d3 hw
            have hgo : rkGo X m (n - j) j o M1 = if o + 1 = m then o + 1 else rkGo X m (n - (j + 1)) (j + 1) (o + 1) (elimM X (swapM M1 o (o + k)) o j) := by
              rw [show n - j = (n - (j + 1)) + 1 by omega, rkGo, HPv.out, if_pos okm]
            have HGo := hide (hgo.symm.trans HR1.out)
            clear hgo HR1 HPv okm hk
            generalize swapM M1 o (o + k) = N at HM5 HGo
            generalize swapF G1 o (o + k) = G2 at HM5 HltG5
            generalize swapF K1 o (o + k) = K2 at HM5
            clear d1 d2
            go_wp2
            go_loopw [12] (fun iv ws => ∃ i : Nat, o < i ∧ i ≤ m ∧ iv = .int .i64 (i : Int) ∧ Hid ((MatP ws base O m n G2 K2 (elimTo X N o j i) ∧ Box ws J #[.int .i64 (j : Int)] 3) ∧ Chg [] w ws)) (fun iv _ => (m - (intOf iv).toNat))
            case atStart => exact ⟨o + 1, by omega, by omega, by go_num, hide ⟨⟨by rw [elimTo_start]; exact HM5.out, BJ5.out⟩, C5.out⟩⟩
            case round =>
              obtain ⟨i, hoi, him, rfl, hI⟩ := hrel
              by_cases hlm : i < m
              · have d3 : decide ((i : Int) < (m : Int)) = true := by simpa using hlm
                have fI := hI.out.1.1.cellO hlm
                have fJ := (hI.out.1.2.cell 0).trans (show #[Value.int .i64 (j : Int)][0]? = some (.int .i64 (j : Int)) from rfl)
                have fF := hI.out.1.1.cell hlm hlj
                have j0 : (0 : Int) ≤ (j : Int) := by omega
                have j1 : (j : Int) < (n : Int) := by omega
                have i0' : (0 : Int) ≤ (i : Int) := by omega
                have i1' : (i : Int) < (m : Int) := by omega
                have HMi := hide hI.out.1.1
                have BJi := hide hI.out.1.2
                have Ci := hide hI.out.2
                have HNx : Hid (∀ i' c, c < n → elimTo X N o j (i + 1) i' c = rowX X (elimTo X N o j i) o j i n i' c) := hide (elimTo_next hoi)
                clear hI
                generalize elimTo X N o j i = NN at HMi fF HNx
                obtain ⟨f, hf⟩ : ∃ f, f = NN i j := ⟨_, rfl⟩
                rw [← hf] at fF
                have HF := hide hf
                clear hf
                go_wp2_with fail
                go_quiet (fail)
                go_wp2
                go_loopw [82] (fun iv ws => ∃ c : Nat, c ≤ n ∧ iv = .int .i64 (c : Int) ∧ Hid ((MatP ws base O m n G2 K2 (rowX X NN o j i c) ∧ Box ws J #[.int .i64 (j : Int)] 3) ∧ Chg [] w ws)) (fun iv _ => (n - (intOf iv).toNat))
                case atStart => exact ⟨0, Nat.zero_le _, rfl, hide ⟨⟨by rw [rowX_start]; exact HMi.out.keep ((Chg.refl [] _).drewN _), BJi.out.keep ((Chg.refl [] _).drewN _) List.not_mem_nil⟩, Ci.out.drewN _⟩⟩
                case round =>
                  obtain ⟨c, hcn, rfl, hI⟩ := hrel
                  by_cases hlc : c < n
                  · have d4 : decide ((c : Int) < (n : Int)) = true := by simpa using hlc
                    have fI2 := hI.out.1.1.cellO hlm
                    have fO2 := hI.out.1.1.cellO ho
                    have fJ2 := (hI.out.1.2.cell 0).trans (show #[Value.int .i64 (j : Int)][0]? = some (.int .i64 (j : Int)) from rfl)
                    have f1 := hI.out.1.1.cell hlm hlc
                    have f2 := hI.out.1.1.cell ho hlc
                    have f3 := hI.out.1.1.cell ho hlj
                    rw [rowX_at (by omega)] at f1 f2 f3
                    have HMc := hide (hI.out.1.1.keep ((Chg.refl [] _).drew))
                    have BJc := hide (hI.out.1.2.keep ((Chg.refl [] _).drew) List.not_mem_nil)
                    have Cc := hide hI.out.2.drew
                    have HV : Hid (X (NN i c) f (NN o c) (NN o j) = X (NN i c) (NN i j) (NN o c) (NN o j)) := hide (by rw [HF.out])
                    have HCx := hide (HX.out (NN i c) f (NN o c) (NN o j))
                    generalize X (NN i c) f (NN o c) (NN o j) = vv at HV HCx
                    generalize NN i c = x1 at f1 HCx
                    generalize NN o c = x2 at f2 HCx
                    generalize NN o j = x3 at f3 HCx
                    have c0 : (0 : Int) ≤ (c : Int) := by omega
                    have c1 : (c : Int) < (n : Int) := by omega
                    have o1 : (o : Int) < (m : Int) := by omega
                    clear fI fJ fF hI
                    go_wp2_with fail
                    go_still_tail 30, (by kernel_rfl)
                    still_call (HCx.out _)
                    repeat still_step
                    try refine wpStill_nil ?_
                    try change wpList _ _ _ _ _ wr.drew
                    have f1' : wr.drew.cell? ⟨G2 i, c, none⟩ = some (.int .i64 x1) := f1
                    have r1' := HMc.out.free hlm c
                    clear fI2 fO2 fJ2 f1 f2 f3
                    generalize wr.drew = W6 at HMc BJc Cc f1' r1' ⊢
                    go_wp2
                    go_roundw
                    case rel =>
                      refine ⟨c + 1, by omega, by go_num, hide ⟨⟨HMc.out.put hlm vv (fun i' c' => ?_), BJc.out.set' (fun h => ?_) _⟩, Cc.out.setCell (.inr ?_) _⟩⟩
                      · rw [rowX_next, HV.out]
                      · have h' : J = G2 i := h
                        have := HltG5.out i hlm
                        omega
                      · have := HMc.out.low i hlm
                        rw [← HBase.out]; exact this
                    case measure => simp [intOf]; omega
                  · have d4 : decide ((c : Int) < (n : Int)) = false := by simpa using hlc
                    go_wp2
                    go_roundw
                    case rel => exact ⟨i + 1, by omega, by omega, by go_num, hide ⟨⟨hI.out.1.1.congr (fun i' _ c' hc' => by rw [show c = n by omega]; exact HNx.out i' c' hc'), hI.out.1.2⟩, hI.out.2⟩⟩
                    case measure => simp [intOf]; omega
              · have d3 : decide ((i : Int) < (m : Int)) = false := by simpa using hlm
                have HMe := hide (hI.out.1.1.congr (M' := elimM X N o j) (fun i' h c' _ => by rw [show i = m by omega]; exact elimTo_all i' h c'))
                have Ce := hide hI.out.2
                clear hI
                have hw : IntKind.i64.wrap ((o : Int) + 1) = ((o + 1 : Nat) : Int) := by rw [show (o : Int) + 1 = ((o + 1 : Nat) : Int) by omega, IntKind.wrap_i64]; omega
                by_cases hom : o + 1 = m
                · have d5 : (((o + 1 : Nat) : Int) == (m : Int)) = true := by simp; omega
                  rw [if_pos hom] at HGo
                  have hRo : o + 1 = R := HGo.out
                  subst hRo
                  go_wp2
                  go_ret2
                  exact ⟨rfl, Ce.out⟩
                · have d5 : (((o + 1 : Nat) : Int) == (m : Int)) = false := by simp; omega
                  rw [if_neg hom] at HGo
                  go_wp2
                  go_roundw
                  case rel => exact ⟨j + 1, o + 1, by omega, by omega, by go_num, by go_num, hide ⟨G2, K2, elimM X N o j, ⟨HMe.out, HGo.out⟩, Ce.out⟩⟩
                  case measure => simp [intOf]; omega
          · have hpv : pv M1 j (m - o) o = m := pv_none ho (fun q hq => by
              have := hk2 q (by rw [rowsFrom_len]; exact hq)
              rw [nz_from hq hlj] at this
              simpa using this)
            have hgo : rkGo X m (n - (j + 1)) (j + 1) o M1 = R := by
              have h1 := HR1.out
              rw [show n - j = (n - (j + 1)) + 1 by omega, rkGo, hpv, if_neg (Nat.lt_irrefl m)] at h1
              exact h1
            have HGo := hide hgo
            clear hk2 hpv hgo HR1
            have d3 : decide ((-1 : Int) < 0) = true := by decide
            go_wp2
            go_roundw
            case rel => exact ⟨j + 1, o, by omega, ho, rfl, by go_num, hide ⟨G1, K1, M1, ⟨HM3.out, HGo.out⟩, C3.out⟩⟩
            case measure => simp [intOf]; omega
        · have d2 : decide ((j : Int) < (n : Int)) = false := by simpa using hlj
          obtain rfl : n = j := by omega
          obtain ⟨G1, K1, M1, ⟨_, hR1⟩, hc1⟩ := hI.out
          rw [Nat.sub_self] at hR1
          have hRo : o = R := hR1
          subst hRo
          go_wp2
          go_ret2
          exact ⟨rfl, hc1⟩
end Go.Proofs.YtpplihpfjniacaaDoor

/- Walks: Rank, Rank2. -/
namespace Go.Proofs.YtpplihpfjniacaaDoor
open Go.RowKit

def bnd : Nat → Int
  | 0 => 1
  | 1 => 2
  | 2 => 8
  | _ => 128
theorem mul_bnd {a d B : Int} (ha : -B ≤ a ∧ a ≤ B) (hd : -B ≤ d ∧ d ≤ B) : -(B * B) ≤ a * d ∧ a * d ≤ B * B := by
  have h1 : (a * d).natAbs ≤ B.natAbs * B.natAbs := by
    rw [Int.natAbs_mul]
    exact Nat.mul_le_mul (by omega) (by omega)
  have h2 : ((B.natAbs * B.natAbs : Nat) : Int) = B * B := by rw [Int.natCast_mul, Int.natAbs_of_nonneg (by omega)]
  omega
theorem cross0_ok : ∀ (s : Nat) (a b c d : Int), s ≤ 2 → (-bnd s ≤ a ∧ a ≤ bnd s) → (-bnd s ≤ b ∧ b ≤ bnd s) → (-bnd s ≤ c ∧ c ≤ bnd s) → (-bnd s ≤ d ∧ d ≤ bnd s) →
    (-bnd (s + 1) ≤ cross0 a b c d ∧ cross0 a b c d ≤ bnd (s + 1)) ∧ (0 : Int) ∣ cross0 a b c d - (a * d - b * c) := by
  intro s a b c d hs ha hb hc hd
  have h1 := mul_bnd ha hd
  have h2 := mul_bnd hb hc
  have h3 : 2 * (bnd s * bnd s) ≤ bnd (s + 1) ∧ bnd s * bnd s ≤ 64 := by
    rcases (by omega : s = 0 ∨ s = 1 ∨ s = 2) with rfl | rfl | rfl <;> decide
  have e : cross0 a b c d = a * d - b * c := by
    unfold cross0 wrap64
    generalize a * d = x at *
    generalize b * c = y at *
    omega
  rw [e]
  refine ⟨by omega, ⟨0, by omega⟩⟩
theorem cross2_ok : ∀ (s : Nat) (a b c d : Int), s ≤ 2 → (a = 0 ∨ a = 1) → (b = 0 ∨ b = 1) → (c = 0 ∨ c = 1) → (d = 0 ∨ d = 1) →
    (cross2 a b c d = 0 ∨ cross2 a b c d = 1) ∧ (2 : Int) ∣ cross2 a b c d - (a * d - b * c) := by
  intro s a b c d _ ha hb hc hd
  rcases ha with rfl | rfl <;> rcases hb with rfl | rfl <;> rcases hc with rfl | rfl <;> rcases hd with rfl | rfl <;> decide +kernel
theorem rank0_eq {t : List (List Int)} (ht : T.isTab t = true) : rkGo cross0 t.length (T.cols t) 0 0 (T.ent t) = minorsM 0 (T.ent t) t.length (T.cols t) := by
  obtain ⟨⟨t1, t2, t3, t4⟩, _⟩ := T.isTab_iff.1 ht
  refine IsRk.eq (rkGo_isRk (ok := fun s x => -bnd s ≤ x ∧ x ≤ bnd s) prim_zero (by decide) t2 t1 cross0_ok (fun s x _ h => Int.zero_dvd.1 h) (fun i _ c _ => ?_)) (minors_isRk (by decide))
  have := T.ent_val (i := i) (j := c) ht
  show -(1 : Int) ≤ _ ∧ _ ≤ (1 : Int)
  omega
theorem rank2_eq {t : List (List Int)} (ht : T.isTab t = true) : rkGo cross2 t.length (T.cols t) 0 0 (T.ent t) = minorsM 2 (T.ent t) t.length (T.cols t) := by
  obtain ⟨⟨t1, t2, t3, t4⟩, _⟩ := T.isTab_iff.1 ht
  refine IsRk.eq (rkGo_isRk (ok := fun _ x => x = 0 ∨ x = 1) prim_two (by decide) t2 t1 cross2_ok (fun s x hx h => ?_) (fun i _ c _ => ?_)) (minors_isRk (by decide))
  · omega
  · have := T.ent_val (i := i) (j := c) ht
    show _ ∨ _
    omega

def rankN (p : Int) (t : List (List Int)) : Nat := minorsM p (T.ent t) t.length (T.cols t)
def rankV (p : Int) (t : List (List Int)) : Value := if T.isTab t = true then .tuple #[.int .i64 (rankN p t : Int), .int .i64 0] else .tuple #[.int .i64 0, .int .i64 2]
theorem callC0 (args : Array Value) (W : World) : (callFunc 36 args).run Tryd.prog W = .ok (.enter 36 args) W := by kernel_rfl

set_option maxRecDepth 100000 in
set_option maxHeartbeats 1000000 in
theorem rank_bad (F : FuncId) (v : Value) (t : List (List Int)) (w : World) (hv : See2 w v t) (hl : ∀ r ∈ t, r.length ≤ 1000000) (htl : t.length ≤ 1000000) (ht : T.isTab t = false) :
    Calls Tryd.prog 35 #[v, .func (.func F) #[] #[]] w (Ret (.tuple #[.int .i64 0, .int .i64 2]) w) := by
  have HVa := hide (valid_any v t w hv hl htl)
  obtain ⟨ao, cap, rfl⟩ := hv.shape
  rw [ht] at HVa
  clear hv hl htl ht
  generalize t.length = n at *
  go_enter Tryd.func35, Tryd.ntmps35
  go_wp2_with fail
  refine HVa.out.mono ?_
  rintro e w1 ⟨rfl, hw1⟩
  go_wp2
  go_ret2
  exact ⟨rfl, hw1⟩
theorem rank0_any (v : Value) (t : List (List Int)) (w : World) (hv : See2 w v t) (hl : ∀ r ∈ t, r.length ≤ 1000000) (htl : t.length ≤ 1000000) :
    Calls Tryd.prog 35 #[v, .func (.func 36) #[] #[]] w (Ret (rankV 0 t) w) := by
  unfold rankV
  cases ht : T.isTab t with
  | false => rw [if_neg (by decide)]; exact rank_bad _ v t w hv hl htl ht
  | true => rw [if_pos rfl]; exact rank_good _ cross0 v t w hv ht callC0 cross0_any _ (rank0_eq ht)
set_option maxRecDepth 100000 in
set_option maxHeartbeats 1000000 in
theorem Rank_any (v : Value) (t : List (List Int)) (w : World) (hv : See2 w v t) (hl : ∀ r ∈ t, r.length ≤ 1000000) (htl : t.length ≤ 1000000) : Calls Tryd.prog 12 #[v] w (Ret (rankV 0 t) w) := by
  have HR := hide (rank0_any v t w hv hl htl)
  obtain ⟨x, y, hxy⟩ : ∃ x y : Int, rankV 0 t = .tuple #[.int .i64 x, .int .i64 y] := by unfold rankV; split <;> exact ⟨_, _, rfl⟩
  rw [hxy] at HR ⊢
  obtain ⟨ao, cap, rfl⟩ := hv.shape
  clear hv hl htl hxy
  generalize t.length = n at *
  go_enter Tryd.func12, Tryd.ntmps12
  go_wp2_with fail
  refine HR.out.mono ?_
  rintro e w1 ⟨rfl, hw1⟩
  go_wp2
  go_ret2
  exact ⟨rfl, hw1⟩
end Go.Proofs.YtpplihpfjniacaaDoor
