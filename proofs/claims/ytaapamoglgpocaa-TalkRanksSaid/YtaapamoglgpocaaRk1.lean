/- Walks: small parts of rank; rows of numbers, each in a block of its own. -/
import Derived.Test.YtaapamoglgpocaaValid
import Derived.Test.YtaapamoglgpocaaRkMin
namespace Go.Proofs.Ytaapamoglgpocaa
open Go.RowKit

set_option maxRecDepth 100000 in
set_option maxHeartbeats 1000000 in
theorem Index_at (F : FuncId) (cp : Array Value) (P : List Int → Bool) (v : Value) (t : List (List Int)) (w : World) (hv : See2 w v t) (hl : t.length ≤ 1000000)
    (hcall : ∀ args W, (callFunc F args).run Try.prog W = .ok (.enter F args) W) (hF : ∀ u r ws, r ∈ t → Chg [] w ws → See ws u r → Calls Try.prog F (#[u] ++ cp) ws (Ret (.bool (P r)) ws)) :
    Calls Try.prog 102 #[v, .func (.func F) #[] cp] w fun e w' => ∃ r : Int, e = .returned (.int .i64 r) ∧
      ((∃ k : Nat, k < t.length ∧ r = (k : Int) ∧ P (t.getD k []) = true ∧ ∀ q, q < k → P (t.getD q []) = false) ∨ (r = -1 ∧ ∀ q, q < t.length → P (t.getD q []) = false)) ∧ Chg [] w w' := by
  obtain ⟨ao, cap, rfl⟩ := hv.shape
  have HV := hide hv
  have HF := hide hF
  clear hv hF
  generalize hn : t.length = n at *
  have HN := hide hn
  clear hn
  go_enter Try.func102, Try.ntmps102
  go_wp2
  go_loopw [8] (fun i wr => ∃ j : Nat, j ≤ n ∧ i = .int .i64 (j : Int) ∧ Hid ((∀ q, q < j → P (t.getD q []) = false) ∧ Chg [] w wr)) (fun i _ => (n - (intOf i).toNat))
  case atStart => exact ⟨0, Nat.zero_le _, rfl, hide ⟨fun q h => by omega, Chg.refl _ _⟩⟩
  case round =>
    obtain ⟨j, hj, rfl, hI⟩ := hrel
    by_cases hlt : j < n
    · have d1 : decide ((j : Int) < (n : Int)) = true := by simpa using hlt
      have nx : t ≠ [] := fun h => by have := HN.out; rw [h] at this; simp at this; omega
      obtain ⟨a, cap', e, _, hc⟩ := HV.out.open nx
      cases e
      obtain ⟨bo, bc, hrow⟩ := hc j (by rw [HN.out]; exact hlt)
      obtain ⟨fx, hs⟩ := hrow wr hI.out.2
      have HMem : Hid (t.getD j [] ∈ t) := hide (T.row_mem (by rw [HN.out]; exact hlt))
      have HC := hide (HF.out _ _ wr HMem.out hI.out.2 hs)
      obtain ⟨x, hxe⟩ : ∃ x, x = t.getD j [] := ⟨_, rfl⟩
      rw [← hxe] at fx HC HMem
      have HXE := hide hxe
      clear nx hc hxe hrow hs
      go_wp2_with fail
      refine HC.out.mono ?_
      rintro e w1 ⟨rfl, hw1⟩
      cases hp : P x with
      | true =>
        have HP := hide hp
        clear hp
        go_wp2
        go_ret
        exact ⟨_, rfl, .inl ⟨j, hlt, rfl, by rw [← HXE.out]; exact HP.out, hI.out.1⟩, hI.out.2.trans hw1⟩
      | false =>
        have HP := hide hp
        clear hp
        go_wp2
        go_roundw
        case rel => exact ⟨j + 1, by omega, by go_num, hide ⟨fun q hq => by
          rcases (show q < j ∨ q = j by omega) with h | rfl
          · exact hI.out.1 q h
          · rw [← HXE.out]; exact HP.out, hI.out.2.trans hw1⟩⟩
        case measure => simp [intOf]; omega
    · have d1 : decide ((j : Int) < (n : Int)) = false := by simpa using hlt
      go_wp2
      go_ret
      exact ⟨_, rfl, .inr ⟨rfl, fun q hq => hI.out.1 q (by omega)⟩, hI.out.2⟩

theorem callRk (args : Array Value) (W : World) : (callFunc 103 args).run Try.prog W = .ok (.enter 103 args) W := by kernel_rfl
set_option maxRecDepth 100000 in
set_option maxHeartbeats 1000000 in
theorem rk_any (u : Value) (r : List Int) (J j : Nat) (w : World) (hu : See w u r) (hJ : w.cell? ⟨J, 0, none⟩ = some (.int .i64 (j : Int))) (hj : j < r.length) :
    Calls Try.prog 103 #[u, .pointer (some ⟨J, 0, none⟩)] w (Ret (.bool (decide (r.getD j 0 ≠ 0))) w) := by
  have hne : r ≠ [] := by rintro rfl; simp at hj
  obtain ⟨a, cap, rfl, hc⟩ := hu.open hne
  have f0 := hc w (Chg.refl _ _) j hj
  have e1 : (r.getD j 0 != 0) = decide (r.getD j 0 ≠ 0) := by
    generalize r.getD j 0 = x
    by_cases h : x = 0 <;> simp [h]
  generalize decide (r.getD j 0 ≠ 0) = R at e1 ⊢
  generalize r.getD j 0 = x at f0 e1
  clear hu hc hne
  generalize r.length = L at *
  go_enter Try.func103, Try.ntmps103
  go_wp2
  go_ret
  exact ⟨rfl, Chg.refl _ _⟩

/-- What the two make of four numbers. -/
def cross0 (a b c d : Int) : Int := wrap64 (wrap64 (a * d) - wrap64 (b * c))
def cross2 (a b c d : Int) : Int := bits .and .i64 (bits .xor .i64 (wrap64 (a * d)) (wrap64 (b * c))) 1
set_option maxRecDepth 100000 in
set_option maxHeartbeats 1000000 in
theorem cross0_any (a b c d : Int) (w : World) : Calls Try.prog 62 #[.int .i64 a, .int .i64 b, .int .i64 c, .int .i64 d] w (fun e w' => e = .returned (.int .i64 (cross0 a b c d)) ∧ w' = w) := by
  go_enter Try.func62, Try.ntmps62
  go_wp2
  go_ret
  exact ⟨rfl, rfl⟩
set_option maxRecDepth 100000 in
set_option maxHeartbeats 1000000 in
theorem cross2_any (a b c d : Int) (w : World) : Calls Try.prog 63 #[.int .i64 a, .int .i64 b, .int .i64 c, .int .i64 d] w (fun e w' => e = .returned (.int .i64 (cross2 a b c d)) ∧ w' = w) := by
  go_enter Try.func63, Try.ntmps63
  go_wp2
  go_ret
  exact ⟨rfl, rfl⟩

/-- Rows of numbers, each in a block of its own, in a block of its own. -/
structure MatP (w : World) (base O m n : Nat) (G K : Nat → Nat) (M : Nat → Nat → Int) : Prop where
  outer : ∃ cur, Box w O cur 38 ∧ ∀ i, i < m → cur[i]? = some (.slice (some ⟨G i, 0, none⟩) n (K i))
  row : ∀ i, i < m → ∃ cs, Box w (G i) cs 3 ∧ ∀ c, c < n → cs[c]? = some (.int .i64 (M i c))
  inj : ∀ i k, i < m → k < m → G i = G k → i = k
  out : ∀ i, i < m → G i ≠ O
  lowO : base ≤ O
  low : ∀ i, i < m → base ≤ G i
  cap : ∀ i, i < m → n ≤ K i

theorem MatP.ltO {w : World} {base O m n : Nat} {G K : Nat → Nat} {M : Nat → Nat → Int} (h : MatP w base O m n G K M) : O < w.heap.size := by
  obtain ⟨cur, hb, -⟩ := h.outer; exact hb.lt
theorem MatP.lt {w : World} {base O m n : Nat} {G K : Nat → Nat} {M : Nat → Nat → Int} (h : MatP w base O m n G K M) {i : Nat} (hi : i < m) : G i < w.heap.size := by
  obtain ⟨cur, hb, -⟩ := h.row i hi; exact hb.lt
theorem MatP.keep {w w' : World} {base O m n : Nat} {G K : Nat → Nat} {M : Nat → Nat → Int} (h : MatP w base O m n G K M) (hc : Chg [] w w') : MatP w' base O m n G K M := by
  refine ⟨?_, fun i hi => ?_, h.inj, h.out, h.lowO, h.low, h.cap⟩
  · obtain ⟨cur, hb, e⟩ := h.outer
    exact ⟨cur, hb.keep hc List.not_mem_nil, e⟩
  · obtain ⟨cs, hb, e⟩ := h.row i hi
    exact ⟨cs, hb.keep hc List.not_mem_nil, e⟩
theorem MatP.cellO {w : World} {base O m n : Nat} {G K : Nat → Nat} {M : Nat → Nat → Int} (h : MatP w base O m n G K M) {i : Nat} (hi : i < m) :
    w.cell? ⟨O, i, none⟩ = some (.slice (some ⟨G i, 0, none⟩) n (K i)) := by
  obtain ⟨cur, hb, e⟩ := h.outer
  rw [hb.cell]; exact e i hi
theorem MatP.freeO {w : World} {base O m n : Nat} {G K : Nat → Nat} {M : Nat → Nat → Int} (h : MatP w base O m n G K M) (i : Nat) : w.frozen? ⟨O, i, none⟩ = false := by
  obtain ⟨cur, hb, e⟩ := h.outer
  exact hb.free i
theorem MatP.cell {w : World} {base O m n : Nat} {G K : Nat → Nat} {M : Nat → Nat → Int} (h : MatP w base O m n G K M) {i c : Nat} (hi : i < m) (hc : c < n) :
    w.cell? ⟨G i, c, none⟩ = some (.int .i64 (M i c)) := by
  obtain ⟨cs, hb, e⟩ := h.row i hi
  rw [hb.cell]; exact e c hc
theorem MatP.free {w : World} {base O m n : Nat} {G K : Nat → Nat} {M : Nat → Nat → Int} (h : MatP w base O m n G K M) {i : Nat} (hi : i < m) (c : Nat) : w.frozen? ⟨G i, c, none⟩ = false := by
  obtain ⟨cs, hb, e⟩ := h.row i hi
  exact hb.free c
theorem MatP.congr {w : World} {base O m n : Nat} {G K : Nat → Nat} {M M' : Nat → Nat → Int} (h : MatP w base O m n G K M) (he : ∀ i, i < m → ∀ c, c < n → M' i c = M i c) : MatP w base O m n G K M' := by
  refine ⟨h.outer, fun i hi => ?_, h.inj, h.out, h.lowO, h.low, h.cap⟩
  obtain ⟨cs, hb, e⟩ := h.row i hi
  exact ⟨cs, hb, fun c hc => by rw [e c hc, he i hi c hc]⟩
theorem MatP.put {w : World} {base O m n : Nat} {G K : Nat → Nat} {M M' : Nat → Nat → Int} (h : MatP w base O m n G K M) {i c : Nat} (hi : i < m) (v : Int)
    (hM : ∀ i' c', M' i' c' = if i' = i ∧ c' = c then v else M i' c') : MatP (w.setCell ⟨G i, c, none⟩ (.int .i64 v)) base O m n G K M' := by
  refine ⟨?_, fun k hk => ?_, h.inj, h.out, h.lowO, h.low, h.cap⟩
  · obtain ⟨cur, hb, e⟩ := h.outer
    exact ⟨cur, hb.set' (fun h' => h.out i hi h'.symm) _, e⟩
  · obtain ⟨cs, hb, e⟩ := h.row k hk
    by_cases hki : k = i
    · subst hki
      refine ⟨_, hb.set c _, fun c' hc' => ?_⟩
      rw [hM, Array.getElem?_setIfInBounds]
      have hlt : c' < cs.size := (Array.getElem?_eq_some_iff.1 (e c' hc')).1
      by_cases hcc : c = c'
      · subst hcc; rw [if_pos rfl, if_pos hlt, if_pos ⟨rfl, rfl⟩]
      · rw [if_neg hcc, if_neg (fun h => hcc h.2.symm)]; exact e c' hc'
    · refine ⟨cs, hb.set' (fun h' => hki (h.inj k i hk hi h')) _, fun c' hc' => ?_⟩
      rw [hM, if_neg (fun h => hki h.1)]; exact e c' hc'
/-- Two rows change their places. -/
def swapF (G : Nat → Nat) (a b : Nat) : Nat → Nat := fun i => if i = a then G b else if i = b then G a else G i
theorem MatP.swap {w : World} {base O m n : Nat} {G K : Nat → Nat} {M : Nat → Nat → Int} (h : MatP w base O m n G K M) {a b : Nat} (ha : a < m) (hb : b < m) :
    MatP ((w.setCell ⟨O, a, none⟩ (.slice (some ⟨G b, 0, none⟩) n (K b))).setCell ⟨O, b, none⟩ (.slice (some ⟨G a, 0, none⟩) n (K a))) base O m n (swapF G a b) (swapF K a b) (swapM M a b) := by
  have hx : ∀ i, i < m → ∃ k, k < m ∧ swapF G a b i = G k ∧ swapF K a b i = K k ∧ swapM M a b i = M k ∧ (i = a → k = b) ∧ (i = b → k = a) ∧ (i ≠ a → i ≠ b → k = i) := fun i hi => by
    by_cases h1 : i = a
    · refine ⟨b, hb, by simp [swapF, h1], by simp [swapF, h1], by simp [swapM, h1], fun _ => rfl, fun h2 => by omega, fun h2 => absurd h1 h2⟩
    · by_cases h2 : i = b
      · refine ⟨a, ha, ?_, ?_, ?_, fun h => absurd h h1, fun _ => rfl, fun _ h => absurd h2 h⟩
        · simp only [swapF]; rw [if_neg h1, if_pos h2]
        · simp only [swapF]; rw [if_neg h1, if_pos h2]
        · simp only [swapM]; rw [if_neg h1, if_pos h2]
      · refine ⟨i, hi, ?_, ?_, ?_, fun h => absurd h h1, fun h => absurd h h2, fun _ _ => rfl⟩
        · simp only [swapF]; rw [if_neg h1, if_neg h2]
        · simp only [swapF]; rw [if_neg h1, if_neg h2]
        · simp only [swapM]; rw [if_neg h1, if_neg h2]
  refine ⟨?_, fun i hi => ?_, fun i k hi hk e => ?_, fun i hi => ?_, h.lowO, fun i hi => ?_, fun i hi => ?_⟩
  · obtain ⟨cur, hB, e⟩ := h.outer
    refine ⟨_, (hB.set a _).set b _, fun i hi => ?_⟩
    have lt : ∀ k, k < m → k < cur.size := fun k hk => (Array.getElem?_eq_some_iff.1 (e k hk)).1
    rw [Array.getElem?_setIfInBounds, Array.size_setIfInBounds]
    by_cases h1 : b = i
    · subst h1
      rw [if_pos rfl, if_pos (lt b hb)]
      by_cases h2 : b = a
      · subst h2; simp [swapF]
      · simp [swapF, h2]
    · rw [if_neg h1, Array.getElem?_setIfInBounds]
      by_cases h2 : a = i
      · subst h2
        rw [if_pos rfl, if_pos (lt a ha)]
        simp [swapF]
      · rw [if_neg h2, e i hi]
        simp only [swapF]
        rw [if_neg (fun h => h2 h.symm), if_neg (fun h => h1 h.symm), if_neg (fun h => h2 h.symm), if_neg (fun h => h1 h.symm)]
  · obtain ⟨k, hk, e1, -, e3, -⟩ := hx i hi
    obtain ⟨cs, hB, e⟩ := h.row k hk
    rw [e1, e3]
    exact ⟨cs, (hB.set' (h.out k hk) _).set' (h.out k hk) _, e⟩
  · obtain ⟨i', hi', e1, -, -, a1, a2, a3⟩ := hx i hi
    obtain ⟨k', hk', f1, -, -, b1, b2, b3⟩ := hx k hk
    have := h.inj i' k' hi' hk' (by rw [← e1, ← f1]; exact e)
    omega
  · obtain ⟨k, hk, e1, -⟩ := hx i hi
    rw [e1]; exact h.out k hk
  · obtain ⟨k, hk, e1, -⟩ := hx i hi
    rw [e1]; exact h.low k hk
  · obtain ⟨k, hk, -, e1, -⟩ := hx i hi
    rw [e1]; exact h.cap k hk
/-- The rows from one on, as a slice of slices. -/
def rowsFrom (M : Nat → Nat → Int) (o m n : Nat) : List (List Int) := (List.range (m - o)).map fun i => (List.range n).map (M (o + i))
theorem rowsFrom_len (M : Nat → Nat → Int) (o m n : Nat) : (rowsFrom M o m n).length = m - o := by simp [rowsFrom]
theorem rowsFrom_get {M : Nat → Nat → Int} {o m n i : Nat} (h : i < m - o) : (rowsFrom M o m n).getD i [] = (List.range n).map (M (o + i)) := by
  unfold rowsFrom
  rw [List.getD_eq_getElem?_getD, List.getElem?_map, List.getElem?_range h]; rfl
theorem range_get {x : Nat → Int} {n c : Nat} (h : c < n) : ((List.range n).map x).getD c 0 = x c := by
  rw [List.getD_eq_getElem?_getD, List.getElem?_map, List.getElem?_range h]; rfl
theorem MatP.see {w : World} {base O m n : Nat} {G K : Nat → Nat} {M : Nat → Nat → Int} (h : MatP w base O m n G K M) (o cap : Nat) (hcap : m - o ≤ cap) :
    See2 w (.slice (some ⟨O, o, none⟩) (m - o) cap) (rowsFrom M o m n) := by
  refine ⟨some ⟨O, o, none⟩, cap, by rw [rowsFrom_len], by rw [rowsFrom_len]; exact hcap, fun _ => ⟨_, rfl, h.ltO, fun i hi => ?_⟩⟩
  rw [rowsFrom_len] at hi
  have hi' : o + i < m := by omega
  refine ⟨.slice (some ⟨G (o + i), 0, none⟩) n (K (o + i)), ?_, ?_⟩
  · have e : (⟨O, o, none⟩ : Addr).add i = ⟨O, o + i, none⟩ := by unfold Addr.add; split <;> simp_all
    rw [e]; exact h.cellO hi'
  · rw [rowsFrom_get hi]
    by_cases hn : n = 0
    · subst hn; exact .inl ⟨rfl, _, _, rfl⟩
    · refine .inr ⟨⟨G (o + i), 0, none⟩, K (o + i), by simp, by simp; exact h.cap _ hi', h.lt hi', fun c hc => ?_⟩
      have hc' : c < n := by simpa using hc
      rw [add_zero_row, h.cell hi' hc', range_get hc']
end Go.Proofs.Ytaapamoglgpocaa
