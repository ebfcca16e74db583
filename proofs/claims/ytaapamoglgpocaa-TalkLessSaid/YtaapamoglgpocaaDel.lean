/- Walk: pairs struck off a row. -/
import Derived.Test.YtaapamoglgpocaaFool3
import Derived.Lib.SliceRun
namespace Go.Proofs.Ytaapamoglgpocaa
open Go.RowKit

/-- Where the first one lies that is to go. -/
def firstAt (P : Pr → Bool) (t : List Pr) (r : Int) : Prop := (r = -1 ∧ ∀ x ∈ t, P x = false) ∨ ∃ k, k < t.length ∧ r = (k : Int) ∧ (∀ q, q < k → P (t.getD q pr0) = false) ∧ P (t.getD k pr0) = true
theorem getDP_mem {t : List Pr} {k : Nat} (h : k < t.length) : t.getD k pr0 ∈ t := by
  rw [List.getD_eq_getElem?_getD, List.getElem?_eq_getElem h]; exact List.getElem_mem _

set_option maxRecDepth 100000 in
set_option maxHeartbeats 1000000 in
theorem IndexX_pairs (F : FuncId) (cp : Array Value) (P : Pr → Bool) (v : Value) (t : List Pr) (w : World) (hv : SeeP w v t) (hl : t.length ≤ 1000000)
    (hcall : ∀ args W, (callFunc F args).run Try.prog W = .ok (.enter F args) W) (hF : ∀ r ws, r ∈ t → Chg [] w ws → Calls Try.prog F (#[prV r] ++ cp) ws (Ret (.bool (P r)) ws)) :
    Calls Try.prog 105 #[v, .func (.func F) #[] cp] w fun e w' => ∃ r : Int, e = .returned (.int .i64 r) ∧ firstAt P t r ∧ Chg [] w w' := by
  obtain ⟨ao, cap, rfl, _⟩ := hv.shape
  have HV := hide hv
  have HF := hide hF
  clear hv hF
  generalize hn : t.length = n at *
  have HN := hide hn
  clear hn
  go_enter Try.func105, Try.ntmps105
  go_wp2
  go_loopw [8] (fun i wr => ∃ j : Nat, j ≤ n ∧ i = .int .i64 (j : Int) ∧ Hid ((∀ q, q < j → P (t.getD q pr0) = false) ∧ Chg [] w wr)) (fun i _ => (n - (intOf i).toNat))
  case atStart => exact ⟨0, Nat.zero_le _, rfl, hide ⟨fun q h => by omega, Chg.refl _ _⟩⟩
  case round =>
    obtain ⟨j, hj, rfl, hI⟩ := hrel
    by_cases hlt : j < n
    · have d1 : decide ((j : Int) < (n : Int)) = true := by simpa using hlt
      have nx : t ≠ [] := fun h => by have := HN.out; rw [h] at this; simp at this; omega
      obtain ⟨a, cap', e, _, hc⟩ := HV.out.open nx
      obtain ⟨rfl, hn1, rfl⟩ : ao = some a ∧ n = t.length ∧ cap = cap' := by simpa using e
      obtain ⟨fx, fy⟩ := hc wr hI.out.2 j (by rw [HN.out]; exact hlt)
      have HMem : Hid (t.getD j pr0 ∈ t) := hide (getDP_mem (by rw [HN.out]; exact hlt))
      have HC := hide (HF.out _ wr HMem.out hI.out.2)
      obtain ⟨x, hxe⟩ : ∃ x, x = t.getD j pr0 := ⟨_, rfl⟩
      rw [← hxe] at fx fy HC HMem
      have HXE := hide hxe
      unfold prV at HC
      have j0 : (0 : Int) ≤ (j : Int) := by omega
      have j1 : (j : Int) < (n : Int) := by omega
      clear nx hc hxe e hn1
      go_wp2_with fail
      refine HC.out.mono ?_
      rintro e w1 ⟨rfl, hw1⟩
      cases hp : P x with
      | true =>
        have HP := hide hp
        clear hp
        go_wp2
        go_ret
        refine ⟨_, rfl, .inr ⟨j, by rw [HN.out]; exact hlt, rfl, hI.out.1, by rw [← HXE.out]; exact HP.out⟩, hI.out.2.trans hw1⟩
      | false =>
        have HP := hide hp
        clear hp
        go_wp2
        go_roundw
        case rel => exact ⟨j + 1, by omega, by go_num, hide ⟨fun q hq => by
          rcases (show q < j ∨ q = j by omega) with h | rfl
          · exact hI.out.1 q h
          · rw [← HXE.out]; exact HP.out, hI.out.2.trans hw1⟩⟩
        case measure => simp [intOf]; omega
    · have d1 : decide ((j : Int) < (n : Int)) = false := by simpa using hlt
      go_wp2
      go_ret
      refine ⟨_, rfl, .inl ⟨rfl, fun x hx => ?_⟩, hI.out.2⟩
      obtain ⟨q, hq, he⟩ := List.getElem_of_mem hx
      have := hI.out.1 q (by rw [HN.out] at hq; omega)
      rw [List.getD_eq_getElem?_getD, List.getElem?_eq_getElem hq] at this
      rw [← he]
      simpa using this

/-- A row of pairs by a function of the index. -/
def PTab (w : World) (A K n : Nat) (g : Nat → Pr) : Prop := ∃ cur, Box w A cur 60 ∧ cur.size = K * 2 ∧ n ≤ K ∧ ∀ k, k < n → cur[k * 2]? = some (.int .i64 (g k).1) ∧ cur[k * 2 + 1]? = some (.int .i64 (g k).2)
theorem PTab.lt {w : World} {A K n : Nat} {g : Nat → Pr} (h : PTab w A K n g) : A < w.heap.size := by obtain ⟨c, h, _⟩ := h; exact h.lt
theorem PTab.keep {w w' : World} {A K n : Nat} {g : Nat → Pr} {S : List Nat} (h : PTab w A K n g) (hc : Chg S w w') (hs : A ∉ S) : PTab w' A K n g := by
  obtain ⟨c, h, hc'⟩ := h
  exact ⟨c, h.keep hc hs, hc'⟩
theorem PTab.cell {w : World} {A K n : Nat} {g : Nat → Pr} (h : PTab w A K n g) {k : Nat} (hk : k < n) : w.cell? ⟨A, k * 2, none⟩ = some (.int .i64 (g k).1) ∧ w.cell? ⟨A, k * 2 + 1, none⟩ = some (.int .i64 (g k).2) := by
  obtain ⟨c, h, _, _, hc⟩ := h
  rw [h.cell, h.cell]; exact hc k hk
theorem PTab.free {w : World} {A K n : Nat} {g : Nat → Pr} (h : PTab w A K n g) (o : Nat) : w.frozen? ⟨A, o, none⟩ = false := by
  obtain ⟨c, h, _⟩ := h
  exact h.free o
theorem PTab.set {w : World} {A K n : Nat} {g g' : Nat → Pr} (h : PTab w A K n g) (i : Nat) (x : Pr) (hg : ∀ k, k < n → g' k = if k = i then x else g k) : PTab ((w.setCell ⟨A, i * 2, none⟩ (.int .i64 x.1)).setCell ⟨A, i * 2 + 1, none⟩ (.int .i64 x.2)) A K n g' := by
  obtain ⟨c, h, hs, hn, hc⟩ := h
  refine ⟨_, (h.set _ _).set _ _, by simpa using hs, hn, fun k hk => ?_⟩
  rw [hg k hk]
  obtain ⟨c1, c2⟩ := hc k hk
  have l1 := (Array.getElem?_eq_some_iff.1 c1).1
  have l2 := (Array.getElem?_eq_some_iff.1 c2).1
  by_cases hki : k = i
  · subst hki
    rw [if_pos rfl]
    refine ⟨?_, ?_⟩
    · rw [Array.getElem?_setIfInBounds_ne (by omega), Array.getElem?_setIfInBounds_self, if_pos l1]
    · rw [Array.getElem?_setIfInBounds_self, if_pos (by simpa using l2)]
  · rw [if_neg hki]
    refine ⟨?_, ?_⟩
    · rw [Array.getElem?_setIfInBounds_ne (by omega), Array.getElem?_setIfInBounds_ne (by omega)]; exact c1
    · rw [Array.getElem?_setIfInBounds_ne (by omega), Array.getElem?_setIfInBounds_ne (by omega)]; exact c2
theorem PTab.put {w : World} {A K n : Nat} {g : Nat → Pr} (h : PTab w A K n g) (o : Nat) (v : Value) {i : Nat} (ho : i * 2 ≤ o) (hi : i ≤ n) : PTab (w.setCell ⟨A, o, none⟩ v) A K i g := by
  obtain ⟨c, h, hs, hn, hc⟩ := h
  refine ⟨_, h.set _ _, by simpa using hs, by omega, fun k hk => ?_⟩
  rw [Array.getElem?_setIfInBounds_ne (by omega), Array.getElem?_setIfInBounds_ne (by omega)]
  exact hc k (by omega)
theorem PTab.less {w : World} {A K n i : Nat} {g : Nat → Pr} (h : PTab w A K n g) (hi : i ≤ n) : PTab w A K i g := by
  obtain ⟨c, h, hs, hn, hc⟩ := h
  exact ⟨c, h, hs, by omega, fun k hk => hc k (by omega)⟩
theorem PTab.puts {w : World} {A K i : Nat} {g : Nat → Pr} (h : PTab w A K i g) : ∀ (l : List Value) (o : Nat), i * 2 ≤ o → PTab (w.setCells A o l) A K i g
  | [], _, _ => h
  | v :: l, o, ho => by
    unfold World.setCells
    exact PTab.puts (h.put o v ho (Nat.le_refl _)) l (o + 1) (by omega)
theorem PTab.of {w : World} {base A K n : Nat} {ps : List Pr} (h : w.ownsRow base 60 2 (.slice (some ⟨A, 0, none⟩) n K) n (flatP ps)) (hn : n = ps.length) : PTab w A K n (fun k => ps.getD k pr0) ∧ base ≤ A ∧ K ≤ maxLen := by
  rcases h.2 with ⟨h, _⟩ | ⟨g', cap', cur, he, hb, hg, hle, hm, hsz, ht⟩
  · cases h
  · cases he
    refine ⟨⟨cur, hg, hsz, hle, fun k hk => ?_⟩, hb, hm⟩
    have e : ∀ d, d < 2 → cur[k * 2 + d]? = (prCells (ps.getD k pr0))[d]? := fun d hd => by
      have h1 := flatP_at ps k d (by omega) hd
      rw [← ht, List.getElem?_take, if_pos (by omega)] at h1
      simpa using h1
    exact ⟨e 0 (by decide), e 1 (by decide)⟩
theorem PTab.to {w : World} {base A K i : Nat} {g : Nat → Pr} {ps : List Pr} (h : PTab w A K i g) (hb : base ≤ A) (hK : K ≤ maxLen) (hn : i = ps.length) (hg : ∀ k, k < i → g k = ps.getD k pr0) : w.ownsRow base 60 2 (.slice (some ⟨A, 0, none⟩) i K) i (flatP ps) := by
  obtain ⟨cur, h, hs, hle, hc⟩ := h
  refine ⟨by rw [flatP_len, hn], .inr ⟨A, K, cur, rfl, hb, h, hle, hK, hs, ?_⟩⟩
  apply List.ext_getElem?
  intro q
  rcases Nat.lt_or_ge q (i * 2) with hq | hq
  · rw [List.getElem?_take, if_pos hq]
    obtain ⟨k, d, hd, rfl⟩ : ∃ k d, d < 2 ∧ q = k * 2 + d := ⟨q / 2, q % 2, by omega, by omega⟩
    rw [flatP_at ps k d (by omega) hd, ← hg k (by omega)]
    obtain ⟨c1, c2⟩ := hc k (by omega)
    rcases (show d = 0 ∨ d = 1 by omega) with rfl | rfl
    · simpa [prCells] using c1
    · simpa [prCells] using c2
  · rw [List.getElem?_take, if_neg (by omega), List.getElem?_eq_none (by rw [flatP_len]; omega)]
end Go.Proofs.Ytaapamoglgpocaa
