/- TopRows, plain: each row twice. -/
import Derived.Test.YtpplihpfjniacaaRw1
import Derived.Test.YtpplihpfjniacaaOnce
namespace Go.Proofs.Ytpplihpfjniacaa
open Go.RowKit

/-- A concept as a row of values, up to a point; all rows of a class, each twice. -/
def rowTo (c k : Nat) : List Int := (List.range k).map fun x => if c.testBit x = true then 1 else 0
def dblT (p : Nat) (l : List Int) : Nat → List (List Int)
  | 0 => []
  | i + 1 => dblT p l i ++ [rowTo (cf l i) p, rowTo (cf l i) p]
theorem rowTo_len (c k : Nat) : (rowTo c k).length = k := by unfold rowTo; rw [List.length_map, List.length_range]
theorem rowTo_succ (c k : Nat) : rowTo c k ++ [if c.testBit k = true then 1 else 0] = rowTo c (k + 1) := by
  unfold rowTo
  rw [List.range_succ, List.map_append]
  rfl
theorem rowTo_get {c k x : Nat} (h : x < k) : (rowTo c k).getD x 0 = if c.testBit x = true then 1 else 0 := by
  unfold rowTo
  rw [List.getD_eq_getElem?_getD, List.getElem?_map, List.getElem?_range h]
  rfl
theorem rowTo_inj {p c d : Nat} (hc : c < 2 ^ p) (hd : d < 2 ^ p) (h : rowTo c p = rowTo d p) : c = d := by
  apply Nat.eq_of_testBit_eq
  intro i
  by_cases hi : i < p
  · have h1 := rowTo_get (c := c) hi
    rw [h, rowTo_get hi] at h1
    cases hc1 : c.testBit i <;> cases hd1 : d.testBit i <;> simp [hc1, hd1] at h1 ⊢
  · have hp : (2 : Nat) ^ p ≤ 2 ^ i := Nat.pow_le_pow_right (by decide) (by omega)
    rw [Nat.testBit_lt_two_pow (Nat.lt_of_lt_of_le hc hp), Nat.testBit_lt_two_pow (Nat.lt_of_lt_of_le hd hp)]
theorem rowTo_ok (c p : Nat) : T.rowOk p (rowTo c p) = true := by
  refine T.rowOk_iff.2 ⟨rowTo_len c p, fun x hx => ?_⟩
  unfold rowTo at hx
  obtain ⟨k, _, rfl⟩ := List.mem_map.1 hx
  split <;> omega
theorem dbl_len (p : Nat) (l : List Int) : ∀ i, (dblT p l i).length = 2 * i
  | 0 => rfl
  | i + 1 => by
    rw [dblT, List.length_append, dbl_len p l i]
    simp
    omega
theorem dbl_take (p : Nat) (l : List Int) : ∀ d, (dblT p l (2 + d)).take 4 = dblT p l 2
  | 0 => List.take_of_length_le (by rw [dbl_len]; omega)
  | d + 1 => by
    show (dblT p l (2 + d + 1)).take 4 = _
    rw [dblT, List.take_append_of_le_length (by rw [dbl_len]; omega)]
    exact dbl_take p l d
theorem dbl_one {p : Nat} (l : List Int) (hp : 1 ≤ p ∧ p ≤ 4) : T.isTab (dblT p l 1) = true ∧ onceN (dblT p l 1) = 0 := by
  have e : dblT p l 1 = [rowTo (cf l 0) p, rowTo (cf l 0) p] := rfl
  rw [e]
  have hc : T.cols [rowTo (cf l 0) p, rowTo (cf l 0) p] = p := rowTo_len _ _
  constructor
  · refine T.isTab_iff.2 ⟨⟨by simp, by simp, by omega, by omega⟩, fun r hr => ?_⟩
    rw [hc]
    simp at hr
    rw [hr]
    exact rowTo_ok _ _
  · simp [onceN, uniqT, wordsN]
theorem dbl_two {p : Nat} {l : List Int} (hp : 1 ≤ p ∧ p ≤ 4) (hk : okC p l) (h2 : 2 ≤ l.length) : T.isTab (dblT p l 2) = true ∧ onceN (dblT p l 2) = 1 := by
  have e : dblT p l 2 = [rowTo (cf l 0) p, rowTo (cf l 0) p, rowTo (cf l 1) p, rowTo (cf l 1) p] := rfl
  obtain ⟨a1, a2⟩ := hk.at (i := 0) (by omega)
  obtain ⟨b1, b2⟩ := hk.at (i := 1) (by omega)
  have hlt : cf l 0 < cf l 1 := by
    have := List.pairwise_iff_getElem.1 hk.2.2.2.2.2 0 1 (by omega) (by omega) (by omega)
    rw [List.getD_eq_getElem?_getD, List.getElem?_eq_getElem (by omega), Option.getD_some] at a1 b1
    omega
  have hne : ¬ rowTo (cf l 1) p = rowTo (cf l 0) p := fun h => by have := rowTo_inj b2 a2 h; omega
  rw [e]
  have hc : T.cols [rowTo (cf l 0) p, rowTo (cf l 0) p, rowTo (cf l 1) p, rowTo (cf l 1) p] = p := rowTo_len _ _
  constructor
  · refine T.isTab_iff.2 ⟨⟨by simp, by simp, by omega, by omega⟩, fun r hr => ?_⟩
    rw [hc]
    simp at hr
    rcases hr with rfl | rfl <;> exact rowTo_ok _ _
  · simp [onceN, uniqT, wordsN, hne]
theorem cnt_ones' (m : Nat) : ∀ n, n ≤ m → Lr.cnt (2 ^ m - 1) n = n
  | 0, _ => rfl
  | n + 1, h => by
    unfold Lr.cnt
    rw [cnt_ones' m n (by omega), Nat.testBit_two_pow_sub_one, if_pos (by simp; omega)]
theorem ask_two {p : Nat} {l : List Int} (hk : okC p l) (h2 : l.length = 2) : 1 ≤ Lr.askN (cf l) l.length p (allC l) := by
  obtain ⟨a1, _⟩ := allC_ok hk
  have h1p : (2 : Nat) ^ 1 ≤ 2 ^ p := Nat.pow_le_pow_right (by decide) hk.1
  have h4 := Lr.cnt_ask (c := cf l) (p := p) hk.2.2.2.1 (by omega) _ _ (Nat.lt_succ_self _) a1
  have h5 : Lr.cnt (allC l) l.length = l.length := cnt_ones' _ _ (Nat.le_refl _)
  rw [h5, h2] at h4
  rw [h2]
  rcases Nat.eq_zero_or_pos (Lr.askN (cf l) 2 p (allC l)) with h | h
  · rw [h] at h4; omega
  · exact h
theorem okC_take {p n : Nat} {l : List Int} (hk : okC p l) (h1 : 1 ≤ n) (hn : n ≤ l.length) : okC p (l.take n) ∧ (l.take n).length = n := by
  have e : (l.take n).length = n := by rw [List.length_take]; omega
  have h16 := hk.2.2.2.1
  exact ⟨⟨hk.1, hk.2.1, by omega, by omega, fun s hs => hk.2.2.2.2.1 s (List.mem_of_mem_take hs), hk.2.2.2.2.2.sublist (List.take_sublist _ _)⟩, e⟩

theorem Rows2.keep {w w' : World} {base : Nat} {v : Value} {t : List (List Int)} (h : Rows2 w base v t) (hc : Chg [] w w') : Rows2 w' base v t := by
  obtain ⟨us, hl, ho, hr⟩ := h
  exact ⟨us, hl, hc.row ho (fun _ _ => List.not_mem_nil), fun i u hi => (hr i u hi).keep hc⟩
theorem Rows2.pushes {w w' : World} {base : Nat} {v v' : Value} {t ts : List (List Int)} {us vs : List Value} (hl : us.length = t.length) (ho : w.ownsRow base 23 1 v t.length us) (hr : ∀ i u, us[i]? = some u → Ints w u (t.getD i []))
    (hk : vs.length = ts.length) (hu : ∀ i u, vs[i]? = some u → Ints w u (ts.getD i [])) (hg : w.grownBy w' v.ownBlock) (ho' : w'.ownsRow base 23 1 v' (t.length + ts.length) (us ++ vs)) : Rows2 w' base v' (t ++ ts) := by
  refine ⟨us ++ vs, by simp [hl, hk], by simpa using ho', fun i u' hi => ?_⟩
  rcases Nat.lt_or_ge i us.length with h | h
  · rw [List.getElem?_append_left h] at hi
    have := ints_apart ho (hr i u' hi) hg
    rw [List.getD_eq_getElem?_getD, List.getElem?_append_left (by omega), ← List.getD_eq_getElem?_getD]
    exact this
  · rw [List.getElem?_append_right h] at hi
    have := ints_apart ho (hu _ u' hi) hg
    rw [List.getD_eq_getElem?_getD, List.getElem?_append_right (by omega), ← List.getD_eq_getElem?_getD, ← hl]
    exact this
theorem see2_take {w : World} {ao : Option Addr} {n k cap : Nat} {t : List (List Int)} (h : See2 w (.slice ao n cap) t) (hk : k ≤ n) : See2 w (.slice ao k cap) (t.take k) := by
  obtain ⟨ao', cap', e, hle, hA⟩ := h
  obtain ⟨rfl, rfl, rfl⟩ : ao = ao' ∧ n = t.length ∧ cap = cap' := by simpa using e
  have hlen : (t.take k).length = k := by rw [List.length_take]; omega
  refine ⟨ao, cap, by rw [hlen], by omega, fun hne => ?_⟩
  have hne' : t ≠ [] := fun e => hne (by rw [e, List.take_nil])
  obtain ⟨a, rfl, hb, hx⟩ := hA hne'
  refine ⟨a, rfl, hb, fun i hi => ?_⟩
  rw [hlen] at hi
  obtain ⟨u, h1, h2⟩ := hx i (by omega)
  refine ⟨u, h1, ?_⟩
  rw [List.getD_eq_getElem?_getD, List.getElem?_take, if_pos hi, ← List.getD_eq_getElem?_getD]
  exact h2
theorem see_cut {w : World} {a : Addr} {n k cap : Nat} {l : List Int} (h : See w (.slice (some a) n cap) l) (hn : n = l.length) (hk : k ≤ n) : See w (.slice (some a) k cap) (l.take k) := by
  have hlen : (l.take k).length = k := by rw [List.length_take]; omega
  rcases h with ⟨rfl, _, _, _⟩ | ⟨a', cap', e, hle, hb, hc⟩
  · simp at hn
    obtain rfl : k = 0 := by omega
    exact .inl ⟨rfl, _, _, rfl⟩
  · obtain ⟨rfl, rfl, rfl⟩ : a = a' ∧ n = l.length ∧ cap = cap' := by simpa using e
    refine .inr ⟨a, cap, by rw [hlen], by omega, hb, fun i hi => ?_⟩
    rw [hlen] at hi
    rw [hc i (by omega), List.getD_eq_getElem?_getD, List.getD_eq_getElem?_getD, List.getElem?_take, if_pos hi]
theorem awakeT_any (w : World) : Calls Try.prog 14 #[] w (Ret (.bool true) w) := by
  have HL := hide fun v ws (h : See2 ws v [[0, 1]]) => Length_any v [[0, 1]] ws h (by simp) (by simp)
  rw [lenV_ex] at HL
  go_enter Try.func14, Try.ntmps14
  go_wp2_with fail
  have hs := see2_ex w
  refine (HL.out _ _ hs).mono ?_
  rintro e w2 ⟨rfl, hw2⟩
  have C2 : Hid (Chg [] w w2) := hide ((((Chg.refl [] w).alloc _).alloc _).trans hw2)
  clear hw2 hs
  go_wp2
  go_ret
  exact ⟨rfl, C2.out⟩
end Go.Proofs.Ytpplihpfjniacaa
