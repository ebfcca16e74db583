/- Walk: Covers. -/
import Derived.Test.YtaapamoglgpocaaCov1
namespace Go.Proofs.Ytaapamoglgpocaa
open Go.RowKit

theorem and_not63 {a b : Nat} (ha : a < 2 ^ 63) (hb : b < 2 ^ 63) : bits .andNot .i64 (a : Int) (b : Int) = (andnN a b : Int) := by
  have e1 : (BitVec.ofInt 64 (a : Int)).toNat = a := by rw [BitVec.toNat_ofInt]; omega
  have e2 : (~~~ BitVec.ofInt 64 (b : Int)).toNat = 2 ^ 64 - (b + 1) := by rw [BitVec.toNat_not, BitVec.toNat_ofInt]; omega
  have h1 : andnN a b ≤ a := andnN_le _ _
  have e3 : (BitVec.ofInt 64 (a : Int) &&& ~~~ BitVec.ofInt 64 (b : Int)).toNat = andnN a b := by
    rw [BitVec.toNat_and, e1, e2]; rfl
  show IntKind.i64.wrap ((BitVec.ofInt 64 (a : Int) &&& ~~~ BitVec.ofInt 64 (b : Int)).toNat : Int) = _
  rw [e3, IntKind.wrap_i64]
  omega
theorem andn_whole {a m : Nat} (ha : a < 2 ^ 63) (hm : m ≤ 4) : andnN a (2 ^ m - 1) = 0 ↔ a < 2 ^ m := by
  have hp := (pow_le16 hm).2
  have hb : ∀ i, (andnN a (2 ^ m - 1)).testBit i = (a.testBit i && !decide (i < m)) := fun i => by
    rw [andnN_test (by omega) (by omega), Nat.testBit_two_pow_sub_one]
  constructor
  · intro h
    apply Nat.lt_pow_two_of_testBit
    intro i hi
    have := hb i
    rw [h, Nat.zero_testBit] at this
    have hd : decide (i < m) = false := by simp; omega
    rw [hd, Bool.not_false, Bool.and_true] at this
    exact this.symm
  · intro h
    apply Nat.eq_of_testBit_eq
    intro i
    rw [hb, Nat.zero_testBit]
    cases hi : a.testBit i with
    | false => rfl
    | true =>
      have := bit_lt h hi
      simp [this]
def inB (a c R C : Nat) : Bool := decide (andnN a R = 0) && decide (andnN c C = 0)

set_option maxRecDepth 100000 in
set_option maxHeartbeats 1000000 in
theorem within_any (a c R C : Nat) (w : World) (h1 : a < 2 ^ 63) (h2 : c < 2 ^ 63) (h3 : R < 2 ^ 63) (h4 : C < 2 ^ 63) :
    Calls Try.prog 91 #[rectV a c, rectV R C] w (Ret (.bool (inB a c R C)) w) := by
  have k1 := and_not63 h1 h3
  have k2 := and_not63 h2 h4
  have HB : Hid (inB a c R C = (decide (andnN a R = 0) && decide (andnN c C = 0))) := hide rfl
  generalize inB a c R C = res at *
  unfold rectV
  generalize andnN a R = p at *
  generalize andnN c C = q at *
  clear h1 h2 h3 h4
  have hq : ((q : Int) == 0) = decide (q = 0) := by
    by_cases h : q = 0
    · rw [h]; rfl
    · rw [decide_eq_false h]; simpa using h
  by_cases hp : p = 0
  · have d1 : ((p : Int) == 0) = true := by simpa using hp
    have E : Hid (res = decide (q = 0)) := hide (by rw [HB.out, decide_eq_true hp, Bool.true_and])
    clear hp HB
    generalize decide (q = 0) = qb at *
    go_enter Try.func91, Try.ntmps91
    go_wp2
    go_ret
    exact ⟨by rw [E.out]; rfl, by (repeat' (first | with_reducible exact Chg.refl _ _ | with_reducible assumption | with_reducible apply Chg.drewN | with_reducible apply Chg.drew | with_reducible apply Chg.alloc | (with_reducible refine Chg.setCell ?_ (Or.inr ?_) _) | (with_reducible refine Chg.trans ?_ (by assumption)) | (simp; done) | (simp; omega)))⟩
  · have d1 : ((p : Int) == 0) = false := by simpa using hp
    have E : Hid (res = false) := hide (by rw [HB.out, decide_eq_false hp, Bool.false_and])
    clear hp HB
    go_enter Try.func91, Try.ntmps91
    go_wp2
    go_ret
    exact ⟨by rw [E.out]; rfl, by (repeat' (first | with_reducible exact Chg.refl _ _ | with_reducible assumption | with_reducible apply Chg.drewN | with_reducible apply Chg.drew | with_reducible apply Chg.alloc | (with_reducible refine Chg.setCell ?_ (Or.inr ?_) _) | (with_reducible refine Chg.trans ?_ (by assumption)) | (simp; done) | (simp; omega)))⟩

set_option maxRecDepth 100000 in
set_option maxHeartbeats 1000000 in
/-- The closure of Covers: is an entry in the rectangle? -/
theorem inRect (B r c i j : Nat) (w : World) (hB : Box w B #[.int .i64 (r : Int), .int .i64 (c : Int)] 75) (hr : r < 65536) (hc : c < 65536) (hi : i ≤ 62) (hj : j ≤ 62) :
    Calls Try.prog 93 #[.agg #[.int .i64 (i : Int), .int .i64 (j : Int)], .pointer (some ⟨B, 0, none⟩)] w (Ret (.bool (T.has r c i j)) w) := by
  have HH := hide fun ws => has_any r c i j ws hr hc hi hj
  have b0 := hB.cell 0
  have b1 := hB.cell 1
  simp only [List.getElem?_toArray, List.getElem?_cons_zero, List.getElem?_cons_succ] at b0 b1
  have lB := hB.lt
  clear hr hc hi hj hB
  go_enter Try.func93, Try.ntmps93
  go_wp2_with fail
  refine (HH.out _).mono ?_
  rintro e w1 ⟨rfl, hw1⟩
  have HC : Hid (Chg [] w w1) := hide (by (repeat' (first | with_reducible exact Chg.refl _ _ | with_reducible assumption | with_reducible apply Chg.drewN | with_reducible apply Chg.drew | with_reducible apply Chg.alloc | (with_reducible refine Chg.setCell ?_ (Or.inr ?_) _) | (with_reducible refine Chg.trans ?_ (by assumption)) | (simp; done) | (simp; omega))))
  clear hw1
  go_wp2
  go_ret
  exact ⟨rfl, HC.out⟩
theorem callCovers (args : Array Value) (W : World) : (callFunc 93 args).run Try.prog W = .ok (.enter 93 args) W := by kernel_rfl
theorem box_row_ne {w : World} {B base n size : Nat} {cs : Array Value} {T e : TypeId} {v : Value} {xs : List Value} (hB : Box w B cs T) (h : w.ownsRow base e size v n xs) (hne : T ≠ e) : ∀ g, v.ownBlock = some g → g ≠ B := by
  rintro g hg rfl
  rcases h.2 with ⟨rfl, _⟩ | ⟨g', cap, cur, rfl, _, hh, _⟩
  · cases hg
  · simp only [Value.ownBlock, Option.some.injEq] at hg
    subst hg
    rw [show w.heap[g']? = some (.cells cs T (0, 0)) from hB] at hh
    simp at hh
    exact hne hh.2

/-- What the search for the values of a rectangle says of it. -/
theorem rectI_clr {t : List (List Int)} (ht : T.isTab t = true) {v : Int} {a c : Nat} (h1 : 1 ≤ a) (h2 : a < 2 ^ t.length) (h3 : 1 ≤ c) (h4 : c < 2 ^ T.cols t) : rectI t v (a : Int) (c : Int) = (match T.clrM t a c with | some y => decide (y = v) | none => false) := by
  obtain ⟨⟨t1, t2, t3, t4⟩, _⟩ := T.isTab_iff.1 ht
  have hd : decide (1 ≤ (a : Int) ∧ (a : Int) < ((2 ^ t.length : Nat) : Int) ∧ 1 ≤ (c : Int) ∧ (c : Int) < ((2 ^ T.cols t : Nat) : Int)) = true := decide_eq_true ⟨by omega, by omega, by omega, by omega⟩
  unfold rectI rectOk T.clear
  rw [hd, Bool.true_and, Int.toNat_natCast, Int.toNat_natCast]
  cases hm : T.clrM t a c with
  | none => rfl
  | some y =>
    simp only [Option.isSome_some, Bool.true_and]
    apply decide_eq_decide.2
    rw [andn_zero (bitsN_lt _ _) (entN_lt _ _)]
    obtain ⟨e, he⟩ := rect_some ht h1 h2 h3 h4
    obtain ⟨k1, k2, _, k4⟩ := rect_in h2 h4 he
    constructor
    · intro h
      have := h e he
      rw [entN_test e t2, Bool.and_eq_true, decide_eq_true_eq] at this
      rw [← this.2]
      exact (T.clrM_val ht hm k1 k2 k4).symm
    · intro hy i hi
      obtain ⟨q1, q2, _, q4⟩ := rect_in h2 h4 hi
      rw [entN_test i t2, decide_eq_true q1, decide_eq_true q2, T.clrM_val ht hm q1 q2 q4, hy]
      simp
/-- The entries that are in none of the first k rectangles. -/
def leftK (t : List (List Int)) (v : Int) (l : List Pr) (k : Nat) : List Pr := (ents t v).filter fun e => !((l.take k).any fun x => hasP x e)
theorem leftK_zero (t : List (List Int)) (v : Int) (l : List Pr) : leftK t v l 0 = ents t v := by
  unfold leftK
  rw [List.filter_eq_self]
  intro x _
  simp
theorem leftK_succ {t : List (List Int)} {v : Int} {l : List Pr} {k : Nat} (h : k < l.length) : leftK t v l (k + 1) = (leftK t v l k).filter fun e => !hasP (l.getD k pr0) e := by
  unfold leftK
  rw [List.filter_filter, takeP_snoc h]
  congr 1
  funext e
  rw [List.any_append, List.any_cons, List.any_nil, Bool.or_false, Bool.not_or, Bool.and_comm]
theorem leftK_all {t : List (List Int)} {v : Int} {l : List Pr} : decide ((leftK t v l l.length).length = 0) = (ents t v).all fun e => l.any fun x => hasP x e := by
  unfold leftK
  rw [List.take_length, Bool.eq_iff_iff, decide_eq_true_eq, List.length_eq_zero_iff, List.filter_eq_nil_iff, List.all_eq_true]
  constructor
  · intro h x hx
    simpa using h x hx
  · intro h x hx
    simpa using h x hx
theorem leftK_mem {t : List (List Int)} {v : Int} {l : List Pr} {k : Nat} {x : Pr} (h : x ∈ leftK t v l k) : x ∈ ents t v := (List.mem_filter.1 h).1
theorem imin_lt (x y : Int) : decide (imin x y < 1) = (decide (x < 1) || decide (y < 1)) := by
  unfold imin
  rw [← Bool.decide_or]
  apply decide_eq_decide.2
  split <;> omega
end Go.Proofs.Ytaapamoglgpocaa
