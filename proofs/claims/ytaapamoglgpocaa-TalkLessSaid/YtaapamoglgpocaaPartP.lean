/- Walk: the iterator rectangles, as a contract for a loop over it. -/
import Derived.Test.YtaapamoglgpocaaBound
import Derived.Test.YtaapamoglgpocaaBy
import Derived.Test.YtaapamoglgpocaaLen3
namespace Go.Proofs.Ytaapamoglgpocaa
open Go.RowKit Go.Shelf
attribute [local go_sem] Oper.semAt_some

/-- What a round keeps: all cells but those of some blocks. -/
def KC (S : List Nat) (a w : World) : Prop := (w.os = a.os ∧ w.tape = a.tape ∧ w.output = a.output ∧ a.heap.size ≤ w.heap.size) ∧ ∀ k o, k ∉ S → a.heap[k]? = some o → o.isCells = true → w.heap[k]? = some o
theorem KC.refl (S : List Nat) (a : World) : KC S a a := ⟨⟨rfl, rfl, rfl, Nat.le_refl _⟩, fun _ _ _ h _ => h⟩
theorem KC.trans {S : List Nat} {a b c : World} (h : KC S a b) (k : KC S b c) : KC S a c :=
  ⟨⟨k.1.1.trans h.1.1, k.1.2.1.trans h.1.2.1, k.1.2.2.1.trans h.1.2.2.1, Nat.le_trans h.1.2.2.2 k.1.2.2.2⟩, fun i _ hi ho hc => k.2 i _ hi (h.2 i _ hi ho hc) hc⟩
theorem KC.ofChg {S : List Nat} {a w : World} (h : Chg S a w) : KC S a w := ⟨⟨h.os, h.tape, h.output, h.size⟩, fun k _ hk ho _ => (h.block k (Array.getElem?_eq_some_iff.1 ho).1 hk).trans ho⟩
theorem KC.put {S : List Nat} (W : World) (l : Nat) (o o' : Obj) (h : W.heap[l]? = some o) (ho : o.isCells = false) : KC S W (W.putObj l o') := by
  have hg := grownBy_putObj' W l o'
  refine ⟨⟨hg.os, hg.tape, hg.output, hg.size⟩, fun k u _ hu hc => ?_⟩
  by_cases hk : k = l
  · subst hk
    rw [h] at hu
    cases hu
    rw [ho] at hc
    cases hc
  · exact (hg.block k (Array.getElem?_eq_some_iff.1 hu).1 (fun e => by cases e; exact hk rfl)).trans hu
theorem KC.box {S : List Nat} {a w : World} (h : KC S a w) {A : Nat} {cs : Array Value} {T : TypeId} (hb : Box a A cs T) (hA : A ∉ S) : Box w A cs T := h.2 A _ hA hb rfl

theorem grown_of_chg {W w1 : World} (h : Chg [] W w1) : W.grownBy w1 none := ⟨h.os, h.tape, h.output, h.size, fun k hk _ => h.block k hk List.not_mem_nil⟩
/-- The rectangles in their order. -/
def rectAt (C k : Nat) : Nat × Nat := (k / C + 1, k % C + 1)
def rectsTo (C k : Nat) : List (Nat × Nat) := (List.range k).map (rectAt C)
theorem rectsTo_succ (C k : Nat) : rectsTo C (k + 1) = rectsTo C k ++ [rectAt C k] := by unfold rectsTo; rw [List.range_succ, List.map_append]; rfl
theorem rectsTo_len (C k : Nat) : (rectsTo C k).length = k := by simp [rectsTo]
theorem rectAt_eq {C i j : Nat} (hj : j < C) : rectAt C (i * C + j) = (i + 1, j + 1) := by
  unfold rectAt
  rw [Nat.mul_comm i C, Nat.mul_add_div (by omega), Nat.div_eq_of_lt hj, Nat.mul_add_mod, Nat.mod_eq_of_lt hj, Nat.add_zero]
abbrev Rct (R C : Nat) := { p : Nat × Nat // (1 ≤ p.1 ∧ p.1 ≤ R) ∧ 1 ≤ p.2 ∧ p.2 ≤ C }
def encR (R C : Nat) (x : Rct R C) : Array Value := #[.agg #[.int .i64 (x.1.1 : Int), .int .i64 (x.1.2 : Int)]]

set_option maxRecDepth 100000 in
set_option maxHeartbeats 2000000 in
theorem rect_gives (tv : Value) (t : List (List Int)) (w : World) (S : List Nat) (hv : See2 w tv t) (ht : T.isTab t = true) (hS : ∀ k ∈ S, k < w.heap.size) (R C : Nat) (hR : R = 2 ^ t.length - 1) (hC : C = 2 ^ T.cols t - 1) :
    GivesB Fence.wide (3 - 1) Try.prog 107 #[tv] (encR R C) (KC S) (fun xs => xs.map Subtype.val = rectsTo C (R * C)) (R * C) w := by
  intro l J W hsz hold hos hAb hY h0
  have hcW : Chg [] w W := ⟨hos.1, hos.2.1, hos.2.2, hsz, fun k hk _ => hold k hk⟩
  have HWh := hide (whole_any tv t W (hv.keep hcW) ht)
  rw [← hR, ← hC] at HWh
  obtain ⟨⟨t1, t2, t3, t4⟩, _⟩ := T.isTab_iff.1 ht
  have hR16 : R < 16 := by rw [hR]; have := pow_le16 t2; omega
  have hC16 : C < 16 := by rw [hC]; have := pow_le16 t4; omega
  obtain ⟨ao, cap, rfl⟩ := hv.shape
  have HSB : Hid (∀ k ∈ S, k < W.heap.size) := hide fun k hk => by have := hS k hk; omega
  clear hsz hold hos hcW hv ht hR hC t1 t2 t3 t4 hS
  generalize t.length = tl at *
  refine callsIn_of_wp Try.func107 rfl trivial ?_ rfl
  simp only [Try.ntmps107, List.size_toArray, List.length_cons, List.length_nil, Nat.reduceAdd, Nat.reduceSub, Array.replicate_succ, Array.replicate_zero, List.push_toArray, List.append_toArray, List.nil_append, List.cons_append]
  gi_wp2_with fail
  refine ⟨trivial, callsIn_wide.2 (HWh.out.mono ?_)⟩
  rintro e w1 ⟨rfl, hw1⟩
  unfold rectV
  have hJ1 : J [] (w1.alloc (.cells #[.int .i64 (R : Int), .int .i64 (C : Int)] 75)) := by
    have hc := hw1.alloc (.cells #[.int .i64 (R : Int), .int .i64 (C : Int)] 75)
    exact hAb [] W _ none h0 (grown_of_chg hc) (fun r h => by cases h)
  have HB1 := hide (Box.new w1 #[.int .i64 (R : Int), .int .i64 (C : Int)] 75)
  have HBn : Hid (w1.heap.size ∉ S) := hide fun hm => by
    have h1 := HSB.out _ hm
    have h2 := hw1.size
    omega
  have HY := hide hY
  clear hw1 hAb h0 hY
  gi_wp2
  generalize w1.heap.size = B at HB1 HBn ⊢
  generalize w1.alloc (.cells #[.int .i64 (R : Int), .int .i64 (C : Int)] 75) = W1 at HB1 hJ1 ⊢
  gi_loopw [5, 6] (fun iv _ wr => ∃ i : Nat, i ≤ R ∧ iv = .int .i64 ((i : Int) + 1) ∧ Hid ((∃ pre : List (Rct R C), pre.map Subtype.val = rectsTo C (i * C) ∧ J pre wr) ∧ Box wr B #[.int .i64 (R : Int), .int .i64 (C : Int)] 75)) (fun iv _ _ => (R + 1 - (intOf iv).toNat))
  case atStart => exact ⟨0, Nat.zero_le _, rfl, hide ⟨⟨[], by simp [rectsTo], hJ1⟩, HB1.out⟩⟩
  case round =>
    obtain ⟨i, hi, rfl, hI⟩ := hrel
    have f0 := hI.out.2.cell 0
    have f1 := hI.out.2.cell 1
    simp only [List.getElem?_toArray, List.getElem?_cons_zero, List.getElem?_cons_succ] at f0 f1
    by_cases hlt : i < R
    · have d1 : decide ((i : Int) + 1 ≤ (R : Int)) = true := by simp; omega
      gi_wp2
      gi_loopw [6] (fun jv wq => ∃ j : Nat, j ≤ C ∧ jv = .int .i64 ((j : Int) + 1) ∧ Hid ((∃ pre : List (Rct R C), pre.map Subtype.val = rectsTo C (i * C + j) ∧ J pre wq) ∧ Box wq B #[.int .i64 (R : Int), .int .i64 (C : Int)] 75)) (fun jv _ => (C + 1 - (intOf jv).toNat))
      case atStart => exact ⟨0, Nat.zero_le _, rfl, hI⟩
      case round =>
        obtain ⟨j, hj, rfl, hK⟩ := hrel
        have g0 := hK.out.2.cell 0
        have g1 := hK.out.2.cell 1
        simp only [List.getElem?_toArray, List.getElem?_cons_zero, List.getElem?_cons_succ] at g0 g1
        by_cases hlj : j < C
        · have d2 : decide ((j : Int) + 1 ≤ (C : Int)) = true := by simp; omega
          obtain ⟨pre, hpre, hJs⟩ := hK.out.1
          have hplen : pre.length < R * C := by
            have := congrArg List.length hpre
            rw [List.length_map, rectsTo_len] at this
            rw [this]
            have h1 : (i + 1) * C ≤ R * C := Nat.mul_le_mul_right C hlt
            rw [Nat.succ_mul] at h1
            omega
          obtain ⟨fn, tmps, assign, body, hy, hRd⟩ := HY.out pre ⟨(i + 1, j + 1), ⟨by omega, by omega⟩, by omega, by omega⟩ wr hJs hplen
          have hgo : (pre ++ [(⟨(i + 1, j + 1), ⟨by omega, by omega⟩, by omega, by omega⟩ : Rct R C)]).map Subtype.val = rectsTo C (i * C + (j + 1)) := by
            rw [List.map_append, hpre, show i * C + (j + 1) = (i * C + j) + 1 by omega, rectsTo_succ, rectAt_eq hlj]
            rfl
          unfold encR at hy
          simp only [Int.natCast_add, Int.natCast_one] at hy
          have HG := hide hgo
          have HBk := hide hK.out.2
          clear hgo hpre hplen hK f0 f1
          gi_wp2
          refine hRd.mono ?_
          rintro e W3 ⟨rfl, hJ3, hk3⟩
          have HB3 := hide (hk3.box HBk.out HBn.out)
          gi_wp2
          go_roundw
          case rel => exact ⟨j + 1, by omega, by go_num, hide ⟨⟨_, HG.out, hJ3⟩, HB3.out⟩⟩
          case measure => simp [intOf]; omega
        · have d2 : decide ((j : Int) + 1 ≤ (C : Int)) = false := by simp; omega
          have hjC : j = C := by omega
          have HK := hide hK.out
          rw [hjC] at HK
          clear hjC hK f0 f1
          gi_wp2
          go_roundw
          case rel =>
            refine ⟨i + 1, by omega, by go_num, hide ⟨?_, HK.out.2⟩⟩
            rw [Nat.succ_mul]
            exact HK.out.1
          case measure => simp [intOf]; omega
    · have d1 : decide ((i : Int) + 1 ≤ (R : Int)) = false := by simp; omega
      obtain rfl : R = i := by omega
      obtain ⟨⟨pre, hpre, hJs⟩, _⟩ := hI.out
      clear hI
      gi_wp2
      go_end0
      exact ⟨⟨_, rfl⟩, pre, hpre, hJs⟩
end Go.Proofs.Ytaapamoglgpocaa

/- Walks: bit, bits. -/
namespace Go.Proofs.Ytaapamoglgpocaa
open Go.RowKit

/-- The bits of the entries of a rectangle, so far. -/
def bitsTo (r c : Nat) : Nat → Nat
  | 0 => 0
  | k + 1 => if T.has r c (k / 4) (k % 4) = true then bitsTo r c k ||| 2 ^ k else bitsTo r c k
def bitsN (r c : Nat) : Nat := bitsTo r c 16
theorem bitsTo_test (r c : Nat) : ∀ k e, (bitsTo r c k).testBit e = (decide (e < k) && T.has r c (e / 4) (e % 4))
  | 0, e => by simp [bitsTo]
  | k + 1, e => by
    have ih := bitsTo_test r c k e
    rw [bitsTo]
    split
    · rename_i h
      rw [Nat.testBit_or, ih, Nat.testBit_two_pow]
      by_cases h1 : k = e
      · subst h1; simp [h]
      · have h2 : decide (e < k + 1) = decide (e < k) := by
          apply decide_eq_decide.2
          omega
        simp [h1, h2]
    · rename_i h
      rw [ih]
      by_cases h1 : e = k
      · subst h1
        have h' : T.has r c (e / 4) (e % 4) = false := by simpa using h
        simp [h']
      · have h2 : decide (e < k + 1) = decide (e < k) := by
          apply decide_eq_decide.2
          omega
        rw [h2]
theorem bitsTo_lt (r c : Nat) : ∀ k, bitsTo r c k < 2 ^ k
  | 0 => by simp [bitsTo]
  | k + 1 => by
    have := bitsTo_lt r c k
    rw [bitsTo]
    have hp : 2 ^ (k + 1) = 2 ^ k + 2 ^ k := by rw [Nat.pow_succ]; omega
    split
    · exact Nat.or_lt_two_pow (by omega) (Nat.pow_lt_pow_right (by decide) (Nat.lt_succ_self k))
    · omega
theorem bitsN_lt (r c : Nat) : bitsN r c < 65536 := bitsTo_lt r c 16

set_option maxRecDepth 100000 in
set_option maxHeartbeats 1000000 in
theorem bitP_any (i j : Nat) (w : World) (hi : i < 4) (hj : j < 4) : Calls Try.prog 108 #[.int .i64 (i : Int), .int .i64 (j : Int)] w (fun e w' => e = .returned (.int .i64 ((2 ^ (i * 4 + j) : Nat) : Int)) ∧ w' = w) := by
  have hk : i * 4 + j < 16 := by omega
  have h1 : IntKind.i64.wrap ((i : Int) * 4) = ((i * 4 : Nat) : Int) := by rw [IntKind.wrap_i64]; omega
  have h2 : IntKind.i64.wrap (((i * 4 : Nat) : Int) + (j : Int)) = ((i * 4 + j : Nat) : Int) := by rw [IntKind.wrap_i64]; omega
  have e1 : (2 : Int) ^ (i * 4 + j) = ((2 ^ (i * 4 + j) : Nat) : Int) := by simp
  have hp : 2 ^ (i * 4 + j) < 65536 := Nat.pow_lt_pow_right (by decide) hk
  have n64 : ((i * 4 + j : Nat) : Int) ≤ 64 := by omega
  generalize hK : i * 4 + j = K at *
  generalize hI4 : i * 4 = I4 at *
  obtain ⟨P, hP⟩ : ∃ P, P = 2 ^ K := ⟨_, rfl⟩
  rw [← hP] at e1 hp ⊢
  clear hP hK hI4
  go_enter Try.func108, Try.ntmps108
  go_wp2
  go_ret
  exact ⟨rfl, rfl⟩

set_option maxRecDepth 100000 in
set_option maxHeartbeats 1000000 in
theorem bits_any (r c : Nat) (w : World) (hr : r < 65536) (hc : c < 65536) : Calls Try.prog 79 #[rectV r c] w (Ret (.int .i64 (bitsN r c : Int)) w) := by
  have HHas := hide fun i j ws (hi : i ≤ 62) (hj : j ≤ 62) => has_any r c i j ws hr hc hi hj
  unfold rectV at *
  clear hr hc
  go_enter Try.func79, Try.ntmps79
  go_wp2
  have BX := hide (Box.new w #[.int .i64 (r : Int), .int .i64 (c : Int)] 75)
  have C0 : Hid (Chg [] w (w.alloc (.cells #[.int .i64 (r : Int), .int .i64 (c : Int)] 75))) := hide ((Chg.refl _ _).alloc _)
  generalize w.alloc (.cells #[.int .i64 (r : Int), .int .i64 (c : Int)] 75) = W0 at BX C0 ⊢
  have BX' : Hid (∃ B, B = w.heap.size) := hide ⟨_, rfl⟩
  obtain ⟨B, hB⟩ := BX'.out
  rw [← hB] at BX ⊢
  clear hB BX'
  go_loopw [3, 6] (fun ov iv wr => ∃ i : Nat, i ≤ 4 ∧ ov = .int .i64 (bitsTo r c (i * 4) : Int) ∧ iv = .int .i64 (i : Int) ∧ Hid (Box wr B #[.int .i64 (r : Int), .int .i64 (c : Int)] 75 ∧ Chg [] w wr)) (fun _ iv _ => (4 - (intOf iv).toNat))
  case atStart => exact ⟨0, by omega, rfl, rfl, hide ⟨BX.out, C0.out⟩⟩
  case round =>
    obtain ⟨i, hi, rfl, rfl, hI⟩ := hrel
    by_cases hlt : i < 4
    · have d1 : decide ((i : Int) < 4) = true := by simp; omega
      go_wp2
      go_loopw [3, 9] (fun ov jv wr => ∃ j : Nat, j ≤ 4 ∧ ov = .int .i64 (bitsTo r c (i * 4 + j) : Int) ∧ jv = .int .i64 (j : Int) ∧ Hid (Box wr B #[.int .i64 (r : Int), .int .i64 (c : Int)] 75 ∧ Chg [] w wr)) (fun _ jv _ => (4 - (intOf jv).toNat))
      case atStart => exact ⟨0, by omega, rfl, rfl, hI⟩
      case round =>
        obtain ⟨j, hj, rfl, rfl, hJ⟩ := hrel
        by_cases hlj : j < 4
        · have d2 : decide ((j : Int) < 4) = true := by simp; omega
          have f0 := hJ.out.1.cell 0
          have f1 := hJ.out.1.cell 1
          simp only [List.getElem?_toArray, List.getElem?_cons_zero, List.getElem?_cons_succ] at f0 f1
          have lB := hJ.out.1.lt
          have HBt := hide (bitP_any i j)
          have HH := hide (HHas.out i j)
          have hb16 : bitsTo r c (i * 4 + j) < 2 ^ 16 := Nat.lt_of_lt_of_le (bitsTo_lt r c _) (Nat.pow_le_pow_right (by decide) (by omega))
          have hp16 : 2 ^ (i * 4 + j) < 2 ^ 16 := Nat.pow_lt_pow_right (by decide) (by omega)
          have ho := or_nat (bitsTo r c (i * 4 + j)) (2 ^ (i * 4 + j)) (by omega) (by omega)
          have hst : bitsTo r c (i * 4 + (j + 1)) = if T.has r c i j = true then bitsTo r c (i * 4 + j) ||| 2 ^ (i * 4 + j) else bitsTo r c (i * 4 + j) := by
            rw [← Nat.add_assoc, bitsTo, show (i * 4 + j) / 4 = i by omega, show (i * 4 + j) % 4 = j by omega]
          have HSt := hide hst
          generalize bitsTo r c (i * 4 + j) = X at *
          generalize 2 ^ (i * 4 + j) = Y at *
          generalize X ||| Y = Z at *
          clear hst hb16 hp16
          go_wp2_with fail
          refine (HH.out _ (by omega) (by omega)).mono ?_
          rintro e w1 ⟨rfl, hw1⟩
          cases hh : T.has r c i j with
          | false =>
            have HZ : Hid (bitsTo r c (i * 4 + (j + 1)) = X) := hide (by rw [HSt.out, hh]; rfl)
            clear HSt hh
            have HI2 := hide (And.intro (hJ.out.1.keep hw1 List.not_mem_nil) (hJ.out.2.trans hw1))
            clear hw1 hJ f0 f1
            go_wp2
            go_roundw
            case rel => exact ⟨j + 1, by omega, by rw [HZ.out], by go_num, HI2⟩
            case measure => simp [intOf]; omega
          | true =>
            have HZ : Hid (bitsTo r c (i * 4 + (j + 1)) = Z) := hide (by rw [HSt.out, hh]; rfl)
            clear HSt hh
            have HI2 := hide (And.intro (hJ.out.1.keep hw1 List.not_mem_nil) (hJ.out.2.trans hw1))
            clear hw1 hJ f0 f1
            go_wp2_with fail
            refine (HBt.out _ hlt hlj).mono ?_
            rintro e w2 ⟨rfl, rfl⟩
            go_wp2
            go_roundw
            case rel => exact ⟨j + 1, by omega, by rw [HZ.out], by go_num, HI2⟩
            case measure => simp [intOf]; omega
        · have d2 : decide ((j : Int) < 4) = false := by simp; omega
          obtain rfl : j = 4 := by omega
          go_wp2
          go_roundw
          case rel => exact ⟨i + 1, by omega, by rw [Nat.succ_mul], by go_num, hJ⟩
          case measure => simp [intOf]; omega
    · have d1 : decide ((i : Int) < 4) = false := by simp; omega
      obtain rfl : i = 4 := by omega
      go_wp2
      go_ret
      exact ⟨rfl, hI.out.2⟩
end Go.Proofs.Ytaapamoglgpocaa

/- Plain: bits of numbers; how few rectangles part some entries. -/
namespace Go.Proofs.Ytaapamoglgpocaa
open Go.RowKit

/-- The bits of one number that another has not. -/
def andnN (a b : Nat) : Nat := a &&& (2 ^ 64 - (b + 1))
theorem andnN_test {a b : Nat} (ha : a < 2 ^ 64) (hb : b < 2 ^ 64) (i : Nat) : (andnN a b).testBit i = (a.testBit i && !b.testBit i) := by
  unfold andnN
  rw [Nat.testBit_and, Nat.testBit_two_pow_sub_succ hb]
  by_cases h : i < 64
  · simp [h]
  · rw [Nat.testBit_lt_two_pow (x := a) (i := i) (Nat.lt_of_lt_of_le ha (Nat.pow_le_pow_right (by decide) (by omega)))]
    rfl
theorem andnN_le (a b : Nat) : andnN a b ≤ a := Nat.and_le_left
/-- The lowest bit. -/
def lowN (a : Nat) : Nat := andnN a (a - 1)

theorem and_neg {a : Nat} (h0 : a ≠ 0) (h : a < 65536) : bits .and .i64 (a : Int) (-(a : Int)) = (lowN a : Int) := by
  have e1 : (BitVec.ofInt 64 (a : Int)).toNat = a := by rw [BitVec.toNat_ofInt]; omega
  have e2 : (BitVec.ofInt 64 (-(a : Int))).toNat = 2 ^ 64 - (a - 1 + 1) := by rw [BitVec.toNat_ofInt]; omega
  have h1 : lowN a ≤ a := andnN_le _ _
  have e3 : (BitVec.ofInt 64 (a : Int) &&& BitVec.ofInt 64 (-(a : Int))).toNat = lowN a := by
    rw [BitVec.toNat_and, e1, e2]; rfl
  show IntKind.i64.wrap ((BitVec.ofInt 64 (a : Int) &&& BitVec.ofInt 64 (-(a : Int))).toNat : Int) = _
  rw [e3, IntKind.wrap_i64]
  omega
theorem and_not {a b : Nat} (ha : a < 65536) (hb : b < 65536) : bits .andNot .i64 (a : Int) (b : Int) = (andnN a b : Int) := by
  have e1 : (BitVec.ofInt 64 (a : Int)).toNat = a := by rw [BitVec.toNat_ofInt]; omega
  have e2 : (~~~ BitVec.ofInt 64 (b : Int)).toNat = 2 ^ 64 - (b + 1) := by rw [BitVec.toNat_not, BitVec.toNat_ofInt]; omega
  have h1 : andnN a b ≤ a := andnN_le _ _
  have e3 : (BitVec.ofInt 64 (a : Int) &&& ~~~ BitVec.ofInt 64 (b : Int)).toNat = andnN a b := by
    rw [BitVec.toNat_and, e1, e2]; rfl
  show IntKind.i64.wrap ((BitVec.ofInt 64 (a : Int) &&& ~~~ BitVec.ofInt 64 (b : Int)).toNat : Int) = _
  rw [e3, IntKind.wrap_i64]
  omega

theorem least_bit (a : Nat) : ∀ k, (∃ i, i < k ∧ a.testBit i = true) → ∃ p, p < k ∧ a.testBit p = true ∧ ∀ q, q < p → a.testBit q = false
  | 0, ⟨i, h, _⟩ => absurd h (Nat.not_lt_zero i)
  | k + 1, ⟨i, h, hi⟩ => by
    by_cases hk : ∃ i, i < k ∧ a.testBit i = true
    · obtain ⟨p, hp, h1, h2⟩ := least_bit a k hk
      exact ⟨p, by omega, h1, h2⟩
    · have hik : i = k := by
        rcases Nat.lt_or_ge i k with h' | h'
        · exact absurd ⟨i, h', hi⟩ hk
        · omega
      subst hik
      refine ⟨i, by omega, hi, fun q hq => ?_⟩
      cases hb : a.testBit q with
      | false => rfl
      | true => exact absurd ⟨q, hq, hb⟩ hk
/-- Which bit it is. -/
theorem lowN_bit {a n : Nat} (h0 : a ≠ 0) (h : a < 2 ^ n) (hn : n ≤ 63) : ∃ p, p < n ∧ a.testBit p = true ∧ (∀ q, q < p → a.testBit q = false) ∧ lowN a = 2 ^ p := by
  obtain ⟨i, hi⟩ := Nat.exists_testBit_of_ne_zero h0
  have hin : i < n := by
    rcases Nat.lt_or_ge i n with h' | h'
    · exact h'
    · rw [Nat.testBit_lt_two_pow (Nat.lt_of_lt_of_le h (Nat.pow_le_pow_right (by decide) h'))] at hi
      cases hi
  obtain ⟨p, hp, h1, h2⟩ := least_bit a n ⟨i, hin, hi⟩
  refine ⟨p, hp, h1, h2, ?_⟩
  have hpow : 0 < 2 ^ p := Nat.two_pow_pos p
  have hm : a % 2 ^ p = 0 := by
    apply Nat.eq_of_testBit_eq
    intro q
    rw [Nat.testBit_mod_two_pow, Nat.zero_testBit]
    by_cases hq : q < p
    · rw [h2 q hq]; simp
    · simp [hq]
  obtain ⟨m, hme⟩ : ∃ m, m = a / 2 ^ p := ⟨_, rfl⟩
  have ha : a = 2 ^ p * m := by
    have := Nat.div_add_mod a (2 ^ p)
    rw [hm, ← hme] at this
    omega
  have hm0 : m.testBit 0 = true := by
    have e : m.testBit 0 = a.testBit p := by rw [hme, Nat.testBit_div_two_pow]; simp
    rw [e]; exact h1
  have hodd : m % 2 = 1 := by simpa [Nat.testBit_zero] using hm0
  have ha1 : a - 1 = 2 ^ p * (m - 1) + (2 ^ p - 1) := by
    obtain ⟨m', rfl⟩ : ∃ m', m = m' + 1 := ⟨m - 1, by omega⟩
    rw [ha, Nat.mul_succ]
    simp only [Nat.add_sub_cancel]
    omega
  have h64 : a < 2 ^ 64 := Nat.lt_of_lt_of_le h (Nat.pow_le_pow_right (by decide) (by omega))
  apply Nat.eq_of_testBit_eq
  intro q
  unfold lowN
  rw [andnN_test h64 (by omega), Nat.testBit_two_pow, ha1, Nat.testBit_two_pow_mul_add _ (by omega)]
  by_cases hq : q < p
  · rw [h2 q hq]
    have : ¬ p = q := by omega
    simp [this]
  · rw [if_neg hq]
    have e : a.testBit q = m.testBit (q - p) := by rw [hme, Nat.testBit_div_two_pow]; congr 1; omega
    rw [e]
    by_cases hqp : q = p
    · subst hqp
      rw [Nat.sub_self, hm0]
      have : (m - 1).testBit 0 = false := by
        rw [Nat.testBit_zero]
        have : (m - 1) % 2 = 0 := by omega
        simp [this]
      simp [this]
    · obtain ⟨d, hd⟩ : ∃ d, q - p = d + 1 := ⟨q - p - 1, by omega⟩
      rw [hd, Nat.testBit_succ, Nat.testBit_succ, show (m - 1) / 2 = m / 2 by omega]
      have : ¬ p = q := by omega
      simp [this]

/-- May a rectangle be the one that has the first of the entries that are left? -/
def okL (t : List (List Int)) (left : Nat) (p : Nat × Nat) : Bool := !decide (bitsN p.1 p.2 &&& lowN left = 0) && decide (andnN (bitsN p.1 p.2) left = 0) && T.clear t p.1 p.2
def stepL (t : List (List Int)) (rec : Nat → Nat) (left b : Nat) (p : Nat × Nat) : Nat := if okL t left p = true then min b (1 + rec (andnN left (bitsN p.1 p.2))) else b
def allRects (t : List (List Int)) : List (Nat × Nat) := rectsTo (2 ^ T.cols t - 1) ((2 ^ t.length - 1) * (2 ^ T.cols t - 1))
def leastF (t : List (List Int)) : Nat → Nat → Nat
  | 0, _ => 16
  | f + 1, left => if left = 0 then 0 else (allRects t).foldl (stepL t (leastF t f) left) 16
def leastN (t : List (List Int)) (left : Nat) : Nat := leastF t (left + 1) left

theorem okL_less {t : List (List Int)} {left : Nat} {p : Nat × Nat} (h0 : left ≠ 0) (h16 : left < 65536) (h : okL t left p = true) : andnN left (bitsN p.1 p.2) < left := by
  unfold okL at h
  simp only [Bool.and_eq_true, Bool.not_eq_true', decide_eq_false_iff_not, decide_eq_true_eq] at h
  obtain ⟨⟨h1, h2⟩, -⟩ := h
  obtain ⟨e, he, hb, -, hl⟩ := lowN_bit (n := 16) h0 h16 (by decide)
  have hbt : (bitsN p.1 p.2).testBit e = true := by
    cases hx : (bitsN p.1 p.2).testBit e with
    | true => rfl
    | false =>
      refine absurd ?_ h1
      rw [hl]
      apply Nat.eq_of_testBit_eq
      intro i
      rw [Nat.testBit_and, Nat.testBit_two_pow, Nat.zero_testBit]
      by_cases hi : e = i
      · subst hi; simp [hx]
      · simp [hi]
  have hle := andnN_le left (bitsN p.1 p.2)
  have hne : andnN left (bitsN p.1 p.2) ≠ left := fun e' => by
    have := andnN_test (a := left) (b := bitsN p.1 p.2) (by omega) (by have := bitsN_lt p.1 p.2; omega) e
    rw [e', hb, hbt] at this
    cases this
  omega
theorem stepL_le (t : List (List Int)) (rec : Nat → Nat) (left : Nat) : ∀ (l : List (Nat × Nat)) (b : Nat), l.foldl (stepL t rec left) b ≤ b
  | [], b => Nat.le_refl b
  | p :: l, b => by
    rw [List.foldl_cons]
    refine Nat.le_trans (stepL_le t rec left l _) ?_
    unfold stepL
    split <;> omega
theorem leastF_le (t : List (List Int)) (f left : Nat) : leastF t f left ≤ 16 := by
  cases f with
  | zero => exact Nat.le_refl 16
  | succ f =>
    rw [leastF]
    split
    · omega
    · exact stepL_le t _ _ _ _
theorem leastN_le (t : List (List Int)) (left : Nat) : leastN t left ≤ 16 := leastF_le t _ _
theorem leastF_fuel (t : List (List Int)) : ∀ (f g left : Nat), left < 65536 → left < f → left < g → leastF t f left = leastF t g left
  | 0, _, _, _, h, _ => absurd h (Nat.not_lt_zero _)
  | _ + 1, 0, _, _, _, h => absurd h (Nat.not_lt_zero _)
  | f + 1, g + 1, left, h16, hf, hg => by
    rw [leastF, leastF]
    split
    · rfl
    · rename_i h0
      have e : stepL t (leastF t f) left = stepL t (leastF t g) left := by
        funext b p
        unfold stepL
        split
        · rename_i h
          have := okL_less h0 h16 h
          rw [leastF_fuel t f g _ (by omega) (by omega) (by omega)]
        · rfl
      rw [e]
theorem leastN_eq {t : List (List Int)} {left : Nat} (h16 : left < 65536) : leastN t left = if left = 0 then 0 else (allRects t).foldl (stepL t (leastN t) left) 16 := by
  unfold leastN
  rw [leastF]
  split
  · rfl
  · rename_i h0
    congr 1
    funext b p
    unfold stepL
    split
    · rename_i h
      have := okL_less h0 h16 h
      rw [leastF_fuel t left (andnN left (bitsN p.1 p.2) + 1) _ (by omega) this (Nat.lt_succ_self _)]
    · rfl
end Go.Proofs.Ytaapamoglgpocaa

/- Maps by numbers: what they hold, as functions. -/
namespace Go.Proofs.Ytaapamoglgpocaa
open Go.RowKit Go.Maps Go.WideMaps

theorem keyedI : Maps.Keyed Try.prog 3 := Maps.int_keyed Try.underlying3
theorem key_int {x : Nat} (hx : x < 65536) : ∃ k, keyOf Try.prog 3 (.int .i64 (x : Int)) = some k := ⟨_, Maps.keyOf_int_mk Try.underlying3 (wfN hx)⟩
theorem intV_inj {x y : Nat} (h : (Value.int .i64 (x : Int)) = .int .i64 (y : Int)) : x = y := by
  simp at h
  omega
/-- The map reads as this function of numbers. -/
def MapI (D : DataW Unit) (f : Nat → Option Nat) : Prop :=
  Tidy D ∧ (∀ k, Maps.has D k = true → ∃ x : Nat, x < 65536 ∧ keyOf Try.prog 3 (.int .i64 (x : Int)) = some k) ∧
    ∀ (x : Nat) k, x < 65536 → keyOf Try.prog 3 (.int .i64 (x : Int)) = some k → Maps.has D k = (f x).isSome ∧ ∀ v, f x = some v → ∀ z, D.atKey k z = natD v
def updI (f : Nat → Option Nat) (x v : Nat) (y : Nat) : Option Nat := if y = x then some v else f y
theorem MapI.nil : MapI (.map []) (fun _ => none) := ⟨tidy_empty, fun k h => absurd h (by simp [Maps.has]), fun _ _ _ _ => ⟨rfl, fun _ h => by cases h⟩⟩
theorem MapI.put {D : DataW Unit} {f : Nat → Option Nat} (h : MapI D f) {x : Nat} {k : Lit} (hx : x < 65536) (hk : keyOf Try.prog 3 (.int .i64 (x : Int)) = some k) (v : Nat) : MapI (D.put k (natD v)) (updI f x v) := by
  have hkl := keyedI.key hk
  refine ⟨h.1.put hkl _, fun k' hk' => ?_, fun y k' hy hk' => ?_⟩
  · by_cases e : k' = k
    · rw [e]; exact ⟨x, hx, hk⟩
    · rw [has_put_other e] at hk'
      exact h.2.1 k' hk'
  · by_cases e : y = x
    · subst e
      rw [hk] at hk'
      cases hk'
      rw [show updI f y v y = some v by unfold updI; rw [if_pos rfl]]
      exact ⟨has_put_same h.1.isMap hkl _, fun v' hv' z => by cases hv'; exact atKey_put_same h.1.isMap hkl _ _⟩
    · rw [show updI f x v y = f y by unfold updI; rw [if_neg e]]
      have hne : k' ≠ k := fun e' => by
        rw [e'] at hk'
        exact e (intV_inj (keyedI.inj hk' hk))
      rw [has_put_other hne]
      obtain ⟨h1, h2⟩ := h.2.2 y k' hy hk'
      exact ⟨h1, fun v' hv' z => by rw [atKey_put_other hne]; exact h2 v' hv' z⟩
theorem MapI.size {D : DataW Unit} {f : Nat → Option Nat} (h : MapI D f) (he : ∃ es, D = .map es ∧ es.Pairwise (fun p q => p.1 ≠ q.1) ∧ ∀ p ∈ es, WideAt.IsKeyLit p.1) : Maps.size D ≤ 65536 := by
  obtain ⟨es, rfl, hp, hkl⟩ := he
  haveI : DecidableEq Lit := Classical.typeDecidableEq Lit
  have hl := len_le_of_mem (es.map (·.1)) ((List.range 65536).map fun (i : Nat) => (keyOf Try.prog 3 (.int .i64 (i : Int))).getD (.bool false)) (nodup_of_pairs hp) (fun k hm => by
    obtain ⟨p, hp1, rfl⟩ := List.mem_map.1 hm
    have hh : Maps.has (.map es) p.1 = true := by
      rw [has_eq, List.any_eq_true]
      refine ⟨p, hp1, ?_⟩
      have hk2 := hkl p hp1
      cases hp2 : p.1 <;> rw [hp2] at hk2 <;> first | (simp [Lit.sameKey]; done) | (exact absurd hk2 (by simp [WideAt.IsKeyLit]))
    obtain ⟨x, hx, hk⟩ := h.2.1 _ hh
    exact List.mem_map.2 ⟨x, List.mem_range.2 hx, by rw [hk]; rfl⟩)
  rw [List.length_map, List.length_map, List.length_range] at hl
  exact hl
theorem ownI_small {w : World} {R : Value → Option (DataW Unit × List MemPlace)} {b n : Nat} {D : DataW Unit} {f : Nat → Option Nat} (h : w.ownsMap Try.prog 3 R b n D) (hf : MapI D f) : w.ownsMap Try.prog 3 R b 65536 D := by
  have hs := hf.size (h.entries keyedI)
  obtain ⟨es, clock, hb, F, hn, rfl⟩ := h
  refine ⟨es, clock, hb, F, ?_, rfl⟩
  have : Maps.size (DataW.map ((es.toList.map (Go.WideElems.rg Try.prog 3 R)).foldr DataW.insert [])) = es.size := by simp [Maps.size, length_sorted]
  omega
/-- The map of what is known. -/
def KnownI (w : World) (b : Nat) (f : Nat → Option Nat) : Prop := ∃ D, w.ownsMap Try.prog 3 intR b 65536 D ∧ MapI D f
theorem KnownI.keep {w w' : World} {b : Nat} {f : Nat → Option Nat} {S : List Nat} (h : KnownI w b f) (hc : Chg S w w') (hs : b ∉ S) : KnownI w' b f := by
  obtain ⟨D, h, hf⟩ := h
  have hlt := h.lt
  obtain ⟨es, clock, hb, F, hn, e⟩ := h
  exact ⟨D, ⟨es, clock, (hc.block b hlt hs).trans hb, F, hn, e⟩, hf⟩
theorem KnownI.lt {w : World} {b : Nat} {f : Nat → Option Nat} (h : KnownI w b f) : b < w.heap.size := by obtain ⟨D, h, _⟩ := h; exact h.lt
theorem KnownI.look {w : World} {b : Nat} {f : Nat → Option Nat} (h : KnownI w b f) {x : Nat} (hx : x < 65536) :
    (Instr.lookup 100 (.map (some b)) (.int .i64 (x : Int)) true).run Try.prog w = .ok (.tuple #[.int .i64 (((f x).getD 0 : Nat) : Int), .bool (f x).isSome]) w := by
  obtain ⟨D, h, hf⟩ := h
  obtain ⟨k, hk⟩ := key_int hx
  obtain ⟨v, ps, hrun, hv⟩ := h.look_ok keyedI Try.underlying100 (zeroInt w) (intR_mk 0) hk
  obtain ⟨h1, h2⟩ := hf.2.2 x k hx hk
  rw [h1] at hrun
  rw [hrun]
  have hv' : v = .int .i64 (((f x).getD 0 : Nat) : Int) := by
    cases hfr : f x with
    | none =>
      rw [hfr] at h1
      rw [atKey_of_not_has h1] at hv
      exact intR_inv hv
    | some n =>
      rw [h2 n hfr] at hv
      exact intR_inv hv
  rw [hv']
theorem KnownI.store {w : World} {b : Nat} {f : Nat → Option Nat} (h : KnownI w b f) {x : Nat} (hx : x < 65536) (n : Nat) :
    ∃ w', (Instr.mapUpdate 100 (.map (some b)) (.int .i64 (x : Int)) (.int .i64 (n : Int))).run Try.prog w = .ok () w' ∧ KnownI w' b (updI f x n) ∧ Chg [b] w w' := by
  obtain ⟨D, h, hf⟩ := h
  obtain ⟨k, hk⟩ := key_int hx
  obtain ⟨w', hrun, h1, h2⟩ := h.update keyedI Try.underlying100 (by unfold maxLen; omega) hk (intR_mk n)
  have hf' := hf.put hx hk n
  exact ⟨w', hrun, ⟨_, ownI_small h1 hf', hf'⟩, chg_of_grown h2⟩
theorem KnownI.new (w : World) : KnownI (w.alloc (.map #[] 0)) w.heap.size (fun _ => none) := ⟨_, (World.ownsMap_made w _ _ _).mono (Nat.zero_le _), MapI.nil⟩
end Go.Proofs.Ytaapamoglgpocaa
