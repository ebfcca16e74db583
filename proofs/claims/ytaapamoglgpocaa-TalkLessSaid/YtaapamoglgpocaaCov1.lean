/- Plain: what a cover is; walk: Covers, the reference's. -/
import Derived.Test.YtaapamoglgpocaaDel2
import Derived.Test.YtaapamoglgpocaaPartEq
namespace Go.Proofs.Ytaapamoglgpocaa
open Go.RowKit

def hasP (x e : Pr) : Bool := T.has x.1.toNat x.2.toNat e.1.toNat e.2.toNat
/-- Are some pairs a cover? -/
def covB (t : List (List Int)) (v : Int) (l : List Pr) : Bool := l.all (fun x => rectI t v x.1 x.2) && (ents t v).all fun e => l.any fun x => hasP x e
theorem rectI_iff {t : List (List Int)} {v x y : Int} : rectI t v x y = true ↔ (1 ≤ x ∧ x < ((2 ^ t.length : Nat) : Int) ∧ 1 ≤ y ∧ y < ((2 ^ T.cols t : Nat) : Int)) ∧ rectOk t v x.toNat y.toNat = true := by
  unfold rectI
  rw [Bool.and_eq_true, decide_eq_true_eq]
theorem ents_bit {t : List (List Int)} (ht : T.isTab t = true) {v : Int} {e : Nat} : (entN t v).testBit e = true ↔ ((((e / 4 : Nat) : Int), ((e % 4 : Nat) : Int)) : Pr) ∈ ents t v := by
  obtain ⟨⟨t1, t2, t3, t4⟩, _⟩ := T.isTab_iff.1 ht
  rw [entN_test e t2, Bool.and_eq_true, Bool.and_eq_true, decide_eq_true_eq, decide_eq_true_eq, decide_eq_true_eq, ents_mem]
  constructor
  · rintro ⟨⟨h1, h2⟩, h3⟩
    exact ⟨_, _, h1, h2, h3, rfl⟩
  · rintro ⟨i, q, h1, h2, h3, h4⟩
    have e1 := congrArg Prod.fst h4
    have e2 := congrArg Prod.snd h4
    simp only [Int.natCast_inj] at e1 e2
    rw [e1, e2]
    exact ⟨⟨h1, h2⟩, h3⟩
theorem ents_form {t : List (List Int)} (ht : T.isTab t = true) {v : Int} {x : Pr} (h : x ∈ ents t v) : ∃ i j : Nat, i < 4 ∧ j < 4 ∧ x = ((i : Int), (j : Int)) ∧ (entN t v).testBit (4 * i + j) = true := by
  obtain ⟨⟨t1, t2, t3, t4⟩, _⟩ := T.isTab_iff.1 ht
  obtain ⟨i, q, h1, h2, h3, rfl⟩ := ents_mem.1 h
  refine ⟨i, q, by omega, by omega, rfl, ?_⟩
  rw [entN_test _ t2, show (4 * i + q) / 4 = i by omega, show (4 * i + q) % 4 = q by omega]
  simp [h1, h2, h3]
theorem bits_has {r c i j : Nat} (hi : i < 4) (hj : j < 4) : (bitsN r c).testBit (4 * i + j) = T.has r c i j := by
  rw [bitsN_test, show (4 * i + j) / 4 = i by omega, show (4 * i + j) % 4 = j by omega]
  have : 4 * i + j < 16 := by omega
  simp [this]
/-- All entries of some rectangles. -/
def metN (l : List Pr) : Nat := l.foldl (fun m x => m ||| bitsN x.1.toNat x.2.toNat) 0
theorem metN_snoc (l : List Pr) (x : Pr) : metN (l ++ [x]) = metN l ||| bitsN x.1.toNat x.2.toNat := by unfold metN; rw [List.foldl_append]; rfl
theorem foldl_or_lt : ∀ (l : List Pr) (m : Nat), m < 65536 → l.foldl (fun m x => m ||| bitsN x.1.toNat x.2.toNat) m < 65536
  | [], _, h => h
  | _ :: l, _, h => foldl_or_lt l _ (Nat.or_lt_two_pow (n := 16) h (bitsN_lt _ _))
theorem metN_lt (l : List Pr) : metN l < 65536 := foldl_or_lt l 0 (by decide)
theorem foldl_or_test (e : Nat) : ∀ (l : List Pr) (m : Nat), (l.foldl (fun m x => m ||| bitsN x.1.toNat x.2.toNat) m).testBit e = (m.testBit e || l.any fun x => (bitsN x.1.toNat x.2.toNat).testBit e)
  | [], m => by simp
  | x :: l, m => by
    rw [List.foldl_cons, foldl_or_test e l, Nat.testBit_or, List.any_cons, Bool.or_assoc]
theorem metN_test (l : List Pr) (e : Nat) : (metN l).testBit e = l.any fun x => (bitsN x.1.toNat x.2.toNat).testBit e := by
  unfold metN
  rw [foldl_or_test, Nat.zero_testBit, Bool.false_or]
theorem met_all {t : List (List Int)} (ht : T.isTab t = true) {v : Int} (l : List Pr) : decide (andnN (entN t v) (metN l) = 0) = (ents t v).all fun e => l.any fun x => hasP x e := by
  rw [Bool.eq_iff_iff, decide_eq_true_eq, andn_zero (entN_lt _ _) (metN_lt _), List.all_eq_true]
  constructor
  · intro h x hx
    obtain ⟨i, j, hi, hj, rfl, hb⟩ := ents_form ht hx
    have := h _ hb
    rw [metN_test] at this
    rw [List.any_eq_true] at this ⊢
    obtain ⟨y, hy, hyb⟩ := this
    rw [bits_has hi hj] at hyb
    exact ⟨y, hy, hyb⟩
  · intro h e he
    have hx := (ents_bit ht).1 he
    have := h _ hx
    rw [List.any_eq_true] at this
    obtain ⟨y, hy, hyb⟩ := this
    rw [metN_test, List.any_eq_true]
    refine ⟨y, hy, ?_⟩
    have he16 := bits_low (entN_lt _ _) he
    rw [show e = 4 * (e / 4) + e % 4 by omega, bits_has (by omega) (by omega)]
    exact hyb
theorem covB_met {t : List (List Int)} (ht : T.isTab t = true) {v : Int} {l : List Pr} : covB t v l = (l.all (fun x => rectI t v x.1 x.2) && decide (andnN (entN t v) (metN l) = 0)) := by
  unfold covB
  rw [met_all ht]
theorem takeP_snoc {l : List Pr} {k : Nat} (h : k < l.length) : l.take (k + 1) = l.take k ++ [l.getD k pr0] := by
  rw [List.take_add_one, List.getElem?_eq_getElem h, List.getD_eq_getElem?_getD, List.getElem?_eq_getElem h]
  rfl

set_option maxRecDepth 100000 in
set_option maxHeartbeats 2000000 in
theorem RCovers_any (vt lv : Value) (t : List (List Int)) (v : Int) (l : List Pr) (w : World) (hv : See2 w vt t) (hl : SeeP w lv l) (ht : T.isTab t = true) (hll : l.length ≤ 1000000) :
    Calls Try.prog 51 #[vt, .int .i64 v, lv] w (Ret (.bool (covB t v l)) w) := by
  have HRe := hide fun x y ws (hw : Chg [] w ws) => Rectangle_any vt t v x y ws (hv.keep hw) ht
  have HEn := hide fun ws (hw : Chg [] w ws) => Entries_any vt t v ws (hv.keep hw) ht
  have HSm := hide (fun x y => @rect_small t ht v x y)
  have hE := entN_lt t v
  have HCv := hide (covB_met ht (v := v) (l := l))
  obtain ⟨ao, cap, rfl⟩ := hv.shape
  obtain ⟨bo, bc, rfl, _⟩ := hl.shape
  have HL := hide hl
  have HMs := hide (fun k => @takeP_snoc l k)
  have HT1 : Hid (∀ x y, rectI t v x y = true → (1 ≤ x ∧ x < ((2 ^ t.length : Nat) : Int) ∧ 1 ≤ y ∧ y < ((2 ^ T.cols t : Nat) : Int))) := hide fun x y h => (rectI_iff.1 h).1
  generalize covB t v l = res at *
  generalize entN t v = E at *
  generalize hn : l.length = n at *
  have HN := hide hn
  clear hv hl ht hn
  generalize t.length = tl at *
  go_enter Try.func51, Try.ntmps51
  go_wp2
  go_loopw [7, 12] (fun mv iv wr => ∃ k : Nat, k ≤ n ∧ mv = .int .i64 (metN (l.take k) : Int) ∧ iv = .int .i64 (k : Int) ∧ Hid ((∀ x ∈ l.take k, rectI t v x.1 x.2 = true) ∧ Chg [] w wr)) (fun _ iv _ => (n - (intOf iv).toNat))
  case atStart => exact ⟨0, by omega, rfl, rfl, hide ⟨fun x hx => by simp at hx, Chg.refl _ _⟩⟩
  case round =>
    obtain ⟨k, hk, rfl, rfl, hI⟩ := hrel
    by_cases hlt : k < n
    · have d1 : decide ((k : Int) < (n : Int)) = true := by simpa using hlt
      have hlk : k < l.length := by rw [HN.out]; exact hlt
      have nx : l ≠ [] := fun h => by rw [h] at hlk; exact absurd hlk (Nat.not_lt_zero _)
      obtain ⟨a, cap', e, _, hc⟩ := HL.out.open nx
      obtain ⟨rfl, hn1, rfl⟩ : bo = some a ∧ n = l.length ∧ bc = cap' := by simpa using e
      obtain ⟨fx, fy⟩ := hc wr hI.out.2 k hlk
      have HTk := hide (HMs.out k hlt)
      obtain ⟨x, hx⟩ : ∃ x, x = l.getD k pr0 := ⟨_, rfl⟩
      rw [← hx] at fx fy HTk
      have HX := hide hx
      have j0 : (0 : Int) ≤ (k : Int) := by omega
      have j1 : (k : Int) < (n : Int) := by omega
      have hm16 := metN_lt (l.take k)
      have HR := hide (HRe.out x.1 x.2)
      have HCk := hide hI.out.2
      have HAk := hide hI.out.1
      clear nx hc e hn1 hx hlk hI
      have HMk := hide (metN_snoc (l.take k) x)
      rw [← HTk.out] at HMk
      have HBx := hide (Box.new wr (prCells x) 60)
      unfold prCells at HBx
      generalize metN (l.take k) = mk at *
      go_wp2_with fail
      have HCA := hide (HCk.out.alloc (.cells #[.int .i64 x.1, .int .i64 x.2] 60))
      generalize wr.alloc (.cells #[.int .i64 x.1, .int .i64 x.2] 60) = w2 at HBx HCA ⊢
      generalize wr.heap.size = B at HBx ⊢
      refine (HR.out _ HCA.out).mono ?_
      rintro e w3 ⟨rfl, hw3⟩
      have HB3 := hide (HBx.out.keep hw3 List.not_mem_nil)
      have HC3 := hide (HCA.out.trans hw3)
      clear hw3 HBx HCA fx fy HCk
      cases hr : rectI t v x.1 x.2 with
      | false =>
        have E0 : Hid (res = false) := hide (by
          rw [HCv.out]
          have : l.all (fun x => rectI t v x.1 x.2) = false := by
            rw [Bool.eq_false_iff]
            intro h
            have := List.all_eq_true.1 h x (by rw [HX.out]; exact getDP_mem (by rw [HN.out]; exact hlt))
            rw [hr] at this
            cases this
          rw [this]; rfl)
        clear hr
        go_wp2
        go_ret
        exact ⟨by rw [E0.out]; rfl, HC3.out⟩
      | true =>
        obtain ⟨r, c, ex, ey, h1, h2, _⟩ := HSm.out x.1 x.2 (HT1.out _ _ hr)
        have HCe := hide fun ws => cells_any r c ws h1 h2
        have hb := bitsN_lt r c
        have HBe : Hid (bitsN x.1.toNat x.2.toNat = bitsN r c) := hide (by rw [ex, ey]; rfl)
        rw [HBe.out] at HMk
        have HRk := hide hr
        rw [← ex, ← ey] at HCe
        generalize bitsN r c = b at *
        have ho := or_nat mk b (by omega) (by omega)
        generalize hz : mk ||| b = z at *
        have b0 := HB3.out.cell 0
        have b1 := HB3.out.cell 1
        simp only [List.getElem?_toArray, List.getElem?_cons_zero, List.getElem?_cons_succ] at b0 b1
        have lB := HB3.out.lt
        clear hr ex ey h1 h2 hz
        go_wp2_with fail
        refine (HCe.out _).mono ?_
        rintro e w4 ⟨rfl, rfl⟩
        go_wp2
        go_roundw
        case rel => exact ⟨k + 1, by omega, by rw [HMk.out], by go_num, hide ⟨fun y hy => by
          rw [HTk.out] at hy
          rcases List.mem_append.1 hy with h | h
          · exact HAk.out y h
          · rw [List.mem_singleton.1 h]; exact HRk.out, HC3.out⟩⟩
        case measure => simp [intOf]; omega
    · have d1 : decide ((k : Int) < (n : Int)) = false := by simpa using hlt
      obtain rfl : k = n := by omega
      have hm16 := metN_lt (l.take k)
      have HM : Hid (l.take k = l) := hide (by rw [← HN.out, List.take_length])
      rw [HM.out] at hI hm16 ⊢
      have han := and_not hE hm16
      have hz : (((andnN E (metN l) : Nat) : Int) == 0) = decide (andnN E (metN l) = 0) := by
        by_cases h : andnN E (metN l) = 0
        · rw [h]; rfl
        · rw [decide_eq_false h]; simpa using h
      have E0 : Hid (res = decide (andnN E (metN l) = 0)) := hide (by
        rw [HCv.out, List.all_eq_true.2 hI.out.1, Bool.true_and])
      have HC := hide hI.out.2
      clear hI
      generalize metN l = m at *
      generalize andnN E m = z at *
      generalize decide (z = 0) = zb at *
      go_wp2_with fail
      refine (HEn.out _ HC.out).mono ?_
      rintro e w3 ⟨rfl, rfl⟩
      go_wp2
      go_ret
      exact ⟨by rw [E0.out]; rfl, HC.out⟩
end Go.Proofs.Ytaapamoglgpocaa
