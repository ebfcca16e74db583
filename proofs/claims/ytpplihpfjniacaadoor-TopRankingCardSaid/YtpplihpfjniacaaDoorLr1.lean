/- Walks: classes: with, said, all. -/
import Derived.Test.YtpplihpfjniacaaDoorLrPlain
import Derived.Test.YtpplihpfjniacaaDoorIMap
namespace Go.Proofs.YtpplihpfjniacaaDoor
open Go.RowKit

/-- The concepts, as a function. -/
def cf (l : List Int) (i : Nat) : Nat := (l.getD i 0).toNat
/-- A class that is valid: rising numbers, each a set of points. -/
def okC (p : Nat) (l : List Int) : Prop := 1 ≤ p ∧ p ≤ 5 ∧ 1 ≤ l.length ∧ l.length ≤ 16 ∧ (∀ s ∈ l, 0 ≤ s ∧ s < 2 ^ p) ∧ l.Pairwise (· < ·)
theorem okC.at {p : Nat} {l : List Int} (h : okC p l) {i : Nat} (hi : i < l.length) : l.getD i 0 = (cf l i : Int) ∧ cf l i < 2 ^ p := by
  obtain ⟨a, b⟩ := h.2.2.2.2.1 _ (getD_mem hi)
  unfold cf
  have : ((2 ^ p : Nat) : Int) = 2 ^ p := by simp
  omega
/-- The school's memory. -/
def School (w1 : World) (Bs bd p : Nat) (ao : Option Addr) (cap : Nat) (l : List Int) (w : World) : Prop :=
  Box w Bs #[.int .i64 (p : Int), .slice ao l.length cap, .map (some bd)] 123 ∧ See w1 (.slice ao l.length cap) l ∧ w1.heap.size ≤ Bs ∧ w1.heap.size ≤ bd ∧ Bs ≠ bd ∧ bd < w.heap.size ∧ Chg [] w1 w
theorem School.keep {w1 w w' : World} {Bs bd p : Nat} {ao : Option Addr} {cap : Nat} {l : List Int} {S : List Nat} (h : School w1 Bs bd p ao cap l w) (hc : Chg S w w') (hs : ∀ x ∈ S, x ≠ Bs ∧ w1.heap.size ≤ x) : School w1 Bs bd p ao cap l w' :=
  ⟨h.1.keep hc (fun e => (hs _ e).1 rfl), h.2.1, h.2.2.1, h.2.2.2.1, h.2.2.2.2.1, Nat.lt_of_lt_of_le h.2.2.2.2.2.1 hc.size, h.2.2.2.2.2.2.trans' hc (fun x hx => .inr (hs x hx).2)⟩
theorem School.keep0 {w1 w w' : World} {Bs bd p : Nat} {ao : Option Addr} {cap : Nat} {l : List Int} (h : School w1 Bs bd p ao cap l w) (hc : Chg [] w w') : School w1 Bs bd p ao cap l w' :=
  h.keep hc (fun x hx => by cases hx)

theorem pt_bit {s x : Nat} (hs : s < 65536) : bits BinOp.and IntKind.i64 ((s : Int) / 2 ^ x) 1 = if s.testBit x = true then 1 else 0 := by
  have h1 : s / 2 ^ x < 2 ^ 63 := Nat.lt_of_le_of_lt (Nat.div_le_self _ _) (by omega)
  have e1 : (s : Int) / 2 ^ x = ((s / 2 ^ x : Nat) : Int) := by rw [Int.natCast_ediv, Int.natCast_pow]; rfl
  have e2 := land_nat (s / 2 ^ x) 1 h1 (by decide)
  rw [e1, show (1 : Int) = ((1 : Nat) : Int) from rfl, e2, Nat.and_one_is_mod, Nat.testBit_eq_decide_div_mod_eq]
  have hk := Nat.mod_lt (s / 2 ^ x) (show 0 < 2 by decide)
  generalize s / 2 ^ x % 2 = k at *
  by_cases h : k = 1
  · subst h; rfl
  · rw [if_neg (by simpa using h)]
    omega
theorem lor_zero (W : Nat) (h : W < 2 ^ 63) : bits BinOp.or IntKind.i64 (W : Int) 0 = (W : Int) := by
  have h2 := lor_nat W 0 h (Nat.two_pow_pos 63)
  rw [Nat.or_zero] at h2
  exact h2
set_option maxRecDepth 100000 in
set_option maxHeartbeats 1000000 in
theorem with_any (w1 : World) (Bs bd p : Nat) (ao : Option Addr) (cap : Nat) (l : List Int) (set x : Nat) (w : World) (hl : okC p l) (hs : set < 65536) (hx : x < p) (hS : School w1 Bs bd p ao cap l w) :
    Calls Tryd.prog 92 #[.pointer (some ⟨Bs, 0, none⟩), .int .i64 (set : Int), .int .i64 (x : Int)] w (Ret (.int .i64 (Lr.withN (cf l) l.length set x : Int)) w) := by
  have HV := hide hS.2.1
  have HC := hide hS.2.2.2.2.2.2
  have HAt := hide fun i (hi : i < l.length) => hl.at hi
  have h16 := hl.2.2.2.1
  have hp5 := hl.2.1
  have c1 := hS.1.cell 1
  have lb := hS.1.lt
  have x0 : (0 : Int) ≤ (x : Int) := by omega
  have x1 : (x : Int) < 64 := by omega
  simp only [List.getElem?_toArray, List.getElem?_cons_zero, List.getElem?_cons_succ] at c1
  have p5 : (2 : Nat) ^ p ≤ 2 ^ 5 := Nat.pow_le_pow_right (by decide) hp5
  have HNe : Hid (l ≠ []) := hide fun e => by have := hl.2.2.1; rw [e] at this; simp at this
  have HW : Hid (∀ i, Lr.wb (cf l) x (i + 1) = if (cf l i).testBit x = true then Lr.wb (cf l) x i ||| 2 ^ i else Lr.wb (cf l) x i) := hide fun i => rfl
  have HWl := hide fun i => Lr.wb_lt (cf l) x i
  have HR : Hid (Lr.withN (cf l) l.length set x = Lr.wb (cf l) x l.length &&& set) := hide rfl
  generalize Lr.withN (cf l) l.length set x = R at HR ⊢
  have HW0 : Hid (Lr.wb (cf l) x 0 = 0) := hide rfl
  generalize Lr.wb (cf l) x = wbx at *
  obtain ⟨m, hm⟩ : ∃ m, m = l.length := ⟨_, rfl⟩
  rw [← hm] at HV HAt h16 c1 HR
  have HM := hide hm
  clear hS hl hm
  go_enter Tryd.func92, Tryd.ntmps92
  go_wp2
  go_loopw [7, 15] (fun ov iv wr => ∃ i : Nat, i ≤ m ∧ iv = .int .i64 (i : Int) ∧ ov = .int .i64 (wbx i : Int) ∧ Hid (Chg [] w wr)) (fun _ iv _ => m - (intOf iv).toNat)
  case atStart => exact ⟨0, Nat.zero_le _, rfl, by rw [HW0.out]; rfl, hide (Chg.refl _ _)⟩
  case round =>
    obtain ⟨i, hi, rfl, rfl, hI⟩ := hrel
    by_cases hlt : i < m
    · have d1 : decide ((i : Int) < (m : Int)) = true := by simp; omega
      have i0 : (0 : Int) ≤ (i : Int) := by omega
      have i1 : (i : Int) < 64 := by omega
      obtain ⟨a, cap', e, hcell⟩ := HV.out.open HNe.out
      obtain ⟨rfl, hx1, rfl⟩ : ao = some a ∧ m = l.length ∧ cap = cap' := by simpa using e
      have fx := hcell wr (HC.out.trans hI.out) i (by rw [← HM.out]; exact hlt)
      obtain ⟨hy1, hy2⟩ := HAt.out i hlt
      rw [hy1] at fx
      have HWi := hide (HW.out i)
      have hwl := HWl.out i
      have hpi : (2 : Nat) ^ i ≤ 2 ^ 15 := Nat.pow_le_pow_right (by decide) (by omega)
      have hci : cf l i < 65536 := by omega
      have HEp := hide (pt_bit (s := cf l i) (x := x) hci)
      clear e hx1 hcell hy1
      generalize cf l i = ci at *
      obtain ⟨W, hW⟩ : ∃ W, W = wbx i := ⟨_, rfl⟩
      rw [← hW] at HWi hwl ⊢
      have eor := lor_nat W (2 ^ i) (by omega) (by omega)
      have ew : wrap64 (2 ^ i) = ((2 ^ i : Nat) : Int) := by
        have e : ((2 : Int) ^ i) = ((2 ^ i : Nat) : Int) := by rw [Int.natCast_pow]; rfl
        rw [e]
        generalize 2 ^ i = q at hpi
        unfold wrap64; omega
      have hx63 : W < 2 ^ 63 := Nat.lt_of_lt_of_le hwl (Nat.le_trans hpi (by decide))
      have eo0 := lor_zero W hx63
      have ep := HEp.out
      have eor2 : bits BinOp.or IntKind.i64 (W : Int) ((2 : Int) ^ i) = ((W ||| 2 ^ i : Nat) : Int) := by
        rw [← eor, Int.natCast_pow]
        rfl
      have HEo := hide eor2
      clear hW eor eor2
      cases htb : ci.testBit x with
      | true =>
        rw [htb, if_pos rfl] at ep
        rw [htb, if_pos rfl] at HWi
        clear htb
        go_wp2
        clear ew ep HEp hpi eo0
        go_roundw
        case rel => exact ⟨i + 1, by omega, by go_num, by rw [HEo.out, HWi.out], hI⟩
        case measure => simp [intOf]; omega
      | false =>
        rw [htb, if_neg (by decide)] at ep
        rw [htb, if_neg (by decide)] at HWi
        clear htb
        go_wp2
        clear ew ep HEp hpi eo0
        go_roundw
        case rel => exact ⟨i + 1, by omega, by go_num, by rw [HWi.out], hI⟩
        case measure => simp [intOf]; omega
    · have d1 : decide ((i : Int) < (m : Int)) = false := by simp; omega
      have him : i = m := by omega
      have ean := land_nat (wbx i) set (by have := HWl.out i; have : (2 : Nat) ^ i ≤ 2 ^ 16 := Nat.pow_le_pow_right (by decide) (by omega); omega) (by omega)
      have HR2 : Hid (R = wbx i &&& set) := hide (by rw [him]; exact HR.out)
      clear him
      generalize wbx i = W at *
      go_wp2
      go_ret
      exact ⟨by rw [HR2.out]; rfl, hI.out⟩

set_option maxRecDepth 100000 in
set_option maxHeartbeats 1000000 in
theorem said1_any (w1 : World) (Bs bd p : Nat) (ao : Option Addr) (cap : Nat) (l : List Int) (set x : Nat) (w : World) (hl : okC p l) (hs : set < 65536) (hx : x < p) (hS : School w1 Bs bd p ao cap l w) :
    Calls Tryd.prog 103 #[.pointer (some ⟨Bs, 0, none⟩), .int .i64 (set : Int), .int .i64 (x : Int), .int .i64 1] w (Ret (.int .i64 (Lr.withN (cf l) l.length set x : Int)) w) := by
  have HWi := hide (with_any w1 Bs bd p ao cap l set x w hl hs hx hS)
  generalize Lr.withN (cf l) l.length set x = R at *
  clear hS hl hs hx
  go_enter Tryd.func103, Tryd.ntmps103
  go_wp2_with fail
  refine HWi.out.mono ?_
  rintro e w2 ⟨rfl, hw⟩
  go_wp2
  go_ret
  exact ⟨rfl, hw⟩
set_option maxRecDepth 100000 in
set_option maxHeartbeats 1000000 in
theorem said0_any (w1 : World) (Bs bd p : Nat) (ao : Option Addr) (cap : Nat) (l : List Int) (set x : Nat) (w : World) (hl : okC p l) (hs : set < 65536) (hx : x < p) (hS : School w1 Bs bd p ao cap l w) :
    Calls Tryd.prog 103 #[.pointer (some ⟨Bs, 0, none⟩), .int .i64 (set : Int), .int .i64 (x : Int), .int .i64 0] w (Ret (.int .i64 (andnN set (Lr.withN (cf l) l.length set x) : Int)) w) := by
  have HWi := hide (with_any w1 Bs bd p ao cap l set x w hl hs hx hS)
  have hle := Lr.with_le (cf l) l.length set x
  have ean := and_not hs (show Lr.withN (cf l) l.length set x < 65536 by omega)
  generalize Lr.withN (cf l) l.length set x = R at *
  clear hS hl hs hx hle
  go_enter Tryd.func103, Tryd.ntmps103
  go_wp2_with fail
  refine HWi.out.mono ?_
  rintro e w2 ⟨rfl, hw⟩
  go_wp2
  go_ret
  exact ⟨by rfl, hw⟩
set_option maxRecDepth 100000 in
set_option maxHeartbeats 1000000 in
theorem allC_any (w1 : World) (Bs bd p : Nat) (ao : Option Addr) (cap : Nat) (l : List Int) (w : World) (hl : okC p l) (hS : School w1 Bs bd p ao cap l w) :
    Calls Tryd.prog 55 #[.pointer (some ⟨Bs, 0, none⟩)] w (Ret (.int .i64 ((2 ^ l.length - 1 : Nat) : Int)) w) := by
  have c1 := hS.1.cell 1
  have lb := hS.1.lt
  simp only [List.getElem?_toArray, List.getElem?_cons_zero, List.getElem?_cons_succ] at c1
  have h16 := hl.2.2.2.1
  clear hS hl
  generalize l.length = m at *
  have hpm : (2 : Nat) ^ m ≤ 2 ^ 16 := Nat.pow_le_pow_right (by decide) h16
  have hpos := Nat.two_pow_pos m
  have m0 : (0 : Int) ≤ (m : Int) := by omega
  have m1 : (m : Int) < 64 := by omega
  have ew : wrap64 (2 ^ m) = ((2 ^ m : Nat) : Int) := by
    have e : ((2 : Int) ^ m) = ((2 ^ m : Nat) : Int) := by rw [Int.natCast_pow]; rfl
    rw [e]
    generalize 2 ^ m = q at hpm
    unfold wrap64; omega
  obtain ⟨P, hP⟩ : ∃ P, P = 2 ^ m := ⟨_, rfl⟩
  rw [← hP] at ew hpm hpos ⊢
  have eP : (P : Int) - 1 = ((P - 1 : Nat) : Int) := by omega
  clear hP
  go_enter Tryd.func55, Tryd.ntmps55
  go_wp2
  go_ret
  exact ⟨by rfl, Chg.refl _ _⟩
end Go.Proofs.YtpplihpfjniacaaDoor
