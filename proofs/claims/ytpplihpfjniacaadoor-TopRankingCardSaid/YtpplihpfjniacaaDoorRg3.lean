/- Walks: orders: below, element, slice. -/
import Derived.Test.YtpplihpfjniacaaDoorPrs
import Derived.Test.YtpplihpfjniacaaDoorLr1
namespace Go.Proofs.YtpplihpfjniacaaDoor
open Go.RowKit Go.Shelf
attribute [local go_sem] Oper.semAt_some

/-- An order of n elements; A is what is above each one. -/
def ordC (n : Nat) (A : Nat → Nat) : Array Value := #[.int .i64 (n : Int), .int .i64 (A 0 : Int), .int .i64 (A 1 : Int), .int .i64 (A 2 : Int), .int .i64 (A 3 : Int), .int .i64 (A 4 : Int), .int .i64 (A 5 : Int)]
def ordV (n : Nat) (A : Nat → Nat) : Value := .agg (ordC n A)
theorem infoOrd : (Tryd.prog.info? 72).map (fun i => (i.zero, i.size, i.bytes)) = some (some (ordV 0 (fun _ => 0)), 7, 56) := by kernel_rfl
theorem ordC_at {n j : Nat} {A : Nat → Nat} (hj : j < 6) : (ordC n A)[1 + j]? = some (.int .i64 (A j : Int)) := by
  match j, hj with
  | 0, _ => rfl
  | 1, _ => rfl
  | 2, _ => rfl
  | 3, _ => rfl
  | 4, _ => rfl
  | 5, _ => rfl
theorem ord_at {w : World} {B n j : Nat} {A : Nat → Nat} (h : Box w B (ordC n A) 72) (hj : j < 6) : w.cell? ⟨B, 1 + j, none⟩ = some (.int .i64 (A j : Int)) := by rw [h.cell]; exact ordC_at hj
theorem ord_n {w : World} {B n : Nat} {A : Nat → Nat} (h : Box w B (ordC n A) 72) : w.cell? ⟨B, 0, none⟩ = some (.int .i64 (n : Int)) := by rw [h.cell]; rfl
set_option maxRecDepth 100000 in
set_option maxHeartbeats 1000000 in
theorem below_any (n : Nat) (A : Nat → Nat) (x : Nat) (w : World) (hn : n ≤ 6) (hx : x < 6) (hA : ∀ j, A j < 64) :
    Calls Tryd.prog 75 #[ordV n A, .int .i64 (x : Int)] w (Ret (.int .i64 (Lr.wb A x n : Int)) w) := by
  have b1 := Box.new w (ordC n A) 72
  have hc := (Chg.refl [] w).alloc (.cells (ordC n A) 72)
  have HB := hide b1
  have HC := hide hc
  have HA := hide hA
  have HWl := hide fun i => Lr.wb_lt A x i
  have HW : Hid (∀ i, Lr.wb A x (i + 1) = if (A i).testBit x = true then Lr.wb A x i ||| 2 ^ i else Lr.wb A x i) := hide fun i => rfl
  have HW0 : Hid (Lr.wb A x 0 = 0) := hide rfl
  generalize Lr.wb A x = wbx at *
  have x0 : (0 : Int) ≤ (x : Int) := by omega
  have x1 : (x : Int) < 64 := by omega
  have cn := ord_n b1
  have lb := b1.lt
  unfold ordV
  have HX := hide hx
  clear b1 hc hA hx
  generalize hW0 : w.alloc (.cells (ordC n A) 72) = W0 at *
  have hW1 : w.alloc (.cells #[.int .i64 (n : Int), .int .i64 (A 0 : Int), .int .i64 (A 1 : Int), .int .i64 (A 2 : Int), .int .i64 (A 3 : Int), .int .i64 (A 4 : Int), .int .i64 (A 5 : Int)] 72) = W0 := hW0
  unfold ordC
  clear hW0
  go_enter Tryd.func75, Tryd.ntmps75
  go_wp2
  obtain ⟨B, hBe⟩ : ∃ B, B = w.heap.size := ⟨_, rfl⟩
  rw [← hBe] at HB ⊢
  have HIn : Hid (Box W0 B (ordC n A) 72 ∧ Chg [] w W0) := hide ⟨HB.out, HC.out⟩
  clear hBe cn lb hW1 HB HC
  go_loopw [5, 9] (fun ov iv wr => ∃ i : Nat, i ≤ n ∧ iv = .int .i64 (i : Int) ∧ ov = .int .i64 (wbx i : Int) ∧ Hid (Box wr B (ordC n A) 72 ∧ Chg [] w wr)) (fun _ iv _ => n - (intOf iv).toNat)
  case atStart => exact ⟨0, Nat.zero_le _, rfl, by rw [HW0.out]; rfl, HIn⟩
  case round =>
    obtain ⟨i, hi, rfl, rfl, hI⟩ := hrel
    by_cases hlt : i < n
    · have d1 : decide ((i : Int) < (n : Int)) = true := by simp; omega
      have i0 : (0 : Int) ≤ (i : Int) := by omega
      have i1 : (i : Int) < 64 := by omega
      have i6 : (i : Int) < 6 := by omega
      have fx := ord_at hI.out.1 (show i < 6 by omega)
      have lb := hI.out.1.lt
      have HWi := hide (HW.out i)
      have hwl := HWl.out i
      have hpi : (2 : Nat) ^ i ≤ 2 ^ 5 := Nat.pow_le_pow_right (by decide) (by omega)
      have hci : A i < 65536 := by have := HA.out i; omega
      have HEp := hide (pt_bit (s := A i) (x := x) hci)
      generalize A i = ci at *
      obtain ⟨W, hW⟩ : ∃ W, W = wbx i := ⟨_, rfl⟩
      rw [← hW] at HWi hwl ⊢
      have eor := lor_nat W (2 ^ i) (by omega) (by omega)
      have ew : wrap64 (2 ^ i) = ((2 ^ i : Nat) : Int) := by
        have e : ((2 : Int) ^ i) = ((2 ^ i : Nat) : Int) := by rw [Int.natCast_pow]; rfl
        rw [e]
        generalize 2 ^ i = q at hpi
        unfold wrap64; omega
      have hx63 : W < 2 ^ 63 := Nat.lt_of_lt_of_le hwl (Nat.le_trans hpi (by decide))
      have eo0 := lor_zero W hx63
      have ep := HEp.out
      have eor2 : bits BinOp.or IntKind.i64 (W : Int) ((2 : Int) ^ i) = ((W ||| 2 ^ i : Nat) : Int) := by
        rw [← eor, Int.natCast_pow]
        rfl
      have HEo := hide eor2
      clear hW eor eor2
      cases htb : ci.testBit x with
      | true =>
        rw [htb, if_pos rfl] at ep
        rw [htb, if_pos rfl] at HWi
        clear htb
        go_wp2
        clear ew ep HEp hpi eo0
        go_roundw
        case rel => exact ⟨i + 1, by omega, by go_num, by rw [HEo.out, HWi.out], hI⟩
        case measure => simp [intOf]; omega
      | false =>
        rw [htb, if_neg (by decide)] at ep
        rw [htb, if_neg (by decide)] at HWi
        clear htb
        go_wp2
        clear ew ep HEp hpi eo0
        go_roundw
        case rel => exact ⟨i + 1, by omega, by go_num, by rw [HWi.out], hI⟩
        case measure => simp [intOf]; omega
    · have d1 : decide ((i : Int) < (n : Int)) = false := by simp; omega
      have him : i = n := by omega
      subst him
      go_wp2
      go_ret
      exact ⟨rfl, hI.out.2⟩
set_option maxRecDepth 100000 in
set_option maxHeartbeats 1000000 in
theorem element_any (n : Nat) (A : Nat → Nat) (x : Nat) (w : World) (hx : x < n) :
    Calls Tryd.prog 40 #[ordV n A, .int .i64 (x : Int)] w (Ret (.bool true) w) := by
  have b1 := Box.new w (ordC n A) 72
  have cn := ord_n b1
  have lb := b1.lt
  have HC := hide ((Chg.refl [] w).alloc (.cells (ordC n A) 72))
  unfold ordV
  unfold ordC at *
  have d1 : decide ((x : Int) ≥ 0) = true := by simp
  have d1' : decide ((0 : Int) ≤ (x : Int)) = true := by simp
  have d2 : decide ((x : Int) < (n : Int)) = true := by simp; omega
  have d2n : decide (x < n) = true := by simp; omega
  clear b1 hx
  go_enter Tryd.func40, Tryd.ntmps40
  go_wp2
  go_ret
  exact ⟨rfl, HC.out⟩
/-- What is above, as a slice. -/
def ordL (n : Nat) (A : Nat → Nat) : List Int := (List.range n).map fun j => (A j : Int)
theorem ordL_len (n : Nat) (A : Nat → Nat) : (ordL n A).length = n := by unfold ordL; rw [List.length_map, List.length_range]
theorem ordL_get {n j : Nat} {A : Nat → Nat} (h : j < n) : (ordL n A).getD j 0 = (A j : Int) := by
  unfold ordL
  rw [List.getD_eq_getElem?_getD, List.getElem?_map, List.getElem?_range h]
  rfl
set_option maxRecDepth 100000 in
set_option maxHeartbeats 1000000 in
theorem slice_any (n : Nat) (A : Nat → Nat) (w : World) (hn : n ≤ 6) :
    Calls Tryd.prog 42 #[ordV n A] w fun e w' => ∃ v, e = .returned v ∧ Ints w' v (ordL n A) ∧ Chg [] w w' := by
  have b1 := Box.new w (ordC n A) 72
  have cn := ord_n b1
  have lb := b1.lt
  have HC := hide ((Chg.refl [] w).alloc (.cells (ordC n A) 72))
  have HS : Hid (See (w.alloc (.cells (ordC n A) 72)) (.slice (some ⟨w.heap.size, 1, none⟩) n 6) (ordL n A)) := hide (.inr ⟨⟨w.heap.size, 1, none⟩, 6, by rw [ordL_len], by rw [ordL_len]; exact hn, lb, fun i hi => by
    rw [ordL_len] at hi
    rw [ordL_get hi, ← ord_at b1 (show i < 6 by omega)]
    unfold Addr.add
    split
    · rename_i h; subst h; rfl
    · rfl⟩)
  have HCl := hide fun u ws (h : See ws u (ordL n A)) => Clone_any u (ordL n A) ws h (by rw [ordL_len]; omega)
  unfold ordV
  unfold ordC at *
  have n0 : (0 : Int) ≤ (n : Int) := by omega
  have n6 : (n : Int) ≤ 6 := by omega
  clear b1 hn
  go_enter Tryd.func42, Tryd.ntmps42
  go_wp2_with fail
  refine (HCl.out _ _ HS.out).mono ?_
  rintro e w2 ⟨v2, rfl, hI, hw⟩
  have HI := hide (And.intro hI (HC.out.trans hw))
  clear hI hw
  go_wp2
  go_ret
  exact ⟨_, rfl, HI.out⟩
end Go.Proofs.YtpplihpfjniacaaDoor
