/- Walk: the statement TalkBounded. -/
import Derived.Test.YtaapamoglgpocaaChk
import Derived.Test.YtaapamoglgpocaaBndPlain
import Derived.Test.YtaapamoglgpocaaLaw12
namespace Go.Proofs.Ytaapamoglgpocaa
open Go.RowKit

set_option maxRecDepth 100000 in
set_option maxHeartbeats 2000000 in
theorem bounded_bad (v : Value) (t : List (List Int)) (w : World) (hs : See2 w v t) (htl : t.length ≤ 9223372036854775807) (ht : T.isTab t = false) :
    Calls Try.prog 14 #[v] w (Ret (.bool true) w) := by
  have HT1 := hide fun ws (hw : Chg [] w ws) => table_any v t ws (hs.keep hw) htl
  have HAw := hide fun ws => awake_any ws
  have HPl := hide fun v' ws (h : See2 ws v' (T.cut t)) => Plan_bad v' (T.cut t) ws h (cut_small t).1 (cut_small t).2 (by rw [T.isTab_cut]; exact ht)
  have HLe := hide fun v' ws (h : See2 ws v' (T.cut t)) => Length_any v' (T.cut t) ws h (cut_small t).1 (cut_small t).2
  have hlv : lenV (T.cut t) = .tuple #[.int .i64 0, .int .i64 2] := by unfold lenV; rw [T.isTab_cut, ht]; rfl
  rw [hlv] at HLe
  clear hs htl ht hlv
  go_enter Try.func14, Try.ntmps14
  have C0 : Hid (Chg [] w w) := hide (Chg.refl _ _)
  go_wp2_with fail
  refine (HT1.out _ C0.out).mono ?_
  rintro e w1 ⟨v1, rfl, hI, hw⟩
  have C1 : Hid (Chg [] w w1) := hide (C0.out.trans hw)
  have A1 := hide hI
  clear hw hI
  go_wp2_with fail
  refine (HLe.out _ _ A1.out).mono ?_
  rintro e w2 ⟨rfl, hw⟩
  have C2 : Hid (Chg [] w w2) := hide (C1.out.trans hw)
  have A2 := hide (A1.out.keep hw)
  clear hw 
  go_wp2_with fail
  refine (HT1.out _ C2.out).mono ?_
  rintro e w3 ⟨v3, rfl, hI, hw⟩
  have C3 : Hid (Chg [] w w3) := hide (C2.out.trans hw)
  have A3 := hide hI
  clear hw hI
  go_wp2_with fail
  refine (HPl.out _ _ A3.out).mono ?_
  rintro e w4 ⟨rfl, hw⟩
  have C4 : Hid (Chg [] w w4) := hide (C3.out.trans hw)
  have A4 := hide (A3.out.keep hw)
  clear hw 
  go_wp2_with fail
  refine (HAw.out _).mono ?_
  rintro e w5 ⟨rfl, hw⟩
  have C5 : Hid (Chg [] w w5) := hide (C4.out.trans hw)
  clear hw 
  go_wp2
  go_ret
  exact ⟨rfl, C5.out⟩

/-- Whether the value k was met. -/
def MetV (t : List (List Int)) (i j : Nat) (k : Int) (b : Bool) : Prop := b = true ↔ ∃ a q, a < t.length ∧ q < T.cols t ∧ T.met i j a q ∧ T.ent t a q = k
theorem MetV.start (t : List (List Int)) (k : Int) : MetV t 0 0 k false := by
  unfold MetV
  constructor
  · intro h; cases h
  · rintro ⟨a, q, _, _, hm, _⟩; unfold T.met at hm; omega
theorem MetV.row {t : List (List Int)} {i j : Nat} {k : Int} {b : Bool} (h : MetV t i j k b) (hj : T.cols t ≤ j) : MetV t (i + 1) 0 k b := by
  unfold MetV at h ⊢
  rw [h]
  constructor
  · rintro ⟨a, q, h1, h2, h3, h4⟩; exact ⟨a, q, h1, h2, by unfold T.met at h3 ⊢; omega, h4⟩
  · rintro ⟨a, q, h1, h2, h3, h4⟩; exact ⟨a, q, h1, h2, by unfold T.met at h3 ⊢; omega, h4⟩
theorem MetV.step {t : List (List Int)} {i j : Nat} {k z : Int} {b : Bool} (h : MetV t i j k b) (hi : i < t.length) (hj : j < T.cols t) (hz : z = T.ent t i j) : MetV t i (j + 1) k (b || decide (z = k)) := by
  unfold MetV at h ⊢
  rw [Bool.or_eq_true, h, decide_eq_true_eq]
  constructor
  · rintro (⟨a, q, h1, h2, h3, h4⟩ | he)
    · exact ⟨a, q, h1, h2, by unfold T.met at h3 ⊢; omega, h4⟩
    · exact ⟨i, j, hi, hj, by unfold T.met; omega, by rw [← hz]; exact he⟩
  · rintro ⟨a, q, h1, h2, h3, h4⟩
    have hm : T.met i j a q ∨ (a = i ∧ q = j) := by unfold T.met at h3 ⊢; omega
    rcases hm with hm | ⟨rfl, rfl⟩
    · exact .inl ⟨a, q, h1, h2, hm, h4⟩
    · exact .inr (by rw [hz]; exact h4)
theorem MetV.all {t : List (List Int)} {k : Int} {b : Bool} (h : MetV t t.length 0 k b) : b = true ↔ ∃ i j, i < t.length ∧ j < T.cols t ∧ T.ent t i j = k := by
  unfold MetV at h
  rw [h]
  exact ⟨fun ⟨a, q, h1, h2, _, h4⟩ => ⟨a, q, h1, h2, h4⟩, fun ⟨a, q, h1, h2, h4⟩ => ⟨a, q, h1, h2, by unfold T.met; omega, h4⟩⟩
theorem over_small {t : List (List Int)} (ht : T.isTab t = true) : (∀ r ∈ overT t, r.length ≤ 1000000) ∧ (overT t).length ≤ 1000000 := by
  have h := T.isTab_iff.1 (over_isTab ht)
  exact ⟨fun r hr => by have := (T.rowOk_iff.1 (h.2 r hr)).1; omega, by omega⟩

set_option maxRecDepth 100000 in
set_option maxHeartbeats 2000000 in
theorem bounded_good (v : Value) (t : List (List Int)) (w : World) (hs : See2 w v t) (htl : t.length ≤ 9223372036854775807) (hrl : ∀ r ∈ t, r.length ≤ 9223372036854775807) (ht : T.isTab t = true) :
    Calls Try.prog 14 #[v] w (Ret (.bool true) w) := by
  have HT1 := hide fun ws (hw : Chg [] w ws) => table_any v t ws (hs.keep hw) htl
  have HAw := hide fun ws => awake_any ws
  have HTb := hide fun ws (hw : Chg [] w ws) => Table_any v t ws (hs.keep hw) hrl
  rw [ht] at HTb
  have HOv := hide fun ws (hw : Chg [] w ws) => Over_any v t ws (hs.keep hw) ht
  have HPw := hide fun xs (h : Pl t (2 ^ t.length - 1) (2 ^ T.cols t - 1) 0 xs) => And.intro (Pl.whole ht h) (len_zero ht h)
  have hcs := cut_small t
  have hce := T.cut_of_isTab ht
  rw [hce] at HT1 hcs
  have HPl := hide fun v' ws (h : See2 ws v' t) => Plan_good v' t ws h hcs.1 hcs.2 ht
  have HLe := hide fun v' ws (h : See2 ws v' t) => Length_any v' t ws h hcs.1 hcs.2
  have HOn := hide fun v' ws (h : See2 ws v' t) => Once_any v' t ws h hcs.1 hcs.2
  have HO2 := hide fun v' ws (h : See2 ws v' (overT t)) => Once_any v' (overT t) ws h (over_small ht).1 (over_small ht).2
  have HCk := hide fun v' u' xs ws (h1 : See2 ws v' t) (h2 : SeeN ws u' xs) (hl : xs.length ≤ 1000000) (hp : isPl xs = true) (hr : rightM t xs = true) => Check_right v' u' t xs ws h1 hcs.1 hcs.2 h2 hl ht hp hr
  have hlv : lenV t = .tuple #[.int .i64 (lenT t : Int), .int .i64 0] := by unfold lenV; rw [if_pos ht]
  have hov : onceV t = .tuple #[.int .i64 (onceN t : Int), .int .i64 0] := by unfold onceV; rw [if_pos ht]
  have hov2 : onceV (overT t) = .tuple #[.int .i64 (onceN (overT t) : Int), .int .i64 0] := by unfold onceV; rw [if_pos (over_isTab ht)]
  rw [hlv] at HLe
  rw [hov] at HOn
  rw [hov2] at HO2
  unfold PlanOf at HPl
  have hb1 := len_once ht
  have hb2 := len_once_over ht
  have hlT : T.len t (2 ^ t.length - 1) (2 ^ T.cols t - 1) = lenT t := rfl
  rw [hlT] at HPw
  have hwd : onceN t ≤ 2 ∧ onceN (overT t) ≤ 2 := by unfold onceN wordsN; constructor <;> (split <;> try split) <;> omega
  generalize lenT t = l at *
  generalize onceN t = o1 at *
  generalize onceN (overT t) = o2 at *
  obtain ⟨a, cap, rfl, hE⟩ := ent_cells hs ht
  have HE := hide hE
  have HV := hide fun i j => T.ent_val ht (i := i) (j := j)
  obtain ⟨⟨t1, t2, t3, t4⟩, _⟩ := T.isTab_iff.1 ht
  have HAll := hide fun k b (h : MetV t t.length 0 k b) => h.all
  clear hs htl hrl hcs ht hce hlv hov hov2 hlT hE
  generalize hn : t.length = n at *
  generalize hm : T.cols t = m at *
  have HN := hide hn.symm
  have HM := hide hm.symm
  clear hn hm
  go_enter Try.func14, Try.ntmps14
  have C0 : Hid (Chg [] w w) := hide (Chg.refl _ _)
  go_wp2_with fail
  refine (HT1.out _ C0.out).mono ?_
  rintro e w1 ⟨v1, rfl, hI, hw⟩
  have C1 : Hid (Chg [] w w1) := hide (C0.out.trans hw)
  have A1 := hide hI
  clear hw hI
  go_wp2_with fail
  refine (HLe.out _ _ A1.out).mono ?_
  rintro e w2 ⟨rfl, hw⟩
  have C2 : Hid (Chg [] w w2) := hide (C1.out.trans hw)
  have A2 := hide (A1.out.keep hw)
  clear hw 
  go_wp2_with fail
  refine (HT1.out _ C2.out).mono ?_
  rintro e w3 ⟨v3, rfl, hI, hw⟩
  have C3 : Hid (Chg [] w w3) := hide (C2.out.trans hw)
  have A3 := hide hI
  clear hw hI
  go_wp2_with fail
  refine (HPl.out _ _ A3.out).mono ?_
  rintro e w4 ⟨v4, xs, rfl, hP, ho, hw⟩
  have C4 : Hid (Chg [] w w4) := hide (C3.out.trans hw)
  have A4 := hide (A3.out.keep hw)
  obtain ⟨⟨q1, q2, q3, q4⟩, q5⟩ := HPw.out xs hP
  have S4 := hide (nodes_see ho)
  have Q1 := hide q1
  have Q2 := hide q2
  have Q3 := hide q3
  have Q4 := hide q4
  have Q5 := hide q5
  clear hw ho hP q1 q2 q3 q4 q5
  go_wp2_with fail
  refine (HTb.out _ C4.out).mono ?_
  rintro e w5 ⟨rfl, hw⟩
  have C5 : Hid (Chg [] w w5) := hide (C4.out.trans hw)
  have S5 := hide (S4.out.keep hw)
  clear hw 
  go_wp2_with fail
  refine (HT1.out _ C5.out).mono ?_
  rintro e w6 ⟨v6, rfl, hI, hw⟩
  have C6 : Hid (Chg [] w w6) := hide (C5.out.trans hw)
  have S6 := hide (S5.out.keep hw)
  have A6 := hide hI
  clear hw hI
  go_wp2_with fail
  refine (HCk.out _ _ xs _ A6.out S6.out (by have := Q2.out; omega) Q1.out Q3.out).mono ?_
  rw [Q4.out]
  rintro e w7 ⟨rfl, hw⟩
  have C7 : Hid (Chg [] w w7) := hide (C6.out.trans hw)
  have S7 := hide (S6.out.keep hw)
  have A7 := hide (A6.out.keep hw)
  clear hw 
  go_wp2_with fail
  refine (HT1.out _ C7.out).mono ?_
  rintro e w8 ⟨v8, rfl, hI, hw⟩
  have C8 : Hid (Chg [] w w8) := hide (C7.out.trans hw)
  have A8 := hide hI
  clear hw hI
  go_wp2_with fail
  refine (HOn.out _ _ A8.out).mono ?_
  rintro e w9 ⟨rfl, hw⟩
  have C9 : Hid (Chg [] w w9) := hide (C8.out.trans hw)
  have A9 := hide (A8.out.keep hw)
  clear hw 
  go_wp2_with fail
  refine (HOv.out _ C9.out).mono ?_
  rintro e w10 ⟨v10, rfl, hI, hw⟩
  have C10 : Hid (Chg [] w w10) := hide (C9.out.trans hw)
  have A10 := hide hI.toSee2
  clear hw hI
  go_wp2_with fail
  refine (HO2.out _ _ A10.out).mono ?_
  rintro e w11 ⟨rfl, hw⟩
  have C11 : Hid (Chg [] w w11) := hide (C10.out.trans hw)
  have A11 := hide (A10.out.keep hw)
  clear hw 
  go_wp2
  go_loopw [14, 15, 70] (fun zv ov iv wr => ∃ (i : Nat) (x y : Bool), i ≤ n ∧ zv = .bool x ∧ ov = .bool y ∧ iv = .int .i64 (i : Int) ∧ Hid ((MetV t i 0 0 x ∧ MetV t i 0 1 y) ∧ Chg [] w wr)) (fun _ _ iv _ => n - (intOf iv).toNat)
  case atStart => exact ⟨0, false, false, Nat.zero_le _, rfl, rfl, rfl, hide ⟨⟨MetV.start _ _, MetV.start _ _⟩, C11.out⟩⟩
  case round =>
    obtain ⟨i, x, y, hi, rfl, rfl, rfl, hI⟩ := hrel
    by_cases hlt : i < n
    · have d1 : decide ((i : Int) < (n : Int)) = true := by simpa using hlt
      obtain ⟨b, bc, hrow⟩ := HE.out i hlt
      have fr := (hrow wr hI.out.2).1
      have HRow := hide hrow
      clear hrow
      go_wp2
      go_loopw [14, 15, 76] (fun zv ov jv wq => ∃ (j : Nat) (x y : Bool), j ≤ m ∧ zv = .bool x ∧ ov = .bool y ∧ jv = .int .i64 (j : Int) ∧ Hid ((MetV t i j 0 x ∧ MetV t i j 1 y) ∧ Chg [] w wq)) (fun _ _ jv _ => m - (intOf jv).toNat)
      case atStart => exact ⟨0, x, y, Nat.zero_le _, rfl, rfl, rfl, hide hI.out⟩
      case round =>
        obtain ⟨j, x', y', hj, rfl, rfl, rfl, hJ⟩ := hrel
        by_cases hlj : j < m
        · have d2 : decide ((j : Int) < (m : Int)) = true := by simpa using hlj
          have fx := (HRow.out wr hJ.out.2).2 j hlj
          obtain ⟨z, hz⟩ : ∃ z, z = T.ent t i j := ⟨_, rfl⟩
          rw [← hz] at fx
          have hv := HV.out i j
          rw [← hz] at hv
          have H1 := hide (hJ.out.1.1.step (by rw [← HN.out]; exact hlt) (by rw [← HM.out]; exact hlj) hz)
          have H2 := hide (hJ.out.1.2.step (by rw [← HN.out]; exact hlt) (by rw [← HM.out]; exact hlj) hz)
          have C2 := hide hJ.out.2
          have hz01 : z = 0 ∨ z = 1 := by omega
          clear hJ hz hv
          rcases hz01 with rfl | rfl <;> cases x' <;> cases y'
          all_goals (
            go_wp2
            go_roundw
            case rel => exact ⟨j + 1, _, _, by omega, rfl, rfl, by go_num, hide ⟨⟨H1.out, H2.out⟩, C2.out⟩⟩
            case measure => simp [intOf]; omega)
        · have d2 : decide ((j : Int) < (m : Int)) = false := by simpa using hlj
          obtain rfl : j = m := by omega
          go_wp2
          go_roundw
          case rel => exact ⟨i + 1, x', y', by omega, rfl, rfl, by go_num, hide ⟨⟨hJ.out.1.1.row (by rw [← HM.out]; exact Nat.le_refl _), hJ.out.1.2.row (by rw [← HM.out]; exact Nat.le_refl _)⟩, hJ.out.2⟩⟩
          case measure => simp [intOf]; omega
    · have d1 : decide ((i : Int) < (n : Int)) = false := by simpa using hlt
      obtain rfl : i = n := by omega
      have C2 := hide hI.out.2
      have hx := HAll.out 0 x hI.out.1.1
      have hy := HAll.out 1 y hI.out.1.2
      have hq := Q5.out
      rw [← hx, ← hy] at hq
      have dl : ((l : Int) == (l : Int)) = true := by simp
      have e1 : IntKind.i64.wrap ((o1 : Int) + 1) = ((o1 + 1 : Nat) : Int) := by rw [show (o1 : Int) + 1 = ((o1 + 1 : Nat) : Int) by omega]; exact wraps_i64 _ (by omega) (by omega)
      have e2 : IntKind.i64.wrap ((o2 : Int) + 1) = ((o2 + 1 : Nat) : Int) := by rw [show (o2 : Int) + 1 = ((o2 + 1 : Nat) : Int) by omega]; exact wraps_i64 _ (by omega) (by omega)
      obtain ⟨p1, hp1⟩ : ∃ p, p = o1 + 1 := ⟨_, rfl⟩
      obtain ⟨p2, hp2⟩ : ∃ p, p = o2 + 1 := ⟨_, rfl⟩
      rw [← hp1] at e1 hb1
      rw [← hp2] at e2 hb2
      have d3 : decide ((l : Int) ≤ (p1 : Int)) = true := by simp; omega
      have d4 : decide ((l : Int) ≤ (p2 : Int)) = true := by simp; omega
      have d3' : decide (l ≤ p1) = true := by simp; omega
      have d4' : decide (l ≤ p2) = true := by simp; omega
      have dz : ((l : Int) == 0) = !(x && y) := by
        rw [Bool.eq_iff_iff]
        simp only [beq_iff_eq, Bool.not_eq_true', Bool.and_eq_false_iff]
        cases x <;> cases y <;> simp at hq ⊢ <;> omega
      clear hI hx hy hq hp1 hp2
      cases x <;> cases y
      all_goals (
        simp only [Bool.and_true, Bool.and_false, Bool.not_true, Bool.not_false] at dz
        go_wp2_with fail
        refine (HAw.out _).mono ?_
        rintro e w9 ⟨rfl, hw⟩
        have C9 : Hid (Chg [] w w9) := hide (C2.out.trans hw)
        clear hw
        go_wp2
        go_ret
        exact ⟨rfl, C9.out⟩)

theorem talkBounded_walk (v : Value) (w : World) (hv : IsRows w v) : Calls Try.prog 14 #[v] w (Ret (.bool true) w) := by
  obtain ⟨t, hs, htl, hrl⟩ := hv
  cases ht : T.isTab t with
  | false => exact bounded_bad v t w hs htl ht
  | true => exact bounded_good v t w hs htl hrl ht
end Go.Proofs.Ytaapamoglgpocaa
