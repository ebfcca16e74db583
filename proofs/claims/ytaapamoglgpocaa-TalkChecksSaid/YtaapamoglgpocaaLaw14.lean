/- Walk: the statement TalkChecks. -/
import Derived.Test.YtaapamoglgpocaaChk
namespace Go.Proofs.Ytaapamoglgpocaa
open Go.RowKit

set_option maxRecDepth 100000 in
set_option maxHeartbeats 1000000 in
theorem checks_bad (v u : Value) (t : List (List Int)) (ps : List Nd) (w : World) (hs : See2 w v t) (htl : t.length ≤ 9223372036854775807) (hrl : ∀ r ∈ t, r.length ≤ 9223372036854775807) (hu : SeeN w u ps) (hpl : ps.length ≤ 9223372036854775807) (ht : T.isTab t = false) :
    Calls Try.prog 7 #[v, u] w (Ret (.bool true) w) := by
  have HT1 := hide fun ws (hw : Chg [] w ws) => table_any v t ws (hs.keep hw) htl
  have HTb := hide fun ws (hw : Chg [] w ws) => Table_any v t ws (hs.keep hw) hrl
  have HPc := hide fun ws (hw : Chg [] w ws) => plan_copy u ps ws (hu.keep hw) hpl
  have HCk := hide fun v' u' ws (h1 : See2 ws v' (T.cut t)) (h2 : SeeN ws u' (ps.take 110)) => Check_any v' u' (T.cut t) (ps.take 110) ws h1 (cut_small t).1 (cut_small t).2 h2 (by rw [List.length_take]; omega)
  have HLe := hide fun v' ws (h : See2 ws v' (T.cut t)) => Length_any v' (T.cut t) ws h (cut_small t).1 (cut_small t).2
  have HAw := hide fun ws => awake_any ws
  have hcv : checkV (T.cut t) (ps.take 110) = .tuple #[.int .i64 0, .bool false, .int .i64 2] := by unfold checkV; rw [T.isTab_cut, ht]; rfl
  have hlv : lenV (T.cut t) = .tuple #[.int .i64 0, .int .i64 2] := by unfold lenV; rw [T.isTab_cut, ht]; rfl
  rw [hcv] at HCk
  rw [hlv] at HLe
  rw [ht] at HTb
  clear hs htl hrl hu hpl ht hcv hlv
  go_enter Try.func7, Try.ntmps7
  have C0 : Hid (Chg [] w w) := hide (Chg.refl _ _)
  go_wp2_with fail
  refine (HT1.out _ C0.out).mono ?_
  rintro e w1 ⟨v1, rfl, hI, hw⟩
  have C1 : Hid (Chg [] w w1) := hide (C0.out.trans hw)
  have A1 := hide hI
  clear hw hI
  go_wp2_with fail
  refine (HPc.out _ C1.out).mono ?_
  rintro e w2 ⟨u1, rfl, hI, hw⟩
  have C2 : Hid (Chg [] w w2) := hide (C1.out.trans hw)
  have A2 := hide (A1.out.keep hw)
  have B2 := hide hI
  clear hw hI
  go_wp2_with fail
  refine (HCk.out _ _ _ A2.out B2.out).mono ?_
  rintro e w3 ⟨rfl, hw⟩
  have C3 : Hid (Chg [] w w3) := hide (C2.out.trans hw)
  have A3 := hide (A2.out.keep hw)
  have B3 := hide (B2.out.keep hw)
  clear hw 
  go_wp2_with fail
  refine (HT1.out _ C3.out).mono ?_
  rintro e w4 ⟨v3, rfl, hI, hw⟩
  have C4 : Hid (Chg [] w w4) := hide (C3.out.trans hw)
  have A4 := hide hI
  clear hw hI
  go_wp2_with fail
  refine (HLe.out _ _ A4.out).mono ?_
  rintro e w5 ⟨rfl, hw⟩
  have C5 : Hid (Chg [] w w5) := hide (C4.out.trans hw)
  have A5 := hide (A4.out.keep hw)
  clear hw 
  go_wp2_with fail
  refine (HTb.out _ C5.out).mono ?_
  rintro e w6 ⟨rfl, hw⟩
  have C6 : Hid (Chg [] w w6) := hide (C5.out.trans hw)
  clear hw 
  go_wp2_with fail
  refine (HAw.out _).mono ?_
  rintro e w7 ⟨rfl, hw⟩
  have C7 : Hid (Chg [] w w7) := hide (C6.out.trans hw)
  clear hw 
  go_wp2
  go_ret
  exact ⟨rfl, C7.out⟩

set_option maxRecDepth 100000 in
set_option maxHeartbeats 1000000 in
theorem checks_noplan (v u : Value) (t : List (List Int)) (ps : List Nd) (w : World) (hs : See2 w v t) (htl : t.length ≤ 9223372036854775807) (hrl : ∀ r ∈ t, r.length ≤ 9223372036854775807) (hu : SeeN w u ps) (hpl : ps.length ≤ 9223372036854775807) (ht : T.isTab t = true) (hp : isPl ps = false) :
    Calls Try.prog 7 #[v, u] w (Ret (.bool true) w) := by
  have HT1 := hide fun ws (hw : Chg [] w ws) => table_any v t ws (hs.keep hw) htl
  have HTb := hide fun ws (hw : Chg [] w ws) => Table_any v t ws (hs.keep hw) hrl
  have HPc := hide fun ws (hw : Chg [] w ws) => plan_copy u ps ws (hu.keep hw) hpl
  have HCk := hide fun v' u' ws (h1 : See2 ws v' (T.cut t)) (h2 : SeeN ws u' (ps.take 110)) => Check_any v' u' (T.cut t) (ps.take 110) ws h1 (cut_small t).1 (cut_small t).2 h2 (by rw [List.length_take]; omega)
  have HLe := hide fun v' ws (h : See2 ws v' (T.cut t)) => Length_any v' (T.cut t) ws h (cut_small t).1 (cut_small t).2
  have HAw := hide fun ws => awake_any ws
  have HRP := hide fun ws (hw : Chg [] w ws) => RPlan_any u ps ws (hu.keep hw) hpl
  have HRL := hide fun ws (hw : Chg [] w ws) => RLength_any v t ws (hs.keep hw) ht
  have hlv : lenV (T.cut t) = .tuple #[.int .i64 (T.len t (2 ^ t.length - 1) (2 ^ T.cols t - 1) : Int), .int .i64 0] := by rw [T.cut_of_isTab ht]; unfold lenV; rw [if_pos ht]; rfl
  rw [hlv] at HLe
  rw [ht] at HTb
  have hcv : checkV (T.cut t) (ps.take 110) = .tuple #[.int .i64 0, .bool false, .int .i64 0] := by unfold checkV; rw [T.isTab_cut, ht, if_pos rfl, isPl_take, hp, if_neg (fun h => by cases h.1)]
  rw [hp] at HRP
  rw [hcv] at HCk
  generalize T.len t (2 ^ t.length - 1) (2 ^ T.cols t - 1) = l at *
  have dl : ((l : Int) != (l : Int)) = false := by simp
  clear hs htl hrl hu hpl ht hcv hlv hp 
  go_enter Try.func7, Try.ntmps7
  have C0 : Hid (Chg [] w w) := hide (Chg.refl _ _)
  go_wp2_with fail
  refine (HT1.out _ C0.out).mono ?_
  rintro e w1 ⟨v1, rfl, hI, hw⟩
  have C1 : Hid (Chg [] w w1) := hide (C0.out.trans hw)
  have A1 := hide hI
  clear hw hI
  go_wp2_with fail
  refine (HPc.out _ C1.out).mono ?_
  rintro e w2 ⟨u1, rfl, hI, hw⟩
  have C2 : Hid (Chg [] w w2) := hide (C1.out.trans hw)
  have A2 := hide (A1.out.keep hw)
  have B2 := hide hI
  clear hw hI
  go_wp2_with fail
  refine (HCk.out _ _ _ A2.out B2.out).mono ?_
  rintro e w3 ⟨rfl, hw⟩
  have C3 : Hid (Chg [] w w3) := hide (C2.out.trans hw)
  have A3 := hide (A2.out.keep hw)
  have B3 := hide (B2.out.keep hw)
  clear hw 
  go_wp2_with fail
  refine (HT1.out _ C3.out).mono ?_
  rintro e w4 ⟨v3, rfl, hI, hw⟩
  have C4 : Hid (Chg [] w w4) := hide (C3.out.trans hw)
  have A4 := hide hI
  clear hw hI
  go_wp2_with fail
  refine (HLe.out _ _ A4.out).mono ?_
  rintro e w5 ⟨rfl, hw⟩
  have C5 : Hid (Chg [] w w5) := hide (C4.out.trans hw)
  have A5 := hide (A4.out.keep hw)
  clear hw 
  go_wp2_with fail
  refine (HTb.out _ C5.out).mono ?_
  rintro e w6 ⟨rfl, hw⟩
  have C6 : Hid (Chg [] w w6) := hide (C5.out.trans hw)
  clear hw 
  go_wp2_with fail
  refine (HRL.out _ C6.out).mono ?_
  rintro e w7 ⟨rfl, hw⟩
  have C7 : Hid (Chg [] w w7) := hide (C6.out.trans hw)
  clear hw 
  go_wp2_with fail
  refine (HAw.out _).mono ?_
  rintro e w8 ⟨rfl, hw⟩
  have C8 : Hid (Chg [] w w8) := hide (C7.out.trans hw)
  clear hw 
  go_wp2_with fail
  refine (HRP.out _ C8.out).mono ?_
  rintro e w9 ⟨rfl, hw⟩
  have C9 : Hid (Chg [] w w9) := hide (C8.out.trans hw)
  clear hw 
  go_wp2
  go_ret
  exact ⟨rfl, C9.out⟩

set_option maxRecDepth 100000 in
set_option maxHeartbeats 1000000 in
theorem checks_wrong (v u : Value) (t : List (List Int)) (ps : List Nd) (w : World) (hs : See2 w v t) (htl : t.length ≤ 9223372036854775807) (hrl : ∀ r ∈ t, r.length ≤ 9223372036854775807) (hu : SeeN w u ps) (hpl : ps.length ≤ 9223372036854775807) (ht : T.isTab t = true) (hp : isPl ps = true) (hr : rightM t ps = false) :
    Calls Try.prog 7 #[v, u] w (Ret (.bool true) w) := by
  have HT1 := hide fun ws (hw : Chg [] w ws) => table_any v t ws (hs.keep hw) htl
  have HTb := hide fun ws (hw : Chg [] w ws) => Table_any v t ws (hs.keep hw) hrl
  have HPc := hide fun ws (hw : Chg [] w ws) => plan_copy u ps ws (hu.keep hw) hpl
  have HCk := hide fun v' u' ws (h1 : See2 ws v' (T.cut t)) (h2 : SeeN ws u' (ps.take 110)) => Check_any v' u' (T.cut t) (ps.take 110) ws h1 (cut_small t).1 (cut_small t).2 h2 (by rw [List.length_take]; omega)
  have HLe := hide fun v' ws (h : See2 ws v' (T.cut t)) => Length_any v' (T.cut t) ws h (cut_small t).1 (cut_small t).2
  have HAw := hide fun ws => awake_any ws
  have HRP := hide fun ws (hw : Chg [] w ws) => RPlan_any u ps ws (hu.keep hw) hpl
  have HRL := hide fun ws (hw : Chg [] w ws) => RLength_any v t ws (hs.keep hw) ht
  have hlv : lenV (T.cut t) = .tuple #[.int .i64 (T.len t (2 ^ t.length - 1) (2 ^ T.cols t - 1) : Int), .int .i64 0] := by rw [T.cut_of_isTab ht]; unfold lenV; rw [if_pos ht]; rfl
  rw [hlv] at HLe
  rw [ht] at HTb
  have hcv : checkV (T.cut t) (ps.take 110) = .tuple #[.int .i64 0, .bool false, .int .i64 0] := by unfold checkV; rw [T.isTab_cut, ht, if_pos rfl, isPl_take, hp, T.cut_of_isTab ht, take_plan hp, hr, if_neg (fun h => by cases h.2)]
  have HRR := hide fun ws (hw : Chg [] w ws) => RRight_any v u t ps ws (hs.keep hw) (hu.keep hw) ht hp
  rw [hr] at HRR
  rw [hp] at HRP
  rw [hcv] at HCk
  generalize T.len t (2 ^ t.length - 1) (2 ^ T.cols t - 1) = l at *
  have dl : ((l : Int) != (l : Int)) = false := by simp
  clear hs htl hrl hu hpl ht hcv hlv hp hr 
  go_enter Try.func7, Try.ntmps7
  have C0 : Hid (Chg [] w w) := hide (Chg.refl _ _)
  go_wp2_with fail
  refine (HT1.out _ C0.out).mono ?_
  rintro e w1 ⟨v1, rfl, hI, hw⟩
  have C1 : Hid (Chg [] w w1) := hide (C0.out.trans hw)
  have A1 := hide hI
  clear hw hI
  go_wp2_with fail
  refine (HPc.out _ C1.out).mono ?_
  rintro e w2 ⟨u1, rfl, hI, hw⟩
  have C2 : Hid (Chg [] w w2) := hide (C1.out.trans hw)
  have A2 := hide (A1.out.keep hw)
  have B2 := hide hI
  clear hw hI
  go_wp2_with fail
  refine (HCk.out _ _ _ A2.out B2.out).mono ?_
  rintro e w3 ⟨rfl, hw⟩
  have C3 : Hid (Chg [] w w3) := hide (C2.out.trans hw)
  have A3 := hide (A2.out.keep hw)
  have B3 := hide (B2.out.keep hw)
  clear hw 
  go_wp2_with fail
  refine (HT1.out _ C3.out).mono ?_
  rintro e w4 ⟨v3, rfl, hI, hw⟩
  have C4 : Hid (Chg [] w w4) := hide (C3.out.trans hw)
  have A4 := hide hI
  clear hw hI
  go_wp2_with fail
  refine (HLe.out _ _ A4.out).mono ?_
  rintro e w5 ⟨rfl, hw⟩
  have C5 : Hid (Chg [] w w5) := hide (C4.out.trans hw)
  have A5 := hide (A4.out.keep hw)
  clear hw 
  go_wp2_with fail
  refine (HTb.out _ C5.out).mono ?_
  rintro e w6 ⟨rfl, hw⟩
  have C6 : Hid (Chg [] w w6) := hide (C5.out.trans hw)
  clear hw 
  go_wp2_with fail
  refine (HRL.out _ C6.out).mono ?_
  rintro e w7 ⟨rfl, hw⟩
  have C7 : Hid (Chg [] w w7) := hide (C6.out.trans hw)
  clear hw 
  go_wp2_with fail
  refine (HAw.out _).mono ?_
  rintro e w8 ⟨rfl, hw⟩
  have C8 : Hid (Chg [] w w8) := hide (C7.out.trans hw)
  clear hw 
  go_wp2_with fail
  refine (HRP.out _ C8.out).mono ?_
  rintro e w9 ⟨rfl, hw⟩
  have C9 : Hid (Chg [] w w9) := hide (C8.out.trans hw)
  clear hw 
  go_wp2_with fail
  refine (HRR.out _ C9.out).mono ?_
  rintro e w10 ⟨rfl, hw⟩
  have C10 : Hid (Chg [] w w10) := hide (C9.out.trans hw)
  clear hw 
  go_wp2
  go_ret
  exact ⟨rfl, C10.out⟩

set_option maxRecDepth 100000 in
set_option maxHeartbeats 1000000 in
theorem checks_right (v u : Value) (t : List (List Int)) (ps : List Nd) (w : World) (hs : See2 w v t) (htl : t.length ≤ 9223372036854775807) (hrl : ∀ r ∈ t, r.length ≤ 9223372036854775807) (hu : SeeN w u ps) (hpl : ps.length ≤ 9223372036854775807) (ht : T.isTab t = true) (hp : isPl ps = true) (hr : rightM t ps = true) :
    Calls Try.prog 7 #[v, u] w (Ret (.bool true) w) := by
  have HT1 := hide fun ws (hw : Chg [] w ws) => table_any v t ws (hs.keep hw) htl
  have HTb := hide fun ws (hw : Chg [] w ws) => Table_any v t ws (hs.keep hw) hrl
  have HPc := hide fun ws (hw : Chg [] w ws) => plan_copy u ps ws (hu.keep hw) hpl
  have HCk := hide fun v' u' ws (h1 : See2 ws v' (T.cut t)) (h2 : SeeN ws u' (ps.take 110)) => Check_any v' u' (T.cut t) (ps.take 110) ws h1 (cut_small t).1 (cut_small t).2 h2 (by rw [List.length_take]; omega)
  have HLe := hide fun v' ws (h : See2 ws v' (T.cut t)) => Length_any v' (T.cut t) ws h (cut_small t).1 (cut_small t).2
  have HAw := hide fun ws => awake_any ws
  have HRP := hide fun ws (hw : Chg [] w ws) => RPlan_any u ps ws (hu.keep hw) hpl
  have HRL := hide fun ws (hw : Chg [] w ws) => RLength_any v t ws (hs.keep hw) ht
  have hlv : lenV (T.cut t) = .tuple #[.int .i64 (T.len t (2 ^ t.length - 1) (2 ^ T.cols t - 1) : Int), .int .i64 0] := by rw [T.cut_of_isTab ht]; unfold lenV; rw [if_pos ht]; rfl
  rw [hlv] at HLe
  rw [ht] at HTb
  have hcv : checkV (T.cut t) (ps.take 110) = .tuple #[.int .i64 (depA ps 0 : Int), .bool true, .int .i64 0] := by unfold checkV; rw [T.isTab_cut, ht, if_pos rfl, isPl_take, hp, T.cut_of_isTab ht, take_plan hp, hr, if_pos ⟨rfl, rfl⟩]
  have HRR := hide fun ws (hw : Chg [] w ws) => RRight_any v u t ps ws (hs.keep hw) (hu.keep hw) ht hp
  have HRD := hide fun ws (hw : Chg [] w ws) => RDepth_any u ps ws (hu.keep hw) hp
  rw [hr] at HRR
  rw [hp] at HRP
  generalize depA ps 0 = dp at *
  have dd : ((dp : Int) == (dp : Int)) = true := by simp
  rw [hcv] at HCk
  generalize T.len t (2 ^ t.length - 1) (2 ^ T.cols t - 1) = l at *
  have dl : ((l : Int) != (l : Int)) = false := by simp
  clear hs htl hrl hu hpl ht hcv hlv hp hr 
  go_enter Try.func7, Try.ntmps7
  have C0 : Hid (Chg [] w w) := hide (Chg.refl _ _)
  go_wp2_with fail
  refine (HT1.out _ C0.out).mono ?_
  rintro e w1 ⟨v1, rfl, hI, hw⟩
  have C1 : Hid (Chg [] w w1) := hide (C0.out.trans hw)
  have A1 := hide hI
  clear hw hI
  go_wp2_with fail
  refine (HPc.out _ C1.out).mono ?_
  rintro e w2 ⟨u1, rfl, hI, hw⟩
  have C2 : Hid (Chg [] w w2) := hide (C1.out.trans hw)
  have A2 := hide (A1.out.keep hw)
  have B2 := hide hI
  clear hw hI
  go_wp2_with fail
  refine (HCk.out _ _ _ A2.out B2.out).mono ?_
  rintro e w3 ⟨rfl, hw⟩
  have C3 : Hid (Chg [] w w3) := hide (C2.out.trans hw)
  have A3 := hide (A2.out.keep hw)
  have B3 := hide (B2.out.keep hw)
  clear hw 
  go_wp2_with fail
  refine (HT1.out _ C3.out).mono ?_
  rintro e w4 ⟨v3, rfl, hI, hw⟩
  have C4 : Hid (Chg [] w w4) := hide (C3.out.trans hw)
  have A4 := hide hI
  clear hw hI
  go_wp2_with fail
  refine (HLe.out _ _ A4.out).mono ?_
  rintro e w5 ⟨rfl, hw⟩
  have C5 : Hid (Chg [] w w5) := hide (C4.out.trans hw)
  have A5 := hide (A4.out.keep hw)
  clear hw 
  go_wp2_with fail
  refine (HTb.out _ C5.out).mono ?_
  rintro e w6 ⟨rfl, hw⟩
  have C6 : Hid (Chg [] w w6) := hide (C5.out.trans hw)
  clear hw 
  go_wp2_with fail
  refine (HRL.out _ C6.out).mono ?_
  rintro e w7 ⟨rfl, hw⟩
  have C7 : Hid (Chg [] w w7) := hide (C6.out.trans hw)
  clear hw 
  go_wp2_with fail
  refine (HAw.out _).mono ?_
  rintro e w8 ⟨rfl, hw⟩
  have C8 : Hid (Chg [] w w8) := hide (C7.out.trans hw)
  clear hw 
  go_wp2_with fail
  refine (HRP.out _ C8.out).mono ?_
  rintro e w9 ⟨rfl, hw⟩
  have C9 : Hid (Chg [] w w9) := hide (C8.out.trans hw)
  clear hw 
  go_wp2_with fail
  refine (HRR.out _ C9.out).mono ?_
  rintro e w10 ⟨rfl, hw⟩
  have C10 : Hid (Chg [] w w10) := hide (C9.out.trans hw)
  clear hw 
  go_wp2_with fail
  refine (HRD.out _ C10.out).mono ?_
  rintro e w11 ⟨rfl, hw⟩
  have C11 : Hid (Chg [] w w11) := hide (C10.out.trans hw)
  clear hw 
  go_wp2
  go_ret
  exact ⟨rfl, C11.out⟩

theorem talkChecks_walk (v u : Value) (w : World) (hv : IsRows w v) (hu : IsNodes w u) : Calls Try.prog 7 #[v, u] w (Ret (.bool true) w) := by
  obtain ⟨t, hs, htl, hrl⟩ := hv
  obtain ⟨ps, hn, hpl⟩ := hu
  cases ht : T.isTab t with
  | false => exact checks_bad v u t ps w hs htl hrl hn hpl ht
  | true =>
    cases hp : isPl ps with
    | false => exact checks_noplan v u t ps w hs htl hrl hn hpl ht hp
    | true =>
      cases hr : rightM t ps with
      | false => exact checks_wrong v u t ps w hs htl hrl hn hpl ht hp hr
      | true => exact checks_right v u t ps w hs htl hrl hn hpl ht hp hr
end Go.Proofs.Ytaapamoglgpocaa
