/- Walk: the statement TalkParts. -/
import Derived.Test.YtaapamoglgpocaaPartEq
import Derived.Test.YtaapamoglgpocaaROnce
namespace Go.Proofs.Ytaapamoglgpocaa
open Go.RowKit

set_option maxRecDepth 100000 in
set_option maxHeartbeats 1000000 in
theorem parts_bad (v : Value) (t : List (List Int)) (w : World) (hs : See2 w v t) (htl : t.length ≤ 9223372036854775807) (hrl : ∀ r ∈ t, r.length ≤ 9223372036854775807) (ht : T.isTab t = false) :
    Calls Try.prog 11 #[v] w (Ret (.bool true) w) := by
  have HT1 := hide fun ws (hw : Chg [] w ws) => table_any v t ws (hs.keep hw) htl
  have HTb := hide fun ws (hw : Chg [] w ws) => Table_any v t ws (hs.keep hw) hrl
  have HPa := hide fun v' ws (h : See2 ws v' (T.cut t)) => Part_any v' (T.cut t) ws h (cut_small t).1 (cut_small t).2
  have HOn := hide fun v' ws (h : See2 ws v' (T.cut t)) => Once_any v' (T.cut t) ws h (cut_small t).1 (cut_small t).2
  have HAw := hide fun ws => awake_any ws
  rw [ht] at HTb
  have h0 : partV (T.cut t) = .tuple #[.int .i64 0, .int .i64 2] := by unfold partV; rw [T.isTab_cut, ht]; rfl
  have h1 : onceV (T.cut t) = .tuple #[.int .i64 0, .int .i64 2] := by unfold onceV; rw [T.isTab_cut, ht]; rfl
  rw [h0] at HPa
  rw [h1] at HOn
  clear hs htl hrl ht h0 h1
  go_enter Try.func11, Try.ntmps11
  have C0 : Hid (Chg [] w w) := hide (Chg.refl _ _)
  go_wp2_with fail
  refine (HT1.out _ C0.out).mono ?_
  rintro e w1 ⟨v1, rfl, hI, hw⟩
  have C1 : Hid (Chg [] w w1) := hide (C0.out.trans hw)
  have A1 := hide hI
  clear hw hI
  go_wp2_with fail
  refine (HPa.out _ _ A1.out).mono ?_
  rintro e w2 ⟨rfl, hw⟩
  have C2 : Hid (Chg [] w w2) := hide (C1.out.trans hw)
  have A2 := hide (A1.out.keep hw)
  clear hw 
  go_wp2_with fail
  refine (HT1.out _ C2.out).mono ?_
  rintro e w3 ⟨v3, rfl, hI, hw⟩
  have C3 : Hid (Chg [] w w3) := hide (C2.out.trans hw)
  have A3 := hide hI
  clear hw hI
  go_wp2_with fail
  refine (HOn.out _ _ A3.out).mono ?_
  rintro e w4 ⟨rfl, hw⟩
  have C4 : Hid (Chg [] w w4) := hide (C3.out.trans hw)
  have A4 := hide (A3.out.keep hw)
  clear hw 
  go_wp2_with fail
  refine (HTb.out _ C4.out).mono ?_
  rintro e w5 ⟨rfl, hw⟩
  have C5 : Hid (Chg [] w w5) := hide (C4.out.trans hw)
  clear hw 
  go_wp2_with fail
  refine (HAw.out _).mono ?_
  rintro e w6 ⟨rfl, hw⟩
  have C6 : Hid (Chg [] w w6) := hide (C5.out.trans hw)
  clear hw 
  go_wp2
  go_ret
  exact ⟨rfl, C6.out⟩

set_option maxRecDepth 100000 in
set_option maxHeartbeats 1000000 in
theorem parts_good (v : Value) (t : List (List Int)) (w : World) (hs : See2 w v t) (htl : t.length ≤ 9223372036854775807) (hrl : ∀ r ∈ t, r.length ≤ 9223372036854775807) (ht : T.isTab t = true) :
    Calls Try.prog 11 #[v] w (Ret (.bool true) w) := by
  have HT1 := hide fun ws (hw : Chg [] w ws) => table_any v t ws (hs.keep hw) htl
  have HTb := hide fun ws (hw : Chg [] w ws) => Table_any v t ws (hs.keep hw) hrl
  have HPa := hide fun v' ws (h : See2 ws v' (T.cut t)) => Part_any v' (T.cut t) ws h (cut_small t).1 (cut_small t).2
  have HOn := hide fun v' ws (h : See2 ws v' (T.cut t)) => Once_any v' (T.cut t) ws h (cut_small t).1 (cut_small t).2
  have HAw := hide fun ws => awake_any ws
  rw [ht] at HTb
  have h0 : partV (T.cut t) = .tuple #[.int .i64 (partN t : Int), .int .i64 0] := by unfold partV; rw [T.isTab_cut, ht, if_pos rfl, T.cut_of_isTab ht]
  have h1 : onceV (T.cut t) = .tuple #[.int .i64 (onceN t : Int), .int .i64 0] := by unfold onceV; rw [T.isTab_cut, ht, if_pos rfl, T.cut_of_isTab ht]
  rw [h0] at HPa
  rw [h1] at HOn
  have HRP := hide fun ws (hw : Chg [] w ws) => RPart_any v t ws (hs.keep hw) ht
  have HRO := hide fun ws (hw : Chg [] w ws) => ROnce_any v t ws (hs.keep hw) ht
  rw [part_eq ht] at HRP
  generalize partN t = n at *
  generalize onceN t = m at *
  have d0 : ((n : Int) == (n : Int)) = true := by simp
  have d2 : ((m : Int) == (m : Int)) = true := by simp
  clear hs htl hrl ht h0 h1
  go_enter Try.func11, Try.ntmps11
  have C0 : Hid (Chg [] w w) := hide (Chg.refl _ _)
  go_wp2_with fail
  refine (HT1.out _ C0.out).mono ?_
  rintro e w1 ⟨v1, rfl, hI, hw⟩
  have C1 : Hid (Chg [] w w1) := hide (C0.out.trans hw)
  have A1 := hide hI
  clear hw hI
  go_wp2_with fail
  refine (HPa.out _ _ A1.out).mono ?_
  rintro e w2 ⟨rfl, hw⟩
  have C2 : Hid (Chg [] w w2) := hide (C1.out.trans hw)
  have A2 := hide (A1.out.keep hw)
  clear hw 
  go_wp2_with fail
  refine (HT1.out _ C2.out).mono ?_
  rintro e w3 ⟨v3, rfl, hI, hw⟩
  have C3 : Hid (Chg [] w w3) := hide (C2.out.trans hw)
  have A3 := hide hI
  clear hw hI
  go_wp2_with fail
  refine (HOn.out _ _ A3.out).mono ?_
  rintro e w4 ⟨rfl, hw⟩
  have C4 : Hid (Chg [] w w4) := hide (C3.out.trans hw)
  have A4 := hide (A3.out.keep hw)
  clear hw 
  go_wp2_with fail
  refine (HTb.out _ C4.out).mono ?_
  rintro e w5 ⟨rfl, hw⟩
  have C5 : Hid (Chg [] w w5) := hide (C4.out.trans hw)
  clear hw 
  go_wp2_with fail
  refine (HRP.out _ C5.out).mono ?_
  rintro e w6 ⟨rfl, hw⟩
  have C6 : Hid (Chg [] w w6) := hide (C5.out.trans hw)
  clear hw 
  go_wp2_with fail
  refine (HRO.out _ C6.out).mono ?_
  rintro e w7 ⟨rfl, hw⟩
  have C7 : Hid (Chg [] w w7) := hide (C6.out.trans hw)
  clear hw 
  go_wp2_with fail
  refine (HAw.out _).mono ?_
  rintro e w8 ⟨rfl, hw⟩
  have C8 : Hid (Chg [] w w8) := hide (C7.out.trans hw)
  clear hw 
  go_wp2
  go_ret
  exact ⟨rfl, C8.out⟩

theorem talkParts_walk (v : Value) (w : World) (hv : IsRows w v) : Calls Try.prog 11 #[v] w (Ret (.bool true) w) := by
  obtain ⟨t, hs, htl, hrl⟩ := hv
  cases ht : T.isTab t with
  | false => exact parts_bad v t w hs htl hrl ht
  | true => exact parts_good v t w hs htl hrl ht
end Go.Proofs.Ytaapamoglgpocaa
