/- Walk: the statement TalkRanks. -/
import Derived.Test.YtaapamoglgpocaaRk6
import Derived.Test.YtaapamoglgpocaaTbl
import Derived.Test.YtaapamoglgpocaaLen3
import Derived.Test.YtaapamoglgpocaaOpen
namespace Go.Proofs.Ytaapamoglgpocaa
open Go.RowKit

theorem cut_tiny (t : List (List Int)) : (∀ r ∈ T.cut t, r.length ≤ 1000000) ∧ (T.cut t).length ≤ 1000000 := by
  refine ⟨fun r hr => ?_, by rw [T.cut_len]; omega⟩
  unfold T.cut at hr
  obtain ⟨x, _, rfl⟩ := List.mem_map.1 hr
  rw [List.length_take]; omega
set_option maxRecDepth 100000 in
set_option maxHeartbeats 1000000 in
theorem ranks_bad (v : Value) (t : List (List Int)) (w : World) (hs : See2 w v t) (htl : t.length ≤ 9223372036854775807) (hrl : ∀ r ∈ t, r.length ≤ 9223372036854775807) (ht : T.isTab t = false) :
    Calls Try.prog 4 #[v] w (Ret (.bool true) w) := by
  have HT1 := hide fun ws (hw : Chg [] w ws) => table_any v t ws (hs.keep hw) htl
  have HTb := hide fun ws (hw : Chg [] w ws) => Table_any v t ws (hs.keep hw) hrl
  have HR0 := hide fun v' ws (h : See2 ws v' (T.cut t)) => Rank_any v' (T.cut t) ws h (cut_tiny t).1 (cut_tiny t).2
  have HR2 := hide fun v' ws (h : See2 ws v' (T.cut t)) => Rank2_any v' (T.cut t) ws h (cut_tiny t).1 (cut_tiny t).2
  have HAw := hide fun ws => awake_any ws
  rw [ht] at HTb
  have h0 : ∀ p, rankV p (T.cut t) = .tuple #[.int .i64 0, .int .i64 2] := fun p => by unfold rankV; rw [T.isTab_cut, ht]; rfl
  rw [h0] at HR0 HR2
  clear hs htl hrl ht h0
  go_enter Try.func4, Try.ntmps4
  have C0 : Hid (Chg [] w w) := hide (Chg.refl _ _)
  go_wp2_with fail
  refine (HT1.out _ C0.out).mono ?_
  rintro e w1 ⟨v1, rfl, hI, hw⟩
  have C1 : Hid (Chg [] w w1) := hide (C0.out.trans hw)
  have A1 := hide hI
  clear hw hI
  go_wp2_with fail
  refine (HR0.out _ _ A1.out).mono ?_
  rintro e w2 ⟨rfl, hw⟩
  have C2 : Hid (Chg [] w w2) := hide (C1.out.trans hw)
  have A2 := hide (A1.out.keep hw)
  clear hw 
  go_wp2_with fail
  refine (HT1.out _ C2.out).mono ?_
  rintro e w3 ⟨v3, rfl, hI, hw⟩
  have C3 : Hid (Chg [] w w3) := hide (C2.out.trans hw)
  have A3 := hide hI
  clear hw hI
  go_wp2_with fail
  refine (HR2.out _ _ A3.out).mono ?_
  rintro e w4 ⟨rfl, hw⟩
  have C4 : Hid (Chg [] w w4) := hide (C3.out.trans hw)
  have A4 := hide (A3.out.keep hw)
  clear hw 
  go_wp2_with fail
  refine (HTb.out _ C4.out).mono ?_
  rintro e w5 ⟨rfl, hw⟩
  have C5 : Hid (Chg [] w w5) := hide (C4.out.trans hw)
  clear hw 
  go_wp2_with fail
  refine (HAw.out _).mono ?_
  rintro e w6 ⟨rfl, hw⟩
  have C6 : Hid (Chg [] w w6) := hide (C5.out.trans hw)
  clear hw 
  go_wp2
  go_ret
  exact ⟨rfl, C6.out⟩

set_option maxRecDepth 100000 in
set_option maxHeartbeats 1000000 in
theorem ranks_good (v : Value) (t : List (List Int)) (w : World) (hs : See2 w v t) (htl : t.length ≤ 9223372036854775807) (hrl : ∀ r ∈ t, r.length ≤ 9223372036854775807) (ht : T.isTab t = true) :
    Calls Try.prog 4 #[v] w (Ret (.bool true) w) := by
  have HT1 := hide fun ws (hw : Chg [] w ws) => table_any v t ws (hs.keep hw) htl
  have HTb := hide fun ws (hw : Chg [] w ws) => Table_any v t ws (hs.keep hw) hrl
  have HR0 := hide fun v' ws (h : See2 ws v' (T.cut t)) => Rank_any v' (T.cut t) ws h (cut_tiny t).1 (cut_tiny t).2
  have HR2 := hide fun v' ws (h : See2 ws v' (T.cut t)) => Rank2_any v' (T.cut t) ws h (cut_tiny t).1 (cut_tiny t).2
  have HAw := hide fun ws => awake_any ws
  rw [ht] at HTb
  have h0 : ∀ p, rankV p (T.cut t) = .tuple #[.int .i64 (rankN p t : Int), .int .i64 0] := fun p => by unfold rankV; rw [T.isTab_cut, ht, if_pos rfl, T.cut_of_isTab ht]
  rw [h0] at HR0 HR2
  have HRR := hide fun ws (hw : Chg [] w ws) => RRank_any v t ws (hs.keep hw) ht
  have HRR2 := hide fun ws (hw : Chg [] w ws) => RRank2_any v t ws (hs.keep hw) ht
  generalize rankN 0 t = n at *
  generalize rankN 2 t = m at *
  have d0 : ((n : Int) == (n : Int)) = true := by simp
  have d2 : ((m : Int) == (m : Int)) = true := by simp
  clear hs htl hrl ht h0
  go_enter Try.func4, Try.ntmps4
  have C0 : Hid (Chg [] w w) := hide (Chg.refl _ _)
  go_wp2_with fail
  refine (HT1.out _ C0.out).mono ?_
  rintro e w1 ⟨v1, rfl, hI, hw⟩
  have C1 : Hid (Chg [] w w1) := hide (C0.out.trans hw)
  have A1 := hide hI
  clear hw hI
  go_wp2_with fail
  refine (HR0.out _ _ A1.out).mono ?_
  rintro e w2 ⟨rfl, hw⟩
  have C2 : Hid (Chg [] w w2) := hide (C1.out.trans hw)
  have A2 := hide (A1.out.keep hw)
  clear hw 
  go_wp2_with fail
  refine (HT1.out _ C2.out).mono ?_
  rintro e w3 ⟨v3, rfl, hI, hw⟩
  have C3 : Hid (Chg [] w w3) := hide (C2.out.trans hw)
  have A3 := hide hI
  clear hw hI
  go_wp2_with fail
  refine (HR2.out _ _ A3.out).mono ?_
  rintro e w4 ⟨rfl, hw⟩
  have C4 : Hid (Chg [] w w4) := hide (C3.out.trans hw)
  have A4 := hide (A3.out.keep hw)
  clear hw 
  go_wp2_with fail
  refine (HTb.out _ C4.out).mono ?_
  rintro e w5 ⟨rfl, hw⟩
  have C5 : Hid (Chg [] w w5) := hide (C4.out.trans hw)
  clear hw 
  go_wp2_with fail
  refine (HRR.out _ C5.out).mono ?_
  rintro e w6 ⟨rfl, hw⟩
  have C6 : Hid (Chg [] w w6) := hide (C5.out.trans hw)
  clear hw 
  go_wp2_with fail
  refine (HRR2.out _ C6.out).mono ?_
  rintro e w7 ⟨rfl, hw⟩
  have C7 : Hid (Chg [] w w7) := hide (C6.out.trans hw)
  clear hw 
  go_wp2_with fail
  refine (HAw.out _).mono ?_
  rintro e w8 ⟨rfl, hw⟩
  have C8 : Hid (Chg [] w w8) := hide (C7.out.trans hw)
  clear hw 
  go_wp2
  go_ret
  exact ⟨rfl, C8.out⟩

theorem talkRanks_walk (v : Value) (w : World) (hv : IsRows w v) : Calls Try.prog 4 #[v] w (Ret (.bool true) w) := by
  obtain ⟨t, hs, htl, hrl⟩ := hv
  cases ht : T.isTab t with
  | false => exact ranks_bad v t w hs htl hrl ht
  | true => exact ranks_good v t w hs htl hrl ht
end Go.Proofs.Ytaapamoglgpocaa
