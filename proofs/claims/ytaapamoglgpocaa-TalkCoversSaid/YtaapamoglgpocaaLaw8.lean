/- Walk: the statement TalkCovers. -/
import Derived.Test.YtaapamoglgpocaaCo3
import Derived.Test.YtaapamoglgpocaaFoolsP
import Derived.Test.YtaapamoglgpocaaOpenF
namespace Go.Proofs.Ytaapamoglgpocaa
open Go.RowKit

set_option maxRecDepth 100000 in
set_option maxHeartbeats 4000000 in
theorem covers_bad1 (v u : Value) (t : List (List Int)) (x : Int) (l : List Pr) (w : World) (hs : See2 w v t) (htl : t.length ≤ 9223372036854775807) (hrl : ∀ r ∈ t, r.length ≤ 9223372036854775807) (hu : SeeP w u l) (ht : T.isTab t = false) :
    Calls Try.prog 12 #[v, .int .i64 x, u] w (Ret (.bool true) w) := by
  have HT1 := hide fun ws (hw : Chg [] w ws) => table_any v t ws (hs.keep hw) htl
  have HAw := hide fun ws => awake_any ws
  have HTb := hide fun ws (hw : Chg [] w ws) => Table_any v t ws (hs.keep hw) hrl
  have HPa := hide fun ws (hw : Chg [] w ws) => pairs_any u l ws (hu.keep hw)
  have HCo := hide fun v' ws (h : See2 ws v' (T.cut t)) => Cover_bad v' (T.cut t) x ws h (cut_small t).1 (cut_small t).2 (by rw [T.isTab_cut]; rw [ht]; rfl)
  have HCs := hide fun v' u' ws (h : See2 ws v' (T.cut t)) (h2 : SeeP ws u' (l.take 40)) => Covers_bad v' u' (T.cut t) x _ ws h h2 (cut_small t).1 (cut_small t).2 (by rw [T.isTab_cut]; rw [ht]; rfl)
  rw [ht] at HTb
  obtain ⟨ao, cap, rfl⟩ := hs.shape
  obtain ⟨uo, uc, rfl, huc⟩ := hu.shape
  clear hs htl hrl hu ht
  generalize t.length = n at *
  generalize l.length = m at *
  go_enter Try.func12, Try.ntmps12
  have C0 : Hid (Chg [] w w) := hide (Chg.refl _ _)
  go_wp2_with fail
  refine (HT1.out _ C0.out).mono ?_
  rintro e w1 ⟨v1, rfl, hI, hw⟩
  have C1 : Hid (Chg [] w w1) := hide (C0.out.trans hw)
  have A1 := hide hI
  clear hw hI
  go_wp2_with fail
  refine (HCo.out _ _ A1.out).mono ?_
  rintro e w2 ⟨rfl, hw⟩
  have C2 : Hid (Chg [] w w2) := hide (C1.out.trans hw)
  have A2 := hide (A1.out.keep hw)
  clear hw 
  go_wp2_with fail
  refine (HT1.out _ C2.out).mono ?_
  rintro e w3 ⟨v3, rfl, hI, hw⟩
  have C3 : Hid (Chg [] w w3) := hide (C2.out.trans hw)
  have A3 := hide hI
  clear hw hI
  go_wp2_with fail
  refine (HPa.out _ C3.out).mono ?_
  rintro e w4 ⟨v4, rfl, hp, hw⟩
  have C4 : Hid (Chg [] w w4) := hide (C3.out.trans hw)
  have A4 := hide (A3.out.keep hw)
  have P4 := hide hp
  clear hw hp
  go_wp2_with fail
  refine (HCs.out _ _ _ A4.out P4.out).mono ?_
  rintro e w5 ⟨rfl, hw⟩
  have C5 : Hid (Chg [] w w5) := hide (C4.out.trans hw)
  have A5 := hide (A4.out.keep hw)
  have P5 := hide (P4.out.keep hw)
  clear hw 
  go_wp2_with fail
  refine (HTb.out _ C5.out).mono ?_
  rintro e w6 ⟨rfl, hw⟩
  have C6 : Hid (Chg [] w w6) := hide (C5.out.trans hw)
  clear hw 
  go_wp2_with fail
  refine (HAw.out _).mono ?_
  rintro e w7 ⟨rfl, hw⟩
  have C7 : Hid (Chg [] w w7) := hide (C6.out.trans hw)
  clear hw 
  go_wp2
  go_ret
  exact ⟨rfl, C7.out⟩

set_option maxRecDepth 100000 in
set_option maxHeartbeats 4000000 in
theorem covers_bad2 (v u : Value) (t : List (List Int)) (x : Int) (l : List Pr) (w : World) (hs : See2 w v t) (htl : t.length ≤ 9223372036854775807) (hrl : ∀ r ∈ t, r.length ≤ 9223372036854775807) (hu : SeeP w u l) (ht : T.isTab t = true) (hx : decide (x = 0 ∨ x = 1) = false) :
    Calls Try.prog 12 #[v, .int .i64 x, u] w (Ret (.bool true) w) := by
  have HT1 := hide fun ws (hw : Chg [] w ws) => table_any v t ws (hs.keep hw) htl
  have HAw := hide fun ws => awake_any ws
  have HTb := hide fun ws (hw : Chg [] w ws) => Table_any v t ws (hs.keep hw) hrl
  have HPa := hide fun ws (hw : Chg [] w ws) => pairs_any u l ws (hu.keep hw)
  have HCo := hide fun v' ws (h : See2 ws v' (T.cut t)) => Cover_bad v' (T.cut t) x ws h (cut_small t).1 (cut_small t).2 (by rw [T.isTab_cut]; rw [ht, hx]; rfl)
  have HCs := hide fun v' u' ws (h : See2 ws v' (T.cut t)) (h2 : SeeP ws u' (l.take 40)) => Covers_bad v' u' (T.cut t) x _ ws h h2 (cut_small t).1 (cut_small t).2 (by rw [T.isTab_cut]; rw [ht, hx]; rfl)
  rw [ht] at HTb
  have HRv := hide fun ws => RValue_any x ws
  rw [hx] at HRv
  obtain ⟨ao, cap, rfl⟩ := hs.shape
  obtain ⟨uo, uc, rfl, huc⟩ := hu.shape
  clear hs htl hrl hu ht hx
  generalize t.length = n at *
  generalize l.length = m at *
  go_enter Try.func12, Try.ntmps12
  have C0 : Hid (Chg [] w w) := hide (Chg.refl _ _)
  go_wp2_with fail
  refine (HT1.out _ C0.out).mono ?_
  rintro e w1 ⟨v1, rfl, hI, hw⟩
  have C1 : Hid (Chg [] w w1) := hide (C0.out.trans hw)
  have A1 := hide hI
  clear hw hI
  go_wp2_with fail
  refine (HCo.out _ _ A1.out).mono ?_
  rintro e w2 ⟨rfl, hw⟩
  have C2 : Hid (Chg [] w w2) := hide (C1.out.trans hw)
  have A2 := hide (A1.out.keep hw)
  clear hw 
  go_wp2_with fail
  refine (HT1.out _ C2.out).mono ?_
  rintro e w3 ⟨v3, rfl, hI, hw⟩
  have C3 : Hid (Chg [] w w3) := hide (C2.out.trans hw)
  have A3 := hide hI
  clear hw hI
  go_wp2_with fail
  refine (HPa.out _ C3.out).mono ?_
  rintro e w4 ⟨v4, rfl, hp, hw⟩
  have C4 : Hid (Chg [] w w4) := hide (C3.out.trans hw)
  have A4 := hide (A3.out.keep hw)
  have P4 := hide hp
  clear hw hp
  go_wp2_with fail
  refine (HCs.out _ _ _ A4.out P4.out).mono ?_
  rintro e w5 ⟨rfl, hw⟩
  have C5 : Hid (Chg [] w w5) := hide (C4.out.trans hw)
  have A5 := hide (A4.out.keep hw)
  have P5 := hide (P4.out.keep hw)
  clear hw 
  go_wp2_with fail
  refine (HTb.out _ C5.out).mono ?_
  rintro e w6 ⟨rfl, hw⟩
  have C6 : Hid (Chg [] w w6) := hide (C5.out.trans hw)
  clear hw 
  go_wp2_with fail
  refine (HRv.out _).mono ?_
  rintro e w7 ⟨rfl, hw⟩
  have C7 : Hid (Chg [] w w7) := hide (C6.out.trans hw)
  clear hw 
  go_wp2_with fail
  refine (HAw.out _).mono ?_
  rintro e w8 ⟨rfl, hw⟩
  have C8 : Hid (Chg [] w w8) := hide (C7.out.trans hw)
  clear hw 
  go_wp2
  go_ret
  exact ⟨rfl, C8.out⟩

set_option maxRecDepth 100000 in
set_option maxHeartbeats 4000000 in
theorem covers_good (v u : Value) (t : List (List Int)) (x : Int) (l : List Pr) (w : World) (hs : See2 w v t) (htl : t.length ≤ 9223372036854775807) (hrl : ∀ r ∈ t, r.length ≤ 9223372036854775807) (hu : SeeP w u l) (hll : l.length ≤ 9223372036854775807) (hl63 : ∀ x ∈ l, fits64 x.1 ∧ fits64 x.2) (ht : T.isTab t = true) (hx : x = 0 ∨ x = 1) :
    Calls Try.prog 12 #[v, .int .i64 x, u] w (Ret (.bool true) w) := by
  have HT1 := hide fun ws (hw : Chg [] w ws) => table_any v t ws (hs.keep hw) htl
  have HAw := hide fun ws => awake_any ws
  have HTb := hide fun ws (hw : Chg [] w ws) => Table_any v t ws (hs.keep hw) hrl
  have HPa := hide fun ws (hw : Chg [] w ws) => pairs_any u l ws (hu.keep hw)
  have hcs := cut_small t
  have hce := T.cut_of_isTab ht
  rw [hce] at HT1 hcs
  have HCo := hide fun v' ws (h : See2 ws v' t) => Cover_good v' t x ws h hcs.1 hcs.2 ht hx
  have HCs := hide fun v' u' ws (h : See2 ws v' t) (h2 : SeeP ws u' (l.take 40)) => Covers_good v' u' t x _ ws h h2 hcs.1 hcs.2 (by rw [List.length_take]; omega) (fun y hy => by
    have := hl63 y (List.mem_of_mem_take hy)
    unfold fits64 at this
    omega) ht hx
  have HRf := hide fun ws (hw : Chg [] w ws) => Fewest_any v t x ws (hs.keep hw) ht
  have HRs := hide fun ws (hw : Chg [] w ws) (h : l.length ≤ 1000000) => RCovers_any v u t x l ws (hs.keep hw) (hu.keep hw) ht h
  have HRc := hide fun c L ws (hw : Chg [] w ws) (h : SeeP ws c L) (h' : L.length ≤ 1000000) => RCovers_any v c t x L ws (hs.keep hw) h ht h'
  rw [ht] at HTb
  have HRv := hide fun ws => RValue_any x ws
  rw [decide_eq_true hx] at HRv
  have hK17 := fewN_le (setsN t x) false (entN t x)
  have HTk : Hid (¬ 40 < l.length → covB t x (l.take 40) = covB t x l) := hide fun h => by rw [List.take_of_length_le (by omega)]
  generalize fewN (setsN t x) false (entN t x) = K at *
  obtain ⟨ao, cap, rfl⟩ := hs.shape
  obtain ⟨uo, uc, rfl, huc⟩ := hu.shape
  generalize covB t x (l.take 40) = b at *
  clear hs htl hrl hu hl63 ht hx hcs hce
  generalize t.length = n at *
  generalize l.length = m at *
  go_enter Try.func12, Try.ntmps12
  have C0 : Hid (Chg [] w w) := hide (Chg.refl _ _)
  go_wp2_with fail
  refine (HT1.out _ C0.out).mono ?_
  rintro e w1 ⟨v1, rfl, hI, hw⟩
  have C1 : Hid (Chg [] w w1) := hide (C0.out.trans hw)
  have A1 := hide hI
  clear hw hI
  go_wp2_with fail
  refine (HCo.out _ _ A1.out).mono ?_
  rintro e w2 ⟨vc, L, rfl, hrow, hw, q1, q2, _⟩
  have C2 : Hid (Chg [] w w2) := hide (C1.out.trans hw)
  have B2 := hide (pairs_see hrow)
  obtain ⟨co, cc, rfl, _⟩ := row_shape hrow
  rw [List.length_map] at *
  have hL17 : L.length ≤ 17 := by omega
  have HQ := hide (And.intro q1 q2)
  clear hw hrow q1 q2
  go_wp2_with fail
  refine (HT1.out _ C2.out).mono ?_
  rintro e w3 ⟨v3, rfl, hI, hw⟩
  have C3 : Hid (Chg [] w w3) := hide (C2.out.trans hw)
  have B3 := hide (B2.out.keep hw)
  have A3 := hide hI
  clear hw hI
  go_wp2_with fail
  refine (HPa.out _ C3.out).mono ?_
  rintro e w4 ⟨v4, rfl, hp, hw⟩
  have C4 : Hid (Chg [] w w4) := hide (C3.out.trans hw)
  have B4 := hide (B3.out.keep hw)
  have A4 := hide (A3.out.keep hw)
  have P4 := hide hp
  clear hw hp
  go_wp2_with fail
  refine (HCs.out _ _ _ A4.out P4.out).mono ?_
  rintro e w5 ⟨rfl, hw⟩
  have C5 : Hid (Chg [] w w5) := hide (C4.out.trans hw)
  have B5 := hide (B4.out.keep hw)
  have A5 := hide (A4.out.keep hw)
  have P5 := hide (P4.out.keep hw)
  clear hw 
  go_wp2_with fail
  refine (HTb.out _ C5.out).mono ?_
  rintro e w6 ⟨rfl, hw⟩
  have C6 : Hid (Chg [] w w6) := hide (C5.out.trans hw)
  have B6 := hide (B5.out.keep hw)
  clear hw 
  go_wp2_with fail
  refine (HRv.out _).mono ?_
  rintro e w7 ⟨rfl, hw⟩
  have C7 : Hid (Chg [] w w7) := hide (C6.out.trans hw)
  have B7 := hide (B6.out.keep hw)
  clear hw 
  have HRc2 := hide fun c ws hw (h : SeeP ws c (L.map toP)) => HRc.out c (L.map toP) ws hw h (by rw [List.length_map]; omega)
  rw [HQ.out.1] at HRc2
  have hKn : L.length = K := HQ.out.2
  have HQ1 := hide HQ.out.1
  clear HQ HRc
  generalize L.length = nl at *
  subst hKn
  have dn : ((nl : Int) != (nl : Int)) = false := by simp
  go_wp2_with fail
  refine (HRc2.out _ _ C7.out B7.out).mono ?_
  rintro e w8 ⟨rfl, hw⟩
  have C8 : Hid (Chg [] w w8) := hide (C7.out.trans hw)
  have B8 := hide (B7.out.keep hw)
  clear hw 
  go_wp2_with fail
  refine (HRf.out _ C8.out).mono ?_
  rintro e w9 ⟨rfl, hw⟩
  have C9 : Hid (Chg [] w w9) := hide (C8.out.trans hw)
  clear hw 
  go_wp2_with fail
  refine (HAw.out _).mono ?_
  rintro e w10 ⟨rfl, hw⟩
  have C10 : Hid (Chg [] w w10) := hide (C9.out.trans hw)
  clear hw 
  by_cases h40 : 40 < m
  · have d40 : decide ((40 : Int) < (m : Int)) = true := by simp; omega
    have HM := hide h40
    clear HTk h40
    go_wp2
    go_ret
    exact ⟨rfl, C10.out⟩
  · have d40 : decide ((40 : Int) < (m : Int)) = false := by simp; omega
    have hb := HTk.out h40
    have HR2 := hide fun ws hw => HRs.out ws hw (by omega)
    rw [← hb] at HR2
    clear HTk h40 hb HRs
    cases b
    all_goals (
    go_wp2_with fail
    refine (HR2.out _ C10.out).mono ?_
    rintro e w11 ⟨rfl, hw⟩
    have C11 : Hid (Chg [] w w11) := hide (C10.out.trans hw)
    clear hw 
    go_wp2
    go_ret
    exact ⟨rfl, C11.out⟩)

theorem talkCovers_walk (v x u : Value) (w : World) (hv : IsRows w v) (hx : IsInt x) (hu : IsPairsF w u) : Calls Try.prog 12 #[v, x, u] w (Ret (.bool true) w) := by
  obtain ⟨t, hs, htl, hrl⟩ := hv
  obtain ⟨y, rfl, _⟩ := hx
  obtain ⟨l, hl, hll, hl63⟩ := hu
  cases ht : T.isTab t with
  | false => exact covers_bad1 v u t y l w hs htl hrl hl ht
  | true =>
    by_cases hy : y = 0 ∨ y = 1
    · exact covers_good v u t y l w hs htl hrl hl hll hl63 ht hy
    · exact covers_bad2 v u t y l w hs htl hrl hl ht (decide_eq_false hy)
end Go.Proofs.Ytaapamoglgpocaa
