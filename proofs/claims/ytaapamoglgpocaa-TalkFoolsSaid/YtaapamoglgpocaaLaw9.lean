/- Walk: the statement TalkFools. -/
import Derived.Test.YtaapamoglgpocaaFoolsP
import Derived.Test.YtaapamoglgpocaaFool5
namespace Go.Proofs.Ytaapamoglgpocaa
open Go.RowKit

set_option maxRecDepth 100000 in
set_option maxHeartbeats 4000000 in
theorem fools_bad1 (v u : Value) (t : List (List Int)) (x : Int) (l : List Pr) (w : World) (hs : See2 w v t) (htl : t.length ≤ 9223372036854775807) (hrl : ∀ r ∈ t, r.length ≤ 9223372036854775807) (hu : SeeP w u l) (ht : T.isTab t = false) :
    Calls Try.prog 9 #[v, .int .i64 x, u] w (Ret (.bool true) w) := by
  have HT1 := hide fun ws (hw : Chg [] w ws) => table_any v t ws (hs.keep hw) htl
  have HAw := hide fun ws => awake_any ws
  have HTb := hide fun ws (hw : Chg [] w ws) => Table_any v t ws (hs.keep hw) hrl
  have HPa := hide fun ws (hw : Chg [] w ws) => pairs_any u l ws (hu.keep hw)
  have HFo := hide fun v' ws (h : See2 ws v' (T.cut t)) => Fool_bad v' (T.cut t) x ws h (cut_small t).1 (cut_small t).2 (by rw [T.isTab_cut]; rw [ht]; rfl)
  have HFs := hide fun v' u' ws (h : See2 ws v' (T.cut t)) (h2 : SeeP ws u' (l.take 40)) => Fools_bad v' u' (T.cut t) x _ ws h (cut_small t).1 (cut_small t).2 (by rw [T.isTab_cut]; rw [ht]; rfl) h2
  rw [ht] at HTb
  obtain ⟨ao, cap, rfl⟩ := hs.shape
  obtain ⟨uo, uc, rfl, huc⟩ := hu.shape
  clear hs htl hrl hu ht
  generalize t.length = n at *
  generalize l.length = m at *
  go_enter Try.func9, Try.ntmps9
  have C0 : Hid (Chg [] w w) := hide (Chg.refl _ _)
  go_wp2_with fail
  refine (HT1.out _ C0.out).mono ?_
  rintro e w1 ⟨v1, rfl, hI, hw⟩
  have C1 : Hid (Chg [] w w1) := hide (C0.out.trans hw)
  have A1 := hide hI
  clear hw hI
  go_wp2_with fail
  refine (HFo.out _ _ A1.out).mono ?_
  rintro e w2 ⟨rfl, hw⟩
  have C2 : Hid (Chg [] w w2) := hide (C1.out.trans hw)
  have A2 := hide (A1.out.keep hw)
  clear hw 
  go_wp2_with fail
  refine (HT1.out _ C2.out).mono ?_
  rintro e w3 ⟨v3, rfl, hI, hw⟩
  have C3 : Hid (Chg [] w w3) := hide (C2.out.trans hw)
  have A3 := hide hI
  clear hw hI
  go_wp2_with fail
  refine (HPa.out _ C3.out).mono ?_
  rintro e w4 ⟨v4, rfl, hp, hw⟩
  have C4 : Hid (Chg [] w w4) := hide (C3.out.trans hw)
  have A4 := hide (A3.out.keep hw)
  have P4 := hide hp
  clear hw hp
  go_wp2_with fail
  refine (HFs.out _ _ _ A4.out P4.out).mono ?_
  rintro e w5 ⟨rfl, hw⟩
  have C5 : Hid (Chg [] w w5) := hide (C4.out.trans hw)
  have A5 := hide (A4.out.keep hw)
  have P5 := hide (P4.out.keep hw)
  clear hw 
  go_wp2_with fail
  refine (HTb.out _ C5.out).mono ?_
  rintro e w6 ⟨rfl, hw⟩
  have C6 : Hid (Chg [] w w6) := hide (C5.out.trans hw)
  clear hw 
  go_wp2_with fail
  refine (HAw.out _).mono ?_
  rintro e w7 ⟨rfl, hw⟩
  have C7 : Hid (Chg [] w w7) := hide (C6.out.trans hw)
  clear hw 
  go_wp2
  go_ret
  exact ⟨rfl, C7.out⟩

set_option maxRecDepth 100000 in
set_option maxHeartbeats 4000000 in
theorem fools_bad2 (v u : Value) (t : List (List Int)) (x : Int) (l : List Pr) (w : World) (hs : See2 w v t) (htl : t.length ≤ 9223372036854775807) (hrl : ∀ r ∈ t, r.length ≤ 9223372036854775807) (hu : SeeP w u l) (ht : T.isTab t = true) (hx : decide (x = 0 ∨ x = 1) = false) :
    Calls Try.prog 9 #[v, .int .i64 x, u] w (Ret (.bool true) w) := by
  have HT1 := hide fun ws (hw : Chg [] w ws) => table_any v t ws (hs.keep hw) htl
  have HAw := hide fun ws => awake_any ws
  have HTb := hide fun ws (hw : Chg [] w ws) => Table_any v t ws (hs.keep hw) hrl
  have HPa := hide fun ws (hw : Chg [] w ws) => pairs_any u l ws (hu.keep hw)
  have HFo := hide fun v' ws (h : See2 ws v' (T.cut t)) => Fool_bad v' (T.cut t) x ws h (cut_small t).1 (cut_small t).2 (by rw [T.isTab_cut]; rw [ht, hx]; rfl)
  have HFs := hide fun v' u' ws (h : See2 ws v' (T.cut t)) (h2 : SeeP ws u' (l.take 40)) => Fools_bad v' u' (T.cut t) x _ ws h (cut_small t).1 (cut_small t).2 (by rw [T.isTab_cut]; rw [ht, hx]; rfl) h2
  rw [ht] at HTb
  have HRv := hide fun ws => RValue_any x ws
  rw [hx] at HRv
  obtain ⟨ao, cap, rfl⟩ := hs.shape
  obtain ⟨uo, uc, rfl, huc⟩ := hu.shape
  clear hs htl hrl hu ht hx
  generalize t.length = n at *
  generalize l.length = m at *
  go_enter Try.func9, Try.ntmps9
  have C0 : Hid (Chg [] w w) := hide (Chg.refl _ _)
  go_wp2_with fail
  refine (HT1.out _ C0.out).mono ?_
  rintro e w1 ⟨v1, rfl, hI, hw⟩
  have C1 : Hid (Chg [] w w1) := hide (C0.out.trans hw)
  have A1 := hide hI
  clear hw hI
  go_wp2_with fail
  refine (HFo.out _ _ A1.out).mono ?_
  rintro e w2 ⟨rfl, hw⟩
  have C2 : Hid (Chg [] w w2) := hide (C1.out.trans hw)
  have A2 := hide (A1.out.keep hw)
  clear hw 
  go_wp2_with fail
  refine (HT1.out _ C2.out).mono ?_
  rintro e w3 ⟨v3, rfl, hI, hw⟩
  have C3 : Hid (Chg [] w w3) := hide (C2.out.trans hw)
  have A3 := hide hI
  clear hw hI
  go_wp2_with fail
  refine (HPa.out _ C3.out).mono ?_
  rintro e w4 ⟨v4, rfl, hp, hw⟩
  have C4 : Hid (Chg [] w w4) := hide (C3.out.trans hw)
  have A4 := hide (A3.out.keep hw)
  have P4 := hide hp
  clear hw hp
  go_wp2_with fail
  refine (HFs.out _ _ _ A4.out P4.out).mono ?_
  rintro e w5 ⟨rfl, hw⟩
  have C5 : Hid (Chg [] w w5) := hide (C4.out.trans hw)
  have A5 := hide (A4.out.keep hw)
  have P5 := hide (P4.out.keep hw)
  clear hw 
  go_wp2_with fail
  refine (HTb.out _ C5.out).mono ?_
  rintro e w6 ⟨rfl, hw⟩
  have C6 : Hid (Chg [] w w6) := hide (C5.out.trans hw)
  clear hw 
  go_wp2_with fail
  refine (HRv.out _).mono ?_
  rintro e w7 ⟨rfl, hw⟩
  have C7 : Hid (Chg [] w w7) := hide (C6.out.trans hw)
  clear hw 
  go_wp2_with fail
  refine (HAw.out _).mono ?_
  rintro e w8 ⟨rfl, hw⟩
  have C8 : Hid (Chg [] w w8) := hide (C7.out.trans hw)
  clear hw 
  go_wp2
  go_ret
  exact ⟨rfl, C8.out⟩

set_option maxRecDepth 100000 in
set_option maxHeartbeats 4000000 in
theorem fools_good (v u : Value) (t : List (List Int)) (x : Int) (l : List Pr) (w : World) (hs : See2 w v t) (htl : t.length ≤ 9223372036854775807) (hrl : ∀ r ∈ t, r.length ≤ 9223372036854775807) (hu : SeeP w u l) (hll : l.length ≤ 9223372036854775807) (ht : T.isTab t = true) (hx : x = 0 ∨ x = 1) :
    Calls Try.prog 9 #[v, .int .i64 x, u] w (Ret (.bool true) w) := by
  have HT1 := hide fun ws (hw : Chg [] w ws) => table_any v t ws (hs.keep hw) htl
  have HAw := hide fun ws => awake_any ws
  have HTb := hide fun ws (hw : Chg [] w ws) => Table_any v t ws (hs.keep hw) hrl
  have HPa := hide fun ws (hw : Chg [] w ws) => pairs_any u l ws (hu.keep hw)
  have hcs := cut_small t
  have hce := T.cut_of_isTab ht
  rw [hce] at HT1 hcs
  have HFo := hide fun v' ws (h : See2 ws v' t) => Fool_good v' t x ws h hcs.1 hcs.2 ht hx
  have HFs := hide fun v' u' ws (h : See2 ws v' t) (h2 : SeeP ws u' (l.take 40)) => Fools_good v' u' t x _ ws h hcs.1 hcs.2 ht hx h2 (by rw [List.length_take]; omega)
  rw [fools_take (ents_len ht x)] at HFs
  have HRf := hide fun ws (hw : Chg [] w ws) => RFool_any v t x ws (hs.keep hw) ht
  rw [rfoolM_eq] at HRf
  have HRs := hide fun ws (hw : Chg [] w ws) => RFools_any v u t x l ws (hs.keep hw) ht (hu.keep hw) hll
  rw [ht] at HTb
  have HRv := hide fun ws => RValue_any x ws
  rw [decide_eq_true hx] at HRv
  have hfl : (foolM t x).length ≤ 1000000 := by
    have := growM_len t x (ents t x) [] [] (by have := ents_len ht x; simp; omega) (by simp)
    exact Nat.le_trans this (by decide)
  have HEq := hide fun v' u' ws (h1 : SeeP ws v' (foolM t x)) (h2 : SeeP ws u' (foolM t x)) => EqualP_any v' u' _ _ ws h1 h2 hfl
  rw [decide_eq_true rfl] at HEq
  generalize foolM t x = F at *
  generalize foolsM t x l = b at *
  obtain ⟨ao, cap, rfl⟩ := hs.shape
  obtain ⟨uo, uc, rfl, huc⟩ := hu.shape
  clear hs htl hrl hu hll ht hx hcs hce hfl
  generalize t.length = n at *
  generalize l.length = m at *
  go_enter Try.func9, Try.ntmps9
  have C0 : Hid (Chg [] w w) := hide (Chg.refl _ _)
  go_wp2_with fail
  refine (HT1.out _ C0.out).mono ?_
  rintro e w1 ⟨v1, rfl, hI, hw⟩
  have C1 : Hid (Chg [] w w1) := hide (C0.out.trans hw)
  have A1 := hide hI
  clear hw hI
  go_wp2_with fail
  refine (HFo.out _ _ A1.out).mono ?_
  rintro e w2 ⟨v2, rfl, hs2, hw⟩
  have C2 : Hid (Chg [] w w2) := hide (C1.out.trans hw)
  have A2 := hide (A1.out.keep hw)
  have B2 := hide hs2
  clear hw hs2
  go_wp2_with fail
  refine (HT1.out _ C2.out).mono ?_
  rintro e w3 ⟨v3, rfl, hI, hw⟩
  have C3 : Hid (Chg [] w w3) := hide (C2.out.trans hw)
  have B3 := hide (B2.out.keep hw)
  have A3 := hide hI
  clear hw hI
  go_wp2_with fail
  refine (HPa.out _ C3.out).mono ?_
  rintro e w4 ⟨v4, rfl, hp, hw⟩
  have C4 : Hid (Chg [] w w4) := hide (C3.out.trans hw)
  have B4 := hide (B3.out.keep hw)
  have A4 := hide (A3.out.keep hw)
  have P4 := hide hp
  clear hw hp
  go_wp2_with fail
  refine (HFs.out _ _ _ A4.out P4.out).mono ?_
  rintro e w5 ⟨rfl, hw⟩
  have C5 : Hid (Chg [] w w5) := hide (C4.out.trans hw)
  have B5 := hide (B4.out.keep hw)
  have A5 := hide (A4.out.keep hw)
  have P5 := hide (P4.out.keep hw)
  clear hw 
  go_wp2_with fail
  refine (HTb.out _ C5.out).mono ?_
  rintro e w6 ⟨rfl, hw⟩
  have C6 : Hid (Chg [] w w6) := hide (C5.out.trans hw)
  have B6 := hide (B5.out.keep hw)
  clear hw 
  go_wp2_with fail
  refine (HRv.out _).mono ?_
  rintro e w7 ⟨rfl, hw⟩
  have C7 : Hid (Chg [] w w7) := hide (C6.out.trans hw)
  have B7 := hide (B6.out.keep hw)
  clear hw 
  go_wp2_with fail
  refine (HRf.out _ C7.out).mono ?_
  rintro e w8 ⟨v8, rfl, hs8, hw⟩
  have C8 : Hid (Chg [] w w8) := hide (C7.out.trans hw)
  have B8 := hide (B7.out.keep hw)
  have D8 := hide hs8
  clear hw hs8
  go_wp2_with fail
  refine (HEq.out _ _ _ B8.out D8.out).mono ?_
  rintro e w9 ⟨rfl, hw⟩
  have C9 : Hid (Chg [] w w9) := hide (C8.out.trans hw)
  have B9 := hide (B8.out.keep hw)
  have D9 := hide (D8.out.keep hw)
  clear hw 
  go_wp2_with fail
  refine (HRs.out _ C9.out).mono ?_
  rintro e w10 ⟨rfl, hw⟩
  have C10 : Hid (Chg [] w w10) := hide (C9.out.trans hw)
  clear hw 
  cases b
  all_goals (
    go_wp2_with fail
    refine (HAw.out _).mono ?_
    rintro e w11 ⟨rfl, hw⟩
    have C11 : Hid (Chg [] w w11) := hide (C10.out.trans hw)
    clear hw 
    go_wp2
    go_ret
    exact ⟨rfl, C11.out⟩)

theorem talkFools_walk (v x u : Value) (w : World) (hv : IsRows w v) (hx : IsInt x) (hu : IsPairs w u) : Calls Try.prog 9 #[v, x, u] w (Ret (.bool true) w) := by
  obtain ⟨t, hs, htl, hrl⟩ := hv
  obtain ⟨y, rfl, _⟩ := hx
  obtain ⟨l, hl, hll⟩ := hu
  cases ht : T.isTab t with
  | false => exact fools_bad1 v u t y l w hs htl hrl hl ht
  | true =>
    by_cases hy : y = 0 ∨ y = 1
    · exact fools_good v u t y l w hs htl hrl hl hll ht hy
    · exact fools_bad2 v u t y l w hs htl hrl hl ht (decide_eq_false hy)
end Go.Proofs.Ytaapamoglgpocaa
