/- Walk: the statement TalkPlans. -/
import Derived.Test.YtaapamoglgpocaaSaid
import Derived.Test.YtaapamoglgpocaaOpen
import Derived.Test.YtaapamoglgpocaaRLen2
namespace Go.Proofs.Ytaapamoglgpocaa
open Go.RowKit

theorem cut_small (t : List (List Int)) : (∀ r ∈ T.cut t, r.length ≤ 1000000) ∧ (T.cut t).length ≤ 1000000 := by
  refine ⟨fun r hr => ?_, by rw [T.cut_len]; omega⟩
  unfold T.cut at hr
  obtain ⟨x, _, rfl⟩ := List.mem_map.1 hr
  rw [List.length_take]; omega

set_option maxRecDepth 100000 in
set_option maxHeartbeats 1000000 in
theorem talkPlans_walk (v : Value) (w : World) (hv : IsRows w v) : Calls Try.prog 3 #[v] w (Ret (.bool true) w) := by
  obtain ⟨t, hs, htl, hrl⟩ := hv
  have HT1 := hide fun ws (hw : Chg [] w ws) => table_any v t ws (hs.keep hw) htl
  have HTb := hide fun ws (hw : Chg [] w ws) => Table_any v t ws (hs.keep hw) hrl
  have hcs := cut_small t
  have HAw := hide fun ws => awake_any ws
  cases ht : T.isTab t with
  | false =>
    rw [ht] at HTb
    have HPl := hide fun v' ws (h : See2 ws v' (T.cut t)) => Plan_bad v' (T.cut t) ws h hcs.1 hcs.2 (by rw [T.isTab_cut]; exact ht)
    clear hs htl hrl hcs ht
    go_enter Try.func3, Try.ntmps3
    go_wp2_with fail
    refine (HT1.out _ (Chg.refl _ _)).mono ?_
    rintro e w1 ⟨v1, rfl, hI, hw1⟩
    have HI := hide hI
    have C1 := hide hw1
    clear hI hw1
    go_wp2_with fail
    refine (HPl.out _ _ HI.out).mono ?_
    rintro e w2 ⟨rfl, hw2⟩
    have C2 : Hid (Chg [] w w2) := hide (C1.out.trans hw2)
    clear hw2
    go_wp2_with fail
    refine (HTb.out _ C2.out).mono ?_
    rintro e w3 ⟨rfl, hw3⟩
    have C3 : Hid (Chg [] w w3) := hide (C2.out.trans hw3)
    clear hw3
    go_wp2_with fail
    refine (HAw.out _).mono ?_
    rintro e w4 ⟨rfl, hw4⟩
    have C4 : Hid (Chg [] w w4) := hide (C3.out.trans hw4)
    clear hw4
    go_wp2
    go_ret
    exact ⟨rfl, C4.out⟩
  | true =>
    have HPw := hide fun xs (h : Pl t (2 ^ t.length - 1) (2 ^ T.cols t - 1) 0 xs) => Pl.whole ht h
    have HRL := hide fun ws (hw : Chg [] w ws) => RLength_any v t ws (hs.keep hw) ht
    have HRR := hide fun ws (hw : Chg [] w ws) u xs (h : SeeN ws u xs) (hp : isPl xs = true) => RRight_any v u t xs ws (hs.keep hw) h ht hp
    rw [ht] at HTb
    have hce := T.cut_of_isTab ht
    rw [hce] at HT1 hcs
    have HPl := hide fun v' ws (h : See2 ws v' t) => Plan_good v' t ws h hcs.1 hcs.2 ht
    unfold PlanOf at HPl
    generalize hlen : T.len t (2 ^ t.length - 1) (2 ^ T.cols t - 1) = l at *
    clear hs htl hrl hcs ht hce hlen
    go_enter Try.func3, Try.ntmps3
    go_wp2_with fail
    refine (HT1.out _ (Chg.refl _ _)).mono ?_
    rintro e w1 ⟨v1, rfl, hI, hw1⟩
    have HI := hide hI
    have C1 := hide hw1
    clear hI hw1
    go_wp2_with fail
    refine (HPl.out _ _ HI.out).mono ?_
    rintro e w2 ⟨v2, xs, rfl, hP, ho, hw2⟩
    obtain ⟨q1, q2, q3, q4⟩ := HPw.out xs hP
    have C2 : Hid (Chg [] w w2) := hide (C1.out.trans hw2)
    have S2 := hide (nodes_see ho)
    have Q1 := hide q1
    have Q2 := hide q2
    have Q3 := hide q3
    have Q4 := hide q4
    clear hw2 ho hP q1 q2 q3 q4
    go_wp2_with fail
    refine (HTb.out _ C2.out).mono ?_
    rintro e w3 ⟨rfl, hw3⟩
    have C3 : Hid (Chg [] w w3) := hide (C2.out.trans hw3)
    have S3 := hide (S2.out.keep hw3)
    clear hw3
    go_wp2_with fail
    refine (own_copy v2 xs _ S3.out (by have := Q2.out; omega)).mono ?_
    rintro e w4 ⟨v4, rfl, hS4, hw4⟩
    have C4 : Hid (Chg [] w w4) := hide (C3.out.trans hw4)
    have S4 := hide hS4
    clear hw4 hS4
    go_wp2_with fail
    refine (RPlan_any v4 xs _ S4.out (by have := Q2.out; omega)).mono ?_
    rw [Q1.out]
    rintro e w5 ⟨rfl, hw5⟩
    have C5 : Hid (Chg [] w w5) := hide (C4.out.trans hw5)
    have S5 := hide (S4.out.keep hw5)
    clear hw5
    go_wp2_with fail
    refine (HRR.out _ C5.out _ _ S5.out Q1.out).mono ?_
    rw [Q3.out]
    rintro e w6 ⟨rfl, hw6⟩
    have C6 : Hid (Chg [] w w6) := hide (C5.out.trans hw6)
    have S6 := hide (S5.out.keep hw6)
    clear hw6
    go_wp2_with fail
    refine (RDepth_any _ _ _ S6.out Q1.out).mono ?_
    rw [Q4.out]
    rintro e w7 ⟨rfl, hw7⟩
    have C7 : Hid (Chg [] w w7) := hide (C6.out.trans hw7)
    clear hw7
    go_wp2_with fail
    refine (HRL.out _ C7.out).mono ?_
    rintro e w8 ⟨rfl, hw8⟩
    have C8 : Hid (Chg [] w w8) := hide (C7.out.trans hw8)
    clear hw8
    have dd : ((l : Int) == (l : Int)) = true := by simp
    go_wp2_with fail
    refine (HAw.out _).mono ?_
    rintro e w9 ⟨rfl, hw9⟩
    have C9 : Hid (Chg [] w w9) := hide (C8.out.trans hw9)
    clear hw9
    go_wp2
    go_ret
    exact ⟨rfl, C9.out⟩
end Go.Proofs.Ytaapamoglgpocaa
