/- Walk: what is a table. -/
import Derived.Test.YtaapamoglgpocaaRows1
namespace Go.Proofs.Ytaapamoglgpocaa
open Go.RowKit

theorem callV (args : Array Value) (W : World) : (callFunc 97 args).run Try.prog W = .ok (.enter 97 args) W := by kernel_rfl

set_option maxRecDepth 100000 in
set_option maxHeartbeats 1000000 in
theorem badV (u : Value) (r : List Int) (B : Nat) (v : Value) (t : List (List Int)) (w : World) (hu : See w u r) (hl : r.length ≤ 1000000) (hB : w.cell? ⟨B, 0, none⟩ = some v) (hv : See2 w v t) (hne : t ≠ []) (h1 : 1 ≤ T.cols t) (h4 : T.cols t ≤ 4) :
    Calls Try.prog 97 #[u, .pointer (some ⟨B, 0, none⟩)] w (Ret (.bool (!T.rowOk (T.cols t) r)) w) := by
  obtain ⟨ao, cap, rfl⟩ := hu.shape
  obtain ⟨a, cap', rfl, _, hc⟩ := hv.open hne
  obtain ⟨bo, bc, h0⟩ := hc 0 (List.length_pos_iff.2 hne)
  have f0 := (h0 w (Chg.refl _ _)).1
  rw [add_nought, row0] at f0
  have qb : w.cell? ⟨B, 0, none⟩ = some (.slice (some a) t.length cap') := hB
  have HU := hide hu
  have hpos : 0 < t.length := List.length_pos_iff.2 hne
  clear hc h0 hv hu hB hne
  generalize t.length = tl at *
  obtain ⟨c, hce⟩ : ∃ c, c = T.cols t := ⟨_, rfl⟩
  rw [← hce] at f0 h1 h4 ⊢
  clear hce
  by_cases he : r.length = c
  · have hr : r ≠ [] := by rintro rfl; simp at he; omega
    have HMin := hide fun ws (hw : Chg [] w ws) => Min_any _ r ws (HU.out.keep hw) hr hl
    have HMax := hide fun ws (hw : Chg [] w ws) => Max_any _ r ws (HU.out.keep hw) hr hl
    rw [he] at HMin HMax
    have HE := hide he
    rw [he]
    clear hr he hl
    have d0 : ((c : Int) == (c : Int)) = true := by simp
    go_enter Try.func97, Try.ntmps97
    go_wp2_with fail
    refine (HMin.out _ (Chg.refl _ _)).mono ?_
    rintro e w1 ⟨m, rfl, hm, hw1⟩
    have HM := hide hm
    clear hm
    by_cases hm1 : m < 0
    · have d1 : decide (m < 0) = true := by simpa using hm1
      have E : Hid (T.rowOk c r = false) := hide (by
        rw [Bool.eq_false_iff]
        intro h
        have := (T.rowOk_iff.1 h).2 m HM.out.1
        omega)
      go_wp2
      go_ret
      exact ⟨by rw [E.out]; rfl, hw1⟩
    · have d1 : decide (m < 0) = false := by simpa using hm1
      go_wp2_with fail
      refine (HMax.out _ hw1).mono ?_
      rintro e w2 ⟨M, rfl, hM, hw2⟩
      have HM2 := hide hM
      clear hM
      by_cases hM1 : 1 < M
      · have d2 : decide (1 < M) = true := by simpa using hM1
        have E : Hid (T.rowOk c r = false) := hide (by
          rw [Bool.eq_false_iff]
          intro h
          have := (T.rowOk_iff.1 h).2 M HM2.out.1
          omega)
        go_wp2
        go_ret
        exact ⟨by rw [E.out]; rfl, hw1.trans hw2⟩
      · have d2 : decide (1 < M) = false := by simpa using hM1
        have E : Hid (T.rowOk c r = true) := hide (T.rowOk_iff.2 ⟨HE.out, fun x hx => by
          have := HM.out.2 x hx
          have := HM2.out.2 x hx
          omega⟩)
        go_wp2
        go_ret
        exact ⟨by rw [E.out]; rfl, hw1.trans hw2⟩
  · have E : Hid (T.rowOk c r = false) := hide (by
      rw [Bool.eq_false_iff]
      intro h
      exact he (T.rowOk_iff.1 h).1)
    have d0 : ((r.length : Int) == (c : Int)) = false := by simp; omega
    go_enter Try.func97, Try.ntmps97
    go_wp2
    go_ret
    exact ⟨by rw [E.out]; rfl, Chg.refl _ _⟩

set_option maxRecDepth 100000 in
set_option maxHeartbeats 1000000 in
theorem valid_any (v : Value) (t : List (List Int)) (w : World) (hv : See2 w v t) (hl : ∀ r ∈ t, r.length ≤ 1000000) (ht : t.length ≤ 1000000) :
    Calls Try.prog 55 #[v] w (Ret (.bool (T.isTab t)) w) := by
  obtain ⟨ao, cap, rfl⟩ := hv.shape
  by_cases h1 : t.length < 1
  · rw [T.isTab_false (by omega)]
    have d1 : decide ((t.length : Int) < 1) = true := by simp; omega
    clear hv hl
    generalize t.length = n at *
    go_enter Try.func55, Try.ntmps55
    go_wp2
    go_ret
    exact ⟨rfl, (Chg.refl _ _).alloc _⟩
  · have d1 : decide ((t.length : Int) < 1) = false := by simp; omega
    by_cases h2 : 4 < t.length
    · rw [T.isTab_false (by omega)]
      have d2 : decide ((4 : Int) < (t.length : Int)) = true := by simp; omega
      clear hv hl
      generalize t.length = n at *
      go_enter Try.func55, Try.ntmps55
      go_wp2
      go_ret
      exact ⟨rfl, (Chg.refl _ _).alloc _⟩
    · have d2 : decide ((4 : Int) < (t.length : Int)) = false := by simp; omega
      have hne : t ≠ [] := by rintro rfl; simp at h1
      obtain ⟨a, cap', e, _, hc⟩ := hv.open hne
      cases e
      obtain ⟨bo, bc, h0⟩ := hc 0 (by omega)
      have f0 := (h0 _ ((Chg.refl [] w).alloc (.cells #[.slice (some a) t.length cap] 69))).1
      rw [add_nought, row0] at f0
      by_cases h3 : T.cols t < 1
      · rw [T.isTab_false (by omega)]
        have d3 : decide ((T.cols t : Int) < 1) = true := by simp; omega
        clear hv hl hc h0 hne
        generalize T.cols t = c at *
        generalize t.length = n at *
        go_enter Try.func55, Try.ntmps55
        go_wp2
        go_ret
        exact ⟨rfl, (Chg.refl _ _).alloc _⟩
      · have d3 : decide ((T.cols t : Int) < 1) = false := by simp; omega
        by_cases h4 : 4 < T.cols t
        · rw [T.isTab_false (by omega)]
          have d4 : decide ((4 : Int) < (T.cols t : Int)) = true := by simp; omega
          clear hv hl hc h0 hne
          generalize T.cols t = c at *
          generalize t.length = n at *
          go_enter Try.func55, Try.ntmps55
          go_wp2
          go_ret
          exact ⟨rfl, (Chg.refl _ _).alloc _⟩
        · have d4 : decide ((4 : Int) < (T.cols t : Int)) = false := by simp; omega
          have hca : Chg [] w (w.alloc (.cells #[.slice (some a) t.length cap] 69)) := (Chg.refl _ _).alloc _
          have bx := Box.new w #[.slice (some a) t.length cap] 69
          have hC := Contains_tab 97 #[.pointer (some ⟨w.heap.size, 0, none⟩)] (fun r => !T.rowOk (T.cols t) r) _ t _ (hv.keep hca) ht callV
            (fun u r ws hr hw hu => badV u r w.heap.size _ t ws hu (hl r hr) (by have := (bx.keep hw (by simp)).cell 0; simpa using this) ((hv.keep hca).keep hw) hne (by omega) (by omega))
          have E : t.any (fun r => !T.rowOk (T.cols t) r) = !T.isTab t := by
            rw [List.any_eq_not_all_not]
            simp only [Bool.not_not]
            congr 1
            unfold T.isTab
            rw [decide_eq_true (by omega)]
            simp
          rw [E] at hC
          have HC := hide hC
          clear hv hl hc h0 hne hC E bx hca
          generalize T.isTab t = b at *
          generalize T.cols t = c at *
          generalize t.length = n at *
          go_enter Try.func55, Try.ntmps55
          go_wp2_with fail
          refine HC.out.mono ?_
          rintro e w1 ⟨rfl, hw1⟩
          go_wp2
          go_ret
          exact ⟨by simp, ((Chg.refl _ _).alloc _).trans hw1⟩

end Go.Proofs.Ytaapamoglgpocaa
