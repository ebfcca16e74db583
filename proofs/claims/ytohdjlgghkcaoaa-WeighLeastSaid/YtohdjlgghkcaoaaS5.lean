/- Walks: what is a plan. -/
import Derived.Test.YtohdjlgghkcaoaaS4
namespace Go.Proofs.Ytohdjlgghkcaoaa
open Go.RowKit

/-- A slice of slices, opened once: its rows, in every later world. -/
theorem See2.open {w : World} {v : Value} {t : List (List Int)} (h : See2 w v t) (hne : t ≠ []) : ∃ a cap, v = .slice (some a) t.length cap ∧ t.length ≤ cap ∧
    ∀ i, i < t.length → ∃ bo bc, ∀ wr, Chg [] w wr → wr.cell? (a.add i) = some (.slice bo (t.getD i []).length bc) ∧ See wr (.slice bo (t.getD i []).length bc) (t.getD i []) := by
  obtain ⟨ao, cap, e, hle, hA⟩ := h
  obtain ⟨a, rfl, hb, hc⟩ := hA hne
  refine ⟨a, cap, e, hle, fun i hi => ?_⟩
  obtain ⟨u, hu, hs⟩ := hc i hi
  obtain ⟨bo, bc, rfl⟩ := hs.shape
  exact ⟨bo, bc, fun wr hw => ⟨(hw.cellA (by rw [add_block]; exact hb) List.not_mem_nil).trans hu, hs.keep hw⟩⟩
theorem See2.shape {w : World} {v : Value} {t : List (List Int)} (h : See2 w v t) : ∃ ao cap, v = .slice ao t.length cap := by
  obtain ⟨ao, cap, e, _⟩ := h
  exact ⟨ao, cap, e⟩
theorem row0 {t : List (List Int)} : (t.getD 0 []).length = W.cols t := rfl

theorem call84 (args : Array Value) (W : World) : (callFunc 84 args).run Try.prog W = .ok (.enter 84 args) W := by kernel_rfl

set_option maxRecDepth 100000 in
set_option maxHeartbeats 1000000 in
theorem bad84 (u : Value) (r : List Int) (B : Nat) (v : Value) (t : List (List Int)) (w : World) (hu : See w u r) (hl : r.length ≤ 1000000) (hB : At w B v) (hv : See2 w v t) (hne : t ≠ []) (h1 : 1 ≤ W.cols t) (h4 : W.cols t ≤ 4) :
    Calls Try.prog 84 #[u, .pointer (some ⟨B, 0, none⟩)] w (Ret (.bool (!W.rowOk (W.cols t) r)) w) := by
  obtain ⟨ao, cap, rfl⟩ := hu.shape
  obtain ⟨a, cap', rfl, _, hc⟩ := hv.open hne
  obtain ⟨bo, bc, h0⟩ := hc 0 (List.length_pos_iff.2 hne)
  have f0 := (h0 w (Chg.refl _ _)).1
  rw [add_nought, row0] at f0
  have qb : w.cell? ⟨B, 0, none⟩ = some (.slice (some a) t.length cap') := hB
  have HU := hide hu
  have hpos : 0 < t.length := List.length_pos_iff.2 hne
  clear hc h0 hv hu hB hne
  generalize t.length = tl at *
  obtain ⟨c, hce⟩ : ∃ c, c = W.cols t := ⟨_, rfl⟩
  rw [← hce] at f0 h1 h4 ⊢
  clear hce
  by_cases he : r.length = c
  · have hr : r ≠ [] := by rintro rfl; simp at he; omega
    have HMin := hide fun ws (hw : Chg [] w ws) => Min_any _ r ws (HU.out.keep hw) hr hl
    have HMax := hide fun ws (hw : Chg [] w ws) => Max_any _ r ws (HU.out.keep hw) hr hl
    rw [he] at HMin HMax
    have HE := hide he
    rw [he]
    clear hr he hl
    have d0 : ((c : Int) == (c : Int)) = true := by simp
    go_enter Try.func84, Try.ntmps84
    go_wp2_with fail
    refine (HMin.out _ (Chg.refl _ _)).mono ?_
    rintro e w1 ⟨m, rfl, hm, hw1⟩
    have HM := hide hm
    clear hm
    by_cases hm1 : m < -1
    · have d1 : decide (m < -1) = true := by simpa using hm1
      have E : Hid (W.rowOk c r = false) := hide (by
        rw [Bool.eq_false_iff]
        intro h
        have := (W.rowOk_iff.1 h).2 m HM.out.1
        omega)
      go_wp2
      go_ret
      exact ⟨by rw [E.out]; rfl, hw1⟩
    · have d1 : decide (m < -1) = false := by simpa using hm1
      go_wp2_with fail
      refine (HMax.out _ hw1).mono ?_
      rintro e w2 ⟨M, rfl, hM, hw2⟩
      have HM2 := hide hM
      clear hM
      by_cases hM1 : 1 < M
      · have d2 : decide (1 < M) = true := by simpa using hM1
        have E : Hid (W.rowOk c r = false) := hide (by
          rw [Bool.eq_false_iff]
          intro h
          have := (W.rowOk_iff.1 h).2 M HM2.out.1
          omega)
        go_wp2
        go_ret
        exact ⟨by rw [E.out]; rfl, hw1.trans hw2⟩
      · have d2 : decide (1 < M) = false := by simpa using hM1
        have E : Hid (W.rowOk c r = true) := hide (W.rowOk_iff.2 ⟨HE.out, fun x hx => by
          have := HM.out.2 x hx
          have := HM2.out.2 x hx
          omega⟩)
        go_wp2
        go_ret
        exact ⟨by rw [E.out]; rfl, hw1.trans hw2⟩
  · have E : Hid (W.rowOk c r = false) := hide (by
      rw [Bool.eq_false_iff]
      intro h
      exact he (W.rowOk_iff.1 h).1)
    have d0 : ((r.length : Int) == (c : Int)) = false := by simp; omega
    go_enter Try.func84, Try.ntmps84
    go_wp2
    go_ret
    exact ⟨by rw [E.out]; rfl, Chg.refl _ _⟩

set_option maxRecDepth 100000 in
set_option maxHeartbeats 1000000 in
theorem Index_rows (F : FuncId) (cp : Array Value) (P : List Int → Bool) (v : Value) (t : List (List Int)) (w : World) (hv : See2 w v t) (hl : t.length ≤ 1000000)
    (hcall : ∀ args W, (callFunc F args).run Try.prog W = .ok (.enter F args) W) (hF : ∀ u r ws, r ∈ t → Chg [] w ws → See ws u r → Calls Try.prog F (#[u] ++ cp) ws (Ret (.bool (P r)) ws)) :
    Calls Try.prog 92 #[v, .func (.func F) #[] cp] w fun e w' => ∃ r : Int, e = .returned (.int .i64 r) ∧ decide (0 ≤ r) = t.any P ∧ Chg [] w w' := by
  obtain ⟨ao, cap, rfl⟩ := hv.shape
  have HV := hide hv
  have HF := hide hF
  clear hv hF
  generalize hn : t.length = n at *
  have HN := hide hn
  clear hn
  go_enter Try.func92, Try.ntmps92
  go_wp2
  go_loopw [8] (fun i wr => ∃ j : Nat, j ≤ n ∧ i = .int .i64 (j : Int) ∧ Hid ((∀ q, q < j → P (t.getD q []) = false) ∧ Chg [] w wr)) (fun i _ => (n - (intOf i).toNat))
  case atStart => exact ⟨0, Nat.zero_le _, rfl, hide ⟨fun q h => by omega, Chg.refl _ _⟩⟩
  case round =>
    obtain ⟨j, hj, rfl, hI⟩ := hrel
    by_cases hlt : j < n
    · have d1 : decide ((j : Int) < (n : Int)) = true := by simpa using hlt
      have nx : t ≠ [] := fun h => by have := HN.out; rw [h] at this; simp at this; omega
      obtain ⟨a, cap', e, _, hc⟩ := HV.out.open nx
      cases e
      obtain ⟨bo, bc, hrow⟩ := hc j (by rw [HN.out]; exact hlt)
      obtain ⟨fx, hs⟩ := hrow wr hI.out.2
      have HMem : Hid (t.getD j [] ∈ t) := hide (W.row_mem (by rw [HN.out]; exact hlt))
      have HC := hide (HF.out _ _ wr HMem.out hI.out.2 hs)
      obtain ⟨x, hxe⟩ : ∃ x, x = t.getD j [] := ⟨_, rfl⟩
      rw [← hxe] at fx HC HMem
      have HXE := hide hxe
      clear nx hc hxe hrow hs
      go_wp2_with fail
      refine HC.out.mono ?_
      rintro e w1 ⟨rfl, hw1⟩
      cases hp : P x with
      | true =>
        have HP := hide hp
        clear hp
        go_wp2
        go_ret
        refine ⟨_, rfl, ?_, hI.out.2.trans hw1⟩
        have : t.any P = true := List.any_eq_true.2 ⟨x, HMem.out, HP.out⟩
        rw [this]
        simp
      | false =>
        have HP := hide hp
        clear hp
        go_wp2
        go_roundw
        case rel => exact ⟨j + 1, by omega, by go_num, hide ⟨fun q hq => by
          rcases (show q < j ∨ q = j by omega) with h | rfl
          · exact hI.out.1 q h
          · rw [← HXE.out]; exact HP.out, hI.out.2.trans hw1⟩⟩
        case measure => simp [intOf]; omega
    · have d1 : decide ((j : Int) < (n : Int)) = false := by simpa using hlt
      go_wp2
      go_ret
      refine ⟨_, rfl, ?_, hI.out.2⟩
      have : t.any P = false := by
        rw [Bool.eq_false_iff]
        intro h
        obtain ⟨x, hx, hp⟩ := List.any_eq_true.1 h
        obtain ⟨q, hq, he⟩ := List.getElem_of_mem hx
        have := hI.out.1 q (by rw [HN.out] at hq; omega)
        rw [List.getD_eq_getElem?_getD, List.getElem?_eq_getElem hq] at this
        simp only [Option.getD_some, he, hp] at this
        cases this
      rw [this]
      decide

set_option maxRecDepth 100000 in
set_option maxHeartbeats 1000000 in
theorem Contains_rows (F : FuncId) (cp : Array Value) (P : List Int → Bool) (v : Value) (t : List (List Int)) (w : World) (hv : See2 w v t) (hl : t.length ≤ 1000000)
    (hcall : ∀ args W, (callFunc F args).run Try.prog W = .ok (.enter F args) W) (hF : ∀ u r ws, r ∈ t → Chg [] w ws → See ws u r → Calls Try.prog F (#[u] ++ cp) ws (Ret (.bool (P r)) ws)) :
    Calls Try.prog 83 #[v, .func (.func F) #[] cp] w (Ret (.bool (t.any P)) w) := by
  have HI := hide (Index_rows F cp P v t w hv hl hcall hF)
  clear hF hv hcall
  go_enter Try.func83, Try.ntmps83
  go_wp2_with fail
  refine HI.out.mono ?_
  rintro e w1 ⟨r, rfl, hr, hc⟩
  have HR := hide hr
  clear hr
  go_wp2
  go_ret
  exact ⟨by rw [← HR.out]; rfl, hc⟩
end Go.Proofs.Ytohdjlgghkcaoaa
