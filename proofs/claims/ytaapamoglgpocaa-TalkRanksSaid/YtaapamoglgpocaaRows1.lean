/- Walks: the least and greatest number of a row; a search among rows. -/
import Derived.Test.YtaapamoglgpocaaMem
namespace Go.Proofs.Ytaapamoglgpocaa
open Go.RowKit

set_option maxRecDepth 100000 in
set_option maxHeartbeats 1000000 in
theorem Min_any (v : Value) (xs : List Int) (w : World) (hv : See w v xs) (hne : xs ≠ []) (hl : xs.length ≤ 1000000) :
    Calls Try.prog 98 #[v] w fun e w' => ∃ m, e = .returned (.int .i64 m) ∧ (m ∈ xs ∧ ∀ x ∈ xs, m ≤ x) ∧ Chg [] w w' := by
  have kmin := fun w ts t x y => @run_min_2 Try.prog w ts t x y
  obtain ⟨a, cap, rfl, hc⟩ := hv.open hne
  have HC := hide hc
  have h0 : 0 < xs.length := List.length_pos_iff.2 hne
  have f0 : w.cell? a = some (.int .i64 (xs.getD 0 0)) := by have := hc w (Chg.refl _ _) 0 h0; rwa [add_nought] at this
  obtain ⟨x0, hx0⟩ : ∃ x0, x0 = xs.getD 0 0 := ⟨_, rfl⟩
  rw [← hx0] at f0
  have HX0 := hide hx0
  clear hc hv hx0
  generalize hn : xs.length = n at *
  have HN := hide hn
  clear hn hne
  have d0 : decide ((n : Int) < 1) = false := by simp; omega
  go_enter Try.func98, Try.ntmps98
  go_wp2
  go_loopw [3, 4] (fun o i wr => ∃ (j : Nat) (m : Int), 1 ≤ j ∧ j ≤ n ∧ o = .int .i64 m ∧ i = .int .i64 (j : Int) ∧ Hid ((m ∈ xs ∧ ∀ q, q < j → m ≤ xs.getD q 0) ∧ Chg [] w wr)) (fun _ i _ => (n - (intOf i).toNat))
  case atStart => exact ⟨1, x0, Nat.le_refl _, h0, rfl, rfl, hide ⟨⟨by rw [HX0.out]; exact getD_mem (by rw [HN.out]; exact h0), fun q hq => by
    obtain rfl : q = 0 := by omega
    rw [HX0.out]; exact Int.le_refl _⟩, Chg.refl _ _⟩⟩
  case round =>
    obtain ⟨j, m, hj1, hj, rfl, rfl, hI⟩ := hrel
    by_cases hlt : j < n
    · have d1 : decide ((j : Int) < (n : Int)) = true := by simpa using hlt
      have fx := HC.out wr hI.out.2 j hlt
      obtain ⟨x, hxe⟩ : ∃ x, x = xs.getD j 0 := ⟨_, rfl⟩
      rw [← hxe] at fx
      have HXE := hide hxe
      have HP := hide (imin_pick m x)
      clear hxe
      go_wp2
      go_roundw
      case rel => exact ⟨j + 1, imin m x, by omega, by omega, rfl, by go_num, hide ⟨⟨by
        rcases HP.out.1 with h | h
        · rw [h]; exact hI.out.1.1
        · rw [h, HXE.out]; exact getD_mem (by rw [HN.out]; exact hlt), fun q hq => by
        rcases (show q < j ∨ q = j by omega) with h | rfl
        · exact Int.le_trans HP.out.2.1 (hI.out.1.2 q h)
        · rw [← HXE.out]; exact HP.out.2.2⟩, hI.out.2⟩⟩
      case measure => simp [intOf]; omega
    · have d1 : decide ((j : Int) < (n : Int)) = false := by simpa using hlt
      go_wp2
      go_ret
      refine ⟨m, rfl, ⟨hI.out.1.1, fun x hx => ?_⟩, hI.out.2⟩
      obtain ⟨q, hq, he⟩ := List.getElem_of_mem hx
      have := hI.out.1.2 q (by rw [HN.out] at hq; omega)
      rw [List.getD_eq_getElem?_getD, List.getElem?_eq_getElem hq] at this
      simpa [he] using this

set_option maxRecDepth 100000 in
set_option maxHeartbeats 1000000 in
theorem Max_any (v : Value) (xs : List Int) (w : World) (hv : See w v xs) (hne : xs ≠ []) (hl : xs.length ≤ 1000000) :
    Calls Try.prog 99 #[v] w fun e w' => ∃ m, e = .returned (.int .i64 m) ∧ (m ∈ xs ∧ ∀ x ∈ xs, x ≤ m) ∧ Chg [] w w' := by
  have kmax := fun w ts t x y => @run_max_2 Try.prog w ts t x y
  obtain ⟨a, cap, rfl, hc⟩ := hv.open hne
  have HC := hide hc
  have h0 : 0 < xs.length := List.length_pos_iff.2 hne
  have f0 : w.cell? a = some (.int .i64 (xs.getD 0 0)) := by have := hc w (Chg.refl _ _) 0 h0; rwa [add_nought] at this
  obtain ⟨x0, hx0⟩ : ∃ x0, x0 = xs.getD 0 0 := ⟨_, rfl⟩
  rw [← hx0] at f0
  have HX0 := hide hx0
  clear hc hv hx0
  generalize hn : xs.length = n at *
  have HN := hide hn
  clear hn hne
  have d0 : decide ((n : Int) < 1) = false := by simp; omega
  go_enter Try.func99, Try.ntmps99
  go_wp2
  go_loopw [3, 4] (fun o i wr => ∃ (j : Nat) (m : Int), 1 ≤ j ∧ j ≤ n ∧ o = .int .i64 m ∧ i = .int .i64 (j : Int) ∧ Hid ((m ∈ xs ∧ ∀ q, q < j → xs.getD q 0 ≤ m) ∧ Chg [] w wr)) (fun _ i _ => (n - (intOf i).toNat))
  case atStart => exact ⟨1, x0, Nat.le_refl _, h0, rfl, rfl, hide ⟨⟨by rw [HX0.out]; exact getD_mem (by rw [HN.out]; exact h0), fun q hq => by
    obtain rfl : q = 0 := by omega
    rw [HX0.out]; exact Int.le_refl _⟩, Chg.refl _ _⟩⟩
  case round =>
    obtain ⟨j, m, hj1, hj, rfl, rfl, hI⟩ := hrel
    by_cases hlt : j < n
    · have d1 : decide ((j : Int) < (n : Int)) = true := by simpa using hlt
      have fx := HC.out wr hI.out.2 j hlt
      obtain ⟨x, hxe⟩ : ∃ x, x = xs.getD j 0 := ⟨_, rfl⟩
      rw [← hxe] at fx
      have HXE := hide hxe
      have HP := hide (imax_pick m x)
      clear hxe
      go_wp2
      go_roundw
      case rel => exact ⟨j + 1, imax m x, by omega, by omega, rfl, by go_num, hide ⟨⟨by
        rcases HP.out.1 with h | h
        · rw [h]; exact hI.out.1.1
        · rw [h, HXE.out]; exact getD_mem (by rw [HN.out]; exact hlt), fun q hq => by
        rcases (show q < j ∨ q = j by omega) with h | rfl
        · exact Int.le_trans (hI.out.1.2 q h) HP.out.2.1
        · rw [← HXE.out]; exact HP.out.2.2⟩, hI.out.2⟩⟩
      case measure => simp [intOf]; omega
    · have d1 : decide ((j : Int) < (n : Int)) = false := by simpa using hlt
      go_wp2
      go_ret
      refine ⟨m, rfl, ⟨hI.out.1.1, fun x hx => ?_⟩, hI.out.2⟩
      obtain ⟨q, hq, he⟩ := List.getElem_of_mem hx
      have := hI.out.1.2 q (by rw [HN.out] at hq; omega)
      rw [List.getD_eq_getElem?_getD, List.getElem?_eq_getElem hq] at this
      simpa [he] using this
set_option maxRecDepth 100000 in
set_option maxHeartbeats 1000000 in
theorem Index_tab (F : FuncId) (cp : Array Value) (P : List Int → Bool) (v : Value) (t : List (List Int)) (w : World) (hv : See2 w v t) (hl : t.length ≤ 1000000)
    (hcall : ∀ args W, (callFunc F args).run Try.prog W = .ok (.enter F args) W) (hF : ∀ u r ws, r ∈ t → Chg [] w ws → See ws u r → Calls Try.prog F (#[u] ++ cp) ws (Ret (.bool (P r)) ws)) :
    Calls Try.prog 113 #[v, .func (.func F) #[] cp] w fun e w' => ∃ r : Int, e = .returned (.int .i64 r) ∧ decide (0 ≤ r) = t.any P ∧ Chg [] w w' := by
  obtain ⟨ao, cap, rfl⟩ := hv.shape
  have HV := hide hv
  have HF := hide hF
  clear hv hF
  generalize hn : t.length = n at *
  have HN := hide hn
  clear hn
  go_enter Try.func113, Try.ntmps113
  go_wp2
  go_loopw [8] (fun i wr => ∃ j : Nat, j ≤ n ∧ i = .int .i64 (j : Int) ∧ Hid ((∀ q, q < j → P (t.getD q []) = false) ∧ Chg [] w wr)) (fun i _ => (n - (intOf i).toNat))
  case atStart => exact ⟨0, Nat.zero_le _, rfl, hide ⟨fun q h => by omega, Chg.refl _ _⟩⟩
  case round =>
    obtain ⟨j, hj, rfl, hI⟩ := hrel
    by_cases hlt : j < n
    · have d1 : decide ((j : Int) < (n : Int)) = true := by simpa using hlt
      have nx : t ≠ [] := fun h => by have := HN.out; rw [h] at this; simp at this; omega
      obtain ⟨a, cap', e, _, hc⟩ := HV.out.open nx
      cases e
      obtain ⟨bo, bc, hrow⟩ := hc j (by rw [HN.out]; exact hlt)
      obtain ⟨fx, hs⟩ := hrow wr hI.out.2
      have HMem : Hid (t.getD j [] ∈ t) := hide (T.row_mem (by rw [HN.out]; exact hlt))
      have HC := hide (HF.out _ _ wr HMem.out hI.out.2 hs)
      obtain ⟨x, hxe⟩ : ∃ x, x = t.getD j [] := ⟨_, rfl⟩
      rw [← hxe] at fx HC HMem
      have HXE := hide hxe
      clear nx hc hxe hrow hs
      go_wp2_with fail
      refine HC.out.mono ?_
      rintro e w1 ⟨rfl, hw1⟩
      cases hp : P x with
      | true =>
        have HP := hide hp
        clear hp
        go_wp2
        go_ret
        refine ⟨_, rfl, ?_, hI.out.2.trans hw1⟩
        have : t.any P = true := List.any_eq_true.2 ⟨x, HMem.out, HP.out⟩
        rw [this]
        simp
      | false =>
        have HP := hide hp
        clear hp
        go_wp2
        go_roundw
        case rel => exact ⟨j + 1, by omega, by go_num, hide ⟨fun q hq => by
          rcases (show q < j ∨ q = j by omega) with h | rfl
          · exact hI.out.1 q h
          · rw [← HXE.out]; exact HP.out, hI.out.2.trans hw1⟩⟩
        case measure => simp [intOf]; omega
    · have d1 : decide ((j : Int) < (n : Int)) = false := by simpa using hlt
      go_wp2
      go_ret
      refine ⟨_, rfl, ?_, hI.out.2⟩
      have : t.any P = false := by
        rw [Bool.eq_false_iff]
        intro h
        obtain ⟨x, hx, hp⟩ := List.any_eq_true.1 h
        obtain ⟨q, hq, he⟩ := List.getElem_of_mem hx
        have := hI.out.1 q (by rw [HN.out] at hq; omega)
        rw [List.getD_eq_getElem?_getD, List.getElem?_eq_getElem hq] at this
        simp only [Option.getD_some, he, hp] at this
        cases this
      rw [this]
      decide

set_option maxRecDepth 100000 in
set_option maxHeartbeats 1000000 in
theorem Contains_tab (F : FuncId) (cp : Array Value) (P : List Int → Bool) (v : Value) (t : List (List Int)) (w : World) (hv : See2 w v t) (hl : t.length ≤ 1000000)
    (hcall : ∀ args W, (callFunc F args).run Try.prog W = .ok (.enter F args) W) (hF : ∀ u r ws, r ∈ t → Chg [] w ws → See ws u r → Calls Try.prog F (#[u] ++ cp) ws (Ret (.bool (P r)) ws)) :
    Calls Try.prog 96 #[v, .func (.func F) #[] cp] w (Ret (.bool (t.any P)) w) := by
  have HI := hide (Index_tab F cp P v t w hv hl hcall hF)
  clear hF hv hcall
  go_enter Try.func96, Try.ntmps96
  go_wp2_with fail
  refine HI.out.mono ?_
  rintro e w1 ⟨r, rfl, hr, hc⟩
  have HR := hide hr
  clear hr
  go_wp2
  go_ret
  exact ⟨by rw [← HR.out]; rfl, hc⟩
end Go.Proofs.Ytaapamoglgpocaa
