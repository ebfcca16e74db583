/- Walks: searches by a function; what is a plan. -/
import Derived.Test.YtohdjlgghkcaoaaS3
namespace Go.Proofs.Ytohdjlgghkcaoaa
open Go.RowKit

set_option maxRecDepth 100000 in
set_option maxHeartbeats 1000000 in
theorem Index_ints (F : FuncId) (P : Int → Bool) (v : Value) (xs : List Int) (w : World) (hv : See w v xs) (hl : xs.length ≤ 1000000)
    (hcall : ∀ args W, (callFunc F args).run Try.prog W = .ok (.enter F args) W) (hF : ∀ x ws, Calls Try.prog F #[.int .i64 x] ws (Ret (.bool (P x)) ws)) :
    Calls Try.prog 86 #[v, .func (.func F) #[] #[]] w fun e w' => ∃ r : Int, e = .returned (.int .i64 r) ∧ decide (0 ≤ r) = xs.any P ∧ Chg [] w w' := by
  obtain ⟨ao, cap, rfl⟩ := hv.shape
  have HV := hide hv
  have HF := hide hF
  clear hv hF
  generalize hn : xs.length = n at *
  have HN := hide hn
  clear hn
  go_enter Try.func86, Try.ntmps86
  go_wp2
  go_loopw [8] (fun i wr => ∃ j : Nat, j ≤ n ∧ i = .int .i64 (j : Int) ∧ Hid ((∀ q, q < j → P (xs.getD q 0) = false) ∧ Chg [] w wr)) (fun i _ => (n - (intOf i).toNat))
  case atStart => exact ⟨0, Nat.zero_le _, rfl, hide ⟨fun q h => by omega, Chg.refl _ _⟩⟩
  case round =>
    obtain ⟨j, hj, rfl, hI⟩ := hrel
    by_cases hlt : j < n
    · have d1 : decide ((j : Int) < (n : Int)) = true := by simpa using hlt
      have nx : xs ≠ [] := fun h => by have := HN.out; rw [h] at this; simp at this; omega
      obtain ⟨a, cap', e, hc⟩ := HV.out.open nx
      cases e
      have fx := hc wr hI.out.2 j (by rw [HN.out]; exact hlt)
      obtain ⟨x, hxe⟩ : ∃ x, x = xs.getD j 0 := ⟨_, rfl⟩
      rw [← hxe] at fx
      have HXE := hide hxe
      have HMem : Hid (x ∈ xs) := hide (by rw [hxe]; exact getD_mem (by rw [HN.out]; exact hlt))
      clear nx hc hxe
      go_wp2_with fail
      refine (HF.out x _).mono ?_
      rintro e w1 ⟨rfl, hw1⟩
      cases hp : P x with
      | true =>
        have HP := hide hp
        clear hp
        go_wp2
        go_ret
        refine ⟨_, rfl, ?_, hI.out.2.trans hw1⟩
        have : xs.any P = true := List.any_eq_true.2 ⟨x, HMem.out, HP.out⟩
        rw [this]
        simp
      | false =>
        have HP := hide hp
        clear hp
        go_wp2
        go_roundw
        case rel => exact ⟨j + 1, by omega, by go_num, hide ⟨fun q hq => by
          rcases (show q < j ∨ q = j by omega) with h | rfl
          · exact hI.out.1 q h
          · rw [← HXE.out]; exact HP.out, hI.out.2.trans hw1⟩⟩
        case measure => simp [intOf]; omega
    · have d1 : decide ((j : Int) < (n : Int)) = false := by simpa using hlt
      go_wp2
      go_ret
      refine ⟨_, rfl, ?_, hI.out.2⟩
      have : xs.any P = false := by
        rw [Bool.eq_false_iff]
        intro h
        obtain ⟨x, hx, hp⟩ := List.any_eq_true.1 h
        obtain ⟨q, hq, he⟩ := List.getElem_of_mem hx
        have := hI.out.1 q (by rw [HN.out] at hq; omega)
        rw [List.getD_eq_getElem?_getD, List.getElem?_eq_getElem hq] at this
        simp only [Option.getD_some, he, hp] at this
        cases this
      rw [this]
      decide

set_option maxRecDepth 100000 in
set_option maxHeartbeats 1000000 in
theorem Contains_ints (F : FuncId) (P : Int → Bool) (v : Value) (xs : List Int) (w : World) (hv : See w v xs) (hl : xs.length ≤ 1000000)
    (hcall : ∀ args W, (callFunc F args).run Try.prog W = .ok (.enter F args) W) (hF : ∀ x ws, Calls Try.prog F #[.int .i64 x] ws (Ret (.bool (P x)) ws)) :
    Calls Try.prog 68 #[v, .func (.func F) #[] #[]] w (Ret (.bool (xs.any P)) w) := by
  have HI := hide (Index_ints F P v xs w hv hl hcall hF)
  clear hF hv hcall
  go_enter Try.func68, Try.ntmps68
  go_wp2_with fail
  refine HI.out.mono ?_
  rintro e w1 ⟨r, rfl, hr, hc⟩
  have HR := hide hr
  clear hr
  go_wp2
  go_ret
  exact ⟨by rw [← HR.out]; rfl, hc⟩

theorem call85 (args : Array Value) (W : World) : (callFunc 85 args).run Try.prog W = .ok (.enter 85 args) W := by kernel_rfl
theorem call69 (args : Array Value) (W : World) : (callFunc 69 args).run Try.prog W = .ok (.enter 69 args) W := by kernel_rfl
theorem nz85 (x : Int) (w : World) : Calls Try.prog 85 #[.int .i64 x] w (Ret (.bool (!(x == 0))) w) := by
  go_enter Try.func85, Try.ntmps85
  go_wp2
  go_ret
  exact ⟨rfl, Chg.refl _ _⟩
theorem nz69 (x : Int) (w : World) : Calls Try.prog 69 #[.int .i64 x] w (Ret (.bool (!(x == 0))) w) := by
  go_enter Try.func69, Try.ntmps69
  go_wp2
  go_ret
  exact ⟨rfl, Chg.refl _ _⟩
theorem any_nz (xs : List Int) : xs.any (fun x => !(x == 0)) = !W.allZero xs := by
  unfold W.allZero
  rw [List.not_all_eq_any_not]
theorem some85 (v : Value) (xs : List Int) (w : World) (hv : See w v xs) (hl : xs.length ≤ 1000000) :
    Calls Try.prog 68 #[v, .func (.func 85) #[] #[]] w (Ret (.bool (!W.allZero xs)) w) := by
  have h := Contains_ints 85 _ v xs w hv hl call85 nz85
  rw [any_nz] at h
  exact h
theorem some69 (v : Value) (xs : List Int) (w : World) (hv : See w v xs) (hl : xs.length ≤ 1000000) :
    Calls Try.prog 68 #[v, .func (.func 69) #[] #[]] w (Ret (.bool (!W.allZero xs)) w) := by
  have h := Contains_ints 69 _ v xs w hv hl call69 nz69
  rw [any_nz] at h
  exact h
end Go.Proofs.Ytohdjlgghkcaoaa
