/- Walks: games: Marks of two given codes; asks. -/
import Derived.Test.YtpplihpfjniacaaGm3
namespace Go.Proofs.Ytpplihpfjniacaa
open Go.RowKit

set_option maxRecDepth 100000 in
set_option maxHeartbeats 2000000 in
theorem Marks_12 (w : World) : Calls Try.prog 24 #[.int .i64 2, .int .i64 2, .int .i64 1, .int .i64 2] w (Ret (.tuple #[.int .i64 0, .int .i64 2, .int .i64 0]) w) := by
  have HR := hide fun v ws (h : See ws v [1, 2]) => readG_any 2 v [1, 2] ws (by omega) h (by simp) (fun x hx => by
    rcases List.mem_cons.1 hx with rfl | hx
    · decide
    · rw [List.mem_singleton] at hx; subst hx; decide)
  have HM := hide fun ws => marks_12 ws
  have eg : gameV 2 = .agg #[.int .i64 2, .int .i64 2, .int .i64 4] := rfl
  rw [eg] at HR
  have e2 : ((2 : Nat) : Int) = 2 := rfl
  rw [e2] at HR
  go_enter Try.func24, Try.ntmps24
  go_wp2_with fail
  have hs : See (w.alloc (.cells #[.int .i64 1, .int .i64 2] 3)) (.slice (some ⟨w.heap.size, 0, none⟩) 2 2) [1, 2] := by
    refine .inr ⟨⟨w.heap.size, 0, none⟩, 2, rfl, Nat.le_refl _, by simp, fun i hi => ?_⟩
    rw [add_zero_row]
    refine ((Box.new w #[.int .i64 1, .int .i64 2] 3).cell i).trans ?_
    match i, hi with
    | 0, _ => rfl
    | 1, _ => rfl
  refine (HR.out _ _ hs).mono ?_
  rintro e w2 ⟨rfl, hw⟩
  have C2 := hide (((Chg.refl [] w).alloc (.cells #[.int .i64 1, .int .i64 2] 3)).trans hw)
  have b2 := Box.new w2 #[.int .i64 2, .int .i64 2, .int .i64 4] 54
  have g0 := b2.cell 0
  have g1 := b2.cell 1
  have g2 := b2.cell 2
  have gl := b2.lt
  simp only [List.getElem?_toArray, List.getElem?_cons_zero, List.getElem?_cons_succ] at g0 g1 g2
  clear hs hw b2
  go_wp2_with fail
  refine (HM.out _).mono ?_
  rintro e w3 ⟨rfl, hw⟩
  have C3 := hide ((C2.out.alloc (.cells #[.int .i64 2, .int .i64 2, .int .i64 4] 54)).trans hw)
  have b3 := Box.new w3 #[.int .i64 0, .int .i64 2] 88
  have h0 := b3.cell 0
  have h1 := b3.cell 1
  have hl := b3.lt
  simp only [List.getElem?_toArray, List.getElem?_cons_zero, List.getElem?_cons_succ] at h0 h1
  clear hw b3 g0 g1 g2 gl
  go_wp2
  go_big_quiet (fail)
  go_wp2
  refine bodyPost_ret (v := .tuple #[.int .i64 0, .int .i64 2, .int .i64 0]) ?_ rfl ⟨rfl, ?_⟩
  · simp [results, Try.results24, go_sem]
  · exact (C3.out.alloc _).drewN _
set_option maxRecDepth 100000 in
theorem asks_any (w : World) : Calls Try.prog 10 #[] w (Ret (.bool true) w) := by
  have HM := hide fun ws => Marks_12 ws
  go_enter Try.func10, Try.ntmps10
  go_wp2_with fail
  refine (HM.out _).mono ?_
  rintro e w2 ⟨rfl, hw⟩
  go_wp2
  go_ret
  exact ⟨rfl, hw⟩
end Go.Proofs.Ytpplihpfjniacaa
