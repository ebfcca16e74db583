/- Walks: classes: Dim. -/
import Derived.Test.YtpplihpfjniacaaDoorLr4
namespace Go.Proofs.YtpplihpfjniacaaDoor
open Go.RowKit Go.Maps
set_option maxRecDepth 100000 in
set_option maxHeartbeats 1000000 in
theorem LDim_good (p : Nat) (v : Value) (l : List Int) (w : World) (hv : See w v l) (hl : okC p l) :
    Calls Tryd.prog 23 #[.int .i64 (p : Int), v] w (Ret (.tuple #[.int .i64 (Lr.dimN (cf l) l.length p (allC l) : Int), .int .i64 0]) w) := by
  have HR := hide (readC_good p v l w hv hl)
  have HAl := hide fun Bs bd ao cap ws (hs : School w Bs bd p ao cap l ws) => allC_any w Bs bd p ao cap l ws hl hs
  have HDi := hide fun Bs bd ao cap => dimC_all w Bs bd p ao cap l hl (allC l + 1) (allC l)
  obtain ⟨a1, a2⟩ := allC_ok hl
  have HX := hide (And.intro a1 a2)
  rw [show (2 ^ l.length - 1) = allC l from rfl] at HAl
  generalize allC l = al at *
  unfold DimIs at HDi
  clear hv hl a1 a2
  go_enter Tryd.func23, Tryd.ntmps23
  go_wp2_with fail
  refine HR.out.mono ?_
  rintro e w2 ⟨Bs, bd, ao, cap, rfl, hS, hK⟩
  have HS := hide hS
  have HK := hide hK
  clear hS hK
  go_wp2_with fail
  refine (HAl.out _ _ _ _ _ HS.out).mono ?_
  rintro e w3 ⟨rfl, hw⟩
  have HS3 := hide (HS.out.keep0 hw)
  have HK3 := hide (HK.out.keep hw List.not_mem_nil)
  clear hw
  go_wp2_with fail
  refine (HDi.out Bs bd ao cap _ _ HX.out.1 HX.out.2 (Nat.lt_succ_self _) HS3.out HK3.out (fun _ _ _ h => by cases h)).mono ?_
  rintro e w4 ⟨rfl, fk, h1, _⟩
  have HW := hide h1.2.2.2.2.2.2
  clear h1
  go_wp2
  go_ret2
  exact ⟨by rfl, HW.out⟩
end Go.Proofs.YtpplihpfjniacaaDoor
