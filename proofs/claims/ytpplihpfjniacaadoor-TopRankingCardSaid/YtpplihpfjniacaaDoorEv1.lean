/- Walks: the lowest bit; families: has, then. -/
import Derived.Test.YtpplihpfjniacaaDoorBy
import Derived.Test.YtpplihpfjniacaaDoorBitsPlain
import Derived.Shelf.Spec.TrailingZeros
namespace Go.Proofs.YtpplihpfjniacaaDoor
open Go.RowKit

/-- The library's table, as its initialiser lays it. -/
def Tz (w : World) : Prop := TabAt 0 Lib.deBruijn64tab w
theorem Tz.lt {w : World} (h : Tz w) : 0 < w.heap.size := by
  have := h 0 (by decide)
  exact World.block_lt_of_cell? w _ this
theorem Tz.keep {w w' : World} (h : Tz w) (hc : Chg [] w w') : Tz w' := fun j hj => by
  rw [hc.cell h.lt List.not_mem_nil]
  exact h j hj

set_option maxRecDepth 100000 in
theorem tz_core (x k idx : Nat) (w : World) (hx0 : ((x : Int) == 0) = false)
    (key : IntKind.u64.wrap (bits BinOp.and IntKind.u64 (x : Int) (IntKind.u64.wrap (-(x : Int))) * 285870213051353865) / 288230376151711744 = (idx : Int))
    (hi : idx < 64) (hk : k < 64) (hcell : w.cell? ⟨0, idx, none⟩ = some (.int .u8 k)) :
    Calls Tryd.prog 93 #[.int .u64 x] w (Ret (.int .i64 k) w) := by
  have hwk : wrap64 (k : Int) = (k : Int) := by unfold wrap64; omega
  go_enter Tryd.func93, Tryd.ntmps93
  go_wp2_with (simp only [key])
  go_ret
  exact ⟨rfl, Chg.refl _ _⟩
theorem tz_any (x : Nat) (w : World) (h0 : x ≠ 0) (hx : x < 18446744073709551616) (hT : Tz w) :
    Calls Tryd.prog 93 #[.int .u64 x] w (Ret (.int .i64 (Lib.ctz 64 x)) w) := by
  obtain ⟨hlow, hk⟩ := Lib.lowest_bit 64 x h0 hx
  obtain ⟨hi, htab⟩ := Lib.deBruijn64_at _ hk
  have hcell := hT _ hi
  rw [htab] at hcell
  exact tz_core x _ _ w (by simp; omega) (tz64_key x _ hx h0 hlow) hi hk hcell
end Go.Proofs.YtpplihpfjniacaaDoor
