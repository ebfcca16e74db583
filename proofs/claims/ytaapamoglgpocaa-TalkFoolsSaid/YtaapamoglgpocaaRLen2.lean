/- Walk: Length, the reference's. -/
import Derived.Test.YtaapamoglgpocaaRLen
import Derived.Test.YtaapamoglgpocaaLen3
import Derived.StillTailTactics
namespace Go.Proofs.Ytaapamoglgpocaa
open Go.RowKit

theorem zero_cells : Try.zeroCells79 = Array.replicate 256 (.int .i64 0) := by kernel_rfl
theorem rlength_all (w0 : World) (B : Nat) (vt : Value) (t : List (List Int)) (hv : See2 w0 vt t) (ht : T.isTab t = true) (hB : w0.heap.size ≤ B) : ∀ F, RLenOk w0 B vt t F
  | 0 => fun _ _ _ _ _ _ _ _ h => absurd h (Nat.not_lt_zero _)
  | F + 1 => rlength_more w0 B vt t F hv ht hB (rlength_all w0 B vt t hv ht hB F)

set_option maxRecDepth 100000 in
set_option maxHeartbeats 1000000 in
theorem RLength_any (v : Value) (t : List (List Int)) (w : World) (hv : See2 w v t) (ht : T.isTab t = true) :
    Calls Try.prog 25 #[v] w (Ret (.int .i64 (T.len t (2 ^ t.length - 1) (2 ^ T.cols t - 1) : Int)) w) := by
  have HAll := hide fun B (hB : w.heap.size ≤ B) => rlength_all w B v t hv ht hB (2 ^ t.length - 1 + (2 ^ T.cols t - 1) + 1)
  obtain ⟨⟨t1, t2, t3, t4⟩, _⟩ := T.isTab_iff.1 ht
  have r1 := hide (whole_lt t1 t2)
  have r2 := hide (whole_lt t3 t4)
  have hne : t ≠ [] := by rintro rfl; simp at t1
  obtain ⟨a, cap, rfl, _, hc⟩ := hv.open hne
  obtain ⟨bo, bc, h0⟩ := hc 0 (by omega)
  rw [add_nought, row0] at h0
  have f0 := (h0 w (Chg.refl _ _)).1
  have H0 := hide h0
  obtain ⟨p1, p2⟩ := pow_le16 t2
  obtain ⟨q1, q2⟩ := pow_le16 t4
  have e1 : (2 : Int) ^ t.length = ((2 ^ t.length : Nat) : Int) := by simp
  have e2 : (2 : Int) ^ T.cols t = ((2 ^ T.cols t : Nat) : Int) := by simp
  have n64 : (t.length : Int) ≤ 64 := by omega
  have m64 : (T.cols t : Int) ≤ 64 := by omega
  obtain ⟨rr, hrr⟩ : ∃ x, x = 2 ^ t.length - 1 := ⟨_, rfl⟩
  obtain ⟨cc, hcc⟩ : ∃ x, x = 2 ^ T.cols t - 1 := ⟨_, rfl⟩
  have s1 : ((2 ^ t.length : Nat) : Int) - 1 = (rr : Int) := by omega
  have s2 : ((2 ^ T.cols t : Nat) : Int) - 1 = (cc : Int) := by omega
  rw [← hrr, ← hcc] at HAll ⊢
  rw [← hrr] at r1
  rw [← hcc] at r2
  have w1 : IntKind.i64.wrap (2 ^ t.length) = ((2 ^ t.length : Nat) : Int) := by rw [e1]; exact wraps_i64 _ (by omega) (by omega)
  have w2 : IntKind.i64.wrap (2 ^ T.cols t) = ((2 ^ T.cols t : Nat) : Int) := by rw [e2]; exact wraps_i64 _ (by omega) (by omega)
  have w3 : IntKind.i64.wrap (((2 ^ t.length : Nat) : Int) - 1) = (rr : Int) := by rw [s1]; exact wraps_i64 _ (by omega) (by omega)
  have w4 : IntKind.i64.wrap (((2 ^ T.cols t : Nat) : Int) - 1) = (cc : Int) := by rw [s2]; exact wraps_i64 _ (by omega) (by omega)
  clear s1 s2 e1 e2
  generalize 2 ^ t.length = P at *
  generalize 2 ^ T.cols t = Q at *
  clear hrr hcc
  clear hc h0 hv hne ht
  generalize T.cols t = m at *
  generalize t.length = n at *
  have hn1 : 0 < n := by omega
  go_enter Try.func25, Try.ntmps25
  go_wp2
  have f1 := (H0.out _ ((Chg.refl [] w).alloc (.cells Try.zeroCells79 79))).1
  have BX := hide (Box.new w Try.zeroCells79 79)
  have C1 : Hid (Chg [] w (w.alloc (.cells Try.zeroCells79 79))) := hide ((Chg.refl [] w).alloc _)
  have HA := hide (HAll.out w.heap.size (Nat.le_refl _))
  generalize w.alloc (.cells Try.zeroCells79 79) = W1 at f1 BX C1 ⊢
  generalize w.heap.size = B at BX HA ⊢
  go_still_tail 11, (by kernel_rfl)
  try change wpList _ _ _ _ _ W1.drew
  have C2 : Hid (Chg [] w W1.drew) := hide C1.out.drew
  have T2 : Hid (RTab W1.drew B (fun _ => 0)) := hide ⟨_, BX.out, by kernel_rfl, fun i hi => by rw [zero_cells, Array.getElem?_replicate, if_pos hi]⟩
  generalize W1.drew = W2 at C2 T2 ⊢
  go_wp2_with fail
  refine (HA.out rr cc W2 _ r1.out.1 r2.out.1 r1.out.2 r2.out.2 (by omega) C2.out T2.out (fun _ _ _ _ _ _ => .inl rfl)).mono ?_
  rintro e w3 ⟨rfl, c3, _⟩
  go_wp2
  go_ret
  exact ⟨rfl, c3⟩
end Go.Proofs.Ytaapamoglgpocaa
