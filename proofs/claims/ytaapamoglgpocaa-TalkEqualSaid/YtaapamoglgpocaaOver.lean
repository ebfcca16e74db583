/- Walk: a table turned over. -/
import Derived.Test.YtaapamoglgpocaaLaw7
namespace Go.Proofs.Ytaapamoglgpocaa
open Go.RowKit

/-- The columns of a table, up to c; all of them. -/
def overTo (t : List (List Int)) (c : Nat) : List (List Int) := (List.range c).map fun q => t.map (·.getD q 0)
def overT (t : List (List Int)) : List (List Int) := overTo t (T.cols t)
theorem overTo_succ (t : List (List Int)) (c : Nat) : overTo t (c + 1) = overTo t c ++ [t.map (·.getD c 0)] := by
  unfold overTo
  rw [List.range_succ, List.map_append]
  rfl
theorem overTo_len (t : List (List Int)) (c : Nat) : (overTo t c).length = c := by unfold overTo; simp

set_option maxRecDepth 100000 in
set_option maxHeartbeats 2000000 in
theorem Over_any (v : Value) (t : List (List Int)) (w : World) (hv : See2 w v t) (ht : T.isTab t = true) :
    Calls Try.prog 44 #[v] w fun e w' => ∃ v', e = .returned v' ∧ Rows2 w' w.heap.size v' (overT t) ∧ Chg [] w w' := by
  obtain ⟨i0, hi, hz0, hz1, hz2⟩ := info_parts infoInts
  obtain ⟨i1, hj, hy0, hy1, hy2⟩ := info_parts infoInt
  obtain ⟨⟨t1, t2, t3, t4⟩, _⟩ := T.isTab_iff.1 ht
  have hne : t ≠ [] := by rintro rfl; simp at t1
  obtain ⟨a, cap, rfl, _, hcc⟩ := hv.open hne
  have HC := hide hcc
  have HT := hide ht
  unfold overT
  obtain ⟨n, hn⟩ : ∃ n, n = t.length := ⟨_, rfl⟩
  have HN := hide hn
  rw [← hn] at t1 t2 ⊢
  obtain ⟨m, hm⟩ : ∃ m, m = T.cols t := ⟨_, rfl⟩
  have HM := hide hm
  rw [← hm] at t3 t4 ⊢
  obtain ⟨bo0, bc0, hr0⟩ := hcc 0 (by omega)
  rw [add_nought, row0, ← hm] at hr0
  have H0 := hide hr0
  have f0 := (hr0 w (Chg.refl _ _)).1
  have n0 : (0 : Int) < (n : Int) := by omega
  clear hcc hv hne ht hn hm hr0
  go_enter Try.func44, Try.ntmps44
  go_wp2
  clear f0
  go_loopw [3, 11] (fun ov iv wr => ∃ (c : Nat), c ≤ m ∧ iv = .int .i64 (c : Int) ∧ Hid (Rows2 wr w.heap.size ov (overTo t c) ∧ Chg [] w wr)) (fun _ iv _ => m - (intOf iv).toNat)
  case atStart => exact ⟨0, Nat.zero_le _, rfl, hide ⟨Rows2.nil _ _, Chg.refl _ _⟩⟩
  case round =>
    obtain ⟨c, hc, rfl, hI⟩ := hrel
    by_cases hlt : c < m
    · have d1 : decide ((c : Int) < (m : Int)) = true := by simpa using hlt
      have HO := hide hI.out.1
      have C1 := hide hI.out.2
      clear hI
      go_wp2
      go_loopw [5, 16] (fun rv jv wq => ∃ (j : Nat), j ≤ n ∧ jv = .int .i64 (j : Int) ∧ Hid (wq.ownsRow wr.heap.size 3 1 rv j (((t.take j).map (·.getD c 0)).map (Value.int .i64)) ∧ Chg [] wr wq)) (fun _ jv _ => n - (intOf jv).toNat)
      case atStart => exact ⟨0, Nat.zero_le _, rfl, hide ⟨World.ownsRow_nil _ _ _ _, Chg.refl _ _⟩⟩
      case round =>
        obtain ⟨j, hj', rfl, hJ⟩ := hrel
        by_cases hlj : j < n
        · have d2 : decide ((j : Int) < (n : Int)) = true := by simpa using hlj
          obtain ⟨bo, bc, hrow⟩ := HC.out j (by rw [← HN.out]; exact hlj)
          have hlen : (t.getD j []).length = m := by rw [HM.out]; exact T.tab_row HT.out (by rw [← HN.out]; exact hlj)
          obtain ⟨fr, hs⟩ := hrow wr (C1.out.trans hJ.out.2)
          rw [hlen] at fr hs
          have hrn : t.getD j [] ≠ [] := by intro h; rw [h] at hlen; simp at hlen; omega
          obtain ⟨a2, cap2, e2, hx⟩ := hs.open hrn
          rw [hlen] at e2 hx
          cases e2
          have fx := hx wr (Chg.refl _ _) c hlt
          obtain ⟨z, hz⟩ : ∃ z, z = (t.getD j []).getD c 0 := ⟨_, rfl⟩
          rw [← hz] at fx
          have HSn : Hid (((t.take (j + 1)).map (·.getD c 0)).map (Value.int .i64) = ((t.take j).map (·.getD c 0)).map (Value.int .i64) ++ [.int .i64 z]) := hide (by
            have h2 : j < t.length := by rw [← HN.out]; exact hlj
            rw [List.take_add_one, List.getElem?_eq_getElem h2, List.map_append, List.map_append, hz, List.getD_eq_getElem?_getD (l := t), List.getElem?_eq_getElem h2]
            rfl)
          have HOw := hide hJ.out.1
          have C2 := hide hJ.out.2
          have hs0 := C2.out.size
          have j0 : (0 : Int) ≤ (j : Int) := by omega
          have j1 : (j : Int) < (n : Int) := by omega
          have c0 : (0 : Int) ≤ (c : Int) := by omega
          have c1 : (c : Int) < (m : Int) := by omega
          clear hs hrn hx hz hrow hlen hJ
          go_wp2_with (at_builtin; refine wpList_append_own _ rfl _ _ 38 rfl _ 3 i1 (.int .i64 0) 1 8 Try.underlying38 hj hy0 hy1 hy2 rfl (by decide) _ _ _ rfl (HOw.out.alloc _) ⟨_, 0, none⟩ 1 1 [.int .i64 z] rfl rfl (by intro j u hj; rw [add_zero_row, (Box.new _ _ _).cell j]; simpa using hj) (by intro x hx; rw [List.mem_singleton] at hx; subst hx; rfl) (by unfold maxLen; omega) (by omega) (by simp; omega) ?_; intro v1 w2 hown1 hgrow1 _)
          go_roundw
          case rel => exact ⟨j + 1, by omega, by go_num, hide ⟨by rw [HSn.out]; exact hown1, chg_grown (C2.out.alloc _) (HOw.out.alloc _) (Nat.le_refl _) hgrow1⟩⟩
          case measure => simp [intOf]; omega
        · have d2 : decide ((j : Int) < (n : Int)) = false := by simpa using hlj
          obtain rfl : j = n := by omega
          have hro := hJ.out.1
          rw [show t.take j = t from List.take_of_length_le (by rw [HN.out]; exact Nat.le_refl _)] at hro
          obtain ⟨ro, rc, rfl, hrc⟩ := row_shape hro
          have C2 := hide hJ.out.2
          have hI1 : Ints wr (.slice ro j rc) (t.map (·.getD c 0)) := by
            have := row_low hro (Nat.zero_le _)
            have hl : (t.map (·.getD c 0)).length = j := by rw [List.length_map, HN.out]
            unfold Ints
            rw [hl]
            exact this
          obtain ⟨us, hus, ho, hr⟩ := HO.out
          have ho1 := C2.out.row ho (fun _ _ => List.not_mem_nil)
          rw [overTo_len] at ho1
          obtain ⟨oo, oc, rfl, hoc⟩ := row_shape ho1
          have HOw := hide ho1
          have HR := hide (And.intro hus (fun i u h => (hr i u h).keep C2.out))
          have HI1 := hide hI1
          have C3 : Hid (Chg [] w wr) := hide (C1.out.trans C2.out)
          have hs3 := C3.out.size
          clear hJ hro hI1 hus ho hr ho1
          go_wp2_with (at_builtin; refine wpList_append_own _ rfl _ _ 22 rfl w.heap.size 38 i0 (.slice none 0 0) 1 24 Try.underlying22 hi hz0 hz1 hz2 rfl (by decide) _ _ _ rfl (HOw.out.alloc _) ⟨_, 0, none⟩ 1 1 [.slice ro j rc] rfl rfl (by intro j u hj; rw [add_zero_row, (Box.new _ _ _).cell j]; simpa using hj) (by intro x hx; rw [List.mem_singleton] at hx; subst hx; rfl) (by unfold maxLen; omega) (by omega) (by simp; omega) ?_; intro v1 w2 hown1 hgrow1 _)
          go_roundw
          case rel =>
            refine ⟨c + 1, by omega, by go_num, hide ⟨?_, chg_grown (C3.out.alloc _) (HOw.out.alloc _) (Nat.le_refl _) hgrow1⟩⟩
            rw [overTo_succ]
            exact Rows2.push (us := us) (u := .slice ro j rc) (by rw [overTo_len]; exact HR.out.1.trans (overTo_len _ _)) (by rw [overTo_len]; exact HOw.out.alloc _) (fun i u h => (HR.out.2 i u h).keep ((Chg.refl _ _).alloc _)) (HI1.out.keep ((Chg.refl _ _).alloc _)) hgrow1 (by rw [overTo_len]; exact hown1)
          case measure => simp [intOf]; omega
    · have d1 : decide ((c : Int) < (m : Int)) = false := by simpa using hlt
      obtain rfl : c = m := by omega
      go_wp2
      go_ret
      exact ⟨_, rfl, hI.out.1, hI.out.2⟩
end Go.Proofs.Ytaapamoglgpocaa
