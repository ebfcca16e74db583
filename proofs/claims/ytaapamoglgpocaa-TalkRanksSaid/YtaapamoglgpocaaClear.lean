/- Walk: whether a rectangle is clear. -/
import Derived.Test.YtaapamoglgpocaaRect
namespace Go.Proofs.Ytaapamoglgpocaa
open Go.RowKit

def clrV (o : Option Int) : Value := match o with
  | some x => .tuple #[.int .i64 x, .bool true]
  | none => .tuple #[.int .i64 0, .bool false]

set_option maxRecDepth 100000 in
set_option maxHeartbeats 2000000 in
theorem clear_any (v : Value) (t : List (List Int)) (r c : Nat) (w : World) (hv : See2 w v t) (ht : T.isTab t = true) (hr : r < 65536) (hc : c < 65536) :
    Calls Try.prog 92 #[v, .agg #[.int .i64 (r : Int), .int .i64 (c : Int)]] w (Ret (clrV (T.clrM t r c)) w) := by
  obtain ⟨⟨t1, t2, t3, t4⟩, _⟩ := T.isTab_iff.1 ht
  have hne : t ≠ [] := by rintro rfl; simp at t1
  obtain ⟨a, cap, rfl, _, hcc⟩ := hv.open hne
  have HC := hide hcc
  have HT := hide ht
  have HR := hide (And.intro hr hc)
  obtain ⟨n, hn⟩ : ∃ n, n = t.length := ⟨_, rfl⟩
  have HN := hide hn
  rw [← hn] at t1 t2 ⊢
  obtain ⟨m, hm⟩ : ∃ m, m = T.cols t := ⟨_, rfl⟩
  have HM := hide hm
  rw [← hm] at t3 t4
  obtain ⟨R, hR⟩ : ∃ R, R = T.clrM t r c := ⟨_, rfl⟩
  rw [← hR]
  have HRe := hide hR
  clear hcc hv hne hr hc ht hn hm hR
  go_enter Try.func92, Try.ntmps92
  go_wp2
  have bx := Box.new w #[.int .i64 (r : Int), .int .i64 (c : Int)] 75
  have C0 : Hid (Chg [] w (w.alloc (.cells #[.int .i64 (r : Int), .int .i64 (c : Int)] 75))) := hide ((Chg.refl _ _).alloc _)
  have BX := hide bx
  clear bx
  generalize w.alloc (.cells #[.int .i64 (r : Int), .int .i64 (c : Int)] 75) = W0 at C0 BX ⊢
  generalize w.heap.size = Br at BX ⊢
  go_loopw [4, 12] (fun xv iv wr => ∃ (i : Nat) (x : Int), i ≤ n ∧ -1 ≤ x ∧ x ≤ 1 ∧ xv = .int .i64 x ∧ iv = .int .i64 (i : Int) ∧ Hid (T.tabTo t r c i = some x ∧ Chg [] W0 wr)) (fun _ iv _ => n - (intOf iv).toNat)
  case atStart => exact ⟨0, -1, Nat.zero_le _, by omega, by omega, rfl, rfl, hide ⟨rfl, Chg.refl _ _⟩⟩
  case round =>
    obtain ⟨i, x, hi, hx1, hx2, rfl, rfl, hI⟩ := hrel
    by_cases hlt : i < n
    · have d1 : decide ((i : Int) < (n : Int)) = true := by simpa using hlt
      obtain ⟨bo, bc, hrow⟩ := HC.out i (by rw [← HN.out]; exact hlt)
      have hlen : (t.getD i []).length = m := by rw [HM.out]; exact T.tab_row HT.out (by rw [← HN.out]; exact hlt)
      obtain ⟨fr, hs⟩ := hrow wr (C0.out.trans hI.out.2)
      rw [hlen] at fr hs
      have HLen := hide hlen
      have HRow := hide hrow
      rw [hlen] at HRow
      clear hrow hs hlen
      go_wp2
      go_loopw [4, 19] (fun xv jv wq => ∃ (j : Nat) (y : Int), j ≤ m ∧ -1 ≤ y ∧ y ≤ 1 ∧ xv = .int .i64 y ∧ jv = .int .i64 (j : Int) ∧ Hid (T.rowTo t r c i (some x) j = some y ∧ Chg [] W0 wq)) (fun _ jv _ => m - (intOf jv).toNat)
      case atStart => exact ⟨0, x, Nat.zero_le _, hx1, hx2, rfl, rfl, hide ⟨rfl, hI.out.2⟩⟩
      case round =>
        obtain ⟨j, y, hj, hy1, hy2, rfl, rfl, hJ⟩ := hrel
        by_cases hlj : j < m
        · have d2 : decide ((j : Int) < (m : Int)) = true := by simpa using hlj
          obtain ⟨_, hs⟩ := HRow.out wr (C0.out.trans hJ.out.2)
          have hrn : t.getD i [] ≠ [] := by intro h; have := HLen.out; rw [h] at this; simp at this; omega
          obtain ⟨a2, cap2, e2, hx⟩ := hs.open hrn
          rw [HLen.out] at e2
          cases e2
          have fx0 := hx wr (Chg.refl _ _) j (by rw [HLen.out]; exact hlj)
          obtain ⟨z, hz⟩ : ∃ z, z = T.ent t i j := ⟨_, rfl⟩
          have fx : wr.cell? (a2.add j) = some (.int .i64 z) := by rw [hz]; exact fx0
          clear fx0
          obtain ⟨z1, z2⟩ := T.ent_val HT.out (i := i) (j := j)
          rw [← hz] at z1 z2
          have bx := BX.out.keep hJ.out.2 List.not_mem_nil
          have c0 := bx.cell 0
          have c1 := bx.cell 1
          have lb := bx.lt
          simp at c0 c1
          have HCall := hide (has_any r c i j wr HR.out.1 HR.out.2 (by omega) (by omega))
          have hst : T.rowTo t r c i (some x) (j + 1) = T.step (some y) (T.has r c i j) z := by
            show T.step (T.rowTo t r c i (some x) j) (T.has r c i j) (T.ent t i j) = _
            rw [hJ.out.1, hz]
          have HSt := hide hst
          clear hs hrn hx hz bx hst
          cases hb : T.has r c i j with
          | false =>
            rw [hb] at HSt HCall
            have E : Hid (T.rowTo t r c i (some x) (j + 1) = some y) := hide HSt.out
            clear hb
            go_wp2_with fail
            refine HCall.out.mono ?_
            rintro e w3 ⟨rfl, hw3⟩
            have C3 : Hid (Chg [] W0 w3) := hide (hJ.out.2.trans hw3)
            clear hw3
            go_wp2
            go_roundw
            case rel => exact ⟨j + 1, y, by omega, hy1, hy2, rfl, by go_num, hide ⟨E.out, C3.out⟩⟩
            case measure => simp [intOf]; omega
          | true =>
            rw [hb] at HSt HCall
            clear hb
            by_cases hy0 : 0 ≤ y
            · have d3 : decide (0 ≤ y) = true := by simpa using hy0
              by_cases hyz : y = z
              · subst hyz
                have E : Hid (T.rowTo t r c i (some x) (j + 1) = some y) := hide (by rw [HSt.out]; unfold T.step; simp)
                have d4 : (y != y) = false := by simp
                go_wp2_with fail
                refine HCall.out.mono ?_
                rintro e w3 ⟨rfl, hw3⟩
                have C3 : Hid (Chg [] W0 w3) := hide (hJ.out.2.trans hw3)
                clear hw3
                go_wp2
                go_roundw
                case rel => exact ⟨j + 1, y, by omega, hy1, hy2, rfl, by go_num, hide ⟨E.out, C3.out⟩⟩
                case measure => simp [intOf]; omega
              · have d4 : (y != z) = true := by simpa using hyz
                have E : Hid (R = none) := hide (by
                  rw [HRe.out]
                  refine T.clrM_none (i := i) (j := j + 1) (by rw [← HN.out]; exact hlt) (by rw [← HM.out]; omega) ?_
                  rw [hI.out.1, HSt.out]
                  unfold T.step
                  simp only [if_true]
                  rw [if_pos ⟨hy0, hyz⟩])
                have HYz := hide hyz
                clear hyz
                go_wp2_with fail
                refine HCall.out.mono ?_
                rintro e w3 ⟨rfl, hw3⟩
                have C3 : Hid (Chg [] W0 w3) := hide (hJ.out.2.trans hw3)
                clear hw3
                go_wp2
                go_ret2
                exact ⟨by rw [E.out]; rfl, C0.out.trans C3.out⟩
            · have d3 : decide (0 ≤ y) = false := by simpa using hy0
              have E : Hid (T.rowTo t r c i (some x) (j + 1) = some z) := hide (by rw [HSt.out]; unfold T.step; simp only [if_true]; rw [if_neg (fun h => hy0 h.1)])
              go_wp2_with fail
              refine HCall.out.mono ?_
              rintro e w3 ⟨rfl, hw3⟩
              have C3 : Hid (Chg [] W0 w3) := hide (hJ.out.2.trans hw3)
              clear hw3
              go_wp2
              go_roundw
              case rel => exact ⟨j + 1, z, by omega, by omega, by omega, rfl, by go_num, hide ⟨E.out, C3.out⟩⟩
              case measure => simp [intOf]; omega
        · have d2 : decide ((j : Int) < (m : Int)) = false := by simpa using hlj
          obtain rfl : j = m := by omega
          go_wp2
          go_roundw
          case rel => exact ⟨i + 1, y, by omega, hy1, hy2, rfl, by go_num, hide ⟨by
            show T.rowTo t r c i (T.tabTo t r c i) (T.cols t) = some y
            rw [hI.out.1, ← HM.out]; exact hJ.out.1, hJ.out.2⟩⟩
          case measure => simp [intOf]; omega
    · have d1 : decide ((i : Int) < (n : Int)) = false := by simpa using hlt
      obtain rfl : i = n := by omega
      have E : Hid (R = some x) := hide (by rw [HRe.out]; unfold T.clrM; rw [← HN.out]; exact hI.out.1)
      go_wp2
      go_ret2
      exact ⟨by rw [E.out]; rfl, C0.out.trans hI.out.2⟩
end Go.Proofs.Ytaapamoglgpocaa
