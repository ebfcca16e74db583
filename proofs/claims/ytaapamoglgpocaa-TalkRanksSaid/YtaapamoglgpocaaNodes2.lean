/- Walk: what is a plan, the program's. -/
import Derived.Test.YtaapamoglgpocaaNodes
import Derived.Laws.StructEq
namespace Go.Proofs.Ytaapamoglgpocaa
open Go.RowKit

set_option maxRecDepth 100000 in
set_option maxHeartbeats 4000000 in
theorem isPlan_any (v : Value) (ps : List Nd) (w : World) (hv : SeeN w v ps) (hl : ps.length ≤ 1000000) : Calls Try.prog 65 #[v] w (Ret (.bool (isPl ps)) w) := by
  have kmin := fun w ts t x y => @run_min_2 Try.prog w ts t x y
  have kmax := fun w ts t x y => @run_max_2 Try.prog w ts t x y
  obtain ⟨ao, cap, rfl⟩ := hv.shape
  have HV := hide hv
  clear hv
  obtain ⟨L, hL⟩ : ∃ L, L = ps.length := ⟨_, rfl⟩
  have HL := hide hL
  rw [← hL] at hl ⊢
  clear hL
  obtain ⟨R, hR⟩ : ∃ R, R = isPl ps := ⟨_, rfl⟩
  rw [← hR]
  have HR := hide hR
  clear hR
  by_cases h1 : L < 1
  · have d1 : decide ((L : Int) < 1) = true := by simp; omega
    have E : Hid (R = false) := hide (by rw [HR.out]; exact isPl_len (by rw [← HL.out]; omega))
    go_enter Try.func65, Try.ntmps65
    go_wp2
    go_ret
    exact ⟨by rw [E.out]; rfl, Chg.refl _ _⟩
  by_cases h2 : 100 < L
  · have d1 : decide ((L : Int) < 1) = false := by simp; omega
    have d2 : decide ((100 : Int) < (L : Int)) = true := by simp; omega
    have E : Hid (R = false) := hide (by rw [HR.out]; exact isPl_len (by rw [← HL.out]; omega))
    go_enter Try.func65, Try.ntmps65
    go_wp2
    go_ret
    exact ⟨by rw [E.out]; rfl, Chg.refl _ _⟩
  have d1 : decide ((L : Int) < 1) = false := by simp; omega
  have d2 : decide ((100 : Int) < (L : Int)) = false := by simp; omega
  go_enter Try.func65, Try.ntmps65
  go_wp2
  go_loopw [15] (fun iv wr => ∃ i : Nat, i ≤ L ∧ iv = .int .i64 (i : Int) ∧ Hid ((∀ j, j < i → ndOk L j (ps.getD j nd0) = true) ∧ Chg [] w wr)) (fun iv _ => L - (intOf iv).toNat)
  case atStart => exact ⟨0, Nat.zero_le _, rfl, hide ⟨fun j h => by omega, Chg.refl _ _⟩⟩
  case round =>
    obtain ⟨i, hi, rfl, hI⟩ := hrel
    by_cases hlt : i < L
    · have d3 : decide ((i : Int) < (L : Int)) = true := by simpa using hlt
      have hne : ps ≠ [] := by rintro rfl; have := HL.out; simp at this; omega
      obtain ⟨a, cap', e, hcell⟩ := HV.out.open hne
      rw [← HL.out] at e
      cases e
      obtain ⟨k0, k1, k2, k3, k4, k5⟩ := hcell wr hI.out.2 i (by rw [← HL.out]; exact hlt)
      have hi0 : (0 : Int) ≤ (i : Int) := by omega
      have hi1 : (i : Int) < (L : Int) := by omega
      clear hcell hne
      obtain ⟨x, hx⟩ : ∃ x, x = ps.getD i nd0 := ⟨_, rfl⟩
      rw [← hx] at k0 k1 k2 k3 k4 k5
      have HX := hide hx
      clear hx
      obtain ⟨mi, hmi⟩ : ∃ mi, imin x.no x.yes = mi := ⟨_, rfl⟩
      obtain ⟨ma, hma⟩ : ∃ ma, imax x.no x.yes = ma := ⟨_, rfl⟩
      have HMi : Hid ((mi = x.no ∨ mi = x.yes) ∧ mi ≤ x.no ∧ mi ≤ x.yes ∧ (ma = x.no ∨ ma = x.yes) ∧ x.no ≤ ma ∧ x.yes ≤ ma) := hide (by
        obtain ⟨p1, p2, p3⟩ := imin_pick x.no x.yes
        obtain ⟨q1, q2, q3⟩ := imax_pick x.no x.yes
        rw [hmi] at p1 p2 p3
        rw [hma] at q1 q2 q3
        omega)
      have hm0 : True := trivial
      cases hlf : x.leaf with
      | true =>
        rw [hlf] at k0
        clear hmi hma
        by_cases hv0 : x.val = 0
        · have dv0 : (x.val != 0) = false := by simpa using hv0
          by_cases hwho : x.who ≠ 0
          · have dwho : (x.who == 0) = false := by simpa using hwho
            have E : Hid (R = false) := hide (by
              rw [HR.out]
              refine isPl_bad (i := i) (by rw [← HL.out]; exact hlt) ?_
              rw [← HX.out]
              intro h
              have := (ndOk_leaf hlf).1 h
              have hll := HL.out
              have hm1 := HMi.out
              omega)
            clear hm0
            go_wp2
            go_ret
            exact ⟨by rw [E.out]; rfl, hI.out.2.alloc _⟩
          · have dwho : (x.who == 0) = true := by simpa using hwho
            by_cases hset : x.set ≠ 0
            · have dset : (x.set == 0) = false := by simpa using hset
              have E : Hid (R = false) := hide (by
                rw [HR.out]
                refine isPl_bad (i := i) (by rw [← HL.out]; exact hlt) ?_
                rw [← HX.out]
                intro h
                have := (ndOk_leaf hlf).1 h
                have hll := HL.out
                have hm1 := HMi.out
                omega)
              clear hm0
              go_wp2
              go_ret
              exact ⟨by rw [E.out]; rfl, hI.out.2.alloc _⟩
            · have dset : (x.set == 0) = true := by simpa using hset
              by_cases hno : x.no ≠ 0
              · have dno : (x.no == 0) = false := by simpa using hno
                have E : Hid (R = false) := hide (by
                  rw [HR.out]
                  refine isPl_bad (i := i) (by rw [← HL.out]; exact hlt) ?_
                  rw [← HX.out]
                  intro h
                  have := (ndOk_leaf hlf).1 h
                  have hll := HL.out
                  have hm1 := HMi.out
                  omega)
                clear hm0
                go_wp2
                go_ret
                exact ⟨by rw [E.out]; rfl, hI.out.2.alloc _⟩
              · have dno : (x.no == 0) = true := by simpa using hno
                by_cases hyes : x.yes ≠ 0
                · have dyes : (x.yes == 0) = false := by simpa using hyes
                  have E : Hid (R = false) := hide (by
                    rw [HR.out]
                    refine isPl_bad (i := i) (by rw [← HL.out]; exact hlt) ?_
                    rw [← HX.out]
                    intro h
                    have := (ndOk_leaf hlf).1 h
                    have hll := HL.out
                    have hm1 := HMi.out
                    omega)
                  clear hm0
                  go_wp2
                  go_ret
                  exact ⟨by rw [E.out]; rfl, hI.out.2.alloc _⟩
                · have dyes : (x.yes == 0) = true := by simpa using hyes
                  have HOk : Hid (∀ j, j < i + 1 → ndOk L j (ps.getD j nd0) = true) := hide (fun j hj => by
                    rcases (show j < i ∨ j = i by omega) with h | rfl
                    · exact hI.out.1 j h
                    · rw [← HX.out]
                      have hm1 := HMi.out
                      refine (ndOk_leaf hlf).2 ?_
                      omega)
                  clear hm0
                  go_wp2
                  go_roundw
                  case rel => exact ⟨i + 1, by omega, by go_num, hide ⟨HOk.out, hI.out.2.alloc _⟩⟩
                  case measure => simp [intOf]; omega
        · have dv0 : (x.val != 0) = true := by simpa using hv0
          by_cases hv1 : x.val = 1
          · have dv1 : (x.val != 1) = false := by simpa using hv1
            by_cases hwho : x.who ≠ 0
            · have dwho : (x.who == 0) = false := by simpa using hwho
              have E : Hid (R = false) := hide (by
                rw [HR.out]
                refine isPl_bad (i := i) (by rw [← HL.out]; exact hlt) ?_
                rw [← HX.out]
                intro h
                have := (ndOk_leaf hlf).1 h
                have hll := HL.out
                have hm1 := HMi.out
                omega)
              clear hm0
              go_wp2
              go_ret
              exact ⟨by rw [E.out]; rfl, hI.out.2.alloc _⟩
            · have dwho : (x.who == 0) = true := by simpa using hwho
              by_cases hset : x.set ≠ 0
              · have dset : (x.set == 0) = false := by simpa using hset
                have E : Hid (R = false) := hide (by
                  rw [HR.out]
                  refine isPl_bad (i := i) (by rw [← HL.out]; exact hlt) ?_
                  rw [← HX.out]
                  intro h
                  have := (ndOk_leaf hlf).1 h
                  have hll := HL.out
                  have hm1 := HMi.out
                  omega)
                clear hm0
                go_wp2
                go_ret
                exact ⟨by rw [E.out]; rfl, hI.out.2.alloc _⟩
              · have dset : (x.set == 0) = true := by simpa using hset
                by_cases hno : x.no ≠ 0
                · have dno : (x.no == 0) = false := by simpa using hno
                  have E : Hid (R = false) := hide (by
                    rw [HR.out]
                    refine isPl_bad (i := i) (by rw [← HL.out]; exact hlt) ?_
                    rw [← HX.out]
                    intro h
                    have := (ndOk_leaf hlf).1 h
                    have hll := HL.out
                    have hm1 := HMi.out
                    omega)
                  clear hm0
                  go_wp2
                  go_ret
                  exact ⟨by rw [E.out]; rfl, hI.out.2.alloc _⟩
                · have dno : (x.no == 0) = true := by simpa using hno
                  by_cases hyes : x.yes ≠ 0
                  · have dyes : (x.yes == 0) = false := by simpa using hyes
                    have E : Hid (R = false) := hide (by
                      rw [HR.out]
                      refine isPl_bad (i := i) (by rw [← HL.out]; exact hlt) ?_
                      rw [← HX.out]
                      intro h
                      have := (ndOk_leaf hlf).1 h
                      have hll := HL.out
                      have hm1 := HMi.out
                      omega)
                    clear hm0
                    go_wp2
                    go_ret
                    exact ⟨by rw [E.out]; rfl, hI.out.2.alloc _⟩
                  · have dyes : (x.yes == 0) = true := by simpa using hyes
                    have HOk : Hid (∀ j, j < i + 1 → ndOk L j (ps.getD j nd0) = true) := hide (fun j hj => by
                      rcases (show j < i ∨ j = i by omega) with h | rfl
                      · exact hI.out.1 j h
                      · rw [← HX.out]
                        have hm1 := HMi.out
                        refine (ndOk_leaf hlf).2 ?_
                        omega)
                    clear hm0
                    go_wp2
                    go_roundw
                    case rel => exact ⟨i + 1, by omega, by go_num, hide ⟨HOk.out, hI.out.2.alloc _⟩⟩
                    case measure => simp [intOf]; omega
          · have dv1 : (x.val != 1) = true := by simpa using hv1
            have E : Hid (R = false) := hide (by
              rw [HR.out]
              refine isPl_bad (i := i) (by rw [← HL.out]; exact hlt) ?_
              rw [← HX.out]
              intro h
              have := (ndOk_leaf hlf).1 h
              have hll := HL.out
              have hm1 := HMi.out
              omega)
            clear hm0
            go_wp2
            go_ret
            exact ⟨by rw [E.out]; rfl, hI.out.2.alloc _⟩
      | false =>
        rw [hlf] at k0
        by_cases hv0 : x.val ≠ 0
        · have dv0 : (x.val != 0) = true := by simpa using hv0
          have E : Hid (R = false) := hide (by
            rw [HR.out]
            refine isPl_bad (i := i) (by rw [← HL.out]; exact hlt) ?_
            rw [← HX.out]
            intro h
            have := (ndOk_node hlf).1 h
            have hll := HL.out
            have hm1 := HMi.out
            omega)
          clear hm0
          go_wp2
          go_ret
          exact ⟨by rw [E.out]; rfl, hI.out.2.alloc _⟩
        · have dv0 : (x.val != 0) = false := by simpa using hv0
          by_cases hw0 : x.who = 0
          · have dw0 : (x.who != 0) = false := by simpa using hw0
            by_cases hs1 : x.set < 0
            · have ds1 : decide (x.set < 0) = true := by simpa using hs1
              have E : Hid (R = false) := hide (by
                rw [HR.out]
                refine isPl_bad (i := i) (by rw [← HL.out]; exact hlt) ?_
                rw [← HX.out]
                intro h
                have := (ndOk_node hlf).1 h
                have hll := HL.out
                have hm1 := HMi.out
                omega)
              clear hm0
              go_wp2
              go_ret
              exact ⟨by rw [E.out]; rfl, hI.out.2.alloc _⟩
            · have ds1 : decide (x.set < 0) = false := by simpa using hs1
              by_cases hs2 : 16 ≤ x.set
              · have ds2 : decide (16 ≤ x.set) = true := by simpa using hs2
                have E : Hid (R = false) := hide (by
                  rw [HR.out]
                  refine isPl_bad (i := i) (by rw [← HL.out]; exact hlt) ?_
                  rw [← HX.out]
                  intro h
                  have := (ndOk_node hlf).1 h
                  have hll := HL.out
                  have hm1 := HMi.out
                  omega)
                clear hm0
                go_wp2
                go_ret
                exact ⟨by rw [E.out]; rfl, hI.out.2.alloc _⟩
              · have ds2 : decide (16 ≤ x.set) = false := by simpa using hs2
                by_cases hn1 : mi ≤ (i : Int)
                · have dn1 : decide (mi ≤ (i : Int)) = true := by simpa using hn1
                  have E : Hid (R = false) := hide (by
                    rw [HR.out]
                    refine isPl_bad (i := i) (by rw [← HL.out]; exact hlt) ?_
                    rw [← HX.out]
                    intro h
                    have := (ndOk_node hlf).1 h
                    have hll := HL.out
                    have hm1 := HMi.out
                    omega)
                  clear hm0
                  go_wp2
                  go_ret
                  exact ⟨by rw [E.out]; rfl, hI.out.2.alloc _⟩
                · have dn1 : decide (mi ≤ (i : Int)) = false := by simpa using hn1
                  by_cases hn2 : (L : Int) ≤ ma
                  · have dn2 : decide ((L : Int) ≤ ma) = true := by simpa using hn2
                    have E : Hid (R = false) := hide (by
                      rw [HR.out]
                      refine isPl_bad (i := i) (by rw [← HL.out]; exact hlt) ?_
                      rw [← HX.out]
                      intro h
                      have := (ndOk_node hlf).1 h
                      have hll := HL.out
                      have hm1 := HMi.out
                      omega)
                    clear hm0
                    go_wp2
                    go_ret
                    exact ⟨by rw [E.out]; rfl, hI.out.2.alloc _⟩
                  · have dn2 : decide ((L : Int) ≤ ma) = false := by simpa using hn2
                    have HOk : Hid (∀ j, j < i + 1 → ndOk L j (ps.getD j nd0) = true) := hide (fun j hj => by
                      rcases (show j < i ∨ j = i by omega) with h | rfl
                      · exact hI.out.1 j h
                      · rw [← HX.out]
                        have hm1 := HMi.out
                        refine (ndOk_node hlf).2 ?_
                        omega)
                    clear hm0
                    go_wp2
                    go_roundw
                    case rel => exact ⟨i + 1, by omega, by go_num, hide ⟨HOk.out, hI.out.2.alloc _⟩⟩
                    case measure => simp [intOf]; omega
          · have dw0 : (x.who != 0) = true := by simpa using hw0
            by_cases hw1 : x.who = 1
            · have dw1 : (x.who != 1) = false := by simpa using hw1
              by_cases hs1 : x.set < 0
              · have ds1 : decide (x.set < 0) = true := by simpa using hs1
                have E : Hid (R = false) := hide (by
                  rw [HR.out]
                  refine isPl_bad (i := i) (by rw [← HL.out]; exact hlt) ?_
                  rw [← HX.out]
                  intro h
                  have := (ndOk_node hlf).1 h
                  have hll := HL.out
                  have hm1 := HMi.out
                  omega)
                clear hm0
                go_wp2
                go_ret
                exact ⟨by rw [E.out]; rfl, hI.out.2.alloc _⟩
              · have ds1 : decide (x.set < 0) = false := by simpa using hs1
                by_cases hs2 : 16 ≤ x.set
                · have ds2 : decide (16 ≤ x.set) = true := by simpa using hs2
                  have E : Hid (R = false) := hide (by
                    rw [HR.out]
                    refine isPl_bad (i := i) (by rw [← HL.out]; exact hlt) ?_
                    rw [← HX.out]
                    intro h
                    have := (ndOk_node hlf).1 h
                    have hll := HL.out
                    have hm1 := HMi.out
                    omega)
                  clear hm0
                  go_wp2
                  go_ret
                  exact ⟨by rw [E.out]; rfl, hI.out.2.alloc _⟩
                · have ds2 : decide (16 ≤ x.set) = false := by simpa using hs2
                  by_cases hn1 : mi ≤ (i : Int)
                  · have dn1 : decide (mi ≤ (i : Int)) = true := by simpa using hn1
                    have E : Hid (R = false) := hide (by
                      rw [HR.out]
                      refine isPl_bad (i := i) (by rw [← HL.out]; exact hlt) ?_
                      rw [← HX.out]
                      intro h
                      have := (ndOk_node hlf).1 h
                      have hll := HL.out
                      have hm1 := HMi.out
                      omega)
                    clear hm0
                    go_wp2
                    go_ret
                    exact ⟨by rw [E.out]; rfl, hI.out.2.alloc _⟩
                  · have dn1 : decide (mi ≤ (i : Int)) = false := by simpa using hn1
                    by_cases hn2 : (L : Int) ≤ ma
                    · have dn2 : decide ((L : Int) ≤ ma) = true := by simpa using hn2
                      have E : Hid (R = false) := hide (by
                        rw [HR.out]
                        refine isPl_bad (i := i) (by rw [← HL.out]; exact hlt) ?_
                        rw [← HX.out]
                        intro h
                        have := (ndOk_node hlf).1 h
                        have hll := HL.out
                        have hm1 := HMi.out
                        omega)
                      clear hm0
                      go_wp2
                      go_ret
                      exact ⟨by rw [E.out]; rfl, hI.out.2.alloc _⟩
                    · have dn2 : decide ((L : Int) ≤ ma) = false := by simpa using hn2
                      have HOk : Hid (∀ j, j < i + 1 → ndOk L j (ps.getD j nd0) = true) := hide (fun j hj => by
                        rcases (show j < i ∨ j = i by omega) with h | rfl
                        · exact hI.out.1 j h
                        · rw [← HX.out]
                          have hm1 := HMi.out
                          refine (ndOk_node hlf).2 ?_
                          omega)
                      clear hm0
                      go_wp2
                      go_roundw
                      case rel => exact ⟨i + 1, by omega, by go_num, hide ⟨HOk.out, hI.out.2.alloc _⟩⟩
                      case measure => simp [intOf]; omega
            · have dw1 : (x.who != 1) = true := by simpa using hw1
              have E : Hid (R = false) := hide (by
                rw [HR.out]
                refine isPl_bad (i := i) (by rw [← HL.out]; exact hlt) ?_
                rw [← HX.out]
                intro h
                have := (ndOk_node hlf).1 h
                have hll := HL.out
                have hm1 := HMi.out
                omega)
              clear hm0
              go_wp2
              go_ret
              exact ⟨by rw [E.out]; rfl, hI.out.2.alloc _⟩
    · have d3 : decide ((i : Int) < (L : Int)) = false := by simpa using hlt
      obtain rfl : i = L := by omega
      have E : Hid (R = true) := hide (by rw [HR.out]; exact isPl_iff.2 ⟨by rw [← HL.out]; omega, by rw [← HL.out]; omega, fun j hj => by rw [← HL.out] at hj ⊢; exact hI.out.1 j hj⟩)
      go_wp2
      go_ret
      exact ⟨by rw [E.out]; rfl, hI.out.2⟩
end Go.Proofs.Ytaapamoglgpocaa
