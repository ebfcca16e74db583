/- Walk: all Loads, the reference's. -/
import Derived.Test.YtohdjlgghkcaoaaNdPlain
import Derived.Test.YtohdjlgghkcaoaaPans1
import Derived.Test.YtohdjlgghkcaoaaEq
import Derived.Test.YtohdjlgghkcaoaaHalt
import Derived.Test.YtohdjlgghkcaoaaW2
import Derived.Test.YtohdjlgghkcaoaaW14
namespace Go.Proofs.Ytohdjlgghkcaoaa
open Go.RowKit

def zL : Value := .agg #[.agg #[.int .i64 0, .int .i64 0], .agg #[.int .i64 0, .int .i64 0], .agg #[.int .i64 0, .int .i64 0], .agg #[.int .i64 0, .int .i64 0]]
theorem infoLoad : ∃ i z, Try.prog.info? 33 = some i ∧ i.zero = some z ∧ i.size = 8 ∧ i.bytes = 64 ∧ z.cells.size = 8 := by
  have h : ((Try.prog.info? 33).map fun i => (i.zero.isSome, i.size, i.bytes, (i.zero.map fun z => z.cells.size))) = some (true, 8, 64, some 8) := by kernel_rfl
  obtain ⟨i, hi, hh⟩ := Option.map_eq_some_iff.1 h
  simp only [Prod.mk.injEq] at hh
  obtain ⟨h1, h2, h3, h4⟩ := hh
  obtain ⟨z, hz, hzz⟩ := Option.map_eq_some_iff.1 h4
  exact ⟨i, z, hi, hz, h2, h3, hzz⟩

/-- What is gathered so far. -/
def Got (W0 wr : World) (v : Value) (ls : List W.L) : Prop := wr.ownsRow W0.heap.size 33 8 v ls.length (W.rowsL ls) ∧ Chg [] W0 wr

theorem rg0 {x : W.L} {s : Int} (h : s = (x.left : Int) - (x.right : Int)) : imax 0 (-s) = (x.g0 : Int) := by
  subst h; unfold imax W.L.g0; split <;> omega
theorem rg1 {x : W.L} {s : Int} (h : s = (x.left : Int) - (x.right : Int)) : imax 0 s = (x.g1 : Int) := by
  subst h; unfold imax W.L.g1; split <;> omega

set_option maxRecDepth 100000 in
set_option maxHeartbeats 4000000 in
theorem Loads_any (k : W.K) (hk : okK k) (w : World) :
    Calls Try.prog 79 #[.agg #[.int .i64 (k.b : Int), .int .i64 (k.h : Int), .int .i64 (k.l : Int), .int .i64 (k.g : Int), .bool k.n]] w
      fun e w' => ∃ v, e = .returned v ∧ Chg [] w w' ∧ w'.ownsRow w.heap.size 33 8 v (W.Q1 k).length (W.rowsL (W.Q1 k)) := by
  obtain ⟨i0, z0', hi, hz0, hz1, hz2, hz3⟩ := infoLoad
  have k1 := fun w ts t x => @run_max_2 Try.prog w ts t 0 x
  obtain ⟨hk13, hkg, hkp⟩ := hk
  have hkc : k.coins ≤ 13 := hk13
  have HKC := hide hkc
  clear hkp hkc
  have qb : k.b ≤ 13 := by omega
  have qh : k.h ≤ 13 := by omega
  have ql : k.l ≤ 13 := by omega
  go_enter Try.func79, Try.ntmps79
  go_wp2
  have bk := Box.new w #[.int .i64 (k.b : Int), .int .i64 (k.h : Int), .int .i64 (k.l : Int), .int .i64 (k.g : Int), .bool k.n] 30
  have c0 : Hid (Chg [] w (w.alloc (.cells #[.int .i64 (k.b : Int), .int .i64 (k.h : Int), .int .i64 (k.l : Int), .int .i64 (k.g : Int), .bool k.n] 30))) := hide ((Chg.refl _ _).alloc _)
  generalize w.alloc (.cells #[.int .i64 (k.b : Int), .int .i64 (k.h : Int), .int .i64 (k.l : Int), .int .i64 (k.g : Int), .bool k.n] 30) = W0 at bk c0 ⊢
  generalize w.heap.size = A0 at bk ⊢
  have BK := hide bk
  clear bk
  go_loopw [3, 15] (fun v i wr => ∃ a : Nat, a ≤ k.b + 1 ∧ i = .int .i64 (a : Int) ∧ Hid (Got W0 wr v (W.part [] (W.Q2 k) a))) (fun _ i _ => (k.b + 1 - (intOf i).toNat))
  case atStart => exact ⟨0, Nat.zero_le _, rfl, hide ⟨World.ownsRow_nil _ _ _ _, Chg.refl _ _⟩⟩
  case round =>
    obtain ⟨a, ha, rfl, hI0⟩ := hrel
    by_cases ta : a < k.b + 1
    · have d0 : decide ((a : Int) < (k.b : Int) + 1) = true := by simp; omega
      have bk := BK.out.keep hI0.out.2 (by simp)
      have x0 := bk.cell 0
      simp at x0
      have lk0 := bk.lt
      clear bk
      go_wp2
      clear x0 lk0
      go_loopw [3, 23] (fun v i wr => ∃ b : Nat, b ≤ k.b - a + 1 ∧ i = .int .i64 (b : Int) ∧ Hid (Got W0 wr v (W.part (W.part [] (W.Q2 k) a) (W.Q3 k a) b))) (fun _ i _ => (k.b - a + 1 - (intOf i).toNat))
      case atStart => exact ⟨0, Nat.zero_le _, rfl, hide (by rw [W.part_zero]; exact hI0.out)⟩
      case round =>
        obtain ⟨b, hb, rfl, hI1⟩ := hrel
        by_cases tb : b < k.b - a + 1
        · have d1 : decide ((b : Int) < (k.b : Int) - (a : Int) + 1) = true := by simp; omega
          have bk := BK.out.keep hI1.out.2 (by simp)
          have x1 := bk.cell 1
          simp at x1
          have lk1 := bk.lt
          clear bk
          go_wp2
          clear x1 lk1
          go_loopw [3, 29] (fun v i wr => ∃ c : Nat, c ≤ k.h + 1 ∧ i = .int .i64 (c : Int) ∧ Hid (Got W0 wr v (W.part (W.part (W.part [] (W.Q2 k) a) (W.Q3 k a) b) (W.Q4 k a b) c))) (fun _ i _ => (k.h + 1 - (intOf i).toNat))
          case atStart => exact ⟨0, Nat.zero_le _, rfl, hide (by rw [W.part_zero]; exact hI1.out)⟩
          case round =>
            obtain ⟨c, hc, rfl, hI2⟩ := hrel
            by_cases tc : c < k.h + 1
            · have d2 : decide ((c : Int) < (k.h : Int) + 1) = true := by simp; omega
              have bk := BK.out.keep hI2.out.2 (by simp)
              have x2 := bk.cell 1
              simp at x2
              have lk2 := bk.lt
              clear bk
              go_wp2
              clear x2 lk2
              go_loopw [3, 37] (fun v i wr => ∃ d : Nat, d ≤ k.h - c + 1 ∧ i = .int .i64 (d : Int) ∧ Hid (Got W0 wr v (W.part (W.part (W.part (W.part [] (W.Q2 k) a) (W.Q3 k a) b) (W.Q4 k a b) c) (W.Q5 k a b c) d))) (fun _ i _ => (k.h - c + 1 - (intOf i).toNat))
              case atStart => exact ⟨0, Nat.zero_le _, rfl, hide (by rw [W.part_zero]; exact hI2.out)⟩
              case round =>
                obtain ⟨d, hd, rfl, hI3⟩ := hrel
                by_cases td : d < k.h - c + 1
                · have d3 : decide ((d : Int) < (k.h : Int) - (c : Int) + 1) = true := by simp; omega
                  have bk := BK.out.keep hI3.out.2 (by simp)
                  have x3 := bk.cell 2
                  simp at x3
                  have lk3 := bk.lt
                  clear bk
                  go_wp2
                  clear x3 lk3
                  go_loopw [3, 43] (fun v i wr => ∃ e : Nat, e ≤ k.l + 1 ∧ i = .int .i64 (e : Int) ∧ Hid (Got W0 wr v (W.part (W.part (W.part (W.part (W.part [] (W.Q2 k) a) (W.Q3 k a) b) (W.Q4 k a b) c) (W.Q5 k a b c) d) (W.Q6 k a b c d) e))) (fun _ i _ => (k.l + 1 - (intOf i).toNat))
                  case atStart => exact ⟨0, Nat.zero_le _, rfl, hide (by rw [W.part_zero]; exact hI3.out)⟩
                  case round =>
                    obtain ⟨e, he, rfl, hI4⟩ := hrel
                    by_cases te : e < k.l + 1
                    · have d4 : decide ((e : Int) < (k.l : Int) + 1) = true := by simp; omega
                      have bk := BK.out.keep hI4.out.2 (by simp)
                      have x4 := bk.cell 2
                      simp at x4
                      have lk4 := bk.lt
                      clear bk
                      go_wp2
                      clear x4 lk4
                      go_loopw [3, 51] (fun v i wr => ∃ f : Nat, f ≤ k.l - e + 1 ∧ i = .int .i64 (f : Int) ∧ Hid (Got W0 wr v (W.part (W.part (W.part (W.part (W.part (W.part [] (W.Q2 k) a) (W.Q3 k a) b) (W.Q4 k a b) c) (W.Q5 k a b c) d) (W.Q6 k a b c d) e) (W.Q7 k a b c d e) f))) (fun _ i _ => (k.l - e + 1 - (intOf i).toNat))
                      case atStart => exact ⟨0, Nat.zero_le _, rfl, hide (by rw [W.part_zero]; exact hI4.out)⟩
                      case round =>
                        obtain ⟨f, hf, rfl, hI5⟩ := hrel
                        by_cases tf : f < k.l - e + 1
                        · have d5 : decide ((f : Int) < (k.l : Int) - (e : Int) + 1) = true := by simp; omega
                          have bk := BK.out.keep hI5.out.2 (by simp)
                          have x0 := bk.cell 0
                          have x1 := bk.cell 1
                          have x2 := bk.cell 2
                          have x3 := bk.cell 3
                          have x4 := bk.cell 4
                          simp at x0 x1 x2 x3 x4
                          have lk := bk.lt
                          clear bk
                          have hlen : (W.part (W.part (W.part (W.part (W.part (W.part [] (W.Q2 k) a) (W.Q3 k a) b) (W.Q4 k a b) c) (W.Q5 k a b c) d) (W.Q6 k a b c d) e) (W.Q7 k a b c d e) f).length ≤ 100000000 := by
                            have := W.len_part (W.len_part (W.len_part (W.len_part (W.len_part (W.len_part (acc := []) (t := 0) (Nat.le_refl 0) (show a ≤ 14 by omega) (W.len_Q2 HKC.out)) (show b ≤ 14 by omega) (W.len_Q3 HKC.out a)) (show c ≤ 14 by omega) (W.len_Q4 HKC.out a b)) (show d ≤ 14 by omega) (W.len_Q5 HKC.out a b c)) (show e ≤ 14 by omega) (W.len_Q6 HKC.out a b c d)) (show f ≤ 14 by omega) (W.len_Q7 k a b c d e)
                            omega
                          have e0 := rg0 (x := ⟨a, b, c, d, e, f⟩) (s := (a : Int) + (c : Int) + (e : Int) - (b : Int) - (d : Int) - (f : Int)) (by simp only [W.L.left, W.L.right]; omega)
                          have e1 := rg1 (x := ⟨a, b, c, d, e, f⟩) (s := (a : Int) + (c : Int) + (e : Int) - (b : Int) - (d : Int) - (f : Int)) (by simp only [W.L.left, W.L.right]; omega)
                          have hF := fun w => risload_any (k.b : Int) (k.h : Int) (k.l : Int) (k.g : Int) (a : Int) (b : Int) (c : Int) (d : Int) (e : Int) (f : Int) ((W.L.mk a b c d e f).g0 : Int) ((W.L.mk a b c d e f).g1 : Int) k.n w (by omega) (by omega) (by omega) (by omega)
                          have hfit : W.isLd (k.b : Int) (k.h : Int) (k.l : Int) (k.g : Int) (a : Int) (b : Int) (c : Int) (d : Int) (e : Int) (f : Int) ((W.L.mk a b c d e f).g0 : Int) ((W.L.mk a b c d e f).g1 : Int) = W.fits k ⟨a, b, c, d, e, f⟩ := W.isLd_fits (k := k) (x := ⟨a, b, c, d, e, f⟩) rfl rfl
                          rw [hfit] at hF
                          clear hfit
                          have hrow : W.cellsL ⟨a, b, c, d, e, f⟩ = [.int .i64 (a : Int), .int .i64 (b : Int), .int .i64 (c : Int), .int .i64 (d : Int), .int .i64 (e : Int), .int .i64 (f : Int), .int .i64 ((W.L.mk a b c d e f).g0 : Int), .int .i64 ((W.L.mk a b c d e f).g1 : Int)] := rfl
                          generalize (W.L.mk a b c d e f).g0 = G0 at e0 hF hrow
                          generalize (W.L.mk a b c d e f).g1 = G1 at e1 hF hrow
                          have HF := hide hF
                          have HR := hide hrow
                          clear hF hrow
                          have E0 := hide e0
                          have E1 := hide e1
                          clear e0 e1
                          go_wp2_with (with_reducible refine halt_at 81 ?_)
                          refine Halt.go ?_
                          rw [E0.out, E1.out]
                          go_wp2_with fail
                          refine (HF.out _).mono ?_
                          rintro e' w1 ⟨rfl, hw1⟩
                          have cg : Hid (Chg [] W0 w1) := hide ((hI5.out.2.alloc _).trans hw1)
                          have ho : Hid (w1.ownsRow W0.heap.size 33 8 _ _ _) := hide ((((Chg.refl _ _).alloc _).trans hw1).row hI5.out.1 (fun _ _ => List.not_mem_nil))
                          cases hfits : W.fits k ⟨a, b, c, d, e, f⟩ with
                          | false =>
                            have HH := hide hfits
                            clear hfits hw1
                            go_wp2
                            go_roundw
                            case rel => exact ⟨f + 1, by omega, by go_num, hide (by rw [W.part_succ, W.Q7, if_neg (by rw [HH.out]; decide), List.append_nil]; exact ⟨ho.out, cg.out⟩)⟩
                            case measure => simp [intOf]; omega
                          | true =>
                            have HH := hide hfits
                            have bl := (Box.new wr #[.int .i64 (a : Int), .int .i64 (b : Int), .int .i64 (c : Int), .int .i64 (d : Int), .int .i64 (e : Int), .int .i64 (f : Int), .int .i64 (G0 : Int), .int .i64 (G1 : Int)] 33).keep hw1 (by simp)
                            have z0 := bl.cell 0
                            have z1 := bl.cell 1
                            have z2 := bl.cell 2
                            have z3 := bl.cell 3
                            have z4 := bl.cell 4
                            have z5 := bl.cell 5
                            have z6 := bl.cell 6
                            have z7 := bl.cell 7
                            simp at z0 z1 z2 z3 z4 z5 z6 z7
                            have lz := bl.lt
                            have lsz := cg.out.size
                            clear hfits hw1 bl
                            go_wp2_with (at_builtin; refine wpList_append_own _ rfl _ _ 101 rfl W0.heap.size 33 i0 z0' 8 64 Try.underlying101 hi hz0 hz1 hz2 hz3 (by decide) _ _ _ rfl (ho.out.alloc _) ⟨w1.heap.size, 0, none⟩ 1 1 [.int .i64 (a : Int), .int .i64 (b : Int), .int .i64 (c : Int), .int .i64 (d : Int), .int .i64 (e : Int), .int .i64 (f : Int), .int .i64 (G0 : Int), .int .i64 (G1 : Int)] rfl rfl (by intro j u hj; rw [add_zero_row, (Box.new w1 _ _).cell j]; simpa using hj) (by intro u hu; simp at hu; rcases hu with rfl | rfl | rfl | rfl | rfl | rfl | rfl | rfl <;> rfl) (by unfold maxLen; omega) (by omega) (by simp; omega) ?_; intro v1 w2 hown1 hgrow1 _)
                            go_roundw
                            case rel =>
                              refine ⟨f + 1, by omega, by go_num, hide ?_⟩
                              rw [W.part_succ, W.Q7, if_pos HH.out]
                              refine ⟨?_, (cg.out.alloc _).grew (ho.out.alloc _) (Nat.le_refl _) hgrow1⟩
                              rw [W.rowsL_append, List.length_append]
                              show w2.ownsRow _ _ _ _ _ (_ ++ (W.cellsL ⟨a, b, c, d, e, f⟩ ++ []))
                              rw [List.append_nil, HR.out]
                              exact hown1
                            case measure => simp [intOf]; omega
                        · have d5 : decide ((f : Int) < (k.l : Int) - (e : Int) + 1) = false := by simp; omega
                          obtain rfl : f = k.l - e + 1 := by omega
                          go_wp2
                          go_roundw
                          case rel => exact ⟨e + 1, by omega, by go_num, hide (by rw [W.part_succ]; exact hI5.out)⟩
                          case measure => simp [intOf]; omega
                    · have d4 : decide ((e : Int) < (k.l : Int) + 1) = false := by simp; omega
                      obtain rfl : e = k.l + 1 := by omega
                      go_wp2
                      go_roundw
                      case rel => exact ⟨d + 1, by omega, by go_num, hide (by rw [W.part_succ]; exact hI4.out)⟩
                      case measure => simp [intOf]; omega
                · have d3 : decide ((d : Int) < (k.h : Int) - (c : Int) + 1) = false := by simp; omega
                  obtain rfl : d = k.h - c + 1 := by omega
                  go_wp2
                  go_roundw
                  case rel => exact ⟨c + 1, by omega, by go_num, hide (by rw [W.part_succ]; exact hI3.out)⟩
                  case measure => simp [intOf]; omega
            · have d2 : decide ((c : Int) < (k.h : Int) + 1) = false := by simp; omega
              obtain rfl : c = k.h + 1 := by omega
              go_wp2
              go_roundw
              case rel => exact ⟨b + 1, by omega, by go_num, hide (by rw [W.part_succ]; exact hI2.out)⟩
              case measure => simp [intOf]; omega
        · have d1 : decide ((b : Int) < (k.b : Int) - (a : Int) + 1) = false := by simp; omega
          obtain rfl : b = k.b - a + 1 := by omega
          go_wp2
          go_roundw
          case rel => exact ⟨a + 1, by omega, by go_num, hide (by rw [W.part_succ]; exact hI1.out)⟩
          case measure => simp [intOf]; omega
    · have d0 : decide ((a : Int) < (k.b : Int) + 1) = false := by simp; omega
      obtain rfl : a = k.b + 1 := by omega
      go_wp2
      go_ret
      exact ⟨_, rfl, c0.out.trans hI0.out.2, row_low hI0.out.1 c0.out.size⟩
end Go.Proofs.Ytohdjlgghkcaoaa
