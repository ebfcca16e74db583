/- Walk: tournaments: Cycles, Clear. -/
import Derived.Test.YtpplihpfjniacaaDoorCy2
namespace Go.Proofs.YtpplihpfjniacaaDoor
open Go.RowKit Go.Shelf

set_option maxRecDepth 100000 in
theorem countR_any (x : Nat) (w : World) (hx : x < 65536) : Calls Tryd.prog 47 #[.int .i64 (x : Int)] w (Ret (.int .i64 (Lr.cnt x 16 : Int)) w) := by
  have H := hide (ones_any x w hx)
  have ew : IntKind.u64.wrap (x : Int) = (x : Int) := by rw [IntKind.wrap_u64]; omega
  generalize Lr.cnt x 16 = R at *
  clear hx
  go_enter Tryd.func47, Tryd.ntmps47
  go_wp2_with fail
  refine H.out.mono ?_
  rintro e w2 ⟨rfl, hw⟩
  go_wp2
  go_ret
  exact ⟨rfl, hw⟩

/-- A cycle lies in a set. -/
def inSet (s : Nat) (t : Tri) : Bool := s.testBit t.1.toNat && s.testBit t.2.1.toNat && s.testBit t.2.2.toNat
theorem callClear (args : Array Value) (W : World) : (callFunc 46 args).run Tryd.prog W = .ok (.enter 46 args) W := enters_of Tryd.func46 (by kernel_rfl) rfl args W
set_option maxRecDepth 100000 in
set_option maxHeartbeats 1000000 in
theorem clear_in (s x y z B : Nat) (w : World) (hs : s < 65536) (hx : x < 8) (hy : y < 8) (hz : z < 8) (hB : BoxI w B s) :
    Calls Tryd.prog 46 #[trV ((x : Int), (y : Int), (z : Int)), .pointer (some ⟨B, 0, none⟩)] w (Ret (.bool (inSet s ((x : Int), (y : Int), (z : Int)))) w) := by
  have HR : Hid (inSet s ((x : Int), (y : Int), (z : Int)) = (s.testBit x && s.testBit y && s.testBit z)) := hide rfl
  generalize inSet s ((x : Int), (y : Int), (z : Int)) = R at HR ⊢
  unfold trV
  dsimp only
  have ex := pt_bit (s := s) (x := x) hs
  have ey := pt_bit (s := s) (x := y) hs
  have ez := pt_bit (s := s) (x := z) hs
  have x0 : (0 : Int) ≤ (x : Int) := by omega
  have x1 : (x : Int) < 64 := by omega
  have y0 : (0 : Int) ≤ (y : Int) := by omega
  have y1 : (y : Int) < 64 := by omega
  have z0 : (0 : Int) ≤ (z : Int) := by omega
  have z1 : (z : Int) < 64 := by omega
  have fB := hB.cell
  have lB := hB.lt
  have HC := hide ((Chg.refl [] w).alloc (.cells #[.int .i64 (x : Int), .int .i64 (y : Int), .int .i64 (z : Int)] 81))
  clear hs hx hy hz hB
  cases h1 : s.testBit x with
  | false =>
    rw [h1, if_neg (by decide)] at ex
    rw [h1, Bool.false_and, Bool.false_and] at HR
    clear h1 ey ez
    go_enter Tryd.func46, Tryd.ntmps46
    go_wp2
    go_ret
    exact ⟨by rw [HR.out]; rfl, HC.out⟩
  | true =>
    rw [h1, if_pos rfl] at ex
    rw [h1, Bool.true_and] at HR
    clear h1
    cases h2 : s.testBit y with
    | false =>
      rw [h2, if_neg (by decide)] at ey
      rw [h2, Bool.false_and] at HR
      clear h2 ez
      go_enter Tryd.func46, Tryd.ntmps46
      go_wp2
      go_ret
      exact ⟨by rw [HR.out]; rfl, HC.out⟩
    | true =>
      rw [h2, if_pos rfl] at ey
      rw [h2, Bool.true_and] at HR
      clear h2
      cases h3 : s.testBit z with
      | false =>
        rw [h3, if_neg (by decide)] at ez
        rw [h3] at HR
        clear h3
        go_enter Tryd.func46, Tryd.ntmps46
        go_wp2
        go_ret
        exact ⟨by rw [HR.out]; rfl, HC.out⟩
      | true =>
        rw [h3, if_pos rfl] at ez
        rw [h3] at HR
        clear h3
        go_enter Tryd.func46, Tryd.ntmps46
        go_wp2
        go_ret
        exact ⟨by rw [HR.out]; rfl, HC.out⟩

set_option maxRecDepth 100000 in
set_option maxHeartbeats 1000000 in
theorem Cycles_any (v : Value) (l : List Int) (w : World) (hv : See w v l) (hl : 1 ≤ l.length ∧ l.length ≤ 8) (ht : tourV l = true) (hT : Tz w) :
    Calls Tryd.prog 16 #[v] w fun e w' => ∃ ao m cap, e = .returned (.tuple #[.slice ao m cap, .int .i64 0]) ∧ (m = 0 ↔ Tr.Acy l) ∧ Chg [] w w' := by
  have HV := hide (validR_any v l w hv hl)
  rw [ht] at HV
  have HC := hide fun ws (hw : Chg [] w ws) => cycles_any ws v l (hv.keep hw) (Tr.tour_of hl ht) (hT.keep hw)
  obtain ⟨ao, cap, rfl⟩ := hv.shape
  clear hv hl ht hT
  generalize l.length = n at *
  go_enter Tryd.func16, Tryd.ntmps16
  go_wp2_with fail
  refine HV.out.mono ?_
  rintro e w2 ⟨rfl, h2⟩
  have H2 := hide h2
  clear h2
  go_wp2_with fail
  refine (HC.out _ H2.out).mono ?_
  rintro e w3 ⟨v', ts, rfl, hs, _, hA, _, h3⟩
  obtain ⟨ao', cap', rfl, _⟩ := hs.shape
  have H3 := hide (H2.out.trans h3)
  have HA := hide (show ts.length = 0 ↔ Tr.Acy l by rw [← hA]; exact List.length_eq_zero_iff)
  clear hs hA h3
  generalize ts.length = m at *
  go_wp2
  go_ret2
  exact ⟨ao', m, cap', rfl, HA.out, H3.out⟩

set_option maxRecDepth 100000 in
set_option maxHeartbeats 2000000 in
theorem Clear_any (v : Value) (l : List Int) (w : World) (hv : See w v l) (hl : 1 ≤ l.length ∧ l.length ≤ 6) (ht : tourV l = true) (hT : Tz w) :
    Calls Tryd.prog 17 #[v] w fun e w' => ∃ b : Nat, e = .returned (.tuple #[.int .i64 (b : Int), .int .i64 0]) ∧ (b = l.length ↔ Tr.Acy l) ∧ Chg [] w w' := by
  have T := Tr.tour_of ⟨hl.1, Nat.le_trans hl.2 (by decide)⟩ ht
  have HV := hide (validR_any v l w hv ⟨hl.1, Nat.le_trans hl.2 (by decide)⟩)
  rw [ht] at HV
  have HC := hide fun ws (hw : Chg [] w ws) => cycles_any ws v l (hv.keep hw) T (hT.keep hw)
  have HTr := hide T
  obtain ⟨ao, cap, rfl⟩ := hv.shape
  obtain ⟨n, hn⟩ : ∃ n, n = l.length := ⟨_, rfl⟩
  rw [← hn] at hl HV HC ⊢
  have HN := hide hn
  have ew := wrap_pow (m := n) (by omega)
  have hp6 : 2 ^ n ≤ 2 ^ 6 := Nat.pow_le_pow_right (by decide) hl.2
  have hp0 := Nat.two_pow_pos n
  obtain ⟨P, hP⟩ : ∃ P, P = 2 ^ n := ⟨_, rfl⟩
  rw [← hP] at ew hp6 hp0
  have HP := hide hP
  have n0 : (0 : Int) ≤ (n : Int) := by omega
  have n1 : (n : Int) < 64 := by omega
  have HL := hide hl
  clear hv hl ht hT T hn hP
  go_enter Tryd.func17, Tryd.ntmps17
  go_wp2_with fail
  refine HV.out.mono ?_
  rintro e w2 ⟨rfl, h2⟩
  have H2 := hide h2
  clear h2
  go_wp2
  have kmax := fun w ts t x y => @run_max_2 Tryd.prog w ts t x y
  rw [ew]
  clear ew
  go_loopw [5, 15] (fun bv sv wr => ∃ b s : Nat, (b ≤ n ∧ s ≤ P) ∧ bv = .int .i64 (b : Int) ∧ sv = .int .i64 (s : Int) ∧ Hid ((Tr.Acy l → s = P → b = n) ∧ (¬ Tr.Acy l → b < n) ∧ Chg [] w wr)) (fun _ sv _ => P - (intOf sv).toNat)
  case atStart => exact ⟨0, 0, ⟨Nat.zero_le _, Nat.zero_le _⟩, rfl, rfl, hide ⟨fun _ h => by omega, fun _ => HL.out.1, H2.out⟩⟩
  case round =>
    obtain ⟨b, s, ⟨hb, hs⟩, rfl, rfl, hI⟩ := hrel
    by_cases hlt : s < P
    · have d5 : decide ((s : Int) < (P : Int)) = true := by simp; omega
      go_wp2_with fail
      obtain ⟨B, hB⟩ : ∃ B, wr.heap.size = B := ⟨_, rfl⟩
      rw [hB]
      obtain ⟨W3, e3, b3, c3, z3⟩ := alloc_box hB #[.int .i64 (s : Int)] 3
      rw [e3]
      have HB3 := hide b3
      have HC3 := hide (hI.out.2.2.trans c3)
      clear e3 b3 c3
      refine (HC.out _ HC3.out).mono ?_
      rintro e w4 ⟨v', ts, rfl, hsee, hsnd, hA, hlen, h4⟩
      have HB4 := hide (HB3.out.keep h4 List.not_mem_nil)
      have HC4 := hide (HC3.out.trans h4)
      have HIn := hide (Contains_trips 46 #[.pointer (some ⟨B, 0, none⟩)] (inSet s) v' ts w4 hsee (by omega) callClear (fun r ws hr hws => by
        obtain ⟨x, y, z, rfl, h1, h2, h3⟩ := hsnd r hr
        have hn8 := HTr.out.len.2
        have := HTr.out.out _ _ h1
        have := HTr.out.out _ _ h2
        exact clear_in s x y z B ws (by omega) (by omega) (by omega) (by omega) (HB4.out.keep hws List.not_mem_nil)))
      have HFull : Hid (¬ Tr.Acy l → s + 1 = P → ts.any (inSet s) = true) := hide fun hna e => by
        have hne : ts ≠ [] := fun h => hna (hA.1 h)
        obtain ⟨t, ht⟩ : ∃ t, t ∈ ts := by
          cases ts with
          | nil => exact absurd rfl hne
          | cons t ts => exact ⟨t, List.mem_cons_self ..⟩
        refine List.any_eq_true.2 ⟨t, ht, ?_⟩
        obtain ⟨x, y, z, rfl, h1, h2, h3⟩ := hsnd t ht
        have p1 := HTr.out.out _ _ h1
        have p2 := HTr.out.out _ _ h2
        have hsP : s = 2 ^ n - 1 := by rw [← HP.out]; omega
        have hbit : ∀ q, q < l.length → s.testBit q = true := fun q hq => by
          rw [hsP, Nat.testBit_two_pow_sub_one, HN.out]
          exact decide_eq_true hq
        unfold inSet
        dsimp only
        rw [Int.toNat_natCast, Int.toNat_natCast, Int.toNat_natCast, hbit x p1.1, hbit y p1.2, hbit z p2.2]
        rfl
      have HEmp : Hid (Tr.Acy l → ts.any (inSet s) = false) := hide fun h => by rw [hA.2 h]; rfl
      obtain ⟨ao', cap', rfl, _⟩ := hsee.shape
      clear hsee hsnd hA hlen h4
      generalize ts.any (inSet s) = R at HIn HFull HEmp
      generalize ts.length = m' at *
      go_wp2_with fail
      refine HIn.out.mono ?_
      rintro e w5 ⟨rfl, h5⟩
      have HB5 := hide (HB4.out.keep h5 List.not_mem_nil)
      have HC5 := hide (HC4.out.trans h5)
      have f6 := HB5.out.cell 0
      have l6 := HB5.out.lt
      simp only [List.getElem?_toArray, List.getElem?_cons_zero] at f6
      clear h5 HIn HB3 HC3 HB4 HC4
      cases R with
      | true =>
        have hnA : ¬ Tr.Acy l := fun h => by have := HEmp.out h; cases this
        have HNx : Hid ((Tr.Acy l → s + 1 = P → b = n) ∧ (¬ Tr.Acy l → b < n)) := hide ⟨fun h => absurd h hnA, hI.out.2.1⟩
        clear hnA
        go_wp2
        go_roundw
        case rel => exact ⟨b, s + 1, ⟨hb, by omega⟩, rfl, by go_num, hide ⟨HNx.out.1, HNx.out.2, HC5.out⟩⟩
        case measure => simp [intOf]; omega
      | false =>
        have HCo := hide (countR_any s w5 (by omega))
        have hcl : Lr.cnt s 16 ≤ n ∧ (s + 1 = P → Lr.cnt s 16 = n) ∧ (s + 1 ≠ P → Lr.cnt s 16 < n) := by
          have hp := HP.out
          have hn6 := HL.out.2
          refine ⟨?_, fun e => ?_, fun e => Tr.cnt_less (by omega) (by omega)⟩
          · by_cases e : s + 1 = P
            · rw [show s = 2 ^ n - 1 by omega, Tr.cnt_all n (by omega)]
              exact Nat.le_refl _
            · exact Nat.le_of_lt (Tr.cnt_less (by omega) (by omega))
          · rw [show s = 2 ^ n - 1 by omega, Tr.cnt_all n (by omega)]
        generalize Lr.cnt s 16 = k at HCo hcl
        obtain ⟨b', hb'⟩ : ∃ b' : Nat, imax (b : Int) (k : Int) = (b' : Int) ∧ b' = max b k := ⟨max b k, by unfold imax; split <;> omega, rfl⟩
        have em := hb'.1
        have HNx : Hid (b' ≤ n ∧ (Tr.Acy l → s + 1 = P → b' = n) ∧ (¬ Tr.Acy l → b' < n)) := hide (by
          obtain ⟨h1, h2, h3⟩ := hcl
          have e := hb'.2
          refine ⟨by omega, fun _ q => by have := h2 q; omega, fun q => ?_⟩
          have p := hI.out.2.1 q
          have : s + 1 ≠ P := fun e' => by have := HFull.out q e'; cases this
          have := h3 this
          omega)
        clear hb' hcl
        go_wp2_with fail
        refine HCo.out.mono ?_
        rintro e w6 ⟨rfl, h6⟩
        have HC6 := hide (HC5.out.trans h6)
        clear h6
        go_wp2
        go_roundw
        case rel => exact ⟨b', s + 1, ⟨HNx.out.1, by omega⟩, rfl, by go_num, hide ⟨HNx.out.2.1, HNx.out.2.2, HC6.out⟩⟩
        case measure => simp [intOf]; omega
    · have d5 : decide ((s : Int) < (P : Int)) = false := by simp; omega
      go_wp2
      go_ret2
      exact ⟨b, rfl, ⟨fun e => Classical.byContradiction fun h => by have := hI.out.2.1 h; omega, fun h => hI.out.1 h (by omega)⟩, hI.out.2.2⟩
end Go.Proofs.YtpplihpfjniacaaDoor
