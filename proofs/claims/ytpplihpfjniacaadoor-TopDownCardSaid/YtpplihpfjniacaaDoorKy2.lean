/- Walks: the least of a list by a comparison; a search for the empty concept. -/
import Derived.Test.YtpplihpfjniacaaDoorKy1
namespace Go.Proofs.YtpplihpfjniacaaDoor
open Go.RowKit Go.Maps

theorem callK (args : Array Value) (W : World) : (callFunc 87 args).run Tryd.prog W = .ok (.enter 87 args) W := by kernel_rfl
set_option maxRecDepth 100000 in
set_option maxHeartbeats 1000000 in
theorem minK_any (v : Value) (xs : List Nat) (w : World) (hv : See w v (xs.map fun (k : Nat) => (k : Int))) (hn : xs ≠ []) (hl : xs.length ≤ 1000) (hx : ∀ k ∈ xs, k < 65536) :
    Calls Tryd.prog 86 #[v, .func (.func 87) #[] #[]] w (Ret (.int .i64 (minTo xs (xs.length - 1) : Int)) w) := by
  have hcall := callK
  have HK := hide fun a b ws (ha : a < 65536) (hb : b < 65536) => key1_any a b ws ha hb
  have hlen : (xs.map fun (k : Nat) => (k : Int)).length = xs.length := List.length_map ..
  have hget : ∀ i, (xs.map fun (k : Nat) => (k : Int)).getD i 0 = ((xs.getD i 0 : Nat) : Int) := fun i => by
    rw [List.getD_eq_getElem?_getD, List.getD_eq_getElem?_getD, List.getElem?_map]
    cases xs[i]? <;> rfl
  have HMem := hide fun i (hi : i < xs.length) => (show xs.getD i 0 ∈ xs by
    rw [List.getD_eq_getElem?_getD, List.getElem?_eq_getElem hi]; exact List.getElem_mem hi)
  have HMin := hide fun i (hi : i < xs.length) => hx _ (minTo_mem hn i hi)
  have HX := hide hx
  have HS : Hid (∀ i, minTo xs (i + 1) = if ltK (xs.getD (i + 1) 0) (minTo xs i) = true then xs.getD (i + 1) 0 else minTo xs i) := hide fun i => rfl
  have H0 : Hid (minTo xs 0 = xs.getD 0 0) := hide rfl
  have npos : 0 < xs.length := List.length_pos_iff.2 hn
  have nl : (xs.map fun (k : Nat) => (k : Int)) ≠ [] := fun e => hn (List.map_eq_nil_iff.1 e)
  obtain ⟨a, cap, rfl, hcell⟩ := hv.open nl
  rw [hlen] at hcell ⊢
  have HC := hide fun wr (hw : Chg [] w wr) i (hi : i < xs.length) => (by rw [hcell wr hw i hi, hget] : wr.cell? (a.add i) = some (.int .i64 ((xs.getD i 0 : Nat) : Int)))
  generalize minTo xs = mt at *
  obtain ⟨n, hn'⟩ : ∃ n, n = xs.length := ⟨_, rfl⟩
  rw [← hn'] at HC HMem HMin npos hl ⊢
  have hc0 := HC.out w (Chg.refl _ _) 0 npos
  rw [add_nought, ← H0.out] at hc0
  have q1 : decide ((n : Int) < 1) = false := by simp; omega
  have m0 : (0 : Int) < (n : Int) := by omega
  clear hv hn hx hlen hget nl hcell hn' H0
  generalize hm0 : mt 0 = m00 at hc0
  have HM0 := hide hm0
  clear hm0
  go_enter Tryd.func86, Tryd.ntmps86
  go_wp2
  go_loopw [5, 6] (fun mv iv ws => ∃ j M : Nat, j < n ∧ iv = .int .i64 ((j + 1 : Nat) : Int) ∧ mv = .int .i64 (M : Int) ∧ Hid (M = mt j ∧ Chg [] w ws)) (fun _ iv _ => n - (intOf iv).toNat)
  case atStart => exact ⟨0, m00, npos, rfl, rfl, hide ⟨HM0.out.symm, Chg.refl _ _⟩⟩
  case round =>
    obtain ⟨j, M, hj, rfl, rfl, hI⟩ := hrel
    obtain ⟨i, hij⟩ : ∃ i, i = j + 1 := ⟨_, rfl⟩
    rw [← hij]
    by_cases hlt : i < n
    · have d1 : decide ((i : Int) < (n : Int)) = true := by simp; omega
      have i0 : (0 : Int) ≤ (i : Int) := by omega
      have fx := HC.out wr hI.out.2 i hlt
      have HSj := hide (HS.out j)
      have hM := HMin.out j hj
      have hX := HX.out _ (HMem.out i hlt)
      rw [← hij, ← hI.out.1] at HSj
      rw [← hI.out.1] at hM
      generalize xs.getD i 0 = x at *
      have HKx := hide fun ws => HK.out x M ws hX hM
      have HR : Hid (ltK x M = decide (orV [cmpI (Lr.cnt x 16) (Lr.cnt M 16), cmpI x M] < 0)) := hide rfl
      generalize orV [cmpI (Lr.cnt x 16) (Lr.cnt M 16), cmpI x M] = R at *
      have HI := hide hI.out
      have HIJ := hide hij
      clear hI hij
      cases hb : decide (R < 0) with
      | true =>
        have HN : Hid (mt i = x) := hide (by rw [HSj.out, if_pos (by rw [HR.out, hb])])
        go_wp2_with fail
        refine (HKx.out _).mono ?_
        rintro e w2 ⟨rfl, hw⟩
        have C2 := hide (HI.out.2.trans hw)
        have fx2 := (C2.out.cellA (p := a.add i) (World.block_lt_of_cell? w _ (HC.out w (Chg.refl _ _) i hlt)) List.not_mem_nil).trans (((HI.out.2.cellA (p := a.add i) (World.block_lt_of_cell? w _ (HC.out w (Chg.refl _ _) i hlt)) List.not_mem_nil).symm).trans fx)
        clear hw
        go_wp2
        go_roundw
        case rel => exact ⟨i, x, hlt, by go_num, rfl, hide ⟨HN.out.symm, C2.out⟩⟩
        case measure => have := HIJ.out; simp [intOf]; omega
      | false =>
        have HN : Hid (mt i = M) := hide (by rw [HSj.out, if_neg (by rw [HR.out, hb]; decide)])
        go_wp2_with fail
        refine (HKx.out _).mono ?_
        rintro e w2 ⟨rfl, hw⟩
        have C2 := hide (HI.out.2.trans hw)
        clear hw
        go_wp2
        go_roundw
        case rel => exact ⟨i, M, hlt, by go_num, rfl, hide ⟨HN.out.symm, C2.out⟩⟩
        case measure => have := HIJ.out; simp [intOf]; omega
    · have d1 : decide ((i : Int) < (n : Int)) = false := by simp; omega
      have hjn : j = n - 1 := by omega
      have HX2 := hide hI.out
      rw [hjn] at HX2
      clear hI hjn hij
      go_wp2
      go_ret
      exact ⟨by rw [HX2.out.1]; rfl, HX2.out.2⟩

set_option maxRecDepth 100000 in
set_option maxHeartbeats 1000000 in
theorem bin0_any (v : Value) (l : List Int) (w : World) (hv : See w v l) (h0 : l.getD 0 0 = 0) (hp : ∀ x ∈ l, 0 ≤ x) (h1 : 1 ≤ l.length) (h16 : l.length ≤ 16) :
    Calls Tryd.prog 53 #[v, .int .i64 0] w (Ret (.tuple #[.int .i64 0, .bool true]) w) := by
  have HL := hide fun x ws => less_any x 0 ws
  have nl : l ≠ [] := fun e => by rw [e] at h1; simp at h1
  obtain ⟨a, cap, rfl, hcell⟩ := hv.open nl
  have HC := hide hcell
  have HP := hide fun i (hi : i < l.length) => hp _ (getD_mem hi)
  have H0 := hide h0
  clear hv h0 hp nl hcell
  generalize l.length = n at *
  have m0 : (0 : Int) < (n : Int) := by omega
  go_enter Tryd.func53, Tryd.ntmps53
  go_wp2
  go_loopw [7, 8] (fun iv jv ws => ∃ j : Nat, j ≤ n ∧ iv = .int .i64 0 ∧ jv = .int .i64 (j : Int) ∧ Hid (Chg [] w ws)) (fun _ jv _ => (intOf jv).toNat)
  case atStart => exact ⟨n, Nat.le_refl _, rfl, rfl, hide (Chg.refl _ _)⟩
  case round =>
    obtain ⟨j, hj, rfl, rfl, hI⟩ := hrel
    by_cases hj0 : j = 0
    · subst hj0
      have f0 := HC.out wr hI.out 0 (by omega)
      rw [H0.out, add_nought] at f0
      go_wp2
      go_ret2
      exact ⟨by rfl, hI.out⟩
    · have d1 : decide ((0 : Int) < (j : Int)) = true := by simp; omega
      have ew : IntKind.u64.wrap (j : Int) = (j : Int) := by rw [IntKind.wrap_u64]; omega
      have eh : (j : Int) / 2 = ((j / 2 : Nat) : Int) := by omega
      have ew2 : wrap64 ((j / 2 : Nat) : Int) = ((j / 2 : Nat) : Int) := by unfold wrap64; omega
      have hh : j / 2 < j := by omega
      have fx := HC.out wr hI.out (j / 2) (by omega)
      have hpx := HP.out (j / 2) (by omega)
      have i0 : (0 : Int) ≤ ((j / 2 : Nat) : Int) := by omega
      have i1 : ((j / 2 : Nat) : Int) < (n : Int) := by omega
      generalize j / 2 = h at *
      generalize l.getD h 0 = x at *
      have HLx := hide (HL.out x)
      rw [decide_eq_false (show ¬ x < 0 by omega)] at HLx
      go_wp2_with fail
      refine (HLx.out _).mono ?_
      rintro e w2 ⟨rfl, hw⟩
      go_wp2
      go_roundw
      case rel => exact ⟨h, by omega, rfl, rfl, hide (hI.out.trans hw)⟩
      case measure => simp [intOf]; omega
end Go.Proofs.YtpplihpfjniacaaDoor
