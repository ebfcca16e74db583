/- Walk: Plan. -/
import Derived.Test.YtaapamoglgpocaaPlan1
import Derived.Test.YtaapamoglgpocaaRun4
namespace Go.Proofs.Ytaapamoglgpocaa
open Go.RowKit Go.Maps

theorem plan_all (w1 : World) (Bd bk bf : Nat) (vt : Value) (t : List (List Int)) (base : Nat) (hv : See2 w1 vt t) (ht : T.isTab t = true) (n1 : Bd ≠ bk) (n2 : Bd ≠ bf) (n3 : bk ≠ bf) (hB : w1.heap.size ≤ Bd ∧ w1.heap.size ≤ bk ∧ w1.heap.size ≤ bf) (hb : Bd < base ∧ bk < base ∧ bf < base) : ∀ F, PlanOk w1 Bd bk bf vt t base F
  | 0 => fun r c k w fk ff pre lv _ h => by omega
  | F + 1 => plan_more w1 Bd bk bf vt t base F hv ht n1 n2 n3 hB hb (plan_all w1 Bd bk bf vt t base hv ht n1 n2 n3 hB hb F)
theorem pop4 {a : Nat} (h : a < 16) : T.pop a ≤ 4 := by
  have : (List.range 16).all (fun a => decide (T.pop a ≤ 4)) = true := by decide +kernel
  exact of_decide_eq_true (List.all_eq_true.1 this a (List.mem_range.2 h))
/-- What Plan returns for a table. -/
def PlanOf (t : List (List Int)) (v : Value) (w w' : World) (xs : List Nd) : Prop := Pl t (2 ^ t.length - 1) (2 ^ T.cols t - 1) 0 xs ∧ w'.ownsRow w.heap.size 54 6 v xs.length (flat xs) ∧ Chg [] w w'

set_option maxRecDepth 100000 in
set_option maxHeartbeats 1000000 in
theorem Plan_bad (v : Value) (t : List (List Int)) (w : World) (hv : See2 w v t) (hl : ∀ r ∈ t, r.length ≤ 1000000) (htl : t.length ≤ 1000000) (ht : T.isTab t = false) : Calls Try.prog 17 #[v] w (Ret (.tuple #[.slice none 0 0, .int .i64 2]) w) := by
  have HVa := hide (valid_any v t w hv hl htl)
  obtain ⟨ao, cap, rfl⟩ := hv.shape
  rw [ht] at HVa
  clear hv hl htl ht
  generalize t.length = n at *
  go_enter Try.func17, Try.ntmps17
  go_wp2_with fail
  refine HVa.out.mono ?_
  rintro e w1 ⟨rfl, hw1⟩
  go_wp2
  go_ret2
  exact ⟨rfl, hw1⟩

set_option maxRecDepth 100000 in
set_option maxHeartbeats 1000000 in
theorem Plan_good (v : Value) (t : List (List Int)) (w : World) (hv : See2 w v t) (hl : ∀ r ∈ t, r.length ≤ 1000000) (htl : t.length ≤ 1000000) (ht : T.isTab t = true) :
    Calls Try.prog 17 #[v] w fun e w' => ∃ v' xs, e = .returned (.tuple #[v', .int .i64 0]) ∧ PlanOf t v' w w' xs := by
  have HVa := hide (valid_any v t w hv hl htl)
  obtain ⟨ao, cap, rfl⟩ := hv.shape
  rw [ht] at HVa
  have HDb := hide fun ws (hw : Chg [] w ws) => debate_any _ t ws (hv.keep hw)
  have HWh := hide fun ws (hw : Chg [] w ws) => whole_any _ t ws (hv.keep hw) ht
  have HPl := hide fun w2 w3 Bd bk bf (hw : Chg [] w w2) (n1 : Bd ≠ bk) (n2 : Bd ≠ bf) (n3 : bk ≠ bf) (hB : w2.heap.size ≤ Bd ∧ w2.heap.size ≤ bk ∧ w2.heap.size ≤ bf) (hb : Bd < (w3 : World).heap.size ∧ bk < w3.heap.size ∧ bf < w3.heap.size) => plan_all w2 Bd bk bf _ t w3.heap.size (hv.keep hw) ht n1 n2 n3 hB hb (2 ^ t.length - 1 + (2 ^ T.cols t - 1) + 1)
  have HWi := hide (whole_within ht)
  obtain ⟨⟨t1, t2, t3, t4⟩, _⟩ := T.isTab_iff.1 ht
  have r1 := hide (whole_lt t1 t2)
  have r2 := hide (whole_lt t3 t4)
  have HPop : Hid (0 + 2 * (T.pop (2 ^ t.length - 1) * T.pop (2 ^ T.cols t - 1)) ≤ 1000) := hide (by
    have h1 := pop4 r1.out.1
    have h2 := pop4 r2.out.1
    have := Nat.mul_le_mul h1 h2
    omega)
  unfold PlanOf
  clear hv hl htl ht t1 t2 t3 t4
  generalize 2 ^ T.cols t - 1 = c at *
  generalize 2 ^ t.length - 1 = r at *
  generalize t.length = n at *
  go_enter Try.func17, Try.ntmps17
  go_wp2_with fail
  refine HVa.out.mono ?_
  rintro e w1 ⟨rfl, hw1⟩
  go_wp2_with fail
  refine (HDb.out _ hw1).mono ?_
  rintro e w2 ⟨Bd, bk, bf, rfl, hD, hB1, hB2, hB3, n1, n2, n3⟩
  have HD := hide hD
  have HN := hide (And.intro n1 (And.intro n2 n3))
  have HB := hide (And.intro hB1 (And.intro hB2 hB3))
  have HW1 := hide hw1
  clear hD hB1 hB2 hB3 n1 n2 n3 hw1
  go_wp2_with fail
  refine (HWh.out _ (HW1.out.trans HD.out.2.2.2)).mono ?_
  rintro e w3 ⟨rfl, hw3⟩
  have HW3 := hide hw3
  have HD3 := hide (HD.out.keep hw3)
  have HC3 := hide (HW1.out.trans (HD.out.2.2.2.trans hw3))
  clear hw3
  have hgo := HPl.out w1 w3 Bd bk bf HW1.out HN.out.1 HN.out.2.1 HN.out.2.2 HB.out ⟨HD3.out.1.lt, HD3.out.2.1.lt, HD3.out.2.2.1.lt⟩ r c 0 w3 _ _ [] (.slice none 0 0) HWi.out (Nat.lt_succ_self _) HD3.out (fun _ _ _ _ _ h => by cases h) rfl (World.ownsRow_nil _ _ _ _) HPop.out (Nat.le_refl _)
  unfold rectV at hgo ⊢
  have HGo := hide hgo
  clear hgo
  go_wp2_with fail
  refine HGo.out.mono ?_
  rintro e w4 ⟨v', fk, ff, xs, rfl, hD4, _, hP, ho, _, _⟩
  have HR := hide (And.intro hP (And.intro (row_low ho HC3.out.size) (HW1.out.trans hD4.2.2.2)))
  clear hP ho hD4
  go_wp2
  go_ret2
  rw [Nat.zero_add, List.nil_append] at HR
  exact ⟨v', xs, rfl, HR.out⟩
end Go.Proofs.Ytaapamoglgpocaa

/- Walk: a plan copied back. -/
namespace Go.Proofs.Ytaapamoglgpocaa
open Go.RowKit

theorem infoRNode : (Try.prog.info? 77).map (fun i => (i.zero, i.size, i.bytes)) = some (some (.agg #[.bool false, .int .i64 0, .int .i64 0, .int .i64 0, .int .i64 0, .int .i64 0]), 6, 48) := by kernel_rfl
/-- A row of nodes that the call itself made. -/
theorem nodes_seeT {w : World} {base : Nat} {T : TypeId} {v : Value} {ps : List Nd} (h : w.ownsRow base T 6 v ps.length (flat ps)) : SeeN w v ps := by
  rcases h.2 with ⟨rfl, hn⟩ | ⟨g, cap, cur, rfl, hb, hg, hle, hcap, hsz, ht⟩
  · exact ⟨none, 0, by rw [hn], by omega, fun hne => absurd (List.length_eq_zero_iff.1 hn) hne⟩
  · refine ⟨some ⟨g, 0, none⟩, cap, rfl, hle, fun _ => ⟨_, rfl, (Array.getElem?_eq_some_iff.1 hg).1, fun i hi => ?_⟩⟩
    have key : ∀ k u, k < 6 → (ndCells (ps.getD i nd0))[k]? = some u → w.cell? ((⟨g, 0, none⟩ : Addr).add (i * 6 + k)) = some u := fun k u hk hu => by
      rw [add_zero_row, cell_of_row w g _ cur T (0, 0) hg]
      have h1 := flat_at ps i k hi hk
      rw [hu, ← ht, List.getElem?_take] at h1
      split at h1
      · simpa using h1
      · cases h1
    exact ⟨key 0 _ (by omega) rfl, key 1 _ (by omega) rfl, key 2 _ (by omega) rfl, key 3 _ (by omega) rfl, key 4 _ (by omega) rfl, key 5 _ (by omega) rfl⟩

set_option maxRecDepth 100000 in
set_option maxHeartbeats 2000000 in
theorem own_copy (v : Value) (ps : List Nd) (w : World) (hv : SeeN w v ps) (hl : ps.length ≤ 1000) :
    Calls Try.prog 21 #[v] w fun e w' => ∃ v', e = .returned v' ∧ SeeN w' v' ps ∧ Chg [] w w' := by
  obtain ⟨i0, hi', hz0, hz1, hz2⟩ := info_parts infoRNode
  obtain ⟨ao, cap, rfl⟩ := hv.shape
  have HV := hide hv
  clear hv
  obtain ⟨L, hL⟩ : ∃ L, L = ps.length := ⟨_, rfl⟩
  have HL := hide hL
  rw [← hL] at hl ⊢
  clear hL
  go_enter Try.func21, Try.ntmps21
  go_wp2
  go_loopw [3, 8] (fun ov iv wr => ∃ i : Nat, i ≤ L ∧ iv = .int .i64 (i : Int) ∧ Hid (wr.ownsRow w.heap.size 77 6 ov (ps.take i).length (flat (ps.take i)) ∧ Chg [] w wr)) (fun _ iv _ => L - (intOf iv).toNat)
  case atStart => exact ⟨0, Nat.zero_le _, rfl, hide ⟨World.ownsRow_nil _ _ _ _, Chg.refl _ _⟩⟩
  case round =>
    obtain ⟨i, hi, rfl, hI⟩ := hrel
    by_cases hlt : i < L
    · have d1 : decide ((i : Int) < (L : Int)) = true := by simpa using hlt
      have hne : ps ≠ [] := by rintro rfl; have := HL.out; simp at this; omega
      obtain ⟨a, cap', e, hcell⟩ := HV.out.open hne
      rw [← HL.out] at e
      cases e
      have hil : i < ps.length := by rw [← HL.out]; exact hlt
      obtain ⟨k0, k1, k2, k3, k4, k5⟩ := hcell wr hI.out.2 i hil
      obtain ⟨x, hx⟩ : ∃ x, x = ps.getD i nd0 := ⟨_, rfl⟩
      rw [← hx] at k0 k1 k2 k3 k4 k5
      have hi0 : (0 : Int) ≤ (i : Int) := by omega
      have hi1 : (i : Int) < (L : Int) := by omega
      have hsz := hI.out.2.size
      have hlen : (ps.take i).length = i := by rw [List.length_take]; omega
      have hsn : ps.take (i + 1) = ps.take i ++ [x] := by
        rw [List.take_add_one, List.getElem?_eq_getElem hil, hx, List.getD_eq_getElem?_getD, List.getElem?_eq_getElem hil]
        rfl
      have hown := hI.out.1
      rw [hlen] at hown
      have HOwn := hide hown
      have HSn := hide hsn
      have HLen := hide hlen
      have hca : Chg [] wr (wr.alloc (.cells #[.bool x.leaf, .int .i64 x.val, .int .i64 x.who, .int .i64 x.set, .int .i64 x.no, .int .i64 x.yes] 54)) := (Chg.refl _ _).alloc _
      have hsa : (wr.alloc (.cells #[.bool x.leaf, .int .i64 x.val, .int .i64 x.who, .int .i64 x.set, .int .i64 x.no, .int .i64 x.yes] 54)).heap.size = wr.heap.size + 1 := by simp
      have HOwnA := hide (hca.row hown (fun _ _ => List.not_mem_nil))
      have HCA : Hid (Chg [] w (wr.alloc (.cells #[.bool x.leaf, .int .i64 x.val, .int .i64 x.who, .int .i64 x.set, .int .i64 x.no, .int .i64 x.yes] 54))) := hide (hI.out.2.trans hca)
      clear hcell hne hil hx hsn hown hlen hca
      go_wp2_with (at_builtin; refine wpList_append_own _ rfl _ _ 30 rfl w.heap.size 77 i0 (.agg #[.bool false, .int .i64 0, .int .i64 0, .int .i64 0, .int .i64 0, .int .i64 0]) 6 48 Try.underlying30 hi' hz0 hz1 hz2 rfl (by decide) _ _ _ rfl (HOwnA.out.alloc _) ⟨wr.heap.size + 1, 0, none⟩ 1 1 (ndCells x).toList rfl rfl (by intro j u hj; rw [add_zero_row]; have hb := (Box.at (wr.alloc (.cells #[.bool x.leaf, .int .i64 x.val, .int .i64 x.who, .int .i64 x.set, .int .i64 x.no, .int .i64 x.yes] 54)) (ndCells x) 77 (n := wr.heap.size + 1) (by simp)).cell j; refine Eq.trans hb ?_; simpa using hj) (by intro u hu; simp [ndCells] at hu; rcases hu with rfl | rfl | rfl | rfl | rfl | rfl <;> rfl) (by unfold maxLen; omega) (by omega) (by simp; omega) ?_; intro v1 w2 hown1 hgrow1 _)
      go_roundw
      case rel => exact ⟨i + 1, by omega, by go_num, hide ⟨by
        rw [HSn.out, List.length_append, HLen.out, flat_snoc]
        exact hown1, chg_grown (HCA.out.alloc _) (HOwnA.out.alloc _) (Nat.le_refl _) hgrow1⟩⟩
      case measure => simp [intOf]; omega
    · have d1 : decide ((i : Int) < (L : Int)) = false := by simpa using hlt
      obtain rfl : i = L := by omega
      go_wp2
      go_ret
      refine ⟨_, rfl, ?_, hI.out.2⟩
      have h := hI.out.1
      rw [show ps.take i = ps from List.take_of_length_le (by rw [HL.out]; exact Nat.le_refl _)] at h
      exact nodes_seeT h
end Go.Proofs.Ytaapamoglgpocaa

/- Plain and walk: what is said at two places; a plan cloned. -/
namespace Go.Proofs.Ytaapamoglgpocaa
open Go.RowKit

/-- Two places with the same talk are in one clear rectangle. -/
theorem said_mix {ps : List Nd} (h : isPl ps = true) (a b c d : Nat) : ∀ (f i : Nat), i < ps.length → ps.length ≤ f + i → runA ps a b i = runA ps c d i → runA ps a d i = runA ps a b i
  | 0, i, h1, h2, _ => by omega
  | f + 1, i, h1, h2, he => by
    cases hl : (ps.getD i nd0).leaf with
    | true => rw [runA_leaf h1 hl, runA_leaf h1 hl]
    | false =>
      rw [runA_node h h1 hl, runA_node h h1 hl] at he
      injection he with e1 e2
      have e1 : sayN (ps.getD i nd0) a b = sayN (ps.getD i nd0) c d := by omega
      have e3 : sayN (ps.getD i nd0) a d = sayN (ps.getD i nd0) a b := by
        unfold sayN at e1 ⊢
        by_cases hw : (ps.getD i nd0).who = 0
        · rw [if_pos hw, if_pos hw]
        · rw [if_neg hw, if_neg hw] at e1
          rw [if_neg hw, if_neg hw, e1]
      rw [← e1] at e2
      obtain ⟨n1, n2⟩ := next_gt h h1 hl (sayN (ps.getD i nd0) a b)
      rw [runA_node h h1 hl, runA_node h h1 hl, e3, said_mix h a b c d f _ n2 (by omega) e2]
theorem mod_small (a : Int) (m : Nat) (h0 : 0 < m) (h1 : m ≤ 1000000) : ∃ G : Nat, wrap64 ((IntKind.u64.wrap a).tmod (m : Int)) = (G : Int) ∧ G < m := by
  have hu : 0 ≤ IntKind.u64.wrap a := by simp only [IntKind.wrap, IntKind.bits, IntKind.signed]; simp; omega
  have h2 : (IntKind.u64.wrap a).tmod (m : Int) = IntKind.u64.wrap a % (m : Int) := Int.tmod_eq_emod_of_nonneg hu
  have h3 : 0 ≤ IntKind.u64.wrap a % (m : Int) := Int.emod_nonneg _ (by omega)
  have h4 : IntKind.u64.wrap a % (m : Int) < (m : Int) := Int.emod_lt_of_pos _ (by omega)
  rw [h2, IntWalk.wrap64_in _ ⟨by omega, by omega⟩]
  exact ⟨(IntKind.u64.wrap a % (m : Int)).toNat, by omega, by omega⟩

@[go_sem] theorem run_eql_nodes_nil (w : World) (a : Option Addr) (l c : Nat) : (binOp .eql 23 (.slice a l c) (.slice none 0 0)).run Try.prog w = .ok (.bool a.isNone) w := by
  simp only [binOp]
  simp [run_equal_slice_nil w _ _ a l c Try.underlying23]
theorem flat_one (ps : List Nd) : ∀ u ∈ flat ps, u.oneCell' = true := by
  intro u hu
  obtain ⟨x, _, hx⟩ := List.mem_flatMap.1 hu
  exact nd_one x u hx

set_option maxRecDepth 100000 in
set_option maxHeartbeats 1000000 in
theorem CloneN_any (v : Value) (ps : List Nd) (w : World) (hv : SeeN w v ps) (hl : ps.length ≤ 1000) (hne : ps ≠ []) :
    Calls Try.prog 37 #[v] w fun e w' => ∃ v', e = .returned v' ∧ SeeN w' v' ps ∧ Chg [] w w' := by
  obtain ⟨i0, hi', hz0, hz1, hz2⟩ := info_parts infoNode
  obtain ⟨ao, cap, rfl, hcap, hA⟩ := hv
  obtain ⟨a, rfl, hb, hc⟩ := hA hne
  have hcell : ∀ j u, (flat ps)[j]? = some u → w.cell? (a.add j) = some u := by
    intro j u hu
    have hj : j < ps.length * 6 := by
      rw [← flat_len]
      exact (List.getElem?_eq_some_iff.1 hu).1
    have hdm := Nat.div_add_mod j 6
    have h6 : j % 6 < 6 := Nat.mod_lt _ (by decide)
    have hq : j / 6 < ps.length := by omega
    have e := flat_at ps (j / 6) (j % 6) hq h6
    rw [show j / 6 * 6 + j % 6 = j by omega, hu] at e
    obtain ⟨m0, m1, m2, m3, m4, m5⟩ := hc (j / 6) hq
    generalize hk : j % 6 = k at *
    match k, h6, e with
    | 0, _, e => rw [show j = j / 6 * 6 by omega, m0]; exact e.symm
    | 1, _, e => rw [show j = j / 6 * 6 + 1 by omega, m1]; exact e.symm
    | 2, _, e => rw [show j = j / 6 * 6 + 2 by omega, m2]; exact e.symm
    | 3, _, e => rw [show j = j / 6 * 6 + 3 by omega, m3]; exact e.symm
    | 4, _, e => rw [show j = j / 6 * 6 + 4 by omega, m4]; exact e.symm
    | 5, _, e => rw [show j = j / 6 * 6 + 5 by omega, m5]; exact e.symm
  have HC := hide hcell
  have HB := hide hb
  clear hcell hc hA hne hb
  obtain ⟨n, hn⟩ : ∃ n, n = ps.length := ⟨_, rfl⟩
  have HN := hide hn
  rw [← hn] at hl hcap ⊢
  clear hn
  go_enter Try.func37, Try.ntmps37
  go_wp2_with (at_builtin; refine wpList_append_own _ rfl _ _ 23 rfl w.heap.size 54 i0 (.agg #[.bool false, .int .i64 0, .int .i64 0, .int .i64 0, .int .i64 0, .int .i64 0]) 6 48 Try.underlying23 hi' hz0 hz1 hz2 rfl (by decide) _ _ _ rfl (World.ownsRow_made w #[] 0 (Nat.le_refl _) (Nat.zero_le _) rfl) a n cap (flat ps) rfl (by rw [flat_len, HN.out]) (by intro j u hu; rw [((Chg.refl [] w).alloc _).cellA (by rw [add_block]; exact HB.out) List.not_mem_nil]; exact HC.out j u hu) (flat_one ps) (by unfold maxLen; omega) (by omega) (by simp) ?_; intro v1 w1 hown1 hgrow1 _)
  go_ret
  refine ⟨_, rfl, nodes_see (by rw [← HN.out]; simpa using hown1), ((Chg.refl [] w).alloc _).grew (World.ownsRow_made (base := w.heap.size) (e := 54) (size := 6) w #[] 0 (Nat.le_refl _) (Nat.zero_le _) rfl) (Nat.le_refl _) hgrow1⟩
end Go.Proofs.Ytaapamoglgpocaa
