/- Plain and walk: what is said at two places; a plan cloned. -/
import Derived.Test.YtaapamoglgpocaaPlan2
namespace Go.Proofs.Ytaapamoglgpocaa
open Go.RowKit

/-- Two places with the same talk are in one clear rectangle. -/
theorem said_mix {ps : List Nd} (h : isPl ps = true) (a b c d : Nat) : ∀ (f i : Nat), i < ps.length → ps.length ≤ f + i → runA ps a b i = runA ps c d i → runA ps a d i = runA ps a b i
  | 0, i, h1, h2, _ => by omega
  | f + 1, i, h1, h2, he => by
    cases hl : (ps.getD i nd0).leaf with
    | true => rw [runA_leaf h1 hl, runA_leaf h1 hl]
    | false =>
      rw [runA_node h h1 hl, runA_node h h1 hl] at he
      injection he with e1 e2
      have e1 : sayN (ps.getD i nd0) a b = sayN (ps.getD i nd0) c d := by omega
      have e3 : sayN (ps.getD i nd0) a d = sayN (ps.getD i nd0) a b := by
        unfold sayN at e1 ⊢
        by_cases hw : (ps.getD i nd0).who = 0
        · rw [if_pos hw, if_pos hw]
        · rw [if_neg hw, if_neg hw] at e1
          rw [if_neg hw, if_neg hw, e1]
      rw [← e1] at e2
      obtain ⟨n1, n2⟩ := next_gt h h1 hl (sayN (ps.getD i nd0) a b)
      rw [runA_node h h1 hl, runA_node h h1 hl, e3, said_mix h a b c d f _ n2 (by omega) e2]
theorem mod_small (a : Int) (m : Nat) (h0 : 0 < m) (h1 : m ≤ 1000000) : ∃ G : Nat, wrap64 ((IntKind.u64.wrap a).tmod (m : Int)) = (G : Int) ∧ G < m := by
  have hu : 0 ≤ IntKind.u64.wrap a := by simp only [IntKind.wrap, IntKind.bits, IntKind.signed]; simp; omega
  have h2 : (IntKind.u64.wrap a).tmod (m : Int) = IntKind.u64.wrap a % (m : Int) := Int.tmod_eq_emod_of_nonneg hu
  have h3 : 0 ≤ IntKind.u64.wrap a % (m : Int) := Int.emod_nonneg _ (by omega)
  have h4 : IntKind.u64.wrap a % (m : Int) < (m : Int) := Int.emod_lt_of_pos _ (by omega)
  rw [h2, IntWalk.wrap64_in _ ⟨by omega, by omega⟩]
  exact ⟨(IntKind.u64.wrap a % (m : Int)).toNat, by omega, by omega⟩

@[go_sem] theorem run_eql_nodes_nil (w : World) (a : Option Addr) (l c : Nat) : (binOp .eql 23 (.slice a l c) (.slice none 0 0)).run Try.prog w = .ok (.bool a.isNone) w := by
  simp only [binOp]
  simp [run_equal_slice_nil w _ _ a l c Try.underlying23]
theorem flat_one (ps : List Nd) : ∀ u ∈ flat ps, u.oneCell' = true := by
  intro u hu
  obtain ⟨x, _, hx⟩ := List.mem_flatMap.1 hu
  exact nd_one x u hx

set_option maxRecDepth 100000 in
set_option maxHeartbeats 1000000 in
theorem CloneN_any (v : Value) (ps : List Nd) (w : World) (hv : SeeN w v ps) (hl : ps.length ≤ 1000) (hne : ps ≠ []) :
    Calls Try.prog 37 #[v] w fun e w' => ∃ v', e = .returned v' ∧ SeeN w' v' ps ∧ Chg [] w w' := by
  obtain ⟨i0, hi', hz0, hz1, hz2⟩ := info_parts infoNode
  obtain ⟨ao, cap, rfl, hcap, hA⟩ := hv
  obtain ⟨a, rfl, hb, hc⟩ := hA hne
  have hcell : ∀ j u, (flat ps)[j]? = some u → w.cell? (a.add j) = some u := by
    intro j u hu
    have hj : j < ps.length * 6 := by
      rw [← flat_len]
      exact (List.getElem?_eq_some_iff.1 hu).1
    have hdm := Nat.div_add_mod j 6
    have h6 : j % 6 < 6 := Nat.mod_lt _ (by decide)
    have hq : j / 6 < ps.length := by omega
    have e := flat_at ps (j / 6) (j % 6) hq h6
    rw [show j / 6 * 6 + j % 6 = j by omega, hu] at e
    obtain ⟨m0, m1, m2, m3, m4, m5⟩ := hc (j / 6) hq
    generalize hk : j % 6 = k at *
    match k, h6, e with
    | 0, _, e => rw [show j = j / 6 * 6 by omega, m0]; exact e.symm
    | 1, _, e => rw [show j = j / 6 * 6 + 1 by omega, m1]; exact e.symm
    | 2, _, e => rw [show j = j / 6 * 6 + 2 by omega, m2]; exact e.symm
    | 3, _, e => rw [show j = j / 6 * 6 + 3 by omega, m3]; exact e.symm
    | 4, _, e => rw [show j = j / 6 * 6 + 4 by omega, m4]; exact e.symm
    | 5, _, e => rw [show j = j / 6 * 6 + 5 by omega, m5]; exact e.symm
  have HC := hide hcell
  have HB := hide hb
  clear hcell hc hA hne hb
  obtain ⟨n, hn⟩ : ∃ n, n = ps.length := ⟨_, rfl⟩
  have HN := hide hn
  rw [← hn] at hl hcap ⊢
  clear hn
  go_enter Try.func37, Try.ntmps37
  go_wp2_with (at_builtin; refine wpList_append_own _ rfl _ _ 23 rfl w.heap.size 54 i0 (.agg #[.bool false, .int .i64 0, .int .i64 0, .int .i64 0, .int .i64 0, .int .i64 0]) 6 48 Try.underlying23 hi' hz0 hz1 hz2 rfl (by decide) _ _ _ rfl (World.ownsRow_made w #[] 0 (Nat.le_refl _) (Nat.zero_le _) rfl) a n cap (flat ps) rfl (by rw [flat_len, HN.out]) (by intro j u hu; rw [((Chg.refl [] w).alloc _).cellA (by rw [add_block]; exact HB.out) List.not_mem_nil]; exact HC.out j u hu) (flat_one ps) (by unfold maxLen; omega) (by omega) (by simp) ?_; intro v1 w1 hown1 hgrow1 _)
  go_ret
  refine ⟨_, rfl, nodes_see (by rw [← HN.out]; simpa using hown1), ((Chg.refl [] w).alloc _).grew (World.ownsRow_made (base := w.heap.size) (e := 54) (size := 6) w #[] 0 (Nat.le_refl _) (Nat.zero_le _) rfl) (Nat.le_refl _) hgrow1⟩
end Go.Proofs.Ytaapamoglgpocaa
