/- Walk: a plan copied back. -/
import Derived.Test.YtaapamoglgpocaaRun3
namespace Go.Proofs.Ytaapamoglgpocaa
open Go.RowKit

theorem infoRNode : (Try.prog.info? 77).map (fun i => (i.zero, i.size, i.bytes)) = some (some (.agg #[.bool false, .int .i64 0, .int .i64 0, .int .i64 0, .int .i64 0, .int .i64 0]), 6, 48) := by kernel_rfl
/-- A row of nodes that the call itself made. -/
theorem nodes_seeT {w : World} {base : Nat} {T : TypeId} {v : Value} {ps : List Nd} (h : w.ownsRow base T 6 v ps.length (flat ps)) : SeeN w v ps := by
  rcases h.2 with ⟨rfl, hn⟩ | ⟨g, cap, cur, rfl, hb, hg, hle, hcap, hsz, ht⟩
  · exact ⟨none, 0, by rw [hn], by omega, fun hne => absurd (List.length_eq_zero_iff.1 hn) hne⟩
  · refine ⟨some ⟨g, 0, none⟩, cap, rfl, hle, fun _ => ⟨_, rfl, (Array.getElem?_eq_some_iff.1 hg).1, fun i hi => ?_⟩⟩
    have key : ∀ k u, k < 6 → (ndCells (ps.getD i nd0))[k]? = some u → w.cell? ((⟨g, 0, none⟩ : Addr).add (i * 6 + k)) = some u := fun k u hk hu => by
      rw [add_zero_row, cell_of_row w g _ cur T (0, 0) hg]
      have h1 := flat_at ps i k hi hk
      rw [hu, ← ht, List.getElem?_take] at h1
      split at h1
      · simpa using h1
      · cases h1
    exact ⟨key 0 _ (by omega) rfl, key 1 _ (by omega) rfl, key 2 _ (by omega) rfl, key 3 _ (by omega) rfl, key 4 _ (by omega) rfl, key 5 _ (by omega) rfl⟩

set_option maxRecDepth 100000 in
set_option maxHeartbeats 2000000 in
theorem own_copy (v : Value) (ps : List Nd) (w : World) (hv : SeeN w v ps) (hl : ps.length ≤ 1000) :
    Calls Try.prog 21 #[v] w fun e w' => ∃ v', e = .returned v' ∧ SeeN w' v' ps ∧ Chg [] w w' := by
  obtain ⟨i0, hi', hz0, hz1, hz2⟩ := info_parts infoRNode
  obtain ⟨ao, cap, rfl⟩ := hv.shape
  have HV := hide hv
  clear hv
  obtain ⟨L, hL⟩ : ∃ L, L = ps.length := ⟨_, rfl⟩
  have HL := hide hL
  rw [← hL] at hl ⊢
  clear hL
  go_enter Try.func21, Try.ntmps21
  go_wp2
  go_loopw [3, 8] (fun ov iv wr => ∃ i : Nat, i ≤ L ∧ iv = .int .i64 (i : Int) ∧ Hid (wr.ownsRow w.heap.size 77 6 ov (ps.take i).length (flat (ps.take i)) ∧ Chg [] w wr)) (fun _ iv _ => L - (intOf iv).toNat)
  case atStart => exact ⟨0, Nat.zero_le _, rfl, hide ⟨World.ownsRow_nil _ _ _ _, Chg.refl _ _⟩⟩
  case round =>
    obtain ⟨i, hi, rfl, hI⟩ := hrel
    by_cases hlt : i < L
    · have d1 : decide ((i : Int) < (L : Int)) = true := by simpa using hlt
      have hne : ps ≠ [] := by rintro rfl; have := HL.out; simp at this; omega
      obtain ⟨a, cap', e, hcell⟩ := HV.out.open hne
      rw [← HL.out] at e
      cases e
      have hil : i < ps.length := by rw [← HL.out]; exact hlt
      obtain ⟨k0, k1, k2, k3, k4, k5⟩ := hcell wr hI.out.2 i hil
      obtain ⟨x, hx⟩ : ∃ x, x = ps.getD i nd0 := ⟨_, rfl⟩
      rw [← hx] at k0 k1 k2 k3 k4 k5
      have hi0 : (0 : Int) ≤ (i : Int) := by omega
      have hi1 : (i : Int) < (L : Int) := by omega
      have hsz := hI.out.2.size
      have hlen : (ps.take i).length = i := by rw [List.length_take]; omega
      have hsn : ps.take (i + 1) = ps.take i ++ [x] := by
        rw [List.take_add_one, List.getElem?_eq_getElem hil, hx, List.getD_eq_getElem?_getD, List.getElem?_eq_getElem hil]
        rfl
      have hown := hI.out.1
      rw [hlen] at hown
      have HOwn := hide hown
      have HSn := hide hsn
      have HLen := hide hlen
      have hca : Chg [] wr (wr.alloc (.cells #[.bool x.leaf, .int .i64 x.val, .int .i64 x.who, .int .i64 x.set, .int .i64 x.no, .int .i64 x.yes] 54)) := (Chg.refl _ _).alloc _
      have hsa : (wr.alloc (.cells #[.bool x.leaf, .int .i64 x.val, .int .i64 x.who, .int .i64 x.set, .int .i64 x.no, .int .i64 x.yes] 54)).heap.size = wr.heap.size + 1 := by simp
      have HOwnA := hide (hca.row hown (fun _ _ => List.not_mem_nil))
      have HCA : Hid (Chg [] w (wr.alloc (.cells #[.bool x.leaf, .int .i64 x.val, .int .i64 x.who, .int .i64 x.set, .int .i64 x.no, .int .i64 x.yes] 54))) := hide (hI.out.2.trans hca)
      clear hcell hne hil hx hsn hown hlen hca
      go_wp2_with (at_builtin; refine wpList_append_own _ rfl _ _ 30 rfl w.heap.size 77 i0 (.agg #[.bool false, .int .i64 0, .int .i64 0, .int .i64 0, .int .i64 0, .int .i64 0]) 6 48 Try.underlying30 hi' hz0 hz1 hz2 rfl (by decide) _ _ _ rfl (HOwnA.out.alloc _) ⟨wr.heap.size + 1, 0, none⟩ 1 1 (ndCells x).toList rfl rfl (by intro j u hj; rw [add_zero_row]; have hb := (Box.at (wr.alloc (.cells #[.bool x.leaf, .int .i64 x.val, .int .i64 x.who, .int .i64 x.set, .int .i64 x.no, .int .i64 x.yes] 54)) (ndCells x) 77 (n := wr.heap.size + 1) (by simp)).cell j; refine Eq.trans hb ?_; simpa using hj) (by intro u hu; simp [ndCells] at hu; rcases hu with rfl | rfl | rfl | rfl | rfl | rfl <;> rfl) (by unfold maxLen; omega) (by omega) (by simp; omega) ?_; intro v1 w2 hown1 hgrow1 _)
      go_roundw
      case rel => exact ⟨i + 1, by omega, by go_num, hide ⟨by
        rw [HSn.out, List.length_append, HLen.out, flat_snoc]
        exact hown1, chg_grown (HCA.out.alloc _) (HOwnA.out.alloc _) (Nat.le_refl _) hgrow1⟩⟩
      case measure => simp [intOf]; omega
    · have d1 : decide ((i : Int) < (L : Int)) = false := by simpa using hlt
      obtain rfl : i = L := by omega
      go_wp2
      go_ret
      refine ⟨_, rfl, ?_, hI.out.2⟩
      have h := hI.out.1
      rw [show ps.take i = ps from List.take_of_length_le (by rw [HL.out]; exact Nat.le_refl _)] at h
      exact nodes_seeT h
end Go.Proofs.Ytaapamoglgpocaa
