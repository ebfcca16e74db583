/- Walks: families, the reference's: table. -/
import Derived.Test.YtpplihpfjniacaaDoorFm1
namespace Go.Proofs.YtpplihpfjniacaaDoor
open Go.RowKit

theorem mem_take_succ {l : List Int} {i : Nat} (h : i < l.length) (z : Int) : z ∈ l.take (i + 1) ↔ z ∈ l.take i ∨ z = l.getD i 0 := by
  rw [take_snoc h, List.mem_append, List.mem_singleton]
set_option maxRecDepth 100000 in
set_option maxHeartbeats 1000000 in
theorem table8_any (k : Nat) (v : Value) (l : List Int) (w : World) (hv : See w v l) (h6 : k ≤ 6) (hl : l.length ≤ 64) (hs : Fam.sets k l = true) :
    Calls Tryd.prog 29 #[.int .i64 (k : Int), v] w fun e w' => ∃ T, e = .returned (.slice (some ⟨T, 0, none⟩) (2 ^ k : Nat) (2 ^ k : Nat)) ∧ BTab w' T (2 ^ k) (fun j => decide ((j : Int) ∈ l)) ∧ Chg [] w w' := by
  obtain ⟨i0, hi, hz0, hz1, hz2⟩ := info_parts infoBool
  have HV := hide hv
  obtain ⟨ao, cap, rfl⟩ := hv.shape
  clear hv
  obtain ⟨m, hm⟩ : ∃ m, m = l.length := ⟨_, rfl⟩
  rw [← hm] at HV hl ⊢
  have HM := hide hm
  have ep := wrap_two h6
  have p64 := Fam.pow_64 h6
  have pp := Nat.two_pow_pos k
  have n0 : (0 : Int) ≤ (k : Int) := by omega
  have n1 : (k : Int) < 64 := by omega
  have n2 : (k : Int) ≤ 64 := by omega
  have HS := hide (fun s (h : s ∈ l) => Fam.sets_nat hs h)
  obtain ⟨P, hP⟩ : ∃ P, P = 2 ^ k := ⟨_, rfl⟩
  rw [← hP] at ep p64 pp HS ⊢
  clear hm hP hs
  go_enter Tryd.func29, Tryd.ntmps29
  go_wp2_with (rw [ep]; at_make; refine wpList_make_full _ rfl _ _ 58 rfl w.heap.size 4 i0 (.bool false) 1 Tryd.underlying58 hi hz0 hz1 _ _ _ _ P rfl rfl rfl rfl (by rw [hz2]; omega) (by unfold maxLen; omega) (Nat.le_refl _) ?_; intro w5 hown hgrow)
  have hT0 : BTab w5 w.heap.size P (fun _ => false) := by
    obtain ⟨g', e, _, h⟩ := BTab.made pp (by simpa using hown) ⟨_, rfl⟩
    cases e
    exact h
  have HC5 : Hid (Chg [] w w5) := hide ((Chg.refl [] w).grown hgrow (fun k hk => by cases hk))
  have HT0 := hide hT0
  clear hT0 hown hgrow
  obtain ⟨T, hT⟩ : ∃ T, T = w.heap.size := ⟨_, rfl⟩
  rw [← hT] at HT0 ⊢
  have HT : Hid (w.heap.size ≤ T) := hide (Nat.le_of_eq hT.symm)
  clear hT
  go_loopw [13] (fun kv ws => ∃ i : Nat, i ≤ m ∧ kv = .int .i64 (i : Int) ∧ Hid (BTab ws T P (fun j => decide ((j : Int) ∈ l.take i)) ∧ Chg [] w ws)) (fun kv _ => m - (intOf kv).toNat)
  case atStart => exact ⟨0, Nat.zero_le _, rfl, hide ⟨by simpa using HT0.out, HC5.out⟩⟩
  case round =>
    obtain ⟨i, hi', rfl, hI⟩ := hrel
    by_cases hlt : i < m
    · have d5 : decide ((i : Int) < (m : Int)) = true := by simp; omega
      have k0 : (0 : Int) ≤ (i : Int) := by omega
      have hlk : i < l.length := by rw [← HM.out]; exact hlt
      have nl : l ≠ [] := fun e => by rw [e] at hlk; simp at hlk
      obtain ⟨a, cap', e, hcell⟩ := HV.out.open nl
      obtain ⟨rfl, hx1, rfl⟩ : ao = some a ∧ m = l.length ∧ cap = cap' := by simpa using e
      have fx := hcell wr hI.out.2 i hlk
      obtain ⟨hy1, hy2⟩ := HS.out _ (getD_mem hlk)
      have HN := hide fun z => mem_take_succ hlk z
      have HI := hide hI.out
      clear hI nl e hx1 hcell hlk
      generalize l.getD i 0 = x at *
      obtain ⟨y, rfl⟩ : ∃ y : Nat, x = (y : Int) := ⟨x.toNat, hy2⟩
      rw [Int.toNat_natCast] at hy1
      clear hy2
      have y0 : (0 : Int) ≤ (y : Int) := by omega
      have y1 : (y : Int) < (P : Int) := by omega
      have q := HI.out.1.cell hy1
      have qf := HI.out.1.free y
      have ql := HI.out.1.lt
      generalize decide ((y : Int) ∈ l.take i) = b at q
      go_wp2
      go_roundw
      case rel =>
        refine ⟨i + 1, by omega, by go_num, hide ⟨?_, HI.out.2.setCell (.inr HT.out) _⟩⟩
        have h := HI.out.1.set y true
        have e : upB (fun j => decide ((j : Int) ∈ l.take i)) y true = fun (j : Nat) => decide ((j : Int) ∈ l.take (i + 1)) := by
          funext j
          unfold upB
          rw [Bool.eq_iff_iff, decide_eq_true_eq, HN.out]
          split
          · rename_i h; simp [h]
          · rename_i h; simp; omega
        rw [e] at h
        exact h
      case measure => simp [intOf]; omega
    · have d5 : decide ((i : Int) < (m : Int)) = false := by simp; omega
      have him : i = m := by omega
      have HX := hide hI.out
      rw [him, HM.out, List.take_length] at HX
      clear hI him
      go_wp2
      go_ret
      exact ⟨T, rfl, HX.out.1, HX.out.2⟩
end Go.Proofs.YtpplihpfjniacaaDoor
