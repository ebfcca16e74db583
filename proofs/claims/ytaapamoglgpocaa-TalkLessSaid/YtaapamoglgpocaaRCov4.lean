/- Walks: Fewest, Part, the reference's. -/
import Derived.Test.YtaapamoglgpocaaRCov3
namespace Go.Proofs.Ytaapamoglgpocaa
open Go.RowKit

theorem fewest_all (w0 : World) (A N : Nat) (vs : Value) (S : List Nat) (once : Bool) (hv : ∀ ws, Chg [A] w0 ws → See ws vs (S.map fun s : Nat => (s : Int))) (hS : ∀ s ∈ S, s < N) (hl : S.length ≤ 256) (hN : N = 65536) : ∀ F, FwOk w0 A N vs S once F
  | 0 => fun _ _ _ h => absurd h (Nat.not_lt_zero _)
  | F + 1 => fewest_step w0 A N vs S once F hv hS hl hN (fewest_all w0 A N vs S once hv hS hl hN F)

theorem infoI8 : (Try.prog.info? 139).map (fun i => (i.zero, i.size, i.bytes)) = some (some (.int .i8 0), 1, 1) := by kernel_rfl
set_option maxRecDepth 100000 in
/-- 'make' of a row of small ints, in a region that draws its order. -/
theorem upon_make8 {o : Oper} {a : Act} {K : Act → World → Prop} {Q : Exit → Act → World → Prop} (w : World) (n : Nat) (N : Int) (hN : N = (n : Int)) (b2 : Hid (n ≤ 65536))
    (hK : ∀ w', w'.ownsRow 0 139 1 (.slice (some ⟨w.heap.size, 0, none⟩) n n) n (madeCells (Value.int .i8 0).cells (n * 1)).toList → w.grownBy w' none → K (a.put o.dst (.slice (some ⟨w.heap.size, 0, none⟩) n n)) w') :
    Oper.upon Try.prog o a K Q ((Sem.run Try.prog (Instr.makeSlice 110 (.int .i64 N) (.int .i64 N)) w).andThen fun a w' => .ok (Next.value a) w') := by
  obtain ⟨i0, hi, hz0, hz1, hz2⟩ := info_parts infoI8
  subst hN
  obtain ⟨w', hrun, r1, r2⟩ := run_make_full (P := Try.prog) w 0 110 139 i0 (.int .i8 0) 1 Try.underlying110 hi hz0 hz1 .i64 .i64 n (by have := b2.out; rw [hz2]; omega) (by have := b2.out; unfold maxLen; omega) (Nat.zero_le _)
  rw [hrun]
  simp only [Result.andThen, Oper.upon]
  exact hK w' r1 r2
theorem few_call {w wz : World} {A N : Nat} {vs : Value} {S : List Nat} {once : Bool} {base n : Nat} (hw : Chg [] w wz) (hA : w.heap.size ≤ A) (hT : I8Tab wz A N (fun _ => 0)) (hv : wz.ownsRow base 3 1 vs n (S.map setV)) (hne : ∀ g, vs.ownBlock = some g → g ≠ A) (hS : ∀ s ∈ S, s < N) (hl : n ≤ 256) (hN : N = 65536) (left : Nat) (hle : left < N) :
    Calls Try.prog 83 #[vs, .int .i64 (left : Int), .bool once, .slice (some ⟨A, 0, none⟩) N N] wz (Ret (.int .i64 (fewN S once left : Int)) w) := by
  have hlen : n = S.length := by
    have := hv.1
    simpa using this.symm
  refine (fewest_all wz A N vs S once (fun ws hws => ?_) hS (by omega) hN (left + 1) left wz hle (Nat.lt_succ_self _) (Chg.refl _ _) ⟨_, hT, fun _ _ => .inl rfl⟩).mono ?_
  · have h := row_low (hws.row hv (fun g hg => by simpa using hne g hg)) (Nat.zero_le base)
    have h2 : Ints ws vs (S.map fun s : Nat => (s : Int)) := by
      unfold Ints
      rw [List.length_map, List.map_map, ← hlen]
      exact h
    exact h2.toSee
  · rintro e w' ⟨rfl, hc, _⟩
    exact ⟨rfl, hw.trans' hc (fun y hy => .inr (by simp at hy; omega))⟩
/-- The rectangles first, then the memory. -/
theorem few_rm {w wd w1 w3 : World} {N : Nat} {vs : Value} {S : List Nat} {once : Bool} {n b : Nat} (hd : Chg [] w wd) (hI : w1.ownsRow wd.heap.size 3 1 vs n (S.map setV)) (hw1 : Chg [] wd w1) (hm : w3.ownsRow b 139 1 (.slice (some ⟨w1.heap.size, 0, none⟩) N N) N (madeCells (Value.int .i8 0).cells (N * 1)).toList) (hg : w1.grownBy w3 none)
    (hS : ∀ s ∈ S, s < N) (hl : n ≤ 256) (hN : N = 65536) (left : Nat) (hle : left < N) :
    Calls Try.prog 83 #[vs, .int .i64 (left : Int), .bool once, .slice (some ⟨w1.heap.size, 0, none⟩) N N] w3 (Ret (.int .i64 (fewN S once left : Int)) w) := by
  have c1 := hd.trans hw1
  have c3 : Chg [] w1 w3 := (Chg.refl [] w1).grown hg (fun k hk => by cases hk)
  exact few_call (c1.trans c3) c1.size (I8Tab.made hm) (c3.row hI (fun _ _ => List.not_mem_nil)) (fun g hg => by have := (hI.lt g hg).2; omega) hS hl hN left hle
theorem few_mr {w wd w1 w3 : World} {N : Nat} {vs : Value} {S : List Nat} {once : Bool} {n b : Nat} (hd : Chg [] w wd) (hm : w3.ownsRow b 139 1 (.slice (some ⟨wd.heap.size, 0, none⟩) N N) N (madeCells (Value.int .i8 0).cells (N * 1)).toList) (hg : wd.grownBy w3 none) (hI : w1.ownsRow w3.heap.size 3 1 vs n (S.map setV)) (hw1 : Chg [] w3 w1)
    (hS : ∀ s ∈ S, s < N) (hl : n ≤ 256) (hN : N = 65536) (left : Nat) (hle : left < N) :
    Calls Try.prog 83 #[vs, .int .i64 (left : Int), .bool once, .slice (some ⟨wd.heap.size, 0, none⟩) N N] w1 (Ret (.int .i64 (fewN S once left : Int)) w) := by
  have c3 : Chg [] wd w3 := (Chg.refl [] wd).grown hg (fun k hk => by cases hk)
  have hT := I8Tab.made hm
  exact few_call ((hd.trans c3).trans hw1) hd.size (hT.keep hw1 List.not_mem_nil) hI (fun g hg => by have := (hI.lt g hg).1; have := hT.lt; omega) hS hl hN left hle

set_option maxRecDepth 100000 in
set_option maxHeartbeats 2000000 in
theorem Fewest_any (vt : Value) (t : List (List Int)) (v : Int) (w : World) (hv : See2 w vt t) (ht : T.isTab t = true) : Calls Try.prog 52 #[vt, .int .i64 v] w (Ret (.int .i64 (fewN (setsN t v) false (entN t v) : Int)) w) := by
  have HRs := hide fun ws (hw : Chg [] w ws) => rectangles_new vt t v ws (hv.keep hw) ht
  have HEn := hide fun ws (hw : Chg [] w ws) => Entries_any vt t v ws (hv.keep hw) ht
  have HD := hide ((Chg.refl [] w).drew)
  obtain ⟨⟨t1, t2, t3, t4⟩, _⟩ := T.isTab_iff.1 ht
  have hS16 : ∀ s ∈ setsN t v, s < 65536 := fun s => setsN_lt
  have hSl : (setsN t v).length ≤ 256 := Nat.le_trans (setsTo_len _ _ _) (Nat.mul_le_mul (pow_le16 t2).2 (pow_le16 t4).2)
  have hE := entN_lt t v
  obtain ⟨N, hN⟩ : ∃ N : Nat, N = 65536 := ⟨_, rfl⟩
  rw [← hN] at hS16 hE
  have HS := hide (And.intro hS16 (And.intro hSl hN))
  have HE := hide hE
  have hNi : (65536 : Int) = (N : Int) := by omega
  have hNl : N ≤ 65536 := by omega
  have HNi := hide hNi
  have HNl := hide hNl
  obtain ⟨ao, cap, rfl⟩ := hv.shape
  clear hv ht hS16 hE hN hNi hNl hSl
  generalize setsN t v = S at *
  generalize entN t v = E at *
  generalize t.length = n at *
  generalize S.length = sl at *
  go_enter Try.func52, Try.ntmps52
  go_wp2
  go_region_with ((first | (go_at_call 84; refine (HRs.out _ (by (repeat' (first | with_reducible exact Chg.refl _ _ | with_reducible assumption | with_reducible apply Chg.drewN | with_reducible apply Chg.drew | with_reducible apply Chg.alloc | (with_reducible refine Chg.setCell ?_ (Or.inr ?_) _) | (with_reducible refine Chg.trans ?_ (by assumption)) | (simp; done) | (simp; omega))))).mono ?_; rintro e w1 ⟨u, rfl, hI1, hw1⟩; obtain ⟨bo, bc, rfl, _⟩ := row_shape hI1; dsimp only) | (go_at_call 85; refine (HEn.out _ (by (repeat' (first | with_reducible exact Chg.refl _ _ | with_reducible assumption | with_reducible apply Chg.drewN | with_reducible apply Chg.drew | with_reducible apply Chg.alloc | (with_reducible refine Chg.setCell ?_ (Or.inr ?_) _) | (with_reducible refine Chg.trans ?_ (by assumption)) | (simp; done) | (simp; omega))))).mono ?_; rintro e w2 ⟨rfl, rfl⟩; dsimp only) | (refine upon_make8 _ N _ HNi.out HNl ?_; intro w3 hown3 hgrow3; have hc3 := (Chg.refl [] _).grown hgrow3 (fun k hk => by cases hk); dsimp only) | (go_at_call 83; (first | refine (few_rm HD.out hI1 hw1 hown3 hgrow3 HS.out.1 HS.out.2.1 HS.out.2.2 E HE.out).mono ?_ | refine (few_mr HD.out hown3 hgrow3 hI1 hw1 HS.out.1 HS.out.2.1 HS.out.2.2 E HE.out).mono ?_); rintro e w4 ⟨rfl, hw4⟩; dsimp only)))
  all_goals (
    go_wp2
    go_ret
    exact ⟨rfl, hw4⟩)

/-- What Part gives, the reference's. -/
def fewV (t : List (List Int)) (v : Int) : Nat := fewN (setsN t v) true (entN t v)
def sumV (t : List (List Int)) : Nat → Nat
  | 0 => 0
  | k + 1 => sumV t k + fewV t (k : Int)
def partR (t : List (List Int)) : Nat := sumV t 2
set_option maxRecDepth 100000 in
set_option maxHeartbeats 2000000 in
theorem RPart_any (vt : Value) (t : List (List Int)) (w : World) (hv : See2 w vt t) (ht : T.isTab t = true) : Calls Try.prog 47 #[vt] w (Ret (.int .i64 (partR t : Int)) w) := by
  have HRs := hide fun v ws (hw : Chg [] w ws) => rectangles_new vt t v ws (hv.keep hw) ht
  have HEn := hide fun v ws (hw : Chg [] w ws) => Entries_any vt t v ws (hv.keep hw) ht
  obtain ⟨⟨t1, t2, t3, t4⟩, _⟩ := T.isTab_iff.1 ht
  have HS16 : Hid (∀ v, ∀ s ∈ setsN t v, s < 65536) := hide fun v s => setsN_lt
  have HSl : Hid (∀ v, (setsN t v).length ≤ 256) := hide fun v => Nat.le_trans (setsTo_len _ _ _) (Nat.mul_le_mul (pow_le16 t2).2 (pow_le16 t4).2)
  have HE16 := hide (entN_lt t)
  have HSum : Hid (∀ k, sumV t (k + 1) = sumV t k + fewV t (k : Int)) := hide fun _ => rfl
  have HSle : Hid (∀ k, sumV t k ≤ 17 * k) := hide fun k => by
    induction k with
    | zero => exact Nat.le_refl 0
    | succ k ih =>
      have := fewN_le (setsN t (k : Int)) true (entN t (k : Int))
      show sumV t k + fewV t (k : Int) ≤ _
      unfold fewV
      omega
  obtain ⟨ao, cap, rfl⟩ := hv.shape
  clear hv ht
  generalize t.length = n at *
  go_enter Try.func47, Try.ntmps47
  go_wp2
  go_loopw [3, 5] (fun ov iv wr => ∃ k : Nat, k ≤ 2 ∧ ov = .int .i64 (sumV t k : Int) ∧ iv = .int .i64 (k : Int) ∧ Hid (Chg [] w wr)) (fun _ iv _ => (2 - (intOf iv).toNat))
  case atStart => exact ⟨0, by omega, rfl, rfl, hide (Chg.refl _ _)⟩
  case round =>
    obtain ⟨k, hk, rfl, rfl, hI⟩ := hrel
    by_cases hlt : k < 2
    · have d1 : decide ((k : Int) < 2) = true := by simp; omega
      have HD := hide hI.out.drew
      have hsum := HSum.out k
      have hs1 := HSle.out k
      have hs2 := HSle.out (k + 1)
      unfold fewV at hsum
      have HR2 := hide (HRs.out (k : Int))
      have HE2 := hide (HEn.out (k : Int))
      have hS16 := HS16.out (k : Int)
      have hSl := HSl.out (k : Int)
      have hE := HE16.out (k : Int)
      obtain ⟨N, hN⟩ : ∃ N : Nat, N = 65536 := ⟨_, rfl⟩
      rw [← hN] at hS16 hE
      have HNi : Hid ((65536 : Int) = (N : Int)) := hide (by omega)
      have HNl : Hid (N ≤ 65536) := hide (by omega)
      generalize setsN t (k : Int) = S at *
      generalize entN t (k : Int) = E at *
      have HS := hide (And.intro hS16 (And.intro hSl hN))
      have HE := hide hE
      clear hS16 hSl hN hE
      generalize S.length = sl at *
      obtain ⟨fw, hfw⟩ : ∃ fw, fw = fewN S true E := ⟨_, rfl⟩
      rw [← hfw] at hsum
      have HFw := hide hfw
      have hwr : IntKind.i64.wrap ((sumV t k : Int) + (fw : Int)) = ((sumV t (k + 1) : Nat) : Int) := by rw [IntKind.wrap_i64]; omega
      have HN := hide hsum
      clear hsum hfw hs1 hs2
      obtain ⟨s2, hs2⟩ : ∃ s2, s2 = sumV t (k + 1) := ⟨_, rfl⟩
      rw [← hs2] at hwr
      have HS2 := hide hs2
      clear hs2
      generalize sumV t k = s1 at *
      go_wp2
      go_region_with ((first | (go_at_call 84; refine (HR2.out _ (HD.out.trans (by (repeat' (first | with_reducible exact Chg.refl _ _ | with_reducible assumption | with_reducible apply Chg.drewN | with_reducible apply Chg.drew | with_reducible apply Chg.alloc | (with_reducible refine Chg.setCell ?_ (Or.inr ?_) _) | (with_reducible refine Chg.trans ?_ (by assumption)) | (simp; done) | (simp; omega)))))).mono ?_; rintro e w1 ⟨u, rfl, hI1, hw1⟩; obtain ⟨bo, bc, rfl, _⟩ := row_shape hI1; dsimp only) | (go_at_call 85; refine (HE2.out _ (HD.out.trans (by (repeat' (first | with_reducible exact Chg.refl _ _ | with_reducible assumption | with_reducible apply Chg.drewN | with_reducible apply Chg.drew | with_reducible apply Chg.alloc | (with_reducible refine Chg.setCell ?_ (Or.inr ?_) _) | (with_reducible refine Chg.trans ?_ (by assumption)) | (simp; done) | (simp; omega)))))).mono ?_; rintro e w2 ⟨rfl, rfl⟩; dsimp only) | (refine upon_make8 _ N _ HNi.out HNl ?_; intro w3 hown3 hgrow3; have hc3 := (Chg.refl [] _).grown hgrow3 (fun k hk => by cases hk); dsimp only) | (go_at_call 83; (first | refine (few_rm HD.out hI1 hw1 hown3 hgrow3 HS.out.1 HS.out.2.1 HS.out.2.2 E HE.out).mono ?_ | refine (few_mr HD.out hown3 hgrow3 hI1 hw1 HS.out.1 HS.out.2.1 HS.out.2.2 E HE.out).mono ?_); rw [← HFw.out]; rintro e w4 ⟨rfl, hw4⟩; dsimp only)))
      all_goals (
        go_wp2
        go_roundw
        case rel => exact ⟨k + 1, by omega, by rw [HS2.out], by go_num, hide hw4⟩
        case measure => simp [intOf]; omega)
    · have d1 : decide ((k : Int) < 2) = false := by simp; omega
      obtain rfl : k = 2 := by omega
      have E : Hid (partR t = sumV t 2) := hide rfl
      go_wp2
      go_ret
      exact ⟨by rw [E.out]; rfl, hI.out⟩
end Go.Proofs.Ytaapamoglgpocaa
