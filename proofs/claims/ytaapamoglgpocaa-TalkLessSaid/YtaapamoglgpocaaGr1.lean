/- Walks: a search among rectangles; the closure of greatest. -/
import Derived.Test.YtaapamoglgpocaaCov3
import Derived.Laws.StructEq
namespace Go.Proofs.Ytaapamoglgpocaa
open Go.RowKit

theorem infoRect : (Try.prog.info? 75).map (fun i => (i.zero, i.size, i.bytes)) = some (some (.agg #[.int .i64 0, .int .i64 0]), 2, 16) := by kernel_rfl
theorem rects_see {w : World} {base : Nat} {v : Value} {ps : List Pr} {T : TypeId} (h : w.ownsRow base T 2 v ps.length (flatP ps)) : SeeP w v ps := by
  rcases h.2 with ⟨rfl, hn⟩ | ⟨g, cap, cur, rfl, hb, hg, hle, hcap, hsz, ht⟩
  · exact ⟨none, 0, by rw [hn], by omega, fun hne => absurd (List.length_eq_zero_iff.1 hn) hne⟩
  · refine ⟨some ⟨g, 0, none⟩, cap, rfl, hle, fun _ => ⟨_, rfl, (Array.getElem?_eq_some_iff.1 hg).1, fun i hi => ?_⟩⟩
    have e : ∀ d, d < 2 → cur[i * 2 + d]? = (prCells (ps.getD i pr0))[d]? := fun d hd => by
      have h1 := flatP_at ps i d hi hd
      rw [← ht, List.getElem?_take, if_pos (by omega)] at h1
      simpa using h1
    rw [add_zero_row, add_zero_row, cell_of_row w g _ cur T (0, 0) hg, cell_of_row w g _ cur T (0, 0) hg]
    exact ⟨e 0 (by decide), e 1 (by decide)⟩

set_option maxRecDepth 100000 in
set_option maxHeartbeats 1000000 in
theorem Index_rects (F : FuncId) (cp : Array Value) (P : Pr → Bool) (v : Value) (t : List Pr) (w : World) (hv : SeeP w v t) (hl : t.length ≤ 1000000)
    (hcall : ∀ args W, (callFunc F args).run Try.prog W = .ok (.enter F args) W) (hF : ∀ r ws, r ∈ t → Chg [] w ws → Calls Try.prog F (#[prV r] ++ cp) ws (Ret (.bool (P r)) ws)) :
    Calls Try.prog 114 #[v, .func (.func F) #[] cp] w fun e w' => ∃ r : Int, e = .returned (.int .i64 r) ∧ decide (0 ≤ r) = t.any P ∧ Chg [] w w' := by
  obtain ⟨ao, cap, rfl, _⟩ := hv.shape
  have HV := hide hv
  have HF := hide hF
  clear hv hF
  generalize hn : t.length = n at *
  have HN := hide hn
  clear hn
  go_enter Try.func114, Try.ntmps114
  go_wp2
  go_loopw [8] (fun i wr => ∃ j : Nat, j ≤ n ∧ i = .int .i64 (j : Int) ∧ Hid ((∀ q, q < j → P (t.getD q pr0) = false) ∧ Chg [] w wr)) (fun i _ => (n - (intOf i).toNat))
  case atStart => exact ⟨0, Nat.zero_le _, rfl, hide ⟨fun q h => by omega, Chg.refl _ _⟩⟩
  case round =>
    obtain ⟨j, hj, rfl, hI⟩ := hrel
    by_cases hlt : j < n
    · have d1 : decide ((j : Int) < (n : Int)) = true := by simpa using hlt
      have nx : t ≠ [] := fun h => by have := HN.out; rw [h] at this; simp at this; omega
      obtain ⟨a, cap', e, _, hc⟩ := HV.out.open nx
      obtain ⟨rfl, hn1, rfl⟩ : ao = some a ∧ n = t.length ∧ cap = cap' := by simpa using e
      obtain ⟨fx, fy⟩ := hc wr hI.out.2 j (by rw [HN.out]; exact hlt)
      have HMem : Hid (t.getD j pr0 ∈ t) := hide (by
        rw [List.getD_eq_getElem?_getD, List.getElem?_eq_getElem (by rw [HN.out]; exact hlt)]
        exact List.getElem_mem _)
      have HC := hide (HF.out _ wr HMem.out hI.out.2)
      obtain ⟨x, hxe⟩ : ∃ x, x = t.getD j pr0 := ⟨_, rfl⟩
      rw [← hxe] at fx fy HC HMem
      have HXE := hide hxe
      unfold prV at HC
      have j0 : (0 : Int) ≤ (j : Int) := by omega
      have j1 : (j : Int) < (n : Int) := by omega
      clear nx hc hxe e hn1
      go_wp2_with fail
      refine HC.out.mono ?_
      rintro e w1 ⟨rfl, hw1⟩
      cases hp : P x with
      | true =>
        have HP := hide hp
        clear hp
        go_wp2
        go_ret
        refine ⟨_, rfl, ?_, hI.out.2.trans hw1⟩
        have : t.any P = true := List.any_eq_true.2 ⟨x, HMem.out, HP.out⟩
        rw [this]
        simp
      | false =>
        have HP := hide hp
        clear hp
        go_wp2
        go_roundw
        case rel => exact ⟨j + 1, by omega, by go_num, hide ⟨fun q hq => by
          rcases (show q < j ∨ q = j by omega) with h | rfl
          · exact hI.out.1 q h
          · rw [← HXE.out]; exact HP.out, hI.out.2.trans hw1⟩⟩
        case measure => simp [intOf]; omega
    · have d1 : decide ((j : Int) < (n : Int)) = false := by simpa using hlt
      go_wp2
      go_ret
      refine ⟨_, rfl, ?_, hI.out.2⟩
      have : t.any P = false := by
        rw [Bool.eq_false_iff]
        intro h
        obtain ⟨x, hx, hp⟩ := List.any_eq_true.1 h
        obtain ⟨q, hq, he⟩ := List.getElem_of_mem hx
        have := hI.out.1 q (by rw [HN.out] at hq; omega)
        rw [List.getD_eq_getElem?_getD, List.getElem?_eq_getElem hq] at this
        simp only [Option.getD_some, he, hp] at this
        cases this
      rw [this]
      decide

set_option maxRecDepth 100000 in
set_option maxHeartbeats 1000000 in
theorem Contains_rects (F : FuncId) (cp : Array Value) (P : Pr → Bool) (v : Value) (t : List Pr) (w : World) (hv : SeeP w v t) (hl : t.length ≤ 1000000)
    (hcall : ∀ args W, (callFunc F args).run Try.prog W = .ok (.enter F args) W) (hF : ∀ r ws, r ∈ t → Chg [] w ws → Calls Try.prog F (#[prV r] ++ cp) ws (Ret (.bool (P r)) ws)) :
    Calls Try.prog 111 #[v, .func (.func F) #[] cp] w (Ret (.bool (t.any P)) w) := by
  have HI := hide (Index_rects F cp P v t w hv hl hcall hF)
  clear hF hv hcall
  go_enter Try.func111, Try.ntmps111
  go_wp2_with fail
  refine HI.out.mono ?_
  rintro e w1 ⟨r, rfl, hr, hc⟩
  have HR := hide hr
  clear hr
  go_wp2
  go_ret
  exact ⟨by rw [← HR.out]; rfl, hc⟩


def outB (r s : Nat × Nat) : Bool := decide (s ≠ r) && inB r.1 r.2 s.1 s.2
set_option maxRecDepth 100000 in
set_option maxHeartbeats 1000000 in
theorem outer_any (B : Nat) (r s : Nat × Nat) (w : World) (hB : Box w B #[.int .i64 (r.1 : Int), .int .i64 (r.2 : Int)] 75) (h1 : r.1 < 16) (h2 : r.2 < 16) (h3 : s.1 < 16) (h4 : s.2 < 16) :
    Calls Try.prog 112 #[.agg #[.int .i64 (s.1 : Int), .int .i64 (s.2 : Int)], .pointer (some ⟨B, 0, none⟩)] w (Ret (.bool (outB r s)) w) := by
  have HW := hide fun ws => within_any r.1 r.2 s.1 s.2 ws (by omega) (by omega) (by omega) (by omega)
  have HO : Hid (outB r s = (decide (s ≠ r) && inB r.1 r.2 s.1 s.2)) := hide rfl
  obtain ⟨a, b⟩ := r
  obtain ⟨c, d⟩ := s
  unfold rectV at HW
  dsimp only at *
  have b0 := hB.cell 0
  have b1 := hB.cell 1
  simp only [List.getElem?_toArray, List.getElem?_cons_zero, List.getElem?_cons_succ] at b0 b1
  have lB := hB.lt
  generalize outB (a, b) (c, d) = res at *
  generalize inB a b c d = ib at *
  clear h1 h2 h3 h4 hB
  by_cases he : c = a ∧ d = b
  · obtain ⟨rfl, rfl⟩ := he
    have E : Hid (res = false) := hide (by rw [HO.out]; simp)
    go_enter Try.func112, Try.ntmps112
    go_wp2
    go_ret
    exact ⟨by rw [E.out]; rfl, by (repeat' (first | with_reducible exact Chg.refl _ _ | with_reducible assumption | with_reducible apply Chg.drewN | with_reducible apply Chg.drew | with_reducible apply Chg.alloc | (with_reducible refine Chg.setCell ?_ (Or.inr ?_) _) | (with_reducible refine Chg.trans ?_ (by assumption)) | (simp; done) | (simp; omega)))⟩
  · have hne : decide (((c, d) : Nat × Nat) ≠ (a, b)) = true := decide_eq_true (fun h => he ⟨congrArg Prod.fst h, congrArg Prod.snd h⟩)
    have E : Hid (res = ib) := hide (by rw [HO.out, hne]; rfl)
    clear hne HO
    by_cases hca : c = a
    · have hdb : ¬ d = b := fun h => he ⟨hca, h⟩
      subst hca
      have f2 : ((d : Int) == (b : Int)) = false := by simp; omega
      clear he
      go_enter Try.func112, Try.ntmps112
      go_wp2_with fail
      refine (HW.out _).mono ?_
      rintro e w1 ⟨rfl, hw1⟩
      have HC : Hid (Chg [] w w1) := hide (by (repeat' (first | with_reducible exact Chg.refl _ _ | with_reducible assumption | with_reducible apply Chg.drewN | with_reducible apply Chg.drew | with_reducible apply Chg.alloc | (with_reducible refine Chg.setCell ?_ (Or.inr ?_) _) | (with_reducible refine Chg.trans ?_ (by assumption)) | (simp; done) | (simp; omega))))
      clear hw1
      go_wp2
      go_ret
      exact ⟨by rw [E.out]; rfl, HC.out⟩
    · have f1 : ((c : Int) == (a : Int)) = false := by simp; omega
      clear he
      go_enter Try.func112, Try.ntmps112
      go_wp2_with fail
      refine (HW.out _).mono ?_
      rintro e w1 ⟨rfl, hw1⟩
      have HC : Hid (Chg [] w w1) := hide (by (repeat' (first | with_reducible exact Chg.refl _ _ | with_reducible assumption | with_reducible apply Chg.drewN | with_reducible apply Chg.drew | with_reducible apply Chg.alloc | (with_reducible refine Chg.setCell ?_ (Or.inr ?_) _) | (with_reducible refine Chg.trans ?_ (by assumption)) | (simp; done) | (simp; omega))))
      clear hw1
      go_wp2
      go_ret
      exact ⟨by rw [E.out]; rfl, HC.out⟩
end Go.Proofs.Ytaapamoglgpocaa
