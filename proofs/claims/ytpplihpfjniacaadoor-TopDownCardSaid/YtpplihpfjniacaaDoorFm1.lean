/- Walks: families, the reference's. -/
import Derived.Test.YtpplihpfjniacaaDoorEv6
namespace Go.Proofs.YtpplihpfjniacaaDoor
open Go.RowKit

theorem infoBool : (Tryd.prog.info? 4).map (fun i => (i.zero, i.size, i.bytes)) = some (some (.bool false), 1, 1) := by kernel_rfl
/-- A block of Bools. -/
def BTab (w : World) (A N : Nat) (t : Nat → Bool) : Prop := ∃ cur, Box w A cur 4 ∧ cur.size = N ∧ ∀ i, i < N → cur[i]? = some (.bool (t i))
def upB (t : Nat → Bool) (i : Nat) (v : Bool) (j : Nat) : Bool := if j = i then v else t j
theorem BTab.lt {w : World} {A N : Nat} {t : Nat → Bool} (h : BTab w A N t) : A < w.heap.size := by obtain ⟨c, h, _⟩ := h; exact h.lt
theorem BTab.keep {w w' : World} {A N : Nat} {t : Nat → Bool} {S : List Nat} (h : BTab w A N t) (hc : Chg S w w') (hs : A ∉ S) : BTab w' A N t := by
  obtain ⟨c, h, hc'⟩ := h
  exact ⟨c, h.keep hc hs, hc'⟩
theorem BTab.cell {w : World} {A N : Nat} {t : Nat → Bool} (h : BTab w A N t) {i : Nat} (hi : i < N) : w.cell? ⟨A, i, none⟩ = some (.bool (t i)) := by
  obtain ⟨c, h, _, hc⟩ := h
  rw [h.cell]; exact hc i hi
theorem BTab.free {w : World} {A N : Nat} {t : Nat → Bool} (h : BTab w A N t) (i : Nat) : w.frozen? ⟨A, i, none⟩ = false := by
  obtain ⟨c, h, _⟩ := h
  exact h.free i
theorem BTab.set {w : World} {A N : Nat} {t : Nat → Bool} (h : BTab w A N t) (i : Nat) (v : Bool) : BTab (w.setCell ⟨A, i, none⟩ (.bool v)) A N (upB t i v) := by
  obtain ⟨c, h, hs, hc⟩ := h
  refine ⟨_, h.set i _, by simpa using hs, fun j hj => ?_⟩
  by_cases hij : j = i
  · subst hij
    rw [Array.getElem?_setIfInBounds_self, if_pos (by omega)]
    simp [upB]
  · rw [Array.getElem?_setIfInBounds_ne (Ne.symm hij), hc j hj]
    simp [upB, hij]
theorem BTab.made {w : World} {v : Value} {n base : Nat} (h0 : 0 < n) (h : w.ownsRow base 4 1 v n (madeCells (Value.bool false).cells (n * 1)).toList) (hc : ∃ ao, v = .slice ao n n) : ∃ g, v = .slice (some ⟨g, 0, none⟩) n n ∧ base ≤ g ∧ BTab w g n (fun _ => false) := by
  obtain ⟨ao, rfl⟩ := hc
  rcases h.2 with ⟨h, e⟩ | ⟨g', cap', cur, he, hb, hg, hle, hm, hsz, ht⟩
  · omega
  · cases he
    have hcells : (Value.bool false).cells = #[.bool false] := rfl
    rw [hcells, toList_madeCells_one, Nat.mul_one] at ht
    refine ⟨g', rfl, hb, cur, hg, by omega, fun i hi => ?_⟩
    have e : (List.replicate n (Value.bool false))[i]? = some (.bool false) := by rw [List.getElem?_replicate, if_pos hi]
    rw [← ht, List.getElem?_take, if_pos (by omega)] at e
    simpa using e

theorem wrap_two {n : Nat} (h6 : n ≤ 6) : wrap64 (2 ^ n) = ((2 ^ n : Nat) : Int) := by
  have p64 := Fam.pow_64 h6
  have e : ((2 : Int) ^ n) = ((2 ^ n : Nat) : Int) := by rw [Int.natCast_pow]; rfl
  rw [e]
  generalize 2 ^ n = m at p64
  unfold wrap64; omega

set_option maxRecDepth 100000 in
theorem Elements_any (n : Int) (w : World) : Calls Tryd.prog 63 #[.int .i64 n] w (Ret (.bool (decide (1 ≤ n ∧ n ≤ 6))) w) := by
  by_cases h1 : 1 ≤ n
  · by_cases h6 : n ≤ 6
    · have d1 : decide (n ≥ 1) = true := by simpa using h1
      have d2 : decide (n ≤ 6) = true := by simpa using h6
      rw [decide_eq_true (show 1 ≤ n ∧ n ≤ 6 from ⟨h1, h6⟩)]
      go_enter Tryd.func63, Tryd.ntmps63
      go_wp2
      go_ret
      exact ⟨rfl, Chg.refl _ _⟩
    · have d1 : decide (n ≥ 1) = true := by simpa using h1
      have d2 : decide (n ≤ 6) = false := by simpa using h6
      rw [decide_eq_false (show ¬ (1 ≤ n ∧ n ≤ 6) from fun h => h6 h.2)]
      go_enter Tryd.func63, Tryd.ntmps63
      go_wp2
      go_ret
      exact ⟨rfl, Chg.refl _ _⟩
  · have d1 : decide (n ≥ 1) = false := by simpa using h1
    rw [decide_eq_false (show ¬ (1 ≤ n ∧ n ≤ 6) from fun h => h1 h.1)]
    go_enter Tryd.func63, Tryd.ntmps63
    go_wp2
    go_ret
    exact ⟨rfl, Chg.refl _ _⟩

/-- At most 64 sets of n elements. -/
def setsB (n : Int) (l : List Int) : Bool := decide (1 ≤ n ∧ n ≤ 6 ∧ l.length ≤ 64) && Fam.sets n.toNat l
set_option maxRecDepth 100000 in
set_option maxHeartbeats 1000000 in
theorem Sets_any (n : Int) (v : Value) (l : List Int) (w : World) (hv : See w v l) :
    Calls Tryd.prog 28 #[.int .i64 n, v] w (Ret (.bool (setsB n l)) w) := by
  have HE := hide (Elements_any n w)
  have HV := hide hv
  obtain ⟨ao, cap, rfl⟩ := hv.shape
  clear hv
  obtain ⟨m, hm⟩ : ∃ m, m = l.length := ⟨_, rfl⟩
  rw [← hm] at HV ⊢
  have HM := hide hm
  by_cases h1 : 1 ≤ n ∧ n ≤ 6
  · rw [decide_eq_true h1] at HE
    by_cases h2 : m ≤ 64
    · have d3 : decide ((m : Int) > 64) = false := by simp; omega
      have d3' : decide ((64 : Int) < (m : Int)) = false := by simp; omega
      have d3n : decide (64 < m) = false := by simp; omega
      obtain ⟨k, rfl⟩ : ∃ k : Nat, n = (k : Int) := ⟨n.toNat, by omega⟩
      have HR : Hid (setsB (k : Int) l = Fam.sets k l) := hide (by unfold setsB; rw [decide_eq_true (by omega), Bool.true_and, Int.toNat_natCast])
      have h6 : k ≤ 6 := by omega
      have ep := wrap_two h6
      have p64 := Fam.pow_64 h6
      have n0 : (0 : Int) ≤ (k : Int) := by omega
      have n1 : (k : Int) < 64 := by omega
      have n2 : (k : Int) ≤ 64 := by omega
      generalize setsB (k : Int) l = R at HR ⊢
      clear hm h1
      go_enter Tryd.func28, Tryd.ntmps28
      go_wp2_with fail
      refine HE.out.mono ?_
      rintro e w1 ⟨rfl, hw⟩
      have HW := hide hw
      clear hw
      go_wp2
      go_loopw [17] (fun kv ws => ∃ j : Nat, j ≤ m ∧ kv = .int .i64 (j : Int) ∧ Hid (Fam.sets k (l.take j) = true ∧ Chg [] w ws)) (fun kv _ => m - (intOf kv).toNat)
      case atStart => exact ⟨0, Nat.zero_le _, rfl, hide ⟨rfl, HW.out⟩⟩
      case round =>
        obtain ⟨j, hj, rfl, hI⟩ := hrel
        by_cases hlt : j < m
        · have d5 : decide ((j : Int) < (m : Int)) = true := by simp; omega
          have k0 : (0 : Int) ≤ (j : Int) := by omega
          have hlk : j < l.length := by rw [← HM.out]; exact hlt
          have nl : l ≠ [] := fun e => by rw [e] at hlk; simp at hlk
          obtain ⟨a, cap', e, hcell⟩ := HV.out.open nl
          obtain ⟨rfl, hx1, rfl⟩ : ao = some a ∧ m = l.length ∧ cap = cap' := by simpa using e
          have fx := hcell wr hI.out.2 j hlk
          have hmem : l.getD j 0 ∈ l := getD_mem hlk
          have HT := hide (take_snoc hlk)
          have HF0 := hide (fun (h : ¬ (0 ≤ l.getD j 0 ∧ l.getD j 0 < ((2 ^ k : Nat) : Int))) => (show Fam.sets k l = false from by
            cases hs : Fam.sets k l with
            | false => rfl
            | true =>
              have := Fam.sets_iff.1 hs _ hmem
              rw [Int.natCast_pow] at h
              exact absurd this h))
          have HI := hide hI.out
          clear hI nl e hx1 hcell hmem hlk
          generalize l.getD j 0 = x at *
          by_cases hx0 : x < 0
          · have e1 : decide (x < 0) = true := by simpa using hx0
            have HF := hide (HF0.out (by omega))
            clear hx0
            go_wp2
            go_ret
            exact ⟨by rw [HR.out, HF.out]; rfl, HI.out.2⟩
          · have e1 : decide (x < 0) = false := by simpa using hx0
            obtain ⟨y, rfl⟩ : ∃ y : Nat, x = (y : Int) := ⟨x.toNat, by omega⟩
            obtain ⟨P, hP⟩ : ∃ P, P = 2 ^ k := ⟨_, rfl⟩
            rw [← hP] at ep p64 HF0
            have HP := hide hP
            clear hP
            by_cases hy : y < P
            · have e2 : decide ((y : Int) ≥ (P : Int)) = false := by simp; omega
              have e2' : decide ((P : Int) ≤ (y : Int)) = false := by simp; omega
              have e2n : decide (P ≤ y) = false := by simp; omega
              have HN : Hid (Fam.sets k (l.take (j + 1)) = true) := hide (by
                rw [HT.out]
                refine Fam.sets_iff.2 fun s hs => ?_
                rcases List.mem_append.1 hs with h | h
                · exact Fam.sets_iff.1 HI.out.1 s h
                · rw [List.mem_singleton] at h
                  subst h
                  have : ((P : Nat) : Int) = 2 ^ k := by rw [HP.out, Int.natCast_pow]; rfl
                  omega)
              go_wp2
              go_roundw
              case rel => exact ⟨j + 1, by omega, by go_num, hide ⟨HN.out, HI.out.2⟩⟩
              case measure => simp [intOf]; omega
            · have e2 : decide ((y : Int) ≥ (P : Int)) = true := by simp; omega
              have e2' : decide ((P : Int) ≤ (y : Int)) = true := by simp; omega
              have e2n : decide (P ≤ y) = true := by simp; omega
              have HF := hide (HF0.out (by omega))
              go_wp2
              go_ret
              exact ⟨by rw [HR.out, HF.out]; rfl, HI.out.2⟩
        · have d5 : decide ((j : Int) < (m : Int)) = false := by simp; omega
          have hkm : j = m := by omega
          have HX : Hid (Fam.sets k l = true) := hide (by
            have h := hI.out.1
            rwa [hkm, HM.out, List.take_length] at h)
          have HC := hide hI.out.2
          go_wp2
          go_ret
          exact ⟨by rw [HR.out, HX.out]; rfl, HC.out⟩
    · have d3 : decide ((m : Int) > 64) = true := by simp; omega
      have d3' : decide ((64 : Int) < (m : Int)) = true := by simp; omega
      have d3n : decide (64 < m) = true := by simp; omega
      have HR : Hid (setsB n l = false) := hide (by unfold setsB; rw [decide_eq_false (by omega)]; rfl)
      generalize setsB n l = R at HR ⊢
      clear hm h1
      go_enter Tryd.func28, Tryd.ntmps28
      go_wp2_with fail
      refine HE.out.mono ?_
      rintro e w1 ⟨rfl, hw⟩
      have HW := hide hw
      clear hw
      go_wp2
      go_ret
      exact ⟨by rw [HR.out]; rfl, HW.out⟩
  · rw [decide_eq_false h1] at HE
    have HR : Hid (setsB n l = false) := hide (by unfold setsB; rw [decide_eq_false (by omega)]; rfl)
    generalize setsB n l = R at HR ⊢
    clear hm h1
    go_enter Tryd.func28, Tryd.ntmps28
    go_wp2_with fail
    refine HE.out.mono ?_
    rintro e w1 ⟨rfl, hw⟩
    have HW := hide hw
    clear hw
    go_wp2
    go_ret
    exact ⟨by rw [HR.out]; rfl, HW.out⟩
end Go.Proofs.YtpplihpfjniacaaDoor
