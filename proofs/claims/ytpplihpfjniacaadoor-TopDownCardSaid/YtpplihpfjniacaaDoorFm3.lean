/- Walks: families, the reference's: Family. -/
import Derived.Test.YtpplihpfjniacaaDoorFm2
import Derived.Test.YtpplihpfjniacaaDoorEv7
namespace Go.Proofs.YtpplihpfjniacaaDoor
open Go.RowKit

theorem andNot_wo' : (List.range 64).all (fun s => (List.range 6).all fun x => decide (bits .andNot .i64 (s : Int) (wrap64 (2 ^ x)) = ((Fam.wo s x : Nat) : Int))) = true := by decide +kernel
theorem andNot_wo {s x : Nat} (hs : s < 64) (hx : x < 6) : bits .andNot .i64 (s : Int) (wrap64 (2 ^ x)) = ((Fam.wo s x : Nat) : Int) :=
  of_decide_eq_true (List.all_eq_true.1 (List.all_eq_true.1 andNot_wo' s (List.mem_range.2 hs)) x (List.mem_range.2 hx))
theorem Fam.wo_le (s x : Nat) : Fam.wo s x ≤ s := by
  unfold Fam.wo
  split
  · exact Nat.sub_le _ _
  · exact Nat.le_refl _
theorem fam_less {n : Nat} {l : List Int} (h : Fam.famB n l = true) {i : Nat} (hi : i + 1 < l.length) : l.getD i 0 < l.getD (i + 1) 0 := by
  unfold Fam.famB at h
  rw [Bool.and_eq_true, Bool.and_eq_true] at h
  have := List.pairwise_iff_getElem.1 (Fam.less_iff.1 h.1.2) i (i + 1) (by omega) hi (by omega)
  rw [List.getD_eq_getElem?_getD, List.getD_eq_getElem?_getD, List.getElem?_eq_getElem hi, List.getElem?_eq_getElem (show i < l.length by omega)]
  exact this
theorem fam_down {n : Nat} {l : List Int} (h : Fam.famB n l = true) {i x : Nat} (hi : i < l.length) (hx : x < n) : ((Fam.wo (l.getD i 0).toNat x : Nat) : Int) ∈ l := by
  unfold Fam.famB at h
  rw [Bool.and_eq_true] at h
  have := List.all_eq_true.1 (List.all_eq_true.1 h.2 _ (getD_mem hi)) x (List.mem_range.2 hx)
  exact of_decide_eq_true this
theorem fam_of {n : Nat} {l : List Int} (hs : Fam.sets n l = true) (h1 : Fam.less l l.length = true) (h2 : ∀ i, i < l.length → ∀ x, x < n → ((Fam.wo (l.getD i 0).toNat x : Nat) : Int) ∈ l) : Fam.famB n l = true := by
  unfold Fam.famB
  rw [hs, h1, Bool.true_and, Bool.true_and, List.all_eq_true]
  intro s hm
  rw [List.all_eq_true]
  intro x hx
  obtain ⟨i, hi, e⟩ := List.getElem_of_mem hm
  have := h2 i hi x (List.mem_range.1 hx)
  rw [List.getD_eq_getElem?_getD, List.getElem?_eq_getElem hi, Option.getD_some, e] at this
  exact decide_eq_true this

/-- A family of n elements. -/
def familyB (n : Int) (l : List Int) : Bool := decide (1 ≤ n ∧ n ≤ 6 ∧ l.length ≤ 64) && Fam.famB n.toNat l
theorem family_ok (n : Int) (l : List Int) : familyB n l = okR n l := by
  unfold familyB okR
  by_cases h : 1 ≤ n ∧ n ≤ 6 ∧ l.length ≤ 64
  · rw [Fam.read_fam (n := n.toNat) (by omega)]
  · rw [decide_eq_false h]; rfl
set_option maxRecDepth 100000 in
set_option maxHeartbeats 2000000 in
theorem Family_any (n : Int) (v : Value) (l : List Int) (w : World) (hv : See w v l) :
    Calls Tryd.prog 8 #[.int .i64 n, v] w (Ret (.bool (familyB n l)) w) := by
  have HSe := hide (Sets_any n v l w hv)
  have HV := hide hv
  cases hb : setsB n l with
  | false =>
    have HR : Hid (familyB n l = false) := hide (by
      unfold setsB at hb
      unfold familyB Fam.famB
      cases hd : decide (1 ≤ n ∧ n ≤ 6 ∧ l.length ≤ 64) with
      | false => rfl
      | true =>
        rw [hd, Bool.true_and] at hb
        rw [hb]
        rfl)
    rw [hb] at HSe
    generalize familyB n l = R at HR ⊢
    clear hv hb HV
    go_enter Tryd.func8, Tryd.ntmps8
    go_wp2_with fail
    refine HSe.out.mono ?_
    rintro e w1 ⟨rfl, hw⟩
    have HW := hide hw
    clear hw
    go_wp2
    go_ret
    exact ⟨by rw [HR.out]; rfl, HW.out⟩
  | true =>
    rw [hb] at HSe
    unfold setsB at hb
    rw [Bool.and_eq_true] at hb
    obtain ⟨hb1, hs⟩ := hb
    obtain ⟨g1, g6, g64⟩ := of_decide_eq_true hb1
    obtain ⟨k, rfl⟩ : ∃ k : Nat, n = (k : Int) := ⟨n.toNat, by omega⟩
    rw [Int.toNat_natCast] at hs
    have HR : Hid (familyB (k : Int) l = Fam.famB k l) := hide (by unfold familyB; rw [hb1, Bool.true_and, Int.toNat_natCast])
    have h6 : k ≤ 6 := by omega
    have HTa := hide fun ws (hw : Chg [] w ws) => table8_any k v l ws (hv.keep hw) h6 g64 hs
    have HSs := hide hs
    obtain ⟨ao, cap, rfl⟩ := hv.shape
    have HS := hide (fun s (h : s ∈ l) => Fam.sets_nat hs h)
    generalize familyB (k : Int) l = R at HR ⊢
    clear hv hb1 hs g1 g6
    obtain ⟨m, hm⟩ : ∃ m, m = l.length := ⟨_, rfl⟩
    rw [← hm] at HV HSe HTa g64 ⊢
    have HM := hide hm
    have p64 := Fam.pow_64 h6
    obtain ⟨P, hP⟩ : ∃ P, P = 2 ^ k := ⟨_, rfl⟩
    rw [← hP] at HTa p64 HS
    clear hm hP
    go_enter Tryd.func8, Tryd.ntmps8
    go_wp2_with fail
    refine HSe.out.mono ?_
    rintro e w1 ⟨rfl, hw⟩
    have HW := hide hw
    clear hw
    go_wp2_with fail
    refine (HTa.out _ HW.out).mono ?_
    rintro e w2 ⟨T, rfl, hT, hw⟩
    have HT := hide hT
    have HW2 := hide (HW.out.trans hw)
    clear hT hw
    go_wp2
    go_loopw [18] (fun kv ws => ∃ i : Nat, i ≤ m ∧ kv = .int .i64 (i : Int) ∧ Hid (Fam.less l i = true ∧ (∀ j, j < i → ∀ x, x < k → ((Fam.wo (l.getD j 0).toNat x : Nat) : Int) ∈ l) ∧ Chg [] w2 ws)) (fun kv _ => m - (intOf kv).toNat)
    case atStart => exact ⟨0, Nat.zero_le _, rfl, hide ⟨rfl, fun j h => by omega, Chg.refl _ _⟩⟩
    case round =>
      obtain ⟨i, hi', rfl, hI⟩ := hrel
      by_cases hlt : i < m
      · have d5 : decide ((i : Int) < (m : Int)) = true := by simp; omega
        have k0 : (0 : Int) ≤ (i : Int) := by omega
        have hlk : i < l.length := by rw [← HM.out]; exact hlt
        have HLk := hide hlk
        have nl : l ≠ [] := fun e => by rw [e] at hlk; simp at hlk
        obtain ⟨a, cap', e, hcell⟩ := HV.out.open nl
        obtain ⟨rfl, hx1, rfl⟩ : ao = some a ∧ m = l.length ∧ cap = cap' := by simpa using e
        have hww : Chg [] w wr := HW2.out.trans hI.out.2.2
        have fx := hcell wr hww i hlk
        have fp := fun (h : 0 < i) => hcell wr hww (i - 1) (by omega)
        obtain ⟨hy1, hy2⟩ := HS.out _ (getD_mem hlk)
        have HI := hide hI.out
        have HDn := hide (fun (h : Fam.famB k l = true) x (hx : x < k) => fam_down h hlk hx)
        have HLs := hide (fun (h : Fam.famB k l = true) (h0 : 0 < i) => fam_less h (i := i - 1) (by omega))
        have HYs : Hid (∀ x, (l.getD i 0).toNat = x → True) := hide fun _ _ => trivial
        obtain ⟨y, hye⟩ : ∃ y : Nat, l.getD i 0 = (y : Int) := ⟨_, hy2⟩
        rw [hye] at fx hy1
        rw [Int.toNat_natCast] at hy1
        have HYe := hide hye
        clear hI nl e hx1 hlk hy2 HYs hye
        by_cases hi0 : i = 0
        · have d6 : decide ((i : Int) > 0) = false := by simp; omega
          have d6' : decide ((0 : Int) < (i : Int)) = false := by simp; omega
          have d6n : decide (0 < i) = false := by simp; omega
          have HL1 : Hid (Fam.less l (i + 1) = true) := hide (by rw [hi0]; rfl)
          clear fp hi0
          go_wp2
          go_loopw [35] (fun xv ws => ∃ x : Nat, x ≤ k ∧ xv = .int .i64 (x : Int) ∧ Hid ((∀ x', x' < x → ((Fam.wo y x' : Nat) : Int) ∈ l) ∧ Chg [] w2 ws)) (fun xv _ => k - (intOf xv).toNat)
          case atStart => exact ⟨0, Nat.zero_le _, rfl, hide ⟨fun _ h => by omega, HI.out.2.2⟩⟩
          case round =>
            obtain ⟨x, hx, rfl, hJ⟩ := hrel
            by_cases hxk : x < k
            · have d8 : decide ((x : Int) < (k : Int)) = true := by simp; omega
              have x0 : (0 : Int) ≤ (x : Int) := by omega
              have x1 : (x : Int) < 64 := by omega
              have x2 : (x : Int) ≤ 64 := by omega
              have ean := andNot_wo (s := y) (x := x) (by omega) (by omega)
              have hwo := Fam.wo_le y x
              have hbt := HT.out.keep hJ.out.2 List.not_mem_nil
              have q := hbt.cell (i := Fam.wo y x) (by omega)
              have ql := hbt.lt
              have HJ := hide hJ.out
              have HD1 := hide (fun (h : Fam.famB k l = true) => by have := HDn.out h x hxk; rwa [HYe.out, Int.toNat_natCast] at this)
              obtain ⟨z, hz⟩ : ∃ z, z = Fam.wo y x := ⟨_, rfl⟩
              rw [← hz] at ean hwo q HD1
              have z0 : (0 : Int) ≤ (z : Int) := by omega
              have z1 : (z : Int) < (P : Int) := by omega
              have HZ := hide hz
              clear hz hbt hJ
              by_cases hmem : (z : Int) ∈ l
              · rw [decide_eq_true hmem] at q
                have HM2 := hide hmem
                clear hmem
                go_wp2
                go_roundw
                case rel => exact ⟨x + 1, by omega, by go_num, hide ⟨fun x' hx' => by
                  rcases (show x' < x ∨ x' = x by omega) with h | rfl
                  · exact HJ.out.1 x' h
                  · rw [← HZ.out]; exact HM2.out, HJ.out.2⟩⟩
                case measure => simp [intOf]; omega
              · rw [decide_eq_false hmem] at q
                have HF : Hid (Fam.famB k l = false) := hide (by
                  cases h : Fam.famB k l with
                  | false => rfl
                  | true => exact absurd (HD1.out h) hmem)
                clear hmem
                go_wp2
                go_ret
                exact ⟨by rw [HR.out, HF.out]; rfl, HW2.out.trans HJ.out.2⟩
            · have d8 : decide ((x : Int) < (k : Int)) = false := by simp; omega
              have HJ : Hid ((∀ x', x' < k → ((Fam.wo y x' : Nat) : Int) ∈ l) ∧ Chg [] w2 wr) := hide ⟨fun x' h => hJ.out.1 x' (by omega), hJ.out.2⟩
              clear hJ
              go_wp2
              go_roundw
              case rel => exact ⟨i + 1, by omega, by go_num, hide ⟨HL1.out, fun j hj x' hx' => by
                rcases (show j < i ∨ j = i by omega) with h | rfl
                · exact HI.out.2.1 j h x' hx'
                · rw [HYe.out, Int.toNat_natCast]; exact HJ.out.1 x' hx', HJ.out.2⟩⟩
              case measure => simp [intOf]; omega
        · have d6 : decide ((i : Int) > 0) = true := by simp; omega
          have d6' : decide ((0 : Int) < (i : Int)) = true := by simp; omega
          have d6n : decide (0 < i) = true := by simp; omega
          have fp := fp (by omega)
          have HL2 : Hid (Fam.famB k l = true → l.getD (i - 1) 0 < (y : Int)) := hide fun h => by
            have := HLs.out h (by omega)
            rwa [show i - 1 + 1 = i by omega, HYe.out] at this
          clear HLs
          have ei : (i : Int) - 1 = ((i - 1 : Nat) : Int) := by omega
          have i0 : (0 : Int) ≤ ((i - 1 : Nat) : Int) := by omega
          have i1 : ((i - 1 : Nat) : Int) < (m : Int) := by omega
          have HL0 : Hid (l.getD (i - 1) 0 < (y : Int) → Fam.less l (i + 1) = true) := hide fun h => by
            have h1 := HI.out.1
            obtain ⟨i', rfl⟩ : ∃ i', i = i' + 1 := ⟨i - 1, by omega⟩
            rw [Fam.less, h1, Bool.true_and, decide_eq_true_eq, HYe.out]
            exact h
          generalize l.getD (i - 1) 0 = p at *
          generalize i - 1 = i' at *
          by_cases hp : p ≥ (y : Int)
          · have d7 : decide (p ≥ (y : Int)) = true := by simpa using hp
            have d7' : decide ((y : Int) ≤ p) = true := by simpa using hp
            have HF : Hid (Fam.famB k l = false) := hide (by
              cases h : Fam.famB k l with
              | false => rfl
              | true => have := HL2.out h; omega)
            have HC := hide HI.out.2.2
            clear hp
            go_wp2
            go_ret
            exact ⟨by rw [HR.out, HF.out]; rfl, HW2.out.trans HC.out⟩
          · have d7 : decide (p ≥ (y : Int)) = false := by simpa using hp
            have d7' : decide ((y : Int) ≤ p) = false := by simpa using hp
            have HL1 : Hid (Fam.less l (i + 1) = true) := hide (HL0.out (by omega))
            clear HL0 HL2 hp
            go_wp2
            go_loopw [35] (fun xv ws => ∃ x : Nat, x ≤ k ∧ xv = .int .i64 (x : Int) ∧ Hid ((∀ x', x' < x → ((Fam.wo y x' : Nat) : Int) ∈ l) ∧ Chg [] w2 ws)) (fun xv _ => k - (intOf xv).toNat)
            case atStart => exact ⟨0, Nat.zero_le _, rfl, hide ⟨fun _ h => by omega, HI.out.2.2⟩⟩
            case round =>
              obtain ⟨x, hx, rfl, hJ⟩ := hrel
              by_cases hxk : x < k
              · have d8 : decide ((x : Int) < (k : Int)) = true := by simp; omega
                have x0 : (0 : Int) ≤ (x : Int) := by omega
                have x1 : (x : Int) < 64 := by omega
                have x2 : (x : Int) ≤ 64 := by omega
                have ean := andNot_wo (s := y) (x := x) (by omega) (by omega)
                have hwo := Fam.wo_le y x
                have hbt := HT.out.keep hJ.out.2 List.not_mem_nil
                have q := hbt.cell (i := Fam.wo y x) (by omega)
                have ql := hbt.lt
                have HJ := hide hJ.out
                have HD1 := hide (fun (h : Fam.famB k l = true) => by have := HDn.out h x hxk; rwa [HYe.out, Int.toNat_natCast] at this)
                obtain ⟨z, hz⟩ : ∃ z, z = Fam.wo y x := ⟨_, rfl⟩
                rw [← hz] at ean hwo q HD1
                have z0 : (0 : Int) ≤ (z : Int) := by omega
                have z1 : (z : Int) < (P : Int) := by omega
                have HZ := hide hz
                clear hz hbt hJ
                by_cases hmem : (z : Int) ∈ l
                · rw [decide_eq_true hmem] at q
                  have HM2 := hide hmem
                  clear hmem
                  go_wp2
                  go_roundw
                  case rel => exact ⟨x + 1, by omega, by go_num, hide ⟨fun x' hx' => by
                    rcases (show x' < x ∨ x' = x by omega) with h | rfl
                    · exact HJ.out.1 x' h
                    · rw [← HZ.out]; exact HM2.out, HJ.out.2⟩⟩
                  case measure => simp [intOf]; omega
                · rw [decide_eq_false hmem] at q
                  have HF : Hid (Fam.famB k l = false) := hide (by
                    cases h : Fam.famB k l with
                    | false => rfl
                    | true => exact absurd (HD1.out h) hmem)
                  clear hmem
                  go_wp2
                  go_ret
                  exact ⟨by rw [HR.out, HF.out]; rfl, HW2.out.trans HJ.out.2⟩
              · have d8 : decide ((x : Int) < (k : Int)) = false := by simp; omega
                have HJ : Hid ((∀ x', x' < k → ((Fam.wo y x' : Nat) : Int) ∈ l) ∧ Chg [] w2 wr) := hide ⟨fun x' h => hJ.out.1 x' (by omega), hJ.out.2⟩
                clear hJ
                go_wp2
                go_roundw
                case rel => exact ⟨i + 1, by omega, by go_num, hide ⟨HL1.out, fun j hj x' hx' => by
                  rcases (show j < i ∨ j = i by omega) with h | rfl
                  · exact HI.out.2.1 j h x' hx'
                  · rw [HYe.out, Int.toNat_natCast]; exact HJ.out.1 x' hx', HJ.out.2⟩⟩
                case measure => simp [intOf]; omega
      · have d5 : decide ((i : Int) < (m : Int)) = false := by simp; omega
        have him : i = m := by omega
        have HX := hide hI.out
        rw [him, HM.out] at HX
        clear hI him
        have HFin := hide (fam_of HSs.out HX.out.1 HX.out.2.1)
        have HC := hide (HW2.out.trans HX.out.2.2)
        go_wp2
        go_ret
        exact ⟨by rw [HR.out, HFin.out]; rfl, HC.out⟩
end Go.Proofs.YtpplihpfjniacaaDoor
