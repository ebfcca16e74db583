/- Walks: which coin the results show. -/
import Derived.Test.YtohdjlgghkcaoaaS9
namespace Go.Proofs.Ytohdjlgghkcaoaa
open Go.RowKit

def readV (x : Int × Int × Int) : Value := .tuple #[.int .i64 x.1, .int .i64 x.2.1, .int .i64 x.2.2]

set_option maxRecDepth 100000 in
set_option maxHeartbeats 2000000 in
theorem RRead_any (v u : Value) (t : List (List Int)) (res : List Int) (w : World) (hv : See2 w v t) (hu : See w u res) (ht : W.isTab t = true) (hr : W.rowOk (W.cols t) res = true) :
    Calls Try.prog 45 #[v, u] w (Ret (readV (W.readT t res)) w) := by
  obtain ⟨⟨t1, t2, t3, t4⟩, -⟩ := W.isTab_iff.1 ht
  have hne : t ≠ [] := by rintro rfl; simp at t1
  obtain ⟨a, cap, rfl, _, hc⟩ := hv.open hne
  obtain ⟨hrl, hrs⟩ := W.rowOk_iff.1 hr
  obtain ⟨ro, rcap, rfl⟩ := hu.shape
  have HR := hide fun ws (hw : Chg [] w ws) => RRight_any _ t ws (hv.keep hw) ht
  have HU := hide hu
  have HC := hide hc
  have HT := hide ht
  have HRl := hide hrl
  have HRs := hide hrs
  have hl1 : Hid (res.length ≤ 1000000) := hide (by omega)
  clear hc hv hu ht hne hr hrl hrs t3 t4
  obtain ⟨n, hn⟩ : ∃ n, n = t.length := ⟨_, rfl⟩
  rw [← hn] at t1 t2 HR ⊢
  have HN := hide hn
  obtain ⟨L, hL⟩ : ∃ L, L = res.length := ⟨_, rfl⟩
  rw [← hL] at HU ⊢
  have HLe := hide hL
  clear hn hL
  go_enter Try.func45, Try.ntmps45
  go_wp2_with fail
  refine (HR.out _ (Chg.refl _ _)).mono ?_
  rintro e w1 ⟨rfl, hw1⟩
  have C1 := hide hw1
  clear hw1
  cases hf : W.fairT t with
  | false =>
    have HF := hide hf
    clear hf
    go_wp2
    go_ret3
    exact ⟨by unfold readV W.readT; rw [HF.out]; rfl, C1.out⟩
  | true =>
    have HF := hide hf
    clear hf
    go_wp2_with fail
    refine (same_self _ res _ (HU.out.keep C1.out) hl1.out HRs.out).mono ?_
    rintro e w2 ⟨rfl, hw2⟩
    have C2 : Hid (Chg [] w w2) := hide (C1.out.trans hw2)
    clear hw2
    cases hz : W.allZero res with
    | true =>
      have HZ := hide hz
      clear hz
      go_wp2
      go_ret3
      exact ⟨by unfold readV W.readT; rw [HF.out, HZ.out]; rfl, C2.out⟩
    | false =>
      have HZ := hide hz
      clear hz
      have HRead : Hid (W.readT t res = W.look res t 0) := hide (by unfold W.readT; rw [HF.out, HZ.out]; rfl)
      go_wp2
      go_loopw [17] (fun i wr => ∃ j : Nat, j ≤ n ∧ i = .int .i64 (j : Int) ∧ Hid (W.look res t 0 = W.look res (t.drop j) j ∧ Chg [] w wr)) (fun i _ => (n - (intOf i).toNat))
      case atStart => exact ⟨0, Nat.zero_le _, rfl, hide ⟨rfl, C2.out⟩⟩
      case round =>
        obtain ⟨j, hj, rfl, hI⟩ := hrel
        by_cases hlt : j < n
        · have d1 : decide ((j : Int) < (n : Int)) = true := by simpa using hlt
          have hjn : j < t.length := by rw [← HN.out]; exact hlt
          have HLook := hide (W.look_drop (res := res) hjn)
          obtain ⟨bo, bc, hrow⟩ := HC.out j hjn
          obtain ⟨fr, hs⟩ := hrow _ hI.out.2
          have hlj : Hid ((t.getD j []).length = res.length) := hide (by rw [HRl.out]; exact tab_row HT.out hjn)
          obtain ⟨L', hL'⟩ : ∃ L', L' = (t.getD j []).length := ⟨_, rfl⟩
          rw [← hL'] at fr hs hrow
          have HRow := hide hrow
          have HS := hide hs
          clear hrow hs hjn hL'
          go_wp2_with fail
          refine (same_eq _ _ _ _ _ (HU.out.keep hI.out.2) HS.out hl1.out hlj.out HRs.out).mono ?_
          rintro e w3 ⟨rfl, hw3⟩
          have C3 : Hid (Chg [] w w3) := hide (hI.out.2.trans hw3)
          clear hw3 fr HS
          by_cases he : res = t.getD j []
          · have E : Hid (W.readT t res = ((j : Int), 1, 0)) := hide (by rw [HRead.out, hI.out.1, HLook.out, if_pos he.symm])
            rw [decide_eq_true he]
            clear he
            go_wp2
            go_ret3
            exact ⟨by rw [E.out]; rfl, C3.out⟩
          · rw [decide_eq_false he]
            have HE := hide he
            clear he
            go_wp2_with fail
            refine (same_neg _ _ _ _ _ (HU.out.keep C3.out) (HRow.out _ C3.out).2 hl1.out hlj.out HRs.out).mono ?_
            rintro e w4 ⟨rfl, hw4⟩
            have C4 : Hid (Chg [] w w4) := hide (C3.out.trans hw4)
            clear hw4
            by_cases he : res = W.neg (t.getD j [])
            · have E : Hid (W.readT t res = ((j : Int), -1, 0)) := hide (by rw [HRead.out, hI.out.1, HLook.out, if_neg (fun h => HE.out h.symm), if_pos (neg_flip.1 he)])
              rw [decide_eq_true he]
              clear he
              go_wp2
              go_ret3
              exact ⟨by rw [E.out]; rfl, C4.out⟩
            · rw [decide_eq_false he]
              have HE2 := hide he
              clear he
              go_wp2
              go_roundw
              case rel => exact ⟨j + 1, by omega, by go_num, hide ⟨by rw [hI.out.1, HLook.out, if_neg (fun h => HE.out h.symm), if_neg (fun h => HE2.out (neg_flip.1 h))], C4.out⟩⟩
              case measure => simp [intOf]; omega
        · have d1 : decide ((j : Int) < (n : Int)) = false := by simpa using hlt
          have E : Hid (W.readT t res = (0, 0, 4)) := hide (by rw [HRead.out, hI.out.1, List.drop_eq_nil_of_le (by rw [← HN.out]; omega)]; rfl)
          go_wp2
          go_ret3
          exact ⟨by rw [E.out]; rfl, hI.out.2⟩

/-- What Read answers. -/
def readP (t : List (List Int)) (res : List Int) : Int × Int × Int := if W.isTab t = true ∧ W.rowOk (W.cols t) res = true then W.readT t res else (0, 0, 2)

set_option maxRecDepth 100000 in
set_option maxHeartbeats 2000000 in
theorem Read_any (v u : Value) (t : List (List Int)) (res : List Int) (w : World) (hv : See2 w v t) (hu : See w u res) (hl : ∀ r ∈ t, r.length ≤ 1000000) (htl : t.length ≤ 1000000) (hrl0 : res.length ≤ 1000000) :
    Calls Try.prog 42 #[v, u] w (Ret (readV (readP t res)) w) := by
  have HP := hide (isPlan_any v t w hv hl htl)
  obtain ⟨ro, rcap, rfl⟩ := hu.shape
  cases ht : W.isTab t with
  | false =>
    rw [ht] at HP
    have E : Hid (readP t res = (0, 0, 2)) := hide (by unfold readP; rw [if_neg (by rw [ht]; simp)])
    clear hv hu hl htl ht hrl0
    go_enter Try.func42, Try.ntmps42
    go_wp2_with fail
    refine HP.out.mono ?_
    rintro e w1 ⟨rfl, hw1⟩
    go_wp2
    go_ret3
    exact ⟨by rw [E.out]; rfl, hw1⟩
  | true =>
    rw [ht] at HP
    obtain ⟨⟨t1, t2, t3, t4⟩, -⟩ := W.isTab_iff.1 ht
    have hne : t ≠ [] := by rintro rfl; simp at t1
    obtain ⟨a, cap, rfl, _, hc⟩ := hv.open hne
    have HR := hide fun ws (hw : Chg [] w ws) => fair_any _ t ws (hv.keep hw) ht
    obtain ⟨bo0, bc0, h0⟩ := hc 0 (by omega)
    rw [add_nought, row0] at h0
    have H0 := hide h0
    have HU := hide hu
    have HC := hide hc
    have HT := hide ht
    have hl1 := hide hrl0
    clear hc hv hu ht hne hl htl hrl0 h0
    obtain ⟨c, hce⟩ : ∃ c, c = W.cols t := ⟨_, rfl⟩
    rw [← hce] at H0 t3 t4
    have HCe := hide hce
    obtain ⟨n, hn⟩ : ∃ n, n = t.length := ⟨_, rfl⟩
    rw [← hn] at t1 t2 HR HP ⊢
    have HN := hide hn
    obtain ⟨L, hL⟩ : ∃ L, L = res.length := ⟨_, rfl⟩
    rw [← hL] at HU ⊢
    have HLe := hide hL
    clear hn hL hce
    go_enter Try.func42, Try.ntmps42
    go_wp2_with fail
    refine HP.out.mono ?_
    rintro e w1 ⟨rfl, hw1⟩
    have C1 := hide hw1
    clear hw1
    have f0 := (H0.out _ C1.out).1
    by_cases hlc : L = c
    · subst hlc
      have d0 : ((L : Int) == (L : Int)) = true := by simp
      have hrn : res ≠ [] := by intro h; have := HLe.out; rw [h] at this; simp at this; omega
      have HMin := hide fun ws (hw : Chg [] w ws) => Min_any _ res ws (HU.out.keep hw) hrn hl1.out
      have HMax := hide fun ws (hw : Chg [] w ws) => Max_any _ res ws (HU.out.keep hw) hrn hl1.out
      clear hrn
      go_wp2_with fail
      refine (HMin.out _ C1.out).mono ?_
      rintro e w2 ⟨m, rfl, hm, hw2⟩
      have HMi := hide hm
      have C2 : Hid (Chg [] w w2) := hide (C1.out.trans hw2)
      clear hm hw2 f0
      by_cases hm1 : m < -1
      · have d1 : decide (m < -1) = true := by simpa using hm1
        have E : Hid (readP t res = (0, 0, 2)) := hide (by
          unfold readP
          rw [if_neg]
          rintro ⟨_, h⟩
          have := (W.rowOk_iff.1 h).2 m HMi.out.1
          omega)
        go_wp2
        go_ret3
        exact ⟨by rw [E.out]; rfl, C2.out⟩
      · have d1 : decide (m < -1) = false := by simpa using hm1
        go_wp2_with fail
        refine (HMax.out _ C2.out).mono ?_
        rintro e w3 ⟨M, rfl, hM, hw3⟩
        have HMa := hide hM
        have C3 : Hid (Chg [] w w3) := hide (C2.out.trans hw3)
        clear hM hw3
        by_cases hM1 : 1 < M
        · have d2 : decide (1 < M) = true := by simpa using hM1
          have E : Hid (readP t res = (0, 0, 2)) := hide (by
            unfold readP
            rw [if_neg]
            rintro ⟨_, h⟩
            have := (W.rowOk_iff.1 h).2 M HMa.out.1
            omega)
          go_wp2
          go_ret3
          exact ⟨by rw [E.out]; rfl, C3.out⟩
        · have d2 : decide (1 < M) = false := by simpa using hM1
          have hrs : ∀ x ∈ res, -1 ≤ x ∧ x ≤ 1 := fun x hx => by have := HMi.out.2 x hx; have := HMa.out.2 x hx; omega
          have hrk : W.rowOk (W.cols t) res = true := W.rowOk_iff.2 ⟨by rw [← HCe.out, ← HLe.out], hrs⟩
          have HRs := hide hrs
          have HP2 : Hid (readP t res = W.readT t res) := hide (by unfold readP; rw [if_pos ⟨HT.out, hrk⟩])
          clear hrs hrk
          go_wp2_with fail
          refine (HR.out _ C3.out).mono ?_
          rintro e w4 ⟨rfl, hw4⟩
          have C4 : Hid (Chg [] w w4) := hide (C3.out.trans hw4)
          clear hw4
          cases hf : W.fairT t with
          | false =>
            have HF := hide hf
            clear hf
            go_wp2
            go_ret3
            exact ⟨by rw [HP2.out]; unfold readV W.readT; rw [HF.out]; rfl, C4.out⟩
          | true =>
            have HF := hide hf
            clear hf
            go_wp2
            go_loopw [36] (fun i wr => ∃ j : Nat, j ≤ n ∧ i = .int .i64 (j : Int) ∧ Hid (W.look res t 0 = W.look res (t.drop j) j ∧ Chg [] w wr)) (fun i _ => (n - (intOf i).toNat))
            case atStart => exact ⟨0, Nat.zero_le _, rfl, hide ⟨rfl, C4.out⟩⟩
            case round =>
              obtain ⟨j, hj, rfl, hI⟩ := hrel
              by_cases hlt : j < n
              · have e1 : decide ((j : Int) < (n : Int)) = true := by simpa using hlt
                have hjn : j < t.length := by rw [← HN.out]; exact hlt
                have HLook := hide (W.look_drop (res := res) hjn)
                obtain ⟨bo, bc, hrow⟩ := HC.out j hjn
                obtain ⟨fr, hs⟩ := hrow _ hI.out.2
                have hlj : Hid ((t.getD j []).length < 1000000) := hide (by have := tab_row HT.out hjn; rw [← HCe.out] at this; omega)
                have hnz : Hid (t.getD j [] = res ∨ t.getD j [] = W.neg res → W.allZero res = false) := hide (by
                  have := W.fair_row HF.out (W.row_mem hjn)
                  rintro (h | h)
                  · rw [← h]; exact this
                  · rw [h, W.allZero_neg] at this; exact this)
                obtain ⟨L', hL'⟩ : ∃ L', L' = (t.getD j []).length := ⟨_, rfl⟩
                rw [← hL'] at fr hs hrow
                have HRow := hide hrow
                have HS := hide hs
                clear hrow hs hjn hL'
                go_wp2_with fail
                refine (Equal_any _ _ _ _ _ HS.out (HU.out.keep hI.out.2) hlj.out).mono ?_
                rintro e w5 ⟨rfl, hw5⟩
                have C5 : Hid (Chg [] w w5) := hide (hI.out.2.trans hw5)
                clear hw5 fr HS
                by_cases he : t.getD j [] = res
                · have E : Hid (W.readT t res = ((j : Int), 1, 0)) := hide (by unfold W.readT; rw [HF.out, hnz.out (.inl he)]; simp only [if_true, Bool.false_eq_true, if_false]; rw [hI.out.1, HLook.out, if_pos he])
                  rw [decide_eq_true he]
                  clear he
                  go_wp2
                  go_ret3
                  exact ⟨by rw [HP2.out, E.out]; rfl, C5.out⟩
                · rw [decide_eq_false he]
                  have HE := hide he
                  clear he
                  go_wp2_with fail
                  refine (opposite_any _ res _ (HU.out.keep C5.out) HRs.out hl1.out).mono ?_
                  rintro e w6 ⟨v', rfl, hI6, hw6⟩
                  have C6 : Hid (Chg [] w w6) := hide (C5.out.trans hw6)
                  have HI6 := hide hI6
                  clear hw6 hI6
                  go_wp2_with fail
                  refine (Equal_any _ _ _ _ _ (HRow.out _ C6.out).2 HI6.out.toSee hlj.out).mono ?_
                  rintro e w7 ⟨rfl, hw7⟩
                  have C7 : Hid (Chg [] w w7) := hide (C6.out.trans hw7)
                  clear hw7
                  by_cases he : t.getD j [] = W.neg res
                  · have E : Hid (W.readT t res = ((j : Int), -1, 0)) := hide (by unfold W.readT; rw [HF.out, hnz.out (.inr he)]; simp only [if_true, Bool.false_eq_true, if_false]; rw [hI.out.1, HLook.out, if_neg HE.out, if_pos he])
                    rw [decide_eq_true he]
                    clear he
                    go_wp2
                    go_ret3
                    exact ⟨by rw [HP2.out, E.out]; rfl, C7.out⟩
                  · rw [decide_eq_false he]
                    have HE2 := hide he
                    clear he
                    go_wp2
                    go_roundw
                    case rel => exact ⟨j + 1, by omega, by go_num, hide ⟨by rw [hI.out.1, HLook.out, if_neg HE.out, if_neg HE2.out], C7.out⟩⟩
                    case measure => simp [intOf]; omega
              · have e1 : decide ((j : Int) < (n : Int)) = false := by simpa using hlt
                have hlk : W.look res t 0 = (0, 0, 4) := by rw [hI.out.1, List.drop_eq_nil_of_le (by rw [← HN.out]; omega)]; rfl
                have HLk := hide hlk
                clear hlk
                go_wp2_with fail
                refine (some69 _ res _ (HU.out.keep hI.out.2) hl1.out).mono ?_
                rintro e w5 ⟨rfl, hw5⟩
                have C5 : Hid (Chg [] w w5) := hide (hI.out.2.trans hw5)
                clear hw5
                cases hz : W.allZero res with
                | true =>
                  have E : Hid (W.readT t res = (-1, 0, 0)) := hide (by unfold W.readT; rw [HF.out, hz]; rfl)
                  clear hz
                  go_wp2
                  go_ret3
                  exact ⟨by rw [HP2.out, E.out]; rfl, C5.out⟩
                | false =>
                  have E : Hid (W.readT t res = (0, 0, 4)) := hide (by unfold W.readT; rw [HF.out, hz]; simp only [if_true, Bool.false_eq_true, if_false]; exact HLk.out)
                  clear hz
                  go_wp2
                  go_ret3
                  exact ⟨by rw [HP2.out, E.out]; rfl, C5.out⟩
    · have d0 : ((L : Int) == (c : Int)) = false := by simp; omega
      have E : Hid (readP t res = (0, 0, 2)) := hide (by
        unfold readP
        rw [if_neg]
        rintro ⟨_, h⟩
        have := (W.rowOk_iff.1 h).1
        rw [← HCe.out, ← HLe.out] at this
        exact hlc this)
      go_wp2
      go_ret3
      exact ⟨by rw [E.out]; rfl, C1.out⟩
end Go.Proofs.Ytohdjlgghkcaoaa
