/- Walk: what one jury must say alone, the reference's. -/
import Derived.Test.YtaapamoglgpocaaBndPlain
namespace Go.Proofs.Ytaapamoglgpocaa
open Go.RowKit

def sameB (r s : List Int) : Nat → Bool
  | 0 => true
  | c + 1 => sameB r s c && decide (r.getD c 0 = s.getD c 0)
theorem sameB_iff (r s : List Int) : ∀ c, sameB r s c = true ↔ ∀ q, q < c → r.getD q 0 = s.getD q 0
  | 0 => ⟨fun _ q h => absurd h (Nat.not_lt_zero q), fun _ => rfl⟩
  | c + 1 => by
    show (sameB r s c && decide (r.getD c 0 = s.getD c 0)) = true ↔ _
    rw [Bool.and_eq_true, sameB_iff r s c, decide_eq_true_eq]
    constructor
    · rintro ⟨h1, h2⟩ q hq
      rcases (show q < c ∨ q = c by omega) with h | rfl
      · exact h1 q h
      · exact h2
    · exact fun h => ⟨fun q hq => h q (by omega), h c (by omega)⟩
theorem sameB_all {r s : List Int} (h : r.length = s.length) : sameB r s r.length = decide (r = s) := by
  rw [Bool.eq_iff_iff, sameB_iff, decide_eq_true_eq]
  exact ⟨fun hs => sameTo_all h hs, fun e q _ => by rw [e]⟩
/-- Was a row met among the first q? -/
def oldB (t : List (List Int)) (r : List Int) (q : Nat) : Bool := (t.take q).any fun s => decide (r = s)
theorem oldB_zero (t : List (List Int)) (r : List Int) : oldB t r 0 = false := by unfold oldB; simp
theorem take_snoc {t : List (List Int)} {q : Nat} (h : q < t.length) : t.take (q + 1) = t.take q ++ [t.getD q []] := by
  rw [List.take_add_one, List.getElem?_eq_getElem h, List.getD_eq_getElem?_getD, List.getElem?_eq_getElem h]
  rfl
theorem oldB_succ {t : List (List Int)} (r : List Int) {q : Nat} (h : q < t.length) : oldB t r (q + 1) = (oldB t r q || decide (r = t.getD q [])) := by
  unfold oldB
  rw [take_snoc h, List.any_append]
  simp
theorem uniqT_sub (t : List (List Int)) : ∀ n, n ≤ t.length → ∀ s ∈ uniqT (t.take n), s ∈ t.take n
  | 0, _, s, h => by simp [uniqT] at h
  | n + 1, hn, s, h => by
    rw [take_snoc hn] at h ⊢
    rw [uniqT_snoc] at h
    split at h
    · exact List.mem_append_left _ (uniqT_sub t n (by omega) s h)
    · rcases List.mem_append.1 h with h | h
      · exact List.mem_append_left _ (uniqT_sub t n (by omega) s h)
      · exact List.mem_append_right _ h
theorem oldB_uniq {t : List (List Int)} {r : List Int} {n : Nat} (hn : n ≤ t.length) : oldB t r n = (uniqT (t.take n)).any fun s => decide (r = s) := by
  unfold oldB
  rw [Bool.eq_iff_iff, List.any_eq_true, List.any_eq_true]
  constructor
  · rintro ⟨s, hs, he⟩
    obtain ⟨i, hi, rfl⟩ := List.getElem_of_mem hs
    rw [List.length_take] at hi
    have := uniqT_mem t n hn i (by omega)
    refine ⟨_, this, ?_⟩
    rw [List.getElem_take] at he
    rw [List.getD_eq_getElem?_getD, List.getElem?_eq_getElem (by omega)]
    exact he
  · rintro ⟨s, hs, he⟩
    exact ⟨s, uniqT_sub t n hn s hs, he⟩
def diffN (t : List (List Int)) (n : Nat) : Nat := (uniqT (t.take n)).length
theorem diffN_zero (t : List (List Int)) : diffN t 0 = 0 := rfl
theorem diffN_succ {t : List (List Int)} {n : Nat} (hn : n < t.length) : diffN t (n + 1) = if oldB t (t.getD n []) n = true then diffN t n else diffN t n + 1 := by
  unfold diffN
  rw [oldB_uniq (by omega), take_snoc hn, uniqT_snoc]
  split
  · rfl
  · rw [List.length_append]; rfl
theorem diffN_all (t : List (List Int)) : diffN t t.length = (uniqT t).length := by unfold diffN; rw [List.take_length]

set_option maxRecDepth 100000 in
set_option maxHeartbeats 2000000 in
theorem ROnce_any (v : Value) (t : List (List Int)) (w : World) (hv : See2 w v t) (ht : T.isTab t = true) : Calls Try.prog 48 #[v] w (Ret (.int .i64 (onceN t : Int)) w) := by
  obtain ⟨⟨t1, t2, t3, t4⟩, _⟩ := T.isTab_iff.1 ht
  have hne : t ≠ [] := by rintro rfl; simp at t1
  obtain ⟨a, cap, rfl, hcap, hcc⟩ := hv.open hne
  have HC := hide hcc
  have HRow : Hid (∀ k, k < t.length → (t.getD k []).length = T.cols t) := hide fun k h => T.tab_row ht h
  have HLe : Hid (∀ n, n ≤ t.length → diffN t n ≤ n) := hide fun n hn => uniqT_len t n hn
  obtain ⟨n, hn⟩ : ∃ n, n = t.length := ⟨_, rfl⟩
  have HN := hide hn
  rw [← hn] at t1 t2 hcap HRow HLe ⊢
  obtain ⟨m, hm⟩ : ∃ m, m = T.cols t := ⟨_, rfl⟩
  rw [← hm] at t3 t4 HRow
  have HO : Hid (onceN t = wordsN (diffN t n)) := hide (by rw [hn, diffN_all]; rfl)
  clear hcc hv hne ht hn hm
  generalize onceN t = res at *
  go_enter Try.func48, Try.ntmps48
  go_wp2
  go_loopw [3, 14] (fun ov iv wr => ∃ i : Nat, i ≤ n ∧ ov = .int .i64 (diffN t i : Int) ∧ iv = .int .i64 (i : Int) ∧ Hid (Chg [] w wr)) (fun _ iv _ => (n - (intOf iv).toNat))
  case atStart => exact ⟨0, by omega, rfl, rfl, hide (Chg.refl _ _)⟩
  case round =>
    obtain ⟨i, hi, rfl, rfl, hI⟩ := hrel
    by_cases hlt : i < n
    · have d1 : decide ((i : Int) < (n : Int)) = true := by simpa using hlt
      have hit : i < t.length := by rw [← HN.out]; exact hlt
      obtain ⟨bo, bc, hrow⟩ := HC.out i hit
      rw [HRow.out i hlt] at hrow
      have fr := (hrow wr hI.out).1
      have HRowI := hide hrow
      have HDs := hide (diffN_succ hit)
      have hle := HLe.out i hi
      have i0 : (0 : Int) ≤ (i : Int) := by omega
      have i1 : (i : Int) ≤ (n : Int) := by omega
      have i2 : (i : Int) ≤ (cap : Int) := by omega
      have HIt := hide hit
      clear hrow hit
      obtain ⟨ri, hri⟩ : ∃ ri, ri = t.getD i [] := ⟨_, rfl⟩
      rw [← hri] at HRowI HDs
      have HRi := hide hri
      have HZero := hide (oldB_zero t ri)
      clear hri
      go_wp2
      go_loopw [6, 23] (fun ov qv wr => ∃ q : Nat, q ≤ i ∧ ov = .bool (oldB t ri q) ∧ qv = .int .i64 (q : Int) ∧ Hid (Chg [] w wr)) (fun _ qv _ => (i - (intOf qv).toNat))
      case atStart => exact ⟨0, by omega, by rw [HZero.out], rfl, hI⟩
      case round =>
        obtain ⟨q, hq, rfl, rfl, hJ⟩ := hrel
        by_cases hlq : q < i
        · have d2 : decide ((q : Int) < (i : Int)) = true := by simpa using hlq
          have hqt : q < t.length := by rw [← HN.out]; omega
          obtain ⟨bo2, bc2, hrow2⟩ := HC.out q hqt
          rw [HRow.out q (by omega)] at hrow2
          have fr2 := (hrow2 wr hJ.out).1
          have HRowQ := hide hrow2
          have HOs := hide (oldB_succ ri hqt)
          obtain ⟨rq, hrq⟩ : ∃ rq, rq = t.getD q [] := ⟨_, rfl⟩
          rw [← hrq] at HRowQ HOs
          have HLi : Hid (ri.length = m) := hide (by rw [HRi.out]; exact HRow.out i hlt)
          have HLq : Hid (rq.length = m) := hide (by rw [hrq]; exact HRow.out q (by omega))
          clear hrow2 hqt hrq
          go_wp2
          go_loopw [9, 29] (fun ov cv wr => ∃ c : Nat, c ≤ m ∧ ov = .bool (sameB ri rq c) ∧ cv = .int .i64 (c : Int) ∧ Hid (Chg [] w wr)) (fun _ cv _ => (m - (intOf cv).toNat))
          case atStart => exact ⟨0, by omega, rfl, rfl, hJ⟩
          case round =>
            obtain ⟨c, hc, rfl, rfl, hK⟩ := hrel
            by_cases hlc : c < m
            · have d3 : decide ((c : Int) < (m : Int)) = true := by simpa using hlc
              obtain ⟨_, hs1⟩ := HRowI.out wr hK.out
              obtain ⟨_, hs2⟩ := HRowQ.out wr hK.out
              obtain ⟨a1, cp1, e1, hx1⟩ := hs1.open (by intro h; have := HLi.out; rw [h] at this; simp at this; omega)
              obtain ⟨a2, cp2, e2, hx2⟩ := hs2.open (by intro h; have := HLq.out; rw [h] at this; simp at this; omega)
              rw [HLi.out] at e1 hx1
              rw [HLq.out] at e2 hx2
              cases e1
              cases e2
              have fx := hx1 wr (Chg.refl _ _) c hlc
              have fy := hx2 wr (Chg.refl _ _) c hlc
              have HStep : Hid (sameB ri rq (c + 1) = (sameB ri rq c && decide (ri.getD c 0 = rq.getD c 0))) := hide rfl
              have hxy : (ri.getD c 0 == rq.getD c 0) = decide (ri.getD c 0 = rq.getD c 0) := by
                rw [Bool.eq_iff_iff]; simp
              generalize ri.getD c 0 = x at *
              generalize rq.getD c 0 = y at *
              generalize decide (x = y) = xy at *
              have c0 : (0 : Int) ≤ (c : Int) := by omega
              clear hx1 hx2 hs1 hs2
              generalize sameB ri rq c = sb at *
              cases sb with
              | false =>
                have E : Hid (sameB ri rq (c + 1) = false) := hide (by rw [HStep.out]; rfl)
                go_wp2
                go_quiet (fail)
                go_wp2
                go_roundw
                case rel => exact ⟨c + 1, by omega, by rw [E.out], by go_num, hide (hK.out.drewN _)⟩
                case measure => simp [intOf]; omega
              | true =>
                have E : Hid (sameB ri rq (c + 1) = xy) := hide (by rw [HStep.out]; rfl)
                go_wp2
                go_quiet (fail)
                go_wp2
                go_roundw
                case rel => exact ⟨c + 1, by omega, by rw [E.out], by go_num, hide (hK.out.drewN _)⟩
                case measure => simp [intOf]; omega
            · have d3 : decide ((c : Int) < (m : Int)) = false := by simpa using hlc
              have hcm : c = m := by omega
              have HSame : Hid (sameB ri rq c = decide (ri = rq)) := hide (by rw [hcm, ← HLi.out]; exact sameB_all (HLi.out.trans HLq.out.symm))
              generalize sameB ri rq c = sb at *
              clear hcm
              generalize oldB t ri q = ob at *
              cases ob with
              | false =>
                have E : Hid (oldB t ri (q + 1) = sb) := hide (by rw [HOs.out, HSame.out]; rfl)
                go_wp2
                go_roundw
                case rel => exact ⟨q + 1, by omega, by rw [E.out], by go_num, hK⟩
                case measure => simp [intOf]; omega
              | true =>
                have E : Hid (oldB t ri (q + 1) = true) := hide (by rw [HOs.out]; rfl)
                go_wp2
                go_roundw
                case rel => exact ⟨q + 1, by omega, by rw [E.out], by go_num, hK⟩
                case measure => simp [intOf]; omega
        · have d2 : decide ((q : Int) < (i : Int)) = false := by simpa using hlq
          obtain rfl : q = i := by omega
          have hw1 : IntKind.i64.wrap ((diffN t q : Int) + 1) = ((diffN t q + 1 : Nat) : Int) := by rw [IntKind.wrap_i64]; omega
          generalize oldB t ri q = ob at *
          generalize diffN t q = dq at *
          cases ob with
          | false =>
            have E : Hid (diffN t (q + 1) = dq + 1) := hide (by rw [HDs.out]; rfl)
            go_wp2
            go_roundw
            case rel => exact ⟨q + 1, by omega, by rw [E.out]; simp, by go_num, hJ⟩
            case measure => simp [intOf]; omega
          | true =>
            have E : Hid (diffN t (q + 1) = dq) := hide (by rw [HDs.out]; rfl)
            go_wp2
            go_roundw
            case rel => exact ⟨q + 1, by omega, by rw [E.out], by go_num, hJ⟩
            case measure => simp [intOf]; omega
    · have d1 : decide ((i : Int) < (n : Int)) = false := by simpa using hlt
      obtain rfl : i = n := by omega
      have hle := HLe.out i (Nat.le_refl _)
      have hd4 : diffN t i ≤ 4 := by omega
      generalize diffN t i = d at *
      go_wp2
      go_loopw [11] (fun kv wr => ∃ k : Nat, k ≤ 2 ∧ (∀ j, j < k → 2 ^ j < d) ∧ kv = .int .i64 (k : Int) ∧ Hid (Chg [] w wr)) (fun kv _ => (3 - (intOf kv).toNat))
      case atStart => exact ⟨0, by omega, fun j h => absurd h (Nat.not_lt_zero j), rfl, hI⟩
      case round =>
        obtain ⟨k, hk, hj, rfl, hJ⟩ := hrel
        have e1 : (2 : Int) ^ k = ((2 ^ k : Nat) : Int) := by simp
        have hp : 2 ^ k ≤ 2 ^ 2 := Nat.pow_le_pow_right (by decide) hk
        have n64 : (k : Int) ≤ 64 := by omega
        have HJ := hide hj
        have HK2 : Hid (k = 0 ∨ k = 1 ∨ k = 2) := hide (by omega)
        clear hj
        obtain ⟨P, hP⟩ : ∃ P, P = 2 ^ k := ⟨_, rfl⟩
        rw [← hP] at e1 hp
        have HP := hide hP
        have hPw : IntKind.i64.wrap (P : Int) = (P : Int) := by rw [IntKind.wrap_i64]; omega
        clear hP
        by_cases hlt2 : P < d
        · have d2 : decide ((P : Int) < (d : Int)) = true := by simpa using hlt2
          have HL := hide hlt2
          go_wp2
          go_roundw
          case rel =>
            refine ⟨k + 1, ?_, fun j h => ?_, by go_num, hJ⟩
            · have h1 := HL.out
              have h2 := HP.out
              rcases HK2.out with h | h | h
              · omega
              · omega
              · rw [h] at h2; omega
            · rcases (show j < k ∨ j = k by omega) with h | rfl
              · exact HJ.out j h
              · rw [← HP.out]; exact HL.out
          case measure => simp [intOf]; omega
        · have d2 : decide ((P : Int) < (d : Int)) = false := by simpa using hlt2
          have E : Hid (wordsN d = k) := hide (by
            have h2 := HP.out
            have h3 := HJ.out
            unfold wordsN
            rcases HK2.out with h | h | h
            · rw [h] at h2 ⊢
              rw [if_pos (by omega)]
            · rw [h] at h2 h3 ⊢
              have := h3 0 (by omega)
              rw [if_neg (by omega), if_pos (by omega)]
            · rw [h] at h2 h3 ⊢
              have := h3 1 (by omega)
              rw [if_neg (by omega), if_neg (by omega)])
          go_wp2
          go_ret
          exact ⟨by rw [HO.out, E.out]; rfl, hJ.out⟩
end Go.Proofs.Ytaapamoglgpocaa
