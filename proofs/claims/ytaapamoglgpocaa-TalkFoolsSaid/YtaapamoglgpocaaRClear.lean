/- Walk: whether a rectangle is clear, the reference's. -/
import Derived.Test.YtaapamoglgpocaaTbl
import Derived.Test.YtaapamoglgpocaaTPlain2
namespace Go.Proofs.Ytaapamoglgpocaa
open Go.RowKit

/-- Whether the value k was seen. -/
def Seen (t : List (List Int)) (r c i j : Nat) (k : Int) (b : Bool) : Prop := b = true ↔ ∃ a q, a < t.length ∧ q < T.cols t ∧ T.met i j a q ∧ T.has r c a q = true ∧ T.ent t a q = k
theorem Seen.start (t : List (List Int)) (r c : Nat) (k : Int) : Seen t r c 0 0 k false := by
  unfold Seen
  constructor
  · intro h; cases h
  · rintro ⟨a, q, _, _, hm, _⟩; unfold T.met at hm; omega
theorem Seen.row {t : List (List Int)} {r c i j : Nat} {k : Int} {b : Bool} (h : Seen t r c i j k b) (hj : T.cols t ≤ j) : Seen t r c (i + 1) 0 k b := by
  unfold Seen at h ⊢
  rw [h]
  constructor
  · rintro ⟨a, q, h1, h2, h3, h4⟩; exact ⟨a, q, h1, h2, by unfold T.met at h3 ⊢; omega, h4⟩
  · rintro ⟨a, q, h1, h2, h3, h4⟩; exact ⟨a, q, h1, h2, by unfold T.met at h3 ⊢; omega, h4⟩
theorem Seen.skip {t : List (List Int)} {r c i j : Nat} {k : Int} {b : Bool} (h : Seen t r c i j k b) (hn : T.has r c i j = true → T.ent t i j ≠ k) : Seen t r c i (j + 1) k b := by
  unfold Seen at h ⊢
  rw [h]
  constructor
  · rintro ⟨a, q, h1, h2, h3, h4⟩; exact ⟨a, q, h1, h2, by unfold T.met at h3 ⊢; omega, h4⟩
  · rintro ⟨a, q, h1, h2, h3, h4, h5⟩
    have hm : T.met i j a q ∨ (a = i ∧ q = j) := by unfold T.met at h3 ⊢; omega
    rcases hm with hm | ⟨rfl, rfl⟩
    · exact ⟨a, q, h1, h2, hm, h4, h5⟩
    · exact absurd h5 (hn h4)
theorem Seen.hit {t : List (List Int)} {r c i j : Nat} {k : Int} (hi : i < t.length) (hj : j < T.cols t) (hh : T.has r c i j = true) (he : T.ent t i j = k) : Seen t r c i (j + 1) k true :=
  ⟨fun _ => ⟨i, j, hi, hj, by unfold T.met; omega, hh, he⟩, fun _ => rfl⟩
theorem Seen.clear {t : List (List Int)} (ht : T.isTab t = true) {r c : Nat} {x y : Bool} (h0 : Seen t r c t.length 0 0 x) (h1 : Seen t r c t.length 0 1 y) : T.clear t r c = (!x || !y) := by
  rw [Bool.eq_iff_iff, T.clear_iff ht]
  unfold Seen at h0 h1
  constructor
  · intro hm
    cases x with
    | false => rfl
    | true =>
      cases y with
      | false => rfl
      | true =>
        obtain ⟨a, q, u1, u2, _, u3, u4⟩ := h0.1 rfl
        obtain ⟨b, p, v1, v2, _, v3, v4⟩ := h1.1 rfl
        have := hm a q b p u1 u2 v1 v2 u3 v3
        omega
  · intro h a q b p u1 u2 v1 v2 u3 v3
    have e1 := T.ent_val ht (i := a) (j := q)
    have e2 := T.ent_val ht (i := b) (j := p)
    by_cases he : T.ent t a q = T.ent t b p
    · exact he
    · exfalso
      have hx : x = true := h0.2 (by
        rcases (show T.ent t a q = 0 ∨ T.ent t b p = 0 by omega) with h | h
        · exact ⟨a, q, u1, u2, by unfold T.met; omega, u3, h⟩
        · exact ⟨b, p, v1, v2, by unfold T.met; omega, v3, h⟩)
      have hy : y = true := h1.2 (by
        rcases (show T.ent t a q = 1 ∨ T.ent t b p = 1 by omega) with h | h
        · exact ⟨a, q, u1, u2, by unfold T.met; omega, u3, h⟩
        · exact ⟨b, p, v1, v2, by unfold T.met; omega, v3, h⟩)
      rw [hx, hy] at h
      cases h

set_option maxRecDepth 100000 in
set_option maxHeartbeats 2000000 in
theorem Clear_any (v : Value) (t : List (List Int)) (r c : Nat) (w : World) (hv : See2 w v t) (ht : T.isTab t = true) (hr : r < 65536) (hc : c < 65536) :
    Calls Try.prog 101 #[v, .int .i64 (r : Int), .int .i64 (c : Int)] w (Ret (.bool (T.clear t r c)) w) := by
  obtain ⟨⟨t1, t2, t3, t4⟩, _⟩ := T.isTab_iff.1 ht
  have hne : t ≠ [] := by rintro rfl; simp at t1
  obtain ⟨a, cap, rfl, _, hcc⟩ := hv.open hne
  have HC := hide hcc
  have HT := hide ht
  have HR := hide (And.intro hr hc)
  obtain ⟨n, hn⟩ : ∃ n, n = t.length := ⟨_, rfl⟩
  have HN := hide hn
  rw [← hn] at t1 t2 ⊢
  obtain ⟨m, hm⟩ : ∃ m, m = T.cols t := ⟨_, rfl⟩
  have HM := hide hm
  rw [← hm] at t3 t4
  obtain ⟨R, hR⟩ : ∃ R, R = T.clear t r c := ⟨_, rfl⟩
  rw [← hR]
  have HRe := hide hR
  clear hcc hv hne hr hc ht hn hm hR
  go_enter Try.func101, Try.ntmps101
  go_wp2
  have bx := Box.new w #[.bool false, .bool false] 142
  have C0 : Hid (Chg [] w (w.alloc (.cells #[.bool false, .bool false] 142))) := hide ((Chg.refl _ _).alloc _)
  have BX := hide bx
  have hB : Hid (∃ B, B = w.heap.size) := hide ⟨_, rfl⟩
  clear bx
  generalize w.alloc (.cells #[.bool false, .bool false] 142) = W0 at C0 BX ⊢
  obtain ⟨B, hB⟩ := hB.out
  rw [← hB] at BX ⊢
  have HB := hide hB
  clear hB
  go_loopw [15] (fun iv wr => ∃ (i : Nat) (x y : Bool), i ≤ n ∧ iv = .int .i64 (i : Int) ∧ Hid (Seen t r c i 0 0 x ∧ Seen t r c i 0 1 y ∧ Box wr B #[.bool x, .bool y] 142 ∧ Chg [] w wr)) (fun iv _ => n - (intOf iv).toNat)
  case atStart => exact ⟨0, false, false, Nat.zero_le _, rfl, hide ⟨Seen.start _ _ _ _, Seen.start _ _ _ _, BX.out, C0.out⟩⟩
  case round =>
    obtain ⟨i, x, y, hi, rfl, hI⟩ := hrel
    by_cases hlt : i < n
    · have d1 : decide ((i : Int) < (n : Int)) = true := by simpa using hlt
      obtain ⟨bo, bc, hrow⟩ := HC.out i (by rw [← HN.out]; exact hlt)
      have hlen : (t.getD i []).length = m := by rw [HM.out]; exact T.tab_row HT.out (by rw [← HN.out]; exact hlt)
      obtain ⟨fr, hs⟩ := hrow wr hI.out.2.2.2
      rw [hlen] at fr hs
      have HLen := hide hlen
      have HRow := hide hrow
      rw [hlen] at HRow
      clear hrow hs hlen
      go_wp2
      go_loopw [22] (fun jv wq => ∃ (j : Nat) (x y : Bool), j ≤ m ∧ jv = .int .i64 (j : Int) ∧ Hid (Seen t r c i j 0 x ∧ Seen t r c i j 1 y ∧ Box wq B #[.bool x, .bool y] 142 ∧ Chg [] w wq)) (fun jv _ => m - (intOf jv).toNat)
      case atStart => exact ⟨0, x, y, Nat.zero_le _, rfl, hide ⟨hI.out.1, hI.out.2.1, hI.out.2.2.1, hI.out.2.2.2⟩⟩
      case round =>
        obtain ⟨j, x, y, hj, rfl, hJ⟩ := hrel
        by_cases hlj : j < m
        · have d2 : decide ((j : Int) < (m : Int)) = true := by simpa using hlj
          obtain ⟨_, hs⟩ := HRow.out wr hJ.out.2.2.2
          have hrn : t.getD i [] ≠ [] := by intro h; have := HLen.out; rw [h] at this; simp at this; omega
          obtain ⟨a2, cap2, e2, hx⟩ := hs.open hrn
          rw [HLen.out] at e2
          cases e2
          have fx0 := hx wr (Chg.refl _ _) j (by rw [HLen.out]; exact hlj)
          obtain ⟨z, hz⟩ : ∃ z, z = T.ent t i j := ⟨_, rfl⟩
          have fx : wr.cell? (a2.add j) = some (.int .i64 z) := by rw [hz]; exact fx0
          clear fx0
          obtain ⟨z1, z2⟩ := T.ent_val HT.out (i := i) (j := j)
          rw [← hz] at z1 z2
          have HZ := hide hz
          have h1 := shr_int r i
          have h2 := shr_int c j
          have l1 : r / 2 ^ i < 2 ^ 63 := Nat.lt_of_le_of_lt (Nat.div_le_self _ _) (by have := HR.out.1; omega)
          have l2 : c / 2 ^ j < 2 ^ 63 := Nat.lt_of_le_of_lt (Nat.div_le_self _ _) (by have := HR.out.2; omega)
          have a1 := and_one _ l1
          have a3 := and_one _ l2
          have b1 := bit_eq r i
          have b2 := bit_eq c j
          have HE : Hid (T.has r c i j = (bitv r i && bitv c j)) := hide rfl
          have hii : (i : Int) ≤ 62 := by omega
          have hjj : (j : Int) ≤ 62 := by omega
          generalize bitv r i = p at b1 HE
          generalize bitv c j = q at b2 HE
          generalize r / 2 ^ i % 2 = m1 at a1 b1
          generalize c / 2 ^ j % 2 = m2 at a3 b2
          generalize r / 2 ^ i = q1 at h1 a1
          generalize c / 2 ^ j = q2 at h2 a3
          clear l1 l2 hs hrn hx hz
          cases p with
          | false =>
            have E : Hid (T.has r c i j = true → False) := hide (by rw [HE.out]; intro h; cases h)
            go_wp2
            go_roundw
            case rel => exact ⟨j + 1, x, y, by omega, by go_num, hide ⟨hJ.out.1.skip (fun h => (E.out h).elim), hJ.out.2.1.skip (fun h => (E.out h).elim), hJ.out.2.2.1, hJ.out.2.2.2⟩⟩
            case measure => simp [intOf]; omega
          | true =>
            cases q with
            | false =>
              have E : Hid (T.has r c i j = true → False) := hide (by rw [HE.out]; intro h; cases h)
              go_wp2
              go_roundw
              case rel => exact ⟨j + 1, x, y, by omega, by go_num, hide ⟨hJ.out.1.skip (fun h => (E.out h).elim), hJ.out.2.1.skip (fun h => (E.out h).elim), hJ.out.2.2.1, hJ.out.2.2.2⟩⟩
              case measure => simp [intOf]; omega
            | true =>
              have E : Hid (T.has r c i j = true) := hide HE.out
              have lB := hJ.out.2.2.1.lt
              have HIJ := hide (And.intro (show i < t.length by rw [← HN.out]; exact hlt) (show j < T.cols t by rw [← HM.out]; exact hlj))
              rcases (show z = 0 ∨ z = 1 by omega) with hz0 | hz0
              · have HZ0 := hide (HZ.out.symm.trans hz0)
                subst hz0
                have ff := hJ.out.2.2.1.free 0
                have fc := hJ.out.2.2.1.cell 0
                simp at fc
                go_wp2
                go_roundw
                case rel => exact ⟨j + 1, true, y, by omega, by go_num, hide ⟨Seen.hit HIJ.out.1 HIJ.out.2 E.out HZ0.out, hJ.out.2.1.skip (fun _ => by rw [HZ0.out]; decide), hJ.out.2.2.1.set 0 _, hJ.out.2.2.2.setCell (.inr (by rw [HB.out]; exact Nat.le_refl _)) _⟩⟩
                case measure => simp [intOf]; omega
              · have HZ0 := hide (HZ.out.symm.trans hz0)
                subst hz0
                have ff := hJ.out.2.2.1.free 1
                have fc := hJ.out.2.2.1.cell 1
                simp at fc
                go_wp2
                go_roundw
                case rel => exact ⟨j + 1, x, true, by omega, by go_num, hide ⟨hJ.out.1.skip (fun _ => by rw [HZ0.out]; decide), Seen.hit HIJ.out.1 HIJ.out.2 E.out HZ0.out, hJ.out.2.2.1.set 1 _, hJ.out.2.2.2.setCell (.inr (by rw [HB.out]; exact Nat.le_refl _)) _⟩⟩
                case measure => simp [intOf]; omega
        · have d2 : decide ((j : Int) < (m : Int)) = false := by simpa using hlj
          obtain rfl : j = m := by omega
          have HMl : Hid (T.cols t ≤ j) := hide (Nat.le_of_eq HM.out.symm)
          go_wp2
          go_roundw
          case rel => exact ⟨i + 1, x, y, by omega, by go_num, hide ⟨hJ.out.1.row HMl.out, hJ.out.2.1.row HMl.out, hJ.out.2.2.1, hJ.out.2.2.2⟩⟩
          case measure => simp [intOf]; omega
    · have d1 : decide ((i : Int) < (n : Int)) = false := by simpa using hlt
      obtain rfl : i = n := by omega
      have E : Hid (R = (!x || !y)) := hide (by
        rw [HRe.out]
        refine Seen.clear HT.out ?_ ?_
        · rw [← HN.out]; exact hI.out.1
        · rw [← HN.out]; exact hI.out.2.1)
      have f0 := hI.out.2.2.1.cell 0
      have f1 := hI.out.2.2.1.cell 1
      have lB := hI.out.2.2.1.lt
      simp at f0 f1
      cases x with
      | false =>
        go_wp2
        go_ret
        exact ⟨by rw [E.out]; rfl, hI.out.2.2.2⟩
      | true =>
        go_wp2
        go_ret
        exact ⟨by rw [E.out]; rfl, hI.out.2.2.2⟩
end Go.Proofs.Ytaapamoglgpocaa
