/- Walk: whether a plan is right, the reference's. -/
import Derived.Test.YtaapamoglgpocaaTbl
import Derived.Test.YtaapamoglgpocaaPlanPlain
import Derived.Test.YtaapamoglgpocaaRun4
namespace Go.Proofs.Ytaapamoglgpocaa
open Go.RowKit

theorem runM_pos {ps : List Nd} (h : isPl ps = true) (row col : Nat) : 1 ≤ (runM ps row col).length ∧ (runM ps row col).length ≤ 101 := by
  have h1 := (isPl_iff.1 h).1
  have h2 := runA_len h row col ps.length 0 (by omega) (by omega)
  have h3 := depA_le h 0
  rw [← runA_start] at h2
  omega
theorem ints_last {w : World} {v : Value} {xs : List Int} (h : Ints w v xs) (hn : 1 ≤ xs.length) : ∃ g cap, v = .slice (some ⟨g, 0, none⟩) xs.length cap ∧ g < w.heap.size ∧ w.cell? ⟨g, xs.length - 1, none⟩ = some (.int .i64 (xs.getD (xs.length - 1) 0)) := by
  rcases h.see with ⟨_, rfl⟩ | ⟨g, cap, e, _, hg, hc⟩
  · simp at hn
  · exact ⟨g, cap, e, hg, hc _ (by omega)⟩

set_option maxRecDepth 100000 in
set_option maxHeartbeats 2000000 in
theorem RRight_any (v u : Value) (t : List (List Int)) (ps : List Nd) (w : World) (hv : See2 w v t) (hu : SeeN w u ps) (ht : T.isTab t = true) (hp : isPl ps = true) :
    Calls Try.prog 23 #[v, u] w (Ret (.bool (rightM t ps)) w) := by
  obtain ⟨⟨t1, t2, t3, t4⟩, _⟩ := T.isTab_iff.1 ht
  have hne : t ≠ [] := by rintro rfl; simp at t1
  obtain ⟨a, cap, rfl, _, hcc⟩ := hv.open hne
  have HC := hide hcc
  have HT := hide ht
  obtain ⟨n, hn⟩ : ∃ n, n = t.length := ⟨_, rfl⟩
  have HN := hide hn
  rw [← hn] at t1 t2 ⊢
  obtain ⟨m, hm⟩ : ∃ m, m = T.cols t := ⟨_, rfl⟩
  have HM := hide hm
  rw [← hm] at t3 t4
  have HRn := hide fun ws (hw : Chg [] w ws) (i j : Nat) (hi : i < 4) (hj : j < 4) => RRun_any u ps i j ws (hu.keep hw) hp hi hj
  have HPos := hide fun i j => runM_pos hp i j
  have HIf := hide (rightM_iff (t := t) (ps := ps))
  rw [← hn, ← hm] at HIf
  obtain ⟨R, hR⟩ : ∃ R, R = rightM t ps := ⟨_, rfl⟩
  rw [← hR] at HIf ⊢
  clear hcc hv hu hne ht hp hn hm hR
  go_enter Try.func23, Try.ntmps23
  go_wp2
  go_loopw [12] (fun iv wr => ∃ (i : Nat), i ≤ n ∧ iv = .int .i64 (i : Int) ∧ Hid ((∀ a q, a < n → q < m → T.met i 0 a q → lastM ps a q = T.ent t a q) ∧ Chg [] w wr)) (fun iv _ => n - (intOf iv).toNat)
  case atStart => exact ⟨0, Nat.zero_le _, rfl, hide ⟨fun a q _ _ h => by unfold T.met at h; omega, Chg.refl _ _⟩⟩
  case round =>
    obtain ⟨i, hi, rfl, hI⟩ := hrel
    by_cases hlt : i < n
    · have d1 : decide ((i : Int) < (n : Int)) = true := by simpa using hlt
      obtain ⟨bo, bc, hrow⟩ := HC.out i (by rw [← HN.out]; exact hlt)
      have hlen : (t.getD i []).length = m := by rw [HM.out]; exact T.tab_row HT.out (by rw [← HN.out]; exact hlt)
      obtain ⟨fr, hs⟩ := hrow wr hI.out.2
      rw [hlen] at fr hs
      have HLen := hide hlen
      have HRow := hide hrow
      rw [hlen] at HRow
      clear hrow hs hlen
      go_wp2
      go_loopw [19] (fun jv wq => ∃ (j : Nat), j ≤ m ∧ jv = .int .i64 (j : Int) ∧ Hid ((∀ a q, a < n → q < m → T.met i j a q → lastM ps a q = T.ent t a q) ∧ Chg [] w wq)) (fun jv _ => m - (intOf jv).toNat)
      case atStart => exact ⟨0, Nat.zero_le _, rfl, hide ⟨hI.out.1, hI.out.2⟩⟩
      case round =>
        obtain ⟨j, hj, rfl, hJ⟩ := hrel
        by_cases hlj : j < m
        · have d2 : decide ((j : Int) < (m : Int)) = true := by simpa using hlj
          obtain ⟨_, hs⟩ := HRow.out wr hJ.out.2
          have hrn : t.getD i [] ≠ [] := by intro h; have := HLen.out; rw [h] at this; simp at this; omega
          obtain ⟨a2, cap2, e2, hx⟩ := hs.open hrn
          rw [HLen.out] at e2
          cases e2
          have fx0 := hx wr (Chg.refl _ _) j (by rw [HLen.out]; exact hlj)
          obtain ⟨z, hz⟩ : ∃ z, z = T.ent t i j := ⟨_, rfl⟩
          have fx : wr.cell? (a2.add j) = some (.int .i64 z) := by rw [hz]; exact fx0
          clear fx0
          have HZ := hide hz
          have HCall := hide (HRn.out wr hJ.out.2 i j (by omega) (by omega))
          obtain ⟨p1, p2⟩ := HPos.out i j
          clear hs hrn hx hz
          go_wp2_with fail
          refine HCall.out.mono ?_
          rintro e w3 ⟨v3, rfl, hI3, hw3⟩
          obtain ⟨g, cap3, rfl, hg, fl⟩ := ints_last hI3 p1
          have C3 : Hid (Chg [] w w3) := hide (hJ.out.2.trans hw3)
          obtain ⟨y, hy⟩ : ∃ y, y = lastM ps i j := ⟨_, rfl⟩
          have fl : w3.cell? ⟨g, (runM ps i j).length - 1, none⟩ = some (.int .i64 y) := by rw [hy]; exact fl
          have HY := hide hy
          obtain ⟨K, hK⟩ : ∃ K, (runM ps i j).length = K + 1 := ⟨(runM ps i j).length - 1, by omega⟩
          rw [hK] at fl p1 p2 ⊢
          rw [Nat.add_sub_cancel] at fl
          have hK1 : ((K + 1 : Nat) : Int) - 1 = (K : Int) := by omega
          have hw : IntKind.i64.wrap (((K + 1 : Nat) : Int) - 1) = (K : Int) := by rw [hK1]; exact wraps_i64 _ (by omega) (by omega)
          have i1 : (0 : Int) ≤ (K : Int) := by omega
          have i2 : (K : Int) < ((K + 1 : Nat) : Int) := by omega
          clear hw3 hI3 hy hK hK1
          by_cases hyz : y = z
          · have d4 : (y != z) = false := by simp [hyz]
            have HE := hide hyz
            clear hyz
            go_wp2
            go_roundw
            case rel => exact ⟨j + 1, by omega, by go_num, hide ⟨fun a q ha hq hm => by
              by_cases he : a = i ∧ q = j
              · obtain ⟨rfl, rfl⟩ := he
                rw [← HY.out, ← HZ.out]; exact HE.out
              · exact hJ.out.1 a q ha hq (by unfold T.met at hm ⊢; omega), C3.out⟩⟩
            case measure => simp [intOf]; omega
          · have d4 : (y != z) = true := by simpa using hyz
            have E : Hid (R = false) := hide (by
              cases R with
              | false => rfl
              | true => exact absurd (HIf.out.1 rfl i j hlt hlj) (by rw [← HY.out, ← HZ.out]; exact hyz))
            clear hyz
            go_wp2
            go_ret
            exact ⟨by rw [E.out]; rfl, C3.out⟩
        · have d2 : decide ((j : Int) < (m : Int)) = false := by simpa using hlj
          obtain rfl : j = m := by omega
          go_wp2
          go_roundw
          case rel => exact ⟨i + 1, by omega, by go_num, hide ⟨fun a q ha hq hm => hJ.out.1 a q ha hq (by unfold T.met at hm ⊢; omega), hJ.out.2⟩⟩
          case measure => simp [intOf]; omega
    · have d1 : decide ((i : Int) < (n : Int)) = false := by simpa using hlt
      obtain rfl : i = n := by omega
      have E : Hid (R = true) := hide (HIf.out.2 (fun a q ha hq => hI.out.1 a q ha hq (by unfold T.met; omega)))
      go_wp2
      go_ret
      exact ⟨by rw [E.out]; rfl, hI.out.2⟩
end Go.Proofs.Ytaapamoglgpocaa
