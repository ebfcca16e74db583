/- Walk: the fewest weights, the reference's. -/
import Derived.Test.YtohdjlgghkcaoaaWt6
namespace Go.Proofs.Ytohdjlgghkcaoaa
open Go.RowKit Go.Maps

theorem few_all (n k : Nat) (hk1 : 1 ≤ k) (hk4 : k ≤ 4) : ∀ m, FewOk n k m
  | 0 => few_end n k hk1 hk4
  | m + 1 => few_more n k m hk4 (few_all n k hk1 hk4 m)
theorem few_nil {n : Nat} (h40 : n ≤ 40) (w : World) : Calls Try.prog 61 #[.int .i64 (n : Int), .int .i64 (W.sizeW n : Int), .slice none 0 0] w fun e w' => ∃ a len cap, e = .returned (.slice (some a) len cap) ∧ See w' (.slice (some a) len cap) (W.fewW n) ∧ Chg [] w w' := by
  have hs : 1 ≤ W.sizeW n ∧ W.sizeW n ≤ 4 := by unfold W.sizeW; split <;> (try split) <;> (try split) <;> omega
  refine (few_all n (W.sizeW n) hs.1 hs.2 (W.sizeW n) [] (.slice none 0 0) w (.inl ⟨rfl, none, 0, rfl⟩) (by simp) (fun i hi => by cases hi)).mono ?_
  rintro e w' ⟨u, rfl, hw, ⟨l, hl, hsl, a, len, cap, rfl⟩ | ⟨hn, _⟩⟩
  · rw [W.growW_some h40] at hl
    cases hl
    exact ⟨a, len, cap, rfl, hsl, hw⟩
  · rw [W.growW_some h40] at hn
    cases hn

set_option maxRecDepth 100000 in
set_option maxHeartbeats 1000000 in
theorem Fewest_any (n : Nat) (h40 : n ≤ 40) (w : World) : Calls Try.prog 37 #[.int .i64 (n : Int)] w fun e w' => ∃ a len cap, e = .returned (.slice (some a) len cap) ∧ See w' (.slice (some a) len cap) (W.fewW n) ∧ Chg [] w w' := by
  have HCall := hide (few_nil h40 w)
  have HS : Hid (W.sizeW n = if n ≤ 1 then 1 else if n ≤ 4 then 2 else if n ≤ 13 then 3 else 4) := hide rfl
  obtain ⟨K, hK⟩ : ∃ K, K = W.sizeW n := ⟨_, rfl⟩
  rw [← hK] at HCall HS
  clear hK
  go_enter Try.func37, Try.ntmps37
  go_wp2
  go_loop [3, 4] (fun pv kv => ∃ k p : Nat, kv = .int .i64 (k : Int) ∧ pv = .int .i64 (p : Int) ∧ Hid (k ≤ K ∧ ((k = 1 ∧ p = 3) ∨ (k = 2 ∧ p = 9) ∨ (k = 3 ∧ p = 27) ∨ (k = 4 ∧ p = 81)))) (fun _ kv => 5 - (intOf kv).toNat)
  case atStart => exact ⟨1, 3, rfl, rfl, hide ⟨by rw [HS.out]; split <;> (try split) <;> (try split) <;> omega, .inl ⟨rfl, rfl⟩⟩⟩
  case round =>
    obtain ⟨k, p, rfl, rfl, hI⟩ := hrel
    rcases hI.out.2 with ⟨rfl, rfl⟩ | ⟨rfl, rfl⟩ | ⟨rfl, rfl⟩ | ⟨rfl, rfl⟩
    · by_cases hle : n ≤ 1
      · have HK : Hid (K = 1) := hide (by
          have h2 := hI.out.1
          have e := HS.out
          by_cases a1 : n ≤ 1
          · rw [if_pos a1] at e; omega
          · rw [if_neg a1] at e
            by_cases a2 : n ≤ 4
            · rw [if_pos a2] at e; omega
            · rw [if_neg a2] at e
              by_cases a3 : n ≤ 13
              · rw [if_pos a3] at e; omega
              · rw [if_neg a3] at e; omega)
        rw [HK.out] at HCall
        have hd : decide ((n : Int) ≤ 1) = true := by simp; omega
        go_wp2_with fail
        refine HCall.out.mono ?_
        rintro e w1 ⟨a, len, cap, rfl, hsee, hw1⟩
        have HSe := hide hsee
        clear hsee
        go_wp2
        refine bodyPost_ret (v := .slice (some a) len cap) ?_ rfl ⟨_, _, _, rfl, HSe.out, hw1⟩
        simp [results, Try.results37, go_sem]
      · have hd : decide ((n : Int) ≤ 1) = false := by simp; omega
        have HN : Hid (2 ≤ K) := hide (by rw [HS.out]; split <;> (try split) <;> (try split) <;> omega)
        go_wp2
        go_round
        case rel => exact ⟨2, 9, rfl, rfl, hide ⟨HN.out, by simp⟩⟩
        case measure => simp [intOf]
    · by_cases hle : n ≤ 4
      · have HK : Hid (K = 2) := hide (by
          have h2 := hI.out.1
          have e := HS.out
          by_cases a1 : n ≤ 1
          · rw [if_pos a1] at e; omega
          · rw [if_neg a1] at e
            by_cases a2 : n ≤ 4
            · rw [if_pos a2] at e; omega
            · rw [if_neg a2] at e
              by_cases a3 : n ≤ 13
              · rw [if_pos a3] at e; omega
              · rw [if_neg a3] at e; omega)
        rw [HK.out] at HCall
        have hd : decide ((n : Int) ≤ 4) = true := by simp; omega
        go_wp2_with fail
        refine HCall.out.mono ?_
        rintro e w1 ⟨a, len, cap, rfl, hsee, hw1⟩
        have HSe := hide hsee
        clear hsee
        go_wp2
        refine bodyPost_ret (v := .slice (some a) len cap) ?_ rfl ⟨_, _, _, rfl, HSe.out, hw1⟩
        simp [results, Try.results37, go_sem]
      · have hd : decide ((n : Int) ≤ 4) = false := by simp; omega
        have HN : Hid (3 ≤ K) := hide (by rw [HS.out]; split <;> (try split) <;> (try split) <;> omega)
        go_wp2
        go_round
        case rel => exact ⟨3, 27, rfl, rfl, hide ⟨HN.out, by simp⟩⟩
        case measure => simp [intOf]
    · by_cases hle : n ≤ 13
      · have HK : Hid (K = 3) := hide (by
          have h2 := hI.out.1
          have e := HS.out
          by_cases a1 : n ≤ 1
          · rw [if_pos a1] at e; omega
          · rw [if_neg a1] at e
            by_cases a2 : n ≤ 4
            · rw [if_pos a2] at e; omega
            · rw [if_neg a2] at e
              by_cases a3 : n ≤ 13
              · rw [if_pos a3] at e; omega
              · rw [if_neg a3] at e; omega)
        rw [HK.out] at HCall
        have hd : decide ((n : Int) ≤ 13) = true := by simp; omega
        go_wp2_with fail
        refine HCall.out.mono ?_
        rintro e w1 ⟨a, len, cap, rfl, hsee, hw1⟩
        have HSe := hide hsee
        clear hsee
        go_wp2
        refine bodyPost_ret (v := .slice (some a) len cap) ?_ rfl ⟨_, _, _, rfl, HSe.out, hw1⟩
        simp [results, Try.results37, go_sem]
      · have hd : decide ((n : Int) ≤ 13) = false := by simp; omega
        have HN : Hid (4 ≤ K) := hide (by rw [HS.out]; split <;> (try split) <;> (try split) <;> omega)
        go_wp2
        go_round
        case rel => exact ⟨4, 81, rfl, rfl, hide ⟨HN.out, by simp⟩⟩
        case measure => simp [intOf]
    · by_cases hle : n ≤ 40
      · have HK : Hid (K = 4) := hide (by
          have h2 := hI.out.1
          have e := HS.out
          by_cases a1 : n ≤ 1
          · rw [if_pos a1] at e; omega
          · rw [if_neg a1] at e
            by_cases a2 : n ≤ 4
            · rw [if_pos a2] at e; omega
            · rw [if_neg a2] at e
              by_cases a3 : n ≤ 13
              · rw [if_pos a3] at e; omega
              · rw [if_neg a3] at e; omega)
        rw [HK.out] at HCall
        have hd : decide ((n : Int) ≤ 40) = true := by simp; omega
        go_wp2_with fail
        refine HCall.out.mono ?_
        rintro e w1 ⟨a, len, cap, rfl, hsee, hw1⟩
        have HSe := hide hsee
        clear hsee
        go_wp2
        refine bodyPost_ret (v := .slice (some a) len cap) ?_ rfl ⟨_, _, _, rfl, HSe.out, hw1⟩
        simp [results, Try.results37, go_sem]
      · omega
end Go.Proofs.Ytohdjlgghkcaoaa
