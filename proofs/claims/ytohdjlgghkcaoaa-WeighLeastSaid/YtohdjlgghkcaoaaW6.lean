/- Walks: all pairs of numbers with a bounded sum, handed to a function until it has enough. -/
import Derived.Test.YtohdjlgghkcaoaaW5
namespace Go.Proofs.Ytohdjlgghkcaoaa
open Go.RowKit

/-- The call answers 'more' and leaves J, or 'enough' and leaves Z; of what was there only S has turned. -/
def Goes (S : List Nat) (w : World) (J Z : World → Prop) (e : Ending) (w' : World) : Prop :=
  Chg S w w' ∧ ((e = .returned (.bool true) ∧ J w') ∨ (e = .returned (.bool false) ∧ Z w'))

def rowP (n a : Nat) : List (Nat × Nat) := (List.range (n - a + 1)).map fun b => (a, b)
def upP (n a : Nat) : List (Nat × Nat) := (List.range a).flatMap (rowP n)
theorem upP_succ (n a : Nat) : upP n (a + 1) = upP n a ++ rowP n a := by simp [upP, List.range_succ]
theorem upP_all (n : Nat) : upP n (n + 1) = W.pairs n := rfl
def upTo (n a b : Nat) : List (Nat × Nat) := upP n a ++ (List.range b).map fun b => (a, b)
theorem upTo_zero (n a : Nat) : upTo n a 0 = upP n a := by simp [upTo]
theorem upTo_succ (n a b : Nat) : upTo n a (b + 1) = upTo n a b ++ [(a, b)] := by simp [upTo, List.range_succ]
theorem upTo_all (n a : Nat) : upTo n a (n - a + 1) = upP n (a + 1) := by rw [upP_succ]; rfl
theorem upTo_in {n a b : Nat} (ha : a ≤ n) (hb : b ≤ n - a) : ∃ rest, W.pairs n = upTo n a b ++ (a, b) :: rest := by
  have h1 : ∀ m, ∃ r, W.pairs n = upP n m ++ r ∨ n + 1 < m := by
    intro m
    by_cases hm : m ≤ n + 1
    · refine ⟨(List.range' m (n + 1 - m)).flatMap (rowP n), .inl ?_⟩
      rw [← upP_all, upP, upP, ← List.flatMap_append]
      congr 1
      rw [List.range_eq_range', List.range_eq_range', show n + 1 = m + (n + 1 - m) by omega, List.range'_append_1.symm]
      simp
    · exact ⟨[], .inr (by omega)⟩
  obtain ⟨r, h | h⟩ := h1 (a + 1)
  · have h2 : rowP n a = (List.range b).map (fun b => (a, b)) ++ (a, b) :: (List.range' (b + 1) (n - a - b)).map (fun b => (a, b)) := by
      have e : List.range (n - a + 1) = List.range b ++ b :: List.range' (b + 1) (n - a - b) := by
        rw [List.range_eq_range', List.range_eq_range', show n - a + 1 = b + (1 + (n - a - b)) by omega, List.range'_append_1.symm]
        simp [Nat.add_comm 1, List.range'_succ]
      rw [rowP, e, List.map_append, List.map_cons]
    refine ⟨(List.range' (b + 1) (n - a - b)).map (fun b => (a, b)) ++ r, ?_⟩
    rw [h, upP_succ, h2, upTo]
    simp
  · omega

set_option maxRecDepth 100000 in
set_option maxHeartbeats 1000000 in
theorem pairs_any (n : Nat) (hn : n ≤ 13) (f : FuncId) (cap : Array Value) (S : List Nat) (J : List (Nat × Nat) → World → Prop) (Z : World → Prop) (w : World)
    (hcall : ∀ args W, (callFunc f args).run Try.prog W = .ok (.enter f args) W)
    (hf : ∀ done p w1, (∃ rest, W.pairs n = done ++ p :: rest) → Chg S w w1 → J done w1 → Calls Try.prog f (#[.int .i64 (p.1 : Int), .int .i64 (p.2 : Int)] ++ cap) w1 (Goes S w1 (J (done ++ [p])) Z))
    (h0 : J [] w) : Calls Try.prog 88 #[.int .i64 (n : Int), .func (.func f) #[] cap] w (Goes S w (J (W.pairs n)) Z) := by
  have HF := hide hf
  have H0 := hide h0
  clear hf h0
  go_enter Try.func88, Try.ntmps88
  go_wp2
  go_loopw [9] (fun i wr => ∃ a : Nat, a ≤ n + 1 ∧ i = .int .i64 (a : Int) ∧ Hid (Chg S w wr ∧ J (upP n a) wr)) (fun i _ => n + 1 - (intOf i).toNat)
  case atStart => exact ⟨0, Nat.zero_le _, rfl, hide ⟨Chg.refl _ _, H0.out⟩⟩
  case round =>
    obtain ⟨a, ha, rfl, hI⟩ := hrel
    by_cases hlt : a < n + 1
    · have d1 : decide ((a : Int) < (n : Int) + 1) = true := by simp; omega
      go_wp2
      go_loopw [16] (fun i wr => ∃ b : Nat, b ≤ n - a + 1 ∧ i = .int .i64 (b : Int) ∧ Hid (Chg S w wr ∧ J (upTo n a b) wr)) (fun i _ => n - a + 1 - (intOf i).toNat)
      case atStart => exact ⟨0, Nat.zero_le _, rfl, by rw [upTo_zero]; exact hI⟩
      case round =>
        clear hI
        obtain ⟨b, hb, rfl, hI⟩ := hrel
        by_cases hlt2 : b < n - a + 1
        · have d2 : decide ((b : Int) < (n : Int) - (a : Int) + 1) = true := by simp; omega
          go_wp2_with fail
          refine (HF.out (upTo n a b) (a, b) wr (upTo_in (by omega) (by omega)) hI.out.1 hI.out.2).mono ?_
          rintro e w1 ⟨hchg, ⟨rfl, hJ⟩ | ⟨rfl, hZ⟩⟩
          · go_wp2
            go_roundw
            case rel => exact ⟨b + 1, by omega, by go_num, hide ⟨hI.out.1.trans hchg, by rw [upTo_succ]; exact hJ⟩⟩
            case measure => simp [intOf]; omega
          · go_wp2
            go_ret
            exact ⟨hI.out.1.trans hchg, .inr ⟨rfl, hZ⟩⟩
        · obtain rfl : b = n - a + 1 := by omega
          go_wp2
          go_roundw
          case rel => exact ⟨a + 1, by omega, by go_num, by rw [← upTo_all]; exact hI⟩
          case measure => simp [intOf]; omega
    · obtain rfl : a = n + 1 := by omega
      go_wp2
      go_ret
      exact ⟨hI.out.1, .inl ⟨rfl, by rw [← upP_all]; exact hI.out.2⟩⟩

end Go.Proofs.Ytohdjlgghkcaoaa
