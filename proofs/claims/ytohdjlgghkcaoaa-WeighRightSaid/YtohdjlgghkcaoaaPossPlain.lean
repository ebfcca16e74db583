/- Plain: whether there is a right plan, as the reference searches. -/
import Derived.Test.YtohdjlgghkcaoaaPlanPlain2
namespace Go.Proofs.Ytohdjlgghkcaoaa.W

/-- A digit: 2 means -1. -/
def dgn (n : Nat) : Int := (((n % 3 + 1) % 3 : Nat) : Int) - 1
def dg (x i : Nat) : Int := dgn (x / 3 ^ i)
/-- Of the first i digits the first that is not 0. -/
def firstTo (x : Nat) : Nat → Int
  | 0 => 0
  | i + 1 => if firstTo x i = 0 then dg x i else firstTo x i
def nextS (k x : Nat) (s : Nat → Int) (sg : Int) (i : Nat) : Int := if i < k then s i + sg * dg x i else s i
def okS (c k x : Nat) (s : Nat → Int) (sg : Int) : Bool := (List.range k).all fun i => decide (nextS k x s sg i < (c : Int)) && decide (-(c : Int) < nextS k x s sg i)
def possM (k : Nat) : Nat → Nat → (Nat → Int) → Bool
  | 0, _, s => s 0 == 0 && s 1 == 0 && s 2 == 0
  | c + 1, i, s => (List.range' i (3 ^ k - i)).any fun x => decide (firstTo x k = 1) &&
      ((okS (c + 1) k x s (-1) && possM k c (x + 1) (nextS k x s (-1))) || (okS (c + 1) k x s 1 && possM k c (x + 1) (nextS k x s 1)))
theorem dgn_le (n : Nat) : -1 ≤ dgn n ∧ dgn n ≤ 1 := by unfold dgn; omega
theorem dgn_int (n : Nat) : ((n : Int).tmod 3 + 1).tmod 3 - 1 = dgn n ∧ (n : Int).tdiv 3 = ((n / 3 : Nat) : Int) := by
  have h1 : (n : Int).tmod 3 = ((n % 3 : Nat) : Int) := by rw [Int.tmod_eq_emod_of_nonneg (by omega)]; omega
  have h2 : (((n % 3 : Nat) : Int) + 1).tmod 3 = (((n % 3 + 1) % 3 : Nat) : Int) := by rw [Int.tmod_eq_emod_of_nonneg (by omega)]; omega
  refine ⟨by rw [h1, h2]; rfl, ?_⟩
  rw [Int.tdiv_eq_ediv_of_nonneg (by omega)]; omega
theorem firstTo_le (x : Nat) : ∀ i, -1 ≤ firstTo x i ∧ firstTo x i ≤ 1
  | 0 => by simp [firstTo]
  | i + 1 => by
    have := firstTo_le x i
    have := dgn_le (x / 3 ^ i)
    unfold firstTo dg
    split <;> omega

/-! Thirteen coins cannot be weighed thrice. -/
def cntV (i : Nat) : Nat := ((List.range' i (27 - i)).filter fun x => decide (firstTo x 3 = 1)).length
def parV (i : Nat) : Nat := ((List.range' i (27 - i)).filter fun x => decide (firstTo x 3 = 1) && decide (dg x 0 ≠ 0)).length
theorem stepV : (List.range 28).all (fun i => (List.range 27).all fun x => !(decide (i ≤ x) && decide (firstTo x 3 = 1)) ||
    (decide (cntV (x + 1) + 1 ≤ cntV i) && (!decide (cntV (x + 1) + 1 = cntV i) || decide ((parV i : Int) % 2 = (parV (x + 1) + dg x 0) % 2 ∧ (parV i : Int) % 2 = (parV (x + 1) - dg x 0) % 2)))) = true := by decide +kernel
theorem stepV' {i x : Nat} (hi : i ≤ x) (hx : x < 27) (hf : firstTo x 3 = 1) : cntV (x + 1) + 1 ≤ cntV i ∧ (cntV (x + 1) + 1 = cntV i → (parV i : Int) % 2 = (parV (x + 1) + dg x 0) % 2 ∧ (parV i : Int) % 2 = (parV (x + 1) - dg x 0) % 2) := by
  have h := List.all_eq_true.1 (List.all_eq_true.1 stepV i (List.mem_range.2 (by omega))) x (List.mem_range.2 hx)
  rw [decide_eq_true hi, decide_eq_true hf] at h
  simp only [Bool.and_self, Bool.not_true, Bool.false_or, Bool.and_eq_true, decide_eq_true_eq, Bool.or_eq_true, Bool.not_eq_true', decide_eq_false_iff_not] at h
  exact ⟨h.1, fun he => h.2.resolve_left (fun hn => hn he)⟩
theorem poss_few : ∀ (c i : Nat) (s : Nat → Int), possM 3 c i s = true → c ≤ cntV i ∧ (c = cntV i → s 0 % 2 = (parV i : Int) % 2)
  | 0, i, s, h => by
    refine ⟨Nat.zero_le _, fun h0 => ?_⟩
    have hp : parV i = 0 := by
      unfold cntV at h0
      unfold parV
      have h1 : (List.range' i (27 - i)).filter (fun x => decide (firstTo x 3 = 1)) = [] := List.length_eq_zero_iff.1 h0.symm
      rw [← List.filter_filter] 
      rw [List.length_eq_zero_iff]
      rw [List.filter_eq_nil_iff] at h1 ⊢
      intro x hx
      rw [List.mem_filter] at hx
      have := h1 x hx.1
      simpa using this
    unfold possM at h
    simp only [Bool.and_eq_true, beq_iff_eq] at h
    rw [h.1.1, hp]; rfl
  | c + 1, i, s, h => by
    unfold possM at h
    obtain ⟨x, hx, hh⟩ := List.any_eq_true.1 h
    obtain ⟨hx1, hx2⟩ := List.mem_range'_1.1 hx
    have hx27 : x < 27 := by simp at hx2; omega
    simp only [Bool.and_eq_true, decide_eq_true_eq, Bool.or_eq_true] at hh
    obtain ⟨hf, hh⟩ := hh
    obtain ⟨s1, s2⟩ := stepV' hx1 hx27 hf
    rcases hh with ⟨_, h1⟩ | ⟨_, h1⟩
    · obtain ⟨e1, e2⟩ := poss_few c (x + 1) _ h1
      refine ⟨by omega, fun he => ?_⟩
      have e3 := e2 (by omega)
      have e4 := s2 (by omega)
      have e5 : nextS 3 x s (-1) 0 = s 0 + -1 * dg x 0 := rfl
      rw [e5] at e3
      omega
    · obtain ⟨e1, e2⟩ := poss_few c (x + 1) _ h1
      refine ⟨by omega, fun he => ?_⟩
      have e3 := e2 (by omega)
      have e4 := s2 (by omega)
      have e5 : nextS 3 x s 1 0 = s 0 + 1 * dg x 0 := rfl
      rw [e5] at e3
      omega
theorem poss13 : possM 3 13 1 (fun _ => 0) = false := by
  rw [Bool.eq_false_iff]
  intro h
  have := (poss_few 13 1 _ h).2 (by decide +kernel)
  exact absurd this (by decide +kernel)
def checkQ (coins k : Nat) : Bool := possM k coins 1 (fun _ => 0) == decide (3 ≤ coins ∧ coins ≤ most k)
theorem checkq1 : (List.range 13).all (fun c => checkQ (c + 1) 1) = true := by decide +kernel
theorem checkq2 : (List.range 13).all (fun c => checkQ (c + 1) 2) = true := by decide +kernel
end Go.Proofs.Ytohdjlgghkcaoaa.W
