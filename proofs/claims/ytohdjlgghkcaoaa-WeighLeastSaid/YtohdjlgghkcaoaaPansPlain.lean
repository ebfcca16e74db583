/- Plain: the digits from -1 to 1 of a number. -/
import Derived.Test.YtohdjlgghkcaoaaBase
namespace Go.Proofs.Ytohdjlgghkcaoaa.W

/-- The digit. -/
def bal (n : Int) : Int := if (n.tmod 3 + 3).tmod 3 = 2 then -1 else (n.tmod 3 + 3).tmod 3
/-- What is left. -/
def bnx (n : Int) : Int := (n - bal n).tdiv 3
def digs : Nat → Int → List Int
  | 0, _ => []
  | f + 1, n => if n = 0 then [] else bal n :: digs f (bnx n)
def qf : Nat → Int
  | 0 => 0
  | f + 1 => 3 * qf f + 1
def val : List Int → Int
  | [] => 0
  | d :: ds => d + 3 * val ds

theorem tm3 (n : Int) : ∃ q r : Int, n = 3 * q + r ∧ n.tmod 3 = r ∧ -2 ≤ r ∧ r ≤ 2 ∧ (0 < r → 0 ≤ q) ∧ (r < 0 → q ≤ 0) ∧ n.tdiv 3 = q := by
  rcases Int.le_total 0 n with h | h
  · refine ⟨n.tdiv 3, n.tmod 3, ?_, rfl, ?_, ?_, ?_, ?_, rfl⟩ <;> rw [Int.tmod_eq_emod_of_nonneg h] <;> (try rw [Int.tdiv_eq_ediv_of_nonneg h]) <;> omega
  · obtain ⟨m, rfl⟩ : ∃ m, n = -m := ⟨-n, by omega⟩
    have hm : 0 ≤ m := by omega
    refine ⟨(-m).tdiv 3, (-m).tmod 3, ?_, rfl, ?_, ?_, ?_, ?_, rfl⟩ <;> rw [Int.neg_tmod, Int.tmod_eq_emod_of_nonneg hm] <;> (try rw [Int.neg_tdiv, Int.tdiv_eq_ediv_of_nonneg hm]) <;> omega
theorem tm3_pos {r : Int} (h : 0 ≤ r) : r.tmod 3 = r % 3 := Int.tmod_eq_emod_of_nonneg h
theorem td3 {n q : Int} (h : n = 3 * q) : n.tdiv 3 = q := by subst h; simp

theorem bal_spec (n : Int) : ∃ q : Int, n = 3 * q + bal n ∧ bnx n = q ∧ -1 ≤ bal n ∧ bal n ≤ 1 := by
  have key : ∃ q : Int, n = 3 * q + bal n ∧ -1 ≤ bal n ∧ bal n ≤ 1 := by
    obtain ⟨q, r, h1, h2, h3, h4, h5, h6, -⟩ := tm3 n
    unfold bal
    rw [h2, tm3_pos (by omega)]
    by_cases hc : (r + 3) % 3 = 2
    · rw [if_pos hc]; exact ⟨(n + 1) / 3, by omega, by omega, by omega⟩
    · rw [if_neg hc]; exact ⟨(n - (r + 3) % 3) / 3, by omega, by omega, by omega⟩
  obtain ⟨q, h1, h2, h3⟩ := key
  exact ⟨q, h1, td3 (by omega), h2, h3⟩
theorem bal_uniq {n q d : Int} (h : n = 3 * q + d) (h1 : -1 ≤ d) (h2 : d ≤ 1) : bal n = d ∧ bnx n = q := by
  obtain ⟨q', e1, e2, e3, e4⟩ := bal_spec n
  have : bal n = d := by omega
  exact ⟨this, by omega⟩
theorem bal_neg (n : Int) : bal (-n) = -bal n ∧ bnx (-n) = -bnx n := by
  obtain ⟨q, e1, e2, e3, e4⟩ := bal_spec n
  rw [e2]
  exact bal_uniq (by omega) (by omega) (by omega)
theorem digs_neg : ∀ (f : Nat) (n : Int), digs f (-n) = (digs f n).map (fun x => -x)
  | 0, _ => rfl
  | f + 1, n => by
    simp only [digs]
    by_cases h : n = 0
    · simp [h]
    · rw [if_neg (by omega), if_neg h, (bal_neg n).1, (bal_neg n).2, digs_neg f]
      rfl
theorem bnx_le {f : Nat} {n : Int} (h1 : n ≤ qf (f + 1)) (h2 : -qf (f + 1) ≤ n) : bnx n ≤ qf f ∧ -qf f ≤ bnx n := by
  obtain ⟨q, e1, e2, e3, e4⟩ := bal_spec n
  simp only [qf] at h1 h2
  rw [e2]
  omega
theorem digs_val : ∀ (f : Nat) (n : Int), n ≤ qf f → -qf f ≤ n → val (digs f n) = n
  | 0, n, h1, h2 => by simp only [qf] at h1 h2; simp only [digs, val]; omega
  | f + 1, n, h1, h2 => by
    simp only [digs]
    by_cases h : n = 0
    · rw [if_pos h, h]; rfl
    · rw [if_neg h]
      obtain ⟨q, e1, e2, e3, e4⟩ := bal_spec n
      obtain ⟨b1, b2⟩ := bnx_le h1 h2
      simp only [val]
      rw [digs_val f _ b1 b2, e2]
      omega
theorem digs_len : ∀ (f : Nat) (n : Int), (digs f n).length ≤ f
  | 0, _ => Nat.le_refl _
  | f + 1, n => by
    simp only [digs]
    split
    · simp
    · have := digs_len f (bnx n); simp only [List.length_cons]; omega
theorem digs_small : ∀ (f : Nat) (n : Int), ∀ x ∈ digs f n, -1 ≤ x ∧ x ≤ 1
  | 0, _, _, h => by simp [digs] at h
  | f + 1, n, x, h => by
    simp only [digs] at h
    split at h
    · simp at h
    · rcases List.mem_cons.1 h with rfl | h
      · obtain ⟨q, e1, e2, e3, e4⟩ := bal_spec n; exact ⟨e3, e4⟩
      · exact digs_small f _ x h
theorem digs_cons {f : Nat} {n : Int} (h1 : n ≤ qf f) (h2 : -qf f ≤ n) (h : n ≠ 0) : ∃ g, f = g + 1 ∧ digs f n = bal n :: digs g (bnx n) ∧ bnx n ≤ qf g ∧ -qf g ≤ bnx n := by
  cases f with
  | zero => simp only [qf] at h1 h2; omega
  | succ g => exact ⟨g, rfl, by simp only [digs]; rw [if_neg h], bnx_le h1 h2⟩
theorem digs_zero (f : Nat) : digs f 0 = [] := by cases f <;> rfl
theorem tm3_le (n : Int) : -2 ≤ n.tmod 3 ∧ n.tmod 3 ≤ 2 := by obtain ⟨q, r, h1, h2, h3, h4, -⟩ := tm3 n; omega
theorem rbal (n : Int) : (n.tmod 3 + 4).tmod 3 = bal n + 1 := by
  obtain ⟨q, r, h1, h2, h3, h4, h5, h6, -⟩ := tm3 n
  obtain ⟨q', e1, e2, e3, e4⟩ := bal_spec n
  rw [h2, tm3_pos (by omega)]
  omega
theorem qf7 : qf 7 = 1093 := rfl
theorem qf_le : ∀ {f : Nat}, f ≤ 7 → qf f ≤ 1093
  | 0, _ | 1, _ | 2, _ | 3, _ | 4, _ | 5, _ | 6, _ | 7, _ => by decide
  | n + 8, h => by omega
end Go.Proofs.Ytohdjlgghkcaoaa.W
