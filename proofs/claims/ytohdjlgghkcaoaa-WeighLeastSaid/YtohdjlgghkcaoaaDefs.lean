/- What the small functions of the weighing compute, over integers. No program in sight. -/
import Derived.Test.YtohdjlgghkcaoaaPlain2
namespace Go.Proofs.Ytohdjlgghkcaoaa
/-- min, max as Go takes them. -/
def imin (x y : Int) : Int := if y < x then y else x
def imax (x y : Int) : Int := if x < y then y else x
namespace W

def possI (b h l : Int) (n : Bool) : Int := 2 * b + h + l + (if n then 1 else 0)
def vld (b h l g : Int) (n : Bool) : Bool := decide (0 ≤ b ∧ b ≤ 13 ∧ 0 ≤ h ∧ h ≤ 13 ∧ 0 ≤ l ∧ l ≤ 13 ∧ 0 ≤ g ∧ g ≤ 13 ∧ b + h + l ≤ 13 ∧ 1 ≤ possI b h l n)
def cnt (x : Int) : Bool := decide (0 ≤ x ∧ x ≤ 13)
theorem cnt_iff {x : Int} : cnt x = true ↔ 0 ≤ x ∧ x ≤ 13 := by simp [cnt]
theorem cnt_not {x : Int} : cnt x = false ↔ ¬ (0 ≤ x ∧ x ≤ 13) := by rw [← cnt_iff, Bool.not_eq_true]
theorem cnt_lo {x : Int} (h : cnt x = true) : 0 ≤ x := (cnt_iff.1 h).1
theorem cnt_hi {x : Int} (h : cnt x = true) : x ≤ 13 := (cnt_iff.1 h).2
/-- So many coins of a sort can be on the pans. -/
def fitI (a b n : Int) : Bool := decide (0 ≤ a ∧ 0 ≤ b ∧ a + b ≤ n)
def isLd (b h l g b0 b1 h0 h1 l0 l1 g0 g1 : Int) : Bool :=
  fitI b0 b1 b && fitI h0 h1 h && fitI l0 l1 l && fitI g0 g1 g && decide (b0 + h0 + l0 + g0 = b1 + h1 + l1 + g1) && decide (1 ≤ b0 + h0 + l0 + g0)

theorem possI_true (b h l : Int) : possI b h l true = 2 * b + h + l + 1 := by simp [possI]
theorem possI_false (b h l : Int) : possI b h l false = 2 * b + h + l := by simp [possI]

theorem vld_iff {b h l g : Int} {n : Bool} : vld b h l g n = true ↔ 0 ≤ b ∧ b ≤ 13 ∧ 0 ≤ h ∧ h ≤ 13 ∧ 0 ≤ l ∧ l ≤ 13 ∧ 0 ≤ g ∧ g ≤ 13 ∧ b + h + l ≤ 13 ∧ 1 ≤ possI b h l n := by simp [vld]
theorem fitI_iff {a b n : Int} : fitI a b n = true ↔ 0 ≤ a ∧ 0 ≤ b ∧ a + b ≤ n := by simp [fitI]
theorem isLd_iff {b h l g b0 b1 h0 h1 l0 l1 g0 g1 : Int} : isLd b h l g b0 b1 h0 h1 l0 l1 g0 g1 = true ↔
    (0 ≤ b0 ∧ 0 ≤ b1 ∧ b0 + b1 ≤ b) ∧ (0 ≤ h0 ∧ 0 ≤ h1 ∧ h0 + h1 ≤ h) ∧ (0 ≤ l0 ∧ 0 ≤ l1 ∧ l0 + l1 ≤ l) ∧ (0 ≤ g0 ∧ 0 ≤ g1 ∧ g0 + g1 ≤ g) ∧
    b0 + h0 + l0 + g0 = b1 + h1 + l1 + g1 ∧ 1 ≤ b0 + h0 + l0 + g0 := by
  simp only [isLd, Bool.and_eq_true, fitI_iff, decide_eq_true_eq, and_assoc]

theorem fitI_not {a b n : Int} : fitI a b n = false ↔ ¬ (0 ≤ a ∧ 0 ≤ b ∧ a + b ≤ n) := by rw [← fitI_iff, Bool.not_eq_true]
theorem vld_false_of {b h l g : Int} {n : Bool} (hn : ¬ ((0 ≤ b ∧ b ≤ 13) ∧ (0 ≤ h ∧ h ≤ 13) ∧ (0 ≤ l ∧ l ≤ 13) ∧ (0 ≤ g ∧ g ≤ 13) ∧ b + h + l ≤ 13)) : vld b h l g n = false := by
  refine Bool.eq_false_iff.2 fun hv => hn ?_
  have := vld_iff.1 hv; omega
/-- How many coins are on a pan. -/
def panI (b0 b1 h0 h1 l0 l1 g0 g1 i : Int) : Int := if i = 0 then b0 + h0 + l0 + g0 else b1 + h1 + l1 + g1
theorem panI_zero (b0 b1 h0 h1 l0 l1 g0 g1 : Int) : panI b0 b1 h0 h1 l0 l1 g0 g1 0 = b0 + h0 + l0 + g0 := rfl
theorem panI_one (b0 b1 h0 h1 l0 l1 g0 g1 : Int) : panI b0 b1 h0 h1 l0 l1 g0 g1 1 = b1 + h1 + l1 + g1 := rfl
theorem bool_eq {a b : Bool} (h : a = true ↔ b = true) : a = b := Bool.eq_iff_iff.2 h

/-- What is known after a weighing, and its possibilities. -/
structure KI where
  b : Int
  h : Int
  l : Int
  g : Int
  n : Bool

def aftI (b h l g : Int) (n : Bool) (b0 b1 h0 h1 l0 l1 r : Int) : KI :=
  if r = 0 then ⟨b - b0 - b1, h - h0 - h1, l - l0 - l1, imin 13 (g + (b + h + l) - (b - b0 - b1) - (h - h0 - h1) - (l - l0 - l1)), n⟩
  else if r = -1 then ⟨0, b0 + h0, b1 + l1, imin 13 (g + (b + h + l) - (b0 + h0) - (b1 + l1)), false⟩
  else ⟨0, b1 + h1, b0 + l0, imin 13 (g + (b + h + l) - (b1 + h1) - (b0 + l0)), false⟩
def KI.poss (k : KI) : Int := possI k.b k.h k.l k.n

theorem isLd_fits {k : K} {x : L} {g0 g1 : Int} (e0 : g0 = (x.g0 : Int)) (e1 : g1 = (x.g1 : Int)) :
    isLd k.b k.h k.l k.g x.b0 x.b1 x.h0 x.h1 x.l0 x.l1 g0 g1 = fits k x := by
  subst e0; subst e1
  refine bool_eq ?_
  rw [isLd_iff, fits_iff]
  simp only [L.g0, L.g1, L.left, L.right]
  constructor
  · rintro ⟨⟨_, _, a⟩, ⟨_, _, b⟩, ⟨_, _, c⟩, ⟨_, _, d⟩, e, f⟩; omega
  · rintro ⟨a, b, c, d, e, f⟩; omega
theorem g0_eq {x : L} {s : Int} (h : s = (x.left : Int) - (x.right : Int)) : imax (-s) 0 = (x.g0 : Int) := by
  subst h; unfold imax L.g0; split <;> omega
theorem g1_eq {x : L} {s : Int} (h : s = (x.left : Int) - (x.right : Int)) : imax s 0 = (x.g1 : Int) := by
  subst h; unfold imax L.g1; split <;> omega

end W
end Go.Proofs.Ytohdjlgghkcaoaa
