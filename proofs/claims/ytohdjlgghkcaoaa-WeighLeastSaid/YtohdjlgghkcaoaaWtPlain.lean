/- Plain: what weights weigh. -/
import Derived.Test.YtohdjlgghkcaoaaFindsPlain
namespace Go.Proofs.Ytohdjlgghkcaoaa.W

/-- Reached by these weights, the last one first. -/
def reachR : List Int → Int → Bool
  | [], n => n == 0
  | x :: xs, n => reachR xs n || reachR xs (n - x) || reachR xs (n + x)
def sumR : List Int → Int
  | [] => 0
  | x :: xs => sumR xs + x
def rc (xs : List Int) (n : Int) : Bool := reachR xs.reverse n
def total (xs : List Int) : Int := sumR xs.reverse
theorem rc_nil (n : Int) : rc [] n = (n == 0) := rfl
theorem rc_snoc (xs : List Int) (x n : Int) : rc (xs ++ [x]) n = (rc xs n || rc xs (n - x) || rc xs (n + x)) := by unfold rc; rw [List.reverse_append]; rfl
theorem total_nil : total [] = 0 := rfl
theorem total_snoc (xs : List Int) (x : Int) : total (xs ++ [x]) = total xs + x := by unfold total; rw [List.reverse_append]; rfl
theorem reachR_neg : ∀ (xs : List Int) (n : Int), reachR xs (-n) = reachR xs n
  | [], n => by unfold reachR; rw [Bool.eq_iff_iff]; simp
  | x :: xs, n => by
    unfold reachR
    rw [reachR_neg xs n, show -n - x = -(n + x) by omega, show -n + x = -(n - x) by omega, reachR_neg xs, reachR_neg xs]
    generalize reachR xs n = a
    generalize reachR xs (n - x) = b
    generalize reachR xs (n + x) = c
    cases a <;> cases b <;> cases c <;> rfl
theorem rc_neg (xs : List Int) (n : Int) : rc xs (-n) = rc xs n := reachR_neg _ _
theorem sumR_le : ∀ (xs : List Int) (m : Int), (∀ x ∈ xs, 0 ≤ x ∧ x ≤ m) → 0 ≤ sumR xs ∧ sumR xs ≤ xs.length * m
  | [], m, _ => by simp [sumR]
  | x :: xs, m, h => by
    have h1 := sumR_le xs m (fun y hy => h y (List.mem_cons_of_mem _ hy))
    have h2 := h x (List.mem_cons_self ..)
    unfold sumR
    rw [List.length_cons, show ((xs.length + 1 : Nat) : Int) = (xs.length : Int) + 1 by omega, Int.add_mul]
    omega
theorem total_le {xs : List Int} {m : Int} (h : ∀ x ∈ xs, 0 ≤ x ∧ x ≤ m) : 0 ≤ total xs ∧ total xs ≤ xs.length * m := by
  have := sumR_le xs.reverse m (fun x hx => h x (List.mem_reverse.1 hx))
  rwa [List.length_reverse] at this
theorem reachR_le : ∀ (xs : List Int) (n : Int), (∀ x ∈ xs, 0 ≤ x) → reachR xs n = true → n ≤ sumR xs
  | [], n, _, h => by unfold reachR at h; rw [beq_iff_eq] at h; unfold sumR; omega
  | x :: xs, n, hx, h => by
    have h0 := hx x (List.mem_cons_self ..)
    have hs : ∀ y ∈ xs, 0 ≤ y := fun y hy => hx y (List.mem_cons_of_mem _ hy)
    unfold reachR at h
    unfold sumR
    rw [Bool.or_eq_true, Bool.or_eq_true] at h
    rcases h with (h | h) | h
    · have := reachR_le xs _ hs h; omega
    · have := reachR_le xs _ hs h; omega
    · have := reachR_le xs _ hs h; omega
theorem rc_le {xs : List Int} {n : Int} (h0 : ∀ x ∈ xs, 0 ≤ x) (h : rc xs n = true) : -total xs ≤ n ∧ n ≤ total xs := by
  have h1 := reachR_le xs.reverse n (fun x hx => h0 x (List.mem_reverse.1 hx)) h
  rw [← rc_neg] at h
  have h2 := reachR_le xs.reverse (-n) (fun x hx => h0 x (List.mem_reverse.1 hx)) h
  unfold total
  omega

/-! Up to which number. -/
def farF (xs : List Int) : Nat → Nat → Nat
  | 0, n => n
  | f + 1, n => if rc xs ((n : Int) + 1) = true then farF xs f (n + 1) else n
def far (xs : List Int) : Nat := farF xs 1000 0
def IsFar (xs : List Int) (n : Nat) : Prop := (∀ m : Nat, 1 ≤ m → m ≤ n → rc xs m = true) ∧ rc xs ((n : Int) + 1) = false
theorem IsFar.unique {xs : List Int} {n m : Nat} (h : IsFar xs n) (k : IsFar xs m) : n = m := by
  rcases Nat.lt_trichotomy n m with hl | he | hl
  · have := k.1 (n + 1) (by omega) (by omega)
    rw [show ((n + 1 : Nat) : Int) = (n : Int) + 1 by omega, h.2] at this; cases this
  · exact he
  · have := h.1 (m + 1) (by omega) (by omega)
    rw [show ((m + 1 : Nat) : Int) = (m : Int) + 1 by omega, k.2] at this; cases this
theorem farF_is (xs : List Int) : ∀ (f n : Nat), (∀ m : Nat, 1 ≤ m → m ≤ n → rc xs m = true) → rc xs ((n : Int) + f + 1) = false → IsFar xs (farF xs f n)
  | 0, n, h, h1 => ⟨h, by unfold farF; simpa using h1⟩
  | f + 1, n, h, h1 => by
    unfold farF
    split
    · rename_i hc
      refine farF_is xs f (n + 1) (fun m hm1 hm2 => ?_) ?_
      · rcases (show m ≤ n ∨ m = n + 1 by omega) with hm | rfl
        · exact h m hm1 hm
        · rw [show ((n + 1 : Nat) : Int) = (n : Int) + 1 by omega]; exact hc
      · rw [show ((n + 1 : Nat) : Int) + (f : Int) + 1 = (n : Int) + ((f + 1 : Nat) : Int) + 1 by omega]; exact h1
    · rename_i hc
      exact ⟨h, by simpa using hc⟩
theorem far_is {xs : List Int} (h0 : ∀ x ∈ xs, 0 ≤ x) (h : total xs ≤ 1000) : IsFar xs (far xs) := by
  refine farF_is xs 1000 0 (fun m h1 h2 => by omega) ?_
  rw [Bool.eq_false_iff]
  intro hc
  have := rc_le h0 hc
  omega
theorem IsFar.le_total {xs : List Int} {n : Nat} (h : IsFar xs n) (h0 : ∀ x ∈ xs, 0 ≤ x) (ht : 0 ≤ total xs) : (n : Int) ≤ total xs := by
  by_cases hn : 1 ≤ n
  · exact (rc_le h0 (h.1 n hn (Nat.le_refl _))).2
  · omega

/-! How many numbers. -/
def vals : List Int → List Int
  | [] => [0]
  | x :: xs => vals xs ++ (vals xs).map (· + x) ++ (vals xs).map (· - x)
theorem vals_len : ∀ xs : List Int, (vals xs).length = 3 ^ xs.length
  | [] => rfl
  | x :: xs => by
    unfold vals
    simp only [List.length_append, List.length_map, vals_len xs, List.length_cons, Nat.pow_succ]
    omega
theorem mem_vals : ∀ (xs : List Int) (n : Int), reachR xs n = true → n ∈ vals xs
  | [], n, h => by unfold reachR at h; rw [beq_iff_eq] at h; subst h; exact List.mem_singleton.2 rfl
  | x :: xs, n, h => by
    unfold reachR at h
    unfold vals
    rw [Bool.or_eq_true, Bool.or_eq_true] at h
    rw [List.mem_append, List.mem_append, List.mem_map, List.mem_map]
    rcases h with (h | h) | h
    · exact .inl (.inl (mem_vals xs _ h))
    · exact .inl (.inr ⟨n - x, mem_vals xs _ h, by omega⟩)
    · exact .inr ⟨n + x, mem_vals xs _ h, by omega⟩
theorem len_le_of_mem {α : Type} [DecidableEq α] : ∀ (l r : List α), l.Nodup → (∀ x ∈ l, x ∈ r) → l.length ≤ r.length
  | [], _, _, _ => Nat.zero_le _
  | x :: l, r, hn, hs => by
    have hx := hs x (List.mem_cons_self ..)
    rw [List.nodup_cons] at hn
    have := len_le_of_mem l (r.erase x) hn.2 (fun y hy => (List.mem_erase_of_ne (fun e => hn.1 (by rw [← e]; exact hy))).2 (hs y (List.mem_cons_of_mem _ hy)))
    rw [List.length_erase_of_mem hx] at this
    have := List.length_pos_of_mem hx
    rw [List.length_cons]
    omega
theorem nodup_map_inj {α β : Type} {f : α → β} : ∀ {l : List α}, l.Nodup → (∀ x ∈ l, ∀ y ∈ l, f x = f y → x = y) → (l.map f).Nodup
  | [], _, _ => List.nodup_nil
  | a :: l, hn, hf => by
    rw [List.nodup_cons] at hn
    rw [List.map_cons, List.nodup_cons]
    refine ⟨fun hm => ?_, nodup_map_inj hn.2 (fun x hx y hy => hf x (List.mem_cons_of_mem _ hx) y (List.mem_cons_of_mem _ hy))⟩
    obtain ⟨y, hy, he⟩ := List.mem_map.1 hm
    have := hf y (List.mem_cons_of_mem _ hy) a (List.mem_cons_self ..) he
    exact hn.1 (this ▸ hy)
theorem far_pow {xs : List Int} {n : Nat} (h : IsFar xs n) (h0 : rc xs 0 = true) : 2 * n + 1 ≤ 3 ^ xs.length := by
  have h1 := len_le_of_mem ((List.range (2 * n + 1)).map (fun i : Nat => (i : Int) - (n : Int))) (vals xs.reverse)
    (nodup_map_inj List.nodup_range (fun x _ y _ he => by omega)) (fun x hx => by
      obtain ⟨i, hi, rfl⟩ := List.mem_map.1 hx
      have hi := List.mem_range.1 hi
      refine mem_vals _ _ (show rc xs ((i : Int) - (n : Int)) = true from ?_)
      rcases (show i < n ∨ i = n ∨ n < i by omega) with hl | rfl | hl
      · rw [← rc_neg, show -((i : Int) - (n : Int)) = ((n - i : Nat) : Int) by omega]
        exact h.1 _ (by omega) (by omega)
      · rw [Int.sub_self]; exact h0
      · rw [show (i : Int) - (n : Int) = ((i - n : Nat) : Int) by omega]
        exact h.1 _ (by omega) (by omega))
  rw [List.length_map, List.length_range, vals_len, List.length_reverse] at h1
  exact h1
theorem rc_zero : ∀ xs : List Int, rc xs 0 = true := by
  intro xs
  unfold rc
  induction xs.reverse with
  | nil => rfl
  | cons x xs ih => unfold reachR; rw [ih]; rfl

/-! Weights. -/
def isW (xs : List Int) (most : Int) : Bool := decide (1 ≤ xs.length) && decide (xs.length ≤ 5) && (List.range xs.length).all fun i => decide (1 ≤ xs.getD i 0) && decide (xs.getD i 0 ≤ most) && (decide (i = 0) || decide (xs.getD (i - 1) 0 < xs.getD i 0))
theorem isW_iff {xs : List Int} {most : Int} : isW xs most = true ↔ 1 ≤ xs.length ∧ xs.length ≤ 5 ∧ ∀ i, i < xs.length → 1 ≤ xs.getD i 0 ∧ xs.getD i 0 ≤ most ∧ (i = 0 ∨ xs.getD (i - 1) 0 < xs.getD i 0) := by
  unfold isW
  simp only [Bool.and_eq_true, decide_eq_true_eq, List.all_eq_true, List.mem_range, Bool.or_eq_true, and_assoc]
theorem isW_mem {xs : List Int} {most : Int} (h : isW xs most = true) : ∀ x ∈ xs, 1 ≤ x ∧ x ≤ most := by
  intro x hx
  obtain ⟨i, hi, he⟩ := List.getElem_of_mem hx
  have := (isW_iff.1 h).2.2 i hi
  rw [List.getD_eq_getElem?_getD, List.getElem?_eq_getElem hi] at this
  simp only [Option.getD_some, he] at this
  exact ⟨this.1, this.2.1⟩
theorem isW_far {xs : List Int} {most : Int} (hm : most ≤ 200) (h : isW xs most = true) : IsFar xs (far xs) := by
  have hx := isW_mem h
  have hl := (isW_iff.1 h).2.1
  refine far_is (fun x hx' => by have := hx x hx'; omega) ?_
  have := (total_le (m := 200) (fun x hx' => by have := hx x hx'; omega : ∀ x ∈ xs, 0 ≤ x ∧ x ≤ 200)).2
  omega
end Go.Proofs.Ytohdjlgghkcaoaa.W
