/- Plain: elimination row by row finds the rank. -/
import Derived.Test.YtaapamoglgpocaaRkPlain
namespace Go.Proofs.Ytaapamoglgpocaa

/-- Two rows change their places. -/
def swapM (M : Nat → Nat → Int) (a b : Nat) : Nat → Nat → Int := fun i => if i = a then M b else if i = b then M a else M i
/-- What cross makes of the rows after one. -/
def elimM (X : Int → Int → Int → Int → Int) (M : Nat → Nat → Int) (o j : Nat) : Nat → Nat → Int :=
  fun i c => if o < i then X (M i c) (M i j) (M o c) (M o j) else M i c
/-- The first row from i on that is not zero in column j, among so many. -/
def pv (M : Nat → Nat → Int) (j : Nat) : Nat → Nat → Nat
  | 0, i => i
  | f + 1, i => if M i j ≠ 0 then i else pv M j f (i + 1)
/-- The elimination, from column j on. -/
def rkGo (X : Int → Int → Int → Int → Int) (m : Nat) : Nat → Nat → Nat → (Nat → Nat → Int) → Nat
  | 0, _, o, _ => o
  | f + 1, j, o, M =>
    if pv M j (m - o) o < m then
      if o + 1 = m then o + 1 else rkGo X m f (j + 1) (o + 1) (elimM X (swapM M o (pv M j (m - o) o)) o j)
    else rkGo X m f (j + 1) o M

theorem pv_ge (M : Nat → Nat → Int) (j : Nat) : ∀ f i, i ≤ pv M j f i ∧ pv M j f i ≤ i + f
  | 0, i => ⟨Nat.le_refl i, Nat.le_refl _⟩
  | f + 1, i => by
    have := pv_ge M j f (i + 1)
    rw [pv]; split <;> omega
theorem pv_at (M : Nat → Nat → Int) (j : Nat) : ∀ f i, pv M j f i < i + f → M (pv M j f i) j ≠ 0
  | 0, i, h => by simp only [pv] at h; omega
  | f + 1, i, h => by
    rw [pv] at h ⊢
    split
    · assumption
    · rename_i h0
      rw [if_neg h0] at h
      exact pv_at M j f (i + 1) (by omega)
theorem pv_before (M : Nat → Nat → Int) (j : Nat) : ∀ f i a, i ≤ a → a < pv M j f i → M a j = 0
  | 0, i, a, h, h2 => by simp only [pv] at h2; omega
  | f + 1, i, a, h, h2 => by
    rw [pv] at h2
    split at h2
    · omega
    · rename_i h0
      rcases Nat.lt_or_ge i a with ha | ha
      · exact pv_before M j f (i + 1) a ha h2
      · have : a = i := by omega
        subst this
        exact Classical.byContradiction h0

/-- The rows of a table. -/
def rowsOf (m : Nat) (M : Nat → Nat → Int) (x : Nat → Int) : Prop := ∃ i, i < m ∧ x = M i

theorem rkGo_rank {p : Int} {n m : Nat} {X : Int → Int → Int → Int → Int} {ok : Nat → Int → Prop} {V : (Nat → Int) → Prop}
    (hp : Prim p) (h1 : ¬ p ∣ 1) (hm : m ≤ 4)
    (hX : ∀ s a b c d, s ≤ 2 → ok s a → ok s b → ok s c → ok s d → ok (s + 1) (X a b c d) ∧ p ∣ X a b c d - (a * d - b * c))
    (h0 : ∀ s x, ok s x → p ∣ x → x = 0) :
    ∀ (f j o : Nat) (M : Nat → Nat → Int), j + f = n → o < m →
      (∀ i, o ≤ i → i < m → ∀ c, c < n → ok o (M i c)) →
      (∀ x, V x → Spn p n (rowsOf m M) x) → (∀ i, i < m → Spn p n V (M i)) →
      (∃ C, Ech p ((List.range o).map M) C ∧ C.Sublist (List.range j)) →
      (∀ i, o ≤ i → i < m → ∀ c, c < j → p ∣ M i c) → IsRk p n V (rkGo X m f j o M)
  | 0, j, o, M, hj, ho, _, hV, hM, ⟨C, hE, hC⟩, hz => by
    have e := hE.rank (V := V) hp h1 (n := n) (by have : j = n := by omega
                                                  rw [← this]; exact hC)
      (fun x hx => (hV x hx).trans fun y ⟨i, hi, hy⟩ => by
        subst hy
        rcases Nat.lt_or_ge i o with h | h
        · exact .base (List.mem_map.2 ⟨i, List.mem_range.2 h, rfl⟩)
        · exact .zero fun c hc => hz i h hi c (by omega))
      (fun x hx => by
        obtain ⟨i, hi, rfl⟩ := List.mem_map.1 hx
        exact hM i (by have := List.mem_range.1 hi; omega))
    simpa [rkGo] using e
  | f + 1, j, o, M, hj, ho, hok, hV, hM, ⟨C, hE, hC⟩, hz => by
    rw [rkGo]
    have hge := pv_ge M j (m - o) o
    have hbe := pv_before M j (m - o) o
    have hat := pv_at M j (m - o) o
    generalize pv M j (m - o) o = i0 at hge hbe hat ⊢
    by_cases hi : i0 < m
    · rw [if_pos hi]
      have hi0 : M i0 j ≠ 0 := hat (by omega)
      have hd : ¬ p ∣ M i0 j := fun hd => hi0 (h0 o _ (hok i0 (by omega) hi j (by omega)) hd)
      have es : ∀ i, i < o → swapM M o i0 i = M i := fun i h => by
        simp only [swapM]; rw [if_neg (by omega), if_neg (by omega)]
      have eo : swapM M o i0 o = M i0 := by simp [swapM]
      have hex : ∀ i, o ≤ i → i < m → ∃ k, o ≤ k ∧ k < m ∧ swapM M o i0 i = M k := fun i h h2 => by
        simp only [swapM]
        split
        · exact ⟨i0, by omega, hi, rfl⟩
        · split
          · exact ⟨o, by omega, ho, rfl⟩
          · exact ⟨i, h, h2, rfl⟩
      have hxe : ∀ k, k < m → ∃ i, i < m ∧ M k = swapM M o i0 i := fun k hk => by
        by_cases hk1 : k = o
        · refine ⟨i0, hi, ?_⟩
          simp only [swapM]
          split
          · rename_i h; rw [hk1, h]
          · rw [hk1]; simp
        · by_cases hk2 : k = i0
          · exact ⟨o, ho, by rw [eo, hk2]⟩
          · exact ⟨k, hk, by simp only [swapM]; rw [if_neg hk1, if_neg hk2]⟩
      have hE' : Ech p ((List.range (o + 1)).map (swapM M o i0)) (C ++ [j]) := by
        rw [List.range_succ, List.map_append, List.map_cons, List.map_nil, eo]
        have e1 : (List.range o).map (swapM M o i0) = (List.range o).map M :=
          List.map_congr_left fun i hi => es i (List.mem_range.1 hi)
        rw [e1]
        exact hE.snoc hd fun d hd => hz i0 (by omega) hi d (sub_lt hC d hd)
      have hC' : (C ++ [j]).Sublist (List.range (j + 1)) := by
        rw [List.range_succ]
        exact hC.append (List.Sublist.refl _)
      have hM1 : ∀ i, i < m → Spn p n V (swapM M o i0 i) := fun i hi => by
        rcases Nat.lt_or_ge i o with h | h
        · rw [es i h]; exact hM i hi
        · obtain ⟨k, -, hk, e⟩ := hex i h hi
          rw [e]; exact hM k hk
      have hV1 : ∀ x, V x → Spn p n (rowsOf m (swapM M o i0)) x := fun x hx => (hV x hx).trans fun y ⟨k, hk, hy⟩ => by
        obtain ⟨i, hi, e⟩ := hxe k hk
        exact .base ⟨i, hi, by rw [hy, e]⟩
      have hok1 : ∀ i, o ≤ i → i < m → ∀ c, c < n → ok o (swapM M o i0 i c) := fun i h h2 c hc => by
        obtain ⟨k, hk1, hk, e⟩ := hex i h h2
        rw [e]; exact hok k hk1 hk c hc
      have hz1 : ∀ i, o ≤ i → i < m → ∀ c, c < j → p ∣ swapM M o i0 i c := fun i h h2 c hc => by
        obtain ⟨k, hk1, hk, e⟩ := hex i h h2
        rw [e]; exact hz k hk1 hk c hc
      have hd1 : ¬ p ∣ swapM M o i0 o j := by rw [eo]; exact hd
      generalize swapM M o i0 = N at hE' hM1 hV1 hok1 hz1 hd1 ⊢
      by_cases hom : o + 1 = m
      · rw [if_pos hom]
        have e := hE'.rank (V := V) hp h1 (n := n) (hC'.trans (List.range_sublist.2 (by omega)))
          (fun x hx => (hV1 x hx).trans fun y ⟨i, hi, hy⟩ => by
            subst hy
            exact .base (List.mem_map.2 ⟨i, List.mem_range.2 (by omega), rfl⟩))
          (fun x hx => by
            obtain ⟨i, hi, rfl⟩ := List.mem_map.1 hx
            exact hM1 i (by have := List.mem_range.1 hi; omega))
        simpa using e
      · rw [if_neg hom]
        have el : ∀ i, i ≤ o → elimM X N o j i = N i := fun i h => by
          funext c; simp only [elimM]; rw [if_neg (by omega)]
        have eg : ∀ i c, o < i → elimM X N o j i c = X (N i c) (N i j) (N o c) (N o j) := fun i c h => by
          simp only [elimM]; rw [if_pos h]
        have hx : ∀ i c, o < i → i < m → c < n → _ := fun i c h h2 hc =>
          hX o (N i c) (N i j) (N o c) (N o j) (by omega) (hok1 i (by omega) h2 c hc) (hok1 i (by omega) h2 j (by omega))
            (hok1 o (by omega) ho c hc) (hok1 o (by omega) ho j (by omega))
        refine rkGo_rank hp h1 hm hX h0 f (j + 1) (o + 1) (elimM X N o j) (by omega) (by omega) ?_ ?_ ?_ ?_ ?_
        · intro i h h2 c hc
          rw [eg i c (by omega)]
          exact (hx i c (by omega) h2 hc).1
        · intro x hx'
          refine (hV1 x hx').trans fun y ⟨i, hi, hy⟩ => ?_
          subst hy
          rcases Nat.lt_or_ge o i with h | h
          · refine .quot hd1 ?_
            have b1 : Spn p n (rowsOf m (elimM X N o j)) (elimM X N o j i) := .base ⟨i, hi, rfl⟩
            have b2 : Spn p n (rowsOf m (elimM X N o j)) (N o) := .base ⟨o, ho, (el o (Nat.le_refl o)).symm⟩
            refine (Spn.lin 1 (N i j) b1 b2).cong fun c hc => ?_
            have := (hx i c h hi hc).2
            rw [eg i c h]
            have e : N o j * N i c - (1 * X (N i c) (N i j) (N o c) (N o j) + N i j * N o c) = -(X (N i c) (N i j) (N o c) (N o j) - (N i c * N o j - N i j * N o c)) := by
              grind
            rw [e]; exact Int.dvd_neg.2 this
          · exact .base ⟨i, hi, (el i h).symm⟩
        · intro i hi
          rcases Nat.lt_or_ge o i with h | h
          · refine (Spn.lin (N o j) (-(N i j)) (hM1 i hi) (hM1 o ho)).cong fun c hc => ?_
            have := (hx i c h hi hc).2
            rw [eg i c h]
            have e : X (N i c) (N i j) (N o c) (N o j) - (N o j * N i c + -(N i j) * N o c) = X (N i c) (N i j) (N o c) (N o j) - (N i c * N o j - N i j * N o c) := by
              grind
            rw [e]; exact this
          · rw [el i h]; exact hM1 i hi
        · refine ⟨C ++ [j], ?_, hC'⟩
          have e1 : (List.range (o + 1)).map (elimM X N o j) = (List.range (o + 1)).map N :=
            List.map_congr_left fun i hi => el i (by have := List.mem_range.1 hi; omega)
          rw [e1]; exact hE'
        · intro i h h2 c hc
          have hh := (hx i c (by omega) h2 (by omega)).2
          rw [eg i c (by omega)]
          have hs : p ∣ N i c * N o j - N i j * N o c := by
            rcases Nat.lt_or_ge c j with hcj | hcj
            · exact Int.dvd_sub (Int.dvd_mul_of_dvd_left (hz1 i (by omega) h2 c hcj)) (Int.dvd_mul_of_dvd_right (hz1 o (by omega) ho c hcj))
            · have : c = j := by omega
              subst this
              exact ⟨0, by omega⟩
          have := Int.dvd_add hh hs
          rwa [Int.sub_add_cancel] at this
    · rw [if_neg hi]
      refine rkGo_rank hp h1 hm hX h0 f (j + 1) o M (by omega) ho hok hV hM ⟨C, hE, hC.trans (List.range_sublist.2 (by omega))⟩ ?_
      intro i h h2 c hc
      rcases Nat.lt_or_ge c j with hcj | hcj
      · exact hz i h h2 c hcj
      · have : c = j := by omega
        subst this
        rw [hbe i h (by omega)]; exact ⟨0, by omega⟩

/-- The rows of a table, from the start. -/
theorem rkGo_isRk {p : Int} {n m : Nat} {X : Int → Int → Int → Int → Int} {ok : Nat → Int → Prop} {M : Nat → Nat → Int}
    (hp : Prim p) (h1 : ¬ p ∣ 1) (hm : m ≤ 4) (hm0 : 0 < m)
    (hX : ∀ s a b c d, s ≤ 2 → ok s a → ok s b → ok s c → ok s d → ok (s + 1) (X a b c d) ∧ p ∣ X a b c d - (a * d - b * c))
    (h0 : ∀ s x, ok s x → p ∣ x → x = 0) (hok : ∀ i, i < m → ∀ c, c < n → ok 0 (M i c)) :
    IsRk p n (rowsOf m M) (rkGo X m n 0 0 M) :=
  rkGo_rank hp h1 hm hX h0 n 0 0 M (by omega) hm0 (fun i _ h c hc => hok i h c hc) (fun x hx => .base hx) (fun i hi => .base ⟨i, hi, rfl⟩)
    ⟨[], .nil, List.nil_sublist _⟩ (fun i _ _ c hc => absurd hc (Nat.not_lt_zero c))
end Go.Proofs.Ytaapamoglgpocaa
