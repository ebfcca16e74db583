/- Plain: determinants of rows and columns, and ranks modulo a number (0 or a prime). -/
import Derived.Test.YtpplihpfjniacaaDoorTPlain2
namespace Go.Proofs.YtpplihpfjniacaaDoor

/-- The sum along a row, with signs that change. -/
def alt (x : Nat → Int) : (List Nat → Int) → List Nat → Int
  | _, [] => 0
  | F, c :: C => x c * F C - alt x (fun C' => F (c :: C')) C

/-- The determinant of some rows in some columns. -/
def dets : List (Nat → Int) → List Nat → Int
  | [], [] => 1
  | [], _ :: _ => 0
  | x :: L, C => alt x (dets L) C

theorem alt_lin (x : Nat → Int) (a b : Int) (C : List Nat) : ∀ (F G : List Nat → Int),
    alt x (fun C' => a * F C' + b * G C') C = a * alt x F C + b * alt x G C := by
  induction C with
  | nil => intro F G; simp [alt]
  | cons c C ih =>
    intro F G
    simp only [alt]
    rw [ih (fun C' => F (c :: C')) (fun C' => G (c :: C'))]
    grind
theorem alt_lin_left (x y : Nat → Int) (a b : Int) (C : List Nat) : ∀ (F : List Nat → Int),
    alt (fun c => a * x c + b * y c) F C = a * alt x F C + b * alt y F C := by
  induction C with
  | nil => intro F; simp [alt]
  | cons c C ih =>
    intro F
    simp only [alt]
    rw [ih (fun C' => F (c :: C'))]
    grind
theorem alt_sub (x : Nat → Int) (F G : List Nat → Int) (C : List Nat) : alt x (fun C' => F C' - G C') C = alt x F C - alt x G C := by
  have h := alt_lin x 1 (-1) C F G
  have e : (fun C' => F C' - G C') = fun C' => 1 * F C' + -1 * G C' := by funext C'; omega
  rw [e, h]; omega
theorem alt_smul (x : Nat → Int) (a : Int) (F : List Nat → Int) (C : List Nat) : alt x (fun C' => a * F C') C = a * alt x F C := by
  have h := alt_lin x a 0 C F F
  have e : (fun C' => a * F C') = fun C' => a * F C' + 0 * F C' := by funext C'; omega
  rw [e, h]; omega
theorem alt_swap (x y : Nat → Int) (C : List Nat) : ∀ (F : List Nat → Int), alt x (alt y F) C = - alt y (alt x F) C := by
  induction C with
  | nil => intro F; simp [alt]
  | cons c C ih =>
    intro F
    simp only [alt]
    rw [alt_sub x (fun C' => y c * F C') (alt y fun C'' => F (c :: C'')) C, alt_sub y (fun C' => x c * F C') (alt x fun C'' => F (c :: C'')) C,
      alt_smul, alt_smul, ih]
    omega
theorem dets_perm {L L' : List (Nat → Int)} (h : L.Perm L') : ∃ s : Int, (s = 1 ∨ s = -1) ∧ ∀ C, dets L' C = s * dets L C := by
  induction h with
  | nil => exact ⟨1, .inl rfl, fun C => by omega⟩
  | cons x _ ih =>
    obtain ⟨s, hs, h⟩ := ih
    refine ⟨s, hs, fun C => ?_⟩
    have e : dets _ = fun C => s * dets _ C := funext h
    simp only [dets]
    rw [e, alt_smul]
  | swap x y L =>
    refine ⟨-1, .inr rfl, fun C => ?_⟩
    have e1 : dets (x :: L) = alt x (dets L) := funext fun C => by simp only [dets]
    have e2 : dets (y :: L) = alt y (dets L) := funext fun C => by simp only [dets]
    rw [show dets (x :: y :: L) C = alt x (dets (y :: L)) C from by simp only [dets], show dets (y :: x :: L) C = alt y (dets (x :: L)) C from by simp only [dets], e1, e2, alt_swap]
    omega
  | trans _ _ ih1 ih2 =>
    obtain ⟨s, hs, h⟩ := ih1
    obtain ⟨u, hu, k⟩ := ih2
    refine ⟨u * s, ?_, fun C => by rw [k, h, Int.mul_assoc]⟩
    rcases hs with rfl | rfl <;> rcases hu with rfl | rfl <;> simp
theorem dets_twice (x : Nat → Int) (L : List (Nat → Int)) (C : List Nat) : dets (x :: x :: L) C = 0 := by
  have h := alt_swap x x C (dets L)
  simp only [dets]
  show alt x (alt x (dets L)) C = 0
  omega
theorem dets_lin (x y : Nat → Int) (a b : Int) (B : List (Nat → Int)) : ∀ (A : List (Nat → Int)) (C : List Nat),
    dets (A ++ (fun c => a * x c + b * y c) :: B) C = a * dets (A ++ x :: B) C + b * dets (A ++ y :: B) C
  | [], C => by simp only [List.nil_append, dets]; exact alt_lin_left x y a b C _
  | z :: A, C => by
    simp only [List.cons_append, dets]
    rw [← alt_lin]
    congr 1
    funext C'
    exact dets_lin x y a b B A C'

theorem alt_dvd (p : Int) (x : Nat → Int) (C : List Nat) : ∀ (F : List Nat → Int), (∀ C', C'.Sublist C → p ∣ F C') → p ∣ alt x F C := by
  induction C with
  | nil => intro F _; exact ⟨0, by simp [alt]⟩
  | cons c C ih =>
    intro F h
    simp only [alt]
    exact Int.dvd_sub (Int.dvd_mul_of_dvd_right (h C (List.sublist_cons_self c C))) (ih _ fun C' hC => h _ (hC.cons_cons c))
theorem alt_dvd_left (p : Int) (x : Nat → Int) (C : List Nat) : ∀ (F : List Nat → Int), (∀ c ∈ C, p ∣ x c) → p ∣ alt x F C := by
  induction C with
  | nil => intro F _; exact ⟨0, by simp [alt]⟩
  | cons c C ih =>
    intro F h
    simp only [alt]
    exact Int.dvd_sub (Int.dvd_mul_of_dvd_left (h c List.mem_cons_self)) (ih _ fun d hd => h d (List.mem_cons_of_mem c hd))
theorem dets_zero (p : Int) (x : Nat → Int) (B : List (Nat → Int)) : ∀ (A : List (Nat → Int)) (C : List Nat), (∀ c ∈ C, p ∣ x c) → p ∣ dets (A ++ x :: B) C
  | [], C, h => by simp only [List.nil_append, dets]; exact alt_dvd_left p x C _ h
  | z :: A, C, h => by
    simp only [List.cons_append, dets]
    exact alt_dvd p z C _ fun C' hC => dets_zero p x B A C' fun c hc => h c (hC.mem hc)

/-- What can be made of some rows, modulo a number, in the first columns. -/
inductive Spn (p : Int) (n : Nat) (V : (Nat → Int) → Prop) : (Nat → Int) → Prop
  | base {x : Nat → Int} (h : V x) : Spn p n V x
  | lin (a b : Int) {x y : Nat → Int} (hx : Spn p n V x) (hy : Spn p n V y) : Spn p n V (fun c => a * x c + b * y c)
  | zero {x : Nat → Int} (h : ∀ c, c < n → p ∣ x c) : Spn p n V x
  | quot {d : Int} {x : Nat → Int} (h : ¬ p ∣ d) (hx : Spn p n V (fun c => d * x c)) : Spn p n V x

/-- Products that are zero have a factor that is. -/
def Prim (p : Int) : Prop := ∀ a b : Int, p ∣ a * b → p ∣ a ∨ p ∣ b

theorem prim_zero : Prim 0 := by
  intro a b h
  rcases Int.mul_eq_zero.1 (Int.zero_dvd.1 h) with rfl | rfl
  · exact .inl ⟨0, by omega⟩
  · exact .inr ⟨0, by omega⟩
theorem prim_two : Prim 2 := by
  intro a b h
  have h1 := Int.emod_emod_of_dvd (a * b) (Int.dvd_refl 2)
  have h2 : a * b % 2 = 0 := Int.emod_eq_zero_of_dvd h
  rw [Int.mul_emod] at h2
  rcases Int.emod_two_eq a with ha | ha
  · exact .inl (Int.dvd_of_emod_eq_zero ha)
  rcases Int.emod_two_eq b with hb | hb
  · exact .inr (Int.dvd_of_emod_eq_zero hb)
  rw [ha, hb] at h2
  exact absurd h2 (by decide)

theorem Spn.out {p : Int} {n : Nat} {V : (Nat → Int) → Prop} (hp : Prim p) {x : Nat → Int} (hx : Spn p n V x) {A B : List (Nat → Int)} {C : List Nat}
    (hC : ∀ c ∈ C, c < n) (h : ∀ y, V y → p ∣ dets (A ++ y :: B) C) : p ∣ dets (A ++ x :: B) C := by
  induction hx with
  | base hv => exact h _ hv
  | lin a b _ _ ih1 ih2 =>
    rw [dets_lin]
    exact Int.dvd_add (Int.dvd_mul_of_dvd_right ih1) (Int.dvd_mul_of_dvd_right ih2)
  | zero hz => exact dets_zero p _ B A C fun c hc => hz c (hC c hc)
  | @quot d x hd _ ih =>
    have e : (fun c => d * x c) = fun c => d * x c + 0 * x c := by funext c; omega
    rw [e, dets_lin] at ih
    have e2 : d * dets (A ++ x :: B) C + 0 * dets (A ++ x :: B) C = d * dets (A ++ x :: B) C := by omega
    rw [e2] at ih
    exact (hp _ _ ih).resolve_left hd

theorem Spn.outs {p : Int} {n : Nat} {V W : (Nat → Int) → Prop} (hp : Prim p) (hVW : ∀ x, V x → Spn p n W x) {C : List Nat}
    (hC : ∀ c ∈ C, c < n) : ∀ (k : Nat) (A : List (Nat → Int)),
    (∀ L : List (Nat → Int), (∀ x ∈ L, W x) → L.length = k → p ∣ dets (A ++ L) C) →
    ∀ L : List (Nat → Int), (∀ x ∈ L, V x) → L.length = k → p ∣ dets (A ++ L) C
  | 0, A, h, L, _, hL => by
    have e : L = [] := List.length_eq_zero_iff.1 hL
    subst e
    exact h [] (fun x hx => absurd hx List.not_mem_nil) rfl
  | k + 1, A, h, [], _, hL => by simp at hL
  | k + 1, A, h, y :: L, hV, hL => by
    refine (hVW y (hV y List.mem_cons_self)).out hp hC fun x hx => ?_
    have e : A ++ x :: L = (A ++ [x]) ++ L := by simp
    rw [e]
    refine Spn.outs hp hVW hC k (A ++ [x]) (fun L' hW hk => ?_) L (fun z hz => hV z (List.mem_cons_of_mem y hz)) (by simpa using hL)
    have e2 : (A ++ [x]) ++ L' = A ++ x :: L' := by simp
    rw [e2]
    exact h (x :: L') (fun z hz => by
      rcases List.mem_cons.1 hz with rfl | hz
      · exact hx
      · exact hW z hz) (by simp [hk])

/-- k of the rows have a determinant that is not zero in some columns. -/
def Rk (p : Int) (n : Nat) (V : (Nat → Int) → Prop) (k : Nat) : Prop :=
  ∃ (L : List (Nat → Int)) (C : List Nat), (∀ x ∈ L, V x) ∧ L.length = k ∧ C.length = k ∧ C.Sublist (List.range n) ∧ ¬ p ∣ dets L C

theorem sub_lt {C : List Nat} {n : Nat} (h : C.Sublist (List.range n)) : ∀ c ∈ C, c < n := fun _ hc => List.mem_range.1 (h.mem hc)

theorem Rk.spn {p : Int} {n : Nat} {V W : (Nat → Int) → Prop} (hp : Prim p) (hVW : ∀ x, V x → Spn p n W x) {k : Nat} (h : Rk p n V k) : Rk p n W k := by
  obtain ⟨L, C, hL, hk, hCk, hC, hd⟩ := h
  refine Classical.byContradiction fun hn => hd ?_
  refine Spn.outs hp hVW (sub_lt hC) k [] (fun L' hL' hk' => ?_) L hL hk
  refine Classical.byContradiction fun hnd => hn ⟨L', C, hL', hk', hCk, hC, hnd⟩

theorem nodup_le {α : Type} : ∀ {L W : List α}, L.Nodup → (∀ x ∈ L, x ∈ W) → L.length ≤ W.length
  | [], W, _, _ => Nat.zero_le _
  | x :: L, W, hn, h => by
    obtain ⟨A, B, rfl⟩ := List.append_of_mem (h x List.mem_cons_self)
    have hn' := List.nodup_cons.1 hn
    have := nodup_le (W := A ++ B) hn'.2 fun y hy => by
      have hy2 := h y (List.mem_cons_of_mem x hy)
      rcases List.mem_append.1 hy2 with hy2 | hy2
      · exact List.mem_append.2 (.inl hy2)
      · rcases List.mem_cons.1 hy2 with rfl | hy2
        · exact absurd hy hn'.1
        · exact List.mem_append.2 (.inr hy2)
    simp only [List.length_append, List.length_cons] at this ⊢
    omega

theorem dets_dup {L : List (Nat → Int)} (h : ¬ L.Nodup) (C : List Nat) : dets L C = 0 := by
  have : ∃ x L', L.Perm (x :: x :: L') := by
    induction L with
    | nil => exact absurd List.nodup_nil h
    | cons x L ih =>
      by_cases hx : x ∈ L
      · obtain ⟨A, B, rfl⟩ := List.append_of_mem hx
        exact ⟨x, A ++ B, List.Perm.cons x List.perm_middle⟩
      · have hL : ¬ L.Nodup := fun hL => h (List.nodup_cons.2 ⟨hx, hL⟩)
        obtain ⟨y, L', hp⟩ := ih hL
        exact ⟨y, x :: L', (hp.cons x).trans ((List.Perm.swap y x _).trans (List.Perm.cons y (List.Perm.swap y x L')))⟩
  obtain ⟨x, L', hp⟩ := this
  obtain ⟨s, -, hs⟩ := dets_perm hp.symm
  rw [hs, dets_twice]; omega

theorem Rk.le {p : Int} {n : Nat} {W : List (Nat → Int)} {k : Nat} (h : Rk p n (· ∈ W) k) : k ≤ W.length := by
  obtain ⟨L, C, hL, hk, -, -, hd⟩ := h
  rw [← hk]
  refine nodup_le (Classical.byContradiction fun hn => hd ?_) hL
  rw [dets_dup hn]
  exact ⟨0, by omega⟩

/-- The greatest. -/
def IsRk (p : Int) (n : Nat) (V : (Nat → Int) → Prop) (r : Nat) : Prop := Rk p n V r ∧ ∀ k, Rk p n V k → k ≤ r

theorem IsRk.eq {p : Int} {n : Nat} {V : (Nat → Int) → Prop} {r s : Nat} (h : IsRk p n V r) (k : IsRk p n V s) : r = s :=
  Nat.le_antisymm (k.2 r h.1) (h.2 s k.1)

/-- Steps: each row has a place that all later rows have zero. -/
inductive Ech (p : Int) : List (Nat → Int) → List Nat → Prop
  | nil : Ech p [] []
  | cons {x : Nat → Int} {c : Nat} {L : List (Nat → Int)} {C : List Nat} (h : ¬ p ∣ x c) (hz : ∀ y ∈ L, p ∣ y c) (hL : Ech p L C) : Ech p (x :: L) (c :: C)

theorem dets_col (p : Int) (c : Nat) : ∀ (L : List (Nat → Int)) (C : List Nat), (∀ y ∈ L, p ∣ y c) → p ∣ dets L (c :: C)
  | [], C, _ => ⟨0, by simp [dets]⟩
  | x :: L, C, h => by
    simp only [dets, alt]
    exact Int.dvd_sub (Int.dvd_mul_of_dvd_left (h x List.mem_cons_self))
      (alt_dvd p x C _ fun C' _ => dets_col p c L C' fun y hy => h y (List.mem_cons_of_mem x hy))

theorem Ech.dets {p : Int} (hp : Prim p) (h1 : ¬ p ∣ 1) {L : List (Nat → Int)} {C : List Nat} (h : Ech p L C) : ¬ p ∣ dets L C := by
  induction h with
  | nil => exact h1
  | @cons x c L C hx hz _ ih =>
    intro hd
    simp only [Go.Proofs.YtpplihpfjniacaaDoor.dets, alt] at hd
    have h2 : p ∣ alt x (fun C' => Go.Proofs.YtpplihpfjniacaaDoor.dets L (c :: C')) C := alt_dvd p x C _ fun C' _ => dets_col p c L C' hz
    have h3 := Int.dvd_add hd h2
    rw [Int.sub_add_cancel] at h3
    rcases hp _ _ h3 with h | h
    · exact hx h
    · exact ih h

theorem Ech.snoc {p : Int} {L : List (Nat → Int)} {C : List Nat} {x : Nat → Int} {c : Nat} (h : Ech p L C) (hx : ¬ p ∣ x c) (hz : ∀ d ∈ C, p ∣ x d) : Ech p (L ++ [x]) (C ++ [c]) := by
  induction h with
  | nil => exact .cons hx (fun y hy => absurd hy List.not_mem_nil) .nil
  | @cons y d L C hy hzy _ ih =>
    refine .cons hy (fun z hz' => ?_) (ih fun e he => hz e (List.mem_cons_of_mem d he))
    rcases List.mem_append.1 hz' with h | h
    · exact hzy z h
    · rw [List.mem_singleton.1 h]; exact hz d List.mem_cons_self
theorem Ech.length {p : Int} {L : List (Nat → Int)} {C : List Nat} (h : Ech p L C) : L.length = C.length := by
  induction h with
  | nil => rfl
  | cons _ _ _ ih => simp [ih]

/-- Rows with steps, of which all are made and that are made of all: their number is the rank. -/
theorem Ech.rank {p : Int} (hp : Prim p) (h1 : ¬ p ∣ 1) {n : Nat} {V : (Nat → Int) → Prop} {L : List (Nat → Int)} {C : List Nat} (h : Ech p L C)
    (hC : C.Sublist (List.range n)) (hV : ∀ x, V x → Spn p n (· ∈ L) x) (hL : ∀ x ∈ L, Spn p n V x) : IsRk p n V L.length :=
  ⟨Rk.spn (V := (· ∈ L)) hp hL ⟨L, C, fun _ h => h, rfl, h.length.symm, hC, h.dets hp h1⟩, fun _ hk => (hk.spn hp hV).le⟩

theorem Spn.trans {p : Int} {n : Nat} {V W : (Nat → Int) → Prop} (hVW : ∀ x, V x → Spn p n W x) {x : Nat → Int} (h : Spn p n V x) : Spn p n W x := by
  induction h with
  | base h => exact hVW _ h
  | lin a b _ _ ih1 ih2 => exact .lin a b ih1 ih2
  | zero h => exact .zero h
  | quot h _ ih => exact .quot h ih
theorem Spn.cong {p : Int} {n : Nat} {V : (Nat → Int) → Prop} {x y : Nat → Int} (h : Spn p n V x) (e : ∀ c, c < n → p ∣ y c - x c) : Spn p n V y := by
  have hz : Spn p n V (fun c => y c - x c) := .zero e
  have := Spn.lin 1 1 h hz
  have e2 : (fun c => 1 * x c + 1 * (y c - x c)) = y := by funext c; omega
  rwa [e2] at this
end Go.Proofs.YtpplihpfjniacaaDoor

/- Plain: elimination row by row finds the rank. -/
namespace Go.Proofs.YtpplihpfjniacaaDoor

/-- Two rows change their places. -/
def swapM (M : Nat → Nat → Int) (a b : Nat) : Nat → Nat → Int := fun i => if i = a then M b else if i = b then M a else M i
/-- What cross makes of the rows after one. -/
def elimM (X : Int → Int → Int → Int → Int) (M : Nat → Nat → Int) (o j : Nat) : Nat → Nat → Int :=
  fun i c => if o < i then X (M i c) (M i j) (M o c) (M o j) else M i c
/-- The first row from i on that is not zero in column j, among so many. -/
def pv (M : Nat → Nat → Int) (j : Nat) : Nat → Nat → Nat
  | 0, i => i
  | f + 1, i => if M i j ≠ 0 then i else pv M j f (i + 1)
/-- The elimination, from column j on. -/
def rkGo (X : Int → Int → Int → Int → Int) (m : Nat) : Nat → Nat → Nat → (Nat → Nat → Int) → Nat
  | 0, _, o, _ => o
  | f + 1, j, o, M =>
    if pv M j (m - o) o < m then
      if o + 1 = m then o + 1 else rkGo X m f (j + 1) (o + 1) (elimM X (swapM M o (pv M j (m - o) o)) o j)
    else rkGo X m f (j + 1) o M

theorem pv_ge (M : Nat → Nat → Int) (j : Nat) : ∀ f i, i ≤ pv M j f i ∧ pv M j f i ≤ i + f
  | 0, i => ⟨Nat.le_refl i, Nat.le_refl _⟩
  | f + 1, i => by
    have := pv_ge M j f (i + 1)
    rw [pv]; split <;> omega
theorem pv_at (M : Nat → Nat → Int) (j : Nat) : ∀ f i, pv M j f i < i + f → M (pv M j f i) j ≠ 0
  | 0, i, h => by simp only [pv] at h; omega
  | f + 1, i, h => by
    rw [pv] at h ⊢
    split
    · assumption
    · rename_i h0
      rw [if_neg h0] at h
      exact pv_at M j f (i + 1) (by omega)
theorem pv_before (M : Nat → Nat → Int) (j : Nat) : ∀ f i a, i ≤ a → a < pv M j f i → M a j = 0
  | 0, i, a, h, h2 => by simp only [pv] at h2; omega
  | f + 1, i, a, h, h2 => by
    rw [pv] at h2
    split at h2
    · omega
    · rename_i h0
      rcases Nat.lt_or_ge i a with ha | ha
      · exact pv_before M j f (i + 1) a ha h2
      · have : a = i := by omega
        subst this
        exact Classical.byContradiction h0

/-- The rows of a table. -/
def rowsOf (m : Nat) (M : Nat → Nat → Int) (x : Nat → Int) : Prop := ∃ i, i < m ∧ x = M i

/-- The rank, and as many rows of which all are made. -/
def IsRkB (p : Int) (n : Nat) (V : (Nat → Int) → Prop) (r : Nat) : Prop := IsRk p n V r ∧ ∃ L : List (Nat → Int), L.length = r ∧ ∀ x, V x → Spn p n (· ∈ L) x
theorem Ech.rankB {p : Int} (hp : Prim p) (h1 : ¬ p ∣ 1) {n : Nat} {V : (Nat → Int) → Prop} {L : List (Nat → Int)} {C : List Nat} (h : Ech p L C)
    (hC : C.Sublist (List.range n)) (hV : ∀ x, V x → Spn p n (· ∈ L) x) (hL : ∀ x ∈ L, Spn p n V x) : IsRkB p n V L.length := ⟨h.rank hp h1 hC hV hL, L, rfl, hV⟩
theorem rkGo_rank {p : Int} {n m : Nat} {X : Int → Int → Int → Int → Int} {ok : Nat → Int → Prop} {V : (Nat → Int) → Prop}
    (hp : Prim p) (h1 : ¬ p ∣ 1) (hm : m ≤ 4)
    (hX : ∀ s a b c d, s ≤ 2 → ok s a → ok s b → ok s c → ok s d → ok (s + 1) (X a b c d) ∧ p ∣ X a b c d - (a * d - b * c))
    (h0 : ∀ s x, ok s x → p ∣ x → x = 0) :
    ∀ (f j o : Nat) (M : Nat → Nat → Int), j + f = n → o < m →
      (∀ i, o ≤ i → i < m → ∀ c, c < n → ok o (M i c)) →
      (∀ x, V x → Spn p n (rowsOf m M) x) → (∀ i, i < m → Spn p n V (M i)) →
      (∃ C, Ech p ((List.range o).map M) C ∧ C.Sublist (List.range j)) →
      (∀ i, o ≤ i → i < m → ∀ c, c < j → p ∣ M i c) → IsRkB p n V (rkGo X m f j o M)
  | 0, j, o, M, hj, ho, _, hV, hM, ⟨C, hE, hC⟩, hz => by
    have e := hE.rankB (V := V) hp h1 (n := n) (by rw [show n = j by omega]; exact hC)
      (fun x hx => (hV x hx).trans fun y ⟨i, hi, hy⟩ => by
        subst hy
        rcases Nat.lt_or_ge i o with h | h
        · exact .base (List.mem_map.2 ⟨i, List.mem_range.2 h, rfl⟩)
        · exact .zero fun c hc => hz i h hi c (by omega))
      (fun x hx => by
        obtain ⟨i, hi, rfl⟩ := List.mem_map.1 hx
        exact hM i (by have := List.mem_range.1 hi; omega))
    simpa [rkGo] using e
  | f + 1, j, o, M, hj, ho, hok, hV, hM, ⟨C, hE, hC⟩, hz => by
    rw [rkGo]
    have hge := pv_ge M j (m - o) o
    have hbe := pv_before M j (m - o) o
    have hat := pv_at M j (m - o) o
    generalize pv M j (m - o) o = i0 at hge hbe hat ⊢
    by_cases hi : i0 < m
    · rw [if_pos hi]
      have hi0 : M i0 j ≠ 0 := hat (by omega)
      have hd : ¬ p ∣ M i0 j := fun hd => hi0 (h0 o _ (hok i0 (by omega) hi j (by omega)) hd)
      have es : ∀ i, i < o → swapM M o i0 i = M i := fun i h => by
        simp only [swapM]; rw [if_neg (by omega), if_neg (by omega)]
      have eo : swapM M o i0 o = M i0 := by simp [swapM]
      have hex : ∀ i, o ≤ i → i < m → ∃ k, o ≤ k ∧ k < m ∧ swapM M o i0 i = M k := fun i h h2 => by
        simp only [swapM]
        split
        · exact ⟨i0, by omega, hi, rfl⟩
        · split
          · exact ⟨o, by omega, ho, rfl⟩
          · exact ⟨i, h, h2, rfl⟩
      have hxe : ∀ k, k < m → ∃ i, i < m ∧ M k = swapM M o i0 i := fun k hk => by
        by_cases hk1 : k = o
        · refine ⟨i0, hi, ?_⟩
          simp only [swapM]
          split
          · rename_i h; rw [hk1, h]
          · rw [hk1]; simp
        · by_cases hk2 : k = i0
          · exact ⟨o, ho, by rw [eo, hk2]⟩
          · exact ⟨k, hk, by simp only [swapM]; rw [if_neg hk1, if_neg hk2]⟩
      have hE' : Ech p ((List.range (o + 1)).map (swapM M o i0)) (C ++ [j]) := by
        rw [List.range_succ, List.map_append, List.map_cons, List.map_nil, eo]
        have e1 : (List.range o).map (swapM M o i0) = (List.range o).map M :=
          List.map_congr_left fun i hi => es i (List.mem_range.1 hi)
        rw [e1]
        exact hE.snoc hd fun d hd => hz i0 (by omega) hi d (sub_lt hC d hd)
      have hC' : (C ++ [j]).Sublist (List.range (j + 1)) := by
        rw [List.range_succ]
        exact hC.append (List.Sublist.refl _)
      have hM1 : ∀ i, i < m → Spn p n V (swapM M o i0 i) := fun i hi => by
        rcases Nat.lt_or_ge i o with h | h
        · rw [es i h]; exact hM i hi
        · obtain ⟨k, -, hk, e⟩ := hex i h hi
          rw [e]; exact hM k hk
      have hV1 : ∀ x, V x → Spn p n (rowsOf m (swapM M o i0)) x := fun x hx => (hV x hx).trans fun y ⟨k, hk, hy⟩ => by
        obtain ⟨i, hi, e⟩ := hxe k hk
        exact .base ⟨i, hi, by rw [hy, e]⟩
      have hok1 : ∀ i, o ≤ i → i < m → ∀ c, c < n → ok o (swapM M o i0 i c) := fun i h h2 c hc => by
        obtain ⟨k, hk1, hk, e⟩ := hex i h h2
        rw [e]; exact hok k hk1 hk c hc
      have hz1 : ∀ i, o ≤ i → i < m → ∀ c, c < j → p ∣ swapM M o i0 i c := fun i h h2 c hc => by
        obtain ⟨k, hk1, hk, e⟩ := hex i h h2
        rw [e]; exact hz k hk1 hk c hc
      have hd1 : ¬ p ∣ swapM M o i0 o j := by rw [eo]; exact hd
      generalize swapM M o i0 = N at hE' hM1 hV1 hok1 hz1 hd1 ⊢
      by_cases hom : o + 1 = m
      · rw [if_pos hom]
        have e := hE'.rankB (V := V) hp h1 (n := n) (hC'.trans (List.range_sublist.2 (by omega)))
          (fun x hx => (hV1 x hx).trans fun y ⟨i, hi, hy⟩ => by
            subst hy
            exact .base (List.mem_map.2 ⟨i, List.mem_range.2 (by omega), rfl⟩))
          (fun x hx => by
            obtain ⟨i, hi, rfl⟩ := List.mem_map.1 hx
            exact hM1 i (by have := List.mem_range.1 hi; omega))
        simpa using e
      · rw [if_neg hom]
        have el : ∀ i, i ≤ o → elimM X N o j i = N i := fun i h => by
          funext c; simp only [elimM]; rw [if_neg (by omega)]
        have eg : ∀ i c, o < i → elimM X N o j i c = X (N i c) (N i j) (N o c) (N o j) := fun i c h => by
          simp only [elimM]; rw [if_pos h]
        have hx : ∀ i c, o < i → i < m → c < n → _ := fun i c h h2 hc =>
          hX o (N i c) (N i j) (N o c) (N o j) (by omega) (hok1 i (by omega) h2 c hc) (hok1 i (by omega) h2 j (by omega))
            (hok1 o (by omega) ho c hc) (hok1 o (by omega) ho j (by omega))
        refine rkGo_rank hp h1 hm hX h0 f (j + 1) (o + 1) (elimM X N o j) (by omega) (by omega) ?_ ?_ ?_ ?_ ?_
        · intro i h h2 c hc
          rw [eg i c (by omega)]
          exact (hx i c (by omega) h2 hc).1
        · intro x hx'
          refine (hV1 x hx').trans fun y ⟨i, hi, hy⟩ => ?_
          subst hy
          rcases Nat.lt_or_ge o i with h | h
          · refine .quot hd1 ?_
            have b1 : Spn p n (rowsOf m (elimM X N o j)) (elimM X N o j i) := .base ⟨i, hi, rfl⟩
            have b2 : Spn p n (rowsOf m (elimM X N o j)) (N o) := .base ⟨o, ho, (el o (Nat.le_refl o)).symm⟩
            refine (Spn.lin 1 (N i j) b1 b2).cong fun c hc => ?_
            have := (hx i c h hi hc).2
            rw [eg i c h]
            have e : N o j * N i c - (1 * X (N i c) (N i j) (N o c) (N o j) + N i j * N o c) = -(X (N i c) (N i j) (N o c) (N o j) - (N i c * N o j - N i j * N o c)) := by
              grind
            rw [e]; exact Int.dvd_neg.2 this
          · exact .base ⟨i, hi, (el i h).symm⟩
        · intro i hi
          rcases Nat.lt_or_ge o i with h | h
          · refine (Spn.lin (N o j) (-(N i j)) (hM1 i hi) (hM1 o ho)).cong fun c hc => ?_
            have := (hx i c h hi hc).2
            rw [eg i c h]
            have e : X (N i c) (N i j) (N o c) (N o j) - (N o j * N i c + -(N i j) * N o c) = X (N i c) (N i j) (N o c) (N o j) - (N i c * N o j - N i j * N o c) := by
              grind
            rw [e]; exact this
          · rw [el i h]; exact hM1 i hi
        · refine ⟨C ++ [j], ?_, hC'⟩
          have e1 : (List.range (o + 1)).map (elimM X N o j) = (List.range (o + 1)).map N :=
            List.map_congr_left fun i hi => el i (by have := List.mem_range.1 hi; omega)
          rw [e1]; exact hE'
        · intro i h h2 c hc
          have hh := (hx i c (by omega) h2 (by omega)).2
          rw [eg i c (by omega)]
          have hs : p ∣ N i c * N o j - N i j * N o c := by
            rcases Nat.lt_or_ge c j with hcj | hcj
            · exact Int.dvd_sub (Int.dvd_mul_of_dvd_left (hz1 i (by omega) h2 c hcj)) (Int.dvd_mul_of_dvd_right (hz1 o (by omega) ho c hcj))
            · have : c = j := by omega
              subst this
              exact ⟨0, by omega⟩
          have := Int.dvd_add hh hs
          rwa [Int.sub_add_cancel] at this
    · rw [if_neg hi]
      refine rkGo_rank hp h1 hm hX h0 f (j + 1) o M (by omega) ho hok hV hM ⟨C, hE, hC.trans (List.range_sublist.2 (by omega))⟩ ?_
      intro i h h2 c hc
      rcases Nat.lt_or_ge c j with hcj | hcj
      · exact hz i h h2 c hcj
      · have : c = j := by omega
        subst this
        rw [hbe i h (by omega)]; exact ⟨0, by omega⟩

/-- The rows of a table, from the start. -/
theorem rkGo_base {p : Int} {n m : Nat} {X : Int → Int → Int → Int → Int} {ok : Nat → Int → Prop} {M : Nat → Nat → Int}
    (hp : Prim p) (h1 : ¬ p ∣ 1) (hm : m ≤ 4) (hm0 : 0 < m)
    (hX : ∀ s a b c d, s ≤ 2 → ok s a → ok s b → ok s c → ok s d → ok (s + 1) (X a b c d) ∧ p ∣ X a b c d - (a * d - b * c))
    (h0 : ∀ s x, ok s x → p ∣ x → x = 0) (hok : ∀ i, i < m → ∀ c, c < n → ok 0 (M i c)) :
    IsRkB p n (rowsOf m M) (rkGo X m n 0 0 M) :=
  rkGo_rank hp h1 hm hX h0 n 0 0 M (by omega) hm0 (fun i _ h c hc => hok i h c hc) (fun x hx => .base hx) (fun i hi => .base ⟨i, hi, rfl⟩)
    ⟨[], .nil, List.nil_sublist _⟩ (fun i _ _ c hc => absurd hc (Nat.not_lt_zero c))
theorem rkGo_isRk {p : Int} {n m : Nat} {X : Int → Int → Int → Int → Int} {ok : Nat → Int → Prop} {M : Nat → Nat → Int}
    (hp : Prim p) (h1 : ¬ p ∣ 1) (hm : m ≤ 4) (hm0 : 0 < m)
    (hX : ∀ s a b c d, s ≤ 2 → ok s a → ok s b → ok s c → ok s d → ok (s + 1) (X a b c d) ∧ p ∣ X a b c d - (a * d - b * c))
    (h0 : ∀ s x, ok s x → p ∣ x → x = 0) (hok : ∀ i, i < m → ∀ c, c < n → ok 0 (M i c)) :
    IsRk p n (rowsOf m M) (rkGo X m n 0 0 M) := (rkGo_base hp h1 hm hm0 hX h0 hok).1
end Go.Proofs.YtpplihpfjniacaaDoor

/- Plain: the determinants along the first row; the greatest one that is not zero, over sets of rows and columns, gives the rank. -/
namespace Go.Proofs.YtpplihpfjniacaaDoor

/-- Signs in turn. -/
def sg (j : Nat) : Int := if j % 2 = 0 then 1 else -1
theorem sg_succ (j : Nat) : sg (j + 1) = - sg j := by unfold sg; split <;> split <;> omega
theorem sg_or (j : Nat) : sg j = 1 ∨ sg j = -1 := by unfold sg; split <;> simp
/-- What a sum along a row still has before it. -/
def rest (x : Nat → Int) (F : List Nat → Int) (C : List Nat) (j : Nat) : Int := alt x (fun D => F (C.take j ++ D)) (C.drop j)
theorem rest_step {x : Nat → Int} {F : List Nat → Int} {C : List Nat} {j : Nat} (h : j < C.length) :
    rest x F C j = x (C.getD j 0) * F (C.eraseIdx j) - rest x F C (j + 1) := by
  unfold rest
  have e : C.getD j 0 = C[j] := by rw [List.getD_eq_getElem?_getD, List.getElem?_eq_getElem h]; rfl
  rw [List.drop_eq_getElem_cons h, e, List.eraseIdx_eq_take_drop_succ]
  simp only [alt]
  congr 2
  funext D
  rw [List.take_succ_eq_append_getElem h, List.append_assoc]
  rfl
/-- A sum along a row after so many places. -/
def sumTo (x : Nat → Int) (F : List Nat → Int) (C : List Nat) (j : Nat) : Int := alt x F C - sg j * rest x F C j
theorem sumTo_zero (x : Nat → Int) (F : List Nat → Int) (C : List Nat) : sumTo x F C 0 = 0 := by
  have : rest x F C 0 = alt x F C := by unfold rest; simp
  unfold sumTo
  rw [this]; simp [sg]
theorem sumTo_succ {x : Nat → Int} {F : List Nat → Int} {C : List Nat} {j : Nat} (h : j < C.length) :
    sumTo x F C (j + 1) = sumTo x F C j + sg j * x (C.getD j 0) * F (C.eraseIdx j) := by
  unfold sumTo
  rw [rest_step h, sg_succ]
  grind
theorem sumTo_all (x : Nat → Int) (F : List Nat → Int) (C : List Nat) : sumTo x F C C.length = alt x F C := by
  unfold sumTo rest
  rw [List.drop_length]
  simp [alt]

theorem alt_le {x : Nat → Int} {B : Int} (hB : 0 ≤ B) (C : List Nat) : ∀ (F : List Nat → Int), (∀ c ∈ C, -1 ≤ x c ∧ x c ≤ 1) →
    (∀ D, D.Sublist C → D.length + 1 = C.length → -B ≤ F D ∧ F D ≤ B) → -(C.length * B) ≤ alt x F C ∧ alt x F C ≤ C.length * B := by
  induction C with
  | nil => intro F _ _; simp [alt]
  | cons c C ih =>
    intro F hx hF
    have h1 := ih (fun D => F (c :: D)) (fun d hd => hx d (List.mem_cons_of_mem c hd)) (fun D hD hl => hF _ (hD.cons_cons c) (by simp [hl]))
    have h2 := hF C (List.sublist_cons_self c C) (by simp)
    have h3 := hx c List.mem_cons_self
    simp only [alt, List.length_cons]
    have e : ((C.length + 1 : Nat) : Int) * B = C.length * B + B := by rw [Int.natCast_add, Int.add_mul]; simp
    rw [e]
    have h4 : -B ≤ x c * F C ∧ x c * F C ≤ B := by
      have : x c = -1 ∨ x c = 0 ∨ x c = 1 := by omega
      rcases this with h | h | h <;> rw [h] <;> omega
    omega
def fac : Nat → Int
  | 0 => 1
  | k + 1 => ((k + 1 : Nat) : Int) * fac k
theorem fac_nn : ∀ k, 0 ≤ fac k
  | 0 => by decide
  | k + 1 => by unfold fac; exact Int.mul_nonneg (by omega) (fac_nn k)
theorem dets_le : ∀ (L : List (Nat → Int)) (C : List Nat), L.length = C.length → (∀ x ∈ L, ∀ c, -1 ≤ x c ∧ x c ≤ 1) → -fac C.length ≤ dets L C ∧ dets L C ≤ fac C.length
  | [], [], _, _ => by decide
  | [], _ :: _, h, _ => by simp at h
  | x :: L, [], h, _ => by simp at h
  | x :: L, c :: C, h, hx => by
    have := alt_le (x := x) (fac_nn C.length) (c :: C) (dets L) (fun d _ => hx x List.mem_cons_self d) (fun D _ hl => by
      have h1 : D.length = C.length := by simpa using hl
      have := dets_le L D (by rw [h1]; simpa using h) (fun y hy => hx y (List.mem_cons_of_mem x hy))
      rwa [h1] at this)
    simpa [dets, fac] using this
theorem rest_le {x : Nat → Int} {L : List (Nat → Int)} {C : List Nat} (hL : L.length + 1 = C.length) (h : ∀ c, -1 ≤ x c ∧ x c ≤ 1) (hx : ∀ y ∈ L, ∀ c, -1 ≤ y c ∧ y c ≤ 1)
    {j : Nat} (hj : j ≤ C.length) : -((C.length - j : Nat) * fac L.length) ≤ rest x (dets L) C j ∧ rest x (dets L) C j ≤ (C.length - j : Nat) * fac L.length := by
  unfold rest
  have := alt_le (x := x) (fac_nn L.length) (C.drop j) (fun D => dets L (C.take j ++ D)) (fun d _ => h d) (fun D hD hl => by
    have e : (C.take j ++ D).length = L.length := by
      rw [List.length_append, List.length_take]
      have : (C.drop j).length = C.length - j := List.length_drop
      omega
    have := dets_le L (C.take j ++ D) e.symm hx
    rwa [e] at this)
  rwa [List.length_drop] at this
theorem fac_le {k : Nat} (h : k ≤ 4) : fac k ≤ 24 := by
  rcases (by omega : k = 0 ∨ k = 1 ∨ k = 2 ∨ k = 3 ∨ k = 4) with rfl | rfl | rfl | rfl | rfl <;> decide
theorem dets_24 {L : List (Nat → Int)} {C : List Nat} (h : L.length = C.length) (h4 : C.length ≤ 4) (hx : ∀ x ∈ L, ∀ c, -1 ≤ x c ∧ x c ≤ 1) : -24 ≤ dets L C ∧ dets L C ≤ 24 := by
  have := dets_le L C h hx
  have := fac_le h4
  omega
theorem sumTo_ok {x : Nat → Int} {L : List (Nat → Int)} {C : List Nat} (hL : L.length + 1 = C.length) (h4 : C.length ≤ 4) (h : ∀ c, -1 ≤ x c ∧ x c ≤ 1) (hx : ∀ y ∈ L, ∀ c, -1 ≤ y c ∧ y c ≤ 1)
    {j : Nat} (hj : j ≤ C.length) : -120 ≤ sumTo x (dets L) C j ∧ sumTo x (dets L) C j ≤ 120 := by
  have h1 := rest_le hL h hx hj
  have h2 := dets_24 (L := x :: L) (C := C) (by simpa using hL) h4 (fun y hy c => by
    rcases List.mem_cons.1 hy with rfl | hy
    · exact h c
    · exact hx y hy c)
  have e : dets (x :: L) C = alt x (dets L) C := rfl
  rw [e] at h2
  have h3 : ((C.length - j : Nat) : Int) * fac L.length ≤ 4 * 24 :=
    Int.mul_le_mul (by omega) (fac_le (by omega)) (fac_nn _) (by omega)
  unfold sumTo
  rcases sg_or j with h | h <;> rw [h] <;> omega

/-- The places of a set. -/
def pick (m s : Nat) : List Nat := (List.range m).filter fun i => decide (s / 2 ^ i % 2 = 1)
theorem pick_succ (m s : Nat) : pick (m + 1) s = if s / 2 ^ m % 2 = 1 then pick m s ++ [m] else pick m s := by
  unfold pick
  rw [List.range_succ, List.filter_append]
  by_cases h : s / 2 ^ m % 2 = 1 <;> simp [h]
theorem pick_sub (m s : Nat) : (pick m s).Sublist (List.range m) := List.filter_sublist
theorem pick_lt {m s i : Nat} (h : i ∈ pick m s) : i < m := List.mem_range.1 ((pick_sub m s).mem h)
theorem pick_le (m s : Nat) : (pick m s).length ≤ m := by simpa using (pick_sub m s).length_le
theorem mask_of (P : Nat → Bool) : ∀ m, ∃ s, s < 2 ^ m ∧ ∀ i, i < m → (s / 2 ^ i % 2 = 1 ↔ P i = true)
  | 0 => ⟨0, by decide, fun i h => absurd h (Nat.not_lt_zero i)⟩
  | m + 1 => by
    obtain ⟨s, hs, h⟩ := mask_of P m
    have hp : (2 : Nat) ^ (m + 1) = 2 ^ m * 2 := Nat.pow_succ 2 m
    by_cases hP : P m = true
    · refine ⟨s + 2 ^ m, by omega, fun i hi => ?_⟩
      rcases Nat.lt_or_ge i m with him | him
      · have e : (2 : Nat) ^ m = 2 ^ i * (2 * 2 ^ (m - i - 1)) := by
          rw [← Nat.pow_succ', ← Nat.pow_add]; congr 1; omega
        rw [e, Nat.add_mul_div_left s _ (Nat.two_pow_pos i), Nat.add_mul_mod_self_left]
        exact h i him
      · have : i = m := by omega
        subst this
        have e : (s + 2 ^ i) / 2 ^ i = 1 := by
          rw [Nat.add_div_right s (Nat.two_pow_pos i), Nat.div_eq_of_lt hs]
        rw [e]; simp [hP]
    · refine ⟨s, by omega, fun i hi => ?_⟩
      rcases Nat.lt_or_ge i m with him | him
      · exact h i him
      · have : i = m := by omega
        subst this
        rw [Nat.div_eq_of_lt hs]; simp [hP]
theorem sub_filter {C l : List Nat} (h : C.Sublist l) : l.Nodup → C = l.filter (fun c => decide (c ∈ C)) := by
  induction h with
  | slnil => intro _; rfl
  | @cons C l a h ih =>
    intro hn
    have hn' := List.nodup_cons.1 hn
    have ha : a ∉ C := fun ha => hn'.1 (h.mem ha)
    rw [List.filter_cons, if_neg (by simpa using ha)]
    exact ih hn'.2
  | @cons_cons C l a h ih =>
    intro hn
    have hn' := List.nodup_cons.1 hn
    rw [List.filter_cons, if_pos (by simp)]
    congr 1
    have e := ih hn'.2
    have : l.filter (fun c => decide (c ∈ a :: C)) = l.filter (fun c => decide (c ∈ C)) := List.filter_congr fun c hc => by
      have : c ≠ a := fun e => hn'.1 (e ▸ hc)
      simp [this]
    rw [this, ← e]
theorem pick_of_sub {C : List Nat} {m : Nat} (h : C.Sublist (List.range m)) : ∃ s, s < 2 ^ m ∧ pick m s = C := by
  obtain ⟨s, hs, hb⟩ := mask_of (fun i => decide (i ∈ C)) m
  refine ⟨s, hs, ?_⟩
  rw [sub_filter h List.nodup_range]
  unfold pick
  refine List.filter_congr fun i hi => ?_
  have := hb i (List.mem_range.1 hi)
  by_cases h1 : i ∈ C <;> simp [h1] at this ⊢ <;> omega
theorem pick_perm {I : List Nat} {m : Nat} (hn : I.Nodup) (h : ∀ i ∈ I, i < m) : ∃ s, s < 2 ^ m ∧ (pick m s).Perm I := by
  obtain ⟨s, hs, hb⟩ := mask_of (fun i => decide (i ∈ I)) m
  refine ⟨s, hs, (List.perm_ext_iff_of_nodup ((pick_sub m s).nodup List.nodup_range) hn).2 fun a => ?_⟩
  constructor
  · intro ha
    have h1 := pick_lt ha
    have h2 := (List.mem_filter.1 ha).2
    have := hb a h1
    simp at h2 this
    exact this.1 h2
  · intro ha
    refine List.mem_filter.2 ⟨List.mem_range.2 (h a ha), ?_⟩
    have := hb a (h a ha)
    simp at this ⊢
    exact this.2 ha

/-- The greatest of a row of numbers, and of rows of them. -/
def minIn (q : Nat → Nat → Nat) (R b : Nat) : Nat → Nat
  | 0 => b
  | k + 1 => max (minIn q R b k) (q R k)
def minOut (q : Nat → Nat → Nat) (N : Nat) : Nat → Nat
  | 0 => 0
  | R + 1 => minIn q R (minOut q N R) N
theorem minIn_ge (q : Nat → Nat → Nat) (R b : Nat) : ∀ N, b ≤ minIn q R b N ∧ ∀ k, k < N → q R k ≤ minIn q R b N
  | 0 => ⟨Nat.le_refl b, fun k h => absurd h (Nat.not_lt_zero k)⟩
  | N + 1 => by
    have h := minIn_ge q R b N
    rw [minIn]
    refine ⟨by omega, fun k hk => ?_⟩
    rcases Nat.lt_or_ge k N with h1 | h1
    · have := h.2 k h1; omega
    · have : k = N := by omega
      subst this; omega
theorem minIn_mem (q : Nat → Nat → Nat) (R b : Nat) : ∀ N, minIn q R b N = b ∨ ∃ k, k < N ∧ minIn q R b N = q R k
  | 0 => .inl rfl
  | N + 1 => by
    rw [minIn]
    rcases Nat.le_total (q R N) (minIn q R b N) with h | h
    · rw [Nat.max_eq_left h]
      rcases minIn_mem q R b N with h | ⟨k, hk, h⟩
      · exact .inl h
      · exact .inr ⟨k, by omega, h⟩
    · rw [Nat.max_eq_right h]
      exact .inr ⟨N, by omega, rfl⟩
theorem minOut_ge (q : Nat → Nat → Nat) (N : Nat) : ∀ m R k, R < m → k < N → q R k ≤ minOut q N m
  | 0, R, _, h, _ => absurd h (Nat.not_lt_zero R)
  | m + 1, R, k, h, hk => by
    have h1 := minIn_ge q m (minOut q N m) N
    rw [minOut]
    rcases Nat.lt_or_ge R m with h2 | h2
    · have := minOut_ge q N m R k h2 hk; omega
    · have : R = m := by omega
      subst this
      exact h1.2 k hk
theorem minOut_mem (q : Nat → Nat → Nat) (N : Nat) : ∀ m, minOut q N m = 0 ∨ ∃ R k, R < m ∧ k < N ∧ minOut q N m = q R k
  | 0 => .inl rfl
  | m + 1 => by
    rw [minOut]
    rcases minIn_mem q m (minOut q N m) N with h | ⟨k, hk, h⟩
    · rw [h]
      rcases minOut_mem q N m with h | ⟨R, k, hR, hk, h⟩
      · exact .inl h
      · exact .inr ⟨R, k, by omega, hk, h⟩
    · exact .inr ⟨m, k, by omega, hk, h⟩

/-- How many columns the rows of a part have: none where there are no rows. -/
def widthOf (I C : List Nat) : Nat := if I = [] then 0 else C.length
/-- The size of a part whose determinant is not zero. -/
def minorQ (p : Int) (M : Nat → Nat → Int) (m n R k : Nat) : Nat :=
  if (pick m R).length = widthOf (pick m R) (pick n k) then
    if p ∣ dets ((pick m R).map M) (pick n k) then 0 else widthOf (pick m R) (pick n k)
  else 0
def minorsM (p : Int) (M : Nat → Nat → Int) (m n : Nat) : Nat := minOut (minorQ p M m n) (2 ^ n) (2 ^ m)
theorem minorQ_rk {p : Int} {M : Nat → Nat → Int} {m n : Nat} (h1 : ¬ p ∣ 1) (R k : Nat) : Rk p n (rowsOf m M) (minorQ p M m n R k) := by
  have h0 : Rk p n (rowsOf m M) 0 := ⟨[], [], fun x hx => absurd hx List.not_mem_nil, rfl, rfl, List.nil_sublist _, h1⟩
  unfold minorQ
  split
  · rename_i he
    split
    · exact h0
    · rename_i hd
      by_cases hI : pick m R = []
      · simp only [widthOf, if_pos hI]; exact h0
      · simp only [widthOf, if_neg hI] at he ⊢
        refine ⟨(pick m R).map M, pick n k, fun x hx => ?_, by simp [he], rfl, pick_sub n k, hd⟩
        obtain ⟨i, hi, rfl⟩ := List.mem_map.1 hx
        exact ⟨i, pick_lt hi, rfl⟩
  · exact h0
theorem rk_minors {p : Int} {M : Nat → Nat → Int} {m n k : Nat} (h : Rk p n (rowsOf m M) k) : k ≤ minorsM p M m n := by
  obtain ⟨L, C, hL, hk, hCk, hC, hd⟩ := h
  have hI : ∃ I : List Nat, (∀ i ∈ I, i < m) ∧ I.map M = L := by
    clear hk hd
    induction L with
    | nil => exact ⟨[], fun i hi => absurd hi List.not_mem_nil, rfl⟩
    | cons x L ih =>
      obtain ⟨I, hI, e⟩ := ih fun y hy => hL y (List.mem_cons_of_mem x hy)
      obtain ⟨i, hi, hx⟩ := hL x List.mem_cons_self
      refine ⟨i :: I, fun j hj => ?_, by rw [List.map_cons, e, hx]⟩
      rcases List.mem_cons.1 hj with rfl | hj
      · exact hi
      · exact hI j hj
  obtain ⟨I, hI, rfl⟩ := hI
  have hn : I.Nodup := Classical.byContradiction fun hn => hd (by
    have : ¬ (I.map M).Nodup := fun h => hn (by
      have := List.Pairwise.of_map (R := (· ≠ ·)) (S := (· ≠ ·)) M (fun a b h e => h (by rw [e])) h
      exact this)
    rw [dets_dup this]; exact ⟨0, by omega⟩)
  obtain ⟨R, hR, hp⟩ := pick_perm hn hI
  obtain ⟨s, hs, he⟩ := pick_of_sub hC
  have hq : minorQ p M m n R s = k := by
    unfold minorQ
    have hl : (pick m R).length = k := by rw [hp.length_eq, ← hk]; simp
    have hnd : ¬ p ∣ dets ((pick m R).map M) (pick n s) := fun h => hd (by
      obtain ⟨u, hu, e⟩ := dets_perm (hp.map M)
      rw [e, ← he]
      exact Int.dvd_mul_of_dvd_right h)
    have hw : widthOf (pick m R) (pick n s) = k := by
      unfold widthOf
      split
      · rename_i h; rw [h] at hl; exact hl
      · rw [he, hCk]
    rw [hw, if_pos hl, if_neg hnd]
  rw [← hq]
  exact minOut_ge _ _ _ R s hR hs
/-- The reference's minors give the rank. -/
theorem minors_isRk {p : Int} {M : Nat → Nat → Int} {m n : Nat} (h1 : ¬ p ∣ 1) : IsRk p n (rowsOf m M) (minorsM p M m n) := by
  refine ⟨?_, fun k hk => rk_minors hk⟩
  rcases minOut_mem (minorQ p M m n) (2 ^ n) (2 ^ m) with h | ⟨R, k, -, -, h⟩
  · unfold minorsM; rw [h]
    exact ⟨[], [], fun x hx => absurd hx List.not_mem_nil, rfl, rfl, List.nil_sublist _, h1⟩
  · unfold minorsM; rw [h]
    exact minorQ_rk h1 R k
end Go.Proofs.YtpplihpfjniacaaDoor
