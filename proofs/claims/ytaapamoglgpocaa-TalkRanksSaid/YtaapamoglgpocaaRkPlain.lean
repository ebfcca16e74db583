/- Plain: determinants of rows and columns, and ranks modulo a number (0 or a prime). -/
import Derived.Test.YtaapamoglgpocaaTPlain
namespace Go.Proofs.Ytaapamoglgpocaa

/-- The sum along a row, with signs that change. -/
def alt (x : Nat → Int) : (List Nat → Int) → List Nat → Int
  | _, [] => 0
  | F, c :: C => x c * F C - alt x (fun C' => F (c :: C')) C

/-- The determinant of some rows in some columns. -/
def dets : List (Nat → Int) → List Nat → Int
  | [], [] => 1
  | [], _ :: _ => 0
  | x :: L, C => alt x (dets L) C

theorem alt_lin (x : Nat → Int) (a b : Int) (C : List Nat) : ∀ (F G : List Nat → Int),
    alt x (fun C' => a * F C' + b * G C') C = a * alt x F C + b * alt x G C := by
  induction C with
  | nil => intro F G; simp [alt]
  | cons c C ih =>
    intro F G
    simp only [alt]
    rw [ih (fun C' => F (c :: C')) (fun C' => G (c :: C'))]
    grind
theorem alt_lin_left (x y : Nat → Int) (a b : Int) (C : List Nat) : ∀ (F : List Nat → Int),
    alt (fun c => a * x c + b * y c) F C = a * alt x F C + b * alt y F C := by
  induction C with
  | nil => intro F; simp [alt]
  | cons c C ih =>
    intro F
    simp only [alt]
    rw [ih (fun C' => F (c :: C'))]
    grind
theorem alt_sub (x : Nat → Int) (F G : List Nat → Int) (C : List Nat) : alt x (fun C' => F C' - G C') C = alt x F C - alt x G C := by
  have h := alt_lin x 1 (-1) C F G
  have e : (fun C' => F C' - G C') = fun C' => 1 * F C' + -1 * G C' := by funext C'; omega
  rw [e, h]; omega
theorem alt_smul (x : Nat → Int) (a : Int) (F : List Nat → Int) (C : List Nat) : alt x (fun C' => a * F C') C = a * alt x F C := by
  have h := alt_lin x a 0 C F F
  have e : (fun C' => a * F C') = fun C' => a * F C' + 0 * F C' := by funext C'; omega
  rw [e, h]; omega
theorem alt_swap (x y : Nat → Int) (C : List Nat) : ∀ (F : List Nat → Int), alt x (alt y F) C = - alt y (alt x F) C := by
  induction C with
  | nil => intro F; simp [alt]
  | cons c C ih =>
    intro F
    simp only [alt]
    rw [alt_sub x (fun C' => y c * F C') (alt y fun C'' => F (c :: C'')) C, alt_sub y (fun C' => x c * F C') (alt x fun C'' => F (c :: C'')) C,
      alt_smul, alt_smul, ih]
    omega
theorem dets_perm {L L' : List (Nat → Int)} (h : L.Perm L') : ∃ s : Int, (s = 1 ∨ s = -1) ∧ ∀ C, dets L' C = s * dets L C := by
  induction h with
  | nil => exact ⟨1, .inl rfl, fun C => by omega⟩
  | cons x _ ih =>
    obtain ⟨s, hs, h⟩ := ih
    refine ⟨s, hs, fun C => ?_⟩
    have e : dets _ = fun C => s * dets _ C := funext h
    simp only [dets]
    rw [e, alt_smul]
  | swap x y L =>
    refine ⟨-1, .inr rfl, fun C => ?_⟩
    have e1 : dets (x :: L) = alt x (dets L) := funext fun C => by simp only [dets]
    have e2 : dets (y :: L) = alt y (dets L) := funext fun C => by simp only [dets]
    rw [show dets (x :: y :: L) C = alt x (dets (y :: L)) C from by simp only [dets], show dets (y :: x :: L) C = alt y (dets (x :: L)) C from by simp only [dets], e1, e2, alt_swap]
    omega
  | trans _ _ ih1 ih2 =>
    obtain ⟨s, hs, h⟩ := ih1
    obtain ⟨u, hu, k⟩ := ih2
    refine ⟨u * s, ?_, fun C => by rw [k, h, Int.mul_assoc]⟩
    rcases hs with rfl | rfl <;> rcases hu with rfl | rfl <;> simp
theorem dets_twice (x : Nat → Int) (L : List (Nat → Int)) (C : List Nat) : dets (x :: x :: L) C = 0 := by
  have h := alt_swap x x C (dets L)
  simp only [dets]
  show alt x (alt x (dets L)) C = 0
  omega
theorem dets_lin (x y : Nat → Int) (a b : Int) (B : List (Nat → Int)) : ∀ (A : List (Nat → Int)) (C : List Nat),
    dets (A ++ (fun c => a * x c + b * y c) :: B) C = a * dets (A ++ x :: B) C + b * dets (A ++ y :: B) C
  | [], C => by simp only [List.nil_append, dets]; exact alt_lin_left x y a b C _
  | z :: A, C => by
    simp only [List.cons_append, dets]
    rw [← alt_lin]
    congr 1
    funext C'
    exact dets_lin x y a b B A C'

theorem alt_dvd (p : Int) (x : Nat → Int) (C : List Nat) : ∀ (F : List Nat → Int), (∀ C', C'.Sublist C → p ∣ F C') → p ∣ alt x F C := by
  induction C with
  | nil => intro F _; exact ⟨0, by simp [alt]⟩
  | cons c C ih =>
    intro F h
    simp only [alt]
    exact Int.dvd_sub (Int.dvd_mul_of_dvd_right (h C (List.sublist_cons_self c C))) (ih _ fun C' hC => h _ (hC.cons_cons c))
theorem alt_dvd_left (p : Int) (x : Nat → Int) (C : List Nat) : ∀ (F : List Nat → Int), (∀ c ∈ C, p ∣ x c) → p ∣ alt x F C := by
  induction C with
  | nil => intro F _; exact ⟨0, by simp [alt]⟩
  | cons c C ih =>
    intro F h
    simp only [alt]
    exact Int.dvd_sub (Int.dvd_mul_of_dvd_left (h c List.mem_cons_self)) (ih _ fun d hd => h d (List.mem_cons_of_mem c hd))
theorem dets_zero (p : Int) (x : Nat → Int) (B : List (Nat → Int)) : ∀ (A : List (Nat → Int)) (C : List Nat), (∀ c ∈ C, p ∣ x c) → p ∣ dets (A ++ x :: B) C
  | [], C, h => by simp only [List.nil_append, dets]; exact alt_dvd_left p x C _ h
  | z :: A, C, h => by
    simp only [List.cons_append, dets]
    exact alt_dvd p z C _ fun C' hC => dets_zero p x B A C' fun c hc => h c (hC.mem hc)

/-- What can be made of some rows, modulo a number, in the first columns. -/
inductive Spn (p : Int) (n : Nat) (V : (Nat → Int) → Prop) : (Nat → Int) → Prop
  | base {x : Nat → Int} (h : V x) : Spn p n V x
  | lin (a b : Int) {x y : Nat → Int} (hx : Spn p n V x) (hy : Spn p n V y) : Spn p n V (fun c => a * x c + b * y c)
  | zero {x : Nat → Int} (h : ∀ c, c < n → p ∣ x c) : Spn p n V x
  | quot {d : Int} {x : Nat → Int} (h : ¬ p ∣ d) (hx : Spn p n V (fun c => d * x c)) : Spn p n V x

/-- Products that are zero have a factor that is. -/
def Prim (p : Int) : Prop := ∀ a b : Int, p ∣ a * b → p ∣ a ∨ p ∣ b

theorem prim_zero : Prim 0 := by
  intro a b h
  rcases Int.mul_eq_zero.1 (Int.zero_dvd.1 h) with rfl | rfl
  · exact .inl ⟨0, by omega⟩
  · exact .inr ⟨0, by omega⟩
theorem prim_two : Prim 2 := by
  intro a b h
  have h1 := Int.emod_emod_of_dvd (a * b) (Int.dvd_refl 2)
  have h2 : a * b % 2 = 0 := Int.emod_eq_zero_of_dvd h
  rw [Int.mul_emod] at h2
  rcases Int.emod_two_eq a with ha | ha
  · exact .inl (Int.dvd_of_emod_eq_zero ha)
  rcases Int.emod_two_eq b with hb | hb
  · exact .inr (Int.dvd_of_emod_eq_zero hb)
  rw [ha, hb] at h2
  exact absurd h2 (by decide)

theorem Spn.out {p : Int} {n : Nat} {V : (Nat → Int) → Prop} (hp : Prim p) {x : Nat → Int} (hx : Spn p n V x) {A B : List (Nat → Int)} {C : List Nat}
    (hC : ∀ c ∈ C, c < n) (h : ∀ y, V y → p ∣ dets (A ++ y :: B) C) : p ∣ dets (A ++ x :: B) C := by
  induction hx with
  | base hv => exact h _ hv
  | lin a b _ _ ih1 ih2 =>
    rw [dets_lin]
    exact Int.dvd_add (Int.dvd_mul_of_dvd_right ih1) (Int.dvd_mul_of_dvd_right ih2)
  | zero hz => exact dets_zero p _ B A C fun c hc => hz c (hC c hc)
  | @quot d x hd _ ih =>
    have e : (fun c => d * x c) = fun c => d * x c + 0 * x c := by funext c; omega
    rw [e, dets_lin] at ih
    have e2 : d * dets (A ++ x :: B) C + 0 * dets (A ++ x :: B) C = d * dets (A ++ x :: B) C := by omega
    rw [e2] at ih
    exact (hp _ _ ih).resolve_left hd

theorem Spn.outs {p : Int} {n : Nat} {V W : (Nat → Int) → Prop} (hp : Prim p) (hVW : ∀ x, V x → Spn p n W x) {C : List Nat}
    (hC : ∀ c ∈ C, c < n) : ∀ (k : Nat) (A : List (Nat → Int)),
    (∀ L : List (Nat → Int), (∀ x ∈ L, W x) → L.length = k → p ∣ dets (A ++ L) C) →
    ∀ L : List (Nat → Int), (∀ x ∈ L, V x) → L.length = k → p ∣ dets (A ++ L) C
  | 0, A, h, L, _, hL => by
    have e : L = [] := List.length_eq_zero_iff.1 hL
    subst e
    exact h [] (fun x hx => absurd hx List.not_mem_nil) rfl
  | k + 1, A, h, [], _, hL => by simp at hL
  | k + 1, A, h, y :: L, hV, hL => by
    refine (hVW y (hV y List.mem_cons_self)).out hp hC fun x hx => ?_
    have e : A ++ x :: L = (A ++ [x]) ++ L := by simp
    rw [e]
    refine Spn.outs hp hVW hC k (A ++ [x]) (fun L' hW hk => ?_) L (fun z hz => hV z (List.mem_cons_of_mem y hz)) (by simpa using hL)
    have e2 : (A ++ [x]) ++ L' = A ++ x :: L' := by simp
    rw [e2]
    exact h (x :: L') (fun z hz => by
      rcases List.mem_cons.1 hz with rfl | hz
      · exact hx
      · exact hW z hz) (by simp [hk])

/-- k of the rows have a determinant that is not zero in some columns. -/
def Rk (p : Int) (n : Nat) (V : (Nat → Int) → Prop) (k : Nat) : Prop :=
  ∃ (L : List (Nat → Int)) (C : List Nat), (∀ x ∈ L, V x) ∧ L.length = k ∧ C.length = k ∧ C.Sublist (List.range n) ∧ ¬ p ∣ dets L C

theorem sub_lt {C : List Nat} {n : Nat} (h : C.Sublist (List.range n)) : ∀ c ∈ C, c < n := fun _ hc => List.mem_range.1 (h.mem hc)

theorem Rk.spn {p : Int} {n : Nat} {V W : (Nat → Int) → Prop} (hp : Prim p) (hVW : ∀ x, V x → Spn p n W x) {k : Nat} (h : Rk p n V k) : Rk p n W k := by
  obtain ⟨L, C, hL, hk, hCk, hC, hd⟩ := h
  refine Classical.byContradiction fun hn => hd ?_
  refine Spn.outs hp hVW (sub_lt hC) k [] (fun L' hL' hk' => ?_) L hL hk
  refine Classical.byContradiction fun hnd => hn ⟨L', C, hL', hk', hCk, hC, hnd⟩

theorem nodup_le {α : Type} : ∀ {L W : List α}, L.Nodup → (∀ x ∈ L, x ∈ W) → L.length ≤ W.length
  | [], W, _, _ => Nat.zero_le _
  | x :: L, W, hn, h => by
    obtain ⟨A, B, rfl⟩ := List.append_of_mem (h x List.mem_cons_self)
    have hn' := List.nodup_cons.1 hn
    have := nodup_le (W := A ++ B) hn'.2 fun y hy => by
      have hy2 := h y (List.mem_cons_of_mem x hy)
      rcases List.mem_append.1 hy2 with hy2 | hy2
      · exact List.mem_append.2 (.inl hy2)
      · rcases List.mem_cons.1 hy2 with rfl | hy2
        · exact absurd hy hn'.1
        · exact List.mem_append.2 (.inr hy2)
    simp only [List.length_append, List.length_cons] at this ⊢
    omega

theorem dets_dup {L : List (Nat → Int)} (h : ¬ L.Nodup) (C : List Nat) : dets L C = 0 := by
  have : ∃ x L', L.Perm (x :: x :: L') := by
    induction L with
    | nil => exact absurd List.nodup_nil h
    | cons x L ih =>
      by_cases hx : x ∈ L
      · obtain ⟨A, B, rfl⟩ := List.append_of_mem hx
        exact ⟨x, A ++ B, List.Perm.cons x List.perm_middle⟩
      · have hL : ¬ L.Nodup := fun hL => h (List.nodup_cons.2 ⟨hx, hL⟩)
        obtain ⟨y, L', hp⟩ := ih hL
        exact ⟨y, x :: L', (hp.cons x).trans ((List.Perm.swap y x _).trans (List.Perm.cons y (List.Perm.swap y x L')))⟩
  obtain ⟨x, L', hp⟩ := this
  obtain ⟨s, -, hs⟩ := dets_perm hp.symm
  rw [hs, dets_twice]; omega

theorem Rk.le {p : Int} {n : Nat} {W : List (Nat → Int)} {k : Nat} (h : Rk p n (· ∈ W) k) : k ≤ W.length := by
  obtain ⟨L, C, hL, hk, -, -, hd⟩ := h
  rw [← hk]
  refine nodup_le (Classical.byContradiction fun hn => hd ?_) hL
  rw [dets_dup hn]
  exact ⟨0, by omega⟩

/-- The greatest. -/
def IsRk (p : Int) (n : Nat) (V : (Nat → Int) → Prop) (r : Nat) : Prop := Rk p n V r ∧ ∀ k, Rk p n V k → k ≤ r

theorem IsRk.eq {p : Int} {n : Nat} {V : (Nat → Int) → Prop} {r s : Nat} (h : IsRk p n V r) (k : IsRk p n V s) : r = s :=
  Nat.le_antisymm (k.2 r h.1) (h.2 s k.1)

/-- Steps: each row has a place that all later rows have zero. -/
inductive Ech (p : Int) : List (Nat → Int) → List Nat → Prop
  | nil : Ech p [] []
  | cons {x : Nat → Int} {c : Nat} {L : List (Nat → Int)} {C : List Nat} (h : ¬ p ∣ x c) (hz : ∀ y ∈ L, p ∣ y c) (hL : Ech p L C) : Ech p (x :: L) (c :: C)

theorem dets_col (p : Int) (c : Nat) : ∀ (L : List (Nat → Int)) (C : List Nat), (∀ y ∈ L, p ∣ y c) → p ∣ dets L (c :: C)
  | [], C, _ => ⟨0, by simp [dets]⟩
  | x :: L, C, h => by
    simp only [dets, alt]
    exact Int.dvd_sub (Int.dvd_mul_of_dvd_left (h x List.mem_cons_self))
      (alt_dvd p x C _ fun C' _ => dets_col p c L C' fun y hy => h y (List.mem_cons_of_mem x hy))

theorem Ech.dets {p : Int} (hp : Prim p) (h1 : ¬ p ∣ 1) {L : List (Nat → Int)} {C : List Nat} (h : Ech p L C) : ¬ p ∣ dets L C := by
  induction h with
  | nil => exact h1
  | @cons x c L C hx hz _ ih =>
    intro hd
    simp only [Go.Proofs.Ytaapamoglgpocaa.dets, alt] at hd
    have h2 : p ∣ alt x (fun C' => Go.Proofs.Ytaapamoglgpocaa.dets L (c :: C')) C := alt_dvd p x C _ fun C' _ => dets_col p c L C' hz
    have h3 := Int.dvd_add hd h2
    rw [Int.sub_add_cancel] at h3
    rcases hp _ _ h3 with h | h
    · exact hx h
    · exact ih h

theorem Ech.snoc {p : Int} {L : List (Nat → Int)} {C : List Nat} {x : Nat → Int} {c : Nat} (h : Ech p L C) (hx : ¬ p ∣ x c) (hz : ∀ d ∈ C, p ∣ x d) : Ech p (L ++ [x]) (C ++ [c]) := by
  induction h with
  | nil => exact .cons hx (fun y hy => absurd hy List.not_mem_nil) .nil
  | @cons y d L C hy hzy _ ih =>
    refine .cons hy (fun z hz' => ?_) (ih fun e he => hz e (List.mem_cons_of_mem d he))
    rcases List.mem_append.1 hz' with h | h
    · exact hzy z h
    · rw [List.mem_singleton.1 h]; exact hz d List.mem_cons_self
theorem Ech.length {p : Int} {L : List (Nat → Int)} {C : List Nat} (h : Ech p L C) : L.length = C.length := by
  induction h with
  | nil => rfl
  | cons _ _ _ ih => simp [ih]

/-- Rows with steps, of which all are made and that are made of all: their number is the rank. -/
theorem Ech.rank {p : Int} (hp : Prim p) (h1 : ¬ p ∣ 1) {n : Nat} {V : (Nat → Int) → Prop} {L : List (Nat → Int)} {C : List Nat} (h : Ech p L C)
    (hC : C.Sublist (List.range n)) (hV : ∀ x, V x → Spn p n (· ∈ L) x) (hL : ∀ x ∈ L, Spn p n V x) : IsRk p n V L.length :=
  ⟨Rk.spn (V := (· ∈ L)) hp hL ⟨L, C, fun _ h => h, rfl, h.length.symm, hC, h.dets hp h1⟩, fun _ hk => (hk.spn hp hV).le⟩

theorem Spn.trans {p : Int} {n : Nat} {V W : (Nat → Int) → Prop} (hVW : ∀ x, V x → Spn p n W x) {x : Nat → Int} (h : Spn p n V x) : Spn p n W x := by
  induction h with
  | base h => exact hVW _ h
  | lin a b _ _ ih1 ih2 => exact .lin a b ih1 ih2
  | zero h => exact .zero h
  | quot h _ ih => exact .quot h ih
theorem Spn.cong {p : Int} {n : Nat} {V : (Nat → Int) → Prop} {x y : Nat → Int} (h : Spn p n V x) (e : ∀ c, c < n → p ∣ y c - x c) : Spn p n V y := by
  have hz : Spn p n V (fun c => y c - x c) := .zero e
  have := Spn.lin 1 1 h hz
  have e2 : (fun c => 1 * x c + 1 * (y c - x c)) = y := by funext c; omega
  rwa [e2] at this
end Go.Proofs.Ytaapamoglgpocaa
