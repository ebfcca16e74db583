/- Plain: all Loads as the reference lists them; the table of what was looked at. -/
import Derived.Test.YtohdjlgghkcaoaaMemo
namespace Go.Proofs.Ytohdjlgghkcaoaa.W

def Q7 (k : K) (a b c d e f : Nat) : List L := if fits k ⟨a, b, c, d, e, f⟩ then [⟨a, b, c, d, e, f⟩] else []
def Q6 (k : K) (a b c d e : Nat) : List L := (List.range (k.l - e + 1)).flatMap (Q7 k a b c d e)
def Q5 (k : K) (a b c d : Nat) : List L := (List.range (k.l + 1)).flatMap (Q6 k a b c d)
def Q4 (k : K) (a b c : Nat) : List L := (List.range (k.h - c + 1)).flatMap (Q5 k a b c)
def Q3 (k : K) (a b : Nat) : List L := (List.range (k.h + 1)).flatMap (Q4 k a b)
def Q2 (k : K) (a : Nat) : List L := (List.range (k.b - a + 1)).flatMap (Q3 k a)
def Q1 (k : K) : List L := (List.range (k.b + 1)).flatMap (Q2 k)
def part (acc : List L) (Q : Nat → List L) (i : Nat) : List L := acc ++ (List.range i).flatMap Q
theorem part_zero (acc : List L) (Q : Nat → List L) : part acc Q 0 = acc := by simp [part]
theorem part_succ (acc : List L) (Q : Nat → List L) (i : Nat) : part acc Q (i + 1) = part acc Q i ++ Q i := by simp [part, List.range_succ]

theorem mem_Q1 {k : K} {x : L} : x ∈ Q1 k ↔ fits k x = true := by
  constructor
  · intro h
    simp only [Q1, Q2, Q3, Q4, Q5, Q6, Q7, List.mem_flatMap, List.mem_range] at h
    obtain ⟨a, _, b, _, c, _, d, _, e, _, f, _, h⟩ := h
    split at h
    · rename_i hf
      rw [List.mem_singleton] at h
      rw [h]
      exact hf
    · cases h
  · intro h
    obtain ⟨h1, h2, h3, -⟩ := fits_iff.1 h
    simp only [Q1, Q2, Q3, Q4, Q5, Q6, Q7, List.mem_flatMap, List.mem_range]
    refine ⟨x.b0, by omega, x.b1, by omega, x.h0, by omega, x.h1, by omega, x.l0, by omega, x.l1, by omega, ?_⟩
    rw [if_pos h]
    exact List.mem_singleton.2 rfl

theorem len_fm {Q : Nat → List L} {n m c : Nat} (hn : n ≤ m) (h : ∀ i, (Q i).length ≤ c) : ((List.range n).flatMap Q).length ≤ m * c := by
  have key : ∀ n, ((List.range n).flatMap Q).length ≤ n * c := by
    intro n
    induction n with
    | zero => simp
    | succ n ih => rw [List.range_succ, List.flatMap_append, List.length_append, Nat.succ_mul]; have := h n; simp at this ⊢; simp at ih; omega
  exact Nat.le_trans (key n) (Nat.mul_le_mul_right c hn)
theorem len_Q7 (k : K) (a b c d e f : Nat) : (Q7 k a b c d e f).length ≤ 1 := by unfold Q7; split <;> simp
theorem len_Q6 {k : K} (hk : k.coins ≤ 13) (a b c d e : Nat) : (Q6 k a b c d e).length ≤ 14 * 1 := len_fm (by unfold K.coins at hk; omega) (len_Q7 k a b c d e)
theorem len_Q5 {k : K} (hk : k.coins ≤ 13) (a b c d : Nat) : (Q5 k a b c d).length ≤ 14 * (14 * 1) := len_fm (by unfold K.coins at hk; omega) (len_Q6 hk a b c d)
theorem len_Q4 {k : K} (hk : k.coins ≤ 13) (a b c : Nat) : (Q4 k a b c).length ≤ 14 * (14 * (14 * 1)) := len_fm (by unfold K.coins at hk; omega) (len_Q5 hk a b c)
theorem len_Q3 {k : K} (hk : k.coins ≤ 13) (a b : Nat) : (Q3 k a b).length ≤ 14 * (14 * (14 * (14 * 1))) := len_fm (by unfold K.coins at hk; omega) (len_Q4 hk a b)
theorem len_Q2 {k : K} (hk : k.coins ≤ 13) (a : Nat) : (Q2 k a).length ≤ 14 * (14 * (14 * (14 * (14 * 1)))) := len_fm (by unfold K.coins at hk; omega) (len_Q3 hk a)
theorem len_part {acc : List L} {Q : Nat → List L} {n m c t : Nat} (ha : acc.length ≤ t) (hn : n ≤ m) (h : ∀ i, (Q i).length ≤ c) : (part acc Q n).length ≤ t + m * c := by
  unfold part
  rw [List.length_append]
  exact Nat.add_le_add ha (len_fm hn h)

def cellsL (x : L) : List Value := [.int .i64 (x.b0 : Int), .int .i64 (x.b1 : Int), .int .i64 (x.h0 : Int), .int .i64 (x.h1 : Int), .int .i64 (x.l0 : Int), .int .i64 (x.l1 : Int), .int .i64 (x.g0 : Int), .int .i64 (x.g1 : Int)]
def rowsL (ls : List L) : List Value := ls.flatMap cellsL
theorem rowsL_append (a b : List L) : rowsL (a ++ b) = rowsL a ++ rowsL b := List.flatMap_append
theorem rowsL_len : ∀ ls : List L, (rowsL ls).length = ls.length * 8
  | [] => rfl
  | x :: ls => by unfold rowsL; rw [List.flatMap_cons, List.length_append]; have := rowsL_len ls; unfold rowsL at this; rw [this]; simp [cellsL]; omega
theorem rowsL_at : ∀ (ls : List L) (i j : Nat) (x : L), ls[i]? = some x → j < 8 → (rowsL ls)[8 * i + j]? = (cellsL x)[j]?
  | [], _, _, _, h, _ => by simp at h
  | y :: ls, 0, j, x, h, hj => by
    simp at h
    subst h
    unfold rowsL
    rw [List.flatMap_cons, List.getElem?_append_left (by simp [cellsL]; omega)]
    simp
  | y :: ls, i + 1, j, x, h, hj => by
    have := rowsL_at ls i j x (by simpa using h) hj
    unfold rowsL at this ⊢
    rw [List.flatMap_cons, List.getElem?_append_right (by simp [cellsL]; omega)]
    rw [← this]
    congr 1
    simp [cellsL]
    omega

/-- Where what is known, and a number of weighings, stand. -/
def place (k : K) (n : Nat) : Nat := 2 * ((((n * 14 + k.b) * 14 + k.h) * 14 + k.l) * 14 + k.g) + (if k.n then 1 else 0)
def sm (k : K) : Prop := k.b ≤ 13 ∧ k.h ≤ 13 ∧ k.l ≤ 13 ∧ k.g ≤ 13
theorem place_lt {k : K} {n : Nat} (hk : sm k) : place k n < (n + 1) * 76832 := by
  obtain ⟨h1, h2, h3, h4⟩ := hk
  unfold place
  split <;> omega
theorem place_ge (k : K) (n : Nat) : n * 76832 ≤ place k n := by unfold place; omega
theorem place_inj {k k' : K} {n n' : Nat} (hk : sm k) (hk' : sm k') (h : place k n = place k' n') : k = k' ∧ n = n' := by
  obtain ⟨h1, h2, h3, h4⟩ := hk
  obtain ⟨h5, h6, h7, h8⟩ := hk'
  have e1 : k.n = k'.n := by
    unfold place at h
    cases ha : k.n <;> cases hb : k'.n <;> simp [ha, hb] at h ⊢ <;> omega
  unfold place at h
  rw [e1] at h
  have e2 : k.g = k'.g := by omega
  have e3 : k.l = k'.l := by omega
  have e4 : k.h = k'.h := by omega
  have e5 : k.b = k'.b := by omega
  refine ⟨?_, by omega⟩
  cases k; cases k'
  simp_all

/-- What the table says of up to m weighings is right. -/
def MetOK (t : Nat → Nat) (m : Nat) : Prop := ∀ k n, sm k → n < m → t (place k n) = 0 ∨ (t (place k n) = 1 ∧ wins n k = true) ∨ (t (place k n) = 2 ∧ wins n k = false)
theorem MetOK.zero (m : Nat) : MetOK (fun _ => 0) m := fun _ _ _ _ => .inl rfl
def up (t : Nat → Nat) (i v : Nat) : Nat → Nat := fun j => if j = i then v else t j
theorem MetOK.low {t : Nat → Nat} {m n : Nat} (h : MetOK t m) (hn : n ≤ m) : MetOK t n := fun k j hk hj => h k j hk (by omega)
/-- An entry of these weighings says nothing of fewer. -/
theorem MetOK.up {t : Nat → Nat} {m : Nat} (h : MetOK t m) {k : K} {v : Nat} : MetOK (up t (place k m) v) m := fun k' j hk hj => by
  have h1 := place_lt (n := j) hk
  have h2 := place_ge k m
  have : place k' j ≠ place k m := by
    have : (j + 1) * 76832 ≤ m * 76832 := Nat.mul_le_mul_right _ hj
    omega
  unfold W.up
  rw [if_neg this]
  exact h k' j hk hj
/-- Behind the search: of fewer weighings it is right, of these as it was but for this entry. -/
theorem MetOK.join {t t' : Nat → Nat} {m : Nat} {k : K} (hk : sm k) (h : MetOK t (m + 1)) (h' : MetOK t' m) (hs : ∀ i, m * 76832 ≤ i → i ≠ place k m → t' i = t i)
    (hv : t' (place k m) = 0 ∨ (t' (place k m) = 1 ∧ wins m k = true) ∨ (t' (place k m) = 2 ∧ wins m k = false)) : MetOK t' (m + 1) := fun k' j hk' hj => by
  rcases (show j < m ∨ j = m by omega) with hlt | rfl
  · exact h' k' j hk' hlt
  · by_cases he : place k' j = place k j
    · obtain ⟨rfl, _⟩ := place_inj hk' hk he
      exact hv
    · rw [hs _ (place_ge k' j) he]
      exact h k' j hk' hj
end Go.Proofs.Ytohdjlgghkcaoaa.W
