/- Plain: ranks of a table turned over, with rows exchanged, with all values turned; lengths and partings with all values turned. -/
import Derived.Test.YtaapamoglgpocaaRk4
import Derived.Test.YtaapamoglgpocaaBndPlain
import Derived.Test.YtaapamoglgpocaaPart3
import Derived.Test.YtaapamoglgpocaaRLen2
import Derived.IntWalk
import Derived.BigRegion
namespace Go.Proofs.Ytaapamoglgpocaa

/-- A sum of some vectors, each so often. -/
def comb (a : Nat → Int) : List (Nat → Int) → Nat → Int
  | [], _ => 0
  | y :: L, c => a L.length * y c + comb a L c
theorem comb_lin (a b : Nat → Int) (u v : Int) (c : Nat) : ∀ L, comb (fun l => u * a l + v * b l) L c = u * comb a L c + v * comb b L c
  | [] => by simp [comb]
  | y :: L => by
    simp only [comb]
    rw [comb_lin a b u v c L]
    grind
theorem comb_congr {a b : Nat → Int} (c : Nat) : ∀ L, (∀ l, l < L.length → a l = b l) → comb a L c = comb b L c
  | [], _ => rfl
  | y :: L, h => by
    simp only [comb]
    rw [comb_congr c L (fun l hl => h l (by simp; omega)), h L.length (by simp)]
theorem comb_zero (c : Nat) : ∀ L, comb (fun _ => 0) L c = 0
  | [] => rfl
  | y :: L => by simp only [comb]; rw [comb_zero c L]; omega
theorem comb_unit : ∀ (L : List (Nat → Int)) (x : Nat → Int), x ∈ L → ∃ a, ∀ c, comb a L c = x c
  | [], x, h => absurd h List.not_mem_nil
  | y :: L, x, h => by
    rcases List.mem_cons.1 h with rfl | h
    · refine ⟨fun l => if l = L.length then 1 else 0, fun c => ?_⟩
      simp only [comb]
      rw [comb_congr (b := fun _ => 0) c L (fun l hl => if_neg (by omega)), comb_zero]
      simp
    · obtain ⟨a, ha⟩ := comb_unit L x h
      refine ⟨fun l => if l = L.length then 0 else a l, fun c => ?_⟩
      simp only [comb]
      rw [comb_congr (b := a) c L (fun l hl => if_neg (by omega)), ha]
      simp
/-- What is made of some vectors is a sum of them, up to a factor. -/
theorem Spn.coef {p : Int} (hp : Prim p) (h1 : ¬ p ∣ 1) {n : Nat} {L : List (Nat → Int)} {x : Nat → Int} (h : Spn p n (· ∈ L) x) :
    ∃ (d : Int) (a : Nat → Int), ¬ p ∣ d ∧ ∀ c, c < n → p ∣ d * x c - comb a L c := by
  induction h with
  | base h =>
    obtain ⟨a, ha⟩ := comb_unit L _ h
    exact ⟨1, a, h1, fun c _ => by rw [ha]; exact ⟨0, by omega⟩⟩
  | @lin u v x y _ _ ih1 ih2 =>
    obtain ⟨d, a, hd, ha⟩ := ih1
    obtain ⟨e, b, he, hb⟩ := ih2
    refine ⟨d * e, fun l => (u * e) * a l + (v * d) * b l, fun h => (hp _ _ h).elim hd he, fun c hc => ?_⟩
    rw [comb_lin]
    have h1 := Int.dvd_mul_of_dvd_right (b := u * e) (ha c hc)
    have h2 := Int.dvd_mul_of_dvd_right (b := v * d) (hb c hc)
    have h3 := Int.dvd_add h1 h2
    have e1 : d * e * (u * x c + v * y c) - (u * e * comb a L c + v * d * comb b L c) = u * e * (d * x c - comb a L c) + v * d * (e * y c - comb b L c) := by grind
    rw [e1]; exact h3
  | @zero x h =>
    exact ⟨1, fun _ => 0, h1, fun c hc => by rw [comb_zero]; have := h c hc; rwa [Int.one_mul, Int.sub_zero]⟩
  | @quot d' x h _ ih =>
    obtain ⟨d, a, hd, ha⟩ := ih
    refine ⟨d * d', a, fun h' => (hp _ _ h').elim hd h, fun c hc => ?_⟩
    have := ha c hc
    rwa [← Int.mul_assoc] at this
/-- One factor for all rows. -/
theorem coefs {p : Int} (hp : Prim p) (h1 : ¬ p ∣ 1) {n : Nat} {L : List (Nat → Int)} {M : Nat → Nat → Int} : ∀ m, (∀ i, i < m → Spn p n (· ∈ L) (M i)) →
    ∃ (D : Int) (a : Nat → Nat → Int), ¬ p ∣ D ∧ ∀ i, i < m → ∀ c, c < n → p ∣ D * M i c - comb (a i) L c
  | 0, _ => ⟨1, fun _ _ => 0, h1, fun i hi => absurd hi (Nat.not_lt_zero i)⟩
  | m + 1, h => by
    obtain ⟨D, a, hD, ha⟩ := coefs hp h1 m (fun i hi => h i (by omega))
    obtain ⟨d, b, hd, hb⟩ := (h m (Nat.lt_succ_self m)).coef hp h1
    refine ⟨D * d, fun i l => if i = m then D * b l + 0 * b l else d * a i l + 0 * a i l, fun h' => (hp _ _ h').elim hD hd, fun i hi c hc => ?_⟩
    by_cases him : i = m
    · subst him
      have e : comb (fun l => if i = i then D * b l + 0 * b l else d * a i l + 0 * a i l) L c = D * comb b L c + 0 * comb b L c := by
        rw [← comb_lin]; exact comb_congr c L fun l _ => if_pos rfl
      show p ∣ D * d * M i c - comb (fun l => if i = i then D * b l + 0 * b l else d * a i l + 0 * a i l) L c
      rw [e]
      have := Int.dvd_mul_of_dvd_right (b := D) (hb c hc)
      have e2 : D * d * M i c - (D * comb b L c + 0 * comb b L c) = D * (d * M i c - comb b L c) := by grind
      rw [e2]; exact this
    · have e : comb (fun l => if i = m then D * b l + 0 * b l else d * a i l + 0 * a i l) L c = d * comb (a i) L c + 0 * comb (a i) L c := by
        rw [← comb_lin]; exact comb_congr c L fun l _ => if_neg him
      show p ∣ D * d * M i c - comb (fun l => if i = m then D * b l + 0 * b l else d * a i l + 0 * a i l) L c
      rw [e]
      have := Int.dvd_mul_of_dvd_right (b := d) (ha i (by omega) c hc)
      have e2 : D * d * M i c - (d * comb (a i) L c + 0 * comb (a i) L c) = d * (D * M i c - comb (a i) L c) := by grind
      rw [e2]; exact this
theorem comb_cols {p : Int} {m : Nat} (a : Nat → Nat → Int) (r : Nat) (c : Nat) : ∀ (L : List (Nat → Int)), L.length ≤ r →
    Spn p m (· ∈ (List.range r).map fun l => fun i => a i l) (fun i => comb (a i) L c)
  | [], _ => .zero fun i _ => ⟨0, by simp [comb]⟩
  | y :: L, h => by
    have h1 : L.length < r := by simp at h; omega
    have b1 : Spn p m (· ∈ (List.range r).map fun l => fun i => a i l) (fun i => a i L.length) := .base (List.mem_map.2 ⟨L.length, List.mem_range.2 h1, rfl⟩)
    have b2 := comb_cols (p := p) (m := m) a r c L (by omega)
    have := Spn.lin (y c) 1 b1 b2
    have e : (fun i => y c * a i L.length + 1 * comb (a i) L c) = fun i => comb (a i) (y :: L) c := by funext i; simp only [comb]; grind
    rwa [e] at this
/-- The rank of the columns is no greater. -/
theorem cols_le {p : Int} (hp : Prim p) (h1 : ¬ p ∣ 1) {m n r : Nat} {M : Nat → Nat → Int} (h : IsRkB p n (rowsOf m M) r) {k : Nat} (hk : Rk p m (rowsOf n fun c i => M i c) k) : k ≤ r := by
  obtain ⟨-, L, hL, hV⟩ := h
  obtain ⟨D, a, hD, ha⟩ := coefs hp h1 (n := n) (L := L) (M := M) m fun i hi => hV _ ⟨i, hi, rfl⟩
  have h2 : Rk p m (· ∈ (List.range r).map fun l => fun i => a i l) k := hk.spn hp fun x ⟨c, hc, hx⟩ => by
    subst hx
    refine .quot hD ((comb_cols (p := p) (m := m) a r c L (by omega)).cong fun i hi => ha i hi c hc)
  simpa using h2.le

theorem rankN_base {p : Int} (hp : p = 0 ∨ p = 2) {t : List (List Int)} (ht : T.isTab t = true) : IsRkB p (T.cols t) (rowsOf t.length (T.ent t)) (rankN p t) := by
  obtain ⟨⟨t1, t2, t3, t4⟩, _⟩ := T.isTab_iff.1 ht
  rcases hp with rfl | rfl
  · unfold rankN
    rw [← rank0_eq ht]
    refine rkGo_base (ok := fun s x => -bnd s ≤ x ∧ x ≤ bnd s) prim_zero (by decide) t2 t1 cross0_ok (fun s x _ h => Int.zero_dvd.1 h) (fun i _ c _ => ?_)
    have := T.ent_val (i := i) (j := c) ht
    show -(1 : Int) ≤ _ ∧ _ ≤ (1 : Int)
    omega
  · unfold rankN
    rw [← rank2_eq ht]
    refine rkGo_base (ok := fun _ x => x = 0 ∨ x = 1) prim_two (by decide) t2 t1 cross2_ok (fun s x hx h => ?_) (fun i _ c _ => ?_)
    · omega
    · have := T.ent_val (i := i) (j := c) ht
      show _ ∨ _
      omega
theorem prim_of {p : Int} (hp : p = 0 ∨ p = 2) : Prim p ∧ ¬ p ∣ 1 := by
  rcases hp with rfl | rfl
  · exact ⟨prim_zero, by decide⟩
  · exact ⟨prim_two, by decide⟩
theorem rank2_le {t : List (List Int)} (ht : T.isTab t = true) : rankN 2 t ≤ rankN 0 t := by
  refine (rankN_base (.inl rfl) ht).1.2 _ ?_
  obtain ⟨L, C, h1, h2, h3, h4, h5⟩ := (rankN_base (.inr rfl) ht).1.1
  exact ⟨L, C, h1, h2, h3, h4, fun h => h5 (by rw [Int.zero_dvd.1 h]; exact ⟨0, by omega⟩)⟩
/-- Rows that are alike up to their places. -/
theorem rank_alike {p : Int} (hp : p = 0 ∨ p = 2) {t u : List (List Int)} (ht : T.isTab t = true) (hu : T.isTab u = true) (hc : T.cols u = T.cols t)
    (h : ∀ i, i < t.length → ∃ k, k < u.length ∧ ∀ c, c < T.cols t → T.ent t i c = T.ent u k c) : rankN p t ≤ rankN p u := by
  have hb := rankN_base hp hu
  rw [hc] at hb
  refine hb.1.2 _ ((rankN_base hp ht).1.1.spn (prim_of hp).1 fun x ⟨i, hi, hx⟩ => ?_)
  subst hx
  obtain ⟨k, hk, e⟩ := h i hi
  refine (Spn.base (V := rowsOf u.length (T.ent u)) ⟨k, hk, rfl⟩).cong fun c hc' => ?_
  rw [e c hc']; exact ⟨0, by omega⟩
theorem rank_over_le {p : Int} (hp : p = 0 ∨ p = 2) {t u : List (List Int)} (ht : T.isTab t = true) (hu : T.isTab u = true) (hl : u.length = T.cols t) (hc : T.cols u = t.length)
    (h : ∀ i c, i < t.length → c < T.cols t → T.ent u c i = T.ent t i c) : rankN p u ≤ rankN p t := by
  have hk := (rankN_base hp hu).1.1
  rw [hl, hc] at hk
  refine cols_le (prim_of hp).1 (prim_of hp).2 (rankN_base hp ht) (hk.spn (prim_of hp).1 fun x ⟨c, hcc, hx⟩ => ?_)
  subst hx
  refine (Spn.base (V := rowsOf (T.cols t) fun c i => T.ent t i c) ⟨c, hcc, rfl⟩).cong fun i hi => ?_
  show p ∣ T.ent u c i - T.ent t i c
  rw [h i c hi hcc]; exact ⟨0, by omega⟩
theorem rank_over {p : Int} (hp : p = 0 ∨ p = 2) {t : List (List Int)} (ht : T.isTab t = true) : rankN p (overT t) = rankN p t := by
  have hu := over_isTab ht
  obtain ⟨⟨t1, t2, t3, t4⟩, _⟩ := T.isTab_iff.1 ht
  have hl := overT_length t
  have hc : T.cols (overT t) = t.length := by
    have e : T.cols (overT t) = ((overT t).getD 0 []).length := rfl
    rw [e, overT_get (by omega)]
    unfold lineC; simp
  have hle := rank_over_le hp ht hu hl hc (fun i c hi hcc => over_ent hi hcc)
  have hge := rank_over_le hp hu ht hc.symm hl.symm (fun c i hcc hi => by rw [hl] at hcc; rw [hc] at hi; exact (over_ent hi hcc).symm)
  omega
/-- With all values turned. -/
theorem rank_flip {p : Int} (hp : p = 0 ∨ p = 2) {t u : List (List Int)} (ht : T.isTab t = true) (hu : T.isTab u = true) (hl : u.length = t.length) (hc : T.cols u = T.cols t)
    (h : ∀ i c, i < t.length → c < T.cols t → T.ent u i c = 1 - T.ent t i c) : rankN p u ≤ rankN p t + 1 := by
  obtain ⟨-, L, hL, hV⟩ := rankN_base hp ht
  have hk := (rankN_base hp hu).1.1
  rw [hl, hc] at hk
  have h2 : Rk p (T.cols t) (· ∈ (fun _ => (1 : Int)) :: L) (rankN p u) := hk.spn (prim_of hp).1 fun x ⟨i, hi, hx⟩ => by
    subst hx
    have b1 : Spn p (T.cols t) (· ∈ (fun _ => (1 : Int)) :: L) (fun _ => (1 : Int)) := .base List.mem_cons_self
    have b2 : Spn p (T.cols t) (· ∈ (fun _ => (1 : Int)) :: L) (T.ent t i) := (hV _ ⟨i, hi, rfl⟩).trans fun y hy => .base (List.mem_cons_of_mem _ hy)
    refine (Spn.lin 1 (-1) b1 b2).cong fun c hcc => ?_
    rw [h i c hi hcc]; exact ⟨0, by omega⟩
  have := h2.le
  simpa [hL] using this

/-- Clear in one just where it is in the other. -/
theorem clear_flip {t u : List (List Int)} (ht : T.isTab t = true) (hu : T.isTab u = true) (hl : u.length = t.length) (hc : T.cols u = T.cols t)
    (h : ∀ i c, i < t.length → c < T.cols t → T.ent u i c = 1 - T.ent t i c) (r k : Nat) : T.clear u r k = T.clear t r k := by
  rw [Bool.eq_iff_iff, T.clear_iff hu, T.clear_iff ht]
  unfold T.Mono
  rw [hl, hc]
  constructor
  · intro hm a b a' b' h1 h2 h3 h4 h5 h6
    have := hm a b a' b' h1 h2 h3 h4 h5 h6
    rw [h a b h1 h2, h a' b' h3 h4] at this
    omega
  · intro hm a b a' b' h1 h2 h3 h4 h5 h6
    have := hm a b a' b' h1 h2 h3 h4 h5 h6
    rw [h a b h1 h2, h a' b' h3 h4]
    omega
theorem lenF_flip {t u : List (List Int)} (h : ∀ r k, T.clear u r k = T.clear t r k) : ∀ f r c, T.lenF u f r c = T.lenF t f r c
  | 0, _, _ => rfl
  | f + 1, r, c => by
    have e : T.lenF u f = T.lenF t f := by funext r c; exact lenF_flip h f r c
    rw [T.lenF, T.lenF, h, e]
theorem len_flip {t u : List (List Int)} (h : ∀ r k, T.clear u r k = T.clear t r k) (r c : Nat) : T.len u r c = T.len t r c := lenF_flip h _ r c
theorem leastF_flip {t u : List (List Int)} (hl : u.length = t.length) (hc : T.cols u = T.cols t) (h : ∀ r k, T.clear u r k = T.clear t r k) : ∀ f left, leastF u f left = leastF t f left
  | 0, _ => rfl
  | f + 1, left => by
    have e : leastF u f = leastF t f := by funext x; exact leastF_flip hl hc h f x
    have e2 : allRects u = allRects t := by unfold allRects; rw [hl, hc]
    have e3 : stepL u (leastF t f) left = stepL t (leastF t f) left := by
      funext b p
      unfold stepL okL
      rw [h]
    rw [leastF, leastF, e, e2, e3]
theorem part_flip {t u : List (List Int)} (hl : u.length = t.length) (hc : T.cols u = T.cols t) (h : ∀ r k, T.clear u r k = T.clear t r k) : partN u = partN t := by
  unfold partN leastN
  rw [hl, hc, leastF_flip hl hc h]
end Go.Proofs.Ytaapamoglgpocaa

/- Walk: a copy of a table whose rows lie apart; tables by functions. -/
namespace Go.Proofs.Ytaapamoglgpocaa
open Go.RowKit

theorem mod_less (a : Int) (m : Nat) (h0 : 0 < m) (h1 : m ≤ 1000000) : ∃ G : Nat, wrap64 ((IntKind.u64.wrap a).tmod (m : Int)) = (G : Int) ∧ G < m := by
  have hu : 0 ≤ IntKind.u64.wrap a := by simp only [IntKind.wrap, IntKind.bits, IntKind.signed]; simp; omega
  have h2 : (IntKind.u64.wrap a).tmod (m : Int) = IntKind.u64.wrap a % (m : Int) := Int.tmod_eq_emod_of_nonneg hu
  have h3 : 0 ≤ IntKind.u64.wrap a % (m : Int) := Int.emod_nonneg _ (by omega)
  have h4 : IntKind.u64.wrap a % (m : Int) < (m : Int) := Int.emod_lt_of_pos _ (by omega)
  rw [h2, IntWalk.wrap64_in _ ⟨by omega, by omega⟩]
  exact ⟨(IntKind.u64.wrap a % (m : Int)).toNat, by omega, by omega⟩

/-- A table by a function. -/
theorem tab_len (N : Nat → Nat → Int) (m n : Nat) : (rowsFrom N 0 m n).length = m := by rw [rowsFrom_len]; omega
theorem tab_getR {N : Nat → Nat → Int} {m n i : Nat} (h : i < m) : (rowsFrom N 0 m n).getD i [] = (List.range n).map (N i) := by
  rw [rowsFrom_get (by omega), Nat.zero_add]
theorem tab_ent {N : Nat → Nat → Int} {m n i c : Nat} (hi : i < m) (hc : c < n) : T.ent (rowsFrom N 0 m n) i c = N i c := by
  unfold T.ent
  rw [tab_getR hi, range_get hc]
theorem tab_cols {N : Nat → Nat → Int} {m n : Nat} (h : 0 < m) : T.cols (rowsFrom N 0 m n) = n := by
  unfold T.cols
  rw [tab_getR h]; simp
theorem tab_is {N : Nat → Nat → Int} {m n : Nat} (h : 1 ≤ m ∧ m ≤ 4 ∧ 1 ≤ n ∧ n ≤ 4) (hN : ∀ i c, i < m → c < n → 0 ≤ N i c ∧ N i c ≤ 1) : T.isTab (rowsFrom N 0 m n) = true := by
  refine T.isTab_iff.2 ⟨by rw [tab_len, tab_cols (by omega)]; exact h, fun r hr => ?_⟩
  obtain ⟨i, hi, rfl⟩ := List.mem_map.1 hr
  have hi' : i < m - 0 := List.mem_range.1 hi
  rw [tab_cols (by omega)]
  refine T.rowOk_iff.2 ⟨by simp, fun x hx => ?_⟩
  obtain ⟨c, hc, rfl⟩ := List.mem_map.1 hx
  exact hN _ c (by omega) (List.mem_range.1 hc)
theorem MatP.see0 {w : World} {base O m n : Nat} {G K : Nat → Nat} {M : Nat → Nat → Int} (h : MatP w base O m n G K M) (cap : Nat) (hcap : m ≤ cap) :
    See2 w (.slice (some ⟨O, 0, none⟩) m cap) (rowsFrom M 0 m n) := by
  have := h.see 0 cap (by omega)
  rwa [Nat.sub_zero] at this

set_option maxRecDepth 100000 in
set_option maxHeartbeats 1000000 in
theorem table_new3 (v : Value) (t : List (List Int)) (w : World) (hv : See2 w v t) (hl : t.length ≤ 9223372036854775807) :
    Calls Try.prog 18 #[v] w fun e w' => ∃ v', e = .returned v' ∧ Rows3 w' w.heap.size v' (T.cut t) ∧ Chg [] w w' := by
  obtain ⟨i0, hi, hz0, hz1, hz2⟩ := info_parts infoInts
  obtain ⟨ao, cap, rfl, _, hA⟩ := hv
  have kmin := fun w ts t x y => @run_min_2 Try.prog w ts t x y
  have HA := hide hA
  clear hA
  generalize hn : t.length = n at *
  have HN := hide hn
  clear hn
  go_enter Try.func18, Try.ntmps18
  go_wp2
  go_loopw [3, 8] (fun o i wr => ∃ j : Nat, j ≤ n ∧ i = .int .i64 (j : Int) ∧ Hid (Rows3 wr w.heap.size o (((t.take j).take 6).map (·.take 6)) ∧ Chg [] w wr)) (fun _ i _ => (n - (intOf i).toNat))
  case atStart => exact ⟨0, Nat.zero_le _, rfl, hide ⟨Rows3.nil _ _, Chg.refl _ _⟩⟩
  case round =>
    obtain ⟨j, hj, rfl, hI⟩ := hrel
    by_cases hlt : j < n
    · have d1 : decide ((j : Int) < (n : Int)) = true := by simpa using hlt
      have nx : t ≠ [] := fun h => by have := HN.out; rw [h] at this; simp at this; omega
      obtain ⟨a, rfl, ba, ca⟩ := HA.out nx
      obtain ⟨u, hu, hs⟩ := ca j hlt
      obtain ⟨so, scap, rfl, hscap, HSee⟩ := see_cut hs
      have fx := ((hI.out.2.cellA (by rw [add_block]; exact ba) List.not_mem_nil).trans hu)
      obtain ⟨m, hm⟩ : ∃ m : Nat, m = min (t.getD j []).length 6 := ⟨_, rfl⟩
      obtain ⟨L, hL⟩ : ∃ L : Nat, L = (t.getD j []).length := ⟨_, rfl⟩
      rw [← hL] at fx hscap hm
      rw [← hL, ← hm] at HSee
      have him : imin (L : Int) 6 = (m : Int) := by unfold imin; split <;> omega
      have hmc : m ≤ scap := by omega
      have HSx := hide (HSee.keep hI.out.2)
      have hm6 : m ≤ 6 := by omega
      have hlm6 : ((t.getD j []).take 6).length ≤ 1000000 := by rw [List.length_take]; omega
      clear hm hL
      clear ca hu hs nx HSee
      by_cases h16 : j < 6
      · have d2 : decide ((j : Int) < 6) = true := by simp; omega
        go_wp2_with fail
        refine (Clone_new _ _ _ HSx.out hlm6).mono ?_
        rintro e w1 ⟨u', rfl, hI1, hc1⟩
        obtain ⟨bo, bc, rfl, _⟩ := row_shape hI1
        obtain ⟨us, hus, ho, hr, hd⟩ := hI.out.1
        have HD := hide hd
        have HLow : Hid (∀ (i : Nat) (u : Value) (g : Nat), us[i]? = some u → u.ownBlock = some g → g < wr.heap.size) := hide fun i u g h1 h2 => ((hr i u h1).lt g h2).2
        obtain ⟨bn, hbn⟩ : ∃ bn, bn = ((t.getD j []).take 6).length := ⟨_, rfl⟩
        rw [← hbn]
        have hlm : (((t.take j).take 6).map (·.take 6)).length = j := by rw [List.length_map, List.length_take, List.length_take, HN.out]; omega
        have ho1 := hc1.row ho (fun _ _ => List.not_mem_nil)
        rw [hlm] at ho1
        have HO := hide ho1
        have HR := hide (And.intro hus (And.intro ho1 (fun i u h => hc1.row (hr i u h) (fun _ _ => List.not_mem_nil))))
        have HI1 := hide hI1
        have HC1 := hide hc1
        have HLM := hide hlm
        have hsz := hc1.size
        have hsz0 := hI.out.2.size
        have HBn := hide hbn
        clear hI1 hc1 hus ho hr hd ho1 hlm hbn
        go_wp2_with (at_builtin; refine wpList_append_own _ rfl _ _ 22 rfl w.heap.size 38 i0 (.slice none 0 0) 1 24 Try.underlying22 hi hz0 hz1 hz2 rfl (by decide) _ _ _ rfl (HO.out.alloc _) ⟨w1.heap.size, 0, none⟩ 1 1 [.slice bo bn bc] rfl rfl (by intro j u hj; rw [add_zero_row, (Box.new w1 _ _).cell j]; simpa using hj) (by intro x hx; rw [List.mem_singleton] at hx; subst hx; rfl) (by unfold maxLen; omega) (by omega) (by simp; omega) ?_; intro v1 w2 hown1 hgrow1 _)
        go_roundw
        case rel =>
          refine ⟨j + 1, by omega, by go_num, hide ⟨?_, (((hI.out.2.trans HC1.out).alloc _).grew (HO.out.alloc _) (Nat.le_refl _) hgrow1)⟩⟩
          have e : ((t.take (j + 1)).take 6).map (·.take 6) = ((t.take j).take 6).map (·.take 6) ++ [(t.getD j []).take 6] := by
            rw [List.take_take, List.take_take, Nat.min_eq_right (by omega), Nat.min_eq_right (by omega), List.take_add_one, List.map_append, List.getD_eq_getElem?_getD, List.getElem?_eq_getElem (by rw [HN.out]; exact hlt)]
            rfl
          rw [e]
          exact Rows3.push (us := us) (u := .slice bo bn bc) (w := w1.alloc (.cells #[.slice bo bn bc] 38)) (B := wr.heap.size) (by rw [HLM.out]; exact HR.out.1.trans HLM.out) (by rw [HLM.out]; exact HO.out.alloc _) (fun i u h => (HR.out.2.2 i u h).alloc _) HD.out hI.out.2.size HLow.out (by rw [← HBn.out] at HI1 ⊢; exact HI1.out.alloc _) hgrow1 (by rw [HLM.out]; exact hown1)
        case measure => simp [intOf]; omega
      · have d2 : decide ((j : Int) < 6) = false := by simp; omega
        go_wp2
        go_roundw
        case rel => exact ⟨j + 1, by omega, by go_num, hide ⟨by
          have e : (t.take (j + 1)).take 6 = (t.take j).take 6 := by rw [List.take_take, List.take_take, Nat.min_eq_left (by omega), Nat.min_eq_left (by omega)]
          rw [e]; exact hI.out.1, hI.out.2⟩⟩
        case measure => simp [intOf]; omega
    · have d1 : decide ((j : Int) < (n : Int)) = false := by simpa using hlt
      obtain rfl : j = n := by omega
      go_wp2
      go_ret
      refine ⟨_, rfl, ?_, hI.out.2⟩
      have h := hI.out.1
      have e : t.take j = t := List.take_of_length_le (by rw [HN.out]; exact Nat.le_refl _)
      rw [e] at h
      exact h
end Go.Proofs.Ytaapamoglgpocaa
