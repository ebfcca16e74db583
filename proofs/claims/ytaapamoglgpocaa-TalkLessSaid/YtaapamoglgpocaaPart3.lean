/- Walk: least. -/
import Derived.Test.YtaapamoglgpocaaPartP
import Derived.Stop.RegionWithIn
import Derived.Test.YtaapamoglgpocaaValid
namespace Go.Proofs.Ytaapamoglgpocaa
open Go.RowKit
attribute [local go_sem] Oper.semAt_some

theorem region_round_quiet {P : Program} {id lp n : Nat} {Q : Exit → Act → World → Prop} {a : Act} {w : World} {l : List Oper} (C : World → Prop) (hops : noDefer l.toArray = true) (hm : P.follows .mixedOrders = true) (hB : Region.lexB .any l.toArray = true)
    (hC : C { w with drawn := w.drawn + 1 }) (h : wpQuiet P l.toArray C (fun a' => ∀ w', C w' → Q .normal a' w') l a) : (Code.region id l.toArray true).wpIn (Fence.wide.inRound lp) n P Q a w := by
  simp only [Region.lexB, Bool.and_eq_true] at hB
  refine region_round hops hm (wpAny_of_quiet (Q := fun a' => ∀ w', C w' → Q .normal a' w') (Q' := goesOn (Q .normal)) (fun _ w' hw' h => h w' hw') _ _ _ _ hC ?_)
  have := wpAnyQ_lex (C := C) (md := .any) hB.1 l 0 (Array.replicate l.toArray.size false) a (by simp) (by simpa using hB.2) h
  simpa using this
theorem region_round_ext {P : Program} {id lp n : Nat} {Q : Exit → Act → World → Prop} {a : Act} {w : World} {l : List Oper} (hops : noDefer l.toArray = true) (hm : P.follows .mixedOrders = true) (hB : Region.lexB .any l.toArray = true)
    (h : wpQuiet P l.toArray (fun w' => ∃ x : ExtOf w, w' = x.at) (fun a' => ∀ w', Chg [] w w' → Q .normal a' w') l a) : (Code.region id l.toArray true).wpIn (Fence.wide.inRound lp) n P Q a w := by
  refine region_round_quiet (fun w' => ∃ x : ExtOf w, w' = x.at) hops hm hB ⟨⟨w.drew, (Chg.refl _ _).drew⟩, rfl⟩ ?_
  have hmono : ∀ (l' : List Oper) (a : Act), wpQuiet P l.toArray (fun w' => ∃ x : ExtOf w, w' = x.at) (fun a' => ∀ w', Chg [] w w' → Q .normal a' w') l' a →
      wpQuiet P l.toArray (fun w' => ∃ x : ExtOf w, w' = x.at) (fun a' => ∀ w', (∃ x : ExtOf w, w' = x.at) → Q .normal a' w') l' a := by
    intro l'
    induction l' with
    | nil => intro a h w' ⟨x, hx⟩; subst hx; exact h _ x.chg
    | cons o l' ih =>
      intro a h
      unfold wpQuiet at h ⊢
      split
      · rename_i hw; rw [if_pos hw] at h; exact Oper.quiet_mono (fun a h => ih a h) h
      · rename_i hw; rw [if_neg hw] at h; exact ih _ h
  exact hmono l a h

/-- The memory of a parting. -/
def Prt (w1 : World) (Bp bk : Nat) (tv : Value) (t : List (List Int)) (w : World) (f : Nat → Option Nat) : Prop :=
  Box w Bp #[tv, .map (some bk)] 102 ∧ KnownI w bk f ∧ Chg [] w1 w ∧ ∀ x n, x < 65536 → f x = some n → n = leastN t x
theorem Prt.keep {w1 w w' : World} {Bp bk : Nat} {tv : Value} {t : List (List Int)} {f : Nat → Option Nat} (h : Prt w1 Bp bk tv t w f) (hc : Chg [] w w') : Prt w1 Bp bk tv t w' f :=
  ⟨h.1.keep hc List.not_mem_nil, h.2.1.keep hc List.not_mem_nil, h.2.2.1.trans hc, h.2.2.2⟩
/-- What a loop over a function does beside: blocks that are no cells. -/
theorem Box.row {B : Nat} {W W' : World} {row : Option Nat} {A : Nat} {cs : Array Value} {T : TypeId} (h : Box W A cs T) (hg : W.grownBy W' row) (hr : ∀ r, row = some r → B ≤ r ∧ ∃ o : Obj, W.heap[r]? = some o ∧ o.isCells = false) : Box W' A cs T := by
  refine (hg.block A h.lt (fun e => ?_)).trans h
  obtain ⟨_, o, ho, hc⟩ := hr A e.symm
  rw [show W.heap[A]? = some (.cells cs T (0, 0)) from h] at ho
  cases ho
  cases hc
theorem KnownI.row {B : Nat} {W W' : World} {row : Option Nat} {b : Nat} {f : Nat → Option Nat} (h : KnownI W b f) (hb : b < B) (hg : W.grownBy W' row) (hr : ∀ r, row = some r → B ≤ r ∧ ∃ o : Obj, W.heap[r]? = some o ∧ o.isCells = false) : KnownI W' b f := by
  have hlt := h.lt
  obtain ⟨D, ⟨es, clock, hb', F, hn, e⟩, hf⟩ := h
  exact ⟨D, ⟨es, clock, (hg.block b hlt (fun e => by have := (hr b e.symm).1; omega)).trans hb', F, hn, e⟩, hf⟩
theorem Chg.row' {B : Nat} {S : List Nat} {a W W' : World} {row : Option Nat} (h : Chg S a W) (ha : a.heap.size ≤ B) (hg : W.grownBy W' row) (hr : ∀ r, row = some r → B ≤ r ∧ ∃ o : Obj, W.heap[r]? = some o ∧ o.isCells = false) : Chg S a W' :=
  h.grown hg (fun k hk => .inr (Nat.le_trans ha (hr k hk).1))
theorem Prt.row {B : Nat} {w1 W W' : World} {row : Option Nat} {Bp bk : Nat} {tv : Value} {t : List (List Int)} {f : Nat → Option Nat} (h : Prt w1 Bp bk tv t W f) (hb : bk < B) (h1 : w1.heap.size ≤ B) (hg : W.grownBy W' row) (hr : ∀ r, row = some r → B ≤ r ∧ ∃ o : Obj, W.heap[r]? = some o ∧ o.isCells = false) : Prt w1 Bp bk tv t W' f :=
  ⟨h.1.row hg hr, h.2.1.row hb hg hr, h.2.2.1.row' h1 hg hr, h.2.2.2⟩
/-- What the loop of least keeps. -/
def LpI (w1 w : World) (Bp bk : Nat) (tv : Value) (t : List (List Int)) (left lo Z : Nat) (best : Nat) (W : World) : Prop :=
  (∃ f', Prt w1 Bp bk tv t W f') ∧ Box W Z #[.pointer (some ⟨Bp, 0, none⟩)] 99 ∧ Box W (Z + 1) #[.int .i64 (left : Int)] 3 ∧ Box W (Z + 1 + 1) #[.int .i64 (best : Int)] 3 ∧ Box W (Z + 1 + 1 + 1) #[.int .i64 (lo : Int)] 3 ∧ Chg [bk] w W ∧ Z + 4 ≤ W.heap.size
theorem LpI.keep {w1 w W W' : World} {Bp bk : Nat} {tv : Value} {t : List (List Int)} {left lo Z best : Nat} (h : LpI w1 w Bp bk tv t left lo Z best W) (hc : Chg [] W W') : LpI w1 w Bp bk tv t left lo Z best W' := by
  obtain ⟨⟨f', h1⟩, h2, h3, h4, h5, h6, h7⟩ := h
  exact ⟨⟨f', h1.keep hc⟩, h2.keep hc List.not_mem_nil, h3.keep hc List.not_mem_nil, h4.keep hc List.not_mem_nil, h5.keep hc List.not_mem_nil, h6.trans hc.toAny, Nat.le_trans h7 hc.size⟩
theorem LpI.row {B : Nat} {w1 w W W' : World} {row : Option Nat} {Bp bk : Nat} {tv : Value} {t : List (List Int)} {left lo Z best : Nat} (h : LpI w1 w Bp bk tv t left lo Z best W) (hb : bk < B) (h1 : w1.heap.size ≤ B) (hw : w.heap.size ≤ B) (hg : W.grownBy W' row) (hr : ∀ r, row = some r → B ≤ r ∧ ∃ o : Obj, W.heap[r]? = some o ∧ o.isCells = false) : LpI w1 w Bp bk tv t left lo Z best W' := by
  obtain ⟨⟨f', k1⟩, k2, k3, k4, k5, k6, k7⟩ := h
  exact ⟨⟨f', k1.row hb h1 hg hr⟩, k2.row hg hr, k3.row hg hr, k4.row hg hr, k5.row hg hr, k6.row' hw hg hr, Nat.le_trans k7 hg.size⟩
theorem LpI.store {w1 w W : World} {Bp bk : Nat} {tv : Value} {t : List (List Int)} {left lo Z best : Nat} (h : LpI w1 w Bp bk tv t left lo Z best W) (h1 : w1.heap.size ≤ Z) (hb : bk < Z) (hw : w.heap.size = Z) (hp : Bp < Z) (m : Nat) :
    LpI w1 w Bp bk tv t left lo Z m (W.setCell ⟨Z + 1 + 1, 0, none⟩ (.int .i64 (m : Int))) := by
  obtain ⟨⟨f', k1⟩, k2, k3, k4, k5, k6, k7⟩ := h
  have hc := Chg.set W ⟨Z + 1 + 1, 0, none⟩ (.int .i64 (m : Int))
  have e : ∀ x, x ≠ Z + 1 + 1 → x ∉ [(⟨Z + 1 + 1, 0, none⟩ : Addr).block] := fun x hx hm => hx (List.mem_singleton.1 hm)
  refine ⟨⟨f', k1.1.keep hc (e _ (by omega)), k1.2.1.keep hc (e _ (by omega)), k1.2.2.1.setCell (.inr (show w1.heap.size ≤ Z + 1 + 1 by omega)) _, k1.2.2.2⟩, k2.keep hc (e _ (by omega)), k3.keep hc (e _ (by omega)), k4.set1 _, k5.keep hc (e _ (by omega)), k6.setCell (.inr (show w.heap.size ≤ Z + 1 + 1 by omega)) _, Nat.le_trans k7 hc.size⟩
theorem kf_chg {B : Nat} {S : List Nat} {W W' : World} (h : Chg S W W') (hS : ∀ s ∈ S, s < B ∨ ∀ o, W.heap[s]? = some o → o.isCells = true) : KeepsFrom B W W' :=
  ⟨h.size, fun k o hk ho hc => (h.block k (Array.getElem?_eq_some_iff.1 ho).1 (fun hm => by
    rcases hS k hm with h | h
    · omega
    · rw [h o ho] at hc; cases hc)).trans ho⟩
def LeastIs (w1 : World) (Bp bk : Nat) (tv : Value) (t : List (List Int)) (left : Nat) (w w' : World) (e : Ending) : Prop :=
  e = .returned (.int .i64 (leastN t left : Int)) ∧ ∃ f', Prt w1 Bp bk tv t w' f' ∧ Chg [bk] w w'
def LeastOk (w1 : World) (Bp bk : Nat) (tv : Value) (t : List (List Int)) (F : Nat) : Prop := ∀ (left : Nat) (w : World) (f : Nat → Option Nat), left < 65536 → left < F → Prt w1 Bp bk tv t w f →
  Calls Try.prog 78 #[.pointer (some ⟨Bp, 0, none⟩), .int .i64 (left : Int)] w fun e w' => LeastIs w1 Bp bk tv t left w w' e

set_option maxRecDepth 100000 in
set_option maxHeartbeats 2000000 in
theorem least_step (w1 : World) (Bp bk : Nat) (tv : Value) (t : List (List Int)) (F : Nat) (hv : See2 w1 tv t) (ht : T.isTab t = true) (hB : w1.heap.size ≤ Bp ∧ w1.heap.size ≤ bk ∧ Bp ≠ bk) (ih : LeastOk w1 Bp bk tv t F) : LeastOk w1 Bp bk tv t (F + 1) := by
  intro left w f h16 hF hP
  obtain ⟨ao, cap, rfl⟩ := hv.shape
  by_cases h0 : left = 0
  · subst h0
    have E : Hid (leastN t 0 = 0) := hide (by rw [leastN_eq (by decide), if_pos rfl])
    have HP := hide hP
    have b2 := (Chg.refl [] w).alloc (.cells #[.pointer (some ⟨Bp, 0, none⟩)] 99)
    clear hv ht hB ih hP
    generalize t.length = tl at *
    refine callsIn_wide.1 (callsIn_of_wp_marks (F := Fence.wide) (n := 3) Try.func78 rfl trivial ?_ rfl)
    refine wpIn_wide.2 ?_
    simp only [Try.ntmps78, List.size_toArray, List.length_cons, List.length_nil, Nat.reduceAdd, Nat.reduceSub, Array.replicate_succ, Array.replicate_zero, List.push_toArray, List.append_toArray, List.nil_append, List.cons_append]
    go_wp2
    refine ⟨_, results_tmp rfl _ _ _, by rw [E.out]; rfl, f, HP.out.keep ?_, ?_⟩
    · (repeat' (first | with_reducible exact Chg.refl _ _ | with_reducible assumption | with_reducible apply Chg.drewN | with_reducible apply Chg.drew | with_reducible apply Chg.alloc | (with_reducible refine Chg.setCell ?_ (Or.inr ?_) _) | (with_reducible refine Chg.trans ?_ (by assumption)) | (simp; done) | (simp; omega)))
    · exact Chg.toAny (by (repeat' (first | with_reducible exact Chg.refl _ _ | with_reducible assumption | with_reducible apply Chg.drewN | with_reducible apply Chg.drew | with_reducible apply Chg.alloc | (with_reducible refine Chg.setCell ?_ (Or.inr ?_) _) | (with_reducible refine Chg.trans ?_ (by assumption)) | (simp; done) | (simp; omega))))
  · have d0 : ((left : Int) == 0) = false := by simp; omega
    have HP := hide hP
    have b2 := Box.new w #[.pointer (some ⟨Bp, 0, none⟩)] 99
    have c2 := (Chg.refl [] w).alloc (.cells #[.pointer (some ⟨Bp, 0, none⟩)] 99)
    have z2 : (w.alloc (.cells #[.pointer (some ⟨Bp, 0, none⟩)] 99)).heap.size = w.heap.size + 1 := by simp
    have hzB := hP.1.lt
    have hzk := hP.2.1.lt
    have ar0 : ∀ {X : World} {x : Value}, w.heap.size = X.heap.size → True := fun _ => trivial
    clear ar0
    generalize hW2 : w.alloc (.cells #[.pointer (some ⟨Bp, 0, none⟩)] 99) = W2 at b2 c2 z2
    have b3 := Box.new W2 #[.int .i64 (left : Int)] 3
    have c3 := (Chg.refl [] W2).alloc (.cells #[.int .i64 (left : Int)] 3)
    have z3 : (W2.alloc (.cells #[.int .i64 (left : Int)] 3)).heap.size = W2.heap.size + 1 := by simp
    generalize hW3 : W2.alloc (.cells #[.int .i64 (left : Int)] 3) = W3 at b3 c3 z3
    have B2 := hide (b2.keep c3 List.not_mem_nil)
    have C3 := hide (c2.trans c3)
    rw [z2] at b3
    have B3 := hide b3
    have f2 := B2.out.cell 0
    have f3 := B3.out.cell 0
    have HP3 := hide (HP.out.keep C3.out)
    have fp0 := HP3.out.1.cell 0
    have fp1 := HP3.out.1.cell 1
    simp only [List.getElem?_toArray, List.getElem?_cons_zero, List.getElem?_cons_succ] at f2 f3 fp0 fp1
    have HZ : Hid (Bp < w.heap.size ∧ bk < w.heap.size ∧ W3.heap.size = w.heap.size + 2) := hide ⟨hzB, hzk, by omega⟩
    have HV := hide hv
    have HT := hide ht
    have HBB := hide hB
    have HIH := hide ih
    have HF := hide hF
    clear b2 b3 c2 c3 hzB hzk hP hv ht hB ih hF
    have hrun := fun nq => (HP3.out.2.1.keep ((Chg.refl [] W3).drewN nq) List.not_mem_nil).look h16
    cases hfk : f left with
    | some m =>
      have E := HP.out.2.2.2 left m h16 hfk
      subst E
      rw [hfk] at hrun
      simp only [Option.getD_some, Option.isSome_some] at hrun
      clear hfk
      generalize t.length = tl at *
      refine callsIn_wide.1 (callsIn_of_wp_marks (F := Fence.wide) (n := 3) Try.func78 rfl trivial ?_ rfl)
      refine wpIn_wide.2 ?_
      simp only [Try.ntmps78, List.size_toArray, List.length_cons, List.length_nil, Nat.reduceAdd, Nat.reduceSub, Array.replicate_succ, Array.replicate_zero, List.push_toArray, List.append_toArray, List.nil_append, List.cons_append]
      have kB2 : w.heap.size < W3.heap.size := by have := HZ.out; omega
      have kB3 : w.heap.size + 1 < W3.heap.size := by have := HZ.out; omega
      have kBp : Bp < W3.heap.size := by have := HZ.out; omega
      go_wp2
      go_quiet (fail)
      go_wp2
      refine ⟨_, results_tmp rfl _ _ _, rfl, f, HP.out.keep (C3.out.drewN _), (C3.out.drewN _).toAny⟩
    | none =>
      rw [hfk] at hrun
      simp only [Option.getD_none, Option.isSome_none] at hrun
      clear hfk
      have kB2 : w.heap.size < W3.heap.size := by have := HZ.out; omega
      have kB3 : w.heap.size + 1 < W3.heap.size := by have := HZ.out; omega
      have kBp : Bp < W3.heap.size := by have := HZ.out; omega
      have kp2 : Bp < w.heap.size + 1 + 1 := by have := HZ.out; omega
      have kp3 : Bp < w.heap.size + 1 + 1 + 1 := by have := HZ.out; omega
      have kp4 : Bp < w.heap.size + 1 + 1 + 1 + 1 := by have := HZ.out; omega
      have hneg : IntKind.i64.wrap (-(left : Int)) = -(left : Int) := by rw [IntKind.wrap_i64]; omega
      have hlow := and_neg h0 h16
      have HLow : Hid (lowN left = lowN left) := hide rfl
      obtain ⟨lo, hlo⟩ : ∃ lo, lo = lowN left := ⟨_, rfl⟩
      rw [← hlo] at hlow
      have HLo := hide hlo
      obtain ⟨R, hR⟩ : ∃ R, R = 2 ^ t.length - 1 := ⟨_, rfl⟩
      obtain ⟨C, hC⟩ : ∃ C, C = 2 ^ T.cols t - 1 := ⟨_, rfl⟩
      have HRC := hide (And.intro hR hC)
      clear hlo HLow hR hC
      refine callsIn_wide.1 (callsIn_of_wp_marks (F := Fence.wide) (n := 3) Try.func78 rfl trivial ?_ rfl)
      refine wpIn_wide.2 ?_
      simp only [Try.ntmps78, List.size_toArray, List.length_cons, List.length_nil, Nat.reduceAdd, Nat.reduceSub, Array.replicate_succ, Array.replicate_zero, List.push_toArray, List.append_toArray, List.nil_append, List.cons_append]
      go_wp2
      go_quiet (fail)
      clear hrun
      go_wp2
      have CN : Hid (Chg [] w (W3.drewN nq)) := hide (C3.out.drewN _)
      have PN := hide (HP3.out.keep ((Chg.refl [] W3).drewN nq))
      have BN2 := hide (B2.out.keep ((Chg.refl [] W3).drewN nq) List.not_mem_nil)
      have BN3 := hide (B3.out.keep ((Chg.refl [] W3).drewN nq) List.not_mem_nil)
      have zN : (W3.drewN nq).heap.size = w.heap.size + 1 + 1 := by show W3.heap.size = _; have := HZ.out; omega
      clear hW2 hW3 f2 f3 fp0 fp1 B2 B3 C3 HP3 z2 z3 kB2 kB3 kBp
      generalize W3.drewN nq = W4 at CN PN BN2 BN3 zN ⊢
      have b7 := Box.at W4 #[.int .i64 16] 3 zN.symm
      have c7 := (Chg.refl [] W4).alloc (.cells #[.int .i64 16] 3)
      have z7 : (W4.alloc (.cells #[.int .i64 16] 3)).heap.size = w.heap.size + 1 + 1 + 1 := by simp [zN]
      generalize W4.alloc (.cells #[.int .i64 16] 3) = W5 at b7 c7 z7 ⊢
      have b8 := Box.at W5 #[.int .i64 (lo : Int)] 3 z7.symm
      have c8 := (Chg.refl [] W5).alloc (.cells #[.int .i64 (lo : Int)] 3)
      have z8 : (W5.alloc (.cells #[.int .i64 (lo : Int)] 3)).heap.size = w.heap.size + 1 + 1 + 1 + 1 := by simp [z7]
      generalize W5.alloc (.cells #[.int .i64 (lo : Int)] 3) = W7 at b8 c8 z8 ⊢
      have c48 := c7.trans c8
      have C7 := hide (CN.out.trans c48)
      have hB7 := b7.keep c8 List.not_mem_nil
      have P7 := PN.out.keep c48
      have B27 := BN2.out.keep c48 List.not_mem_nil
      have B37 := BN3.out.keep c48 List.not_mem_nil
      have hsee7 : See2 W7 (.slice ao t.length cap) t := HV.out.keep P7.2.2.1
      have hszw := C7.out.size
      obtain ⟨Z, hZ⟩ : ∃ Z, Z = w.heap.size := ⟨_, rfl⟩
      rw [← hZ] at b8 hB7 B27 B37 z8 ⊢
      have HLp0 : LpI w1 w Bp bk (.slice ao t.length cap) t left lo Z 16 W7 := ⟨⟨f, P7⟩, B27, B37, hB7, b8, C7.out.toAny, by omega⟩
      have hw1 : w1.heap.size ≤ Z := by have := HZ.out; have := HBB.out; omega
      have hbk : bk < Z := by have := HZ.out; omega
      have hZw : w.heap.size = Z := hZ.symm
      clear b7 c7 z7 b8 c8 c48 hB7 P7 B27 B37 CN PN BN2 BN3 zN hZ kp2 kp3 kp4
      refine (wpIn_wide (n := 3)).1 ?_
      refine wpIn_rangeBound rfl (by decide) (gf := 107) (first := #[.slice ao t.length cap]) rfl trivial (enters_of Try.func107 (by kernel_rfl) rfl)
        (rect_gives (.slice ao t.length cap) t W7 [bk, Z + 1 + 1] hsee7 HT.out (fun k hk => by simp at hk; omega) R C HRC.out.1 HRC.out.2) (fun h k => h.trans k) (fun W l o o' hl h ho _ => KC.put W l o o' h ho) (fun _ => rfl)
        (fun pre W => LpI w1 w Bp bk (.slice ao t.length cap) t left lo Z ((pre.map Subtype.val).foldl (stepL t (leastN t) left) 16) W) (fun s W W' row hs hg hr => hs.row (B := W7.heap.size) (by omega) (by omega) (by omega) hg hr) HLp0
        (fun x a' W => ∃ Bx, Z + 4 ≤ Bx ∧ Box W Bx #[.int .i64 (x.1.1 : Int), .int .i64 (x.1.2 : Int)] 75 ∧ a' = { tmps := #[.pointer (some ⟨Bp, 0, none⟩), .int .i64 (left : Int), .pointer (some ⟨Z, 0, none⟩), .pointer (some ⟨Z + 1, 0, none⟩), .int .i64 0, .int .i64 0, .bool false, .pointer (some ⟨Z + 1 + 1, 0, none⟩), .pointer (some ⟨Z + 1 + 1 + 1, 0, none⟩), .pointer (some ⟨Bx, 0, none⟩), undef, undef, undef, .int .i64 (left : Int), .bool false, .tuple #[.int .i64 0, .bool false], .pointer (some ⟨Bp, 0, none⟩), .pointer (some ⟨Bp, 0, none⟩), .pointer (some ⟨Bp, 1, none⟩), .map (some bk), .int .i64 (left : Int), .tuple #[.int .i64 0, .bool false], .int .i64 0, .bool false, .bool false, undef, .int .i64 (left : Int), .int .i64 (left : Int), .int .i64 (-(left : Int)), .int .i64 (lo : Int), .pointer (some ⟨Bp, 0, none⟩), .pointer (some ⟨Bp, 0, none⟩), .pointer (some ⟨Bp, 0, none⟩), .slice ao t.length cap, .func (.func 107) #[.slice ao t.length cap] #[], .agg #[.int .i64 (x.1.1 : Int), .int .i64 (x.1.2 : Int)], undef, undef, undef, undef, undef, undef, undef, undef, undef, undef, undef, undef, undef, undef, undef, undef, undef, undef, undef, undef, undef, undef, undef, undef, undef, undef, undef, undef, undef, undef, undef, undef, undef, undef, undef, undef, undef], defers := [] })
        (fun x a' s W W' row ⟨Bx, h1, h2, e⟩ hg hr => ⟨Bx, h1, h2.row hg hr, e⟩) ?assign ?body ?done
      case assign =>
        intro l pre x W K hI hK
        unfold encR
        gi_wp2
        exact hK _ _ ((KeepsOthers.alloc _ _).from _) (KC.ofChg ((Chg.refl _ _).alloc _)) (hI.keep ((Chg.refl _ _).alloc _)) ⟨W.heap.size, hI.2.2.2.2.2.2, Box.new _ _ _, rfl⟩
      case body =>
        rintro l pre x a' W hl hI ⟨Bx, hBx, bx, rfl⟩ hlt
        obtain ⟨⟨r, c⟩, ⟨r1, r2⟩, c1, c2⟩ := x
        dsimp only at r1 r2 c1 c2 bx ⊢
        obtain ⟨⟨t1, t2, t3, t4⟩, _⟩ := T.isTab_iff.1 HT.out
        have hr16 : r < 65536 := by have := HRC.out.1; have := pow_le16 t2; omega
        have hc16 : c < 65536 := by have := HRC.out.2; have := pow_le16 t4; omega
        have hfold : (List.map Subtype.val (pre ++ [(⟨(r, c), ⟨r1, r2⟩, c1, c2⟩ : Rct R C)])).foldl (stepL t (leastN t) left) 16 = stepL t (leastN t) left ((pre.map Subtype.val).foldl (stepL t (leastN t) left) 16) (r, c) := by
          rw [List.map_append, List.foldl_append]; rfl
        have hble := stepL_le t (leastN t) left (pre.map Subtype.val) 16
        obtain ⟨best, hbest⟩ : ∃ best, best = (pre.map Subtype.val).foldl (stepL t (leastN t) left) 16 := ⟨_, rfl⟩
        have HPost : Hid (∀ W', LpI w1 w Bp bk (.slice ao t.length cap) t left lo Z (stepL t (leastN t) left best (r, c)) W' → LpI w1 w Bp bk (.slice ao t.length cap) t left lo Z ((List.map Subtype.val (pre ++ [(⟨(r, c), ⟨r1, r2⟩, c1, c2⟩ : Rct R C)])).foldl (stepL t (leastN t) left) 16) W') := hide fun W' h => by
          rw [hfold, ← hbest]; exact h
        rw [← hbest] at hI hble
        clear hfold hbest
        have HBits := hide fun ws => bits_any r c ws hr16 hc16
        have hb16 := bitsN_lt r c
        obtain ⟨b, hb⟩ : ∃ b, b = bitsN r c := ⟨_, rfl⟩
        rw [← hb] at HBits hb16
        have HBn := hide hb
        have HI := hide hI
        have BX := hide bx
        unfold rectV at HBits
        have x0 := bx.cell 0
        have x1 := bx.cell 1
        have lx := bx.lt
        simp only [List.getElem?_toArray, List.getElem?_cons_zero, List.getElem?_cons_succ] at x0 x1
        clear hb bx hI t1 t2 t3 t4 hneg hlow
        have hlo16 : lo < 65536 := by rw [HLo.out]; have := andnN_le left (left - 1); unfold lowN; omega
        have ha1 := and_nat b lo (by omega) (by omega)
        have ha2 := and_not hb16 h16
        have HOk : Hid (okL t left (r, c) = (!decide (b &&& lo = 0) && decide (andnN b left = 0) && T.clear t r c)) := hide (by unfold okL; rw [← HLo.out, ← HBn.out])
        obtain ⟨m1, hm1⟩ : ∃ m1, m1 = b &&& lo := ⟨_, rfl⟩
        obtain ⟨m2, hm2⟩ : ∃ m2, m2 = andnN b left := ⟨_, rfl⟩
        rw [← hm1] at ha1 HOk
        rw [← hm2] at ha2 HOk
        clear hm1 hm2
        gi_wp2_with fail
        refine ⟨trivial, CallsIn.inRound l (callsIn_wide.2 ((HBits.out W).mono ?_))⟩
        rintro e w2 ⟨rfl, hw2⟩
        have HI2 := hide (HI.out.keep hw2)
        have HKF2 := hide (kf_chg (B := W7.heap.size) hw2 (fun s h => by cases h))
        have HKC2 := hide (KC.ofChg (S := [bk, Z + 1 + 1]) (hw2.toAny))
        have BX2 := hide (BX.out.keep hw2 List.not_mem_nil)
        have c80 := HI2.out.2.2.2.2.1.cell 0
        have c30 := HI2.out.2.2.1.cell 0
        have l8 := HI2.out.2.2.2.2.1.lt
        have l3 := HI2.out.2.2.1.lt
        simp only [List.getElem?_toArray, List.getElem?_cons_zero] at c80 c30
        clear hw2 x0 x1 lx
        by_cases hm1 : m1 = 0
        · have e1 : ((m1 : Int) == 0) = true := by simp; omega
          have HS : Hid (stepL t (leastN t) left best (r, c) = best) := hide (by unfold stepL; rw [HOk.out, hm1]; rfl)
          clear hm1
          gi_wp2
          exact ⟨HKF2.out, HKC2.out, HPost.out _ (by rw [HS.out]; exact HI2.out)⟩
        · have e1 : ((m1 : Int) == 0) = false := by simp; omega
          have hd1 : decide (m1 = 0) = false := by simp [hm1]
          by_cases hm2 : m2 = 0
          · have e2 : ((m2 : Int) != 0) = false := by simp; omega
            have hd2 : decide (m2 = 0) = true := by simp [hm2]
            have HOk2 : Hid (okL t left (r, c) = T.clear t r c) := hide (by rw [HOk.out, hd1, hd2]; simp)
            clear hm1 hm2 hd1 hd2 HOk
            have hcl := hide fun ws (hw : Chg [] w2 ws) => clear_any (.slice ao t.length cap) t r c ws (HV.out.keep (HI2.out.1.choose_spec.2.2.1.trans hw)) HT.out hr16 hc16
            have c20 := HI2.out.2.1.cell 0
            have l2 := HI2.out.2.1.lt
            have cp0 := HI2.out.1.choose_spec.1.cell 0
            have lp := HI2.out.1.choose_spec.1.lt
            have x0 := BX2.out.cell 0
            have x1 := BX2.out.cell 1
            have lx := BX2.out.lt
            simp only [List.getElem?_toArray, List.getElem?_cons_zero, List.getElem?_cons_succ] at c20 cp0 x0 x1
            have HClr : Hid (T.clear t r c = (T.clrM t r c).isSome) := hide rfl
            generalize T.clrM t r c = o at hcl HClr
            cases o with
            | none =>
              unfold clrV at hcl
              simp only [] at hcl
              gi_wp2
              refine region_round_ext (by kernel_rfl) (by kernel_rfl) (by kernel_rfl) ?_
              repeat (first | go_big_quiet_step ((go_at_call 92; exact calls_of_ret (hcl.out _ (ExtOf.chg _)))) | quiet_step ((go_at_call 92; exact calls_of_ret (hcl.out _ (ExtOf.chg _)))))
              refine wpQuiet_nil ?_
              intro wx hx
              have HS : Hid (stepL t (leastN t) left best (r, c) = best) := hide (by unfold stepL; rw [HOk2.out, HClr.out]; rfl)
              have HI3 := hide (HI2.out.keep hx)
              have HKF3 := hide (HKF2.out.trans (kf_chg (B := W7.heap.size) hx (fun s h => by cases h)))
              have HKC3 := hide (HKC2.out.trans (KC.ofChg (S := [bk, Z + 1 + 1]) hx.toAny))
              clear hx c80 c30 l8 l3 c20 l2 cp0 lp x0 x1 lx
              gi_wp2
              exact ⟨HKF3.out, HKC3.out, HPost.out _ (by rw [HS.out]; exact HI3.out)⟩
            | some y =>
              unfold clrV at hcl
              simp only [] at hcl
              gi_wp2
              refine region_round_ext (by kernel_rfl) (by kernel_rfl) (by kernel_rfl) ?_
              repeat (first | go_big_quiet_step ((go_at_call 92; exact calls_of_ret (hcl.out _ (ExtOf.chg _)))) | quiet_step ((go_at_call 92; exact calls_of_ret (hcl.out _ (ExtOf.chg _)))))
              refine wpQuiet_nil ?_
              intro wx hx
              have hokt : okL t left (r, c) = true := by rw [HOk2.out, HClr.out]; rfl
              have hless := okL_less h0 h16 hokt
              dsimp only at hless
              rw [← HBn.out] at hless
              have HS : Hid (stepL t (leastN t) left best (r, c) = min best (1 + leastN t (andnN left b))) := hide (by unfold stepL; rw [if_pos hokt, ← HBn.out])
              have ha3 := and_not h16 hb16
              have hnl := leastN_le t (andnN left b)
              have HI3 := hide (HI2.out.keep hx)
              have HKF3 := hide (HKF2.out.trans (kf_chg (B := W7.heap.size) hx (fun s h => by cases h)))
              have HKC3 := hide (HKC2.out.trans (KC.ofChg (S := [bk, Z + 1 + 1]) hx.toAny))
              obtain ⟨l', hl'⟩ : ∃ l', l' = andnN left b := ⟨_, rfl⟩
              rw [← hl'] at hless ha3 hnl HS
              obtain ⟨nl, hnle⟩ : ∃ nl, nl = leastN t l' := ⟨_, rfl⟩
              rw [← hnle] at hnl HS
              have HRec : Hid (∀ ws, Chg [] wx ws → Calls Try.prog 78 #[.pointer (some ⟨Bp, 0, none⟩), .int .i64 (l' : Int)] ws fun e w4 => e = .returned (.int .i64 (nl : Int)) ∧ LpI w1 w Bp bk (.slice ao t.length cap) t left lo Z best w4 ∧ Chg [bk] wx w4) := hide fun ws hw => by
                obtain ⟨⟨f3, hp3⟩, hrest⟩ := HI3.out.keep hw
                refine (HIH.out l' ws f3 (by omega) (by have := HF.out; omega) hp3).mono ?_
                rintro e w4 ⟨rfl, f4, hp4, hc4⟩
                obtain ⟨k2, k3, k4, k5, k6, k7⟩ := hrest
                exact ⟨by rw [hnle], ⟨⟨f4, hp4⟩, k2.keep hc4 (by simp; omega), k3.keep hc4 (by simp; omega), k4.keep hc4 (by simp; omega), k5.keep hc4 (by simp; omega), k6.trans hc4, Nat.le_trans k7 hc4.size⟩, hw.toAny.trans hc4⟩
              have hwr : IntKind.i64.wrap (1 + (nl : Int)) = ((1 + nl : Nat) : Int) := by rw [IntKind.wrap_i64]; omega
              have hmin : imin (best : Int) ((1 + nl : Nat) : Int) = ((min best (1 + nl) : Nat) : Int) := by unfold imin; split <;> omega
              obtain ⟨n2, hn2⟩ : ∃ n2, n2 = 1 + nl := ⟨_, rfl⟩
              rw [← hn2] at hwr hmin HS
              obtain ⟨mn, hmn⟩ : ∃ mn, mn = min best n2 := ⟨_, rfl⟩
              rw [← hmn] at hmin HS
              have kmin := fun w ts t x y => @run_min_2 Try.prog w ts t x y
              clear hx c80 c30 l8 l3 c20 l2 cp0 lp x0 x1 lx hokt hl' hnle hn2 hmn ha1 ha2 hcl
              have c2 := HI3.out.2.1.cell 0
              have c3 := HI3.out.2.2.1.cell 0
              have c4 := HI3.out.2.2.2.1.cell 0
              have l2 := HI3.out.2.1.lt
              have l3 := HI3.out.2.2.1.lt
              have l4 := HI3.out.2.2.2.1.lt
              simp only [List.getElem?_toArray, List.getElem?_cons_zero] at c2 c3 c4
              gi_wp2
              gi_region_with ((refine ⟨trivial, CallsIn.inRound l (callsIn_wide.2 ((HRec.out _ (by (repeat' (first | with_reducible exact Chg.refl _ _ | with_reducible assumption | with_reducible apply Chg.drewN | with_reducible apply Chg.drew | with_reducible apply Chg.alloc | (with_reducible refine Chg.setCell ?_ (Or.inr ?_) _) | (with_reducible refine Chg.trans ?_ (by assumption)) | (simp; done) | (simp; omega))))).mono ?_))⟩; rintro e w4 ⟨rfl, hL4, hc4⟩; have c44 := hL4.2.2.2.1.cell 0; have l44 := hL4.2.2.2.1.lt; have z44 := hL4.2.2.2.1.free 0; simp only [List.getElem?_toArray, List.getElem?_cons_zero] at c44))
              all_goals (
                gi_wp2
                have hL5 := hL4.store hw1 hbk hZw (by have := HZ.out; omega) mn
                have hcs := Chg.set w4 ⟨Z + 1 + 1, 0, none⟩ (.int .i64 (mn : Int))
                refine ⟨HKF3.out.trans ((kf_chg (B := W7.heap.size) hc4 (fun s h => ?_)).trans (kf_chg (B := W7.heap.size) hcs (fun s h => ?_))), HKC3.out.trans ((KC.ofChg (hc4.mono (fun s h => ?_))).trans (KC.ofChg (hcs.mono (fun s h => ?_)))), HPost.out _ (by rw [HS.out]; exact hL5)⟩
                · rw [List.mem_singleton] at h; exact .inl (by omega)
                · have h' : s = Z + 1 + 1 := List.mem_singleton.1 h
                  exact .inl (by omega)
                · rw [List.mem_singleton] at h; rw [h]; simp
                · have h' : s = Z + 1 + 1 := List.mem_singleton.1 h
                  rw [h']; simp)
          · have e2 : ((m2 : Int) != 0) = true := by simp; omega
            have hd2 : decide (m2 = 0) = false := by simp [hm2]
            have HS : Hid (stepL t (leastN t) left best (r, c) = best) := hide (by unfold stepL; rw [HOk.out, hd2]; simp)
            clear hm1 hm2 hd1 hd2
            gi_wp2
            exact ⟨HKF2.out, HKC2.out, HPost.out _ (by rw [HS.out]; exact HI2.out)⟩
      case done =>
        rintro D xs W hD hS ⟨⟨f', hPf⟩, k2, k3, k4, k5, k6, k7⟩ hK
        have hbest : (xs.map Subtype.val).foldl (stepL t (leastN t) left) 16 = leastN t left := by
          rw [leastN_eq h16, if_neg h0, hS]
          unfold allRects
          rw [← HRC.out.1, ← HRC.out.2]
        obtain ⟨m, hm⟩ : ∃ m, m = leastN t left := ⟨_, rfl⟩
        rw [hbest, ← hm] at k4
        have dW := (Chg.refl [] W).drew
        have hPd := hPf.keep dW
        obtain ⟨w5, hst, hm5, hc5⟩ := hPd.2.1.store h16 m
        have hP5 : Prt w1 Bp bk (.slice ao t.length cap) t w5 (updI f' left m) := ⟨hPd.1.keep hc5 (by have := HBB.out; simp; omega), hm5, hPd.2.2.1.trans' hc5 (fun y hy => .inr (by simp at hy; rw [hy]; exact HBB.out.2.1)), fun x n hx hn => by
          unfold updI at hn
          split at hn
          · rename_i e; cases hn; rw [e, hm]
          · exact hPd.2.2.2 x n hx hn⟩
        have hK5 : w5.heap[D]? = some (.deferred (some [])) := (hc5.block D (Array.getElem?_eq_some_iff.1 hK).1 (by simp; omega)).trans hK
        have hb5 : Chg [bk] w w5 := k6.trans (dW.toAny.trans hc5)
        have k45 := (k4.keep dW List.not_mem_nil).keep hc5 (by simp; omega)
        have c20 := k2.cell 0
        have c30 := k3.cell 0
        have c40 := k4.cell 0
        have c45 := k45.cell 0
        have cp1 := hPf.1.cell 1
        have l2 := k2.lt
        have l3 := k3.lt
        have l4 := k4.lt
        have lp := hPf.1.lt
        have l45 := k45.lt
        simp only [List.getElem?_toArray, List.getElem?_cons_zero, List.getElem?_cons_succ] at c20 c30 c40 c45 cp1
        have HP5 := hide hP5
        have HK5 := hide hK5
        have HB5 := hide hb5
        have HMm := hide hm
        have HD := hide hD
        clear hPf k2 k3 k4 k5 k6 k7 hK hbest hPd dW hm5 hc5 hP5 hK5 hb5 k45 hm hD hS
        go_wp2
        go_region
        all_goals (
          go_wp2
          refine ⟨by simp, .inl ⟨_, _, rfl, run_takeDeferred HK5.out, ?_⟩⟩
          have hg := grownBy_putObj' w5 D (.deferred none)
          have hr : ∀ r, some D = some r → W7.heap.size ≤ r ∧ ∃ o : Obj, w5.heap[r]? = some o ∧ o.isCells = false := fun r e => by cases e; exact ⟨HD.out, _, HK5.out, rfl⟩
          exact ⟨_, results_tmp rfl _ _ _, by rw [← HMm.out]; rfl, _, HP5.out.row (B := W7.heap.size) (by omega) (by omega) hg hr, HB5.out.row' (B := W7.heap.size) (by omega) hg hr⟩)
end Go.Proofs.Ytaapamoglgpocaa

/- Walk: Part. -/
namespace Go.Proofs.Ytaapamoglgpocaa
open Go.RowKit

theorem least_any (w1 : World) (Bp bk : Nat) (tv : Value) (t : List (List Int)) (hv : See2 w1 tv t) (ht : T.isTab t = true) (hB : w1.heap.size ≤ Bp ∧ w1.heap.size ≤ bk ∧ Bp ≠ bk) : ∀ F, LeastOk w1 Bp bk tv t F
  | 0 => fun left _ _ _ h _ => absurd h (Nat.not_lt_zero left)
  | F + 1 => least_step w1 Bp bk tv t F hv ht hB (least_any w1 Bp bk tv t hv ht hB F)

/-- What Part gives. -/
def partN (t : List (List Int)) : Nat := leastN t (bitsN (2 ^ t.length - 1) (2 ^ T.cols t - 1))
def partV (t : List (List Int)) : Value := if T.isTab t = true then .tuple #[.int .i64 (partN t : Int), .int .i64 0] else .tuple #[.int .i64 0, .int .i64 2]

set_option maxRecDepth 100000 in
set_option maxHeartbeats 1000000 in
theorem Part_any (v : Value) (t : List (List Int)) (w : World) (hv : See2 w v t) (hl : ∀ r ∈ t, r.length ≤ 1000000) (htl : t.length ≤ 1000000) : Calls Try.prog 45 #[v] w (Ret (partV t) w) := by
  have HVa := hide (valid_any v t w hv hl htl)
  obtain ⟨ao, cap, rfl⟩ := hv.shape
  unfold partV
  cases ht : T.isTab t with
  | false =>
    rw [ht] at HVa
    rw [if_neg (by decide)]
    clear hv hl htl ht
    generalize t.length = n at *
    go_enter Try.func45, Try.ntmps45
    go_wp2_with fail
    refine HVa.out.mono ?_
    rintro e w1 ⟨rfl, hw1⟩
    go_wp2
    go_ret2
    exact ⟨rfl, hw1⟩
  | true =>
    rw [ht] at HVa
    rw [if_pos rfl]
    obtain ⟨⟨t1, t2, t3, t4⟩, _⟩ := T.isTab_iff.1 ht
    have hR : 2 ^ t.length - 1 < 65536 := by have := pow_le16 t2; omega
    have hC : 2 ^ T.cols t - 1 < 65536 := by have := pow_le16 t4; omega
    have HWh := hide fun ws (hw : Chg [] w ws) => whole_any _ t ws (hv.keep hw) ht
    have HBt := hide fun ws => bits_any (2 ^ t.length - 1) (2 ^ T.cols t - 1) ws hR hC
    have hb16 := bitsN_lt (2 ^ t.length - 1) (2 ^ T.cols t - 1)
    have HPn : Hid (partN t = leastN t (bitsN (2 ^ t.length - 1) (2 ^ T.cols t - 1))) := hide rfl
    have HV := hide hv
    have HT := hide ht
    have hmm := @run_makeMap Try.prog
    generalize bitsN (2 ^ t.length - 1) (2 ^ T.cols t - 1) = b at *
    generalize 2 ^ T.cols t - 1 = c at *
    generalize 2 ^ t.length - 1 = r at *
    clear hv hl htl ht t1 t2 t3 t4 hR hC
    go_enter Try.func45, Try.ntmps45
    go_wp2_with fail
    refine HVa.out.mono ?_
    rintro e w1 ⟨rfl, hw1⟩
    go_wp2_with fail
    have hk := KnownI.new w1
    have ck := (Chg.refl [] w1).alloc (.map #[] 0)
    have zk : (w1.alloc (.map #[] 0)).heap.size = w1.heap.size + 1 := by simp
    generalize w1.alloc (.map #[] 0) = w2 at hk ck zk ⊢
    have hb := Box.at w2 #[.slice ao t.length cap, .map (some w1.heap.size)] 102 zk.symm
    have cb := (Chg.refl [] w2).alloc (.cells #[.slice ao t.length cap, .map (some w1.heap.size)] 102)
    generalize w2.alloc (.cells #[.slice ao t.length cap, .map (some w1.heap.size)] 102) = w3 at hb cb ⊢
    have hP : Prt w1 (w1.heap.size + 1) w1.heap.size (.slice ao t.length cap) t w3 (fun _ => none) := ⟨hb, hk.keep cb List.not_mem_nil, ck.trans cb, fun x n _ h => by cases h⟩
    have HP := hide hP
    have HW1 := hide hw1
    have HL := hide (least_any w1 (w1.heap.size + 1) w1.heap.size (.slice ao t.length cap) t (HV.out.keep hw1) HT.out ⟨by omega, Nat.le_refl _, by omega⟩ (b + 1))
    clear hk ck zk hb cb hP hw1
    generalize w1.heap.size + 1 = Bp at HP HL ⊢
    have HZ : Hid (w1.heap.size = w1.heap.size) := hide rfl
    obtain ⟨bk, hbk⟩ : ∃ bk, bk = w1.heap.size := ⟨_, rfl⟩
    rw [← hbk] at HP HL ⊢
    have HBk := hide hbk
    clear hbk HZ
    refine (HWh.out _ (HW1.out.trans HP.out.2.2.1)).mono ?_
    rintro e w4 ⟨rfl, hw4⟩
    unfold rectV at *
    have HP4 := hide (HP.out.keep hw4)
    clear hw4
    go_wp2_with fail
    refine (HBt.out w4).mono ?_
    rintro e w5 ⟨rfl, hw5⟩
    have HP5 := hide (HP4.out.keep hw5)
    clear hw5
    go_wp2_with fail
    refine (HL.out b w5 _ hb16 (Nat.lt_succ_self b) HP5.out).mono ?_
    rintro e w6 ⟨rfl, f6, hp6, _⟩
    have C6 := hide (HW1.out.trans hp6.2.2.1)
    clear hp6
    go_wp2
    go_ret2
    exact ⟨by rw [HPn.out]; rfl, C6.out⟩
end Go.Proofs.Ytaapamoglgpocaa
