/- Walks: guesses: the search for a question: its end. -/
import Derived.Test.YtpplihpfjniacaaGs3
import Derived.Deep.RegionHeld3
namespace Go.Proofs.Ytpplihpfjniacaa
open Go.RowKit Go.Maps

/-- Worlds that come of w by calls that turn the known positions alone. -/
def Held (Bi bk : Nat) (w : World) : Prop := ∃ fk, Iv Bi bk w fk
def IvOf (Bi bk : Nat) (w : World) : Type := { w' : World // Chg [bk] w w' ∧ (Held Bi bk w → Held Bi bk w') }
instance (Bi bk : Nat) (w : World) : Nonempty (IvOf Bi bk w) := ⟨⟨w, Chg.refl _ _, id⟩⟩
def IvOf.at {Bi bk : Nat} {w : World} (x : IvOf Bi bk w) : World := x.val
theorem IvOf.chg {Bi bk : Nat} {w : World} (x : IvOf Bi bk w) : Chg [bk] w x.at := x.property.1
theorem IvOf.held {Bi bk : Nat} {w : World} (x : IvOf Bi bk w) (h : Held Bi bk w) : Held Bi bk x.at := x.property.2 h
@[go_sem] theorem IvOf.cell {Bi bk : Nat} {w : World} (x : IvOf Bi bk w) (b o : Nat) (h : b < w.heap.size) (hn : ¬ b = bk) : x.at.cell? ⟨b, o, none⟩ = w.cell? ⟨b, o, none⟩ := x.chg.cell h (by simpa using hn) o
@[go_sem] theorem IvOf.all {Bi bk : Nat} {w : World} {p : Prop} : (∀ _ : IvOf Bi bk w, p) ↔ p := ⟨fun h => h ⟨w, Chg.refl _ _, id⟩, fun h _ => h⟩
theorem calls_of_iv {P : Program} {f : FuncId} {args : Array Value} {v : Value} {Bi bk : Nat} {w : World} {x : IvOf Bi bk w} (h : Calls P f args x.at (fun e w'' => e = .returned v ∧ Chg [bk] x.at w'' ∧ (Held Bi bk x.at → Held Bi bk w''))) :
    Calls P f args x.at fun e w'' => e = .returned v ∧ ∃ y : IvOf Bi bk w, w'' = y.at := h.mono fun _ w'' ⟨he, hb, hh⟩ => ⟨he, ⟨w'', x.chg.trans hb, fun h => hh (x.held h)⟩, rfl⟩
theorem wp_region_iv {P : Program} {id : Nat} {Q : Exit → Act → World → Prop} {a : Act} {Bi bk : Nat} {w : World} {l : List Oper} (hm : P.follows .mixedOrders = true) (hB : Region.lexB .any l.toArray = true)
    (h : wpQuiet P l.toArray (fun w' => ∃ x : IvOf Bi bk w, w' = x.at) (fun a' => ∀ w', (Chg [bk] w w' ∧ (Held Bi bk w → Held Bi bk w')) → Q .normal a' w') l a) : (Code.region id l.toArray true).wp P Q a w :=
  wp_region_quiet (C := fun w' => ∃ x : IvOf Bi bk w, w' = x.at) hm hB ⟨⟨w.drew, (Chg.refl _ _).drew, fun ⟨fk, h⟩ => ⟨fk, h.keep (Chg.refl _ _).drew⟩⟩, rfl⟩ (by
    have hmono : ∀ (l' : List Oper) (a : Act), wpQuiet P l.toArray (fun w' => ∃ x : IvOf Bi bk w, w' = x.at) (fun a' => ∀ w', (Chg [bk] w w' ∧ (Held Bi bk w → Held Bi bk w')) → Q .normal a' w') l' a →
        wpQuiet P l.toArray (fun w' => ∃ x : IvOf Bi bk w, w' = x.at) (fun a' => ∀ w', (∃ x : IvOf Bi bk w, w' = x.at) → Q .normal a' w') l' a := by
      intro l'
      induction l' with
      | nil => intro a h w' ⟨x, hx⟩; subst hx; exact h _ ⟨x.chg, x.held⟩
      | cons o l' ih =>
        intro a h
        unfold wpQuiet at h ⊢
        split
        · rename_i hw; rw [if_pos hw] at h; exact Oper.quiet_mono (fun a h => ih a h) h
        · rename_i hw; rw [if_neg hw] at h; exact ih _ h
    simpa using hmono l a h)

/-- The search's memory. -/
def GSt (w1 : World) (Bi bk base Qb S N V G : Nat) (v : Value) (q : Nat) (qv : Value) (xs : List Int) (w : World) : Prop :=
  Box w Qb #[qv] 43 ∧ Box w S #[v] 43 ∧ Box w N #[.int .i64 (q : Int)] 3 ∧ Box w V #[.pointer (some ⟨Bi, 0, none⟩)] 44 ∧
    Box w G #[.func (.func 57) #[] #[.pointer (some ⟨Qb, 0, none⟩), .pointer (some ⟨S, 0, none⟩), .pointer (some ⟨N, 0, none⟩), .pointer (some ⟨V, 0, none⟩), .pointer (some ⟨G, 0, none⟩)]] 32 ∧
    w.ownsRow base 3 1 qv xs.length (xs.map (Value.int .i64)) ∧ Held Bi bk w ∧ Chg [bk] w1 w ∧ base ≤ w.heap.size ∧ bk < base
theorem GSt.keepM {w1 : World} {Bi bk base Qb S N V G : Nat} {v : Value} {q : Nat} {qv : Value} {xs : List Int} {w w' : World} (h : GSt w1 Bi bk base Qb S N V G v q qv xs w) (hc : Chg [bk] w w') (hh : Held Bi bk w') (n : bk ≠ Qb ∧ bk ≠ S ∧ bk ≠ N ∧ bk ≠ V ∧ bk ≠ G) : GSt w1 Bi bk base Qb S N V G v q qv xs w' := by
  obtain ⟨h1, h2, h3, h4, h5, h6, h7, h8, h9, h10⟩ := h
  have ne : ∀ {B : Nat}, bk ≠ B → B ∉ [bk] := fun hb e => hb (List.mem_singleton.1 e).symm
  refine ⟨h1.keep hc (ne n.1), h2.keep hc (ne n.2.1), h3.keep hc (ne n.2.2.1), h4.keep hc (ne n.2.2.2.1), h5.keep hc (ne n.2.2.2.2), hc.row h6 (fun g hg e => ?_), hh, h8.trans hc, Nat.le_trans h9 hc.size, h10⟩
  rw [List.mem_singleton.1 e] at hg
  have := (h6.lt _ hg).1
  omega

set_option maxRecDepth 100000 in
set_option maxHeartbeats 4000000 in
theorem grow_end (w1 : World) (Bi bk base Qb S N V G : Nat) (v : Value) (n x q : Nat) (qv : Value) (w : World) (hn : n ≤ 40) (hx : x ≤ n) (hq : q < 39) (hv : See w1 v [(n : Int)]) (h1 : Held Bi bk w1) (hW : WinsC Bi bk q)
    (nn : bk ≠ Qb ∧ bk ≠ S ∧ bk ≠ N ∧ bk ≠ V ∧ bk ≠ G) (h : GSt w1 Bi bk base Qb S N V G v (q + 1) qv [(x : Int)] w) :
    Calls Try.prog 57 #[.pointer (some ⟨Qb, 0, none⟩), .pointer (some ⟨S, 0, none⟩), .pointer (some ⟨N, 0, none⟩), .pointer (some ⟨V, 0, none⟩), .pointer (some ⟨G, 0, none⟩)] w
      fun e w' => e = .returned (.bool (decide (x ≤ 2 ^ q ∧ n - x ≤ 2 ^ q))) ∧ GSt w1 Bi bk base Qb S N V G v (q + 1) qv [(x : Int)] w' ∧ Chg [bk] w w' := by
  obtain ⟨fk1, hI1⟩ := h1
  have hseeV : ∀ X, Chg [] w X → See X v [(n : Int)] := fun X hX => (hv.keepM hI1.2.1 h.2.2.2.2.2.2.2.1).keep hX
  have hown := h.2.2.2.2.2.1
  have hseeQ : ∀ X, Chg [] w X → See X qv [(x : Int)] := fun X hX => (Ints.toSee (row_low hown (Nat.zero_le _)) : See w qv [(x : Int)]).keep hX
  obtain ⟨qa, qc, rfl, _⟩ := row_shape hown
  obtain ⟨va, vc, rfl, _⟩ := hv.open (by simp)
  simp only [List.length_cons, List.length_nil, Nat.zero_add] at hseeV hseeQ h ⊢
  have HAf := hide fun yes X (hX : Chg [] w X) => after_one _ _ n x yes X (hseeV X hX) (hseeQ X hX) (by omega) hx
  have HH := hide h
  have HNN := hide nn
  obtain ⟨b1, b2, b3, b4, b5, _, hHeld, _⟩ := h
  have HHeld := hide hHeld
  have c1 := b1.cell 0
  have c2 := b2.cell 0
  have c3 := b3.cell 0
  have c4 := b4.cell 0
  have l1 := b1.lt
  have l2 := b2.lt
  have l3 := b3.lt
  have l4 := b4.lt
  simp only [List.getElem?_toArray, List.getElem?_cons_zero] at c1 c2 c3 c4
  have HK := hide (fun X (hX : Chg [] w X) => (⟨(b1.keep hX List.not_mem_nil).cell 0, (b2.keep hX List.not_mem_nil).cell 0⟩ : X.cell? ⟨Qb, 0, none⟩ = some (.slice qa 1 qc) ∧ X.cell? ⟨S, 0, none⟩ = some (.slice (some va) 1 vc)))
  have HB3 := hide b3
  have HB4 := hide b4
  obtain ⟨R, hR⟩ : ∃ R, R = decide (x ≤ 2 ^ q ∧ n - x ≤ 2 ^ q) := ⟨_, rfl⟩
  rw [← hR]
  have HR := hide hR
  clear hseeV hseeQ hown b1 b2 b3 b4 b5 hHeld hv hI1 hR
  go_enter Try.func57, Try.ntmps57
  go_wp2
  go_region_held3 (fun X => X.cell? ⟨Qb, 0, none⟩ = some (.slice qa 1 qc) ∧ X.cell? ⟨S, 0, none⟩ = some (.slice (some va) 1 vc))
    (first | (focus (refine HK.out _ ?_; (repeat' (first | with_reducible exact Chg.refl _ _ | with_reducible assumption | with_reducible apply Chg.drewN | with_reducible apply Chg.drew | with_reducible apply Chg.alloc | (with_reducible refine Chg.setCell ?_ (Or.inr ?_) _) | (with_reducible refine Chg.trans ?_ (by assumption)) | (simp; done) | (simp; omega))); done)))
    ((first | (go_at_call 58; (with_reducible refine Calls.mono (HAf.out true _ ?hcA) ?_); (case hcA => ((repeat' (first | with_reducible exact Chg.refl _ _ | with_reducible assumption | with_reducible apply Chg.drewN | with_reducible apply Chg.drew | with_reducible apply Chg.alloc | (with_reducible refine Chg.setCell ?_ (Or.inr ?_) _) | (with_reducible refine Chg.trans ?_ (by assumption)) | (simp; done) | (simp; omega))))); rintro e wA ⟨ua, rfl, sA, hcA⟩) | (go_at_call 58; (with_reducible refine Calls.mono (HAf.out false _ ?hcZ) ?_); (case hcZ => ((repeat' (first | with_reducible exact Chg.refl _ _ | with_reducible assumption | with_reducible apply Chg.drewN | with_reducible apply Chg.drew | with_reducible apply Chg.alloc | (with_reducible refine Chg.setCell ?_ (Or.inr ?_) _) | (with_reducible refine Chg.trans ?_ (by assumption)) | (simp; done) | (simp; omega))))); rintro e wZ ⟨ub, rfl, sB, hcB⟩)))
  have CZ : Chg [] w wZ := by (repeat' (first | with_reducible exact Chg.refl _ _ | with_reducible assumption | with_reducible apply Chg.drewN | with_reducible apply Chg.drew | with_reducible apply Chg.alloc | (with_reducible refine Chg.setCell ?_ (Or.inr ?_) _) | (with_reducible refine Chg.trans ?_ (by assumption)) | (simp; done) | (simp; omega)))
  have HCZ := hide CZ
  have HZ : Held Bi bk wZ := by obtain ⟨fk, h⟩ := HHeld.out; exact ⟨fk, h.keep CZ⟩
  obtain ⟨fkz, hIz⟩ := HZ
  have HZh : Hid (Held Bi bk wZ) := hide ⟨fkz, hIz⟩
  have sA2 := sA.keep hcB
  have sB2 := sB
  unfold aftN at sA2 sB2
  simp only [if_true, Bool.false_eq_true, if_false] at sA2 sB2
  have HSa : Hid (See wZ ua [(x : Int)] ∧ x ≤ 40) := hide ⟨sA2, by omega⟩
  have HSb : Hid (See wZ ub [((n - x : Nat) : Int)] ∧ n - x ≤ 40) := hide ⟨sB2, by omega⟩
  have HWt := hide fun (u : Value) (k : Nat) (hu : See wZ u [(k : Int)] ∧ k ≤ 40) X (hX : Chg [bk] wZ X) => weight_one u k (q : Int) X (hu.1.keepM hIz.2.1 hX) (by omega)
  have HWn := hide fun (u : Value) (k : Nat) (hu : See wZ u [(k : Int)] ∧ k ≤ 40) X (hX : Chg [bk] wZ X) (hh : Held Bi bk X) => (by
    obtain ⟨fk, hI⟩ := hh
    exact (hW k u X fk hu.2 (hu.1.keepM hIz.2.1 hX) hI).mono fun e w' ⟨he, fk', hI', hc⟩ => ⟨he, hc, fun _ => ⟨fk', hI'⟩⟩ : Calls Try.prog 18 #[.pointer (some ⟨Bi, 0, none⟩), u, .int .i64 (q : Int)] X (fun e w'' => e = .returned (.bool (decide (k ≤ 2 ^ q))) ∧ Chg [bk] X w'' ∧ (Held Bi bk X → Held Bi bk w'')))
  clear c1 c2 c3 c4 l1 l2 l3 l4
  have c3 := (HB3.out.keep CZ List.not_mem_nil).cell 0
  have c4 := (HB4.out.keep CZ List.not_mem_nil).cell 0
  have l3 := (HB3.out.keep CZ List.not_mem_nil).lt
  have l4 := (HB4.out.keep CZ List.not_mem_nil).lt
  simp only [List.getElem?_toArray, List.getElem?_cons_zero] at c3 c4
  have n3 : ¬ N = bk := fun e => HNN.out.2.2.1 e.symm
  have n4 : ¬ V = bk := fun e => HNN.out.2.2.2.1 e.symm
  have q0 : (0 : Int) ≤ (q : Int) := by omega
  have q1 : (q : Int) < 64 := by omega
  have hq39 : (2 : Nat) ^ q ≤ 2 ^ 39 := Nat.pow_le_pow_right (by decide) (by omega)
  have ew : wrap64 (2 ^ q) = ((2 ^ q : Nat) : Int) := by
    have e : ((2 : Int) ^ q) = ((2 ^ q : Nat) : Int) := by rw [Int.natCast_pow]; rfl
    rw [e]
    generalize 2 ^ q = z at *
    unfold wrap64; omega
  obtain ⟨P, hP⟩ : ∃ P, P = 2 ^ q := ⟨_, rfl⟩
  rw [← hP] at ew HWn HR
  obtain ⟨y, hy⟩ : ∃ y, y = n - x := ⟨_, rfl⟩
  rw [← hy] at HSb HR
  have HF := hide (fun (X : World) (hX : Chg [bk] wZ X ∧ (Held Bi bk wZ → Held Bi bk X)) => And.intro (HH.out.keepM (HCZ.out.toAny.trans hX.1) (hX.2 HZh.out) HNN.out) (HCZ.out.toAny.trans hX.1))
  clear hIz sA sB sA2 sB2 hcA hcB CZ hW hq39 hP hy
  by_cases hb1 : x ≤ P
  · have d1 : decide ((x : Int) ≤ (P : Int)) = true := by simp; omega
    have d1n : decide (x ≤ P) = true := by simp; omega
    by_cases hb2 : y ≤ P
    · have d2 : decide ((y : Int) ≤ (P : Int)) = true := by simp; omega
      have d2n : decide (y ≤ P) = true := by simp; omega
      rw [decide_eq_true (show x ≤ P ∧ y ≤ P from ⟨hb1, hb2⟩)] at HR
      clear hb1 hb2
      go_wp2
      refine wp_region_iv (Bi := Bi) (bk := bk) (by kernel_rfl) (by kernel_rfl) ?_
      repeat (first | go_big_quiet_step (((first | (go_at_call 36; refine calls_of_iv ((HWt.out _ x ?s _ (IvOf.chg _)).mono fun e w' h => ⟨h.1, h.2.toAny, fun hh => by obtain ⟨fk, hI⟩ := hh; exact ⟨fk, hI.keep h.2⟩⟩); (case s => exact HSa.out)) | (go_at_call 36; refine calls_of_iv ((HWt.out _ y ?s _ (IvOf.chg _)).mono fun e w' h => ⟨h.1, h.2.toAny, fun hh => by obtain ⟨fk, hI⟩ := hh; exact ⟨fk, hI.keep h.2⟩⟩); (case s => exact HSb.out)) | (go_at_call 18; refine calls_of_iv ((HWn.out _ x ?s _ (IvOf.chg _) (IvOf.held _ HZh.out)).mono fun e w' h => h); (case s => exact HSa.out)) | (go_at_call 18; refine calls_of_iv ((HWn.out _ y ?s _ (IvOf.chg _) (IvOf.held _ HZh.out)).mono fun e w' h => h); (case s => exact HSb.out))))) | quiet_step (((first | (go_at_call 36; refine calls_of_iv ((HWt.out _ x ?s _ (IvOf.chg _)).mono fun e w' h => ⟨h.1, h.2.toAny, fun hh => by obtain ⟨fk, hI⟩ := hh; exact ⟨fk, hI.keep h.2⟩⟩); (case s => exact HSa.out)) | (go_at_call 36; refine calls_of_iv ((HWt.out _ y ?s _ (IvOf.chg _)).mono fun e w' h => ⟨h.1, h.2.toAny, fun hh => by obtain ⟨fk, hI⟩ := hh; exact ⟨fk, hI.keep h.2⟩⟩); (case s => exact HSb.out)) | (go_at_call 18; refine calls_of_iv ((HWn.out _ x ?s _ (IvOf.chg _) (IvOf.held _ HZh.out)).mono fun e w' h => h); (case s => exact HSa.out)) | (go_at_call 18; refine calls_of_iv ((HWn.out _ y ?s _ (IvOf.chg _) (IvOf.held _ HZh.out)).mono fun e w' h => h); (case s => exact HSb.out))))))
      refine wpQuiet_nil ?_
      intro wx hx
      go_wp2
      go_ret
      exact ⟨by rw [HR.out]; rfl, HF.out _ hx⟩
    · have d2 : decide ((y : Int) ≤ (P : Int)) = false := by simp; omega
      have d2n : decide (y ≤ P) = false := by simp; omega
      rw [decide_eq_false (show ¬ (x ≤ P ∧ y ≤ P) from fun h => hb2 h.2)] at HR
      clear hb1 hb2
      go_wp2
      refine wp_region_iv (Bi := Bi) (bk := bk) (by kernel_rfl) (by kernel_rfl) ?_
      repeat (first | go_big_quiet_step (((first | (go_at_call 36; refine calls_of_iv ((HWt.out _ x ?s _ (IvOf.chg _)).mono fun e w' h => ⟨h.1, h.2.toAny, fun hh => by obtain ⟨fk, hI⟩ := hh; exact ⟨fk, hI.keep h.2⟩⟩); (case s => exact HSa.out)) | (go_at_call 36; refine calls_of_iv ((HWt.out _ y ?s _ (IvOf.chg _)).mono fun e w' h => ⟨h.1, h.2.toAny, fun hh => by obtain ⟨fk, hI⟩ := hh; exact ⟨fk, hI.keep h.2⟩⟩); (case s => exact HSb.out)) | (go_at_call 18; refine calls_of_iv ((HWn.out _ x ?s _ (IvOf.chg _) (IvOf.held _ HZh.out)).mono fun e w' h => h); (case s => exact HSa.out)) | (go_at_call 18; refine calls_of_iv ((HWn.out _ y ?s _ (IvOf.chg _) (IvOf.held _ HZh.out)).mono fun e w' h => h); (case s => exact HSb.out))))) | quiet_step (((first | (go_at_call 36; refine calls_of_iv ((HWt.out _ x ?s _ (IvOf.chg _)).mono fun e w' h => ⟨h.1, h.2.toAny, fun hh => by obtain ⟨fk, hI⟩ := hh; exact ⟨fk, hI.keep h.2⟩⟩); (case s => exact HSa.out)) | (go_at_call 36; refine calls_of_iv ((HWt.out _ y ?s _ (IvOf.chg _)).mono fun e w' h => ⟨h.1, h.2.toAny, fun hh => by obtain ⟨fk, hI⟩ := hh; exact ⟨fk, hI.keep h.2⟩⟩); (case s => exact HSb.out)) | (go_at_call 18; refine calls_of_iv ((HWn.out _ x ?s _ (IvOf.chg _) (IvOf.held _ HZh.out)).mono fun e w' h => h); (case s => exact HSa.out)) | (go_at_call 18; refine calls_of_iv ((HWn.out _ y ?s _ (IvOf.chg _) (IvOf.held _ HZh.out)).mono fun e w' h => h); (case s => exact HSb.out))))))
      refine wpQuiet_nil ?_
      intro wx hx
      go_wp2
      go_ret
      exact ⟨by rw [HR.out]; rfl, HF.out _ hx⟩
  · have d1 : decide ((x : Int) ≤ (P : Int)) = false := by simp; omega
    have d1n : decide (x ≤ P) = false := by simp; omega
    rw [decide_eq_false (show ¬ (x ≤ P ∧ y ≤ P) from fun h => hb1 h.1)] at HR
    clear hb1
    go_wp2
    refine wp_region_iv (Bi := Bi) (bk := bk) (by kernel_rfl) (by kernel_rfl) ?_
    repeat (first | go_big_quiet_step (((first | (go_at_call 36; refine calls_of_iv ((HWt.out _ x ?s _ (IvOf.chg _)).mono fun e w' h => ⟨h.1, h.2.toAny, fun hh => by obtain ⟨fk, hI⟩ := hh; exact ⟨fk, hI.keep h.2⟩⟩); (case s => exact HSa.out)) | (go_at_call 36; refine calls_of_iv ((HWt.out _ y ?s _ (IvOf.chg _)).mono fun e w' h => ⟨h.1, h.2.toAny, fun hh => by obtain ⟨fk, hI⟩ := hh; exact ⟨fk, hI.keep h.2⟩⟩); (case s => exact HSb.out)) | (go_at_call 18; refine calls_of_iv ((HWn.out _ x ?s _ (IvOf.chg _) (IvOf.held _ HZh.out)).mono fun e w' h => h); (case s => exact HSa.out)) | (go_at_call 18; refine calls_of_iv ((HWn.out _ y ?s _ (IvOf.chg _) (IvOf.held _ HZh.out)).mono fun e w' h => h); (case s => exact HSb.out))))) | quiet_step (((first | (go_at_call 36; refine calls_of_iv ((HWt.out _ x ?s _ (IvOf.chg _)).mono fun e w' h => ⟨h.1, h.2.toAny, fun hh => by obtain ⟨fk, hI⟩ := hh; exact ⟨fk, hI.keep h.2⟩⟩); (case s => exact HSa.out)) | (go_at_call 36; refine calls_of_iv ((HWt.out _ y ?s _ (IvOf.chg _)).mono fun e w' h => ⟨h.1, h.2.toAny, fun hh => by obtain ⟨fk, hI⟩ := hh; exact ⟨fk, hI.keep h.2⟩⟩); (case s => exact HSb.out)) | (go_at_call 18; refine calls_of_iv ((HWn.out _ x ?s _ (IvOf.chg _) (IvOf.held _ HZh.out)).mono fun e w' h => h); (case s => exact HSa.out)) | (go_at_call 18; refine calls_of_iv ((HWn.out _ y ?s _ (IvOf.chg _) (IvOf.held _ HZh.out)).mono fun e w' h => h); (case s => exact HSb.out))))))
    refine wpQuiet_nil ?_
    intro wx hx
    go_wp2
    go_ret
    exact ⟨by rw [HR.out]; rfl, HF.out _ hx⟩
end Go.Proofs.Ytpplihpfjniacaa
