/- Regions in a round of a loop over a function; marks among the deferred calls; loops over the elements of a set, plainly. -/
import Derived.Test.YtpplihpfjniacaaDoorPrs
import Derived.Stop.RegionWithIn
import Derived.Deep.AppendLies
import Derived.OwnWalkIn
namespace Go.Proofs.YtpplihpfjniacaaDoor
open Go.RowKit
attribute [local go_sem] Oper.semAt_some

def noDefer (ops : Array Oper) : Bool := ops.all fun o => match o.op with | .defer _ => false | _ => true
theorem noDefer_at {ops : Array Oper} (h : noDefer ops = true) {i : Nat} {o : Oper} (ho : ops[i]? = some o) : ∀ c, o.op ≠ .defer c := by
  intro c hc
  unfold noDefer at h
  rw [Array.all_eq_true] at h
  obtain ⟨hi, he⟩ := Array.getElem?_eq_some_iff.1 ho
  have := h i hi
  rw [he, hc] at this
  cases this
variable {P : Program} {ops : Array Oper} {Q : Exit → Act → World → Prop} {md : Region.Mode}
theorem upon_round {l n : Nat} {o : Oper} {a : Act} {K : Act → World → Prop} {r : Result Next} (h : o.upon P a K Q r) : o.uponIn (Fence.wide.inRound l) n P a K Q r := by
  have hd : (Fence.wide.inRound l).depth.isSome = true → 1 ≤ n := fun h => by cases h
  cases r with
  | ok x w' =>
    cases x <;> simp only [Oper.upon] at h <;> simp only [Oper.uponIn] <;>
      first
        | exact h
        | exact ⟨hd, CallsIn.inRound l (callsIn_wide.2 h)⟩
        | exact ⟨hd, fun c cs _ => let ⟨v, w'', r, s⟩ := h c cs; ⟨v, w'', r, stepsIn_wide.2 s⟩⟩
  | halt x w' => cases x <;> simp only [Oper.upon] at h <;> simp only [Oper.uponIn] <;> exact h
theorem wpOp_round {l n : Nat} (hops : noDefer ops = true) (hL : ¬ LetsOut Q) {i : Nat} {K K' : Act → World → Prop} {a : Act} {w : World} (hK : ∀ a w, K a w → K' a w) (h : wpOp P ops Q i K a w) : wpOpIn (Fence.wide.inRound l) n P ops Q i K' a w := by
  unfold wpOp at h
  unfold wpOpIn
  cases ho : ops[i]? with
  | none => rw [ho] at h; exact hK _ _ h
  | some o =>
    rw [ho] at h
    simp only [] at h ⊢
    split at h
    · rename_i hw
      rw [if_pos hw]
      rcases h with h | ⟨_, h⟩
      · unfold Oper.wp at h
        refine ⟨fun _ _ => trivial, ?_⟩
        rw [show (Fence.wide.inRound l).round = some l from rfl, Oper.semAt_some l _ _ (noDefer_at hops ho)]
        exact upon_round (Oper.wp_mono (o := o) hK h)
      · exact absurd h hL
    · rename_i hw
      rw [if_neg hw]
      exact ⟨fun _ _ => trivial, hK _ _ h⟩
theorem any_round {l n : Nat} (hops : noDefer ops = true) (hL : ¬ LetsOut Q) : ∀ (fuel : Nat) (listed : Array Bool) (a : Act) (w : World), wpAny P md ops Q fuel listed a w → wpAnyIn (Fence.wide.inRound l) n P md ops Q fuel listed a w
  | 0, _, _, _, h => h
  | fuel + 1, _, _, _, h => ⟨h.1, fun i hi => wpOp_round hops hL (any_round hops hL fuel _) (h.2 i hi)⟩
/-- The post of a region that goes on. -/
def goesOn (K : Act → World → Prop) : Exit → Act → World → Prop
  | .normal, a, w => K a w
  | _, _, _ => False
theorem goesOn_lets (K : Act → World → Prop) : ¬ LetsOut (goesOn K) := by
  rintro ⟨a, w, h⟩
  exact h
theorem region_round {l n id : Nat} {a : Act} {w : World} (hops : noDefer ops = true) (hm : P.follows .mixedOrders = true)
    (h : wpAny P .any ops (goesOn (Q .normal)) ops.size (Array.replicate ops.size false) a { w with drawn := w.drawn + 1 }) : (Code.region id ops true).wpIn (Fence.wide.inRound l) n P Q a w := by
  refine wpIn_mono (wpIn_region_any hm (any_round hops (goesOn_lets _) _ _ _ _ h)) ?_
  intro e a w h
  cases e <;> first | exact h | exact False.elim h
theorem any_still_tail {a : Act} {w : World} {l : List Oper} (n : Nat) (hB : Region.lexTailB .any l.toArray n = true)
    (h : wpStill P l.toArray w (fun a' => wpList P l.toArray Q (l.drop n) a' w) (l.take n) a) : wpAny P .any l.toArray Q l.toArray.size (Array.replicate l.toArray.size false) a w := by
  simp only [Region.lexTailB, Bool.and_eq_true, decide_eq_true_eq] at hB
  obtain ⟨⟨⟨⟨hsel, hn⟩, hs⟩, hc⟩, hlex⟩ := hB
  have hn' : n < l.length := by simpa using hn
  have htl : (l.take n).length = n := by simp; omega
  have hdl : (l.drop n).length = l.toArray.size - n := by simp
  have inv0 : HeadInv .any l.toArray n (Array.replicate l.toArray.size false) :=
    ⟨by simp, fun j oj _ hl => (by rw [getD_replicate_false] at hl; cases hl), fun t _ ht => getD_in (by simpa using ht) (getD_replicate_false _ _)⟩
  have H := wpAnyL_lex (md := .any) (g := l.toArray.size - n) hsel hs hc hn (l.take n) 0 _ a (fun j hj => by
    have hj' : j < n := by rw [htl] at hj; exact hj
    simp [hj']) (by simpa using htl) inv0 (by rw [htl]; exact hlex) h
  have := wpAny_of_head (Q' := Q) (g := l.toArray.size - n) (fun listed a' hL => by
    have := wpAny_of_seq (md := .any) (Q' := Q) (l.drop n) n listed a' w (fun j => by simp [List.getElem?_drop]) (by rw [hdl]; exact hL.1) hL.2
    rwa [hdl] at this) _ _ _ H
  rw [htl, show n + (l.toArray.size - n) = l.toArray.size by omega] at this
  exact this
theorem region_round_still {l : List Oper} {m id k : Nat} {a : Act} {w : World} (n : Nat) (hm : P.follows .mixedOrders = true) (hops : noDefer l.toArray = true) (hB : Region.lexTailB .any l.toArray n = true)
    (h : wpStill P l.toArray w.drew (fun a' => wpList P l.toArray (goesOn (Q .normal)) (l.drop n) a' w.drew) (l.take n) a) : (Code.region id l.toArray true).wpIn (Fence.wide.inRound m) k P Q a w :=
  region_round hops hm (any_still_tail n hB h)
theorem region_round_quiet {P : Program} {id lp n : Nat} {Q : Exit → Act → World → Prop} {a : Act} {w : World} {l : List Oper} (C : World → Prop) (hops : noDefer l.toArray = true) (hm : P.follows .mixedOrders = true) (hB : Region.lexB .any l.toArray = true)
    (hC : C { w with drawn := w.drawn + 1 }) (h : wpQuiet P l.toArray C (fun a' => ∀ w', C w' → Q .normal a' w') l a) : (Code.region id l.toArray true).wpIn (Fence.wide.inRound lp) n P Q a w := by
  simp only [Region.lexB, Bool.and_eq_true] at hB
  refine region_round hops hm (wpAny_of_quiet (Q := fun a' => ∀ w', C w' → Q .normal a' w') (Q' := goesOn (Q .normal)) (fun _ w' hw' h => h w' hw') _ _ _ _ hC ?_)
  have := wpAnyQ_lex (C := C) (md := .any) hB.1 l 0 (Array.replicate l.toArray.size false) a (by simp) (by simpa using hB.2) h
  simpa using this
theorem region_round_ext {P : Program} {id lp n : Nat} {Q : Exit → Act → World → Prop} {a : Act} {w : World} {l : List Oper} (hops : noDefer l.toArray = true) (hm : P.follows .mixedOrders = true) (hB : Region.lexB .any l.toArray = true)
    (h : wpQuiet P l.toArray (fun w' => ∃ x : ExtOf w, w' = x.at) (fun a' => ∀ w', Chg [] w w' → Q .normal a' w') l a) : (Code.region id l.toArray true).wpIn (Fence.wide.inRound lp) n P Q a w := by
  refine region_round_quiet (fun w' => ∃ x : ExtOf w, w' = x.at) hops hm hB ⟨⟨w.drew, (Chg.refl _ _).drew⟩, rfl⟩ ?_
  have hmono : ∀ (l' : List Oper) (a : Act), wpQuiet P l.toArray (fun w' => ∃ x : ExtOf w, w' = x.at) (fun a' => ∀ w', Chg [] w w' → Q .normal a' w') l' a →
      wpQuiet P l.toArray (fun w' => ∃ x : ExtOf w, w' = x.at) (fun a' => ∀ w', (∃ x : ExtOf w, w' = x.at) → Q .normal a' w') l' a := by
    intro l'
    induction l' with
    | nil => intro a h w' ⟨x, hx⟩; subst hx; exact h _ x.chg
    | cons o l' ih =>
      intro a h
      unfold wpQuiet at h ⊢
      split
      · rename_i hw; rw [if_pos hw] at h; exact Oper.quiet_mono (fun a h => ih a h) h
      · rename_i hw; rw [if_neg hw] at h; exact ih _ h
  exact hmono l a h
theorem Box.row {B : Nat} {W W' : World} {row : Option Nat} {A : Nat} {cs : Array Value} {T : TypeId} (h : Box W A cs T) (hg : W.grownBy W' row) (hr : ∀ r, row = some r → B ≤ r ∧ ∃ o : Obj, W.heap[r]? = some o ∧ o.isCells = false) : Box W' A cs T := by
  refine (hg.block A h.lt (fun e => ?_)).trans h
  obtain ⟨_, o, ho, hc⟩ := hr A e.symm
  rw [show W.heap[A]? = some (.cells cs T (0, 0)) from h] at ho
  cases ho
  cases hc
theorem Chg.row' {B : Nat} {S : List Nat} {a W W' : World} {row : Option Nat} (h : Chg S a W) (ha : a.heap.size ≤ B) (hg : W.grownBy W' row) (hr : ∀ r, row = some r → B ≤ r ∧ ∃ o : Obj, W.heap[r]? = some o ∧ o.isCells = false) : Chg S a W' :=
  h.grown hg (fun k hk => .inr (Nat.le_trans ha (hr k hk).1))
theorem kf_chg {B : Nat} {S : List Nat} {W W' : World} (h : Chg S W W') (hS : ∀ s ∈ S, s < B ∨ ∀ o, W.heap[s]? = some o → o.isCells = true) : KeepsFrom B W W' :=
  ⟨h.size, fun k o hk ho hc => (h.block k (Array.getElem?_eq_some_iff.1 ho).1 (fun hm => by
    rcases hS k hm with h | h
    · omega
    · rw [h o ho] at hc; cases hc)).trans ho⟩
theorem wpListIn_append_lies {F : Fence} {n : Nat} {P : Program} (w : World) {ops : Array Oper} {rest : List Oper} {o : Oper} {a : Act} {Q : Exit → Act → World → Prop}
    (hg : o.guard = none) (s x : Operand) (t : TypeId) (hop : o.op = Op.call { callee := Callee.builtin Builtin.append, args := #[s, x], argTypes := #[t, t] })
    (base : Nat) (e : TypeId) (i : TypeInfo) (z : Value) (size bytes : Nat) (h1 : P.underlying t = some (.slice e)) (h2 : P.info? e = some i) (h3 : i.zero = some z) (h4 : i.size = size) (h5 : i.bytes = bytes) (h6 : z.cells.size = size) (h7 : 0 < size)
    (v : Value) (k : Nat) (xs : List Value) (hs : a.eval s = v) (hown : w.ownsRow base e size v k xs) (ad : Addr) (m c : Nat) (news : List Value) (hx : a.eval x = .slice (some ad) m c) (hn : news.length = m * size)
    (hc : ∀ j u, news[j]? = some u → w.cell? (ad.add j) = some u) (h1c : ∀ u ∈ news, u.oneCell' = true) (hm : 0 < m) (b1 : k + m ≤ maxLen) (b2 : (k + m) * bytes ≤ 140737488355328) (b3 : base ≤ w.heap.size) (H : Nat) (hH : w.heap.size = H)
    (hK : ∀ g cap w', w'.ownsRow base e size (.slice (some ⟨g, 0, none⟩) (k + m) cap) (k + m) (xs ++ news) → w.grownBy w' v.ownBlock → (v.ownBlock = some g ∨ g = H) → g < w'.heap.size → wpListIn F n P ops Q rest (a.put o.dst (.slice (some ⟨g, 0, none⟩) (k + m) cap)) w') :
    wpListIn F n P ops Q (o :: rest) a w := by
  refine wpListIn_plain hg fun K hK' => ?_
  obtain ⟨g, cap, w', hrun, r1, r2, r3, r4⟩ := run_append_lies (P := P) w t o.type base e i z size bytes h1 h2 h3 h4 h5 h6 h7 v k xs hown ad m c news hn hc h1c hm b1 b2 b3 H hH
  unfold Oper.wpIn
  refine ⟨?_, ?_⟩
  · simp [Oper.about, hop, resolve, Target.leads, Sem.run_pure]
  · rw [Oper.semAt_plain F _ _ (by rw [hop]; intro c hc'; cases hc')]
    simp [execOp, hop, resolve, invoke, builtin, hs, hx, hrun, Result.andThen]
    exact hK' _ _ (hK g cap w' r1 r2 r3 r4)

theorem own_row {B : Nat} {W W' : World} {row : Option Nat} {base : Nat} {e : TypeId} {size n : Nat} {v : Value} {xs : List Value} (h : W.ownsRow base e size v n xs) (hg : W.grownBy W' row) (hr : ∀ r, row = some r → B ≤ r ∧ ∃ o : Obj, W.heap[r]? = some o ∧ o.isCells = false) : W'.ownsRow base e size v n xs := by
  refine h.kept hg ?_
  rcases h.2 with ⟨rfl, _⟩ | ⟨g, cap, cur, rfl, _, hgb, _⟩
  · exact .inl rfl
  · refine .inr fun e' => ?_
    obtain ⟨_, o, ho, hc⟩ := hr g e'.symm
    rw [hgb] at ho
    cases ho
    cases hc

/-- A block that is made, under a name. -/
theorem alloc_box {w : World} {Z : Nat} (hZ : w.heap.size = Z) (cs : Array Value) (T : TypeId) : ∃ W', w.alloc (.cells cs T) = W' ∧ Box W' Z cs T ∧ Chg [] w W' ∧ W'.heap.size = Z + 1 :=
  ⟨_, rfl, Box.at _ _ _ hZ.symm, (Chg.refl _ _).alloc _, by simp [hZ]⟩
theorem ctz_low {Y : Nat} (h0 : Y ≠ 0) (h : Y < 65536) : Y.testBit (Lib.ctz 64 Y) = true := (Fam.low_test h0 (show Y < 2 ^ 64 by omega) 0).2.1
theorem le_of_sub {Y t : Nat} (h : ∀ k, Y.testBit k = true → t.testBit k = true) : Y ≤ t := by
  have e : Y &&& t = Y := Nat.eq_of_testBit_eq fun k => by
    rw [Nat.testBit_and]
    cases hb : Y.testBit k with
    | false => rfl
    | true => rw [h k hb]; rfl
  rw [← e]
  exact Nat.and_le_right
theorem pow_cast (i : Nat) : ((2 : Int) ^ i) = ((2 ^ i : Nat) : Int) := by rw [Int.natCast_pow]; rfl
theorem shl1 {i : Nat} (h : i < 16) : wrap64 (2 ^ i) = (2 : Int) ^ i := by
  have hp : (2 : Nat) ^ i ≤ 2 ^ 15 := Nat.pow_le_pow_right (by decide) (by omega)
  rw [pow_cast]
  generalize 2 ^ i = q at hp
  unfold wrap64; omega
theorem shl2 {i : Nat} (h : i < 16) : IntKind.i64.wrap (2 ^ i) = (2 : Int) ^ i := by
  have hp : (2 : Nat) ^ i ≤ 2 ^ 15 := Nat.pow_le_pow_right (by decide) (by omega)
  rw [pow_cast]
  generalize 2 ^ i = q at hp
  rw [IntKind.wrap_i64]; omega
theorem add1 {x : Nat} (h : x < 65536) : wrap64 ((x : Int) + 1) = ((x + 1 : Nat) : Int) := by unfold wrap64; omega
theorem add2 {x : Nat} (h : x < 65536) : IntKind.i64.wrap ((x : Int) + 1) = ((x + 1 : Nat) : Int) := by rw [IntKind.wrap_i64]; omega
theorem or1 {a i : Nat} (ha : a < 65536) (h : i < 16) : bits BinOp.or IntKind.i64 (a : Int) ((2 : Int) ^ i) = ((a ||| 2 ^ i : Nat) : Int) := by
  have hp : (2 : Nat) ^ i ≤ 2 ^ 15 := Nat.pow_le_pow_right (by decide) (by omega)
  rw [← lor_nat a (2 ^ i) (by omega) (by omega), pow_cast]
theorem andn1 {a i : Nat} (ha : a < 65536) (h : i < 16) : bits BinOp.andNot IntKind.i64 (a : Int) ((2 : Int) ^ i) = ((andnN a (2 ^ i) : Nat) : Int) := by
  have hp : (2 : Nat) ^ i ≤ 2 ^ 15 := Nat.pow_le_pow_right (by decide) (by omega)
  rw [← and_not ha (show 2 ^ i < 65536 by omega), pow_cast]

/-! The marks that outermost loops over functions leave among the deferred calls. -/
def mark (D : Nat) : Deferred := { target := .collected D, args := #[] }
def Marks (B U : Nat) (W : World) (ds : List Deferred) : Prop := ∃ Ds : List Nat, ds = Ds.map mark ∧ Ds.Pairwise (· > ·) ∧ ∀ D ∈ Ds, B ≤ D ∧ D < U ∧ W.heap[D]? = some (.deferred (some []))
theorem Marks.nil (B U : Nat) (W : World) : Marks B U W [] := ⟨[], rfl, .nil, fun _ h => by cases h⟩
theorem Marks.push {B U D V : Nat} {W : World} {ds : List Deferred} (h : Marks B U W ds) (hB : B ≤ D) (hU : U ≤ D) (hV : D < V) (hD : W.heap[D]? = some (.deferred (some []))) : Marks B V W ({ target := .collected D, args := #[] } :: ds) := by
  obtain ⟨Ds, rfl, hp, hA⟩ := h
  refine ⟨D :: Ds, rfl, List.pairwise_cons.2 ⟨fun x hx => by have := (hA x hx).2.1; omega, hp⟩, fun x hx => ?_⟩
  rcases List.mem_cons.1 hx with rfl | hx
  · exact ⟨hB, hV, hD⟩
  · obtain ⟨h1, h2, h3⟩ := hA x hx
    exact ⟨h1, by omega, h3⟩
theorem Marks.up {B U V : Nat} {W : World} {ds : List Deferred} (h : Marks B U W ds) (hV : U ≤ V) : Marks B V W ds := by
  obtain ⟨Ds, e, hp, hA⟩ := h
  exact ⟨Ds, e, hp, fun x hx => by obtain ⟨h1, h2, h3⟩ := hA x hx; exact ⟨h1, by omega, h3⟩⟩
theorem Marks.keep {B U : Nat} {S : List Nat} {W W' : World} {ds : List Deferred} (h : Marks B U W ds) (hc : Chg S W W') (hS : ∀ s ∈ S, ∀ o, W.heap[s]? = some o → o.isCells = true) : Marks B U W' ds := by
  obtain ⟨Ds, e, hp, hA⟩ := h
  refine ⟨Ds, e, hp, fun x hx => ?_⟩
  obtain ⟨h1, h2, h3⟩ := hA x hx
  refine ⟨h1, h2, (hc.block x (Array.getElem?_eq_some_iff.1 h3).1 fun hm => ?_).trans h3⟩
  have := hS x hm _ h3
  cases this
theorem Marks.keep0 {B U : Nat} {W W' : World} {ds : List Deferred} (h : Marks B U W ds) (hc : Chg [] W W') : Marks B U W' ds := h.keep hc (fun _ h => by cases h)
theorem Marks.low {B U : Nat} {S : List Nat} {W W' : World} {ds : List Deferred} (h : Marks B U W ds) (hc : Chg S W W') (hS : ∀ s ∈ S, U ≤ s) : Marks B U W' ds := by
  obtain ⟨Ds, e, hp, hA⟩ := h
  refine ⟨Ds, e, hp, fun x hx => ?_⟩
  obtain ⟨h1, h2, h3⟩ := hA x hx
  exact ⟨h1, h2, (hc.block x (Array.getElem?_eq_some_iff.1 h3).1 fun hm => by have := hS x hm; omega).trans h3⟩
theorem Marks.row {B U C : Nat} {W W' : World} {row : Option Nat} {ds : List Deferred} (h : Marks B U W ds) (hU : U ≤ C) (hg : W.grownBy W' row) (hr : ∀ r, row = some r → C ≤ r ∧ ∃ o : Obj, W.heap[r]? = some o ∧ o.isCells = false) : Marks B U W' ds := by
  obtain ⟨Ds, e, hp, hA⟩ := h
  refine ⟨Ds, e, hp, fun x hx => ?_⟩
  obtain ⟨h1, h2, h3⟩ := hA x hx
  exact ⟨h1, h2, (hg.block x (Array.getElem?_eq_some_iff.1 h3).1 (fun e => by have := (hr x e.symm).1; omega)).trans h3⟩
theorem leavesM {F : Fence} {n : Nat} {P : Program} {fn : Func} {tmps : Array Value} {R : Ending → World → Prop} {B U : Nat} {K : World → Prop} (hK : OwnFrom B (fun (_ : Unit) W => K W)) (hfin : ∀ W', K W' → LeavesIn F n P fn tmps R [] .returning W') :
    ∀ (ds : List Deferred) (W : World), Marks B U W ds → K W → LeavesInM F n P fn tmps R ds .returning W := by
  intro ds
  induction ds with
  | nil => exact fun W _ hk => hfin W hk
  | cons d ds ih =>
    rintro W ⟨Ds, e, hp, hA⟩ hk
    cases Ds with
    | nil => cases e
    | cons D Ds =>
      obtain ⟨rfl, rfl⟩ : d = mark D ∧ ds = Ds.map mark := by simpa using e
      obtain ⟨h1, h2, h3⟩ := hA D (List.mem_cons_self ..)
      refine ⟨by simp, .inl ⟨D, _, rfl, run_takeDeferred h3, ih _ ⟨Ds, rfl, (List.pairwise_cons.1 hp).2, fun x hx => ?_⟩ (hK.putObj (s := ()) _ hk h1 h3 rfl)⟩⟩
      obtain ⟨k1, k2, k3⟩ := hA x (List.mem_cons_of_mem _ hx)
      have := (List.pairwise_cons.1 hp).1 x hx
      exact ⟨k1, k2, (World.putObj_heap_other (by omega)).trans k3⟩

/-- What a body that holds such loops must achieve; it does not panic. -/
def calmM (F : Fence) (n : Nat) (P : Program) (fn : Func) (R : Ending → World → Prop) : Exit → Act → World → Prop
  | .normal, a, w | .ret, a, w => LeavesInM F n P fn a.tmps R a.defers .returning w
  | _, _, _ => False
theorem calls_calm {P : Program} {f : FuncId} {fn : Func} {c : Code} {args : Array Value} {w : World} {R : Ending → World → Prop} (n : Nat)
    (hf : P.funcs[f]? = some fn) (hb : fn.body = some c)
    (h : c.wp P (calmM Fence.wide n P fn R) { tmps := args ++ Array.replicate (fn.ntmps - args.size) undef, defers := [] } w) : Calls P f args w R :=
  callsIn_wide.1 (callsIn_of_wp_marks (F := Fence.wide) (n := n) hf hb trivial (wpIn_wide.2 (wpIn_wide.1 (wpIn_mono (wpIn_wide (n := n).2 h) (fun e a w h => by
    cases e <;> first | exact h | exact h.elim)))) rfl)

theorem box_row_ne {w : World} {B base n size : Nat} {cs : Array Value} {T e : TypeId} {v : Value} {xs : List Value} (hB : Box w B cs T) (h : w.ownsRow base e size v n xs) (hne : T ≠ e) : ∀ g, v.ownBlock = some g → g ≠ B := by
  rintro g hg rfl
  rcases h.2 with ⟨rfl, _⟩ | ⟨g', cap, cur, rfl, _, hh, _⟩
  · cases hg
  · simp only [Value.ownBlock, Option.some.injEq] at hg
    subst hg
    rw [show w.heap[g']? = some (.cells cs T (0, 0)) from hB] at hh
    simp at hh
    exact hne hh.2
theorem own_cells {W : World} {base n size : Nat} {e : TypeId} {v : Value} {xs : List Value} (h : W.ownsRow base e size v n xs) {g : Nat} (hg : v.ownBlock = some g) : ∀ o, W.heap[g]? = some o → o.isCells = true := by
  intro o ho
  rcases h.2 with ⟨rfl, _⟩ | ⟨g', cap, cur, rfl, _, hgb, _⟩
  · cases hg
  · simp only [Value.ownBlock, Option.some.injEq] at hg
    subst hg
    rw [hgb] at ho
    cases ho
    rfl
/-- A row grown, and its slice stored back into its box. -/
theorem push_row {W w3 : World} {Z base size n n' g1 cap1 : Nat} {TB e : TypeId} {xs xs' : List Value} {ov : Value} {o : Obj} (hb : Box W Z #[ov] TB) (how : W.ownsRow base e size ov n xs) (hZ : Z < base) (hgrow : (W.alloc o).grownBy w3 ov.ownBlock)
    (hown1 : w3.ownsRow base e size (.slice (some ⟨g1, 0, none⟩) n' cap1) n' xs') (hat : ov.ownBlock = some g1 ∨ g1 = (W.alloc o).heap.size) :
    Box (w3.setCell ⟨Z, 0, none⟩ (.slice (some ⟨g1, 0, none⟩) n' cap1)) Z #[.slice (some ⟨g1, 0, none⟩) n' cap1] TB ∧ (w3.setCell ⟨Z, 0, none⟩ (.slice (some ⟨g1, 0, none⟩) n' cap1)).ownsRow base e size (.slice (some ⟨g1, 0, none⟩) n' cap1) n' xs' ∧
      Chg (Z :: ov.ownBlock.toList) W (w3.setCell ⟨Z, 0, none⟩ (.slice (some ⟨g1, 0, none⟩) n' cap1)) ∧ (∀ Bs : List Nat, (∀ b ∈ Bs, b < W.heap.size) → (∀ g, ov.ownBlock = some g → g ∉ Bs) → g1 ∉ Bs) := by
  have q5 := box_grown (hb.old o) (how.alloc o) hgrow hZ
  have hc3 : Chg (Z :: ov.ownBlock.toList) W w3 := ((Chg.refl _ W).alloc o).grown hgrow (fun k hk => .inl (List.mem_cons_of_mem _ (Option.mem_toList.2 hk)))
  refine ⟨q5.set1 _, row_set hown1 hZ _, hc3.setCell (.inl (List.mem_cons_self ..)) _, fun Bs h1 h2 hm => ?_⟩
  rcases hat with h | h
  · exact h2 g1 h hm
  · have := h1 g1 hm
    rw [h] at this
    simp at this
    omega
theorem kf_mono {B C : Nat} {W W' : World} (h : KeepsFrom B W W') (hC : B ≤ C) : KeepsFrom C W W' := ⟨h.size, fun k o hk ho hc => h.same k o (Nat.le_trans hC hk) ho hc⟩
theorem kf_row {B C : Nat} {Ws W W' : World} {row : Option Nat} (h : KeepsFrom B Ws W) (hC : Ws.heap.size ≤ C) (hg : W.grownBy W' row) (hr : ∀ r, row = some r → C ≤ r ∧ ∃ o : Obj, W.heap[r]? = some o ∧ o.isCells = false) : KeepsFrom B Ws W' :=
  ⟨Nat.le_trans h.size hg.size, fun k o hk ho hc => by
    have hlt := (Array.getElem?_eq_some_iff.1 ho).1
    exact (hg.block k (Nat.lt_of_lt_of_le hlt h.size) (fun e => by have := (hr k e.symm).1; omega)).trans (h.same k o hk ho hc)⟩
theorem kf_set {B b : Nat} {Ws W : World} (h : KeepsFrom B Ws W) (hb : Ws.heap.size ≤ b) (u : Value) : KeepsFrom B Ws (W.setCell ⟨b, 0, none⟩ u) :=
  ⟨Nat.le_trans h.size (Chg.set W ⟨b, 0, none⟩ u).size, fun k o hk ho hc => by
    have hlt := (Array.getElem?_eq_some_iff.1 ho).1
    exact (Below.heap_setCell _ _ _ _ (fun e => by have : k = b := e; omega)).trans (h.same k o hk ho hc)⟩

/-- How a region ends that goes on, whatever order it draws: its frame but for one value, and what its world keeps. -/
def goneOn (F : Value → Act) (K : World → Prop) : Exit → Act → World → Prop
  | .normal, a, w => (∃ v, a = F v) ∧ K w
  | _, _, _ => False
theorem region_then {Fe : Fence} {k : Nat} {P : Program} {c : Code} {R : Exit → Act → World → Prop} {b : Act} {X : World} (F : Value → Act) (K : World → Prop) (h : c.wpIn Fe k P (goneOn F K) b X) (hk : ∀ v X', K X' → R .normal (F v) X') : c.wpIn Fe k P R b X :=
  wpIn_mono h fun e a w hp => by
    cases e with
    | normal =>
      obtain ⟨⟨v, rfl⟩, hw⟩ := hp
      exact hk v w hw
    | _ => exact hp.elim

/-! Loops over the elements of a set, where no round leaves the loop and the loop's variable is a slot. -/
variable {g : Operand} {ps : Array Tmp} {assign body : Code} {Q : Exit → Act → World → Prop} {a : Act} {w : World} {n gf B X : Nat}
/-- How such a round ends. -/
def bitsEnd (B0 B : Nat) (I : Nat → World → Prop) (Y : Nat) (W : World) : Exit → Act → World → Prop
  | .normal, _, W' => KeepsFrom B0 W W' ∧ BoxI W' B Y ∧ Tz W' ∧ I (Y &&& (Y - 1)) W'
  | _, _, _ => False
theorem bitsEnd_post {B0 B : Nat} {I : Nat → World → Prop} {Y : Nat} {W : World} {e : Exit} {a : Act} {W' : World} (h : bitsEnd B0 B I Y W e a W') : bitsPost B0 B I (fun _ _ => False) Y W e a W' := by
  cases e <;> first | exact h | exact h.elim
theorem bits_out (h1 : 1 ≤ n) (hg : a.eval g = .func (.func gf) #[] #[.pointer (some ⟨B, 0, none⟩)]) (eg : ∀ args w, (callFunc gf args).run Tryd.prog w = .ok (.enter gf args) w)
    (hseq : BitsK (n - 1) gf B) (hps : ps.size = 1) (hX : X < 65536) (hB : BoxI w B X) (hT : Tz w)
    (I : Nat → World → Prop) (hI : OwnFrom w.heap.size I) (hIB : ∀ Y W u, I Y W → I Y (W.setCell ⟨B, 0, none⟩ u)) (h0 : I X w)
    (f : Nat → Act)
    (hassign : ∀ (l Y : Nat) (W : World) (K : Act → World → Prop), K (f Y) W →
      assign.wpIn (Fence.wide.inRound l) (n - 1 - 1) Tryd.prog (Exit.then K (fun _ _ _ => False)) { tmps := (ps.zip #[.int .i64 (Lib.ctz 64 Y)]).foldl (fun t (p, v) => t.setIfInBounds p v) a.tmps, defers := [] } W)
    (hbody : ∀ (l Y : Nat) (W : World), w.heap.size ≤ l → (∃ r, W.heap[l]? = some (.loop r)) → Y ≠ 0 → Y < 65536 → I Y W → BoxI W B Y → Tz W → body.wpIn (Fence.wide.inRound l) (n - 1 - 1) Tryd.prog (bitsEnd w.heap.size B I Y W) (f Y) W)
    (hdone : ∀ (D : Nat) (W : World), w.heap.size ≤ D → I 0 W → Tz W → W.heap[D]? = some (.deferred (some [])) → Q .normal { a with defers := { target := .collected D, args := #[] } :: a.defers } W) :
    (Code.rangeFunc g ps assign body).wpIn Fence.wide n Tryd.prog Q a w :=
  wpIn_bits h1 hg eg hseq hps hX hB hT I (fun _ _ => False) hI (fun _ _ _ _ h _ _ => h) hIB h0 (fun Y a' _ => a' = f Y) (fun _ _ _ _ _ _ h _ _ => h)
    (fun l Y W K hi hb ht hk => hassign l Y W K (hk _ _ (KeepsFrom.refl _ _) hb ht hi rfl))
    (fun l Y a' W hl hr h0 h1 hi hb ht e => by subst e; exact wpIn_mono (hbody l Y W hl hr h0 h1 hi hb ht) (fun _ _ _ h => bitsEnd_post h))
    hdone (fun _ _ _ _ h _ => h.elim)
/-- How a round ends that may leave the function. -/
def bitsEndR (B0 B : Nat) (I : Nat → World → Prop) (Ix : World → Prop) (Y : Nat) (W : World) : Exit → Act → World → Prop
  | .normal, _, W' => KeepsFrom B0 W W' ∧ BoxI W' B Y ∧ Tz W' ∧ I (Y &&& (Y - 1)) W'
  | .ret, _, W' => KeepsFrom B0 W W' ∧ Ix W'
  | _, _, _ => False
/-- The same loop, where a round may return. -/
theorem bits_ret (h1 : 1 ≤ n) (hg : a.eval g = .func (.func gf) #[] #[.pointer (some ⟨B, 0, none⟩)]) (eg : ∀ args w, (callFunc gf args).run Tryd.prog w = .ok (.enter gf args) w)
    (hseq : BitsK (n - 1) gf B) (hps : ps.size = 1) (hX : X < 65536) (hB : BoxI w B X) (hT : Tz w)
    (I : Nat → World → Prop) (Ix : World → Prop) (hI : OwnFrom w.heap.size I) (hIx : OwnFrom w.heap.size (fun (_ : Unit) W => Ix W)) (hIB : ∀ Y W u, I Y W → I Y (W.setCell ⟨B, 0, none⟩ u)) (h0 : I X w)
    (f : Nat → Act)
    (hassign : ∀ (l Y : Nat) (W : World) (K : Act → World → Prop), K (f Y) W →
      assign.wpIn (Fence.wide.inRound l) (n - 1 - 1) Tryd.prog (Exit.then K (fun _ _ _ => False)) { tmps := (ps.zip #[.int .i64 (Lib.ctz 64 Y)]).foldl (fun t (p, v) => t.setIfInBounds p v) a.tmps, defers := [] } W)
    (hbody : ∀ (l Y : Nat) (W : World), w.heap.size ≤ l → (∃ r, W.heap[l]? = some (.loop r)) → Y ≠ 0 → Y < 65536 → I Y W → BoxI W B Y → Tz W → body.wpIn (Fence.wide.inRound l) (n - 1 - 1) Tryd.prog (bitsEndR w.heap.size B I Ix Y W) (f Y) W)
    (hdone : ∀ (D : Nat) (W : World), w.heap.size ≤ D → I 0 W → Tz W → W.heap[D]? = some (.deferred (some [])) → Q .normal { a with defers := { target := .collected D, args := #[] } :: a.defers } W)
    (hstop : ∀ (D : Nat) (W : World), w.heap.size ≤ D → Ix W → W.heap[D]? = some (.deferred (some [])) → Q .ret { a with defers := { target := .collected D, args := #[] } :: a.defers } W) :
    (Code.rangeFunc g ps assign body).wpIn Fence.wide n Tryd.prog Q a w :=
  wpIn_bits h1 hg eg hseq hps hX hB hT I (fun c W => c = .ret ∧ Ix W) hI (fun c W W' row h hg hr => ⟨h.1, hIx () W W' row h.2 hg hr⟩) hIB h0 (fun Y a' _ => a' = f Y) (fun _ _ _ _ _ _ h _ _ => h)
    (fun l Y W K hi hb ht hk => hassign l Y W K (hk _ _ (KeepsFrom.refl _ _) hb ht hi rfl))
    (fun l Y a' W hl hr h0 h1 hi hb ht e => by
      subst e
      refine wpIn_mono (hbody l Y W hl hr h0 h1 hi hb ht) (fun e a W' h => ?_)
      cases e with
      | normal => exact h
      | ret => exact ⟨h.1, rfl, h.2⟩
      | _ => exact h.elim)
    hdone (fun D c W hD h hk => by obtain ⟨rfl, h⟩ := h; exact wpIn_ret (hstop D W hD h hk))
theorem bits_in {l₀ : Nat} {r₀ : Loop} (hl₀ : w.heap[l₀]? = some (.loop r₀)) (h1 : 1 ≤ n) (hg : a.eval g = .func (.func gf) #[] #[.pointer (some ⟨B, 0, none⟩)]) (eg : ∀ args w, (callFunc gf args).run Tryd.prog w = .ok (.enter gf args) w)
    (hseq : BitsK (n - 1) gf B) (hps : ps.size = 1) (hX : X < 65536) (hB : BoxI w B X) (hT : Tz w)
    (I : Nat → World → Prop) (hI : OwnFrom w.heap.size I) (hIB : ∀ Y W u, I Y W → I Y (W.setCell ⟨B, 0, none⟩ u)) (h0 : I X w)
    (f : Nat → Act)
    (hassign : ∀ (l Y : Nat) (W : World) (K : Act → World → Prop), K (f Y) W →
      assign.wpIn (Fence.wide.inRound l) (n - 1 - 1) Tryd.prog (Exit.then K (fun _ _ _ => False)) { tmps := (ps.zip #[.int .i64 (Lib.ctz 64 Y)]).foldl (fun t (p, v) => t.setIfInBounds p v) a.tmps, defers := [] } W)
    (hbody : ∀ (l Y : Nat) (W : World), w.heap.size ≤ l → (∃ r, W.heap[l]? = some (.loop r)) → Y ≠ 0 → Y < 65536 → I Y W → BoxI W B Y → Tz W → body.wpIn (Fence.wide.inRound l) (n - 1 - 1) Tryd.prog (bitsEnd w.heap.size B I Y W) (f Y) W)
    (hdone : ∀ (W : World), I 0 W → Tz W → Q .normal a W) :
    (Code.rangeFunc g ps assign body).wpIn (Fence.wide.inRound l₀) n Tryd.prog Q a w :=
  wpIn_bitsN hl₀ h1 hg eg hseq hps hX hB hT I (fun _ _ => False) hI (fun _ _ _ _ h _ _ => h) hIB h0 (fun Y a' _ => a' = f Y) (fun _ _ _ _ _ _ h _ _ => h)
    (fun l Y W K hi hb ht hk => hassign l Y W K (hk _ _ (KeepsFrom.refl _ _) hb ht hi rfl))
    (fun l Y a' W hl hr h0 h1 hi hb ht e => by subst e; exact wpIn_mono (hbody l Y W hl hr h0 h1 hi hb ht) (fun _ _ _ h => bitsEnd_post h))
    hdone (fun _ _ h => h.elim)
/-- The same, where each round has a box of its own for the loop's variable. -/
theorem bits_box (h1 : 1 ≤ n) (hg : a.eval g = .func (.func gf) #[] #[.pointer (some ⟨B, 0, none⟩)]) (eg : ∀ args w, (callFunc gf args).run Tryd.prog w = .ok (.enter gf args) w)
    (hseq : BitsK (n - 1) gf B) (hps : ps.size = 1) (hX : X < 65536) (hB : BoxI w B X) (hT : Tz w)
    (I : Nat → World → Prop) (hI : OwnFrom w.heap.size I) (hIB : ∀ Y W u, I Y W → I Y (W.setCell ⟨B, 0, none⟩ u)) (h0 : I X w)
    (f : Nat → Nat → Act)
    (hassign : ∀ (l Y Bx : Nat) (W : World) (K : Act → World → Prop), Bx = W.heap.size → K (f Y Bx) (W.alloc (.cells #[.int .i64 (Lib.ctz 64 Y : Int)] 3)) →
      assign.wpIn (Fence.wide.inRound l) (n - 1 - 1) Tryd.prog (Exit.then K (fun _ _ _ => False)) { tmps := (ps.zip #[.int .i64 (Lib.ctz 64 Y)]).foldl (fun t (p, v) => t.setIfInBounds p v) a.tmps, defers := [] } W)
    (hbody : ∀ (l Y Bx : Nat) (W : World), w.heap.size ≤ l → (∃ r, W.heap[l]? = some (.loop r)) → Y ≠ 0 → Y < 65536 → I Y W → BoxI W B Y → Tz W → B < Bx → Box W Bx #[.int .i64 (Lib.ctz 64 Y : Int)] 3 → body.wpIn (Fence.wide.inRound l) (n - 1 - 1) Tryd.prog (bitsEnd w.heap.size B I Y W) (f Y Bx) W)
    (hdone : ∀ (D : Nat) (W : World), w.heap.size ≤ D → I 0 W → Tz W → W.heap[D]? = some (.deferred (some [])) → Q .normal { a with defers := { target := .collected D, args := #[] } :: a.defers } W) :
    (Code.rangeFunc g ps assign body).wpIn Fence.wide n Tryd.prog Q a w :=
  wpIn_bits h1 hg eg hseq hps hX hB hT I (fun _ _ => False) hI (fun _ _ _ _ h _ _ => h) hIB h0 (fun Y a' W => ∃ Bx, B < Bx ∧ Box W Bx #[.int .i64 (Lib.ctz 64 Y : Int)] 3 ∧ a' = f Y Bx)
    (fun _ _ _ _ _ _ ⟨Bx, h1, h2, e⟩ hg hr => ⟨Bx, h1, h2.row hg hr, e⟩)
    (fun l Y W K hi hb ht hk => hassign l Y _ W K rfl (hk _ _ (kf_chg (S := []) ((Chg.refl _ _).alloc _) (fun _ h => by cases h)) (hb.alloc _) (ht.alloc _) (hI.alloc _ hi) ⟨W.heap.size, hb.lt, Box.new _ _ _, rfl⟩))
    (fun l Y a' W hl hr h0 h1 hi hb ht ⟨Bx, k1, k2, e⟩ => by subst e; exact wpIn_mono (hbody l Y Bx W hl hr h0 h1 hi hb ht k1 k2) (fun _ _ _ h => bitsEnd_post h))
    hdone (fun _ _ _ _ h _ => h.elim)
theorem BoxI.toBox {w : World} {B x : Nat} (h : BoxI w B x) : Box w B #[.int .i64 (x : Int)] 3 := h
theorem BoxI.row {C : Nat} {W W' : World} {row : Option Nat} {A x : Nat} (h : BoxI W A x) (hg : W.grownBy W' row) (hr : ∀ r, row = some r → C ≤ r ∧ ∃ o : Obj, W.heap[r]? = some o ∧ o.isCells = false) : BoxI W' A x := Box.row h hg hr
/-- The function that calls another one for the elements of a set. -/
theorem elements_any (X : Nat) (w : World) : Calls Tryd.prog 74 #[.int .i64 (X : Int)] w fun e w' => e = .returned (.func (.func 97) #[] #[.pointer (some ⟨w.heap.size, 0, none⟩)]) ∧ w' = w.alloc (.cells #[.int .i64 (X : Int)] 3) := by
  go_enter Tryd.func74, Tryd.ntmps74
  go_wp2
  go_ret
  exact ⟨rfl, rfl⟩
theorem players_any (X : Nat) (w : World) : Calls Tryd.prog 76 #[.int .i64 (X : Int)] w fun e w' => e = .returned (.func (.func 99) #[] #[.pointer (some ⟨w.heap.size, 0, none⟩)]) ∧ w' = w.alloc (.cells #[.int .i64 (X : Int)] 3) := by
  go_enter Tryd.func76, Tryd.ntmps76
  go_wp2
  go_ret
  exact ⟨rfl, rfl⟩
end Go.Proofs.YtpplihpfjniacaaDoor
