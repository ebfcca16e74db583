/- Walk: up to which number weights weigh all; the program's. -/
import Derived.Test.YtohdjlgghkcaoaaWtPlain2
import Derived.Test.YtohdjlgghkcaoaaS3
import Derived.Test.YtohdjlgghkcaoaaMemo
import Derived.Maps.RangeWalk
import Derived.Maps.OwnSet
namespace Go.Proofs.Ytohdjlgghkcaoaa
open Go.RowKit Go.Maps

theorem keyI : Maps.Keyed Try.prog 3 := int_keyed Try.underlying3
def boolR (v : Value) : Option (DataW Unit × List MemPlace) := match v with
  | .bool b => some (.lit (.bool b), [])
  | _ => none
theorem boolR_mk (b : Bool) : boolR (.bool b) = some (.lit (.bool b), []) := rfl
theorem boolR_inv {v : Value} {y : DataW Unit × List MemPlace} (h : boolR v = some y) : ∃ b, v = .bool b ∧ y = (.lit (.bool b), []) := by
  unfold boolR at h
  split at h
  · cases h; exact ⟨_, rfl, rfl⟩
  · cases h
/-- The map holds just these numbers, each true. -/
def IntSet (D : DataW Unit) (S : Int → Prop) : Prop := IsMap D ∧ (∀ k, Maps.has D k = true → ∃ n, k = .int .i64 n ∧ S n) ∧ ∀ n, S n → ∀ z, D.atKey (.int .i64 n) z = .lit (.bool true)
theorem IntSet.nil : IntSet (.map []) (fun _ => False) := ⟨isMap_empty, fun k h => absurd h (by simp [Maps.has]), fun _ h => h.elim⟩
theorem IntSet.congr {D : DataW Unit} {S T : Int → Prop} (h : IntSet D S) (e : ∀ n, S n ↔ T n) : IntSet D T :=
  ⟨h.1, fun k hk => by obtain ⟨n, rfl, hn⟩ := h.2.1 k hk; exact ⟨n, rfl, (e n).1 hn⟩, fun n hn => h.2.2 n ((e n).2 hn)⟩
theorem IntSet.put {D : DataW Unit} {S : Int → Prop} (h : IntSet D S) (m : Int) : IntSet (D.put (.int .i64 m) (.lit (.bool true))) (fun n => S n ∨ n = m) := by
  refine ⟨h.1.put _ _, fun k hk => ?_, fun n hn z => ?_⟩
  · by_cases hkm : k = .int .i64 m
    · exact ⟨m, hkm, .inr rfl⟩
    · rw [has_put_other hkm] at hk
      obtain ⟨n, rfl, hn⟩ := h.2.1 k hk
      exact ⟨n, rfl, .inl hn⟩
  · by_cases hnm : n = m
    · subst hnm
      exact atKey_put_same h.1 (show WideAt.IsKeyLit (.int .i64 n) from trivial) _ _
    · rw [atKey_put_other (by simpa using hnm)]
      exact h.2.2 n (hn.resolve_right hnm) z
theorem IntSet.mem {D : DataW Unit} {S : Int → Prop} (h : IntSet D S) {n : Int} {y : DataW Unit} (hat : ∀ z, D.atKey (.int .i64 n) z = y) : S n := by
  obtain ⟨m, e, hm⟩ := h.2.1 _ (has_true_of_atKey hat)
  cases e
  exact hm
theorem IntSet.has {D : DataW Unit} {S : Int → Prop} (h : IntSet D S) {n : Int} (hn : S n) : Maps.has D (.int .i64 n) = true := has_true_of_atKey (h.2.2 n hn)
theorem IntSet.look {D : DataW Unit} {S : Int → Prop} (h : IntSet D S) {n : Int} {b : Bool} (hb : (.lit (.bool b) : DataW Unit) = D.atKey (.int .i64 n) (.lit (.bool false))) : b = true ↔ S n := by
  constructor
  · intro e
    cases hh : Maps.has D (.int .i64 n) with
    | false =>
      rw [atKey_of_not_has hh] at hb
      cases hb
      cases e
    | true =>
      obtain ⟨m, e, hm⟩ := h.2.1 _ hh
      cases e
      exact hm
  · intro hs
    rw [h.2.2 n hs] at hb
    cases hb
    rfl

/-- A store into a map literal. -/
theorem wpList_insert_own {H : Type} {P : Program} (w : World) {ops : Array Oper} {rest : List Oper} {o : Oper} {a : Act} {Q : Exit → Act → World → Prop}
    (hg : o.guard = none) (m x v : Operand) (t : TypeId) (hop : o.op = Op.insert t m x v)
    (k e : TypeId) (K : Keyed P k) (ht : P.underlying t = some (.map k e)) (R : Value → Option (DataW H × List MemPlace)) (b n : Nat) (D : DataW H)
    (hm : a.eval m = .map (some b)) (hown : w.ownsMap P k R b n D) (hn : n < maxLen) (key val : Value) (kl : Lit) (hx : a.eval x = key) (hv : a.eval v = val) (hkey : keyOf P k key = some kl)
    (d : DataW H) (ps : List MemPlace) (hval : R val = some (d, ps))
    (hK : ∀ w', w'.ownsMap P k R b (n + 1) (D.put kl d) → w.grownBy w' (some b) → wpList P ops Q rest (a.put o.dst undef) w') :
    wpList P ops Q (o :: rest) a w := by
  refine wpList_plain hg fun K' hK' => ?_
  obtain ⟨w', hrun, r1, r2⟩ := hown.update K ht hn hkey hval
  unfold Oper.wp
  simp [execOp, hop, hm, hx, hv, hrun, Result.andThen]
  exact hK' _ _ (hK w' r1 r2)

theorem sameKey_self (p : Int) : (Lit.int .i64 p).sameKey (.int .i64 p) = true := by simp [Lit.sameKey]
/-- The step of a range over a set of numbers. -/
theorem wpList_next_set (w : World) {ops : Array Oper} {rest : List Oper} {o : Oper} {a : Act} {Q : Exit → Act → World → Prop} {S : Int → Prop}
    (hg : o.guard = none) (it : Operand) (hop : o.op = Op.next it false) (b r n : Nat) (D : DataW Unit) (hD : IntSet D S) (left : Lit → Bool) (cnt : Nat)
    (hit : a.eval it = .pointer (some ⟨r, 0, none⟩)) (h : w.ranges Try.prog 3 boolR b r n D left cnt)
    (hDone : cnt = 0 → (∀ kl, left kl = false) → wpList Try.prog ops Q rest (a.put o.dst (.tuple #[.bool false])) w)
    (hMore : ∀ (p : Int) (w' : World) (cnt' : Nat), (Lit.int .i64 p).wf = true → S p → left (.int .i64 p) = true → w'.ranges Try.prog 3 boolR b r n D (fun z => left z && !z.sameKey (.int .i64 p)) cnt' → cnt' < cnt →
      w.grownBy w' (some r) → w'.heap.size = w.heap.size → (Instr.entry (.pointer (some ⟨r, 0, none⟩))).run Try.prog w' = .ok (.tuple #[.int .i64 p, .bool true]) w' → wpList Try.prog ops Q rest (a.put o.dst (.tuple #[.bool true, .int .i64 p, .bool true])) w') :
    wpList Try.prog ops Q (o :: rest) a w := by
  refine wpList_next_ranges _ hg _ hop 3 keyI boolR (Value.int .i64) Value.bool (fun key kl hkey => by obtain ⟨x, rfl, _⟩ := Maps.keyOf_int_inv Try.underlying3 hkey; exact ⟨x, rfl⟩) (fun v y hv => by obtain ⟨c, rfl, _⟩ := boolR_inv hv; exact ⟨c, rfl⟩) b r n D left cnt hit h hDone ?_
  intro p c kl y w' cnt' hkey hlk hRv hat hrg hlt hgr hsz hen
  obtain ⟨p', e, rfl, hwp⟩ := Maps.keyOf_int_inv Try.underlying3 hkey
  cases e
  have hS := hD.mem hat
  have hc : c = true := by
    have h1 := hD.2.2 p hS (.lit (.bool false))
    rw [hat] at h1
    obtain ⟨c', e', hy⟩ := boolR_inv hRv
    cases e'
    rw [hy] at h1
    simpa using h1
  subst hc
  exact hMore p w' cnt' hwp hS hlk hrg hlt hgr hsz hen

theorem wfI {x : Int} (h1 : -100000 ≤ x) (h2 : x ≤ 100000) : (Lit.int .i64 x).wf = true := wf63 ⟨by omega, by omega⟩
theorem take_snoc {xs : List Int} {i : Nat} (hi : i < xs.length) : xs.take (i + 1) = xs.take i ++ [xs.getD i 0] := by
  rw [List.take_add_one, List.getElem?_eq_getElem hi, List.getD_eq_getElem?_getD, List.getElem?_eq_getElem hi]
  rfl
theorem rc_take_le {xs : List Int} {i : Nat} (hl : xs.length ≤ 6) (hx : ∀ x ∈ xs, 1 ≤ x ∧ x ≤ 1000) {n : Int} (h : W.rc (xs.take i) n = true) : -6000 ≤ n ∧ n ≤ 6000 := by
  have hx' : ∀ x ∈ xs.take i, 1 ≤ x ∧ x ≤ 1000 := fun x hm => hx x (List.mem_of_mem_take hm)
  have h1 := W.rc_le (fun x hm => by have := hx' x hm; omega) h
  have h2 := (W.total_le (m := 1000) (fun x hm => by have := hx' x hm; omega : ∀ x ∈ xs.take i, 0 ≤ x ∧ x ≤ 1000)).2
  have h3 : (xs.take i).length ≤ 6 := by rw [List.length_take]; omega
  omega

set_option maxRecDepth 100000 in
set_option maxHeartbeats 4000000 in
theorem weighs_any (v : Value) (xs : List Int) (F : Nat) (w : World) (hv : See w v xs) (hl : xs.length ≤ 6) (hx : ∀ x ∈ xs, 1 ≤ x ∧ x ≤ 1000) (hf : W.IsFar xs F) :
    Calls Try.prog 59 #[v] w (Ret (.int .i64 (F : Int)) w) := by
  obtain ⟨ao, cap, rfl⟩ := hv.shape
  have HV := hide hv
  have HX := hide hx
  have HF := hide hf
  clear hv hx hf
  obtain ⟨L, hL⟩ : ∃ L, L = xs.length := ⟨_, rfl⟩
  rw [← hL] at hl ⊢
  have HL := hide hL
  clear hL
  have hmm := @run_makeMap Try.prog
  have hmx : maxLen = 9223372036854775807 := rfl
  go_enter Try.func59, Try.ntmps59
  go_wp2_with (first
    | (refine wpList_insert_own _ rfl _ _ _ 105 rfl 3 4 keyI Try.underlying105 boolR w.heap.size 0 (.map []) rfl (World.ownsMap_made _ _ _ _) (by unfold maxLen; omega) _ _ (.int .i64 0) rfl rfl (keyOf_int_mk Try.underlying3 (by decide)) _ _ (boolR_mk true) ?_; intro w1 hown1 hg1)
    | go_in)
  have C1 : Hid (Chg [] w w1) := hide (((Chg.refl [] w).alloc _).grown hg1 (fun k hk => by cases hk; exact .inr (Nat.le_refl _)))
  have D1 := hide (IntSet.nil.put 0)
  have O1 := hide hown1
  have hB1 : Hid (w.heap.size ≤ w.heap.size) := hide (Nat.le_refl _)
  clear hown1 hg1
  go_loopw [3, 13] (fun mv iv wr => ∃ (i b n : Nat) (D : DataW Unit), i ≤ L ∧ mv = .map (some b) ∧ iv = .int .i64 (i : Int) ∧ Hid (wr.ownsMap Try.prog 3 boolR b n D ∧ n ≤ 3 ^ i ∧ IntSet D (fun m => W.rc (xs.take i) m = true) ∧ w.heap.size ≤ b ∧ Chg [] w wr)) (fun _ iv _ => L - (intOf iv).toNat)
  case atStart => exact ⟨0, _, _, _, Nat.zero_le _, rfl, rfl, hide ⟨O1.out, Nat.le_refl _, D1.out.congr (fun n => by rw [List.take_zero, W.rc_nil]; simp), hB1.out, C1.out⟩⟩
  case round =>
    obtain ⟨i, b, n, D, hi, rfl, rfl, hI⟩ := hrel
    by_cases hlt : i < L
    · have d1 : decide ((i : Int) < (L : Int)) = true := by simpa using hlt
      have hne : xs ≠ [] := by rintro rfl; have := HL.out; simp at this; omega
      have hil : i < xs.length := by rw [← HL.out]; exact hlt
      obtain ⟨a, cap', e, hcell⟩ := HV.out.open hne
      cases e
      have fx := hcell _ hI.out.2.2.2.2 i hil
      obtain ⟨x1, x2⟩ := HX.out _ (getD_mem hil)
      have HIl := hide hil
      obtain ⟨x, hxe⟩ : ∃ x, x = xs.getD i 0 := ⟨_, rfl⟩
      rw [← hxe] at fx x1 x2
      have HXE := hide hxe
      have hown := hI.out.1.alloc (.map #[] 0)
      have hs : (wr.alloc (.map #[] 0)).heap.size = wr.heap.size + 1 := by simp
      clear hcell hne hil hxe
      go_wp2_with (first
        | (at_range; refine wpList_range_own _ rfl _ 105 rfl 3 4 keyI Try.underlying105 boolR b n D rfl hown ?_; intro w2 hrg2 hg2 hs2)
        | go_in)
      go_frame
      rw [hs] at hrg2 hs2 ⊢
      have hbl := hI.out.1.lt
      have hout2 : w2.ownsMap Try.prog 3 boolR wr.heap.size 0 (.map []) := (World.ownsMap_made wr _ _ _).kept hg2 (by simp)
      have C2 : Hid (Chg [] w w2) := hide ((hI.out.2.2.2.2.alloc _).grown hg2 (fun k hk => by cases hk))
      have hwb := hI.out.2.2.2.2.size
      have hnb : n ≤ 729 := Nat.le_trans hI.out.2.1 (by
        have : 3 ^ i ≤ 3 ^ 6 := Nat.pow_le_pow_right (by decide) (by omega)
        omega)
      have hsz := hI.out.1.size_le
      have O2 := hide hout2
      have R2 := hide hrg2
      have HD := hide hI.out.2.2.1
      clear hout2 hrg2 hg2 hs2 hown hs fx
      generalize wr.heap.size = bn at O2 R2 hbl hwb ⊢
      have hb2 := hI.out.2.2.2.1
      go_loopw [7] (fun _ wq => ∃ (left : Lit → Bool) (cnt nn : Nat) (Dn : DataW Unit), Hid (wq.ranges Try.prog 3 boolR b (bn + 1) n D left cnt ∧ wq.ownsMap Try.prog 3 boolR bn nn Dn ∧ nn + 3 * cnt ≤ 3 * n ∧ IntSet Dn (fun m => ∃ q, W.rc (xs.take i) q = true ∧ left (.int .i64 q) = false ∧ (m = q ∨ m = q + x ∨ m = q - x)) ∧ Chg [] w wq)) (fun _ wq => wq.rangeLeft b (bn + 1))
      case atStart => exact ⟨_, _, 0, .map [], hide ⟨R2.out, O2.out, by omega, IntSet.nil.congr (fun m => ⟨fun h => h.elim, fun ⟨q, h1, h2, _⟩ => by rw [HD.out.has h1] at h2; cases h2⟩), C2.out⟩⟩
      case round =>
        obtain ⟨left, cnt, nn, Dn, hJ⟩ := hrel
        have hrg := hJ.out.1
        go_wp2_with (first
          | (at_next; refine wpList_next_set _ rfl _ rfl b (bn + 1) n D HD.out left cnt rfl hrg ?_ ?_)
          | go_in)
        · intro hc0 hl0
          have HL0 := hide hl0
          clear hrg hl0
          go_wp2
          go_roundw
          case rel =>
            refine ⟨i + 1, bn, nn, Dn, by omega, rfl, by go_num, hide ⟨hJ.out.2.1, ?_, ?_, by omega, hJ.out.2.2.2.2⟩⟩
            · have h1 := hJ.out.2.2.1
              have h2 := hI.out.2.1
              rw [Nat.pow_succ]; omega
            · refine hJ.out.2.2.2.1.congr fun m => ?_
              rw [take_snoc HIl.out, ← HXE.out, W.rc_snoc, Bool.or_eq_true, Bool.or_eq_true]
              constructor
              · rintro ⟨q, h1, _, rfl | rfl | rfl⟩
                · exact .inl (.inl h1)
                · exact .inl (.inr (by rw [show q + x - x = q by omega]; exact h1))
                · exact .inr (by rw [show q - x + x = q by omega]; exact h1)
              · rintro ((h1 | h1) | h1)
                · exact ⟨m, h1, HL0.out _, .inl rfl⟩
                · exact ⟨m - x, h1, HL0.out _, .inr (.inl (by omega))⟩
                · exact ⟨m + x, h1, HL0.out _, .inr (.inr (by omega))⟩
          case measure => simp [intOf]; omega
        · intro p w3 cnt3 hwp hS hlk hrg3 hlt3 hg3 hs3 hen
          obtain ⟨p1, p2⟩ := rc_take_le (i := i) (by rw [← HL.out]; omega) HX.out hS
          have HS := hide hS
          have HLk := hide hlk
          have hout3 := hJ.out.2.1.kept hg3 (by simp)
          have hnn := hJ.out.2.2.1
          have HJ3 := hide hJ.out.2.2.2.1
          clear hS hlk hrg
          go_wp2_with (first
            | (at_mapUpdate; refine wpList_mapUpdate_own _ rfl _ _ _ 105 rfl 3 4 keyI Try.underlying105 boolR bn nn Dn rfl hout3 (by omega) _ _ (.int .i64 p) rfl rfl (keyOf_int_mk Try.underlying3 hwp) _ _ (boolR_mk true) ?_; intro w4 hout4 hg4)
            | (at_mapUpdate; refine wpList_mapUpdate_own _ rfl _ _ _ 105 rfl 3 4 keyI Try.underlying105 boolR bn (nn + 1) _ rfl hout4 (by omega) _ _ (.int .i64 (p + x)) rfl rfl (keyOf_int_mk Try.underlying3 (wfI (by omega) (by omega))) _ _ (boolR_mk true) ?_; intro w5 hout5 hg5)
            | (at_mapUpdate; refine wpList_mapUpdate_own _ rfl _ _ _ 105 rfl 3 4 keyI Try.underlying105 boolR bn (nn + 1 + 1) _ rfl hout5 (by omega) _ _ (.int .i64 (p - x)) rfl rfl (keyOf_int_mk Try.underlying3 (wfI (by omega) (by omega))) _ _ (boolR_mk true) ?_; intro w6 hout6 hg6; go_frame)
            | go_in)
          have hrg6 := ((hrg3.kept hg4 (fun e => by have := Option.some.inj e; omega) (fun e => by have := Option.some.inj e; omega)).kept hg5 (fun e => by have := Option.some.inj e; omega) (fun e => by have := Option.some.inj e; omega)).kept hg6 (fun e => by have := Option.some.inj e; omega) (fun e => by have := Option.some.inj e; omega)
          have hC : Chg [] w w6 := (((hJ.out.2.2.2.2.grown hg3 (fun k hk => by cases hk; exact .inr (by omega))).grown hg4 (fun k hk => by cases hk; exact .inr (by omega))).grown hg5 (fun k hk => by cases hk; exact .inr (by omega))).grown hg6 (fun k hk => by cases hk; exact .inr (by omega))
          refine ⟨⟨_, cnt3, nn + 1 + 1 + 1, _, hide ⟨hrg6, hout6, by omega, (((HJ3.out.put p).put (p + x)).put (p - x)).congr fun m => ?_, hC⟩⟩, ?_⟩
          · constructor
            · rintro (((⟨q, h1, h2, h3⟩ | h) | h) | h)
              · exact ⟨q, h1, by rw [h2]; rfl, h3⟩
              · exact ⟨p, HS.out, by rw [HLk.out, sameKey_self]; rfl, .inl h⟩
              · exact ⟨p, HS.out, by rw [HLk.out, sameKey_self]; rfl, .inr (.inl h)⟩
              · exact ⟨p, HS.out, by rw [HLk.out, sameKey_self]; rfl, .inr (.inr h)⟩
            · rintro ⟨q, h1, h2, h3⟩
              by_cases hqp : q = p
              · subst hqp
                rcases h3 with h | h | h
                · exact .inl (.inl (.inr h))
                · exact .inl (.inr h)
                · exact .inr h
              · refine .inl (.inl (.inl ⟨q, h1, ?_, h3⟩))
                rw [sameKey_ne (a := .int .i64 q) (b := .int .i64 p) (by simpa using hqp)] at h2
                simpa using h2
          · rw [hrg6.left_eq, hJ.out.1.left_eq]; exact hlt3
    · have d1 : decide ((i : Int) < (L : Int)) = false := by simpa using hlt
      obtain rfl : i = L := by omega
      have hS := hI.out.2.2.1
      have hT : xs.take i = xs := by rw [HL.out]; exact List.take_length
      rw [hT] at hS
      have HS := hide hS
      have C3 := hide hI.out.2.2.2.2
      have O3 := hide hI.out.1
      have HF2 : Hid ((F : Int) ≤ 6000) := hide (by
        by_cases h : 1 ≤ F
        · have h1 := HF.out.1 F h (Nat.le_refl _)
          rw [← hT] at h1
          exact (rc_take_le (by rw [← HL.out]; omega) HX.out h1).2
        · omega)
      clear hS hT
      go_wp2
      go_loop [8] (fun nv => ∃ m : Nat, m ≤ F ∧ nv = .int .i64 (m : Int)) (fun nv => F - (intOf nv).toNat)
      case atStart => exact ⟨0, Nat.zero_le _, rfl⟩
      case round =>
        obtain ⟨m, hm, rfl⟩ := hrel
        have hF2 := HF2.out
        obtain ⟨v, ps, hrun, hRv⟩ := O3.out.lookup keyI Try.underlying105 (zeroBool _) (boolR_mk false) (keyOf_int_mk Try.underlying3 (wfI (x := (m : Int) + 1) (by omega) (by omega)))
        obtain ⟨c, rfl, hc⟩ := boolR_inv hRv
        have hck := HS.out.look (n := (m : Int) + 1) (b := c) (by simpa using (congrArg Prod.fst hc).symm)
        by_cases hlm : m < F
        · obtain rfl : c = true := hck.2 (by have := HF.out.1 (m + 1) (by omega) (by omega); rwa [show ((m + 1 : Nat) : Int) = (m : Int) + 1 by omega] at this)
          clear hck hc hRv
          go_wp2
          go_round
          case rel => exact ⟨m + 1, by omega, by go_num⟩
          case measure => simp [intOf]; omega
        · obtain rfl : m = F := by omega
          obtain rfl : c = false := by
            cases c with
            | false => rfl
            | true => have := hck.1 rfl; rw [HF.out.2] at this; cases this
          clear hck hc hRv
          go_wp2
          go_ret
          exact ⟨rfl, C3.out⟩
end Go.Proofs.Ytohdjlgghkcaoaa
