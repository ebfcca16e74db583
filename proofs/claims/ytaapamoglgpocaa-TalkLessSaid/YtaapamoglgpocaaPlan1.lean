/- Walk: the plan that a debate lays. -/
import Derived.Test.YtaapamoglgpocaaPlanPlain
import Derived.Test.YtaapamoglgpocaaRun4
import Derived.Deep.AppendLies
import Derived.Deep.RegionLaw
import Derived.BigRegion
namespace Go.Proofs.Ytaapamoglgpocaa
open Go.RowKit Go.Maps

theorem Deb.chg {w1 w w' : World} {Bd bk bf : Nat} {vt : Value} {fk : Nat → Nat → Option Nat} {ff : Nat → Nat → Option (Nat × Nat)} {S : List Nat} (h : Deb w1 Bd bk bf vt w fk ff) (hc : Chg S w w') (h1 : Bd ∉ S) (h2 : bk ∉ S) (h3 : bf ∉ S) (hw : Chg [] w1 w') : Deb w1 Bd bk bf vt w' fk ff :=
  ⟨h.1.keep hc h1, h.2.1.keep hc h2, h.2.2.1.keep hc h3, hw⟩
/-- What may change while a plan is laid: the debate's maps, and the row of nodes. -/
def PS (bk bf : Nat) (v : Value) : List Nat := bk :: bf :: v.ownBlock.toList
theorem mem_PS {bk bf x : Nat} {v : Value} : x ∈ PS bk bf v ↔ x = bk ∨ x = bf ∨ v.ownBlock = some x := by
  unfold PS
  cases v.ownBlock <;> simp [eq_comm]
def PlanIs (w1 : World) (Bd bk bf : Nat) (vt : Value) (t : List (List Int)) (base r c k : Nat) (pre : List Nd) (lv : Value) (w w' : World) (e : Ending) : Prop :=
  ∃ v' fk' ff' xs, e = .returned (.tuple #[v', .int .i64 (k : Int)]) ∧ Deb w1 Bd bk bf vt w' fk' ff' ∧ Vald t fk' ff' ∧ Pl t r c k xs ∧ w'.ownsRow base 54 6 v' (k + xs.length) (flat (pre ++ xs)) ∧ Chg (PS bk bf lv) w w' ∧ (∀ g, v'.ownBlock = some g → lv.ownBlock = some g ∨ w.heap.size ≤ g)
theorem nd_one (x : Nd) : ∀ u ∈ (ndCells x).toList, u.oneCell' = true := by
  intro u hu
  simp [ndCells] at hu
  rcases hu with rfl | rfl | rfl | rfl | rfl | rfl <;> rfl
theorem nd_news (w : World) (x : Nd) (T : TypeId) {g : Nat} (hg : g = w.heap.size) : ∀ j u, (ndCells x).toList[j]? = some u → (w.alloc (.cells (ndCells x) T)).cell? ((⟨g, 0, none⟩ : Addr).add j) = some u := by
  intro j u hj
  subst hg
  rw [add_zero_row, (Box.new w (ndCells x) T).cell j]
  simpa using hj
def PlanOk (w1 : World) (Bd bk bf : Nat) (vt : Value) (t : List (List Int)) (base F : Nat) : Prop := ∀ (r c k : Nat) (w : World) (fk : Nat → Nat → Option Nat) (ff : Nat → Nat → Option (Nat × Nat)) (pre : List Nd) (lv : Value), Within t r c → r + c < F → Deb w1 Bd bk bf vt w fk ff → Vald t fk ff → pre.length = k →
  w.ownsRow base 54 6 lv k (flat pre) → k + 2 * (T.pop r * T.pop c) ≤ 1000 → base ≤ w.heap.size →
  Calls Try.prog 57 #[.pointer (some ⟨Bd, 0, none⟩), rectV r c, lv] w fun e w' => PlanIs w1 Bd bk bf vt t base r c k pre lv w w' e
/-- A cell of an own row is written. -/
theorem row_put {w : World} {base g n cap size o : Nat} {e : TypeId} {xs : List Value} (h : w.ownsRow base e size (.slice (some ⟨g, 0, none⟩) n cap) n xs) (u : Value) : (w.setCell ⟨g, o, none⟩ u).ownsRow base e size (.slice (some ⟨g, 0, none⟩) n cap) n (xs.set o u) := by
  refine ⟨by rw [List.length_set]; exact h.1, ?_⟩
  rcases h.2 with ⟨e0, _⟩ | ⟨g', cap', cur, e0, hb, hg, hle, hcap, hsz, ht⟩
  · cases e0
  · cases e0
    refine .inr ⟨g, cap, _, rfl, hb, Box.set (A := g) hg o u, hle, hcap, by simpa using hsz, ?_⟩
    rw [Array.toList_setIfInBounds, ← ht, List.take_set]
/-- A node is written over another one of a row. -/
def put6 (w : World) (g o : Nat) (x : Nd) : World := (((((w.setCell ⟨g, o, none⟩ (.bool x.leaf)).setCell ⟨g, o + 1, none⟩ (.int .i64 x.val)).setCell ⟨g, o + 2, none⟩ (.int .i64 x.who)).setCell ⟨g, o + 3, none⟩ (.int .i64 x.set)).setCell ⟨g, o + 4, none⟩ (.int .i64 x.no)).setCell ⟨g, o + 5, none⟩ (.int .i64 x.yes)
def set6l (l : List Value) (o : Nat) (x : Nd) : List Value := (((((l.set o (.bool x.leaf)).set (o + 1) (.int .i64 x.val)).set (o + 2) (.int .i64 x.who)).set (o + 3) (.int .i64 x.set)).set (o + 4) (.int .i64 x.no)).set (o + 5) (.int .i64 x.yes)
theorem flat_set : ∀ (ps : List Nd) (i : Nat) (x : Nd), set6l (flat ps) (i * 6) x = flat (ps.set i x)
  | [], i, x => by unfold set6l flat; simp
  | y :: ps, 0, x => by
    unfold set6l flat
    simp [ndCells]
  | y :: ps, i + 1, x => by
    have ih := flat_set ps i x
    have hs : ∀ (l : List Value) (q : Nat) (v : Value), ((ndCells y).toList ++ l).set ((i + 1) * 6 + q) v = (ndCells y).toList ++ l.set (i * 6 + q) v := fun l q v => by
      rw [List.set_append_right _ _ (by show 6 ≤ _; omega)]
      congr 2
      show (i + 1) * 6 + q - 6 = _
      omega
    have h0 : ∀ (l : List Value) (v : Value), ((ndCells y).toList ++ l).set ((i + 1) * 6) v = (ndCells y).toList ++ l.set (i * 6) v := fun l v => hs l 0 v
    unfold set6l at ih ⊢
    unfold flat at ih ⊢
    rw [List.set_cons_succ, List.flatMap_cons, List.flatMap_cons, ← ih, h0, hs, hs, hs, hs, hs]
theorem put6_row {w : World} {base g n cap : Nat} {e : TypeId} {ps : List Nd} (h : w.ownsRow base e 6 (.slice (some ⟨g, 0, none⟩) n cap) n (flat ps)) (i : Nat) (x : Nd) : (put6 w g (i * 6) x).ownsRow base e 6 (.slice (some ⟨g, 0, none⟩) n cap) n (flat (ps.set i x)) := by
  have := (((((row_put h (o := i * 6) (.bool x.leaf)) |> fun h => row_put h (o := i * 6 + 1) (.int .i64 x.val)) |> fun h => row_put h (o := i * 6 + 2) (.int .i64 x.who)) |> fun h => row_put h (o := i * 6 + 3) (.int .i64 x.set)) |> fun h => row_put h (o := i * 6 + 4) (.int .i64 x.no)) |> fun h => row_put h (o := i * 6 + 5) (.int .i64 x.yes)
  rw [← flat_set]
  exact this
theorem put6_chg (w : World) (g o : Nat) (x : Nd) : Chg [g] w (put6 w g o x) :=
  ((((((Chg.refl [g] w).setCell (p := ⟨g, o, none⟩) (.inl (by simp)) _).setCell (p := ⟨g, o + 1, none⟩) (.inl (by simp)) _).setCell (p := ⟨g, o + 2, none⟩) (.inl (by simp)) _).setCell (p := ⟨g, o + 3, none⟩) (.inl (by simp)) _).setCell (p := ⟨g, o + 4, none⟩) (.inl (by simp)) _).setCell (p := ⟨g, o + 5, none⟩) (.inl (by simp)) _
/-- The cells of a node of a row. -/
theorem row_nd {w : World} {base g n cap : Nat} {e : TypeId} {ps : List Nd} (h : w.ownsRow base e 6 (.slice (some ⟨g, 0, none⟩) n cap) n (flat ps)) {i : Nat} (hi : i < ps.length) : g < w.heap.size ∧ ∀ k, k < 6 → w.cell? ⟨g, i * 6 + k, none⟩ = (ndCells (ps.getD i nd0))[k]? ∧ w.frozen? ⟨g, i * 6 + k, none⟩ = false := by
  rcases h.2 with ⟨e0, _⟩ | ⟨g', cap', cur, e0, hb, hg, hle, hcap, hsz, ht⟩
  · cases e0
  · cases e0
    have hB : Box w g cur e := hg
    refine ⟨hB.lt, fun k hk => ⟨?_, hB.free _⟩⟩
    rw [hB.cell]
    have h1 := flat_at ps i k hi hk
    have h2 : i * 6 + k < n * 6 := by
      have hl : n * 6 = ps.length * 6 := by rw [← flat_len, h.1]
      omega
    rw [← ht, List.getElem?_take, if_pos h2] at h1
    simpa using h1
theorem grown_box {w8 wA w9 : World} {B : Nat} {cs : Array Value} {T : TypeId} {row : Option Nat} (hg : wA.grownBy w9 row) (hc : Chg [] w8 wA) (h : Box w8 B cs T) (hne : row ≠ some B) : Box w9 B cs T := by
  have hb := h.keep hc List.not_mem_nil
  exact (hg.block B hb.lt (fun e => hne e.symm)).trans hb
theorem after_append {w1 w w8 wA w9 : World} {Bd bk bf base Bx By Bn : Nat} {vt lv : Value} {fk : Nat → Nat → Option Nat} {ff : Nat → Nat → Option (Nat × Nat)} {cx cy cn : Array Value} {Tx Ty Tn : TypeId}
    (hgrow : wA.grownBy w9 lv.ownBlock) (hc : Chg [] w8 wA) (hbx : Box w8 Bx cx Tx ∧ Box w8 By cy Ty ∧ Box w8 Bn cn Tn) (hD : Deb w1 Bd bk bf vt w8 fk ff) (hlb : ∀ g, lv.ownBlock = some g → base ≤ g ∧ g < w.heap.size) (hb : Bd < base ∧ bk < base ∧ bf < base) (hB : w1.heap.size ≤ Bd ∧ w1.heap.size ≤ bk ∧ w1.heap.size ≤ bf)
    (hb4 : w.heap.size ≤ Bx ∧ w.heap.size ≤ By ∧ w.heap.size ≤ Bn) (hW : Chg [bk, bf] w w8) :
    (Box w9 Bx cx Tx ∧ Box w9 By cy Ty ∧ Box w9 Bn cn Tn) ∧ Deb w1 Bd bk bf vt w9 fk ff ∧ Chg (PS bk bf lv) w w9 ∧ w8.heap.size ≤ w9.heap.size := by
  have hn : ∀ X, w.heap.size ≤ X → lv.ownBlock ≠ some X := fun X hX e => by have := (hlb X e).2; omega
  have hm : ∀ X, X < base → X ∉ lv.ownBlock.toList := fun X hX h => by have := (hlb X (by simpa using h)).1; omega
  have h89 : Chg lv.ownBlock.toList w8 w9 := hc.toAny.grown hgrow (fun k hk => .inl (by rw [hk]; simp))
  have h19 : Chg [] w1 w9 := (hD.2.2.2.trans hc).grown hgrow (fun k hk => .inr (by have := (hlb k hk).1; omega))
  refine ⟨⟨grown_box hgrow hc hbx.1 (hn _ hb4.1), grown_box hgrow hc hbx.2.1 (hn _ hb4.2.1), grown_box hgrow hc hbx.2.2 (hn _ hb4.2.2)⟩, hD.chg h89 (hm _ hb.1) (hm _ hb.2.1) (hm _ hb.2.2) h19, ?_, h89.size⟩
  exact (hW.mono (fun X h => mem_PS.2 (by simp at h; omega))).trans' h89 (fun X h => .inl (mem_PS.2 (.inr (.inr (by simpa using h)))))
theorem after_call {w w8 w9 w10 : World} {bk bf base g1 : Nat} {lv lv9 v10 : Value} (h9 : lv9.ownBlock = some g1) (hg : lv.ownBlock = some g1 ∨ w8.heap.size ≤ g1) (hlb : ∀ g, lv.ownBlock = some g → base ≤ g ∧ g < w.heap.size) (hb : bk < base ∧ bf < base) (hbw : base ≤ w.heap.size) (hC9 : Chg (PS bk bf lv) w w9) (h8 : w.heap.size ≤ w8.heap.size)
    (hC : Chg (PS bk bf lv9) w9 w10) (hfr : ∀ g, v10.ownBlock = some g → lv9.ownBlock = some g ∨ w9.heap.size ≤ g) :
    Chg (PS bk bf lv) w w10 ∧ (∀ g, v10.ownBlock = some g → lv.ownBlock = some g ∨ w.heap.size ≤ g) ∧ (∀ (By : Nat) (cy : Array Value) (Ty : TypeId), w.heap.size ≤ By → By < w8.heap.size → Box w9 By cy Ty → Box w10 By cy Ty ∧ v10.ownBlock ≠ some By) := by
  have hs9 := hC9.size
  refine ⟨hC9.trans' hC (fun X h => ?_), fun g hgg => ?_, fun By cy Ty h1 h2 h3 => ⟨h3.keep hC (fun h => ?_), fun e => ?_⟩⟩
  · rcases mem_PS.1 h with h | h | h
    · exact .inl (mem_PS.2 (.inl h))
    · exact .inl (mem_PS.2 (.inr (.inl h)))
    · rw [h9] at h
      cases h
      rcases hg with hg | hg
      · exact .inl (mem_PS.2 (.inr (.inr hg)))
      · exact .inr (by omega)
  · rcases hfr g hgg with h | h
    · rw [h9] at h
      cases h
      rcases hg with hg | hg
      · exact .inl hg
      · exact .inr (by omega)
    · exact .inr (by omega)
  · rcases mem_PS.1 h with h | h | h
    · omega
    · omega
    · rw [h9] at h
      cases h
      rcases hg with hg | hg
      · have := (hlb _ hg).2; omega
      · omega
  · rcases hfr _ e with h | h
    · rw [h9] at h
      cases h
      rcases hg with hg | hg
      · have := (hlb _ hg).2; omega
      · omega
    · have := h3.lt; omega
/-- The last stores: the node with its two indices over the first one. -/
theorem plan_done {w1 w w12 : World} {Bd bk bf base Bn g2 n cap2 lp : Nat} {vt lv u : Value} {fk : Nat → Nat → Option Nat} {ff : Nat → Nat → Option (Nat × Nat)} {L : List Nd} (nd : Nd)
    (hbw : base ≤ w.heap.size) (hlb : ∀ g, lv.ownBlock = some g → base ≤ g ∧ g < w.heap.size) (hb : Bd < base ∧ bk < base ∧ bf < base) (hB : w1.heap.size ≤ Bd ∧ w1.heap.size ≤ bk ∧ w1.heap.size ≤ bf) (hBn : w.heap.size ≤ Bn)
    (hD : Deb w1 Bd bk bf vt w12 fk ff) (hC : Chg (PS bk bf lv) w w12) (hfr : ∀ g, (Value.slice (some ⟨g2, 0, none⟩) n cap2).ownBlock = some g → lv.ownBlock = some g ∨ w.heap.size ≤ g)
    (ho : (w12.setCell ⟨Bn, 5, none⟩ u).ownsRow base 54 6 (.slice (some ⟨g2, 0, none⟩) n cap2) n (flat L)) :
    Deb w1 Bd bk bf vt (put6 (w12.setCell ⟨Bn, 5, none⟩ u) g2 (lp * 6) nd) fk ff ∧ (put6 (w12.setCell ⟨Bn, 5, none⟩ u) g2 (lp * 6) nd).ownsRow base 54 6 (.slice (some ⟨g2, 0, none⟩) n cap2) n (flat (L.set lp nd)) ∧ Chg (PS bk bf lv) w (put6 (w12.setCell ⟨Bn, 5, none⟩ u) g2 (lp * 6) nd) := by
  have h1 := Chg.set w12 ⟨Bn, 5, none⟩ u
  have h2 := put6_chg (w12.setCell ⟨Bn, 5, none⟩ u) g2 (lp * 6) nd
  have hg := hfr g2 rfl
  have hgb : base ≤ g2 := by
    rcases hg with h | h
    · exact (hlb _ h).1
    · omega
  have h12 : Chg [Bn, g2] w12 (put6 (w12.setCell ⟨Bn, 5, none⟩ u) g2 (lp * 6) nd) := (h1.mono (fun X h => by simp at h; simp [h])).trans (h2.mono (fun X h => by simp at h; simp [h]))
  have hk : ∀ X, X < base → X ∉ [Bn, g2] := fun X hX h => by simp at h; omega
  refine ⟨hD.chg h12 (hk _ hb.1) (hk _ hb.2.1) (hk _ hb.2.2) (hD.2.2.2.trans' h12 (fun X h => .inr (by simp at h; omega))), put6_row ho lp nd, hC.trans' h12 (fun X h => ?_)⟩
  simp at h
  rcases h with rfl | rfl
  · exact .inr hBn
  · rcases hg with h | h
    · exact .inl (mem_PS.2 (.inr (.inr h)))
    · exact .inr h
theorem set_mid (pre ys zs : List Nd) (a b : Nd) : (pre ++ [a] ++ ys ++ zs).set pre.length b = pre ++ b :: (ys ++ zs) := by
  simp
theorem byV_parts {r c who s : Nat} (h : who = 0 ∨ who = 1) : byV r c who s = .tuple #[rectV (rOf r who s false) (cOf c who s false), rectV (rOf r who s true) (cOf c who s true), .bool true] := by
  unfold byV rOf cOf
  rcases h with rfl | rfl <;> simp

set_option maxRecDepth 100000 in
set_option maxHeartbeats 4000000 in
theorem plan_more (w1 : World) (Bd bk bf : Nat) (vt : Value) (t : List (List Int)) (base F : Nat) (hv : See2 w1 vt t) (ht : T.isTab t = true) (n1 : Bd ≠ bk) (n2 : Bd ≠ bf) (n3 : bk ≠ bf) (hB : w1.heap.size ≤ Bd ∧ w1.heap.size ≤ bk ∧ w1.heap.size ≤ bf) (hb : Bd < base ∧ bk < base ∧ bf < base)
    (IH : PlanOk w1 Bd bk bf vt t base F) : PlanOk w1 Bd bk bf vt t base (F + 1) := by
  intro r c lp w fk ff pre lv hwi hF hD hV hlp0 hL hfew hbw
  obtain ⟨i0, hi', hz0, hz1, hz2⟩ := info_parts infoNode
  obtain ⟨hr0, hc0, hrw, hcw, hr, hc⟩ := hwi
  have HWi : Hid (Within t r c) := hide ⟨hr0, hc0, hrw, hcw, hr, hc⟩
  obtain ⟨ao, cap, rfl⟩ := hv.shape
  have HD := hide hD
  have HV := hide hV
  have HIH := hide IH
  have HL := hide hL
  have HLn := hide (fun w fk ff (h1 : Deb w1 Bd bk bf (.slice ao t.length cap) w fk ff) (h2 : Vald t fk ff) => length_all w1 Bd bk bf _ t hv ht n1 n2 n3 hB (r + c + 1) r c w fk ff hr hc hr0 hc0 (Nat.lt_succ_self _) h1 h2)
  have hcl := hide fun ws (hw : Chg [] w ws) => clear_any (.slice ao t.length cap) t r c ws (hv.keep (hD.2.2.2.trans hw)) ht (by omega) (by omega)
  have HT := hide ht
  have NN := hide (And.intro n1 (And.intro n2 n3))
  have HBs := hide hB
  have Hb := hide hb
  obtain ⟨b1, hkm, hfm, hch⟩ := hD
  have c0 := b1.cell 0
  have ld := b1.lt
  simp at c0
  have HB1 := hide b1
  have hsz1 := hch.size
  obtain ⟨lo, lcap, rfl, hlcap⟩ := row_shape hL
  have HLp := hide hlp0.symm
  have hlb : ∀ g, (Value.slice lo lp lcap).ownBlock = some g → base ≤ g ∧ g < w.heap.size := hL.lt
  have HLb := hide hlb
  have hfew1 : lp + 2 ≤ 1000 := by
    have h1 := T.pop_pos hr hr0
    have h2 := T.pop_pos hc hc0
    have := Nat.mul_le_mul h1 h2
    omega
  have HFew := hide hfew
  unfold rectV at hcl ⊢
  generalize t.length = n at *
  clear hv hV IH ht b1 hkm hfm hch hL hlp0 hlb hfew hb hB n1 n2 n3 hrw hcw
  go_enter Try.func57, Try.ntmps57
  go_wp2
  have bx := Box.new w #[.int .i64 (r : Int), .int .i64 (c : Int)] 75
  have C0 : Hid (Chg [] w (w.alloc (.cells #[.int .i64 (r : Int), .int .i64 (c : Int)] 75))) := hide ((Chg.refl _ _).alloc _)
  have hsz0 := C0.out.size
  have c0 : (w.alloc (.cells #[.int .i64 (r : Int), .int .i64 (c : Int)] 75)).cell? ⟨Bd, 0, none⟩ = some (.slice ao n cap) := (C0.out.cell ld List.not_mem_nil 0).trans c0
  have x0 := bx.cell 0
  have x1 := bx.cell 1
  have lx := bx.lt
  have BX := hide bx
  simp only [List.getElem?_toArray, List.getElem?_cons_zero, List.getElem?_cons_succ] at x0 x1
  clear bx
  have ld0 : Bd < (w.alloc (.cells #[.int .i64 (r : Int), .int .i64 (c : Int)] 75)).heap.size := by omega
  generalize w.alloc (.cells #[.int .i64 (r : Int), .int .i64 (c : Int)] 75) = W0 at C0 c0 x0 x1 lx ld0 BX hsz0 ⊢
  obtain ⟨Br, hBr⟩ : ∃ Br, Br = w.heap.size := ⟨_, rfl⟩
  rw [← hBr] at x0 x1 lx BX ⊢
  have HBr := hide hBr
  clear hBr
  have HClr : Hid (T.clear t r c = (T.clrM t r c).isSome) := hide rfl
  obtain ⟨o, ho⟩ : ∃ o, o = T.clrM t r c := ⟨_, rfl⟩
  rw [← ho] at hcl HClr
  have HO := hide ho
  clear ho
  cases o with
  | some x =>
    unfold clrV at hcl
    simp only [] at hcl
    refine wp_region_ext (by kernel_rfl) (by kernel_rfl) ?_
    repeat (first | go_big_quiet_step ((go_at_call 92; exact calls_of_ret (hcl.out _ (Chg.trans C0.out (ExtOf.chg _))))) | quiet_step ((go_at_call 92; exact calls_of_ret (hcl.out _ (Chg.trans C0.out (ExtOf.chg _))))))
    refine wpQuiet_nil ?_
    intro wx hx
    have CX : Hid (Chg [] w wx) := hide (C0.out.trans hx)
    have HOwn := hide (CX.out.row HL.out (fun _ _ => List.not_mem_nil))
    have hszx := CX.out.size
    clear hcl c0 x0 x1 lx ld0
    go_wp2_with (at_builtin; refine wpList_append_lies _ (by rfl) _ _ 23 (by rfl) base 54 i0 (.agg #[.bool false, .int .i64 0, .int .i64 0, .int .i64 0, .int .i64 0, .int .i64 0]) 6 48 Try.underlying23 hi' hz0 hz1 hz2 (by rfl) (by decide) (.slice lo lp lcap) lp (flat pre) (by rfl) (HOwn.out.alloc _) ⟨wx.heap.size, 0, none⟩ 1 1 (ndCells (leafN x)).toList (by rfl) (by rfl) (nd_news wx (leafN x) _ rfl) (nd_one (leafN x)) (by decide) (by unfold maxLen; omega) (by omega) (by simp; omega) (wx.heap.size + 1) (by simp) ?_; intro g1 cap1 w2 hown1 hgrow1 hat1 _)
    have CA : Hid (Chg [] w (wx.alloc (.cells (ndCells (leafN x)) 54))) := hide (CX.out.alloc _)
    have O1 := hide hown1
    have G1 := hide hgrow1
    have A1 := hide hat1
    clear hown1 hgrow1 hat1
    go_wp2
    go_ret2
    have hA : Chg [] w (wx.alloc (.cells (ndCells (leafN x)) 54)) := CA.out
    have hC : Chg (Value.slice lo lp lcap).ownBlock.toList w w2 := hA.toAny.grown G1.out (fun k hk => .inl (by rw [hk]; simp))
    have hW1 : Chg [] w1 w2 := (HD.out.2.2.2.trans hA).grown G1.out (fun k hk => .inr (by have := (HLb.out k hk).1; have := Hb.out.1; have := HBs.out.1; omega))
    have hnot : ∀ X, X < base → X ∉ (Value.slice lo lp lcap).ownBlock.toList := fun X hX h => by
      have := (HLb.out X (by simpa using h)).1; omega
    refine ⟨_, fk, ff, [leafN x], rfl, HD.out.chg hC (hnot _ Hb.out.1) (hnot _ Hb.out.2.1) (hnot _ Hb.out.2.2) hW1, HV.out, .leaf HO.out.symm, ?_, hC.mono (fun X h => mem_PS.2 (.inr (.inr (by simpa using h)))), ?_⟩
    · rw [flat_snoc]; exact O1.out
    · intro g hg
      rcases A1.out with h | h
      · exact .inl (h.trans hg)
      · have : g1 = g := by simpa [Value.ownBlock] using hg
        exact .inr (by omega)
  | none =>
    unfold clrV at hcl
    simp only [] at hcl
    have HCl : Hid (T.clear t r c = false) := hide HClr.out
    refine wp_region_ext (by kernel_rfl) (by kernel_rfl) ?_
    repeat (first | go_big_quiet_step ((go_at_call 92; exact calls_of_ret (hcl.out _ (Chg.trans C0.out (ExtOf.chg _))))) | quiet_step ((go_at_call 92; exact calls_of_ret (hcl.out _ (Chg.trans C0.out (ExtOf.chg _))))))
    refine wpQuiet_nil ?_
    intro wx hx
    have CX : Hid (Chg [] w wx) := hide (C0.out.trans hx)
    have HDx := hide (HD.out.keep CX.out)
    have bxx := BX.out.keep hx List.not_mem_nil
    have y0 := bxx.cell 0
    have y1 := bxx.cell 1
    have ly := bxx.lt
    simp only [List.getElem?_toArray, List.getElem?_cons_zero, List.getElem?_cons_succ] at y0 y1
    have BXx := hide bxx
    clear bxx c0 x0 x1 lx ld0 hcl
    go_wp2_with fail
    refine (HLn.out wx fk ff HDx.out HV.out).mono ?_
    rintro e w2 ⟨rfl, fk2, ff2, hD2, hV2, hC2, _, hfirst⟩
    obtain ⟨who, s, hf2, hg2⟩ := hfirst HCl.out
    have HD2 := hide hD2
    have HV2 := hide hV2
    have HC2 := hide hC2
    have HG := hide hg2
    have hbr : Br ∉ [bk, bf] := by
      have := HBr.out; have := Hb.out; simp; omega
    have b2 := BXx.out.keep hC2 hbr
    have HB2 := hide b2
    have z0 := b2.cell 0
    have z1 := b2.cell 1
    have lz := b2.lt
    have e2 := hD2.1.cell 2
    have le := hD2.1.lt
    simp only [List.getElem?_toArray, List.getElem?_cons_zero, List.getElem?_cons_succ] at z0 z1 e2
    have look0 := (hD2.2.2.1.keep (Chg.refl [] w2).drew List.not_mem_nil).look (r := r) (c := c) hr hc
    have look1 := (hD2.2.2.1.keep ((Chg.refl [] w2).alloc (.cells #[.int .i64 0, .int .i64 0] 128)).drew List.not_mem_nil).look (r := r) (c := c) hr hc
    rw [hf2] at look0 look1
    unfold rectV splitV at look0 look1
    simp only [Option.getD_some] at look0 look1
    clear hD2 hV2 hC2 hg2 hf2 hfirst b2 hbr y0 y1 ly
    go_wp2
    go_region
    all_goals (
      generalize hW3 : World.drew (World.alloc w2 _) = w3
      have C3 : Hid (Chg [] w2 w3) := hide (by rw [← hW3]; exact ((Chg.refl [] w2).alloc _).drew)
      have hb3 : Box w3 w2.heap.size #[.int .i64 (who : Int), .int .i64 (s : Int)] 128 := by rw [← hW3]; exact Box.new w2 _ _
      clear hW3
      have hb2 := HB2.out.keep C3.out List.not_mem_nil
      have p0 := hb3.cell 0
      have p1 := hb3.cell 1
      have lp3 := hb3.lt
      have q0 := hb2.cell 0
      have q1 := hb2.cell 1
      have lq := hb2.lt
      simp only [List.getElem?_toArray, List.getElem?_cons_zero, List.getElem?_cons_succ] at p0 p1 q0 q1
      have HB3 := hide hb3
      obtain ⟨B2, hB2⟩ : ∃ B2, B2 = w2.heap.size := ⟨_, rfl⟩
      rw [← hB2] at p0 p1 lp3 HB3 ⊢
      have HS2 := hide hB2
      clear hb3 hb2 hB2 look0 look1 z0 z1 lz e2 le
      have hwho : who = 0 ∨ who = 1 := by rcases HG.out.1 with ⟨h, _⟩ | ⟨h, _⟩ <;> omega
      have HBy := hide (by_any r c who s w3 hr hc hwho (by
        rcases HG.out.1 with ⟨h, h'⟩ | ⟨h, h'⟩
        · rw [h, if_pos rfl]; exact h'
        · rw [h, if_neg (by decide)]; exact h'))
      rw [byV_parts hwho] at HBy
      have HBy' := HBy
      unfold rectV at HBy'
      generalize hr0' : rOf r who s false = r0 at *
      generalize hc0' : cOf c who s false = c0 at *
      generalize hr1' : rOf r who s true = r1 at *
      generalize hc1' : cOf c who s true = c1 at *
      have HRC := hide (And.intro hr0' (And.intro hc0' (And.intro hr1' hc1')))
      clear hr0' hc0' hr1' hc1' HBy
      go_wp2_with (go_at_call 100; refine HBy'.out.mono ?_; rintro e w4 ⟨rfl, hw4⟩; have hb3 := HB3.out.keep hw4 List.not_mem_nil; have p0 := hb3.cell 0; have p1 := hb3.cell 1; have lp4 := hb3.lt; simp only [List.getElem?_toArray, List.getElem?_cons_zero, List.getElem?_cons_succ] at p0 p1)
      have C4 : Hid (Chg [] w2 w4) := hide (C3.out.trans hw4)
      go_wp2
      generalize hW8 : World.alloc (World.alloc (World.alloc w4 _) _) _ = w8
      have C8 : Hid (Chg [] w2 w8) := hide (by rw [← hW8]; exact ((C4.out.alloc _).alloc _).alloc _)
      have hn : Box w8 (w4.heap.size + 1 + 1) (ndCells (forkN who s 0 0)) 54 := by rw [← hW8]; exact Box.at _ _ _ (by simp)
      have hy : Box w8 (w4.heap.size + 1) #[.int .i64 (r1 : Int), .int .i64 (c1 : Int)] 75 := by rw [← hW8]; exact (Box.at _ _ _ (by simp)).old _
      have hx8 : Box w8 w4.heap.size #[.int .i64 (r0 : Int), .int .i64 (c0 : Int)] 75 := by rw [← hW8]; exact ((Box.new w4 _ _).old _).old _
      have hsz4 := C4.out.size
      clear hW8 p0 p1 lp4 hb3
      have HN8 := hide (And.intro hx8 (And.intro hy hn))
      clear hx8 hy hn
      obtain ⟨Bx, hBx⟩ : ∃ x, x = w4.heap.size := ⟨_, rfl⟩
      obtain ⟨By, hBy⟩ : ∃ x, x = w4.heap.size + 1 := ⟨_, rfl⟩
      obtain ⟨Bn, hBn⟩ : ∃ x, x = w4.heap.size + 1 + 1 := ⟨_, rfl⟩
      rw [← hBn, ← hBy, ← hBx] at HN8
      rw [← hBn, ← hBy, ← hBx]
      have hb4 : w.heap.size ≤ Bx ∧ w.heap.size ≤ By ∧ w.heap.size ≤ Bn := by
        have h1 := CX.out.size
        have h2 := HC2.out.size
        omega
      have HBs4 := hide (And.intro hb4 (show Bx ≠ By ∧ Bx ≠ Bn ∧ By ≠ Bn by omega))
      clear hBx hBy hBn hsz4
      have HD8 := hide (HD2.out.keep C8.out)
      have HOwn8 : Hid (w8.ownsRow base 54 6 (.slice lo lp lcap) lp (flat pre)) := hide (C8.out.row (HC2.out.row (CX.out.row HL.out (fun _ _ => List.not_mem_nil)) (fun g hg h => by
        have := (HLb.out g hg).1; have := Hb.out; simp at h; omega)) (fun _ _ => List.not_mem_nil))
      have HMk := hide (fun X (h1 : Box X Bx #[.int .i64 (r0 : Int), .int .i64 (c0 : Int)] 75) (h2 : Box X Bn (ndCells (forkN who s 0 0)) 54) => (⟨h1.cell 0, h1.cell 1, h2.cell 0, h2.cell 1, h2.cell 2, h2.cell 3, h2.cell 4, h2.cell 5⟩ :
        X.cell? ⟨Bx, 0, none⟩ = some (.int .i64 (r0 : Int)) ∧ X.cell? ⟨Bx, 1, none⟩ = some (.int .i64 (c0 : Int)) ∧ X.cell? ⟨Bn, 0, none⟩ = some (.bool false) ∧ X.cell? ⟨Bn, 1, none⟩ = some (.int .i64 0) ∧ X.cell? ⟨Bn, 2, none⟩ = some (.int .i64 (who : Int)) ∧ X.cell? ⟨Bn, 3, none⟩ = some (.int .i64 (s : Int)) ∧ X.cell? ⟨Bn, 4, none⟩ = some (.int .i64 0) ∧ X.cell? ⟨Bn, 5, none⟩ = some (.int .i64 0)))
      have HK8 := hide (fun X (hX : Chg [] w8 X) => HMk.out X (HN8.out.1.keep hX List.not_mem_nil) (HN8.out.2.2.keep hX List.not_mem_nil))
      have HRow8 := hide (fun X (hX : Chg [] w8 X) => hX.row HOwn8.out (fun _ _ => List.not_mem_nil))
      have lx8 := HN8.out.1.lt
      have ln8 := HN8.out.2.2.lt
      have hszb : base ≤ w8.heap.size := by
        have h1 := CX.out.size
        have h2 := HC2.out.size
        have h3 := C8.out.size
        omega
      have hsz48 : 48 ≤ 48 := Nat.le_refl _
      have hw0 := HWi.out.part HG.out false
      have hpop := pop_part HWi.out HG.out
      have hw1 := HWi.out.part HG.out true
      rw [HRC.out.1, HRC.out.2.1] at hw0 hpop
      rw [HRC.out.2.2.1, HRC.out.2.2.2] at hw1 hpop
      have HC8 : Hid (Chg [bk, bf] w w8) := hide ((CX.out.toAny.trans HC2.out).trans C8.out.toAny)
      have hrc0 : r0 + c0 < F ∧ r1 + c1 < F := by
        have h1 : r0 + c0 < r + c ∧ r1 + c1 < r + c := by
          obtain ⟨e1, e2, e3, e4⟩ := HRC.out
          rw [← e1, ← e2, ← e3, ← e4]
          rcases HG.out.1 with ⟨rfl, hs⟩ | ⟨rfl, hs⟩
          · obtain ⟨m1, m2, _, m4, m5, _⟩ := T.subs_mem hr hs
            simp [rOf, cOf]; omega
          · obtain ⟨m1, m2, _, m4, m5, _⟩ := T.subs_mem hc hs
            simp [rOf, cOf]; omega
        omega
      have hp0 : 1 ≤ T.pop r0 * T.pop c0 := by
        have h1 := T.pop_pos hw0.2.2.2.2.1 hw0.1
        have h2 := T.pop_pos hw0.2.2.2.2.2 hw0.2.1
        have := Nat.mul_le_mul h1 h2
        omega
      have hp1 : 1 ≤ T.pop r1 * T.pop c1 := by
        have h1 := T.pop_pos hw1.2.2.2.2.1 hw1.1
        have h2 := T.pop_pos hw1.2.2.2.2.2 hw1.2.1
        have := Nat.mul_le_mul h1 h2
        omega
      have HFw := hide (And.intro hrc0 (And.intro hp0 (And.intro hp1 (And.intro hpop (And.intro hw0 hw1)))))
      have Hszb := hide hszb
      obtain ⟨K0, hK0⟩ : ∃ K0, K0 = lp + 1 := ⟨_, rfl⟩
      have HK0 := hide hK0
      have HI0 := hide (fun (w9 : World) (g1 cap1 : Nat) (hD9 : Deb w1 Bd bk bf (.slice ao n cap) w9 fk2 ff2) (ho : w9.ownsRow base 54 6 (.slice (some ⟨g1, 0, none⟩) (lp + 1) cap1) (lp + 1) (flat pre ++ (ndCells (forkN who s 0 0)).toList)) (hbw9 : base ≤ w9.heap.size) =>
        HIH.out r0 c0 K0 w9 fk2 ff2 (pre ++ [forkN who s 0 0]) (.slice (some ⟨g1, 0, none⟩) (lp + 1) cap1) hw0 hrc0.1 hD9 HV2.out (by rw [List.length_append, HK0.out, HLp.out]; rfl) (by rw [HK0.out, flat_snoc]; exact ho) (by have := HFew.out; omega) hbw9)
      clear hrc0 hp0 hp1 hpop hw0 hw1 hszb hK0
      obtain ⟨fx0, fx1, fn0, fn1, fn2, fn3, fn4, fn5⟩ := HK8.out _ (Chg.refl _ _)
      go_region_law ((first | (refine step_append_lies _ (by rfl) _ _ 23 (by rfl) base 54 i0 (.agg #[.bool false, .int .i64 0, .int .i64 0, .int .i64 0, .int .i64 0, .int .i64 0]) 6 48 Try.underlying23 hi' hz0 hz1 hz2 (by rfl) (by decide) (.slice lo lp lcap) lp (flat pre) (by rfl) (HRow8.out _ (by (repeat' (first | with_reducible exact Chg.refl _ _ | with_reducible assumption | with_reducible apply Chg.drewN | with_reducible apply Chg.drew | with_reducible apply Chg.alloc | (with_reducible refine Chg.setCell ?_ (Or.inr ?_) _) | (with_reducible refine Chg.trans ?_ (by assumption)) | (simp; done) | (simp; omega))))) ⟨w8.heap.size, 0, none⟩ 1 1 (ndCells (forkN who s 0 0)).toList (by rfl) (by rfl) (nd_news w8 (forkN who s 0 0) _ rfl) (nd_one (forkN who s 0 0)) (by decide) (by unfold maxLen; omega) (by omega) (by simp; have := Hszb.out; omega) (w8.heap.size + 1) (by simp) ?_; intro g1 cap1 w9 hown1 hgrow1 hat1 hlt1; have H9 := hide (after_append hgrow1 (by (repeat' (first | with_reducible exact Chg.refl _ _ | with_reducible assumption | with_reducible apply Chg.drewN | with_reducible apply Chg.drew | with_reducible apply Chg.alloc | (with_reducible refine Chg.setCell ?_ (Or.inr ?_) _) | (with_reducible refine Chg.trans ?_ (by assumption)) | (simp; done) | (simp; omega))) : Chg [] w8 _) HN8.out HD8.out HLb.out Hb.out HBs.out HBs4.out.1 HC8.out); have HO9 := hide hown1; have HA9 := hide hat1; have lx9 := H9.out.1.1.lt; have ln9 := H9.out.1.2.2.lt; obtain ⟨fa0, fa1, fb0, fb1, fb2, fb3, fb4, fb5⟩ := HMk.out _ H9.out.1.1 H9.out.1.2.2; clear hown1 hgrow1 hat1) | (go_simp; go_at_call 57; refine (HI0.out w9 g1 cap1 H9.out.2.1 HO9.out (Nat.le_trans Hszb.out H9.out.2.2.2)).mono ?_; rintro e w10 ⟨v10, fk3, ff3, ys, rfl, hD10, hV10, hP10, ho10, hC10, hfr10⟩; have hac := after_call rfl (HA9.out.imp id (fun h => by omega)) HLb.out Hb.out.2 hbw H9.out.2.2.1 HC8.out.size hC10 hfr10; have H10 := hide (And.intro hac.1 (And.intro hac.2.1 (And.intro (hac.2.2 Bx _ _ HBs4.out.1.1 lx8 H9.out.1.1).1 (And.intro (hac.2.2 By _ _ HBs4.out.1.2.1 HN8.out.2.1.lt H9.out.1.2.1).1 (hac.2.2 Bn _ _ HBs4.out.1.2.2 ln8 H9.out.1.2.2).1)))); have HNe := hide (And.intro (hac.2.2 By _ _ HBs4.out.1.2.1 HN8.out.2.1.lt H9.out.1.2.1).2 (hac.2.2 Bn _ _ HBs4.out.1.2.2 ln8 H9.out.1.2.2).2); have HD10 := hide (And.intro hD10 (And.intro hV10 (And.intro hP10 ho10))); obtain ⟨fd0, fd1, fe0, fe1, fe2, fe3, fe4, fe5⟩ := HMk.out _ H10.out.2.2.1 H10.out.2.2.2.2; have ff4 := H10.out.2.2.2.2.free 4; have ln10 := H10.out.2.2.2.2.lt; have lx10 := H10.out.2.2.1.lt; clear hac hD10 hV10 hP10 ho10 hC10 hfr10)))
      all_goals (
        generalize hW11 : World.setCell w10 _ _ = w11
        have hbn11 : Box w11 Bn (ndCells (forkN who s K0 0)) 54 := by rw [← hW11]; exact H10.out.2.2.2.2.set 4 _
        have C11 : Chg [Bn] w10 w11 := by rw [← hW11]; exact Chg.set w10 ⟨Bn, 4, none⟩ _
        clear hW11 ff4 fe0 fe1 fe2 fe3 fe4 fe5 fd0 fd1 fa0 fa1 fb0 fb1 fb2 fb3 fb4 fb5 fx0 fx1 fn0 fn1 fn2 fn3 fn4 fn5
        have C11' : Chg [] w w11 ∨ True := .inr trivial
        have hCw11 : Chg (PS bk bf (.slice lo lp lcap)) w w11 := H10.out.1.trans' C11 (fun X h => .inr (by simp at h; have := HBs4.out.1.2.2; omega))
        have hby11 : Box w11 By #[.int .i64 (r1 : Int), .int .i64 (c1 : Int)] 75 := H10.out.2.2.2.1.keep C11 (by have := HBs4.out.2.2.2; simpa using this)
        have hD11 : Deb w1 Bd bk bf (.slice ao n cap) w11 fk3 ff3 := by
          have h1 := HBs4.out.1.2.2
          have h2 := Hb.out
          have h3 := HBs.out
          exact HD10.out.1.chg C11 (by simp; omega) (by simp; omega) (by simp; omega) (HD10.out.1.2.2.2.trans' C11 (fun X h => .inr (by simp at h; omega)))
        have ho11 : w11.ownsRow base 54 6 v10 (K0 + ys.length) (flat (pre ++ [forkN who s 0 0] ++ ys)) := C11.row HD10.out.2.2.2 (fun g hg h => by
          simp at h; subst h; exact HNe.out.2 hg)
        have z0 := hby11.cell 0
        have z1 := hby11.cell 1
        have lz := hby11.lt
        simp only [List.getElem?_toArray, List.getElem?_cons_zero, List.getElem?_cons_succ] at z0 z1
        obtain ⟨K1, hK1⟩ : ∃ K1, K1 = K0 + ys.length := ⟨_, rfl⟩
        have HK1 := hide hK1
        have HP0 := hide HD10.out.2.2.1
        have hfw1 := HD10.out.2.2.1.few HFw.out.2.2.2.2.1
        have hb11 : base ≤ w11.heap.size := by have := hCw11.size; omega
        have hI1 := HIH.out r1 c1 K1 w11 fk3 ff3 (pre ++ [forkN who s 0 0] ++ ys) v10 HFw.out.2.2.2.2.2 HFw.out.1.2 hD11 HD10.out.2.1 (by have := HLp.out; have := HK0.out; simp; omega) (by rw [hK1]; exact ho11) (by have := HFew.out; have := HFw.out.2.2.2.1; have := HK0.out; omega) hb11
        unfold rectV at hI1
        have HI1 := hide hI1
        have H11 := hide (And.intro hbn11 hCw11)
        clear hbn11 C11 C11' hCw11 hby11 hD11 ho11 hK1 hfw1 hb11 hI1
        go_wp2_with fail
        refine HI1.out.mono ?_
        rintro e w12 ⟨v12, fk4, ff4, zs, rfl, hD12, hV12, hP12, ho12, hC12, hfr12⟩
        have hown12 : ∀ g, v10.ownBlock = some g → g ≠ Bn := fun g hg h => by subst h; exact HNe.out.2 hg
        have hnB : Bn ∉ PS bk bf v10 := fun h => by
          rcases mem_PS.1 h with h | h | h
          · have := Hb.out; have := HBs4.out.1.2.2; omega
          · have := Hb.out; have := HBs4.out.1.2.2; omega
          · exact hown12 _ h rfl
        have hbn12 := H11.out.1.keep hC12 hnB
        have hC12w : Chg (PS bk bf (.slice lo lp lcap)) w w12 := H11.out.2.trans' hC12 (fun X h => by
          rcases mem_PS.1 h with h | h | h
          · exact .inl (mem_PS.2 (.inl h))
          · exact .inl (mem_PS.2 (.inr (.inl h)))
          · rcases H10.out.2.1 X h with h | h
            · exact .inl (mem_PS.2 (.inr (.inr h)))
            · exact .inr h)
        have hfr12w : ∀ g, v12.ownBlock = some g → (Value.slice lo lp lcap).ownBlock = some g ∨ w.heap.size ≤ g := fun g hg => by
          rcases hfr12 g hg with h | h
          · exact H10.out.2.1 g h
          · have := H11.out.2.size; exact .inr (by omega)
        have hne12 : ∀ g, v12.ownBlock = some g → g ≠ Bn := fun g hg h => by
          rcases hfr12 g hg with h' | h'
          · exact hown12 g h' h
          · have := H11.out.1.lt; omega
        obtain ⟨g2, cap2, hv12⟩ : ∃ g2 cap2, v12 = .slice (some ⟨g2, 0, none⟩) (K1 + zs.length) cap2 := by
          rcases ho12.2 with ⟨_, h0⟩ | ⟨g, cp, _, h0, _⟩
          · have := HK1.out; have := HK0.out; omega
          · exact ⟨g, cp, h0⟩
        subst hv12
        have hg2 : g2 ≠ Bn := hne12 g2 rfl
        have k4 := hbn12.cell 5
        have k5 := hbn12.free 5
        have k6 := hbn12.lt
        have k0 := hbn12.cell 0
        have k1 := hbn12.cell 1
        have k2 := hbn12.cell 2
        have k3 := hbn12.cell 3
        have k7 := hbn12.cell 4
        unfold ndCells forkN at k0 k1 k2 k3 k4 k7
        simp only [List.getElem?_toArray, List.getElem?_cons_zero, List.getElem?_cons_succ] at k0 k1 k2 k3 k4 k7
        have hget : (pre ++ [forkN who s 0 0] ++ ys ++ zs).getD lp nd0 = forkN who s 0 0 := by
          rw [HLp.out, List.getD_eq_getElem?_getD]
          simp
        have hlen : lp < (pre ++ [forkN who s 0 0] ++ ys ++ zs).length := by have := HLp.out; simp; omega
        have hX := Chg.set w12 ⟨Bn, 5, none⟩ (.int .i64 (K1 : Int))
        have hoX := hX.row ho12 (fun g hg h => by simp at h; exact hne12 g hg h)
        have hbX := hbn12.set 5 (.int .i64 (K1 : Int))
        obtain ⟨lg, hcl⟩ := row_nd hoX hlen
        rw [hget] at hcl
        obtain ⟨m0, q0⟩ := hcl 0 (by decide)
        obtain ⟨m1, q1⟩ := hcl 1 (by decide)
        obtain ⟨m2, q2⟩ := hcl 2 (by decide)
        obtain ⟨m3, q3⟩ := hcl 3 (by decide)
        obtain ⟨m4, q4⟩ := hcl 4 (by decide)
        obtain ⟨m5, q5⟩ := hcl 5 (by decide)
        rw [Nat.add_zero] at m0 q0
        unfold ndCells forkN at m0 m1 m2 m3 m4 m5
        simp only [List.getElem?_toArray, List.getElem?_cons_zero, List.getElem?_cons_succ] at m0 m1 m2 m3 m4 m5
        have HoX := hide hoX
        have HbX := hide hbX
        have HX := hide hX
        have b0 := hbX.cell 0
        have b1 := hbX.cell 1
        have b2 := hbX.cell 2
        have b3 := hbX.cell 3
        have b4 := hbX.cell 4
        have b5 := hbX.cell 5
        have lbX := hbX.lt
        unfold ndCells forkN at b0 b1 b2 b3 b4 b5
        simp only [List.setIfInBounds_toArray, List.set_cons_zero, List.set_cons_succ, List.getElem?_toArray, List.getElem?_cons_zero, List.getElem?_cons_succ] at b0 b1 b2 b3 b4 b5
        have hlz : lp < K1 + zs.length := by have := HK1.out; have := HK0.out; omega
        have hlz1 : (lp : Int) < ((K1 + zs.length : Nat) : Int) := by omega
        have H12 := hide (And.intro hD12 (And.intro hV12 (And.intro hP12 (And.intro hC12w (And.intro hfr12w hg2)))))
        clear hoX hbX hX hcl hget hlen ho12 hD12 hV12 hP12 hC12 hfr12 hown12 hnB hbn12 hC12w hfr12w hne12
        go_wp2
        go_ret2
        have hdn := plan_done (forkN who s K0 K1) hbw HLb.out Hb.out HBs.out HBs4.out.1.2.2 H12.out.1 H12.out.2.2.2.1 H12.out.2.2.2.2.1 HoX.out (lp := lp)
        have hset := set_mid pre ys zs (forkN who s 0 0) (forkN who s K0 K1)
        rw [← HLp.out] at hset
        rw [hset] at hdn
        obtain ⟨e1, e2, e3, e4⟩ := HRC.out
        have hp0 := HP0.out
        have hp1 := H12.out.2.2.1
        have hlen : lp + (forkN who s K0 K1 :: (ys ++ zs)).length = K1 + zs.length := by rw [HK1.out, HK0.out]; simp; omega
        refine ⟨_, fk4, ff4, forkN who s K0 K1 :: (ys ++ zs), rfl, hdn.1, H12.out.2.1, ?_, ?_, hdn.2.2, H12.out.2.2.2.2.1⟩
        · rw [HK1.out, HK0.out] at hp1
          rw [HK0.out] at hp0
          rw [HK1.out, HK0.out]
          exact Pl.fork HCl.out HG.out (by rw [e1, e2]; exact hp0) (by rw [e3, e4]; exact hp1)
        · rw [hlen]
          exact hdn.2.1))
end Go.Proofs.Ytaapamoglgpocaa
