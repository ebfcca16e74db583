/- Walk: Fool's search, one call of it. -/
import Derived.Test.YtaapamoglgpocaaFool3
import Derived.Deep.AppendLies
import Derived.Deep.RegionLaw
import Derived.BigRegion
namespace Go.Proofs.Ytaapamoglgpocaa
open Go.RowKit

theorem growM_len (t : List (List Int)) (v : Int) : ∀ (rest now best : List Pr), now.length + rest.length ≤ 16 → best.length ≤ 16 → (growM t v rest now best).length ≤ 16
  | [], _, _, _, h => h
  | e :: rest, now, best, h1, h2 => by
    unfold growM
    simp only [List.length_cons] at h1
    refine growM_len t v rest now _ (by omega) ?_
    split
    · refine growM_len t v rest _ _ (by simp; omega) ?_
      unfold updM
      split
      · simp; omega
      · exact h2
    · exact h2
/-- The number in a box. -/
def boxI (p : Value) (w : World) : Nat := match p with
  | .pointer (some a) => match w.cell? a with
    | some (.int _ k) => k.toNat
    | _ => 0
  | _ => 0
theorem boxI_eq {w : World} {b : Nat} {i : Nat} (h : w.cell? ⟨b, 0, none⟩ = some (.int .i64 (i : Int))) : boxI (.pointer (some ⟨b, 0, none⟩)) w = i := by
  unfold boxI
  simp only [h]
  omega
/-- What a call may change. -/
def GS (B : FB) (nv : Value) : List Nat := B.n :: B.b :: nv.ownBlock.toList
theorem mem_GS {B : FB} {nv : Value} {x : Nat} : x ∈ GS B nv ↔ x = B.n ∨ x = B.b ∨ nv.ownBlock = some x := by
  unfold GS
  cases nv.ownBlock <;> simp [eq_comm]
def GrowIs (W0 : World) (B : FB) (nv : Value) (now best' : List Pr) (w w' : World) (e : Ending) : Prop :=
  e = .returned (.tuple #[]) ∧ ∃ nv' bv', FoolSt W0 B w' nv' bv' now best' ∧ Chg (GS B nv) w w' ∧ (∀ g, nv'.ownBlock = some g → nv.ownBlock = some g ∨ w.heap.size ≤ g)
def GrowOk (W0 : World) (B : FB) (t : List (List Int)) (v : Int) (all : List Pr) (F : Nat) : Prop := ∀ (fr : Nat) (w : World) (nv bv : Value) (now best : List Pr), fr ≤ all.length → all.length - fr < F → now.length ≤ fr → best.length ≤ 16 → (∀ x ∈ now, x ∈ all) → FoolSt W0 B w nv bv now best →
  Calls Try.prog 69 #[.int .i64 (fr : Int), .pointer (some ⟨B.n, 0, none⟩), .pointer (some ⟨B.b, 0, none⟩), .pointer (some ⟨B.a, 0, none⟩), .pointer (some ⟨B.t, 0, none⟩), .pointer (some ⟨B.v, 0, none⟩), .pointer (some ⟨B.g, 0, none⟩)] w
    fun e w' => GrowIs W0 B nv now (growM t v (all.drop fr) now (updM now best)) w w' e
/-- The best set's box is written anew. -/
theorem FoolSt.best {W0 w w1 : World} {B : FB} {nv bv bv' : Value} {now best best' : List Pr} (h : FoolSt W0 B w nv bv now best) (hnb : B.n ≠ B.b) (hlb : B.n < W0.heap.size ∧ B.b < W0.heap.size) (hc : Chg [] w w1) (ho : w1.ownsRow w.heap.size 60 2 bv' best'.length (flatP best')) :
    FoolSt W0 B (w1.setCell ⟨B.b, 0, none⟩ bv') nv bv' now best' ∧ Chg (GS B nv) w (w1.setCell ⟨B.b, 0, none⟩ bv') := by
  have hs := h.ch.size
  have hs1 := hc.size
  have hset := Chg.set w1 ⟨B.b, 0, none⟩ bv'
  have on1 := hc.row h.on (fun _ _ => List.not_mem_nil)
  refine ⟨⟨(h.bn.keep hc List.not_mem_nil).set' hnb _, ?_, row_set on1 hlb.2 _, row_set (row_low ho hs) hlb.2 _, ?_, ?_⟩, (hc.toAny.trans (hset.mono (fun x hx => mem_GS.2 (by simp at hx; exact .inr (.inl hx)))))⟩
  · have := (h.bb.keep hc List.not_mem_nil).set 0 bv'
    simpa using this
  · cases hb : bv'.ownBlock with
    | none => exact .inl rfl
    | some g =>
      refine .inr fun e => ?_
      have h1 := (ho.lt g hb).1
      have h2 := (h.on.lt g e.symm).2
      omega
  · exact (h.ch.trans hc.toAny).trans (hset.mono (fun x hx => by simp at hx; simp [hx]))

theorem row_box_ne {w : World} {base n size b : Nat} {e T : TypeId} {v : Value} {xs : List Value} {cs : Array Value} (h : w.ownsRow base e size v n xs) (hB : Box w b cs T) (hT : e ≠ T) : v.ownBlock ≠ some b := by
  intro hb
  rcases h.2 with ⟨rfl, _⟩ | ⟨g, cap, cur, rfl, _, hg, _⟩
  · cases hb
  · cases hb
    have hB' : w.heap[g]? = some (.cells cs T (0, 0)) := hB
    rw [hB'] at hg
    cases hg
    exact hT rfl
theorem pairT_ne : (60 : TypeId) ≠ 3 := by decide
theorem FoolSt.keep {W0 w w1 : World} {B : FB} {nv bv : Value} {now best : List Pr} (h : FoolSt W0 B w nv bv now best) (hc : Chg [] w w1) : FoolSt W0 B w1 nv bv now best :=
  ⟨h.bn.keep hc List.not_mem_nil, h.bb.keep hc List.not_mem_nil, hc.row h.on (fun _ _ => List.not_mem_nil), hc.row h.ob (fun _ _ => List.not_mem_nil), h.ap, h.ch.trans hc.toAny⟩
theorem FoolSt.box {W0 w : World} {B : FB} {nv bv : Value} {now best : List Pr} {b : Nat} (h : FoolSt W0 B w nv bv now best) (hb : W0.heap.size ≤ b) (hlb : B.n < W0.heap.size ∧ B.b < W0.heap.size) {cs : Array Value} (hB : Box w b cs 3) (u : Value) : FoolSt W0 B (w.setCell ⟨b, 0, none⟩ u) nv bv now best := by
  have hn := row_box_ne h.on hB pairT_ne
  have hb' := row_box_ne h.ob hB pairT_ne
  have hset := Chg.set w ⟨b, 0, none⟩ u
  exact ⟨h.bn.set' (show B.n ≠ b by omega) u, h.bb.set' (show B.b ≠ b by omega) u, hset.row h.on (fun g hg hm => by rw [List.mem_singleton] at hm; exact hn (by rw [hg, hm])), hset.row h.ob (fun g hg hm => by rw [List.mem_singleton] at hm; exact hb' (by rw [hg, hm])), h.ap, h.ch.trans' hset (fun x hx => by rw [List.mem_singleton] at hx; exact .inr (by rw [hx]; exact hb))⟩

theorem FoolSt.push {W0 w3 wA w9 : World} {B : FB} {nv bv : Value} {now best : List Pr} {x : Pr} {g1 cap1 Kn : Nat} (h : FoolSt W0 B w3 nv bv now best) (hk : Kn = now.length) (hnb : B.n ≠ B.b) (hlb : B.n < W0.heap.size ∧ B.b < W0.heap.size) (hA : Chg [] w3 wA) (hg : wA.grownBy w9 nv.ownBlock)
    (ho : w9.ownsRow W0.heap.size 60 2 (.slice (some ⟨g1, 0, none⟩) (Kn + 1) cap1) (Kn + 1) (flatP now ++ (prCells x).toList)) (hat : nv.ownBlock = some g1 ∨ w3.heap.size ≤ g1) :
    FoolSt W0 B (w9.setCell ⟨B.n, 0, none⟩ (.slice (some ⟨g1, 0, none⟩) (Kn + 1) cap1)) (.slice (some ⟨g1, 0, none⟩) (Kn + 1) cap1) bv (now ++ [x]) best ∧ Chg (GS B nv) w3 (w9.setCell ⟨B.n, 0, none⟩ (.slice (some ⟨g1, 0, none⟩) (Kn + 1) cap1)) ∧
      (∀ (b : Nat) (cs : Array Value), W0.heap.size ≤ b → Box w3 b cs 3 → Box (w9.setCell ⟨B.n, 0, none⟩ (.slice (some ⟨g1, 0, none⟩) (Kn + 1) cap1)) b cs 3) := by
  have onA := hA.row h.on (fun _ _ => List.not_mem_nil)
  have obA := hA.row h.ob (fun _ _ => List.not_mem_nil)
  have hset := Chg.set w9 ⟨B.n, 0, none⟩ (.slice (some ⟨g1, 0, none⟩) (Kn + 1) cap1)
  have bn9 := box_grown (h.bn.keep hA List.not_mem_nil) onA hg hlb.1
  have bb9 := box_grown (h.bb.keep hA List.not_mem_nil) onA hg hlb.2
  have h39 : Chg nv.ownBlock.toList w3 w9 := hA.toAny.grown hg (fun k hk => .inl (by rw [hk]; simp))
  have h09 : Chg [B.n, B.b] W0 w9 := (h.ch.trans hA.toAny).grown hg (fun k hk => .inr (h.on.lt k hk).1)
  refine ⟨⟨by have := bn9.set 0 (.slice (some ⟨g1, 0, none⟩) (Kn + 1) cap1); simpa using this, bb9.set' (Ne.symm hnb) _, ?_, row_set (obA.kept hg h.ap) hlb.1 _, ?_, h09.trans (hset.mono (fun x hx => by rw [List.mem_singleton] at hx; rw [hx]; simp))⟩, ?_, fun b cs hb hB => ?_⟩
  · have e1 : (now ++ [x]).length = Kn + 1 := by rw [List.length_append, hk]; rfl
    rw [e1, flatP_snoc]
    exact row_set ho hlb.1 _
  · cases hb : bv.ownBlock with
    | none => exact .inl rfl
    | some q =>
      refine .inr fun e => ?_
      simp only [Value.ownBlock, Option.some.injEq] at e
      subst e
      rcases hat with h1 | h1
      · rcases h.ap with h2 | h2
        · rw [h2] at hb; cases hb
        · exact h2 (by rw [hb, h1])
      · have := (h.ob.lt q hb).2; omega
  · refine (h39.mono (fun y hy => mem_GS.2 (.inr (.inr (by simpa using hy))))).trans (hset.mono (fun y hy => mem_GS.2 (.inl (by rw [List.mem_singleton] at hy; exact hy))))
  · have hne := row_box_ne onA (hB.keep hA List.not_mem_nil) pairT_ne
    have hB9 : Box w9 b cs 3 := (hg.block b (hB.keep hA List.not_mem_nil).lt (fun e => hne e.symm)).trans (hB.keep hA List.not_mem_nil)
    exact hB9.set' (show b ≠ B.n by omega) _
theorem row_short2 {w : World} {base : Nat} {ao : Option Addr} {n cap : Nat} {xs ys : List Value} {e : TypeId} (h : w.ownsRow base e 2 (.slice ao (n + 1) cap) (n + 1) (xs ++ ys)) (hl : xs.length = n * 2) : w.ownsRow base e 2 (.slice ao n cap) n xs := by
  refine ⟨hl, ?_⟩
  rcases h.2 with ⟨e0, h0⟩ | ⟨g, cap', cur, e0, hb, hg, hle, hcap, hsz, ht⟩
  · omega
  · cases e0
    refine .inr ⟨g, cap, cur, rfl, hb, hg, by omega, hcap, hsz, ?_⟩
    have : (cur.toList.take ((n + 1) * 2)).take (n * 2) = xs := by rw [ht, List.take_append_of_le_length (by omega), List.take_of_length_le (by omega)]
    rw [List.take_take] at this
    rw [← this]
    congr 1
    omega
theorem FoolSt.pop {W0 w : World} {B : FB} {bv : Value} {now best : List Pr} {x : Pr} {ao : Option Addr} {cap Kn : Nat} (h : FoolSt W0 B w (.slice ao (Kn + 1) cap) bv (now ++ [x]) best) (hk : Kn = now.length) (hnb : B.n ≠ B.b) (hlb : B.n < W0.heap.size ∧ B.b < W0.heap.size) :
    FoolSt W0 B (w.setCell ⟨B.n, 0, none⟩ (.slice ao Kn cap)) (.slice ao Kn cap) bv now best := by
  have hset := Chg.set w ⟨B.n, 0, none⟩ (.slice ao Kn cap)
  have ho := h.on
  rw [show (now ++ [x]).length = Kn + 1 by rw [List.length_append, hk]; rfl, flatP_snoc] at ho
  have ho2 := row_short2 ho (by rw [flatP_len, hk])
  refine ⟨by have := h.bn.set 0 (.slice ao Kn cap); simpa using this, h.bb.set' (Ne.symm hnb) _, by rw [← hk]; exact row_set ho2 hlb.1 _, row_set h.ob hlb.1 _, ?_, h.ch.trans (hset.mono (fun x hx => by rw [List.mem_singleton] at hx; rw [hx]; simp))⟩
  rcases h.ap with h1 | h1
  · exact .inl h1
  · refine .inr fun e => h1 (e.trans ?_)
    cases ao <;> rfl
theorem grow_back {w w3 W10 w11 : World} {B : FB} {nv0 nv nv' nv2 : Value} {g1 : Nat} (h9 : nv'.ownBlock = some g1) (hC3 : Chg (GS B nv0) w w3) (hf : ∀ g, nv.ownBlock = some g → nv0.ownBlock = some g ∨ w.heap.size ≤ g) (hC10 : Chg (GS B nv) w3 W10) (hat : nv.ownBlock = some g1 ∨ w3.heap.size ≤ g1) (hC11 : Chg (GS B nv') W10 w11)
    (hf2 : ∀ g, nv2.ownBlock = some g → nv'.ownBlock = some g ∨ W10.heap.size ≤ g) : Chg (GS B nv0) w w11 ∧ (∀ g, nv2.ownBlock = some g → nv0.ownBlock = some g ∨ w.heap.size ≤ g) := by
  have s3 := hC3.size
  have s10 := hC10.size
  have k1 : nv0.ownBlock = some g1 ∨ w.heap.size ≤ g1 := by
    rcases hat with h | h
    · exact hf g1 h
    · exact .inr (by omega)
  have hC : Chg (GS B nv0) w W10 := hC3.trans' hC10 (fun y hy => by
    rcases mem_GS.1 hy with h | h | h
    · exact .inl (mem_GS.2 (.inl h))
    · exact .inl (mem_GS.2 (.inr (.inl h)))
    · exact (hf y h).imp (fun h => mem_GS.2 (.inr (.inr h))) id)
  refine ⟨hC.trans' hC11 (fun y hy => ?_), fun g hg => ?_⟩
  · rcases mem_GS.1 hy with h | h | h
    · exact .inl (mem_GS.2 (.inl h))
    · exact .inl (mem_GS.2 (.inr (.inl h)))
    · rw [h9] at h
      cases h
      exact k1.imp (fun h => mem_GS.2 (.inr (.inr h))) id
  · rcases hf2 g hg with h | h
    · rw [h9] at h
      cases h
      exact k1
    · exact .inr (by omega)

set_option maxRecDepth 100000 in
set_option maxHeartbeats 40000000 in
theorem grow_more (W0 : World) (B : FB) (allv vt : Value) (t : List (List Int)) (v : Int) (all : List Pr) (F : Nat) (hf : FoolFix W0 B allv vt t v all) (IH : GrowOk W0 B t v all F) : GrowOk W0 B t v all (F + 1) := by
  intro fr w nv bv now best hfr hF hnow hbest hsub hst
  have HF := hide hf
  have HIH := hide IH
  have HSt := hide hst
  have HSub := hide hsub
  obtain ⟨no, ncap, rfl, hncap⟩ := row_shape hst.on
  obtain ⟨bo, bcap, rfl, hbcap⟩ := row_shape hst.ob
  have n0 := hst.bn.cell 0
  have b0 := hst.bb.cell 0
  have lb := hst.bb.lt
  simp only [List.getElem?_toArray, List.getElem?_cons_zero] at n0 b0
  have fb := hst.bb.free 0
  have hnl : now.length ≤ 16 := by have := hf.few; omega
  have HCl := hide (CloneP_any _ now w (pairs_see hst.on) (by omega))
  clear hf IH hst hsub
  have HUpd : Hid (updM now best = if best.length < now.length then now else best) := hide rfl
  obtain ⟨Kn, hKn⟩ : ∃ k, k = now.length := ⟨_, rfl⟩
  obtain ⟨Kb, hKb⟩ : ∃ k, k = best.length := ⟨_, rfl⟩
  rw [← hKn] at HSt HCl HUpd hnow hncap hnl n0 ⊢
  rw [← hKb] at HSt HUpd hbest hbcap b0
  have HKn := hide hKn
  have HKb := hide hKb
  clear hKn hKb
  obtain ⟨b2, hb2⟩ : ∃ x, x = updM now best := ⟨_, rfl⟩
  rw [← hb2] at HUpd ⊢
  have hb2l : b2.length ≤ 16 := by
    rw [hb2]
    unfold updM
    split
    · rw [← HKn.out]; exact hnl
    · rw [← HKb.out]; exact hbest
  clear hb2
  obtain ⟨R, hR⟩ : ∃ R : Ending → World → Prop, R = fun e w' => GrowIs W0 B (.slice no Kn ncap) now (growM t v (all.drop fr) now b2) w w' e := ⟨_, rfl⟩
  rw [← hR]
  have HR : Hid (∀ e w', GrowIs W0 B (.slice no Kn ncap) now (growM t v (all.drop fr) now b2) w w' e → R e w') := hide (by rw [hR]; exact fun _ _ h => h)
  clear hR
  obtain ⟨L, hL⟩ : ∃ k, k = all.length := ⟨_, rfl⟩
  have HL := hide hL
  rw [← hL] at hfr hF
  have hL16 : L ≤ 16 := by rw [hL]; exact HF.out.few
  clear hL
  obtain ⟨ca, cap, rfl, hcap⟩ := HF.out.sa.shape
  rw [← HL.out] at HF hcap
  by_cases hlt : Kb < Kn
  case' pos =>
    have d1 : decide ((Kb : Int) < (Kn : Int)) = true := by simpa using hlt
    have d1' : decide (Kb < Kn) = true := by simpa using hlt
    rw [if_pos hlt] at HUpd
    clear hlt
    go_enter Try.func69, Try.ntmps69
    go_wp2_with fail
    refine HCl.out.mono ?_
    rintro e w1 ⟨v1, rfl, ho1, hw1⟩
    obtain ⟨o1, c1, rfl, hc1⟩ := row_shape ho1
    have b1 := HSt.out.bb.keep hw1 List.not_mem_nil
    have bc := b1.cell 0
    have bf := b1.free 0
    have lb1 := b1.lt
    simp only [List.getElem?_toArray, List.getElem?_cons_zero] at bc
    have hs2 := FoolSt.best (best' := b2) HSt.out HF.out.nb ⟨HF.out.ln, HF.out.lb⟩ hw1 (by rw [HUpd.out, ← HKn.out]; exact ho1)
    have HS2 := hide hs2.1
    have C2 := hide hs2.2
    clear ho1 b1 hs2 hw1 b0 n0 lb fb
    go_wp2
    generalize hW : w1.setCell _ _ = w2 at HS2 C2 ⊢
    have e12 : w1.heap.size = w2.heap.size := by rw [← hW]; simp [World.setCell]
    try rw [e12]
    clear hW bc bf lb1 HUpd HCl e12
  case' neg =>
    have d1 : decide ((Kb : Int) < (Kn : Int)) = false := by simpa using hlt
    have d1' : decide (Kb < Kn) = false := by simpa using hlt
    rw [if_neg hlt] at HUpd
    have hs2 := HSt.out
    rw [← HUpd.out] at hs2
    have HS2 := hide hs2
    clear hlt HUpd hs2 HCl
    obtain ⟨w2, hw2⟩ : ∃ x, x = w := ⟨_, rfl⟩
    rw [← hw2] at HS2 n0 b0 lb fb ⊢
    have C2 : Hid (Chg (GS B (.slice no Kn ncap)) w w2) := hide (by rw [hw2]; exact Chg.refl _ _)
    clear hw2
    go_enter Try.func69, Try.ntmps69
    go_wp2
    clear n0 b0 lb fb
  all_goals (
    have hW2 := HS2.out.ch.size
    have hww2 := C2.out.size
    have HW2 := hide (And.intro hW2 hww2)
    have HSA := hide (HS2.out.keep ((Chg.refl [] w2).alloc (.cells #[.int .i64 (fr : Int)] 3)))
    have BI := hide (Box.new w2 #[.int .i64 (fr : Int)] 3)
    have CA : Hid (Chg (GS B (.slice no Kn ncap)) w (w2.alloc (.cells #[.int .i64 (fr : Int)] 3))) := hide (C2.out.alloc _)
    have HNo := hide hnow
    clear hW2 hww2
    go_loopw [8] (fun pv wr => ∃ (i Bi : Nat) (nv bv : Value) (b3 : List Pr), i ≤ L ∧ fr ≤ i ∧ pv = .pointer (some ⟨Bi, 0, none⟩) ∧ b3.length ≤ 16 ∧ Hid ((Box wr Bi #[.int .i64 (i : Int)] 3 ∧ W0.heap.size ≤ Bi ∧ w.heap.size ≤ Bi) ∧ FoolSt W0 B wr nv bv now b3 ∧ growM t v (all.drop fr) now b2 = growM t v (all.drop i) now b3 ∧ Chg (GS B (.slice no Kn ncap)) w wr ∧ (∀ g, nv.ownBlock = some g → (Value.slice no Kn ncap).ownBlock = some g ∨ w.heap.size ≤ g))) (fun pv wr => L - boxI pv wr)
    case atStart => exact ⟨fr, w2.heap.size, _, _, b2, hfr, Nat.le_refl _, rfl, hb2l, hide ⟨⟨BI.out, HW2.out.1, HW2.out.2⟩, HSA.out, rfl, CA.out, fun g h => .inl h⟩⟩
    case round =>
      obtain ⟨i, Bi, nv, bv, b3, hi, hfi, rfl, hb3, hI⟩ := hrel
      obtain ⟨⟨hBi, hB0, hBw⟩, hS, hG, hC, hfresh⟩ := hI.out
      have on := hS.on
      rw [← HKn.out] at on
      obtain ⟨no', ncap', rfl, hncap'⟩ := row_shape on
      obtain ⟨xA, xT, xV, xG⟩ := HF.out.atA hS.ch
      have fi := hBi.cell 0
      have fa := xA.cell 0
      have fn := hS.bn.cell 0
      have ln := hS.bn.lt
      have hm1 : boxI (.pointer (some ⟨Bi, 0, none⟩)) wr = i := boxI_eq (by simpa using fi)
      simp only [List.getElem?_toArray, List.getElem?_cons_zero] at fi fa fn
      by_cases hlt : i < L
      · have d1 : decide ((i : Int) < (L : Int)) = true := by simpa using hlt
        have d1' : decide (i < L) = true := by simpa using hlt
        have hil : i < all.length := by rw [← HL.out]; exact hlt
        obtain ⟨hsa, hst⟩ := HF.out.an wr hS.ch
        have hCon := Contains_pairs 71 #[.pointer (some ⟨B.t, 0, none⟩), .pointer (some ⟨B.v, 0, none⟩), .pointer (some ⟨B.a, 0, none⟩), .pointer (some ⟨Bi, 0, none⟩)] (fun a => !fooledB t v a (all.getD i pr0)) (.slice no' Kn ncap') now wr (pairs_see (base := W0.heap.size) (by rw [← HKn.out]; exact on)) (by rw [← HKn.out]; omega) callFool
          (fun r ws hr hw => notFooled B.t B.v B.a Bi vt (.slice ca L cap) t v all i r ws ((xT.keep hw List.not_mem_nil).cell 0) ((xV.keep hw List.not_mem_nil).cell 0) ((xA.keep hw List.not_mem_nil).cell 0) ((hBi.keep hw List.not_mem_nil).cell 0) (hst.keep hw) (hsa.keep hw) HF.out.tab hil (HF.out.ins r (HSub.out r hr)) HF.out.ins)
        have HCon := hide hCon
        have hdrop : all.drop i = all.getD i pr0 :: all.drop (i + 1) := by
          rw [List.drop_eq_getElem_cons hil, List.getD_eq_getElem?_getD, List.getElem?_eq_getElem hil]
          rfl
        have HG : Hid (growM t v (all.drop fr) now b2 = growM t v (all.drop (i + 1)) now (if okB t v now (all.getD i pr0) = true then growM t v (all.drop (i + 1)) (now ++ [all.getD i pr0]) (updM (now ++ [all.getD i pr0]) b3) else b3)) := hide (by rw [hG, hdrop]; rfl)
        have HOk : Hid (okB t v now (all.getD i pr0) = !(now.any fun a => !fooledB t v a (all.getD i pr0))) := hide rfl
        have HI2 := hide (And.intro hBi (And.intro hS (And.intro hC hfresh)))
        have HI := hide (And.intro hB0 hBw)
        have HMem : Hid (all.getD i pr0 ∈ all) := hide (by
          rw [List.getD_eq_getElem?_getD, List.getElem?_eq_getElem hil]
          exact List.getElem_mem _)
        clear hBi hS hG hC hfresh hI on xA xT xV xG hsa hst hCon hdrop
        cases hany : (now.any fun a => !fooledB t v a (all.getD i pr0)) with
        | true =>
          rw [hany] at HCon HOk
          have HG2 : Hid (growM t v (all.drop fr) now b2 = growM t v (all.drop (i + 1)) now b3) := hide (by rw [HG.out, HOk.out, if_neg (by decide)])
          clear hany HG HOk
          go_wp2_with fail
          refine HCon.out.mono ?_
          rintro e w3 ⟨rfl, hw3⟩
          have fi3 := (HI2.out.1.keep hw3 List.not_mem_nil).cell 0
          simp only [List.getElem?_toArray, List.getElem?_cons_zero] at fi3
          have li3 := (HI2.out.1.keep hw3 List.not_mem_nil).lt
          clear fi fa fn ln
          go_wp2
          have hsz3 := hw3.size
          go_roundw
          case rel => exact ⟨i + 1, w3.heap.size, _, bv, b3, by omega, by omega, rfl, hb3, hide ⟨⟨Box.new w3 #[.int .i64 ((i + 1 : Nat) : Int)] 3, Nat.le_trans HI2.out.2.1.ch.size hsz3, Nat.le_trans HI2.out.2.2.1.size hsz3⟩, HI2.out.2.1.keep (hw3.alloc _), HG2.out, HI2.out.2.2.1.trans (hw3.alloc _).toAny, HI2.out.2.2.2⟩⟩
          case measure =>
            have e1 : boxI (.pointer (some ⟨w3.heap.size, 0, none⟩)) (w3.alloc (.cells #[.int .i64 ((i : Int) + 1)] 3)) = i + 1 := boxI_eq (Box.new w3 #[.int .i64 ((i + 1 : Nat) : Int)] 3 |>.cell 0)
            rw [e1, hm1]
            omega
        | false =>
          rw [hany] at HCon HOk
          have HG2 : Hid (growM t v (all.drop fr) now b2 = growM t v (all.drop (i + 1)) now (growM t v (all.drop (i + 1)) (now ++ [all.getD i pr0]) (updM (now ++ [all.getD i pr0]) b3))) := hide (by rw [HG.out, HOk.out, if_pos (by decide)])
          clear hany HG HOk
          go_wp2_with fail
          refine HCon.out.mono ?_
          rintro e w3 ⟨rfl, hw3⟩
          have hS3 := HI2.out.2.1.keep hw3
          have hB3 := HI2.out.1.keep hw3 List.not_mem_nil
          obtain ⟨xA, xT, xV, xG⟩ := HF.out.atA hS3.ch
          have xG3 := hide xG
          obtain ⟨a, ccap, e1, lA, hcell⟩ := (HF.out.an w3 hS3.ch).1.open (by rintro h; rw [h] at hil; simp at hil)
          obtain ⟨rfl, hL1, rfl⟩ : ca = some a ∧ L = all.length ∧ cap = ccap := by simpa using e1
          have hO := hS3.on
          rw [← HKn.out] at hO
          obtain ⟨x, hx⟩ : ∃ x, x = all.getD i pr0 := ⟨_, rfl⟩
          have HX := hide hx
          have HS3 := hide hS3
          have HB3 := hide hB3
          have HC3 : Hid (Chg (GS B (.slice no Kn ncap)) w w3) := hide (HI2.out.2.2.1.trans hw3.toAny)
          have HK := hide (fun X (hX : Chg [] w3 X) => (⟨(hS3.bn.keep hX List.not_mem_nil).cell 0, (xA.keep hX List.not_mem_nil).cell 0, (hB3.keep hX List.not_mem_nil).cell 0, by have := (hcell X hX i hil).1; rw [← hx] at this; exact this, by have := (hcell X hX i hil).2; rw [← hx] at this; exact this, (hS3.bn.keep hX List.not_mem_nil).free 0, (hS3.bn.keep hX List.not_mem_nil).lt⟩ :
            X.cell? ⟨B.n, 0, none⟩ = some (.slice no' Kn ncap') ∧ X.cell? ⟨B.a, 0, none⟩ = some (.slice (some a) L cap) ∧ X.cell? ⟨Bi, 0, none⟩ = some (.int .i64 (i : Int)) ∧ X.cell? (a.add (i * 2)) = some (.int .i64 x.1) ∧ X.cell? ⟨(a.add (i * 2)).block, (a.add (i * 2)).off + 1, none⟩ = some (.int .i64 x.2) ∧ X.frozen? ⟨B.n, 0, none⟩ = false ∧ B.n < X.heap.size))
          have HRow := hide (fun X (hX : Chg [] w3 X) => hX.row hO (fun _ _ => List.not_mem_nil))
          have i0 : (0 : Int) ≤ (i : Int) := by omega
          have i1 : (i : Int) < (L : Int) := by omega
          have hsz3 := hw3.size
          have hwz3 := HS3.out.ch.size
          clear fi fa fn ln xA xT xV xG hO hS3 hB3 e1 hL1 hcell hx lA
          obtain ⟨f1, f2, f3, f4, f5, f6, f7⟩ := HK.out w3 (Chg.refl _ _)
          obtain ⟨i9, hi9, hz0, hz1, hz2⟩ := info_parts infoPair
          obtain ⟨xa, xb⟩ := x
          go_wp2
          go_region_law (((refine step_append_lies _ (by rfl) _ _ 46 (by rfl) W0.heap.size 60 i9 (.agg #[.int .i64 0, .int .i64 0]) 2 16 Try.underlying46 hi9 hz0 hz1 hz2 (by rfl) (by decide) (.slice no' Kn ncap') Kn (flatP now) (by rfl) (HRow.out _ (by (repeat' (first | with_reducible exact Chg.refl _ _ | with_reducible assumption | with_reducible apply Chg.drewN | with_reducible apply Chg.drew | with_reducible apply Chg.alloc | (with_reducible refine Chg.setCell ?_ (Or.inr ?_) _) | (with_reducible refine Chg.trans ?_ (by assumption)) | (simp; done) | (simp; omega))))) ⟨w3.heap.size, 0, none⟩ 1 1 (prCells (xa, xb)).toList (by rfl) (by rfl) (pr_news w3 (xa, xb) _ rfl) (pr_one (xa, xb)) (by decide) (by unfold maxLen; omega) (by omega) (by simp; omega) (w3.heap.size + 1) (by simp) ?_; intro g1 cap1 w9 hown1 hgrow1 hat1 hlt1; have q3 := box_grown (HS3.out.bn.keep (by (repeat' (first | with_reducible exact Chg.refl _ _ | with_reducible assumption | with_reducible apply Chg.drewN | with_reducible apply Chg.drew | with_reducible apply Chg.alloc | (with_reducible refine Chg.setCell ?_ (Or.inr ?_) _) | (with_reducible refine Chg.trans ?_ (by assumption)) | (simp; done) | (simp; omega))) : Chg [] w3 _) List.not_mem_nil) (HRow.out _ (by (repeat' (first | with_reducible exact Chg.refl _ _ | with_reducible assumption | with_reducible apply Chg.drewN | with_reducible apply Chg.drew | with_reducible apply Chg.alloc | (with_reducible refine Chg.setCell ?_ (Or.inr ?_) _) | (with_reducible refine Chg.trans ?_ (by assumption)) | (simp; done) | (simp; omega))))) hgrow1 HF.out.ln; have f8 := q3.free 0; have f9 := q3.cell 0; have f10 := q3.lt; (try simp only [List.getElem?_toArray, List.getElem?_cons_zero] at f9))))
          all_goals (
            have hat : (Value.slice no' Kn ncap').ownBlock = some g1 ∨ w3.heap.size ≤ g1 := hat1.imp id (fun h => by omega)
            have hpu := FoolSt.push HS3.out HKn.out HF.out.nb ⟨HF.out.ln, HF.out.lb⟩ (by (repeat' (first | with_reducible exact Chg.refl _ _ | with_reducible assumption | with_reducible apply Chg.drewN | with_reducible apply Chg.drew | with_reducible apply Chg.alloc | (with_reducible refine Chg.setCell ?_ (Or.inr ?_) _) | (with_reducible refine Chg.trans ?_ (by assumption)) | (simp; done) | (simp; omega)))) hgrow1 hown1 hat
            have bx := hpu.2.2 Bi _ HI.out.1 HB3.out
            have b10 := bx.cell 0
            have lb10 := bx.lt
            simp only [List.getElem?_toArray, List.getElem?_cons_zero] at b10
            obtain ⟨_, _, _, yG⟩ := HF.out.atA hpu.1.ch
            have g10 := yG.cell 0
            simp only [List.getElem?_toArray, List.getElem?_cons_zero] at g10
            have hgo := HIH.out (i + 1) _ _ bv (now ++ [(xa, xb)]) b3 (by rw [← HL.out]; omega) (by rw [← HL.out]; omega) (by rw [List.length_append, ← HKn.out]; simp; omega) hb3 (fun y hy => by
              rcases List.mem_append.1 hy with h | h
              · exact HSub.out y h
              · rw [List.mem_singleton] at h
                rw [h, HX.out]
                exact HMem.out) hpu.1
            have HGo := hide hgo
            have HPu := hide (And.intro hpu.1 (And.intro hpu.2.1 bx))
            have HAt := hide hat
            clear hgo hpu bx yG hown1 hgrow1 hat1 hat q3 f8 f9 f10 f1 f2 f3 f4 f5 f6 f7
            generalize w9.setCell _ _ = w10 at b10 lb10 g10 HGo HPu ⊢
            go_wp2_with fail
            refine HGo.out.mono ?_
            rintro e w11 ⟨rfl, nv2, bv2, hS11, hC11, hf11⟩
            have hb11 := HPu.out.2.2.keep hC11 (fun h => by
              rcases mem_GS.1 h with h | h | h
              · have := HF.out.ln; have := HI.out.1; omega
              · have := HF.out.lb; have := HI.out.1; omega
              · exact row_box_ne HPu.out.1.on HPu.out.2.2 pairT_ne h)
            have f11 := hb11.cell 0
            have l11 := hb11.lt
            have o11 := hS11.on
            rw [show (now ++ [(xa, xb)]).length = Kn + 1 by rw [List.length_append, ← HKn.out]; rfl] at o11
            obtain ⟨no2, ncap2, rfl, hnc2⟩ := row_shape o11
            have n11 := hS11.bn.cell 0
            have nf11 := hS11.bn.free 0
            have nl11 := hS11.bn.lt
            simp only [List.getElem?_toArray, List.getElem?_cons_zero] at f11 n11
            have hpop := FoolSt.pop hS11 HKn.out HF.out.nb ⟨HF.out.ln, HF.out.lb⟩
            have hgb := grow_back (g1 := g1) rfl HC3.out HI2.out.2.2.2 HPu.out.2.1 HAt.out hC11 hf11
            have hk1 : ((Kn + 1 : Nat) : Int) - 1 = (Kn : Int) := by omega
            have hw1 : IntKind.i64.wrap (((Kn + 1 : Nat) : Int) - 1) = (Kn : Int) := by rw [hk1]; exact wraps_i64 _ (by omega) (by omega)
            have i2 : (0 : Int) ≤ (Kn : Int) := by omega
            have i3 : (Kn : Int) ≤ (ncap2 : Int) := by omega
            have HPop := hide hpop
            have HGb := hide hgb
            have HB11 := hide (hb11.set' (p := ⟨B.n, 0, none⟩) (show Bi ≠ B.n by have := HF.out.ln; have := HI.out.1; omega) (.slice no2 Kn ncap2))
            have f12 := HB11.out.cell 0
            simp only [List.getElem?_toArray, List.getElem?_cons_zero] at f12
            have l12 := HB11.out.lt
            clear hk1 hpop hgb hb11 o11 hS11 hC11 hf11 g10 b10 lb10
            go_wp2
            have hset := Chg.set w11 ⟨B.n, 0, none⟩ (.slice no2 Kn ncap2)
            have hz12 : (w11.setCell ⟨B.n, 0, none⟩ (.slice no2 Kn ncap2)).heap.size = w11.heap.size := by simp [World.setCell]
            generalize w11.setCell ⟨B.n, 0, none⟩ (.slice no2 Kn ncap2) = w12 at HPop HB11 hset hz12 f12 l12 ⊢
            have hC12 : Chg (GS B (.slice no Kn ncap)) w w12 := HGb.out.1.trans (hset.mono (fun y hy => mem_GS.2 (.inl (by rw [List.mem_singleton] at hy; exact hy))))
            have hs12 := hC12.size
            have hs0 := HPop.out.ch.size
            have bnew : Box (w12.alloc (.cells #[.int .i64 ((i : Int) + 1)] 3)) w11.heap.size #[.int .i64 ((i + 1 : Nat) : Int)] 3 := Box.at w12 #[.int .i64 ((i + 1 : Nat) : Int)] 3 hz12.symm
            have hg2 := HG2.out
            rw [← HX.out] at hg2
            have hln : (growM t v (all.drop (i + 1)) (now ++ [(xa, xb)]) (updM (now ++ [(xa, xb)]) b3)).length ≤ 16 := growM_len t v _ _ _ (by rw [List.length_append, List.length_drop, ← HKn.out, ← HL.out]; simp; omega) (by
              unfold updM
              split
              · rw [List.length_append, ← HKn.out]; simp; omega
              · exact hb3)
            constructor
            · exact ⟨i + 1, w11.heap.size, _, bv2, _, by omega, by omega, rfl, hln, hide ⟨⟨bnew, by omega, by omega⟩, HPop.out.keep ((Chg.refl [] w12).alloc _), hg2, hC12.alloc _, fun g hg => HGb.out.2 g (by rw [← hg]; cases no2 <;> rfl)⟩⟩
            · rw [boxI_eq (bnew.cell 0), hm1]
              omega)
      · have d1 : decide ((i : Int) < (L : Int)) = false := by simpa using hlt
        have d1' : decide (i < L) = false := by simpa using hlt
        obtain rfl : i = L := by omega
        have hnil : all.drop i = [] := List.drop_eq_nil_of_le (by rw [← HL.out]; exact Nat.le_refl _)
        have hend : GrowIs W0 B (.slice no Kn ncap) now (growM t v (all.drop fr) now b2) w wr (.returned (.tuple #[])) := ⟨rfl, _, bv, by rw [hG, hnil]; exact hS, hC, hfresh⟩
        have HE := hide (HR.out _ _ hend)
        clear hend hI hBi hS hG hC hfresh on xA xT xV xG hm1 hnil
        go_wp2
        go_end0
        exact HE.out)
end Go.Proofs.Ytaapamoglgpocaa
