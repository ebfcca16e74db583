/- Walks: the function that tries a Load. -/
import Derived.Test.YtohdjlgghkcaoaaW9
namespace Go.Proofs.Ytohdjlgghkcaoaa
open Go.RowKit

/-- A block of cells, none of them frozen. -/
def Box (w : World) (A : Nat) (cs : Array Value) (T : TypeId) : Prop := w.heap[A]? = some (.cells cs T (0, 0))
theorem Box.lt {w : World} {A : Nat} {cs : Array Value} {T : TypeId} (h : Box w A cs T) : A < w.heap.size := (Array.getElem?_eq_some_iff.1 h).1
theorem Box.keep {w w' : World} {A : Nat} {cs : Array Value} {T : TypeId} {S : List Nat} (h : Box w A cs T) (hc : Chg S w w') (hs : A ∉ S) : Box w' A cs T := (hc.block A h.lt hs).trans h
theorem Box.cell {w : World} {A : Nat} {cs : Array Value} {T : TypeId} (h : Box w A cs T) (o : Nat) : w.cell? ⟨A, o, none⟩ = cs[o]? := by
  unfold World.cell?
  rw [show w.heap[A]? = some (.cells cs T (0, 0)) from h]
  rfl
theorem Box.free {w : World} {A : Nat} {cs : Array Value} {T : TypeId} (h : Box w A cs T) (o : Nat) : w.frozen? ⟨A, o, none⟩ = false := by
  unfold World.frozen?
  rw [show w.heap[A]? = some (.cells cs T (0, 0)) from h]
  simp
theorem Box.new (w : World) (cs : Array Value) (T : TypeId) : Box (w.alloc (.cells cs T)) w.heap.size cs T := heap_alloc_new _ _
theorem Box.old {w : World} {A : Nat} {cs : Array Value} {T : TypeId} (h : Box w A cs T) (o : Obj) : Box (w.alloc o) A cs T := (Below.heap_alloc w o A h.lt).trans h

theorem Box.set {w : World} {A : Nat} {cs : Array Value} {T : TypeId} (h : Box w A cs T) (o : Nat) (v : Value) : Box (w.setCell ⟨A, o, none⟩ v) A (cs.setIfInBounds o v) T := by
  unfold Box at h ⊢
  simp only [World.setCell, Array.getElem?_modify, if_true, h, Option.map_some]
  rfl
theorem Box.set' {w : World} {A : Nat} {cs : Array Value} {T : TypeId} (h : Box w A cs T) {p : Addr} (hp : A ≠ p.block) (v : Value) : Box (w.setCell p v) A cs T := (Below.heap_setCell _ _ _ _ hp).trans h
theorem Box.set8 {w : World} {A : Nat} {v0 v1 v2 v3 v4 v5 v6 v7 : Value} {T : TypeId} (h : Box w A #[v0, v1, v2, v3, v4, v5, v6, v7] T) (u0 u1 u2 u3 u4 u5 u6 u7 : Value) :
    Box ((((((((w.setCell ⟨A, 0, none⟩ u0).setCell ⟨A, 1, none⟩ u1).setCell ⟨A, 2, none⟩ u2).setCell ⟨A, 3, none⟩ u3).setCell ⟨A, 4, none⟩ u4).setCell ⟨A, 5, none⟩ u5).setCell ⟨A, 6, none⟩ u6).setCell ⟨A, 7, none⟩ u7) A #[u0, u1, u2, u3, u4, u5, u6, u7] T := by
  have h7 := (((((((h.set 0 u0).set 1 u1).set 2 u2).set 3 u3).set 4 u4).set 5 u5).set 6 u6).set 7 u7
  simp only [List.setIfInBounds_toArray, List.set_cons_zero, List.set_cons_succ] at h7
  exact h7
theorem Box.skip8 {w : World} {A B : Nat} {cs : Array Value} {T : TypeId} (h : Box w B cs T) (hne : B ≠ A) (u0 u1 u2 u3 u4 u5 u6 u7 : Value) :
    Box ((((((((w.setCell ⟨A, 0, none⟩ u0).setCell ⟨A, 1, none⟩ u1).setCell ⟨A, 2, none⟩ u2).setCell ⟨A, 3, none⟩ u3).setCell ⟨A, 4, none⟩ u4).setCell ⟨A, 5, none⟩ u5).setCell ⟨A, 6, none⟩ u6).setCell ⟨A, 7, none⟩ u7) B cs T :=
  (((((((h.set' hne u0).set' hne u1).set' hne u2).set' hne u3).set' hne u4).set' hne u5).set' hne u6).set' hne u7
theorem Box.set1 {w : World} {A : Nat} {v0 : Value} {T : TypeId} (h : Box w A #[v0] T) (u0 : Value) : Box (w.setCell ⟨A, 0, none⟩ u0) A #[u0] T := h.set 0 u0
def arr8 (x : W.L) (g0 g1 : Int) : Array Value := #[.int .i64 (x.b0 : Int), .int .i64 (x.b1 : Int), .int .i64 (x.h0 : Int), .int .i64 (x.h1 : Int), .int .i64 (x.l0 : Int), .int .i64 (x.l1 : Int), .int .i64 g0, .int .i64 g1]

def Tried (m : Nat) (k : W.K) (x : W.L) (g0 g1 : Int) (AX AF bm : Nat) (TX TF : TypeId) (w : World) (e : Ending) (w' : World) : Prop :=
  (e = .returned (.bool true) ∧ Chg [bm] w w' ∧ MemoIs w' bm ∧ W.good (W.wins m) k x = false) ∨
  (e = .returned (.bool false) ∧ Chg [bm, AX, AF] w w' ∧ MemoIs w' bm ∧ W.good (W.wins m) k x = true ∧ Box w' AX (arr8 x g0 g1) TX ∧ Box w' AF #[.bool true] TF)

set_option maxRecDepth 100000 in
set_option maxHeartbeats 800000 in
theorem more_any (m : Nat) (hm : m ≤ 6) (hW : WinsOk m) (k : W.K) (x : W.L) (g0 g1 : Int) (hk : okK k) (hf : W.fits k x = true) (e0 : g0 = (x.g0 : Int)) (e1 : g1 = (x.g1 : Int)) (AK AB AN AX AF bb bm : Nat) (v0 v1 v2 v3 v4 v5 v6 v7 vf : Value) (TX TF : TypeId) (w : World)
    (qk : KAt w AK k.b k.h k.l k.g k.n) (qb : At w AB (.pointer (some ⟨bb, 0, none⟩))) (qn : At w AN (.int .i64 ((m : Int) + 1))) (hX : Box w AX #[v0, v1, v2, v3, v4, v5, v6, v7] TX) (hF : Box w AF #[vf] TF)
    (hbb : At w bb (.map (some bm))) (hM : MemoIs w bm) (n1 : AK ≠ bm) (n2 : AB ≠ bm) (n3 : AN ≠ bm) (n4 : AX ≠ bm) (n5 : AF ≠ bm) (n6 : bb ≠ bm) (n7 : AX ≠ AF) :
    Calls Try.prog 81 #[.agg #[.int .i64 (x.b0 : Int), .int .i64 (x.b1 : Int), .int .i64 (x.h0 : Int), .int .i64 (x.h1 : Int), .int .i64 (x.l0 : Int), .int .i64 (x.l1 : Int), .int .i64 g0, .int .i64 g1], .pointer (some ⟨AK, 0, none⟩), .pointer (some ⟨AB, 0, none⟩), .pointer (some ⟨AN, 0, none⟩), .pointer (some ⟨AX, 0, none⟩), .pointer (some ⟨AF, 0, none⟩)] w
      (Tried m k x g0 g1 AX AF bm TX TF w) := by
  have hA : ∀ (r : Int) (w1 : World), (r = -1 ∨ r = 0 ∨ r = 1) → _ := fun r w1 hr => after_K k x g0 g1 r w1 hk hf e0 e1 hr
  have HA := hide hA
  have HW := hide hW
  have HK := hide hk
  have HFit := hide hf
  have HX := hide hX
  have HF := hide hF
  have HB := hide hbb
  have HM := hide hM
  have HQK := hide qk
  have HQB := hide qb
  have HQN := hide qn
  have lM := hM.lt
  have lK := qk.lt
  have lB := qb.lt
  have lN := qn.lt
  have lX := hX.lt
  have lF := hF.lt
  have lb := hbb.lt
  clear hA hW hk hf hX hF hbb hM qk qb qn e0 e1
  go_enter Try.func81, Try.ntmps81
  go_wp2
  have c0 : Chg [] w (w.alloc (Obj.cells #[.int .i64 (x.b0 : Int), .int .i64 (x.b1 : Int), .int .i64 (x.h0 : Int), .int .i64 (x.h1 : Int), .int .i64 (x.l0 : Int), .int .i64 (x.l1 : Int), .int .i64 g0, .int .i64 g1] 37)) := (Chg.refl _ _).alloc _
  have c1 := Box.new w #[.int .i64 (x.b0 : Int), .int .i64 (x.b1 : Int), .int .i64 (x.h0 : Int), .int .i64 (x.h1 : Int), .int .i64 (x.l0 : Int), .int .i64 (x.l1 : Int), .int .i64 g0, .int .i64 g1] 37
  generalize w.alloc (Obj.cells #[.int .i64 (x.b0 : Int), .int .i64 (x.b1 : Int), .int .i64 (x.h0 : Int), .int .i64 (x.h1 : Int), .int .i64 (x.l0 : Int), .int .i64 (x.l1 : Int), .int .i64 g0, .int .i64 g1] 37) = W0 at c0 c1 ⊢
  have n8 : w.heap.size ≠ bm := by omega
  have n9 : w.heap.size ≠ AX := by omega
  have n10 : w.heap.size ≠ AF := by omega
  generalize w.heap.size = A6 at c1 n8 n9 n10 ⊢
  have C0 := hide c0
  have C1 := hide c1
  clear c0 c1 lM lK lB lN lX lF lb
  go_loopw [8] (fun i wr => ∃ r : Int, -1 ≤ r ∧ r ≤ 2 ∧ i = .int .i64 r ∧ Hid (upR m k x r ∧ Chg [bm] W0 wr ∧ MemoIs wr bm)) (fun i _ => (2 - intOf i).toNat)
  case atStart => exact ⟨-1, by omega, by omega, rfl, hide ⟨fun r' h1 h2 => by omega, Chg.refl _ _, HM.out.keep C0.out (by simp)⟩⟩
  case round =>
    obtain ⟨r, hr0, hr1, rfl, hI⟩ := hrel
    have cw : Hid (Chg [bm] w wr) := hide (C0.out.toAny.trans hI.out.2.1)
    have qk' := HQK.out.keep cw.out (by simpa using n1)
    have qb' := HQB.out.keep cw.out (by simpa using n2)
    have qn' := HQN.out.keep cw.out (by simpa using n3)
    have q6 := C1.out.keep hI.out.2.1 (by simpa using n8)
    have HX' := hide (HX.out.keep cw.out (by simpa using n4))
    have HF' := hide (HF.out.keep cw.out (by simpa using n5))
    have HB' := hide (HB.out.keep cw.out (by simpa using n6))
    have lK := qk'.lt
    have lB := qb'.lt
    have lN := qn'.lt
    have l6 := q6.lt
    have lX := HX'.out.lt
    have lF := HF'.out.lt
    have lM := hI.out.2.2.lt
    have f0 := fun o => q6.cell o
    obtain ⟨k0, k1, k2, k3, k4⟩ := qk'
    unfold At at qb' qn'
    clear q6
    by_cases hlt : r ≤ 1
    · have hr : r = -1 ∨ r = 0 ∨ r = 1 := by omega
      have d1 : decide (r ≤ 1) = true := by simpa using hlt
      have HR := hide hr
      clear hr
      have hAr := fun w1 => HA.out r w1 HR.out
      have hok := fun hp => aftOf_ok HK.out HFit.out r hp
      generalize hkk : aftOf k x r = k' at hAr hok
      have HAr := hide hAr
      have HOk := hide hok
      have HKK := hide hkk
      clear hAr hok hkk
      by_cases hp : 0 < k'.poss
      · have d2 : decide (0 < k'.poss) = true := by simpa using hp
        go_wp2_with (go_at_call 53; refine (HAr.out _).mono ?_; rw [vKn]; rintro e w1 ⟨rfl, hw1⟩; obtain ⟨hc1, hf1⟩ := hw1.reads; have hz1 := hw1.size; have j0 : AK < w1.heap.size := (by omega); have j1 : AB < w1.heap.size := (by omega); have j2 : AN < w1.heap.size := (by omega))
        have cV : ∀ o, Chg [bm] wr (w1.alloc o) := fun o => (hw1.alloc o).toAny
        refine (HW.out k' bb bm _ (HOk.out hp) (HB'.out.keep (cV _) (by simpa using n6)) (hI.out.2.2.keep (hw1.alloc _) (by simp)) n6).mono ?_
        rintro e w2 ⟨rfl, hc2, hM2⟩
        have C2 := hide ((cV _).trans hc2)
        have M2 := hide hM2
        clear hc1 hf1 hc2 hM2 f0 k0 k1 k2 k3 k4 qb' qn' cV
        by_cases hw : W.wins m k' = true
        · go_wp2
          go_roundw
          case rel => exact ⟨r + 1, by omega, by omega, rfl, hide ⟨upR_succ hI.out.1 (by rw [HKK.out]; exact W.fine_iff.2 (.inr hw)), hI.out.2.1.trans C2.out, M2.out⟩⟩
          case measure => simp [intOf]; omega
        · rw [Bool.not_eq_true] at hw
          go_wp2
          go_ret
          exact .inl ⟨rfl, cw.out.trans C2.out, M2.out, upR_not hr0 hlt (by rw [HKK.out]; unfold W.fine; rw [hw]; simp; omega)⟩
      · have d2 : decide (0 < k'.poss) = false := by simpa using hp
        go_wp2_with (go_at_call 53; refine (HAr.out _).mono ?_; rw [vKn]; rintro e w1 ⟨rfl, hw1⟩; obtain ⟨hc1, hf1⟩ := hw1.reads; have hz1 := hw1.size; have j0 : AK < w1.heap.size := (by omega); have j1 : AB < w1.heap.size := (by omega); have j2 : AN < w1.heap.size := (by omega))
        clear hc1 hf1 f0
        go_roundw
        case rel => exact ⟨r + 1, by omega, by omega, rfl, hide ⟨upR_succ hI.out.1 (by rw [HKK.out]; exact W.fine_iff.2 (.inl (by omega))), hI.out.2.1.trans (hw1.alloc _).toAny, hI.out.2.2.keep (hw1.alloc _) (by simp)⟩⟩
        case measure => simp [intOf]; omega
    · have d1 : decide (r ≤ 1) = false := by simpa using hlt
      have fX := fun o => HX'.out.cell o
      have gX := fun o => HX'.out.free o
      have fF := HF'.out.cell 0
      have gF := HF'.out.free 0
      go_wp2
      go_ret
      refine .inr ⟨rfl, ?_, ?_, upR_all (by omega) hI.out.1, ?_, ?_⟩
      · clear fX gX fF gF f0
        refine cw.out.mono (by simp) |>.trans ?_
        repeat' (first | with_reducible exact Chg.refl _ _ | (with_reducible refine Chg.setCell ?_ (Or.inl (by simp)) _))
      · clear fX gX fF gF f0
        refine hI.out.2.2.keep (S := [AX, AF]) ?_ (by simp; omega)
        repeat' (first | with_reducible exact Chg.refl _ _ | (with_reducible refine Chg.setCell ?_ (Or.inl (by simp)) _))
      · exact (HX'.out.set8 _ _ _ _ _ _ _ _).set' n7 _
      · exact (HF'.out.skip8 n7.symm _ _ _ _ _ _ _ _).set1 _
end Go.Proofs.Ytohdjlgghkcaoaa
