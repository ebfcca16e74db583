/- Walks: all Loads of what is known, handed to a function until it has enough. -/
import Derived.Test.YtohdjlgghkcaoaaW7
import Derived.Laws.EntriesVeiled
namespace Go.Proofs.Ytohdjlgghkcaoaa
open Go.RowKit

theorem cell_new (w : World) (cs : Array Value) (T : TypeId) (o : Nat) : (w.alloc (.cells cs T)).cell? ⟨w.heap.size, o, none⟩ = cs[o]? := by
  unfold World.cell?
  rw [show (w.alloc (.cells cs T)).heap[w.heap.size]? = some (.cells cs T) from heap_alloc_new _ _]
  rfl
theorem cell_old (w : World) (x : Obj) {b o : Nat} (h : b < w.heap.size) : (w.alloc x).cell? ⟨b, o, none⟩ = w.cell? ⟨b, o, none⟩ := World.cell?_of_block (Below.heap_alloc w x b h)

/-- What a function does that is handed Loads, from the world w0 on. -/
structure Work (k : W.K) (F : FuncId) (CAP : Array Value) (S : List Nat) (J : List W.L → World → Prop) (Z : World → Prop) (w0 : World) : Prop where
  call : ∀ args W, (callFunc F args).run Try.prog W = .ok (.enter F args) W
  old : ∀ s ∈ S, s < w0.heap.size
  stab : ∀ D w1 w2, J D w1 → Chg [] w1 w2 → J D w2
  skip : ∀ D x w1, W.fits k x = false → J D w1 → J (D ++ [x]) w1
  more : ∀ D x g0 g1 w1, W.fits k x = true → g0 = (x.g0 : Int) → g1 = (x.g1 : Int) → Chg S w0 w1 → J D w1 →
      Calls Try.prog F (#[.agg #[.int .i64 (x.b0 : Int), .int .i64 (x.b1 : Int), .int .i64 (x.h0 : Int), .int .i64 (x.h1 : Int), .int .i64 (x.l0 : Int), .int .i64 (x.l1 : Int), .int .i64 g0, .int .i64 g1]] ++ CAP) w1 (Goes S w1 (J (D ++ [x])) Z)

theorem Work.new {k : W.K} {F : FuncId} {CAP : Array Value} {S : List Nat} {J : List W.L → World → Prop} {Z : World → Prop} {w0 : World} (h : Work k F CAP S J Z w0) {A : Nat} (hA : w0.heap.size ≤ A) : A ∉ S := fun hm => by have := h.old A hm; omega

theorem pair_le {n : Nat} {done rest : List (Nat × Nat)} {p : Nat × Nat} (h : W.pairs n = done ++ p :: rest) : p.1 + p.2 ≤ n := W.mem_pairs.1 (by rw [h]; simp)

def row1 (p q : Nat × Nat) (n : Nat) : List W.L := (W.pairs n).map fun r => ⟨p.1, p.2, q.1, q.2, r.1, r.2⟩
def row2 (k : W.K) (p : Nat × Nat) : List W.L := (W.pairs k.h).flatMap fun q => row1 p q k.l
theorem loads_eq (k : W.K) : W.loads k = (W.pairs k.b).flatMap (row2 k) := rfl

theorem call91 (args : Array Value) (W : World) : (callFunc 91 args).run Try.prog W = .ok (.enter 91 args) W := by kernel_rfl
theorem call90 (args : Array Value) (W : World) : (callFunc 90 args).run Try.prog W = .ok (.enter 90 args) W := by kernel_rfl
theorem call89 (args : Array Value) (W : World) : (callFunc 89 args).run Try.prog W = .ok (.enter 89 args) W := by kernel_rfl

theorem Goes.mono {S : List Nat} {w a : World} {J J' Z : World → Prop} {e : Ending} {w' : World} (h : Goes S w J Z e w') (ha : Chg S a w) (hJ : ∀ w, J w → J' w) : Goes S a J' Z e w' :=
  ⟨ha.trans h.1, h.2.imp (fun ⟨x, y⟩ => ⟨x, hJ _ y⟩) (fun x => x)⟩

section
variable {k : W.K} {F : FuncId} {CAP : Array Value} {S : List Nat} {J : List W.L → World → Prop} {Z : World → Prop} {w0 : World}

set_option maxRecDepth 100000 in
set_option maxHeartbeats 2000000 in
theorem loads90 (hW : Work k F CAP S J Z w0) (hk : small k) (p q : Nat × Nat) (hp : p.1 + p.2 ≤ 13) (hq : q.1 + q.2 ≤ 13) (A0 A1 AK AM AP : Nat) (D : List W.L) (w : World) (hw : Chg S w0 w)
    (b0 : w0.heap.size ≤ A0) (b1 : w0.heap.size ≤ A1) (bk : w0.heap.size ≤ AK) (bm : w0.heap.size ≤ AM)
    (q0 : At w A0 (.int .i64 (p.1 : Int))) (q1 : At w A1 (.int .i64 (p.2 : Int))) (qk : KAt w AK k.b k.h k.l k.g k.n) (qm : At w AM (.func (.func F) #[] CAP)) (qp : At w AP (.func (.func 88) #[] #[]))
    (hJ : J D w) :
    Calls Try.prog 90 #[.int .i64 (q.1 : Int), .int .i64 (q.2 : Int), .pointer (some ⟨AP, 0, none⟩), .pointer (some ⟨AK, 0, none⟩), .pointer (some ⟨A0, 0, none⟩), .pointer (some ⟨A1, 0, none⟩), .pointer (some ⟨AM, 0, none⟩)] w (Goes S w (J (D ++ row1 p q k.l)) Z) := by
  have w2 : ∀ W : World, W = (w.alloc (.cells #[.int .i64 (q.1 : Int)] 3)).alloc (.cells #[.int .i64 (q.2 : Int)] 3) → Calls Try.prog 88 #[.int .i64 (k.l : Int), .func (.func 91) #[] #[.pointer (some ⟨A0, 0, none⟩), .pointer (some ⟨A1, 0, none⟩), .pointer (some ⟨w.heap.size, 0, none⟩), .pointer (some ⟨w.heap.size + 1, 0, none⟩), .pointer (some ⟨AK, 0, none⟩), .pointer (some ⟨AM, 0, none⟩)]] W (Goes S W (J (D ++ row1 p q k.l)) Z) := by
    intro W hWd
    have hcW : Chg [] w W := by subst hWd; exact ((Chg.refl _ _).alloc _).alloc _
    have r0 : At W w.heap.size (.int .i64 (q.1 : Int)) := by subst hWd; unfold At; simp
    have r1 : At W (w.heap.size + 1) (.int .i64 (q.2 : Int)) := by
      subst hWd; unfold At
      rw [show w.heap.size + 1 = (w.alloc (.cells #[.int .i64 (q.1 : Int)] 3)).heap.size by simp]
      simp
    have sz := hw.size
    refine pairs_any k.l hk.2.2.1 _ _ S (fun done => J (D ++ done.map fun r => ⟨p.1, p.2, q.1, q.2, r.1, r.2⟩)) Z W call91 ?_ (by simpa using hW.stab _ _ _ hJ hcW)
    rintro done r w1 ⟨rest, hr⟩ hc1 hJ1
    have hr13 := pair_le hr
    have hkl := hk.2.2.1
    have hcw1 : Chg S w w1 := hcW.toAny.trans hc1
    refine (make_one k hk ⟨p.1, p.2, q.1, q.2, r.1, r.2⟩ ⟨by simp only []; omega, by simp only []; omega, by simp only []; omega, by simp only []; omega, by simp only []; omega, by simp only []; omega⟩ A0 A1 w.heap.size (w.heap.size + 1) AK AM F CAP S J Z _ w1
      (q0.keep hcw1 (hW.new b0)) (q1.keep hcw1 (hW.new b1)) (r0.keep hc1 (hW.new sz)) (r1.keep hc1 (hW.new (by omega))) (qk.keep hcw1 (hW.new bk)) (qm.keep hcw1 (hW.new bm)) hW.call hW.stab hJ1
      (fun w2 hno h => hW.skip _ _ _ hno h) (fun g0 g1 w2 hy e0 e1 hc h => hW.more _ _ _ _ _ hy e0 e1 ((hw.trans hcw1).trans hc.toAny) h)).mono ?_
    intro e w' h
    refine h.mono (Chg.refl _ _) (fun w h => ?_)
    simpa using h
  have HW2 := hide w2
  have HW := hide hW
  clear w2 hJ hW
  have l4 := qk.lt
  have l5 := qp.lt
  unfold At at qp
  obtain ⟨k0, k1, k2, k3, k4⟩ := qk
  have HWw := hide hw
  clear hw q0 q1 qm
  go_enter Try.func90, Try.ntmps90
  go_wp2_with fail
  refine (HW2.out _ rfl).mono ?_
  rintro e w1 ⟨hchg, ⟨rfl, hj⟩ | ⟨rfl, hz⟩⟩
  · go_wp2
    go_ret
    exact ⟨(Chg.toAny (((Chg.refl _ _).alloc _).alloc _)).trans hchg, .inl ⟨rfl, hj⟩⟩
  · go_wp2
    go_ret
    exact ⟨(Chg.toAny (((Chg.refl _ _).alloc _).alloc _)).trans hchg, .inr ⟨rfl, hz⟩⟩

set_option maxRecDepth 100000 in
set_option maxHeartbeats 2000000 in
theorem loads89 (hW : Work k F CAP S J Z w0) (hk : small k) (p : Nat × Nat) (hp : p.1 + p.2 ≤ 13) (AK AM AP : Nat) (D : List W.L) (w : World) (hw : Chg S w0 w)
    (bk : w0.heap.size ≤ AK) (bm : w0.heap.size ≤ AM) (bp : w0.heap.size ≤ AP)
    (qk : KAt w AK k.b k.h k.l k.g k.n) (qm : At w AM (.func (.func F) #[] CAP)) (qp : At w AP (.func (.func 88) #[] #[]))
    (hJ : J D w) :
    Calls Try.prog 89 #[.int .i64 (p.1 : Int), .int .i64 (p.2 : Int), .pointer (some ⟨AP, 0, none⟩), .pointer (some ⟨AK, 0, none⟩), .pointer (some ⟨AM, 0, none⟩)] w (Goes S w (J (D ++ row2 k p)) Z) := by
  have w2 : ∀ W : World, W = (w.alloc (.cells #[.int .i64 (p.1 : Int)] 3)).alloc (.cells #[.int .i64 (p.2 : Int)] 3) → Calls Try.prog 88 #[.int .i64 (k.h : Int), .func (.func 90) #[] #[.pointer (some ⟨AP, 0, none⟩), .pointer (some ⟨AK, 0, none⟩), .pointer (some ⟨w.heap.size, 0, none⟩), .pointer (some ⟨w.heap.size + 1, 0, none⟩), .pointer (some ⟨AM, 0, none⟩)]] W (Goes S W (J (D ++ row2 k p)) Z) := by
    intro W hWd
    have hcW : Chg [] w W := by subst hWd; exact ((Chg.refl _ _).alloc _).alloc _
    have r0 : At W w.heap.size (.int .i64 (p.1 : Int)) := by subst hWd; unfold At; simp
    have r1 : At W (w.heap.size + 1) (.int .i64 (p.2 : Int)) := by
      subst hWd; unfold At
      rw [show w.heap.size + 1 = (w.alloc (.cells #[.int .i64 (p.1 : Int)] 3)).heap.size by simp]
      simp
    have sz := hw.size
    refine pairs_any k.h hk.2.1 _ _ S (fun done => J (D ++ done.flatMap fun q => row1 p q k.l)) Z W call90 ?_ (by simpa using hW.stab _ _ _ hJ hcW)
    rintro done q w1 ⟨rest, hr⟩ hc1 hJ1
    have hr13 := pair_le hr
    have hkh := hk.2.1
    have hcw1 : Chg S w w1 := hcW.toAny.trans hc1
    refine (loads90 hW hk p q hp (by omega) w.heap.size (w.heap.size + 1) AK AM AP _ w1 (hw.trans hcw1) sz (by omega) bk bm
      (r0.keep hc1 (hW.new sz)) (r1.keep hc1 (hW.new (by omega))) (qk.keep hcw1 (hW.new bk)) (qm.keep hcw1 (hW.new bm)) (qp.keep hcw1 (hW.new bp)) hJ1).mono ?_
    intro e w' h
    refine h.mono (Chg.refl _ _) (fun w h => ?_)
    simpa using h
  have HW2 := hide w2
  have HW := hide hW
  clear w2 hJ hW
  have l4 := qk.lt
  have l5 := qp.lt
  unfold At at qp
  obtain ⟨k0, k1, k2, k3, k4⟩ := qk
  have HWw := hide hw
  clear hw qm
  go_enter Try.func89, Try.ntmps89
  go_wp2_with fail
  refine (HW2.out _ rfl).mono ?_
  rintro e w1 ⟨hchg, ⟨rfl, hj⟩ | ⟨rfl, hz⟩⟩
  · go_wp2
    go_ret
    exact ⟨(Chg.toAny (((Chg.refl _ _).alloc _).alloc _)).trans hchg, .inl ⟨rfl, hj⟩⟩
  · go_wp2
    go_ret
    exact ⟨(Chg.toAny (((Chg.refl _ _).alloc _).alloc _)).trans hchg, .inr ⟨rfl, hz⟩⟩

set_option maxRecDepth 100000 in
set_option maxHeartbeats 2000000 in
theorem loads_any (hW : Work k F CAP S J Z w0) (hk : small k) (hJ : J [] w0) :
    Calls Try.prog 80 #[.agg #[.int .i64 (k.b : Int), .int .i64 (k.h : Int), .int .i64 (k.l : Int), .int .i64 (k.g : Int), .bool k.n], .func (.func F) #[] CAP] w0 (Goes S w0 (J (W.loads k)) Z) := by
  have w2 : ∀ V : World, V = ((w0.alloc (.cells #[.int .i64 (k.b : Int), .int .i64 (k.h : Int), .int .i64 (k.l : Int), .int .i64 (k.g : Int), .bool k.n] 27)).alloc (.cells #[.func (.func F) #[] CAP] 104)).alloc (.cells #[.func (.func 88) #[] #[]] 113) →
      Calls Try.prog 88 #[.int .i64 (k.b : Int), .func (.func 89) #[] #[.pointer (some ⟨w0.heap.size + 2, 0, none⟩), .pointer (some ⟨w0.heap.size, 0, none⟩), .pointer (some ⟨w0.heap.size + 1, 0, none⟩)]] V (Goes S V (J (W.loads k)) Z) := by
    intro V hWd
    have hcW : Chg [] w0 V := by subst hWd; exact (((Chg.refl _ _).alloc _).alloc _).alloc _
    have r0 : KAt V w0.heap.size k.b k.h k.l k.g k.n := by
      subst hWd
      constructor <;> (rw [cell_old _ _ (by simp; omega), cell_old _ _ (by simp), cell_new]; rfl)
    have r1 : At V (w0.heap.size + 1) (.func (.func F) #[] CAP) := by
      subst hWd; unfold At
      rw [cell_old _ _ (by simp), show w0.heap.size + 1 = (w0.alloc (.cells #[.int .i64 (k.b : Int), .int .i64 (k.h : Int), .int .i64 (k.l : Int), .int .i64 (k.g : Int), .bool k.n] 27)).heap.size by simp, cell_new]
      rfl
    have r2 : At V (w0.heap.size + 2) (.func (.func 88) #[] #[]) := by
      subst hWd; unfold At
      rw [show w0.heap.size + 2 = ((w0.alloc (.cells #[.int .i64 (k.b : Int), .int .i64 (k.h : Int), .int .i64 (k.l : Int), .int .i64 (k.g : Int), .bool k.n] 27)).alloc (.cells #[.func (.func F) #[] CAP] 104)).heap.size by simp, cell_new]
      rfl
    refine pairs_any k.b hk.1 _ _ S (fun done => J (done.flatMap (row2 k))) Z V call89 ?_ (by simpa using hW.stab _ _ _ hJ hcW)
    rintro done p w1 ⟨rest, hr⟩ hc1 hJ1
    have hr13 := pair_le hr
    have hkb := hk.1
    have hcw1 : Chg S w0 w1 := hcW.toAny.trans hc1
    refine (loads89 hW hk p (by omega) w0.heap.size (w0.heap.size + 1) (w0.heap.size + 2) _ w1 hcw1 (Nat.le_refl _) (by omega) (by omega)
      (r0.keep hc1 (hW.new (Nat.le_refl _))) (r1.keep hc1 (hW.new (by omega))) (r2.keep hc1 (hW.new (by omega))) hJ1).mono ?_
    intro e w' h
    refine h.mono (Chg.refl _ _) (fun w h => ?_)
    simpa using h
  have HW2 := hide w2
  have HW := hide hW
  clear w2 hJ hW
  go_enter Try.func80, Try.ntmps80
  go_wp2_with fail
  refine (HW2.out _ rfl).mono ?_
  rintro e w1 ⟨hchg, ⟨rfl, hj⟩ | ⟨rfl, hz⟩⟩
  · go_wp2
    go_ret
    exact ⟨(Chg.toAny ((((Chg.refl _ _).alloc _).alloc _).alloc _)).trans hchg, .inl ⟨rfl, hj⟩⟩
  · go_wp2
    go_ret
    exact ⟨(Chg.toAny ((((Chg.refl _ _).alloc _).alloc _).alloc _)).trans hchg, .inr ⟨rfl, hz⟩⟩
end
end Go.Proofs.Ytohdjlgghkcaoaa
