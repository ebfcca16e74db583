/- Walks: a Load after which one weighing less is enough. -/
import Derived.Test.YtohdjlgghkcaoaaW10
namespace Go.Proofs.Ytohdjlgghkcaoaa
open Go.RowKit

theorem Box.at (w : World) (cs : Array Value) (T : TypeId) {n : Nat} (hn : n = w.heap.size) : Box (w.alloc (.cells cs T)) n cs T := by subst hn; exact Box.new _ _ _
theorem KAt.of_box {w : World} {A : Nat} {b h l g : Int} {n : Bool} {T : TypeId} (q : Box w A #[.int .i64 b, .int .i64 h, .int .i64 l, .int .i64 g, .bool n] T) : KAt w A b h l g n := ⟨q.cell 0, q.cell 1, q.cell 2, q.cell 3, q.cell 4⟩
theorem At.of_box {w : World} {A : Nat} {v : Value} {T : TypeId} (q : Box w A #[v] T) : At w A v := q.cell 0

theorem call81 (args : Array Value) (W : World) : (callFunc 81 args).run Try.prog W = .ok (.enter 81 args) W := by kernel_rfl

def vLx (x : W.L) : Value := .agg #[.int .i64 (x.b0 : Int), .int .i64 (x.b1 : Int), .int .i64 (x.h0 : Int), .int .i64 (x.h1 : Int), .int .i64 (x.l0 : Int), .int .i64 (x.l1 : Int), .int .i64 (x.g0 : Int), .int .i64 (x.g1 : Int)]
def vL0 : Value := .agg #[.int .i64 0, .int .i64 0, .int .i64 0, .int .i64 0, .int .i64 0, .int .i64 0, .int .i64 0, .int .i64 0]
def zero8 : Array Value := #[.int .i64 0, .int .i64 0, .int .i64 0, .int .i64 0, .int .i64 0, .int .i64 0, .int .i64 0, .int .i64 0]

def Loaded (m : Nat) (k : W.K) (bm : Nat) (w : World) (e : Ending) (w' : World) : Prop :=
  Chg [bm] w w' ∧ MemoIs w' bm ∧
  ((e = .returned (.tuple #[vL0, .bool false]) ∧ ∀ x, W.fits k x = true → W.good (W.wins m) k x = false) ∨
   ∃ x, e = .returned (.tuple #[vLx x, .bool true]) ∧ W.fits k x = true ∧ W.good (W.wins m) k x = true)

/-- As long as no Load has been found. -/
def Looks (m : Nat) (k : W.K) (bm : Nat) (w0 : World) (D : List W.L) (w1 : World) : Prop :=
  Chg [bm] w0 w1 ∧ MemoIs w1 bm ∧ ∀ x ∈ D, W.fits k x = true → W.good (W.wins m) k x = false
def Found (m : Nat) (k : W.K) (bm AX AF : Nat) (TX TF : TypeId) (w0 w1 : World) : Prop :=
  Chg [bm, AX, AF] w0 w1 ∧ MemoIs w1 bm ∧ ∃ x, W.fits k x = true ∧ W.good (W.wins m) k x = true ∧ Box w1 AX (arr8 x x.g0 x.g1) TX ∧ Box w1 AF #[.bool true] TF

theorem search (m : Nat) (hm : m ≤ 6) (hW : WinsOk m) (k : W.K) (hk : okK k) (AK AB AN AX AF bb bm : Nat) (TX TF : TypeId) (w0 : World)
    (qk : KAt w0 AK k.b k.h k.l k.g k.n) (qb : At w0 AB (.pointer (some ⟨bb, 0, none⟩))) (qn : At w0 AN (.int .i64 ((m : Int) + 1))) (hX : Box w0 AX zero8 TX) (hF : Box w0 AF #[.bool false] TF)
    (hbb : At w0 bb (.map (some bm))) (hM : MemoIs w0 bm) (n1 : AK ≠ bm) (n2 : AB ≠ bm) (n3 : AN ≠ bm) (n4 : AX ≠ bm) (n5 : AF ≠ bm) (n6 : bb ≠ bm) (n7 : AX ≠ AF) :
    Calls Try.prog 80 #[.agg #[.int .i64 (k.b : Int), .int .i64 (k.h : Int), .int .i64 (k.l : Int), .int .i64 (k.g : Int), .bool k.n], .func (.func 81) #[] #[.pointer (some ⟨AK, 0, none⟩), .pointer (some ⟨AB, 0, none⟩), .pointer (some ⟨AN, 0, none⟩), .pointer (some ⟨AX, 0, none⟩), .pointer (some ⟨AF, 0, none⟩)]] w0
      (Goes [bm, AX, AF] w0 (Looks m k bm w0 (W.loads k)) (Found m k bm AX AF TX TF w0)) := by
  refine loads_any (J := Looks m k bm w0) (Z := Found m k bm AX AF TX TF w0) ⟨call81, ?_, ?_, ?_, ?_⟩ hk.small ⟨Chg.refl _ _, hM, by simp⟩
  · intro s hs
    simp only [List.mem_cons, List.not_mem_nil, or_false] at hs
    rcases hs with rfl | rfl | rfl
    · exact hM.lt
    · exact hX.lt
    · exact hF.lt
  · rintro D w1 w2 ⟨h1, h2, h3⟩ hc
    exact ⟨h1.trans hc.toAny, h2.keep hc (by simp), h3⟩
  · rintro D x w1 hno ⟨h1, h2, h3⟩
    refine ⟨h1, h2, fun y hy hf => ?_⟩
    rcases List.mem_append.1 hy with hy | hy
    · exact h3 y hy hf
    · obtain rfl := List.mem_singleton.1 hy
      rw [hno] at hf; cases hf
  · rintro D x g0 g1 w1 hf e0 e1 _ ⟨h1, h2, h3⟩
    refine (more_any m hm hW k x g0 g1 hk hf e0 e1 AK AB AN AX AF bb bm _ _ _ _ _ _ _ _ _ TX TF w1 (qk.keep h1 (by simpa using n1)) (qb.keep h1 (by simpa using n2)) (qn.keep h1 (by simpa using n3))
      (hX.keep h1 (by simpa using n4)) (hF.keep h1 (by simpa using n5)) (hbb.keep h1 (by simpa using n6)) h2 n1 n2 n3 n4 n5 n6 n7).mono ?_
    rintro e w2 (⟨rfl, hc, hm2, hg⟩ | ⟨rfl, hc, hm2, hg, hl, ha⟩)
    · refine ⟨hc.mono (by simp), .inl ⟨rfl, h1.trans hc, hm2, fun y hy hfy => ?_⟩⟩
      rcases List.mem_append.1 hy with hy | hy
      · exact h3 y hy hfy
      · obtain rfl := List.mem_singleton.1 hy; exact hg
    · refine ⟨hc, .inr ⟨rfl, (h1.mono (by simp)).trans hc, hm2, x, hf, hg, ?_, ha⟩⟩
      rw [← e0, ← e1]; exact hl

set_option maxRecDepth 100000 in
set_option maxHeartbeats 1000000 in
theorem load_any (m : Nat) (hm : m ≤ 6) (hW : WinsOk m) (k : W.K) (hk : okK k) (bb bm : Nat) (w : World) (hbb : At w bb (.map (some bm))) (hM : MemoIs w bm) (n6 : bb ≠ bm) :
    Calls Try.prog 58 #[.pointer (some ⟨bb, 0, none⟩), .agg #[.int .i64 (k.b : Int), .int .i64 (k.h : Int), .int .i64 (k.l : Int), .int .i64 (k.g : Int), .bool k.n], .int .i64 ((m : Int) + 1)] w (Loaded m k bm w) := by
  have hS := fun AK AB AN AX AF TX TF w0 => search m hm hW k hk AK AB AN AX AF bb bm TX TF w0
  have HS := hide hS
  have HB := hide hbb
  have HM := hide hM
  have lM := hM.lt
  have lb := hbb.lt
  clear hS hW hbb hM
  go_enter Try.func58, Try.ntmps58
  go_wp2_with fail
  have c5 : Chg [] w (((((w.alloc (.cells #[.pointer (some ⟨bb, 0, none⟩)] 76)).alloc (.cells #[.int .i64 (k.b : Int), .int .i64 (k.h : Int), .int .i64 (k.l : Int), .int .i64 (k.g : Int), .bool k.n] 27)).alloc (.cells #[.int .i64 ((m : Int) + 1)] 3)).alloc (.cells zero8 37)).alloc (.cells #[.bool false] 4)) := by (repeat' (first | with_reducible exact Chg.refl _ _ | with_reducible assumption | with_reducible apply Chg.drewN | with_reducible apply Chg.drew | with_reducible apply Chg.alloc | (with_reducible refine Chg.setCell ?_ (Or.inr ?_) _) | (with_reducible refine Chg.trans ?_ (by assumption)) | (simp; done) | (simp; omega)))
  have b0 := (((Box.new w #[.pointer (some ⟨bb, 0, none⟩)] 76).old (.cells #[.int .i64 (k.b : Int), .int .i64 (k.h : Int), .int .i64 (k.l : Int), .int .i64 (k.g : Int), .bool k.n] 27)).old (.cells #[.int .i64 ((m : Int) + 1)] 3)).old (.cells zero8 37) |>.old (.cells #[.bool false] 4)
  have b1 := ((Box.at (w.alloc (.cells #[.pointer (some ⟨bb, 0, none⟩)] 76)) #[.int .i64 (k.b : Int), .int .i64 (k.h : Int), .int .i64 (k.l : Int), .int .i64 (k.g : Int), .bool k.n] 27 (n := w.heap.size + 1) (by simp)).old (.cells #[.int .i64 ((m : Int) + 1)] 3)).old (.cells zero8 37) |>.old (.cells #[.bool false] 4)
  have b2 := (Box.at ((w.alloc (.cells #[.pointer (some ⟨bb, 0, none⟩)] 76)).alloc (.cells #[.int .i64 (k.b : Int), .int .i64 (k.h : Int), .int .i64 (k.l : Int), .int .i64 (k.g : Int), .bool k.n] 27)) #[.int .i64 ((m : Int) + 1)] 3 (n := w.heap.size + 2) (by simp)).old (.cells zero8 37) |>.old (.cells #[.bool false] 4)
  have b3 := (Box.at (((w.alloc (.cells #[.pointer (some ⟨bb, 0, none⟩)] 76)).alloc (.cells #[.int .i64 (k.b : Int), .int .i64 (k.h : Int), .int .i64 (k.l : Int), .int .i64 (k.g : Int), .bool k.n] 27)).alloc (.cells #[.int .i64 ((m : Int) + 1)] 3)) zero8 37 (n := w.heap.size + 3) (by simp)).old (.cells #[.bool false] 4)
  have b4 := Box.at ((((w.alloc (.cells #[.pointer (some ⟨bb, 0, none⟩)] 76)).alloc (.cells #[.int .i64 (k.b : Int), .int .i64 (k.h : Int), .int .i64 (k.l : Int), .int .i64 (k.g : Int), .bool k.n] 27)).alloc (.cells #[.int .i64 ((m : Int) + 1)] 3)).alloc (.cells zero8 37)) #[.bool false] 4 (n := w.heap.size + 4) (by simp)
  unfold zero8 at c5 b0 b1 b2 b3 b4
  refine (HS.out (w.heap.size + 1) w.heap.size (w.heap.size + 2) (w.heap.size + 3) (w.heap.size + 4) _ _ _ (KAt.of_box b1) (At.of_box b0) (At.of_box b2) b3 b4 (HB.out.keep c5 (by simp)) (HM.out.keep c5 (by simp)) (by omega) (by omega) (by omega) (by omega) (by omega) n6 (by omega)).mono ?_
  have C5 := hide c5
  have B3 := hide b3
  have B4 := hide b4
  have s3 := b3.lt
  have s4 := b4.lt
  clear b0 b1 b2 b3 b4 c5
  generalize (((((w.alloc (.cells #[.pointer (some ⟨bb, 0, none⟩)] 76)).alloc (.cells #[.int .i64 (k.b : Int), .int .i64 (k.h : Int), .int .i64 (k.l : Int), .int .i64 (k.g : Int), .bool k.n] 27)).alloc (.cells #[.int .i64 ((m : Int) + 1)] 3)).alloc (.cells #[.int .i64 0, .int .i64 0, .int .i64 0, .int .i64 0, .int .i64 0, .int .i64 0, .int .i64 0, .int .i64 0] 37)).alloc (.cells #[.bool false] 4)) = W5 at C5 B3 B4 s3 s4 ⊢
  rintro e w1 ⟨hchg, ⟨rfl, h1, h2, h3⟩ | ⟨rfl, h1, h2, x, hf, hg, hl, ha⟩⟩
  · have b3 := B3.out.keep h1 (by simp; omega)
    have b4 := B4.out.keep h1 (by simp; omega)
    have f3 := fun o => b3.cell o
    have f4 := b4.cell 0
    have g3 := fun o => b3.free o
    have g4 := b4.free 0
    go_wp2
    go_region
    all_goals
      go_wp2
      refine bodyPost_ret (v := .tuple #[vL0, .bool false]) ?_ rfl ⟨?_, ?_, .inl ⟨rfl, fun x hf => h3 x ?_ hf⟩⟩
      · simp [results, Try.results58, go_sem, f3, f4, vL0]
      · repeat (first | (with_reducible refine Chg.setCell ?_ (Or.inr (by first | (simp; done) | (simp; omega))) _) | with_reducible apply Chg.drew)
        exact C5.out.toAny.trans h1
      · refine h2.keep (S := [w.heap.size + 3, w.heap.size + 4]) ?_ (by simp; omega)
        repeat (first | (with_reducible refine Chg.setCell ?_ (Or.inl (by simp)) _) | with_reducible apply Chg.drew)
        exact Chg.refl _ _
      · obtain ⟨q1, q2, q3, _⟩ := W.fits_iff.1 hf
        exact W.mem_loads.2 ⟨q1, q2, q3⟩
  · have f3 := fun o => hl.cell o
    have f4 := ha.cell 0
    have g3 := fun o => hl.free o
    have g4 := ha.free 0
    unfold arr8 at f3
    go_wp2
    go_region
    all_goals
      go_wp2
      refine bodyPost_ret (v := .tuple #[vLx x, .bool true]) ?_ rfl ⟨?_, ?_, .inr ⟨x, rfl, hf, hg⟩⟩
      · simp [results, Try.results58, go_sem, f3, f4, vLx]
      · repeat (first | (with_reducible refine Chg.setCell ?_ (Or.inr (by first | (simp; done) | (simp; omega))) _) | with_reducible apply Chg.drew)
        exact C5.out.toAny.trans' h1 (by simp)
      · refine h2.keep (S := [w.heap.size + 3, w.heap.size + 4]) ?_ (by simp; omega)
        repeat (first | (with_reducible refine Chg.setCell ?_ (Or.inl (by simp)) _) | with_reducible apply Chg.drew)
        exact Chg.refl _ _
end Go.Proofs.Ytohdjlgghkcaoaa
