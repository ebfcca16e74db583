/- Walks: two entries compared; pairs searched; the closure of Fool's search. -/
import Derived.Test.YtaapamoglgpocaaPair2
namespace Go.Proofs.Ytaapamoglgpocaa
open Go.RowKit

/-- Whether two entries can be in a fooling set. -/
def fooledB (t : List (List Int)) (v : Int) (a b : Pr) : Bool := (T.ent t a.1.toNat b.2.toNat != v) || (T.ent t b.1.toNat a.2.toNat != v)
/-- A pair that is a place of the table. -/
def InT (t : List (List Int)) (a : Pr) : Prop := ∃ i j : Nat, a = ((i : Int), (j : Int)) ∧ i < t.length ∧ j < T.cols t
set_option maxRecDepth 100000 in
set_option maxHeartbeats 1000000 in
theorem fooled_any (vt : Value) (t : List (List Int)) (v : Int) (x y : Pr) (w : World) (hv : See2 w vt t) (ht : T.isTab t = true) (hx : InT t x) (hy : InT t y) :
    Calls Try.prog 72 #[vt, .int .i64 v, prV x, prV y] w (Ret (.bool (fooledB t v x y)) w) := by
  obtain ⟨i, j, rfl, hi, hj⟩ := hx
  obtain ⟨k, l, rfl, hk, hl⟩ := hy
  obtain ⟨a, cap, rfl, hE⟩ := ent_cells hv ht
  obtain ⟨b1, c1, h1⟩ := hE i hi
  obtain ⟨b2, c2, h2⟩ := hE k hk
  unfold prV fooledB
  simp only [Int.toNat_natCast]
  generalize t.length = n at *
  generalize T.cols t = m at *
  have bx := Box.new w #[.int .i64 (i : Int), .int .i64 (j : Int)] 60
  have by_ := Box.new (w.alloc (.cells #[.int .i64 (i : Int), .int .i64 (j : Int)] 60)) #[.int .i64 (k : Int), .int .i64 (l : Int)] 60
  have hc : Chg [] w ((w.alloc (.cells #[.int .i64 (i : Int), .int .i64 (j : Int)] 60)).alloc (.cells #[.int .i64 (k : Int), .int .i64 (l : Int)] 60)) := ((Chg.refl _ _).alloc _).alloc _
  have bx2 := bx.old (.cells #[.int .i64 (k : Int), .int .i64 (l : Int)] 60)
  rw [World.size_alloc] at by_
  have x0 := bx2.cell 0
  have x1 := bx2.cell 1
  have y0 := by_.cell 0
  have y1 := by_.cell 1
  have lx := bx2.lt
  have ly := by_.lt
  simp only [List.getElem?_toArray, List.getElem?_cons_zero, List.getElem?_cons_succ] at x0 x1 y0 y1
  have fi := (h1 _ hc).1
  have fil := (h1 _ hc).2 l hl
  have fk := (h2 _ hc).1
  have fkj := (h2 _ hc).2 j hj
  have i0 : (0 : Int) ≤ (i : Int) := by omega
  have i1 : (i : Int) < (n : Int) := by omega
  have j0 : (0 : Int) ≤ (j : Int) := by omega
  have j1 : (j : Int) < (m : Int) := by omega
  have k0 : (0 : Int) ≤ (k : Int) := by omega
  have k1 : (k : Int) < (n : Int) := by omega
  have l0 : (0 : Int) ≤ (l : Int) := by omega
  have l1 : (l : Int) < (m : Int) := by omega
  obtain ⟨p, hp0⟩ : ∃ p, p = T.ent t i l := ⟨_, rfl⟩
  obtain ⟨q, hq0⟩ : ∃ q, q = T.ent t k j := ⟨_, rfl⟩
  rw [← hp0, ← hq0]
  rw [← hp0] at fil
  rw [← hq0] at fkj
  have HC := hide hc
  obtain ⟨R, hR⟩ : ∃ R, R = ((p != v) || (q != v)) := ⟨_, rfl⟩
  rw [← hR]
  have HR := hide hR
  clear hv ht hE h1 h2 bx by_ bx2 hc hi hj hk hl hp0 hq0 hR
  go_enter Try.func72, Try.ntmps72
  go_wp2
  generalize hW : (w.alloc (.cells #[.int .i64 (i : Int), .int .i64 (j : Int)] 60)).alloc (.cells #[.int .i64 (k : Int), .int .i64 (l : Int)] 60) = W at *
  by_cases hp : p = v
  · have d1 : (p != v) = false := by simpa using hp
    clear hp hW
    by_cases hq : q = v
    · have d2 : (q != v) = false := by simpa using hq
      have E : Hid (R = false) := hide (by rw [HR.out, d1, d2]; rfl)
      clear hq
      go_quiet (fail)
      go_wp2
      go_ret
      exact ⟨by rw [E.out]; rfl, HC.out.drewN _⟩
    · have d2 : (q != v) = true := by simpa using hq
      have E : Hid (R = true) := hide (by rw [HR.out, d1, d2]; rfl)
      clear hq
      go_quiet (fail)
      go_wp2
      go_ret
      exact ⟨by rw [E.out]; rfl, HC.out.drewN _⟩
  · have d1 : (p != v) = true := by simpa using hp
    have E : Hid (R = true) := hide (by rw [HR.out, d1]; rfl)
    clear hp hW
    go_quiet (fail)
    go_wp2
    go_ret
    exact ⟨by rw [E.out]; rfl, HC.out.drewN _⟩

set_option maxRecDepth 100000 in
set_option maxHeartbeats 1000000 in
theorem Index_pairs (F : FuncId) (cp : Array Value) (P : Pr → Bool) (v : Value) (t : List Pr) (w : World) (hv : SeeP w v t) (hl : t.length ≤ 1000000)
    (hcall : ∀ args W, (callFunc F args).run Try.prog W = .ok (.enter F args) W) (hF : ∀ r ws, r ∈ t → Chg [] w ws → Calls Try.prog F (#[prV r] ++ cp) ws (Ret (.bool (P r)) ws)) :
    Calls Try.prog 105 #[v, .func (.func F) #[] cp] w fun e w' => ∃ r : Int, e = .returned (.int .i64 r) ∧ decide (0 ≤ r) = t.any P ∧ Chg [] w w' := by
  obtain ⟨ao, cap, rfl, _⟩ := hv.shape
  have HV := hide hv
  have HF := hide hF
  clear hv hF
  generalize hn : t.length = n at *
  have HN := hide hn
  clear hn
  go_enter Try.func105, Try.ntmps105
  go_wp2
  go_loopw [8] (fun i wr => ∃ j : Nat, j ≤ n ∧ i = .int .i64 (j : Int) ∧ Hid ((∀ q, q < j → P (t.getD q pr0) = false) ∧ Chg [] w wr)) (fun i _ => (n - (intOf i).toNat))
  case atStart => exact ⟨0, Nat.zero_le _, rfl, hide ⟨fun q h => by omega, Chg.refl _ _⟩⟩
  case round =>
    obtain ⟨j, hj, rfl, hI⟩ := hrel
    by_cases hlt : j < n
    · have d1 : decide ((j : Int) < (n : Int)) = true := by simpa using hlt
      have nx : t ≠ [] := fun h => by have := HN.out; rw [h] at this; simp at this; omega
      obtain ⟨a, cap', e, _, hc⟩ := HV.out.open nx
      obtain ⟨rfl, hn1, rfl⟩ : ao = some a ∧ n = t.length ∧ cap = cap' := by simpa using e
      obtain ⟨fx, fy⟩ := hc wr hI.out.2 j (by rw [HN.out]; exact hlt)
      have HMem : Hid (t.getD j pr0 ∈ t) := hide (by
        rw [List.getD_eq_getElem?_getD, List.getElem?_eq_getElem (by rw [HN.out]; exact hlt)]
        exact List.getElem_mem _)
      have HC := hide (HF.out _ wr HMem.out hI.out.2)
      obtain ⟨x, hxe⟩ : ∃ x, x = t.getD j pr0 := ⟨_, rfl⟩
      rw [← hxe] at fx fy HC HMem
      have HXE := hide hxe
      unfold prV at HC
      have j0 : (0 : Int) ≤ (j : Int) := by omega
      have j1 : (j : Int) < (n : Int) := by omega
      clear nx hc hxe e hn1
      go_wp2_with fail
      refine HC.out.mono ?_
      rintro e w1 ⟨rfl, hw1⟩
      cases hp : P x with
      | true =>
        have HP := hide hp
        clear hp
        go_wp2
        go_ret
        refine ⟨_, rfl, ?_, hI.out.2.trans hw1⟩
        have : t.any P = true := List.any_eq_true.2 ⟨x, HMem.out, HP.out⟩
        rw [this]
        simp
      | false =>
        have HP := hide hp
        clear hp
        go_wp2
        go_roundw
        case rel => exact ⟨j + 1, by omega, by go_num, hide ⟨fun q hq => by
          rcases (show q < j ∨ q = j by omega) with h | rfl
          · exact hI.out.1 q h
          · rw [← HXE.out]; exact HP.out, hI.out.2.trans hw1⟩⟩
        case measure => simp [intOf]; omega
    · have d1 : decide ((j : Int) < (n : Int)) = false := by simpa using hlt
      go_wp2
      go_ret
      refine ⟨_, rfl, ?_, hI.out.2⟩
      have : t.any P = false := by
        rw [Bool.eq_false_iff]
        intro h
        obtain ⟨x, hx, hp⟩ := List.any_eq_true.1 h
        obtain ⟨q, hq, he⟩ := List.getElem_of_mem hx
        have := hI.out.1 q (by rw [HN.out] at hq; omega)
        rw [List.getD_eq_getElem?_getD, List.getElem?_eq_getElem hq] at this
        simp only [Option.getD_some, he, hp] at this
        cases this
      rw [this]
      decide

set_option maxRecDepth 100000 in
set_option maxHeartbeats 1000000 in
theorem Contains_pairs (F : FuncId) (cp : Array Value) (P : Pr → Bool) (v : Value) (t : List Pr) (w : World) (hv : SeeP w v t) (hl : t.length ≤ 1000000)
    (hcall : ∀ args W, (callFunc F args).run Try.prog W = .ok (.enter F args) W) (hF : ∀ r ws, r ∈ t → Chg [] w ws → Calls Try.prog F (#[prV r] ++ cp) ws (Ret (.bool (P r)) ws)) :
    Calls Try.prog 70 #[v, .func (.func F) #[] cp] w (Ret (.bool (t.any P)) w) := by
  have HI := hide (Index_pairs F cp P v t w hv hl hcall hF)
  clear hF hv hcall
  go_enter Try.func70, Try.ntmps70
  go_wp2_with fail
  refine HI.out.mono ?_
  rintro e w1 ⟨r, rfl, hr, hc⟩
  have HR := hide hr
  clear hr
  go_wp2
  go_ret
  exact ⟨by rw [← HR.out]; rfl, hc⟩

end Go.Proofs.Ytaapamoglgpocaa
