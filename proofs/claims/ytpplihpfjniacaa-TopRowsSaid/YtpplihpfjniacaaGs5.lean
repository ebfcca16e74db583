/- Walks: guesses: the search for a question. -/
import Derived.Test.YtpplihpfjniacaaGs4
import Derived.Laws.EntriesVeiled
namespace Go.Proofs.Ytpplihpfjniacaa
open Go.RowKit Go.Maps

theorem wins_all (Bi bk : Nat) (q : Nat) (hq : q < 40) (hA : q ≠ 0 → AskG Bi bk q) : WinsC Bi bk q := by
  intro n v w fk hn hv hI
  by_cases h1 : n ≤ 1 ∨ q = 0 ∨ (q < 40 ∧ 2 ^ q < n)
  · exact wins_low Bi bk q n v w fk hn hv hI h1
  · have hq0 : q ≠ 0 := fun h => h1 (.inr (.inl h))
    exact wins_high Bi bk q n v w fk (by omega) hn hq0 hq (Nat.le_of_not_lt fun h => h1 (.inr (.inr ⟨hq, h⟩))) hv hI (hA hq0)

theorem GSt.pushed {w1 wr w3 : World} {Bi bk base Qb S N V G q : Nat} {v qv v1 : Value} {x : Int} {o : Obj} (h : GSt w1 Bi bk base Qb S N V G v q qv [] wr)
    (nn : bk ≠ Qb) (nQ : Qb ≠ S ∧ Qb ≠ N ∧ Qb ≠ V ∧ Qb ≠ G) (hlow : w1.heap.size ≤ Qb) (hb : Qb < base ∧ S < base ∧ N < base ∧ V < base ∧ G < base) (hBi : Bi < w1.heap.size ∧ bk < w1.heap.size)
    (hown1 : w3.ownsRow base 3 1 v1 1 [.int .i64 x]) (hgrow1 : (wr.alloc o).grownBy w3 qv.ownBlock) : GSt w1 Bi bk base Qb S N V G v q v1 [x] (w3.setCell ⟨Qb, 0, none⟩ v1) := by
  obtain ⟨b1, b2, b3, b4, b5, hown, hHe, hch, hbs, hbb⟩ := h
  have hg : ∀ g, qv.ownBlock = some g → base ≤ g := fun g hg => (hown.lt g hg).1
  have c3 : Chg (Qb :: qv.ownBlock.toList) wr w3 := ((Chg.refl _ wr).alloc o).grown hgrow1 (fun k hk => .inl (List.mem_cons_of_mem _ (Option.mem_toList.2 hk)))
  have c4 : Chg (Qb :: qv.ownBlock.toList) wr (w3.setCell ⟨Qb, 0, none⟩ v1) := c3.setCell (.inl (List.mem_cons_self ..)) _
  have hmem : ∀ {B : Nat}, B ≠ Qb → B < base → B ∉ Qb :: qv.ownBlock.toList := fun h1 h2 hm => by
    rcases List.mem_cons.1 hm with h | h
    · exact h1 h
    · have := hg _ (Option.mem_toList.1 h)
      omega
  refine ⟨(box_grown (b1.old _) (hown.alloc _) hgrow1 hb.1).set1 _, b2.keep c4 (hmem nQ.1.symm hb.2.1), b3.keep c4 (hmem nQ.2.1.symm hb.2.2.1), b4.keep c4 (hmem nQ.2.2.1.symm hb.2.2.2.1), b5.keep c4 (hmem nQ.2.2.2.symm hb.2.2.2.2), row_set hown1 hb.1 _, ?_, ?_, ?_, hbb⟩
  · obtain ⟨fk, i1, i2, i3, i4⟩ := hHe
    exact ⟨fk, i1.keep c4 (hmem (by omega) (by omega)), i2.keep c4 (hmem nn hbb), i3, i4⟩
  · exact hch.trans' c4 (fun y hy => .inr (by
      rcases List.mem_cons.1 hy with h | h
      · omega
      · have := hg _ (Option.mem_toList.1 h)
        omega))
  · exact Nat.le_trans hbs c4.size
theorem GSt.popped {w1 wr : World} {Bi bk base Qb S N V G q : Nat} {v : Value} {x : Int} {xo : Option Addr} {xc : Nat} (h : GSt w1 Bi bk base Qb S N V G v q (.slice xo 1 xc) [x] wr)
    (nn : bk ≠ Qb) (nQ : Qb ≠ S ∧ Qb ≠ N ∧ Qb ≠ V ∧ Qb ≠ G) (hlow : w1.heap.size ≤ Qb) (hb : Qb < base ∧ S < base ∧ N < base ∧ V < base ∧ G < base) (hBi : Bi < w1.heap.size ∧ bk < w1.heap.size) :
    GSt w1 Bi bk base Qb S N V G v q (.slice xo 0 xc) [] (wr.setCell ⟨Qb, 0, none⟩ (.slice xo 0 xc)) := by
  obtain ⟨b1, b2, b3, b4, b5, hown, hHe, hch, hbs, hbb⟩ := h
  have c4 : Chg [Qb] wr (wr.setCell ⟨Qb, 0, none⟩ (.slice xo 0 xc)) := Chg.set wr ⟨Qb, 0, none⟩ _
  have hmem : ∀ {B : Nat}, B ≠ Qb → B ∉ [Qb] := fun h1 hm => h1 (List.mem_singleton.1 hm)
  have hs : wr.ownsRow base 3 1 (.slice xo 0 xc) 0 [] := row_short (n := 0) (xs := []) (x := .int .i64 x) hown rfl
  refine ⟨b1.set1 _, b2.keep c4 (hmem nQ.1.symm), b3.keep c4 (hmem nQ.2.1.symm), b4.keep c4 (hmem nQ.2.2.1.symm), b5.keep c4 (hmem nQ.2.2.2.symm), row_set hs hb.1 _, ?_, ?_, ?_, hbb⟩
  · obtain ⟨fk, i1, i2, i3, i4⟩ := hHe
    exact ⟨fk, i1.keep c4 (hmem (by omega)), i2.keep c4 (hmem nn), i3, i4⟩
  · exact hch.trans' c4 (fun y hy => .inr (by rw [List.mem_singleton.1 hy]; exact hlow))
  · exact Nat.le_trans hbs c4.size

set_option maxRecDepth 100000 in
set_option maxHeartbeats 4000000 in
theorem grow_start (w1 : World) (Bi bk base Qb S N V G : Nat) (v : Value) (n q : Nat) (w : World) (hn : n ≤ 40) (hq : q < 39) (hnq : n ≤ 2 ^ (q + 1)) (hv : See w1 v [(n : Int)]) (h1 : Held Bi bk w1) (hW : WinsC Bi bk q)
    (nn : bk ≠ Qb ∧ bk ≠ S ∧ bk ≠ N ∧ bk ≠ V ∧ bk ≠ G) (nQ : Qb ≠ S ∧ Qb ≠ N ∧ Qb ≠ V ∧ Qb ≠ G) (hlow : w1.heap.size ≤ Qb) (hb : Qb < base ∧ S < base ∧ N < base ∧ V < base ∧ G < base) (hBi : Bi < w1.heap.size ∧ bk < w1.heap.size)
    (h : GSt w1 Bi bk base Qb S N V G v (q + 1) (.slice none 0 0) [] w) :
    Calls Try.prog 57 #[.pointer (some ⟨Qb, 0, none⟩), .pointer (some ⟨S, 0, none⟩), .pointer (some ⟨N, 0, none⟩), .pointer (some ⟨V, 0, none⟩), .pointer (some ⟨G, 0, none⟩)] w
      fun e w' => e = .returned (.bool true) ∧ ∃ qv xs, GSt w1 Bi bk base Qb S N V G v (q + 1) qv xs w' := by
  obtain ⟨i0, hi, hz0, hz1, hz2⟩ := info_parts infoInt
  have HG := hide fun x qv ws (hx : x ≤ n) (h : GSt w1 Bi bk base Qb S N V G v (q + 1) qv [(x : Int)] ws) => grow_end w1 Bi bk base Qb S N V G v n x q qv ws hn hx hq hv h1 hW nn h
  obtain ⟨fk1, hI1⟩ := h1
  have hkm := hI1.2.1
  obtain ⟨va, vc, rfl, hcell⟩ := hv.open (by simp)
  have hf1 := hcell w1 (Chg.refl _ _) 0 (by simp)
  have hva := World.block_lt_of_cell? w1 _ hf1
  have hvb : va.block ≠ bk := by have := KnownP.apart hkm hf1; rwa [add_block] at this
  rw [add_block] at hva
  simp only [add_nought, List.getD_cons_zero, List.length_cons, List.length_nil, Nat.zero_add] at hf1 HG h ⊢
  -- the number asked of, in every world of the search
  have HVa := hide fun (X : World) (S' : List Nat) (hX : Chg S' w1 X) (hS : va.block ∉ S') => (by rw [hX.cellA hva hS]; exact hf1 : X.cell? va = some (.int .i64 (n : Int)))
  obtain ⟨x0, hx0⟩ : ∃ x0, x0 ≤ n ∧ x0 ≤ 2 ^ q ∧ n - x0 ≤ 2 ^ q := ⟨n - 2 ^ q, by omega, by rw [Nat.pow_succ] at hnq; omega, by omega⟩
  have HX0 := hide hx0
  have HH := hide h
  have NN := hide nn
  have NQ := hide nQ
  have HB := hide hb
  have HL := hide hlow
  have HBi := hide hBi
  have c1 := h.1.cell 0
  have c2 := h.2.1.cell 0
  have l1 := h.1.lt
  have l2 := h.2.1.lt
  have fv := HVa.out w [bk] h.2.2.2.2.2.2.2.1 (by simpa using hvb)
  have HVb := hide hvb
  simp only [List.getElem?_toArray, List.getElem?_cons_zero] at c1 c2
  have ew : IntKind.i64.wrap ((n : Int) + 1) = ((n + 1 : Nat) : Int) := by rw [IntKind.wrap_i64]; omega
  clear hv hI1 hkm hcell hf1 hva hvb hx0 h hnq hW hq nn nQ hb hlow hBi
  go_enter Try.func57, Try.ntmps57
  go_wp2
  try rw [ew]
  clear c1 c2 fv l1 l2 ew
  go_loopw [59] (fun xv wr => ∃ (x : Nat) (qv : Value), x ≤ n + 1 ∧ xv = .int .i64 (x : Int) ∧ Hid ((∀ x', x' < x → ¬ (x' ≤ 2 ^ q ∧ n - x' ≤ 2 ^ q)) ∧ GSt w1 Bi bk base Qb S N V G (.slice (some va) 1 vc) (q + 1) qv [] wr)) (fun xv _ => n + 1 - (intOf xv).toNat)
  case atStart => exact ⟨0, _, Nat.zero_le _, rfl, hide ⟨fun x' h => by omega, HH.out⟩⟩
  case round =>
    obtain ⟨x, qv, hx, rfl, hJ⟩ := hrel
    have hlt : x < n + 1 := by
      rcases (show x < n + 1 ∨ x = n + 1 by omega) with h | rfl
      · exact h
      · exact absurd HX0.out.2 (hJ.out.1 x0 (by have := HX0.out.1; omega))
    have d1 : decide ((x : Int) < ((n + 1 : Nat) : Int)) = true := by simp; omega
    have d1' : decide ((x : Int) < (n : Int) + 1) = true := by simp; omega
    have d1n : decide (x < n + 1) = true := by simp; omega
    obtain ⟨b1, b2, b3, b4, b5, hown, hHe, hch, hbs, hbb⟩ := hJ.out.2
    obtain ⟨qa, qc, rfl, _⟩ := row_shape hown
    have c1 := b1.cell 0
    have l1 := b1.lt
    have f1 := b1.free 0
    simp only [List.getElem?_toArray, List.getElem?_cons_zero, List.length_nil] at c1
    have HNo := hide hJ.out.1
    have HS := hide hJ.out.2
    have nQG : G ≠ Qb := fun e => NQ.out.2.2.2 e.symm
    have nQG2 : ¬ Qb = G := NQ.out.2.2.2
    clear b2 b3 b4 hHe hch hbb hJ
    go_wp2_with (at_builtin; refine wpList_append_own _ rfl _ _ 43 rfl base 3 i0 (.int .i64 0) 1 8 Try.underlying43 hi hz0 hz1 hz2 rfl (by decide) _ _ _ rfl (hown.alloc _) ⟨wr.heap.size, 0, none⟩ 1 1 [.int .i64 (x : Int)] rfl rfl (by intro j u hj; match j, hj with | 0, hj => simp at hj; subst hj; simp [Addr.add]) (by intro u hu; simp at hu; subst hu; rfl) (by unfold maxLen; simp) (by simp) (by simp; omega) ?_; intro v1 w3 hown1 hgrow1 _; obtain ⟨xo, xc, rfl, _⟩ := row_shape hown1; have hQ3 := box_grown (b1.old _) (hown.alloc _) hgrow1 HB.out.1; have hG3 := box_grown (b5.old _) (hown.alloc _) hgrow1 HB.out.2.2.2.2; have p1 := hQ3.cell 0; have pl := hQ3.lt; have pf := hQ3.free 0; have p5 := hG3.cell 0; have pg := hG3.lt; simp only [List.getElem?_toArray, List.getElem?_cons_zero] at p1 p5)
    have hpu := HS.out.pushed NN.out.1 NQ.out HL.out HB.out HBi.out hown1 hgrow1
    clear hown1 hgrow1 hQ3 hG3 p1 pl pf p5 pg b1 b5 hown hbs c1 l1 f1
    generalize w3.setCell ⟨Qb, 0, none⟩ (.slice xo 1 xc) = w4 at *
    refine (HG.out x _ w4 (by omega) hpu).mono ?_
    rintro e w5 ⟨rfl, hst, _⟩
    have HS5 := hide hst
    clear hpu
    by_cases hok : x ≤ 2 ^ q ∧ n - x ≤ 2 ^ q
    · rw [decide_eq_true hok]
      clear hok
      go_wp2
      go_ret
      exact ⟨rfl, _, _, HS5.out⟩
    · rw [decide_eq_false hok]
      have HNk := hide hok
      have c1 := hst.1.cell 0
      have l1 := hst.1.lt
      have f1 := hst.1.free 0
      simp only [List.getElem?_toArray, List.getElem?_cons_zero] at c1
      obtain ⟨_, xcap⟩ : True ∧ 1 ≤ xc := ⟨trivial, by
        obtain ⟨ao', c', e, hle⟩ := row_shape hst.2.2.2.2.2.1
        simp at e
        omega⟩
      have xc0 : ¬ xc = 0 := by omega
      have xc1 : (0 : Int) ≤ (xc : Int) := by omega
      have hadd : Option.map (fun x => Addr.add x 0) xo = xo := by cases xo <;> simp [add_nought]
      have HPo := hide (hst.popped NN.out.1 NQ.out HL.out HB.out HBi.out)
      clear hok hst
      go_wp2
      go_roundw
      case rel => exact ⟨x + 1, _, by omega, by go_num, hide ⟨fun x' hx' => by
        rcases (show x' < x ∨ x' = x by omega) with h | rfl
        · exact HNo.out x' h
        · exact HNk.out, HPo.out⟩⟩
      case measure => simp [intOf]; omega

set_option maxRecDepth 100000 in
set_option maxHeartbeats 4000000 in
theorem ask_good (Bi bk q : Nat) (hq : q < 39) (hW : WinsC Bi bk q) : AskG Bi bk (q + 1) := by
  intro n v w fk hn2 hn hnq hv hI
  have hbi := hI.1.lt
  have hbk := hI.2.1.lt
  have hne := hI.2.2.1
  obtain ⟨va, vc, rfl, _⟩ := hv.open (by simp)
  simp only [List.length_cons, List.length_nil, Nat.zero_add] at hv ⊢
  have HV := hide hv
  have HI := hide hI
  have HWn := hide hW
  clear hv hI hW
  go_enter Try.func37, Try.ntmps37
  go_wp2_with (with_reducible refine halt_at 11 ?_)
  have b0 := (((((Box.at w #[.pointer (some ⟨Bi, 0, none⟩)] 44 (n := w.heap.size) (by simp)).old (.cells #[.slice (some va) 1 vc] 43)).old (.cells #[.int .i64 ((q : Int) + 1)] 3)).old (.cells #[.slice none 0 0] 43)).old (.cells #[Value.nilFunc] 32))
  have b1 := ((((Box.at (w.alloc (.cells #[.pointer (some ⟨Bi, 0, none⟩)] 44)) #[.slice (some va) 1 vc] 43 (n := w.heap.size + 1) (by simp)).old (.cells #[.int .i64 ((q : Int) + 1)] 3)).old (.cells #[.slice none 0 0] 43)).old (.cells #[Value.nilFunc] 32))
  have b2 := (((Box.at ((w.alloc (.cells #[.pointer (some ⟨Bi, 0, none⟩)] 44)).alloc (.cells #[.slice (some va) 1 vc] 43)) #[.int .i64 ((q : Int) + 1)] 3 (n := w.heap.size + 1 + 1) (by simp)).old (.cells #[.slice none 0 0] 43)).old (.cells #[Value.nilFunc] 32))
  have b3 := ((Box.at (((w.alloc (.cells #[.pointer (some ⟨Bi, 0, none⟩)] 44)).alloc (.cells #[.slice (some va) 1 vc] 43)).alloc (.cells #[.int .i64 ((q : Int) + 1)] 3)) #[.slice none 0 0] 43 (n := w.heap.size + 1 + 1 + 1) (by simp)).old (.cells #[Value.nilFunc] 32))
  have b4 := (Box.at ((((w.alloc (.cells #[.pointer (some ⟨Bi, 0, none⟩)] 44)).alloc (.cells #[.slice (some va) 1 vc] 43)).alloc (.cells #[.int .i64 ((q : Int) + 1)] 3)).alloc (.cells #[.slice none 0 0] 43)) #[Value.nilFunc] 32 (n := w.heap.size + 1 + 1 + 1 + 1) (by simp))
  have cW := ((((((Chg.refl [] w).alloc (.cells #[.pointer (some ⟨Bi, 0, none⟩)] 44)).alloc (.cells #[.slice (some va) 1 vc] 43)).alloc (.cells #[.int .i64 ((q : Int) + 1)] 3)).alloc (.cells #[.slice none 0 0] 43)).alloc (.cells #[Value.nilFunc] 32))
  have szW : (((((w.alloc (.cells #[.pointer (some ⟨Bi, 0, none⟩)] 44)).alloc (.cells #[.slice (some va) 1 vc] 43)).alloc (.cells #[.int .i64 ((q : Int) + 1)] 3)).alloc (.cells #[.slice none 0 0] 43)).alloc (.cells #[Value.nilFunc] 32)).heap.size = w.heap.size + 1 + 1 + 1 + 1 + 1 := by simp
  generalize (((((w.alloc (.cells #[.pointer (some ⟨Bi, 0, none⟩)] 44)).alloc (.cells #[.slice (some va) 1 vc] 43)).alloc (.cells #[.int .i64 ((q : Int) + 1)] 3)).alloc (.cells #[.slice none 0 0] 43)).alloc (.cells #[Value.nilFunc] 32)) = W5 at *
  obtain ⟨z, hz⟩ : ∃ z, z = w.heap.size := ⟨_, rfl⟩
  rw [← hz] at b0 b1 b2 b3 b4 szW ⊢
  have HZ := hide hz
  clear hz
  have b4c := b4.cell 0
  have b4l := b4.lt
  have b4f := b4.free 0
  simp only [List.getElem?_toArray, List.getElem?_cons_zero] at b4c
  refine Halt.go ?_
  obtain ⟨fv, hfv⟩ : ∃ fv, fv = Value.func (.func 57) #[] #[.pointer (some ⟨z + 1 + 1 + 1, 0, none⟩), .pointer (some ⟨z + 1, 0, none⟩), .pointer (some ⟨z + 1 + 1, 0, none⟩), .pointer (some ⟨z, 0, none⟩), .pointer (some ⟨z + 1 + 1 + 1 + 1, 0, none⟩)] := ⟨_, rfl⟩
  have h4 : Chg [] w (W5.setCell ⟨z + 1 + 1 + 1 + 1, 0, none⟩ fv) := cW.setCell (.inr (by have := HZ.out; show w.heap.size ≤ z + 1 + 1 + 1 + 1; omega)) _
  have hSt : GSt w Bi bk (z + 1 + 1 + 1 + 1 + 1) (z + 1 + 1 + 1) (z + 1) (z + 1 + 1) z (z + 1 + 1 + 1 + 1) (.slice (some va) 1 vc) (q + 1) (.slice none 0 0) [] (W5.setCell ⟨z + 1 + 1 + 1 + 1, 0, none⟩ fv) := by
    have e : ((q : Int) + 1) = ((q + 1 : Nat) : Int) := by omega
    rw [e] at b2
    have hz := HZ.out
    refine ⟨b3.set' (by simp) _, b1.set' (by first | (simp; done) | (simp; omega)) _, b2.set' (by first | (simp; done) | (simp; omega)) _, b0.set' (by first | (simp; done) | (simp; omega)) _, by rw [hfv]; exact b4.set1 _, World.ownsRow_nil _ _ _ _, ⟨fk, HI.out.keep h4⟩, h4.toAny, by have := szW; simp [World.setCell]; omega, by omega⟩
  have hGr := fun w' h => grow_start w Bi bk (z + 1 + 1 + 1 + 1 + 1) (z + 1 + 1 + 1) (z + 1) (z + 1 + 1) z (z + 1 + 1 + 1 + 1) (.slice (some va) 1 vc) n q w' hn hq hnq HV.out ⟨fk, HI.out⟩ HWn.out ⟨by have := HZ.out; omega, by have := HZ.out; omega, by have := HZ.out; omega, by have := HZ.out; omega, by have := HZ.out; omega⟩ ⟨by omega, by omega, by omega, by omega⟩ (by have := HZ.out; omega) ⟨by omega, by omega, by omega, by omega, by omega⟩ ⟨hbi, hbk⟩ h
  have HGr := hide (hGr _ hSt)
  rw [hfv] at HGr
  clear hSt hGr h4 b0 b1 b2 b3 b4 cW szW hfv
  go_wp2_with fail
  refine HGr.out.mono ?_
  rintro e w' ⟨rfl, qv, xs, hst⟩
  have c1 := hst.1.cell 0
  have l1 := hst.1.lt
  obtain ⟨qa, qc, rfl, _⟩ := row_shape hst.2.2.2.2.2.1
  simp only [List.getElem?_toArray, List.getElem?_cons_zero] at c1
  obtain ⟨fk', hI'⟩ := hst.2.2.2.2.2.2.1
  have HF := hide (And.intro hI' hst.2.2.2.2.2.2.2.1)
  clear hst hI'
  go_wp2
  go_ret2
  exact ⟨_, rfl, fk', HF.out⟩

theorem winsC_all (Bi bk : Nat) : ∀ q, q < 39 → WinsC Bi bk q
  | 0, _ => wins_all Bi bk 0 (by decide) (fun h => absurd rfl h)
  | q + 1, h => wins_all Bi bk (q + 1) (by omega) (fun _ => ask_good Bi bk q (by omega) (winsC_all Bi bk q (by omega)))
end Go.Proofs.Ytpplihpfjniacaa
