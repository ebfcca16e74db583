/- Walk: Fool. -/
import Derived.Test.YtaapamoglgpocaaFool4
import Derived.Laws.EntriesVeiled
namespace Go.Proofs.Ytaapamoglgpocaa
open Go.RowKit

theorem grow_all (W0 : World) (B : FB) (allv vt : Value) (t : List (List Int)) (v : Int) (all : List Pr) (hf : FoolFix W0 B allv vt t v all) : ∀ F, GrowOk W0 B t v all F
  | 0 => fun _ _ _ _ _ _ _ h => absurd h (Nat.not_lt_zero _)
  | F + 1 => grow_more W0 B allv vt t v all F hf (grow_all W0 B allv vt t v all hf F)
/-- The first of the greatest fooling sets. -/
def foolM (t : List (List Int)) (v : Int) : List Pr := growM t v (ents t v) [] []

set_option maxRecDepth 100000 in
set_option maxHeartbeats 1000000 in
theorem Fool_bad (v : Value) (t : List (List Int)) (x : Int) (w : World) (hv : See2 w v t) (hl : ∀ r ∈ t, r.length ≤ 1000000) (htl : t.length ≤ 1000000) (hb : (T.isTab t && decide (x = 0 ∨ x = 1)) = false) :
    Calls Try.prog 34 #[v, .int .i64 x] w (Ret (.tuple #[.slice none 0 0, .int .i64 2]) w) := by
  obtain ⟨ao, cap, rfl⟩ := hv.shape
  have HVa := hide fun ws (hw : Chg [] w ws) => isValue_any _ t x ws (hv.keep hw) hl htl
  rw [hb] at HVa
  clear hv hl htl hb
  generalize t.length = n at *
  go_enter Try.func34, Try.ntmps34
  go_wp2_with fail
  refine (HVa.out _ (((Chg.refl _ _).alloc _).alloc _)).mono ?_
  rintro e w1 ⟨rfl, hw1⟩
  go_wp2
  go_ret2
  exact ⟨rfl, (((Chg.refl _ _).alloc _).alloc _).trans hw1⟩

set_option maxRecDepth 100000 in
set_option maxHeartbeats 2000000 in
theorem Fool_good (v : Value) (t : List (List Int)) (x : Int) (w : World) (hv : See2 w v t) (hl : ∀ r ∈ t, r.length ≤ 1000000) (htl : t.length ≤ 1000000) (ht : T.isTab t = true) (hx : x = 0 ∨ x = 1) :
    Calls Try.prog 34 #[v, .int .i64 x] w fun e w' => ∃ v', e = .returned (.tuple #[v', .int .i64 0]) ∧ SeeP w' v' (foolM t x) ∧ Chg [] w w' := by
  obtain ⟨ao, cap, rfl⟩ := hv.shape
  have HVa := hide fun ws (hw : Chg [] w ws) => isValue_any _ t x ws (hv.keep hw) hl htl
  rw [ht, decide_eq_true hx] at HVa
  have HEn := hide fun ws (hw : Chg [] w ws) => entries_any _ t x ws (hv.keep hw) ht
  have HV := hide hv
  have HT := hide ht
  have HLn := hide (ents_len ht x)
  clear hv hl htl ht hx
  obtain ⟨n, hn⟩ : ∃ n, n = t.length := ⟨_, rfl⟩
  rw [← hn] at HVa HEn HV ⊢
  clear hn
  go_enter Try.func34, Try.ntmps34
  go_wp2_with fail
  have b3 := Box.new w #[.int .i64 x] 3
  have b6 := Box.new (w.alloc (.cells #[.int .i64 x] 3)) #[.slice ao n cap] 69
  have b3' := b3.old (.cells #[.slice ao n cap] 69)
  have c0 : Chg [] w ((w.alloc (.cells #[.int .i64 x] 3)).alloc (.cells #[.slice ao n cap] 69)) := ((Chg.refl _ _).alloc _).alloc _
  have s0 : ((w.alloc (.cells #[.int .i64 x] 3)).alloc (.cells #[.slice ao n cap] 69)).heap.size = w.heap.size + 2 := by simp
  rw [World.size_alloc] at b6
  generalize (w.alloc (.cells #[.int .i64 x] 3)).alloc (.cells #[.slice ao n cap] 69) = w0 at b3' b6 c0 s0 ⊢
  refine (HVa.out _ c0).mono ?_
  rintro e w1 ⟨rfl, hw1⟩
  have k3 := (b3'.keep hw1 List.not_mem_nil).cell 0
  have k6 := (b6.keep hw1 List.not_mem_nil).cell 0
  have l3 := (b3'.keep hw1 List.not_mem_nil).lt
  have l6 := (b6.keep hw1 List.not_mem_nil).lt
  simp only [List.getElem?_toArray, List.getElem?_cons_zero] at k3 k6
  have C1 := hide (c0.trans hw1)
  have B3 := hide (b3'.keep hw1 List.not_mem_nil)
  have B6 := hide (b6.keep hw1 List.not_mem_nil)
  have S1 : Hid (w.heap.size + 2 ≤ w1.heap.size) := hide (by have := hw1.size; omega)
  clear b3 b3' b6 c0 s0 hw1
  go_wp2_with fail
  refine (HEn.out _ C1.out).mono ?_
  rintro e w2 ⟨v2, rfl, ho2, hw2⟩
  have k3 := (B3.out.keep hw2 List.not_mem_nil).cell 0
  have l3 := (B3.out.keep hw2 List.not_mem_nil).lt
  simp only [List.getElem?_toArray, List.getElem?_cons_zero] at k3
  obtain ⟨o2, c2, rfl, hc2⟩ := row_shape ho2
  have HO2 := hide ho2
  have C2 := hide (C1.out.trans hw2)
  have B3 := hide (B3.out.keep hw2 List.not_mem_nil)
  have B6 := hide (B6.out.keep hw2 List.not_mem_nil)
  have hs2 := hw2.size
  clear ho2 hw2
  go_wp2_with (with_reducible refine halt_at 19 ?_)
  have bg := Box.at (((w2.alloc (.cells #[.slice o2 (ents t x).length c2] 46)).alloc (.cells #[.slice none 0 0] 46)).alloc (.cells #[.slice none 0 0] 46)) #[.nilFunc] 88 (n := w2.heap.size + 1 + 1 + 1) (by simp)
  have ba := ((Box.new w2 #[.slice o2 (ents t x).length c2] 46).old (.cells #[.slice none 0 0] 46)).old (.cells #[.slice none 0 0] 46) |>.old (.cells #[.nilFunc] 88)
  have bb := ((Box.at (w2.alloc (.cells #[.slice o2 (ents t x).length c2] 46)) #[.slice none 0 0] 46 (n := w2.heap.size + 1) (by simp)).old (.cells #[.slice none 0 0] 46)).old (.cells #[.nilFunc] 88)
  have bn := (Box.at ((w2.alloc (.cells #[.slice o2 (ents t x).length c2] 46)).alloc (.cells #[.slice none 0 0] 46)) #[.slice none 0 0] 46 (n := w2.heap.size + 1 + 1) (by simp)).old (.cells #[.nilFunc] 88)
  have c4 : Chg [] w2 ((((w2.alloc (.cells #[.slice o2 (ents t x).length c2] 46)).alloc (.cells #[.slice none 0 0] 46)).alloc (.cells #[.slice none 0 0] 46)).alloc (.cells #[.nilFunc] 88)) := ((((Chg.refl _ _).alloc _).alloc _).alloc _).alloc _
  have s4 : ((((w2.alloc (.cells #[.slice o2 (ents t x).length c2] 46)).alloc (.cells #[.slice none 0 0] 46)).alloc (.cells #[.slice none 0 0] 46)).alloc (.cells #[.nilFunc] 88)).heap.size = w2.heap.size + 1 + 1 + 1 + 1 := by simp
  generalize (((w2.alloc (.cells #[.slice o2 (ents t x).length c2] 46)).alloc (.cells #[.slice none 0 0] 46)).alloc (.cells #[.slice none 0 0] 46)).alloc (.cells #[.nilFunc] 88) = w4 at bg ba bb bn c4 s4 ⊢
  obtain ⟨Bg, hBg⟩ : ∃ y, y = w2.heap.size + 1 + 1 + 1 := ⟨_, rfl⟩
  rw [← hBg] at bg s4 ⊢
  obtain ⟨Bn, hBn⟩ : ∃ y, y = w2.heap.size + 1 + 1 := ⟨_, rfl⟩
  rw [← hBn] at bn ⊢
  obtain ⟨Bb, hBb⟩ : ∃ y, y = w2.heap.size + 1 := ⟨_, rfl⟩
  rw [← hBb] at bb ⊢
  obtain ⟨Ba, hBa⟩ : ∃ y, y = w2.heap.size := ⟨_, rfl⟩
  rw [← hBa] at ba ⊢
  obtain ⟨Bt, hBt⟩ : ∃ y, y = w.heap.size + 1 := ⟨_, rfl⟩
  obtain ⟨Bv, hBv⟩ : ∃ y, y = w.heap.size := ⟨_, rfl⟩
  rw [← hBt, ← hBv]
  have HBk : Hid (w.heap.size = Bv ∧ Bt = Bv + 1 ∧ Bv + 2 ≤ Ba ∧ Ba = w2.heap.size ∧ Bb = Ba + 1 ∧ Bn = Ba + 2 ∧ Bg = Ba + 3 ∧ w4.heap.size = Ba + 4) := hide (by have := S1.out; omega)
  rw [← hBt] at B6
  rw [← hBv] at B3
  have g0 := bg.cell 0
  have gf := bg.free 0
  have gl := bg.lt
  simp only [List.getElem?_toArray, List.getElem?_cons_zero] at g0
  have BG := hide bg
  have BA := hide ba
  have BB := hide bb
  have BN := hide bn
  have C4 := hide c4
  have S4 := hide s4
  clear bg ba bb bn c4 s4 hBg hBn hBb hBa hBt hBv hs2 k3 l3 k6 l6
  refine Halt.go ?_
  go_wp2_with fail
  have hk := HBk.out
  have c5 : Chg [] w2 (w4.setCell ⟨Bg, 0, none⟩ (.func (.func 69) #[] #[.pointer (some ⟨Bn, 0, none⟩), .pointer (some ⟨Bb, 0, none⟩), .pointer (some ⟨Ba, 0, none⟩), .pointer (some ⟨Bt, 0, none⟩), .pointer (some ⟨Bv, 0, none⟩), .pointer (some ⟨Bg, 0, none⟩)])) := C4.out.setCell (.inr (show w2.heap.size ≤ Bg by omega)) _
  have bg := BG.out.set1 (.func (.func 69) #[] #[.pointer (some ⟨Bn, 0, none⟩), .pointer (some ⟨Bb, 0, none⟩), .pointer (some ⟨Ba, 0, none⟩), .pointer (some ⟨Bt, 0, none⟩), .pointer (some ⟨Bv, 0, none⟩), .pointer (some ⟨Bg, 0, none⟩)])
  have ba := BA.out.set' (p := ⟨Bg, 0, none⟩) (show Ba ≠ Bg by omega) (.func (.func 69) #[] #[.pointer (some ⟨Bn, 0, none⟩), .pointer (some ⟨Bb, 0, none⟩), .pointer (some ⟨Ba, 0, none⟩), .pointer (some ⟨Bt, 0, none⟩), .pointer (some ⟨Bv, 0, none⟩), .pointer (some ⟨Bg, 0, none⟩)])
  have bb := BB.out.set' (p := ⟨Bg, 0, none⟩) (show Bb ≠ Bg by omega) (.func (.func 69) #[] #[.pointer (some ⟨Bn, 0, none⟩), .pointer (some ⟨Bb, 0, none⟩), .pointer (some ⟨Ba, 0, none⟩), .pointer (some ⟨Bt, 0, none⟩), .pointer (some ⟨Bv, 0, none⟩), .pointer (some ⟨Bg, 0, none⟩)])
  have bn := BN.out.set' (p := ⟨Bg, 0, none⟩) (show Bn ≠ Bg by omega) (.func (.func 69) #[] #[.pointer (some ⟨Bn, 0, none⟩), .pointer (some ⟨Bb, 0, none⟩), .pointer (some ⟨Ba, 0, none⟩), .pointer (some ⟨Bt, 0, none⟩), .pointer (some ⟨Bv, 0, none⟩), .pointer (some ⟨Bg, 0, none⟩)])
  have hz : (w4.setCell ⟨Bg, 0, none⟩ (.func (.func 69) #[] #[.pointer (some ⟨Bn, 0, none⟩), .pointer (some ⟨Bb, 0, none⟩), .pointer (some ⟨Ba, 0, none⟩), .pointer (some ⟨Bt, 0, none⟩), .pointer (some ⟨Bv, 0, none⟩), .pointer (some ⟨Bg, 0, none⟩)])).heap.size = w4.heap.size := by simp [World.setCell]
  generalize w4.setCell ⟨Bg, 0, none⟩ _ = W0 at c5 bg ba bb bn hz ⊢
  have hfx : FoolFix W0 ⟨Bn, Bb, Ba, Bt, Bv, Bg⟩ (.slice o2 (ents t x).length c2) (.slice ao n cap) t x (ents t x) :=
    { ba := ba, bt := B6.out.keep c5 List.not_mem_nil, bv := B3.out.keep c5 List.not_mem_nil, bg := bg
      sa := (pairs_see HO2.out).keep c5, st := HV.out.keep (C2.out.trans c5), tab := HT.out, ins := fun y hy => ents_in hy, few := HLn.out
      nb := by show Bn ≠ Bb; omega
      n1 := by simp only [List.mem_cons, List.not_mem_nil, or_false, not_or]; omega
      b1 := by simp only [List.mem_cons, List.not_mem_nil, or_false, not_or]; omega
      ln := by show Bn < _; omega
      lb := by show Bb < _; omega
      an := fun w' hw' => by
        have hc : Chg [] w2 w' := c5.trans' hw' (fun y hy => .inr (by simp at hy; omega))
        exact ⟨(pairs_see HO2.out).keep hc, HV.out.keep (C2.out.trans hc)⟩ }
  have hst : FoolSt W0 ⟨Bn, Bb, Ba, Bt, Bv, Bg⟩ W0 (.slice none 0 0) (.slice none 0 0) [] [] := ⟨bn, bb, World.ownsRow_nil _ _ _ _, World.ownsRow_nil _ _ _ _, .inl rfl, Chg.refl _ _⟩
  have hgo := grow_all W0 _ _ _ t x _ hfx ((ents t x).length + 1) 0 W0 _ _ [] [] (Nat.zero_le _) (by omega) (Nat.le_refl _) (by simp) (fun y hy => by cases hy) hst
  have C5 := hide (C2.out.trans c5)
  have HGo := hide hgo
  have HBk2 : Hid (w.heap.size ≤ Bn ∧ w.heap.size ≤ Bb) := hide (by have := HBk.out; omega)
  clear hgo hst hfx c5 bg ba bb bn hk hz g0 gf gl
  refine HGo.out.mono ?_
  rintro e w5 ⟨rfl, nv, bv, hS, hC, _⟩
  have d8 := hS.bb.cell 0
  have l8 := hS.bb.lt
  simp only [List.getElem?_toArray, List.getElem?_cons_zero] at d8
  have hsee := pairs_see hS.ob
  have hC6 : Chg [] w w5 := C5.out.trans' hC (fun y hy => .inr (by
    have := HBk2.out
    rcases mem_GS.1 hy with h | h | h
    · rw [h]; exact this.1
    · rw [h]; exact this.2
    · cases h))
  have HS := hide hsee
  have HC6 := hide hC6
  clear hsee hC6 hS hC
  go_wp2
  go_ret2
  exact ⟨bv, rfl, HS.out, HC6.out⟩
end Go.Proofs.Ytaapamoglgpocaa
