/- Walk: Fools. -/
import Derived.Test.YtaapamoglgpocaaFoolsT
import Derived.Test.YtaapamoglgpocaaOpenP
namespace Go.Proofs.Ytaapamoglgpocaa
open Go.RowKit

def lastI (t : List (List Int)) (v : Int) (pre : List Pr) : Int := if pre.isEmpty then -1 else idxP (ents t v) (lastP pre)
/-- One entry behind others, as Fools sees it. -/
def stepT (t : List (List Int)) (v : Int) (pre : List Pr) (x : Pr) : Bool := !decide (idxP (ents t v) x ≤ lastI t v pre) && !(pre.any fun y => !fooledB t v x y)
def foolsT (t : List (List Int)) (v : Int) (l : List Pr) : Bool := (List.range l.length).all fun i => stepT t v (l.take i) (l.getD i pr0)
theorem foolsT_false {t : List (List Int)} {v : Int} {l : List Pr} {i : Nat} (hi : i < l.length) (h : stepT t v (l.take i) (l.getD i pr0) = false) : foolsT t v l = false := by
  unfold foolsT
  rw [Bool.eq_false_iff]
  intro h'
  have := List.all_eq_true.1 h' i (List.mem_range.2 hi)
  rw [h] at this
  cases this
theorem foolsT_true {t : List (List Int)} {v : Int} {l : List Pr} (h : ∀ i, i < l.length → stepT t v (l.take i) (l.getD i pr0) = true) : foolsT t v l = true := List.all_eq_true.2 fun i hi => h i (List.mem_range.1 hi)
theorem idxP_ge (l : List Pr) (x : Pr) : -1 ≤ idxP l x := by
  unfold idxP
  split <;> omega
theorem idxP_mem {l : List Pr} {x : Pr} (h : 0 ≤ idxP l x) : x ∈ l := by
  unfold idxP at h
  split at h
  · rename_i i e
    obtain ⟨hi, h1, _⟩ := List.findIdx?_eq_some_iff_getElem.1 e
    rw [of_decide_eq_true h1]
    exact List.getElem_mem _
  · omega
theorem lastI_ge (t : List (List Int)) (v : Int) (pre : List Pr) : -1 ≤ lastI t v pre := by
  unfold lastI
  split
  · exact Int.le_refl _
  · exact idxP_ge _ _
theorem stepT_idx {t : List (List Int)} {v : Int} {pre : List Pr} {x : Pr} (h : stepT t v pre x = true) : lastI t v pre < idxP (ents t v) x := by
  unfold stepT at h
  simp only [Bool.and_eq_true, Bool.not_eq_true', decide_eq_false_iff_not] at h
  omega
theorem stepT_in {t : List (List Int)} {v : Int} {pre : List Pr} {x : Pr} (h : stepT t v pre x = true) : InT t x := by
  have h1 := stepT_idx h
  have h2 := lastI_ge t v pre
  have h3 : 0 ≤ idxP (ents t v) x := by omega
  exact ents_in (idxP_mem h3)
theorem lastI_succ {t : List (List Int)} {v : Int} {l : List Pr} {i : Nat} (hi : i < l.length) : lastI t v (l.take (i + 1)) = idxP (ents t v) (l.getD i pr0) := by
  unfold lastI
  rw [take_ne hi]
  simp only [Bool.false_eq_true, if_false]
  congr 1
  unfold lastP
  have e : (l.take (i + 1)).length = i + 1 := by rw [List.length_take]; omega
  rw [e, Nat.add_sub_cancel, List.getD_eq_getElem?_getD, List.getD_eq_getElem?_getD, List.getElem?_take, if_pos (by omega)]
set_option maxRecDepth 100000 in
set_option maxHeartbeats 1000000 in
theorem Fools_bad (v u : Value) (t : List (List Int)) (x : Int) (l : List Pr) (w : World) (hv : See2 w v t) (hl : ∀ r ∈ t, r.length ≤ 1000000) (htl : t.length ≤ 1000000) (hb : (T.isTab t && decide (x = 0 ∨ x = 1)) = false) (hu : SeeP w u l) :
    Calls Try.prog 38 #[v, .int .i64 x, u] w (Ret (.tuple #[.bool false, .int .i64 2]) w) := by
  obtain ⟨ao, cap, rfl⟩ := hv.shape
  obtain ⟨uo, ucap, rfl, hucap⟩ := hu.shape
  have HVa := hide fun ws (hw : Chg [] w ws) => isValue_any _ t x ws (hv.keep hw) hl htl
  rw [hb] at HVa
  clear hv hl htl hb hu
  generalize t.length = n at *
  generalize l.length = L at *
  go_enter Try.func38, Try.ntmps38
  go_wp2_with fail
  refine (HVa.out _ (((Chg.refl _ _).alloc _).alloc _)).mono ?_
  rintro e w1 ⟨rfl, hw1⟩
  go_wp2
  go_ret2
  exact ⟨rfl, (((Chg.refl _ _).alloc _).alloc _).trans hw1⟩

set_option maxRecDepth 100000 in
set_option maxHeartbeats 4000000 in
theorem Fools_good (v u : Value) (t : List (List Int)) (x : Int) (l : List Pr) (w : World) (hv : See2 w v t) (hl : ∀ r ∈ t, r.length ≤ 1000000) (htl : t.length ≤ 1000000) (ht : T.isTab t = true) (hx : x = 0 ∨ x = 1) (hu : SeeP w u l) (hll : l.length ≤ 1000000) :
    Calls Try.prog 38 #[v, .int .i64 x, u] w (Ret (.tuple #[.bool (foolsT t x l), .int .i64 0]) w) := by
  obtain ⟨ao, cap, rfl⟩ := hv.shape
  obtain ⟨uo, ucap, rfl, hucap⟩ := hu.shape
  have HVa := hide fun ws (hw : Chg [] w ws) => isValue_any _ t x ws (hv.keep hw) hl htl
  rw [ht, decide_eq_true hx] at HVa
  have HEn := hide fun ws (hw : Chg [] w ws) => entries_any _ t x ws (hv.keep hw) ht
  have HV := hide hv
  have HT := hide ht
  have HU := hide hu
  have HLn := hide (ents_len ht x)
  obtain ⟨R, hR⟩ : ∃ R, R = foolsT t x l := ⟨_, rfl⟩
  rw [← hR]
  have HF := hide (fun (i : Nat) (hi : i < l.length) (h : stepT t x (l.take i) (l.getD i pr0) = false) => hR.trans (foolsT_false hi h))
  have HTr := hide (fun (h : ∀ i, i < l.length → stepT t x (l.take i) (l.getD i pr0) = true) => hR.trans (foolsT_true h))
  clear hv hl htl ht hx hu hR
  obtain ⟨n, hn⟩ : ∃ n, n = t.length := ⟨_, rfl⟩
  rw [← hn] at HVa HEn HV ⊢
  clear hn
  obtain ⟨L, hL⟩ : ∃ L, L = l.length := ⟨_, rfl⟩
  have HL := hide hL
  rw [← hL] at hucap HU hll HF HTr ⊢
  clear hL
  go_enter Try.func38, Try.ntmps38
  go_wp2_with fail
  have b3 := Box.new w #[.int .i64 x] 3
  have b6 := Box.new (w.alloc (.cells #[.int .i64 x] 3)) #[.slice ao n cap] 69
  have b3' := b3.old (.cells #[.slice ao n cap] 69)
  have c0 : Chg [] w ((w.alloc (.cells #[.int .i64 x] 3)).alloc (.cells #[.slice ao n cap] 69)) := ((Chg.refl _ _).alloc _).alloc _
  rw [World.size_alloc] at b6
  generalize (w.alloc (.cells #[.int .i64 x] 3)).alloc (.cells #[.slice ao n cap] 69) = w0 at b3' b6 c0 ⊢
  obtain ⟨Bt, hBt⟩ : ∃ y, y = w.heap.size + 1 := ⟨_, rfl⟩
  obtain ⟨Bv, hBv⟩ : ∃ y, y = w.heap.size := ⟨_, rfl⟩
  rw [← hBt] at b6 ⊢
  rw [← hBv] at b3' ⊢
  clear hBt hBv b3
  refine (HVa.out _ c0).mono ?_
  rintro e w1 ⟨rfl, hw1⟩
  have k3 := (b3'.keep hw1 List.not_mem_nil).cell 0
  have k6 := (b6.keep hw1 List.not_mem_nil).cell 0
  have l3 := (b3'.keep hw1 List.not_mem_nil).lt
  have l6 := (b6.keep hw1 List.not_mem_nil).lt
  simp only [List.getElem?_toArray, List.getElem?_cons_zero] at k3 k6
  have C1 := hide (c0.trans hw1)
  have B3 := hide (b3'.keep hw1 List.not_mem_nil)
  have B6 := hide (b6.keep hw1 List.not_mem_nil)
  clear b3' b6 c0 hw1
  go_wp2_with fail
  refine (HEn.out _ C1.out).mono ?_
  rintro e w2 ⟨v2, rfl, ho2, hw2⟩
  obtain ⟨o2, c2, rfl, hc2⟩ := row_shape ho2
  have HO2 := hide (pairs_see ho2)
  have C2 := hide (C1.out.trans hw2)
  have B3 := hide (B3.out.keep hw2 List.not_mem_nil)
  have B6 := hide (B6.out.keep hw2 List.not_mem_nil)
  obtain ⟨LE, hLE⟩ : ∃ L, L = (ents t x).length := ⟨_, rfl⟩
  rw [← hLE] at HO2 HLn ⊢
  have HLE := hide hLE
  clear ho2 hw2 hLE k3 k6 l3 l6 hc2
  go_wp2
  go_loopw [10, 24] (fun av iv wr => ∃ (i : Nat), i ≤ L ∧ av = .int .i64 (lastI t x (l.take i)) ∧ iv = .int .i64 (i : Int) ∧ Hid ((∀ q, q < i → stepT t x (l.take q) (l.getD q pr0) = true) ∧ Chg [] w2 wr)) (fun _ iv _ => L - (intOf iv).toNat)
  case atStart => exact ⟨0, Nat.zero_le _, rfl, rfl, hide ⟨fun q h => by omega, Chg.refl _ _⟩⟩
  case round =>
    obtain ⟨i, hi, rfl, rfl, hI⟩ := hrel
    by_cases hlt : i < L
    · have d1 : decide ((i : Int) < (L : Int)) = true := by simpa using hlt
      have hil : i < l.length := by rw [← HL.out]; exact hlt
      have nx : l ≠ [] := by rintro rfl; simp at hil
      obtain ⟨ua, uc, e1, lua, hcell⟩ := HU.out.open nx
      obtain ⟨rfl, hL1, rfl⟩ : uo = some ua ∧ L = l.length ∧ ucap = uc := by simpa using e1
      have C3 := hide (C2.out.trans hI.out.2)
      obtain ⟨x0, x1⟩ := hcell wr C3.out i hil
      obtain ⟨y, hy⟩ : ∃ y, y = l.getD i pr0 := ⟨_, rfl⟩
      rw [← hy] at x0 x1
      have HX := hide hy
      obtain ⟨xa, xb⟩ := y
      have hEx := HF.out i hlt
      rw [← hy] at hEx
      have HEx := hide hEx
      have HQ := hide hI.out.1
      have C4 := hide hI.out.2
      have i0 : (0 : Int) ≤ (i : Int) := by omega
      have i1 : (i : Int) < (L : Int) := by omega
      have bx := Box.new wr #[.int .i64 xa, .int .i64 xb] 60
      have hc2 : Chg [] wr (wr.alloc (.cells #[.int .i64 xa, .int .i64 xb] 60)) := (Chg.refl _ _).alloc _
      clear e1 hL1 hcell hI hy nx hEx
      obtain ⟨p, hp⟩ : ∃ p, p = lastI t x (l.take i) := ⟨_, rfl⟩
      have HPg : Hid (-1 ≤ p) := hide (by rw [hp]; exact lastI_ge _ _ _)
      rw [← hp]
      have HP := hide hp
      clear hp
      go_wp2_with fail
      generalize hWW : wr.alloc (.cells #[.int .i64 xa, .int .i64 xb] 60) = w3 at bx hc2 ⊢
      generalize wr.heap.size = Bx at bx ⊢
      have C5 : Hid (Chg [] w2 w3) := hide (C4.out.trans hc2)
      have BX := hide bx
      clear hWW bx hc2 x0 x1
      have hix := IndexP_any _ (ents t x) xa xb w3 (HO2.out.keep C5.out) (by rw [← HLE.out]; have := HLn.out; omega)
      refine hix.mono ?_
      rintro e w4 ⟨rfl, hw4⟩
      have C6 : Hid (Chg [] w2 w4) := hide (C5.out.trans hw4)
      have BX4 := hide (BX.out.keep hw4 List.not_mem_nil)
      clear hw4 BX hix C5
      obtain ⟨q, hq⟩ : ∃ q, q = idxP (ents t x) (xa, xb) := ⟨_, rfl⟩
      have HQx := hide hq
      rw [← hq]
      clear hq
      by_cases hle : q ≤ p
      · have d2 : decide (q ≤ p) = true := by simpa using hle
        have E : Hid (R = false) := hide (HEx.out (by unfold stepT; rw [← HQx.out, ← HP.out, decide_eq_true hle]; rfl))
        clear hle
        have C7 := hide (C2.out.trans C6.out)
        go_wp2
        go_ret2
        exact ⟨by rw [E.out]; rfl, C7.out⟩
      · have d2 : decide (q ≤ p) = false := by simpa using hle
        have hXin : InT t (xa, xb) := ents_in (idxP_mem (l := ents t x) (by rw [← HQx.out]; have := HPg.out; omega))
        have HStep : Hid (stepT t x (l.take i) (xa, xb) = !((l.take i).any fun y => !fooledB t x (xa, xb) y)) := hide (by unfold stepT; rw [← HQx.out, ← HP.out, decide_eq_false hle]; rfl)
        have hsee : SeeP w4 (.slice (some ua) i ucap) (l.take i) := (HU.out.keep (C2.out.trans C6.out)).take i (by omega)
        have c3 := (B3.out.keep C6.out List.not_mem_nil).cell 0
        have c6 := (B6.out.keep C6.out List.not_mem_nil).cell 0
        have hst := HV.out.keep (C2.out.trans C6.out)
        have hCon := Contains_pairs 76 #[.pointer (some ⟨Bt, 0, none⟩), .pointer (some ⟨Bv, 0, none⟩), .pointer (some ⟨Bx, 0, none⟩)] (fun y => !fooledB t x (xa, xb) y) (.slice (some ua) i ucap) (l.take i) w4 hsee (by rw [List.length_take]; omega) callFools
          (fun r ws hr hw => notFools Bt Bv Bx _ t x r (xa, xb) ws ((hw.cellA (lt_of_cell c6) List.not_mem_nil).trans c6) ((hw.cellA (lt_of_cell c3) List.not_mem_nil).trans c3) (BX4.out.keep hw List.not_mem_nil) (hst.keep hw) HT.out hXin (by
            obtain ⟨j, hj, he⟩ := List.getElem_of_mem hr
            rw [List.length_take] at hj
            have := stepT_in (HQ.out j (by omega))
            rw [List.getElem_take] at he
            rw [List.getD_eq_getElem?_getD, List.getElem?_eq_getElem (by omega)] at this
            simp only [Option.getD_some, he] at this
            exact this))
        have HCon := hide hCon
        clear hXin hsee c3 c6 hst hCon hle
        have ic1 : (i : Int) ≤ (ucap : Int) := by omega
        generalize hb : ((l.take i).any fun y => !fooledB t x (xa, xb) y) = b at HCon HStep
        clear hb
        go_wp2_with fail
        refine HCon.out.mono ?_
        rintro e w5 ⟨rfl, hw5⟩
        have C7 := hide (C6.out.trans hw5)
        clear hw5
        cases b with
        | true =>
          have E : Hid (R = false) := hide (HEx.out (by rw [HStep.out]; rfl))
          have C8 := hide (C2.out.trans C7.out)
          go_wp2
          go_ret2
          exact ⟨by rw [E.out]; rfl, C8.out⟩
        | false =>
          have HNx : Hid (lastI t x (l.take (i + 1)) = q) := hide (by rw [lastI_succ hil, ← HX.out, ← HQx.out])
          go_wp2
          go_roundw
          case rel => exact ⟨i + 1, by omega, by rw [HNx.out], by go_num, hide ⟨fun r hr => by
            rcases (show r < i ∨ r = i by omega) with h | rfl
            · exact HQ.out r h
            · rw [← HX.out, HStep.out]; rfl, C7.out⟩⟩
          case measure => simp [intOf]; omega
    · have d1 : decide ((i : Int) < (L : Int)) = false := by simpa using hlt
      obtain rfl : i = L := by omega
      have E : Hid (R = true) := hide (HTr.out hI.out.1)
      have C3 := hide (C2.out.trans hI.out.2)
      clear hI
      go_wp2
      go_ret2
      exact ⟨by rw [E.out]; rfl, C3.out⟩
end Go.Proofs.Ytaapamoglgpocaa
