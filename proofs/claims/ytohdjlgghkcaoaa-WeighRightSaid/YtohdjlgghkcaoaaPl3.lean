/- Walks: the slots. -/
import Derived.Test.YtohdjlgghkcaoaaPl2
namespace Go.Proofs.Ytohdjlgghkcaoaa
open Go.RowKit

theorem slot_push {W0 wr w1 : World} {Bk Bo Bv Bg k g cap' cap : Nat} {ao : Option Addr} {vo : Value} {cur : List Int} {outs : List (List Int)} {x : Int} (hB : Bk < W0.heap.size ∧ Bo < W0.heap.size ∧ Bv < W0.heap.size ∧ Bg < W0.heap.size) (n1 : Bv ≠ Bo) (n2 : Bv ≠ Bk) (n3 : Bv ≠ Bg)
    (b1 : Box wr Bk #[.int .i64 (k : Int)] 3) (b2 : Box wr Bg #[.func (.func 87) #[] #[.pointer (some ⟨Bv, 0, none⟩), .pointer (some ⟨Bk, 0, none⟩), .pointer (some ⟨Bo, 0, none⟩), .pointer (some ⟨Bg, 0, none⟩)]] 109)
    (b3 : Box wr Bv #[.slice ao cur.length cap] 51) (b4 : Box wr Bo #[vo] 62) (hv : wr.ownsRow W0.heap.size 3 1 (.slice ao cur.length cap) cur.length (cur.map (Value.int .i64))) (hx : RowsX wr W0.heap.size (Value.slice ao cur.length cap).ownBlock vo outs) (hch : Chg [Bv, Bo] W0 wr) (o : Obj)
    (hown : w1.ownsRow W0.heap.size 3 1 (.slice (some ⟨g, 0, none⟩) (cur.length + 1) cap') (cur.length + 1) (cur.map (Value.int .i64) ++ [.int .i64 x])) (hgrow : (wr.alloc o).grownBy w1 (Value.slice ao cur.length cap).ownBlock)
    (hat : (Value.slice ao cur.length cap).ownBlock = some g ∨ g = wr.heap.size + 1) : SlotSt W0 Bk Bo Bv Bg k (w1.setCell ⟨Bv, 0, none⟩ (.slice (some ⟨g, 0, none⟩) (cur.length + 1) cap')) (cur ++ [x]) outs := by
  have kA : Chg [] wr (wr.alloc o) := (Chg.refl _ _).alloc _
  have ov := hv.alloc o
  refine ⟨_, vo, (box_grown (b1.old o) ov hgrow hB.1).set' (Ne.symm n2) _, (box_grown (b2.old o) ov hgrow hB.2.2.2).set' (Ne.symm n3) _, (box_grown (b3.old o) ov hgrow hB.2.2.1).set1 _, (box_grown (b4.old o) ov hgrow hB.2.1).set' (Ne.symm n1) _, ?_, ?_, (chg_grown (hch.alloc o) ov (Nat.le_refl _) hgrow).setCell (.inl (by simp)) _⟩
  · have := row_set hown (p := ⟨Bv, 0, none⟩) hB.2.2.1 (.slice (some ⟨g, 0, none⟩) (cur.length + 1) cap')
    simpa using this
  · refine ((hx.chg kA (fun _ h => by cases h)).push ov hgrow (vv' := .slice (some ⟨g, 0, none⟩) (cur.length + 1) cap') ?_).chg (Chg.set _ _ _) (fun s hs => by simp at hs; rw [hs]; exact hB.2.2.1)
    rcases hat with h | h
    · exact .inl h.symm
    · refine .inr ?_
      rw [h]
      simp [Value.ownBlock]
theorem slot_pop {W0 w : World} {Bk Bo Bv Bg k : Nat} {cur : List Int} {x : Int} {outs : List (List Int)} (hB : Bk < W0.heap.size ∧ Bo < W0.heap.size ∧ Bv < W0.heap.size ∧ Bg < W0.heap.size) (n1 : Bv ≠ Bo) (n2 : Bv ≠ Bk) (n3 : Bv ≠ Bg)
    (h : SlotSt W0 Bk Bo Bv Bg k w (cur ++ [x]) outs) : ∃ a cap, Box w Bv #[.slice (some a) (cur.length + 1) cap] 51 ∧ cur.length + 1 ≤ cap ∧ SlotSt W0 Bk Bo Bv Bg k (w.setCell ⟨Bv, 0, none⟩ (.slice (some a) cur.length cap)) cur outs := by
  obtain ⟨vv, vo, b1, b2, b3, b4, hv, hx, hch⟩ := h
  have hl : (cur ++ [x]).length = cur.length + 1 := by simp
  rw [hl, List.map_append] at hv
  have hv' := hv
  rcases hv.2 with ⟨_, h0⟩ | ⟨g, cap, cur', rfl, hb, hg, hle, _⟩
  · omega
  · refine ⟨⟨g, 0, none⟩, cap, b3, hle, _, vo, b1.set' (Ne.symm n2) _, b2.set' (Ne.symm n3) _, b3.set1 _, b4.set' (Ne.symm n1) _, row_set (row_short hv' (by simp)) hB.2.2.1 _, ?_, hch.setCell (.inl (by simp)) _⟩
    exact hx.chg (Chg.set _ _ _) (fun s hs => by simp at hs; rw [hs]; exact hB.2.2.1)

/-- What is gathered before x. -/
def preS (m : Nat) (b : Bool) (cur : List Int) (x : Int) : List (List Int) :=
  if x ≤ -1 then [] else if x = 0 then (if b then W.gs m b (cur ++ [-1]) else []) else if x = 1 then (if b then W.gs m b (cur ++ [-1]) else []) ++ W.gs m b (cur ++ [0]) else W.gs (m + 1) b cur
theorem preS_start (m : Nat) (b : Bool) (cur : List Int) : preS m b cur (-1) = [] := rfl
theorem preS_end {m : Nat} {b : Bool} {cur : List Int} {x : Int} (h : 1 < x) : preS m b cur x = W.gs (m + 1) b cur := by unfold preS; rw [if_neg (by omega), if_neg (by omega), if_neg (by omega)]
theorem preS_true {m : Nat} {cur : List Int} {x : Int} (h0 : -1 ≤ x) (h1 : x ≤ 1) : preS m true cur (x + 1) = preS m true cur x ++ W.gs m true (cur ++ [x]) := by
  rcases (show x = -1 ∨ x = 0 ∨ x = 1 by omega) with rfl | rfl | rfl <;> simp [preS, W.gs]
theorem preS_false {m : Nat} {cur : List Int} {x : Int} (h0 : 0 ≤ x) (h1 : x ≤ 1) : preS m false cur (x + 1) = preS m false cur x ++ W.gs m (x == 1) (cur ++ [x]) := by
  rcases (show x = 0 ∨ x = 1 by omega) with rfl | rfl <;> simp [preS, W.gs]
theorem preS_skip {m : Nat} {cur : List Int} {x : Int} (h0 : -1 ≤ x) (h1 : x < 0) : preS m false cur (x + 1) = preS m false cur x := by
  obtain rfl : x = -1 := by omega
  simp [preS]
theorem gs_len : ∀ (m : Nat) (b : Bool) (cur : List Int), (W.gs m b cur).length ≤ 3 ^ m
  | 0, b, cur => by unfold W.gs; split <;> simp
  | m + 1, b, cur => by
    have h1 := gs_len m b (cur ++ [-1])
    have h2 := gs_len m b (cur ++ [0])
    have h3 := gs_len m true (cur ++ [1])
    unfold W.gs
    rw [List.length_append, List.length_append, Nat.pow_succ]
    split <;> simp <;> omega
theorem preS_len {m : Nat} {b : Bool} {cur : List Int} {x : Int} (h1 : x ≤ 1) : (preS m b cur x).length ≤ 2 * 3 ^ m := by
  have e1 := gs_len m b (cur ++ [-1])
  have e2 := gs_len m b (cur ++ [0])
  unfold preS
  split
  · simp
  · split
    · split <;> simp <;> omega
    · rw [if_pos (by omega), List.length_append]
      split <;> simp <;> omega

/-- What the search leaves. -/
def SlotOk (W0 : World) (Bk Bo Bv Bg k m : Nat) : Prop := ∀ (b : Bool) (cur : List Int) (outs : List (List Int)) (w : World), cur.length + m = k → outs.length + 3 ^ m ≤ 100000 → SlotSt W0 Bk Bo Bv Bg k w cur outs →
    Calls Try.prog 87 #[.bool b, .pointer (some ⟨Bv, 0, none⟩), .pointer (some ⟨Bk, 0, none⟩), .pointer (some ⟨Bo, 0, none⟩), .pointer (some ⟨Bg, 0, none⟩)] w
      fun e w' => e = .returned (.tuple #[]) ∧ SlotSt W0 Bk Bo Bv Bg k w' cur (outs ++ W.gs m b cur)

set_option maxRecDepth 100000 in
set_option maxHeartbeats 2000000 in
theorem slot_step (W0 : World) (Bk Bo Bv Bg k m : Nat) (hB : Bk < W0.heap.size ∧ Bo < W0.heap.size ∧ Bv < W0.heap.size ∧ Bg < W0.heap.size) (n1 : Bv ≠ Bo) (n2 : Bv ≠ Bk) (n3 : Bv ≠ Bg) (hk : k ≤ 3)
    (IH : SlotOk W0 Bk Bo Bv Bg k m) : SlotOk W0 Bk Bo Bv Bg k (m + 1) := by
  intro b cur outs w hc ho h
  obtain ⟨vv, vo, b1, b2, b3, b4, hv, hx, hch⟩ := h
  obtain ⟨ao, cap, rfl, _⟩ := row_shape hv
  have c1 := b1.cell 0
  have c3 := b3.cell 0
  simp at c1 c3
  have d0 : ((cur.length : Int) == (k : Int)) = false := by simp; omega
  have HS : Hid (SlotSt W0 Bk Bo Bv Bg k w cur (outs ++ preS m b cur (-1))) := hide (by rw [preS_start, List.append_nil]; exact ⟨_, _, b1, b2, b3, b4, hv, hx, hch⟩)
  have HIH := hide IH
  obtain ⟨i0, hi, hz0, hz1, hz2⟩ := info_parts infoInt
  have hlc : cur.length ≤ 3 := by omega
  have HC := hide hc
  have HO := hide ho
  clear b1 b2 b3 b4 hv hx hch IH hc ho
  obtain ⟨L, hL⟩ : ∃ L, L = cur.length := ⟨_, rfl⟩
  rw [← hL] at c3 d0 hlc
  have HL := hide hL
  clear hL
  go_enter Try.func87, Try.ntmps87
  go_wp2
  clear c1 c3
  go_loopw [6] (fun i wr => ∃ x : Int, -1 ≤ x ∧ x ≤ 2 ∧ i = .int .i64 x ∧ Hid (SlotSt W0 Bk Bo Bv Bg k wr cur (outs ++ preS m b cur x))) (fun i _ => (2 - intOf i).toNat)
  case atStart => exact ⟨-1, by omega, by omega, rfl, HS⟩
  case round =>
    obtain ⟨x, hx0, hx1, rfl, hI⟩ := hrel
    by_cases hlt : x ≤ 1
    · have d1 : decide (x ≤ 1) = true := by simpa using hlt
      by_cases hskip : b = false ∧ x < 0
      · obtain ⟨rfl, hneg⟩ := hskip
        have d2 : decide (0 ≤ x) = false := by simp; omega
        go_wp2
        go_roundw
        case rel => exact ⟨x + 1, by omega, by omega, rfl, by rw [preS_skip hx0 hneg]; exact hI⟩
        case measure => simp [intOf]; omega
      · obtain ⟨vv, vo, b1, b2, b3, b4, hv, hx, hch⟩ := hI.out
        obtain ⟨ao, cap, rfl, _⟩ := row_shape hv
        have c2 := b2.cell 0
        have c3 := b3.cell 0
        have f3 := b3.free 0
        simp at c2 c3
        rw [← HL.out] at c3
        have lv := b3.lt
        have lg := b2.lt
        have hszr := hch.size
        have HV := hide hv
        have HB4 := hide (And.intro b1 (And.intro b2 (And.intro b3 (And.intro b4 (And.intro hx hch)))))
        clear b1 b2 b3 b4 hv hx hch
        cases b with
        | true =>
          go_wp2_with (at_builtin; refine wpList_append_lies _ (by rfl) _ _ 51 (by rfl) W0.heap.size 3 i0 (.int .i64 0) 1 8 Try.underlying51 hi hz0 hz1 hz2 (by rfl) (by decide) (.slice ao L cap) L (cur.map (Value.int .i64)) (by rfl) (by rw [HL.out]; exact HV.out.alloc _) ⟨wr.heap.size, 0, none⟩ 1 1 [.int .i64 x] (by rfl) (by rfl) (by intro j u hj; rw [add_zero_row, (Box.new wr _ _).cell j]; simpa using hj) (by intro u hu; rw [List.mem_singleton] at hu; subst hu; rfl) (by decide) (by unfold maxLen; omega) (by omega) (by simp; omega) (wr.heap.size + 1) (by simp) ?_; intro g cap' w1 hown hgrow hat hlt1; have q3 := box_grown (HB4.out.2.2.1.old _) (HV.out.alloc _) (by rw [← HL.out]; exact hgrow) hB.2.2.1; have q2 := box_grown (HB4.out.2.1.old _) (HV.out.alloc _) (by rw [← HL.out]; exact hgrow) hB.2.2.2; have e3 := q3.cell 0; have g3 := q3.free 0; have e2 := q2.cell 0; have k3 := q3.lt; have k2 := q2.lt; (try simp at e3 e2))
          have HPush : Hid (SlotSt W0 Bk Bo Bv Bg k (w1.setCell ⟨Bv, 0, none⟩ (.slice (some ⟨g, 0, none⟩) (L + 1) cap')) (cur ++ [x]) (outs ++ preS m true cur x)) := hide (by
            have hown' := hown
            rw [HL.out] at hown' hgrow hat ⊢
            exact slot_push hB n1 n2 n3 HB4.out.1 HB4.out.2.1 HB4.out.2.2.1 HB4.out.2.2.2.1 HV.out HB4.out.2.2.2.2.1 HB4.out.2.2.2.2.2 _ hown' hgrow hat)
          clear hown hgrow hat hlt1 q3 q2 e3 g3 e2 k3 k2 c2 c3 f3 lv lg HV HB4
          refine (HIH.out true (cur ++ [x]) _ _ (by have := HC.out; simp; omega) (by have := HO.out; have := preS_len (m := m) (b := true) (cur := cur) hlt; rw [List.length_append]; rw [Nat.pow_succ] at *; omega) HPush.out).mono ?_
          rintro e w3 ⟨rfl, hst⟩
          obtain ⟨pa, pcap, pbox, ple, pst⟩ := slot_pop hB n1 n2 n3 hst
          rw [← HL.out] at pbox ple pst
          have c5 := pbox.cell 0
          have f5 := pbox.free 0
          have l5 := pbox.lt
          simp at c5
          have HSt := hide pst
          have ple' : L ≤ pcap := by omega
          clear hst pbox pst HPush
          go_wp2
          go_roundw
          case rel => exact ⟨x + 1, by omega, by omega, rfl, hide (by rw [preS_true hx0 hlt, ← List.append_assoc]; exact HSt.out)⟩
          case measure => simp [intOf]; omega
        | false =>
          have hge : 0 ≤ x := by
            rcases Int.lt_or_le x 0 with h | h
            · exact absurd ⟨rfl, h⟩ hskip
            · exact h
          have d2 : decide (0 ≤ x) = true := by simpa using hge
          clear hskip
          go_wp2_with (at_builtin; refine wpList_append_lies _ (by rfl) _ _ 51 (by rfl) W0.heap.size 3 i0 (.int .i64 0) 1 8 Try.underlying51 hi hz0 hz1 hz2 (by rfl) (by decide) (.slice ao L cap) L (cur.map (Value.int .i64)) (by rfl) (by rw [HL.out]; exact HV.out.alloc _) ⟨wr.heap.size, 0, none⟩ 1 1 [.int .i64 x] (by rfl) (by rfl) (by intro j u hj; rw [add_zero_row, (Box.new wr _ _).cell j]; simpa using hj) (by intro u hu; rw [List.mem_singleton] at hu; subst hu; rfl) (by decide) (by unfold maxLen; omega) (by omega) (by simp; omega) (wr.heap.size + 1) (by simp) ?_; intro g cap' w1 hown hgrow hat hlt1; have q3 := box_grown (HB4.out.2.2.1.old _) (HV.out.alloc _) (by rw [← HL.out]; exact hgrow) hB.2.2.1; have q2 := box_grown (HB4.out.2.1.old _) (HV.out.alloc _) (by rw [← HL.out]; exact hgrow) hB.2.2.2; have e3 := q3.cell 0; have g3 := q3.free 0; have e2 := q2.cell 0; have k3 := q3.lt; have k2 := q2.lt; (try simp at e3 e2))
          have HPush : Hid (SlotSt W0 Bk Bo Bv Bg k (w1.setCell ⟨Bv, 0, none⟩ (.slice (some ⟨g, 0, none⟩) (L + 1) cap')) (cur ++ [x]) (outs ++ preS m false cur x)) := hide (by
            have hown' := hown
            rw [HL.out] at hown' hgrow hat ⊢
            exact slot_push hB n1 n2 n3 HB4.out.1 HB4.out.2.1 HB4.out.2.2.1 HB4.out.2.2.2.1 HV.out HB4.out.2.2.2.2.1 HB4.out.2.2.2.2.2 _ hown' hgrow hat)
          clear hown hgrow hat hlt1 q3 q2 e3 g3 e2 k3 k2 c2 c3 f3 lv lg HV HB4
          refine (HIH.out (x == 1) (cur ++ [x]) _ _ (by have := HC.out; simp; omega) (by have := HO.out; have := preS_len (m := m) (b := false) (cur := cur) hlt; rw [List.length_append]; rw [Nat.pow_succ] at *; omega) HPush.out).mono ?_
          rintro e w3 ⟨rfl, hst⟩
          obtain ⟨pa, pcap, pbox, ple, pst⟩ := slot_pop hB n1 n2 n3 hst
          rw [← HL.out] at pbox ple pst
          have c5 := pbox.cell 0
          have f5 := pbox.free 0
          have l5 := pbox.lt
          simp at c5
          have HSt := hide pst
          have ple' : L ≤ pcap := by omega
          clear hst pbox pst HPush
          go_wp2
          go_roundw
          case rel => exact ⟨x + 1, by omega, by omega, rfl, hide (by rw [preS_false hge hlt, ← List.append_assoc]; exact HSt.out)⟩
          case measure => simp [intOf]; omega
    · have d1 : decide (x ≤ 1) = false := by simpa using hlt
      have HH : Hid (SlotSt W0 Bk Bo Bv Bg k wr cur (outs ++ W.gs (m + 1) b cur)) := hide (by rw [← preS_end (x := x) (by omega)]; exact hI.out)
      go_wp2
      go_end0
      exact ⟨rfl, HH.out⟩

theorem slot_all (W0 : World) (Bk Bo Bv Bg k : Nat) (hB : Bk < W0.heap.size ∧ Bo < W0.heap.size ∧ Bv < W0.heap.size ∧ Bg < W0.heap.size) (n1 : Bv ≠ Bo) (n2 : Bv ≠ Bk) (n3 : Bv ≠ Bg) (n4 : Bo ≠ Bk) (n5 : Bo ≠ Bg) (hk : k ≤ 3) : ∀ m, SlotOk W0 Bk Bo Bv Bg k m
  | 0 => fun b cur outs w hc ho h => slot_end W0 Bk Bo Bv Bg k hB n1 n2 n3 n4 n5 hk b cur outs w (by simpa using hc) (by simp at ho; omega) h
  | m + 1 => slot_step W0 Bk Bo Bv Bg k m hB n1 n2 n3 hk (slot_all W0 Bk Bo Bv Bg k hB n1 n2 n3 n4 n5 hk m)

set_option maxRecDepth 100000 in
set_option maxHeartbeats 2000000 in
theorem slots_any (k : Nat) (hk : k ≤ 3) (w : World) :
    Calls Try.prog 71 #[.int .i64 (k : Int)] w fun e w' => ∃ v, e = .returned v ∧ Rows2 w' w.heap.size v (W.slotsM k) ∧ Chg [] w w' := by
  go_enter Try.func71, Try.ntmps71
  go_wp2_with fail
  have hc0 : Chg [] w ((((w.alloc (.cells #[.int .i64 (k : Int)] 3)).alloc (.cells #[.slice none 0 0] 62)).alloc (.cells #[.slice none 0 0] 51)).alloc (.cells #[.func (.func 87) #[] #[.pointer (some ⟨w.heap.size + 1 + 1, 0, none⟩), .pointer (some ⟨w.heap.size, 0, none⟩), .pointer (some ⟨w.heap.size + 1, 0, none⟩), .pointer (some ⟨w.heap.size + 1 + 1 + 1, 0, none⟩)]] 109)) := (((((Chg.refl [] w).alloc _).alloc _).alloc _).alloc _)
  have b1 : Box ((((w.alloc (.cells #[.int .i64 (k : Int)] 3)).alloc (.cells #[.slice none 0 0] 62)).alloc (.cells #[.slice none 0 0] 51)).alloc (.cells #[.func (.func 87) #[] #[.pointer (some ⟨w.heap.size + 1 + 1, 0, none⟩), .pointer (some ⟨w.heap.size, 0, none⟩), .pointer (some ⟨w.heap.size + 1, 0, none⟩), .pointer (some ⟨w.heap.size + 1 + 1 + 1, 0, none⟩)]] 109)) w.heap.size #[.int .i64 (k : Int)] 3 := (((Box.new w #[.int .i64 (k : Int)] 3).old _).old _).old _
  have b4 : Box ((((w.alloc (.cells #[.int .i64 (k : Int)] 3)).alloc (.cells #[.slice none 0 0] 62)).alloc (.cells #[.slice none 0 0] 51)).alloc (.cells #[.func (.func 87) #[] #[.pointer (some ⟨w.heap.size + 1 + 1, 0, none⟩), .pointer (some ⟨w.heap.size, 0, none⟩), .pointer (some ⟨w.heap.size + 1, 0, none⟩), .pointer (some ⟨w.heap.size + 1 + 1 + 1, 0, none⟩)]] 109)) (w.heap.size + 1) #[.slice none 0 0] 62 := ((Box.at (w.alloc (.cells #[.int .i64 (k : Int)] 3)) #[.slice none 0 0] 62 (by simp)).old _).old _
  have b3 : Box ((((w.alloc (.cells #[.int .i64 (k : Int)] 3)).alloc (.cells #[.slice none 0 0] 62)).alloc (.cells #[.slice none 0 0] 51)).alloc (.cells #[.func (.func 87) #[] #[.pointer (some ⟨w.heap.size + 1 + 1, 0, none⟩), .pointer (some ⟨w.heap.size, 0, none⟩), .pointer (some ⟨w.heap.size + 1, 0, none⟩), .pointer (some ⟨w.heap.size + 1 + 1 + 1, 0, none⟩)]] 109)) (w.heap.size + 1 + 1) #[.slice none 0 0] 51 := (Box.at ((w.alloc (.cells #[.int .i64 (k : Int)] 3)).alloc (.cells #[.slice none 0 0] 62)) #[.slice none 0 0] 51 (by simp)).old _
  have b2 : Box ((((w.alloc (.cells #[.int .i64 (k : Int)] 3)).alloc (.cells #[.slice none 0 0] 62)).alloc (.cells #[.slice none 0 0] 51)).alloc (.cells #[.func (.func 87) #[] #[.pointer (some ⟨w.heap.size + 1 + 1, 0, none⟩), .pointer (some ⟨w.heap.size, 0, none⟩), .pointer (some ⟨w.heap.size + 1, 0, none⟩), .pointer (some ⟨w.heap.size + 1 + 1 + 1, 0, none⟩)]] 109)) (w.heap.size + 1 + 1 + 1) #[.func (.func 87) #[] #[.pointer (some ⟨w.heap.size + 1 + 1, 0, none⟩), .pointer (some ⟨w.heap.size, 0, none⟩), .pointer (some ⟨w.heap.size + 1, 0, none⟩), .pointer (some ⟨w.heap.size + 1 + 1 + 1, 0, none⟩)]] 109 := Box.at (((w.alloc (.cells #[.int .i64 (k : Int)] 3)).alloc (.cells #[.slice none 0 0] 62)).alloc (.cells #[.slice none 0 0] 51)) #[.func (.func 87) #[] #[.pointer (some ⟨w.heap.size + 1 + 1, 0, none⟩), .pointer (some ⟨w.heap.size, 0, none⟩), .pointer (some ⟨w.heap.size + 1, 0, none⟩), .pointer (some ⟨w.heap.size + 1 + 1 + 1, 0, none⟩)]] 109 (by simp)
  generalize ((((w.alloc (.cells #[.int .i64 (k : Int)] 3)).alloc (.cells #[.slice none 0 0] 62)).alloc (.cells #[.slice none 0 0] 51)).alloc (.cells #[.func (.func 87) #[] #[.pointer (some ⟨w.heap.size + 1 + 1, 0, none⟩), .pointer (some ⟨w.heap.size, 0, none⟩), .pointer (some ⟨w.heap.size + 1, 0, none⟩), .pointer (some ⟨w.heap.size + 1 + 1 + 1, 0, none⟩)]] 109)) = W0 at hc0 b1 b2 b3 b4 ⊢
  have hst : SlotSt W0 w.heap.size (w.heap.size + 1) (w.heap.size + 1 + 1) (w.heap.size + 1 + 1 + 1) k W0 [] [] := ⟨_, _, b1, b2, b3, b4, World.ownsRow_nil _ _ _ _, ⟨[], rfl, World.ownsRow_nil _ _ _ _, fun i u h => by simp at h⟩, Chg.refl _ _⟩
  have hle : w.heap.size ≤ W0.heap.size := hc0.size
  have HC0 := hide hc0
  have HLe := hide hle
  refine (slot_all W0 w.heap.size (w.heap.size + 1) (w.heap.size + 1 + 1) (w.heap.size + 1 + 1 + 1) k ⟨b1.lt, b4.lt, b3.lt, b2.lt⟩ (by omega) (by omega) (by omega) (by omega) (by omega) hk k false [] [] W0 (by simp) (by have : 3 ^ k ≤ 3 ^ 3 := Nat.pow_le_pow_right (by decide) hk; simp; omega) hst).mono ?_
  rintro e w1 ⟨rfl, vv, vo, _, _, _, q4, _, hx, hch⟩
  have c4 := q4.cell 0
  simp at c4
  have HX := hide hx.toRows2
  have HCh := hide hch
  obtain ⟨us, u1, u2, u3⟩ := hx
  obtain ⟨oo, ocap, rfl, _⟩ := row_shape u2
  clear hc0 b1 b2 b3 b4 hst q4 hch u1 u2 u3 hle
  go_wp2
  go_ret
  refine ⟨_, rfl, ?_, HC0.out.trans' HCh.out (fun x hx => .inr (by simp at hx; omega))⟩
  obtain ⟨us, u1, u2, u3⟩ := HX.out
  exact ⟨us, u1, row_low u2 HLe.out, u3⟩
end Go.Proofs.Ytohdjlgghkcaoaa
