/- Walk: orders: Close. -/
import Derived.Test.YtpplihpfjniacaaDoorAd1
namespace Go.Proofs.YtpplihpfjniacaaDoor
open Go.RowKit Go.Shelf

/-- A pair of elements, as the program has it. -/
def toPr (p : Nat × Nat) : Pr := ((p.1 : Int), (p.2 : Int))
theorem callClose (args : Array Value) (W : World) : (callFunc 39 args).run Tryd.prog W = .ok (.enter 39 args) W := enters_of Tryd.func39 (by kernel_rfl) rfl args W
set_option maxRecDepth 100000 in
theorem close_in (n x y Z : Nat) (A : Nat → Nat) (w : World) (hx : x < n) (hy : y < n) (hZ : Box w Z (ordC n A) 72) :
    Calls Tryd.prog 39 #[prV (toPr (x, y)), .pointer (some ⟨Z, 0, none⟩)] w (Ret (.bool false) w) := by
  unfold prV toPr
  dsimp only
  have b2 := Box.new w #[.int .i64 (x : Int), .int .i64 (y : Int)] 35
  have c2 := (Chg.refl [] w).alloc (.cells #[.int .i64 (x : Int), .int .i64 (y : Int)] 35)
  have z2 : (w.alloc (.cells #[.int .i64 (x : Int), .int .i64 (y : Int)] 35)).heap.size = w.heap.size + 1 := by simp
  have HEx := hide fun ws => element_any n A x ws hx
  have HEy := hide fun ws => element_any n A y ws hy
  unfold ordV ordC at HEx HEy
  obtain ⟨⟨f0, f1, f2, f3, f4, f5, f6⟩, l3⟩ := ord_all hZ
  have HZ := hide hZ
  have HB2 := hide b2
  have HC2 := hide c2
  clear hZ hx hy b2 c2 z2
  go_enter Tryd.func39, Tryd.ntmps39
  go_wp2_with fail
  refine (HEx.out _).mono ?_
  rintro e w3 ⟨rfl, h3⟩
  have HZ3 := HZ.out.keep (HC2.out.trans h3) List.not_mem_nil
  have HC3 := hide (HC2.out.trans h3)
  have b3 := HB2.out.keep h3 List.not_mem_nil
  clear f0 f1 f2 f3 f4 f5 f6 l3 h3
  obtain ⟨⟨f0, f1, f2, f3, f4, f5, f6⟩, l3⟩ := ord_all HZ3
  have x0 := b3.cell 0
  have x1 := b3.cell 1
  have lx := b3.lt
  simp only [List.getElem?_toArray, List.getElem?_cons_zero, List.getElem?_cons_succ] at x0 x1
  clear b3 HZ3
  go_wp2_with fail
  refine (HEy.out _).mono ?_
  rintro e w4 ⟨rfl, h4⟩
  have HC4 := hide (HC3.out.trans h4)
  clear f0 f1 f2 f3 f4 f5 f6 l3 x0 x1 lx h4
  go_wp2
  go_ret
  exact ⟨rfl, HC4.out⟩

def closeV (n : Nat) (o : Option (Nat → Nat)) (w : World) (e : Ending) (w' : World) : Prop := Chg [] w w' ∧ (match o with
  | some A => ∃ u, e = .returned (.tuple #[u, .int .i64 0]) ∧ Ints w' u (ordL n A)
  | none => e = .returned (.tuple #[.slice none 0 0, .int .i64 4]))
set_option maxRecDepth 100000 in
set_option maxHeartbeats 4000000 in
theorem Close_any (n : Nat) (v : Value) (ps : List (Nat × Nat)) (w : World) (hv : SeeP w v (ps.map toPr)) (h1 : 1 ≤ n) (h6 : n ≤ 6) (hl : ps.length ≤ 30) (hp : ∀ p ∈ ps, p.1 < n ∧ p.2 < n) (hT : Tz w) :
    Calls Tryd.prog 15 #[.int .i64 (n : Int), v] w (closeV n (Tr.closeN n ps fun _ => 0) w) := by
  have HV := hide hv
  obtain ⟨ao, cap, rfl, _⟩ := hv.shape
  rw [List.length_map] at HV ⊢
  have HP := hide hp
  have HT := hide hT
  have d1 : decide ((n : Int) < 1) = false := by simp; omega
  have d2 : decide ((n : Int) > 6) = false := by simp; omega
  have d2' : decide ((6 : Int) < (n : Int)) = false := by simp; omega
  have d2n : decide (6 < n) = false := by simp; omega
  obtain ⟨m, hm⟩ : ∃ m, m = ps.length := ⟨_, rfl⟩
  rw [← hm] at HV hl ⊢
  have d3 : decide ((m : Int) > 30) = false := by simp; omega
  have d3' : decide ((30 : Int) < (m : Int)) = false := by simp; omega
  have d3n : decide (30 < m) = false := by simp; omega
  have HM := hide hm
  clear hm hv hp hT
  go_enter Tryd.func15, Tryd.ntmps15
  go_wp2_with fail
  have b6 := Box.new w (ordC n fun _ => 0) 72
  have c6 := (Chg.refl [] w).alloc (.cells (ordC n fun _ => 0) 72)
  obtain ⟨Z, hZ⟩ : ∃ Z, Z = w.heap.size := ⟨_, rfl⟩
  rw [← hZ] at b6
  have HZ := hide hZ
  have HIn := hide fun W6 (hb : Box W6 Z (ordC n fun _ => 0) 72) (hc : Chg [] w W6) => Contains_pairs 39 #[.pointer (some ⟨Z, 0, none⟩)] (fun _ => false) (.slice ao m cap) (ps.map toPr) W6 (HV.out.keep hc) (by rw [List.length_map, ← HM.out]; omega) callClose (fun r ws hr hws => by
    obtain ⟨p, hp, rfl⟩ := List.mem_map.1 hr
    obtain ⟨p1, p2⟩ := HP.out p hp
    exact close_in n p.1 p.2 Z _ ws p1 p2 (hb.keep hws List.not_mem_nil))
  have ean : (ps.map toPr).any (fun _ => false) = false := by rw [Bool.eq_false_iff]; intro h; obtain ⟨_, _, h⟩ := List.any_eq_true.1 h; cases h
  rw [ean] at HIn
  change Calls _ _ _ (w.alloc (.cells (ordC n fun _ => 0) 72)) _
  rw [← hZ]
  generalize w.alloc (.cells (ordC n fun _ => 0) 72) = W6 at b6 c6 ⊢
  have HB6 := hide b6
  have HC6 := hide c6
  clear b6 c6 hZ ean d1 d2 d2' d2n d3 d3' d3n
  refine (HIn.out W6 HB6.out HC6.out).mono ?_
  rintro e w7 ⟨rfl, h7⟩
  have H7 := hide (And.intro (HB6.out.keep h7 List.not_mem_nil) (HC6.out.trans h7))
  clear HB6 HC6 HIn h7
  have HN1 := hide (And.intro h1 h6)
  go_wp2
  go_loopw [27] (fun iv wr => ∃ (k : Nat) (A : Nat → Nat), k ≤ m ∧ iv = .int .i64 (k : Int) ∧ Hid (Tr.Ord n A ∧ Tr.closeN n (ps.drop k) A = Tr.closeN n ps (fun _ => 0) ∧ Box wr Z (ordC n A) 72 ∧ Chg [] w wr)) (fun iv _ => m - (intOf iv).toNat)
  case atStart => exact ⟨0, _, Nat.zero_le _, rfl, hide ⟨Tr.ord_zero n, rfl, H7.out⟩⟩
  case round =>
    obtain ⟨k, A, hk, rfl, hI⟩ := hrel
    by_cases hlt : k < m
    · have d5 : decide ((k : Int) < (m : Int)) = true := by simp; omega
      have hlk : k < ps.length := by rw [← HM.out]; exact hlt
      have hdr : ps.drop k = ps[k] :: ps.drop (k + 1) := List.drop_eq_getElem_cons hlk
      have hpk := HP.out _ (List.getElem_mem hlk)
      have hget : (ps.map toPr).getD k pr0 = toPr ps[k] := by
        rw [List.getD_eq_getElem?_getD, List.getElem?_map, List.getElem?_eq_getElem hlk]
        rfl
      have hne : ps.map toPr ≠ [] := fun e => by
        have := congrArg List.length e
        rw [List.length_map] at this
        simp at this
        rw [this] at hlk; simp at hlk
      obtain ⟨a, cap', e, _, hc⟩ := HV.out.open hne
      rw [List.length_map, ← HM.out] at e
      obtain ⟨rfl, rfl⟩ : ao = some a ∧ cap = cap' := by simpa using e
      obtain ⟨fx, fy⟩ := hc wr hI.out.2.2.2 k (by rw [List.length_map]; exact hlk)
      rw [hget] at fx fy
      obtain ⟨p, hp⟩ : ∃ p, p = ps[k] := ⟨_, rfl⟩
      rw [← hp] at fx fy hpk hdr
      obtain ⟨x, y⟩ := p
      unfold toPr at fx fy
      dsimp only at fx fy hpk
      obtain ⟨hxn, hyn⟩ := hpk
      have HCl : Hid ((if x = y ∨ (A y).testBit x = true then none else Tr.closeN n (ps.drop (k + 1)) (Tr.addN n A x y)) = Tr.closeN n ps (fun _ => 0)) := hide (by
        rw [← hI.out.2.1, hdr]; rfl)
      have HOrd := hide hI.out.1
      have HW := hide hI.out.2.2
      have hA64 : ∀ j, A j < 64 := fun j => Nat.lt_of_lt_of_le (HOrd.out.lt j) (Nat.pow_le_pow_right (n := 2) (by decide) HN1.out.2)
      have ep := pt_bit (s := A y) (x := x) (by have := hA64 y; omega)
      have HAdd := hide fun ws hw => add_any n x y A ws HN1.out.2 hxn hyn hA64 (HT.out.keep hw)
      obtain ⟨⟨f0, f1, f2, f3, f4, f5, f6⟩, l3⟩ := ord_all HW.out.1
      have fyA := ord_at HW.out.1 (show y < 6 by have := HN1.out; omega)
      have hzw := HZ.out
      have k0 : (0 : Int) ≤ (k : Int) := by omega
      have y0 : (0 : Int) ≤ (y : Int) := by omega
      have y6 : (y : Int) < 6 := by have := HN1.out; omega
      have x0 : (0 : Int) ≤ (x : Int) := by omega
      have x6 : (x : Int) < 64 := by have := HN1.out; omega
      have HXY := hide (And.intro hxn hyn)
      have zwr : Z < wr.heap.size := l3
      clear hI hdr hget hne e hc hp hxn hyn hlk hA64 hzw
      by_cases hxy : x = y
      · have d6 : ((x : Int) == (y : Int)) = true := by simp; omega
        have HN : Hid (Tr.closeN n ps (fun _ => 0) = none) := hide (by rw [← HCl.out, if_pos (.inl hxy)])
        clear hxy HCl
        go_wp2
        go_big_quiet (fail)
        go_wp2
        go_ret2
        refine ⟨?_, by rw [HN.out]; rfl⟩
        have hcw := HW.out.2
        (repeat' (first | with_reducible exact Chg.refl _ _ | with_reducible assumption | with_reducible apply Chg.drewN | with_reducible apply Chg.drew | with_reducible apply Chg.alloc | (with_reducible refine Chg.setCell ?_ (Or.inr ?_) _) | (with_reducible refine Chg.trans ?_ (by assumption)) | (simp; done) | (simp; omega)))
      · have d6 : ((x : Int) == (y : Int)) = false := by simp; omega
        cases htb : (A y).testBit x with
        | true =>
          rw [htb, if_pos rfl] at ep
          have HN : Hid (Tr.closeN n ps (fun _ => 0) = none) := hide (by rw [← HCl.out, if_pos (.inr htb)])
          clear hxy htb HCl
          go_wp2
          go_big_quiet (fail)
          go_wp2
          go_ret2
          refine ⟨?_, by rw [HN.out]; rfl⟩
          have hcw := HW.out.2
          (repeat' (first | with_reducible exact Chg.refl _ _ | with_reducible assumption | with_reducible apply Chg.drewN | with_reducible apply Chg.drew | with_reducible apply Chg.alloc | (with_reducible refine Chg.setCell ?_ (Or.inr ?_) _) | (with_reducible refine Chg.trans ?_ (by assumption)) | (simp; done) | (simp; omega)))
        | false =>
          rw [htb, if_neg (by decide)] at ep
          have HN : Hid (Tr.closeN n (ps.drop (k + 1)) (Tr.addN n A x y) = Tr.closeN n ps (fun _ => 0)) := hide (by
            rw [← HCl.out, if_neg]
            rintro (h | h)
            · exact hxy h
            · rw [htb] at h; cases h)
          have HO2 := hide (Tr.ord_add HOrd.out HXY.out.1 HXY.out.2 hxy htb)
          clear hxy htb HCl
          go_wp2
          go_big_quiet (fail)
          go_wp2_with fail
          have hcw := HW.out.2
          refine (HAdd.out _ (by (repeat' (first | with_reducible exact Chg.refl _ _ | with_reducible assumption | with_reducible apply Chg.drewN | with_reducible apply Chg.drew | with_reducible apply Chg.alloc | (with_reducible refine Chg.setCell ?_ (Or.inr ?_) _) | (with_reducible refine Chg.trans ?_ (by assumption)) | (simp; done) | (simp; omega))))).mono ?_
          rintro e w9 ⟨rfl, h9⟩
          have h9' := Chg.trans (((Chg.refl [] wr).alloc (.cells #[.int .i64 (x : Int), .int .i64 (y : Int)] 35)).drewN _) h9
          have hb9 := HW.out.1.keep h9' List.not_mem_nil
          have HB9 := hide hb9
          have HC9 := hide (hcw.trans h9')
          obtain ⟨⟨p0, p1, p2, p3, p4, p5, p6⟩, l4⟩ := ord_all hb9
          obtain ⟨g0, g1, g2, g3, g4, g5, g6⟩ := ord_free hb9
          unfold ordV ordC
          clear hb9 h9 h9' hcw f0 f1 f2 f3 f4 f5 f6 l3 fx fy fyA
          go_wp2
          go_roundw
          case rel =>
            exact ⟨k + 1, _, by omega, by go_num, hide ⟨HO2.out, HN.out, ord_put HB9.out, chg_put HC9.out (.inr (by rw [HZ.out]; exact Nat.le_refl _))⟩⟩
          case measure => simp [intOf]; omega
    · have d5 : decide ((k : Int) < (m : Int)) = false := by simp; omega
      obtain rfl : k = m := by omega
      have HE : Hid (Tr.closeN n ps (fun _ => 0) = some A) := hide (by
        have := hI.out.2.1
        rw [HM.out, List.drop_length] at this
        rw [← this]; rfl)
      obtain ⟨⟨f0, f1, f2, f3, f4, f5, f6⟩, l3⟩ := ord_all hI.out.2.2.1
      have HSl := hide fun ws => slice_any n A ws HN1.out.2
      unfold ordV ordC at HSl
      go_wp2_with fail
      refine (HSl.out _).mono ?_
      rintro e w8 ⟨u, rfl, hu, h8⟩
      have HU := hide hu
      have HC := hide (hI.out.2.2.2.trans h8)
      clear hu h8
      go_wp2
      go_ret2
      exact ⟨HC.out, by rw [HE.out]; exact ⟨u, rfl, HU.out⟩⟩
end Go.Proofs.YtpplihpfjniacaaDoor
