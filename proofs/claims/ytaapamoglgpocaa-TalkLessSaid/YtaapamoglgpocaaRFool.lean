/- Walk: whether entries are a fooling set, the reference's. -/
import Derived.Test.YtaapamoglgpocaaFool5
import Derived.ArgAppend
import Derived.BigRegion
import Derived.Deep.RegionLaw
namespace Go.Proofs.Ytaapamoglgpocaa
open Go.RowKit

def ltB (a b : Pr) : Bool := decide (a.1 < b.1) || (decide (a.1 = b.1) && decide (a.2 < b.2))
def placeB (t : List (List Int)) (v : Int) (x : Pr) : Bool := decide (0 ≤ x.1) && decide (x.1 < t.length) && decide (0 ≤ x.2) && decide (x.2 < T.cols t) && decide (T.ent t x.1.toNat x.2.toNat = v)
def lastP (pre : List Pr) : Pr := pre.getD (pre.length - 1) pr0
/-- Whether an entry may follow these in a fooling set. -/
def stepB (t : List (List Int)) (v : Int) (pre : List Pr) (x : Pr) : Bool := placeB t v x && (pre.isEmpty || ltB (lastP pre) x) && pre.all (fun y => fooledB t v x y)
def foolsM (t : List (List Int)) (v : Int) (l : List Pr) : Bool := (List.range l.length).all fun i => stepB t v (l.take i) (l.getD i pr0)
theorem fools_false {t : List (List Int)} {v : Int} {l : List Pr} {i : Nat} (hi : i < l.length) (h : stepB t v (l.take i) (l.getD i pr0) = false) : foolsM t v l = false := by
  rw [Bool.eq_false_iff]
  intro hf
  have := List.all_eq_true.1 hf i (List.mem_range.2 hi)
  rw [h] at this
  cases this
theorem fools_true {t : List (List Int)} {v : Int} {l : List Pr} (h : ∀ i, i < l.length → stepB t v (l.take i) (l.getD i pr0) = true) : foolsM t v l = true := List.all_eq_true.2 fun i hi => h i (List.mem_range.1 hi)
theorem lastP_take {l : List Pr} {i : Nat} (hi : i < l.length) (h0 : 0 < i) : lastP (l.take i) = l.getD (i - 1) pr0 := by
  unfold lastP
  rw [List.length_take, Nat.min_eq_left (by omega), List.getD_eq_getElem?_getD, List.getD_eq_getElem?_getD, List.getElem?_take, if_pos (by omega)]
theorem take_ne {l : List Pr} {j : Nat} (h : j < l.length) : (l.take (j + 1)).isEmpty = false := by
  cases l with
  | nil => simp at h
  | cons a l => rfl
theorem step_place {t : List (List Int)} {v : Int} {pre : List Pr} {x : Pr} (h : stepB t v pre x = true) : placeB t v x = true := by
  unfold stepB at h
  rw [Bool.and_eq_true, Bool.and_eq_true] at h
  exact h.1.1
theorem step_true {t : List (List Int)} {v : Int} {l : List Pr} {i : Nat} {x : Pr} (hi : i < l.length) (h1 : placeB t v x = true) (h2 : ((l.take i).isEmpty || ltB (lastP (l.take i)) x) = true) (h3 : ∀ r, r < i → fooledB t v x (l.getD r pr0) = true) : stepB t v (l.take i) x = true := by
  unfold stepB
  rw [h1, h2, Bool.true_and, Bool.true_and, List.all_eq_true]
  intro y hy
  obtain ⟨r, hr, he⟩ := List.getElem_of_mem hy
  rw [List.length_take] at hr
  rw [List.getElem_take] at he
  have := h3 r (by omega)
  rw [List.getD_eq_getElem?_getD, List.getElem?_eq_getElem (by omega)] at this
  rw [← he]
  exact this
theorem step_unfooled {t : List (List Int)} {v : Int} {l : List Pr} {i r : Nat} {x : Pr} (hi : i < l.length) (hr : r < i) (h : fooledB t v x (l.getD r pr0) = false) : stepB t v (l.take i) x = false := by
  rw [Bool.eq_false_iff]
  intro hs
  unfold stepB at hs
  rw [Bool.and_eq_true, List.all_eq_true] at hs
  have := hs.2 (l.getD r pr0) (by
    rw [List.getD_eq_getElem?_getD, List.getElem?_eq_getElem (by omega)]
    exact List.mem_take_iff_getElem.2 ⟨r, by omega, rfl⟩)
  rw [h] at this
  cases this
theorem place_false {t : List (List Int)} {v : Int} {pre : List Pr} {x : Pr} (h : placeB t v x = false) : stepB t v pre x = false := by unfold stepB; rw [h]; rfl
theorem order_false {t : List (List Int)} {v : Int} {pre : List Pr} {x : Pr} (h : (pre.isEmpty || ltB (lastP pre) x) = false) : stepB t v pre x = false := by unfold stepB; rw [h]; simp
theorem placeB_iff {t : List (List Int)} {v : Int} {x : Pr} : placeB t v x = true ↔ 0 ≤ x.1 ∧ x.1 < t.length ∧ 0 ≤ x.2 ∧ x.2 < T.cols t ∧ T.ent t x.1.toNat x.2.toNat = v := by
  unfold placeB
  simp [and_assoc]

set_option maxRecDepth 100000 in
set_option maxHeartbeats 8000000 in
theorem RFools_any (vt u : Value) (t : List (List Int)) (v : Int) (l : List Pr) (w : World) (hv : See2 w vt t) (ht : T.isTab t = true) (hu : SeeP w u l) (hl : l.length ≤ 9223372036854775807) :
    Calls Try.prog 43 #[vt, .int .i64 v, u] w (Ret (.bool (foolsM t v l)) w) := by
  obtain ⟨a, cap, rfl, hE⟩ := ent_cells hv ht
  have HE := hide hE
  obtain ⟨⟨t1, t2, t3, t4⟩, _⟩ := T.isTab_iff.1 ht
  obtain ⟨uo, ucap, rfl, hucap⟩ := hu.shape
  have HU := hide hu
  obtain ⟨R, hR⟩ : ∃ R, R = foolsM t v l := ⟨_, rfl⟩
  rw [← hR]
  have HF := hide (fun (i : Nat) (hi : i < l.length) (h : stepB t v (l.take i) (l.getD i pr0) = false) => hR.trans (fools_false hi h))
  have HTr := hide (fun (h : ∀ i, i < l.length → stepB t v (l.take i) (l.getD i pr0) = true) => hR.trans (fools_true h))
  have HPl := hide (fun (x : Pr) => placeB_iff (t := t) (v := v) (x := x))
  clear hv ht hE hu hR
  generalize hn : t.length = n at *
  generalize hm : T.cols t = m at *
  clear hn hm
  obtain ⟨L, hL⟩ : ∃ L, L = l.length := ⟨_, rfl⟩
  have HL := hide hL
  rw [← hL] at hl hucap HU HF HTr ⊢
  clear hL
  obtain ⟨b0, bc0, hr0⟩ := HE.out 0 (by omega)
  rw [add_nought] at hr0
  have H0 := hide (fun X (hX : Chg [] w X) => (hr0 X hX).1)
  have n0 : (0 : Int) < (n : Int) := by omega
  clear hr0
  go_enter Try.func43, Try.ntmps43
  go_wp2
  go_loopw [13] (fun iv wr => ∃ (i : Nat), i ≤ L ∧ iv = .int .i64 (i : Int) ∧ Hid ((∀ q, q < i → stepB t v (l.take q) (l.getD q pr0) = true) ∧ Chg [] w wr)) (fun iv _ => L - (intOf iv).toNat)
  case atStart => exact ⟨0, Nat.zero_le _, rfl, hide ⟨fun q h => by omega, Chg.refl _ _⟩⟩
  case round =>
    obtain ⟨i, hi, rfl, hI⟩ := hrel
    by_cases hlt : i < L
    · have d1 : decide ((i : Int) < (L : Int)) = true := by simpa using hlt
      have hil : i < l.length := by rw [← HL.out]; exact hlt
      have nx : l ≠ [] := by rintro rfl; simp at hil
      obtain ⟨ua, uc, e1, lua, hcell⟩ := HU.out.open nx
      obtain ⟨rfl, hL1, rfl⟩ : uo = some ua ∧ L = l.length ∧ ucap = uc := by simpa using e1
      have HC := hide hcell
      have C1 := hide hI.out.2
      have HQ := hide hI.out.1
      obtain ⟨x0, x1⟩ := hcell wr hI.out.2 i hil
      obtain ⟨x, hx⟩ : ∃ x, x = l.getD i pr0 := ⟨_, rfl⟩
      rw [← hx] at x0 x1
      have HX := hide hx
      obtain ⟨xa, xb⟩ := x
      have hEx := HF.out i hlt
      rw [← hx] at hEx
      have HEx := hide hEx
      have i0 : (0 : Int) ≤ (i : Int) := by omega
      have i1 : (i : Int) < (L : Int) := by omega
      have bx := Box.new wr #[.int .i64 xa, .int .i64 xb] 60
      have hc2 : Chg [] wr (wr.alloc (.cells #[.int .i64 xa, .int .i64 xb] 60)) := (Chg.refl _ _).alloc _
      clear e1 hL1 hcell hI hx nx hEx
      go_wp2
      generalize wr.alloc (.cells #[.int .i64 xa, .int .i64 xb] 60) = w2 at bx hc2 ⊢
      generalize wr.heap.size = Bx at bx ⊢
      have BX := hide bx
      have C2 : Hid (Chg [] w w2) := hide (C1.out.trans hc2)
      have b0' := bx.cell 0
      have b1' := bx.cell 1
      have lbx := bx.lt
      simp only [List.getElem?_toArray, List.getElem?_cons_zero, List.getElem?_cons_succ] at b0' b1'
      have f0 := H0.out w2 C2.out
      clear bx hc2 x0 x1
      by_cases h : xa < 0
      · have d : decide (xa < 0) = true := by simpa using h
        have E : Hid (R = false) := hide (HEx.out (place_false (by rw [Bool.eq_false_iff]; intro h; have h' := (HPl.out _).1 h; simp only [] at h'; omega)))
        clear h
        try go_wp2
        go_quiet (fail)
        go_wp2
        go_ret
        exact ⟨by rw [E.out]; rfl, C2.out.drewN _⟩
      have e1 : decide (xa < 0) = false := by simpa using h
      obtain ⟨p, rfl⟩ := Int.eq_ofNat_of_zero_le (show 0 ≤ xa by omega)
      clear h
      by_cases h : (n : Int) ≤ (p : Int)
      · have d : decide ((n : Int) ≤ (p : Int)) = true := by simpa using h
        have d' : decide (n ≤ p) = true := by simp; omega
        have E : Hid (R = false) := hide (HEx.out (place_false (by rw [Bool.eq_false_iff]; intro h; have h' := (HPl.out _).1 h; simp only [] at h'; omega)))
        clear h
        try go_wp2
        go_quiet (fail)
        go_wp2
        go_ret
        exact ⟨by rw [E.out]; rfl, C2.out.drewN _⟩
      have e2 : decide ((n : Int) ≤ (p : Int)) = false := by simpa using h
      have e2' : decide (n ≤ p) = false := by simp; omega
      have hp : p < n := by omega
      clear h
      by_cases h : xb < 0
      · have d : decide (xb < 0) = true := by simpa using h
        have E : Hid (R = false) := hide (HEx.out (place_false (by rw [Bool.eq_false_iff]; intro h; have h' := (HPl.out _).1 h; simp only [] at h'; omega)))
        clear h
        try go_wp2
        go_quiet (fail)
        go_wp2
        go_ret
        exact ⟨by rw [E.out]; rfl, C2.out.drewN _⟩
      have e3 : decide (xb < 0) = false := by simpa using h
      obtain ⟨q, rfl⟩ := Int.eq_ofNat_of_zero_le (show 0 ≤ xb by omega)
      clear h
      by_cases h : (m : Int) ≤ (q : Int)
      · have d : decide ((m : Int) ≤ (q : Int)) = true := by simpa using h
        have d' : decide (m ≤ q) = true := by simp; omega
        have E : Hid (R = false) := hide (HEx.out (place_false (by rw [Bool.eq_false_iff]; intro h; have h' := (HPl.out _).1 h; simp only [] at h'; omega)))
        clear h
        try go_wp2
        go_quiet (fail)
        go_wp2
        go_ret
        exact ⟨by rw [E.out]; rfl, C2.out.drewN _⟩
      have e4 : decide ((m : Int) ≤ (q : Int)) = false := by simpa using h
      have e4' : decide (m ≤ q) = false := by simp; omega
      have hq : q < m := by omega
      clear h
      obtain ⟨bp, bpc, hrow⟩ := HE.out p hp
      have HRow := hide hrow
      have fr := (hrow w2 C2.out).1
      have fx := (hrow w2 C2.out).2 q hq
      have p0 : (0 : Int) ≤ (p : Int) := by omega
      have p1 : (p : Int) < (n : Int) := by omega
      have q0 : (0 : Int) ≤ (q : Int) := by omega
      have q1 : (q : Int) < (m : Int) := by omega
      obtain ⟨z, hz⟩ : ∃ z, z = T.ent t p q := ⟨_, rfl⟩
      rw [← hz] at fx
      have HZ := hide hz
      clear hrow hz
      by_cases h : z = v
      case' neg =>
        have d : (z != v) = true := by simpa using h
        have E : Hid (R = false) := hide (HEx.out (place_false (by rw [Bool.eq_false_iff]; intro hh; have h' := (HPl.out _).1 hh; simp only [Int.toNat_natCast] at h'; exact h (HZ.out.trans h'.2.2.2.2))))
        clear h
        try go_wp2
        go_quiet (fail)
        go_wp2
        go_ret
        exact ⟨by rw [E.out]; rfl, C2.out.drewN _⟩
      have d5 : (z != v) = false := by simpa using h
      have HPx : Hid (placeB t v ((p : Int), (q : Int)) = true) := hide ((HPl.out _).2 ⟨by simp only []; omega, by simp only []; omega, by simp only []; omega, by simp only []; omega, by simp only [Int.toNat_natCast]; exact HZ.out.symm.trans h⟩)
      clear h
      try go_wp2
      go_quiet (fail)
      have C3 : Hid (Chg [] w (w2.drewN nq)) := hide (C2.out.drewN _)
      have BX3 := hide (BX.out.keep ((Chg.refl [] w2).drewN nq) List.not_mem_nil)
      clear fr fx d5 b0' b1' lbx f0 BX C2
      generalize w2.drewN nq = w3 at C3 BX3 ⊢
      have b0' := BX3.out.cell 0
      have b1' := BX3.out.cell 1
      have lbx := BX3.out.lt
      simp only [List.getElem?_toArray, List.getElem?_cons_zero, List.getElem?_cons_succ] at b0' b1'
      by_cases hi0 : i = 0
      · subst hi0
        have HOrd : Hid (((l.take 0).isEmpty || ltB (lastP (l.take 0)) ((p : Int), (q : Int))) = true) := hide rfl
        go_wp2
        go_quiet (fail)
        have C4 : Hid (Chg [] w (w3.drewN nq)) := hide (C3.out.drewN _)
        have BX4 := hide (BX3.out.keep ((Chg.refl [] w3).drewN nq) List.not_mem_nil)
        clear b0' b1' lbx BX3 C3
        generalize w3.drewN nq = w4 at C4 BX4 ⊢
        have ic0 : (0 : Int) ≤ ((0 : Nat) : Int) := by omega
        have ic1 : ((0 : Nat) : Int) ≤ (ucap : Int) := by omega
        have ic2 : 0 ≤ ucap := by omega
        go_wp2
        go_loopw [94] (fun kv wq => ∃ (k : Nat), k ≤ 0 ∧ kv = .int .i64 (k : Int) ∧ Hid ((∀ r, r < k → fooledB t v ((p : Int), (q : Int)) (l.getD r pr0) = true) ∧ Chg [] w wq ∧ Box wq Bx #[.int .i64 (p : Int), .int .i64 (q : Int)] 60)) (fun kv _ => 0 - (intOf kv).toNat)
        case atStart => exact ⟨0, Nat.zero_le _, rfl, hide ⟨fun r h => by omega, C4.out, BX4.out⟩⟩
        case round =>
          obtain ⟨k, hk, rfl, hK⟩ := hrel
          by_cases hki : k < 0
          · exact absurd hki (Nat.not_lt_zero _)
          · have dk : decide ((k : Int) < ((0 : Nat) : Int)) = false := decide_eq_false (by omega)
            have dk' : decide (k < 0) = false := decide_eq_false (by omega)
            obtain rfl : k = 0 := by omega
            have HStep : Hid (stepB t v (l.take (0)) (l.getD (0) pr0) = true) := hide (by rw [← HX.out]; exact step_true hil HPx.out HOrd.out hK.out.1)
            go_wp2
            go_roundw
            case rel => exact ⟨0 + 1, by omega, by go_num, hide ⟨fun r' hr' => by
              rcases (show r' < 0 ∨ r' = 0 by omega) with h' | rfl
              · exact HQ.out r' h'
              · exact HStep.out, hK.out.2.1⟩⟩
            case measure => simp [intOf]; omega
      obtain ⟨j, rfl⟩ : ∃ j, i = j + 1 := ⟨i - 1, by omega⟩
      have hjl : j < l.length := by rw [← HL.out]; omega
      obtain ⟨y0, y1⟩ := HC.out w3 C3.out j hjl
      obtain ⟨y, hy⟩ : ∃ y, y = l.getD j pr0 := ⟨_, rfl⟩
      rw [← hy] at y0 y1
      have HLa : Hid (lastP (l.take (j + 1)) = y) := hide (by rw [lastP_take hil (by omega), hy]; rfl)
      have HNe : Hid ((l.take (j + 1)).isEmpty = false) := hide (take_ne (by omega))
      obtain ⟨pa, pb⟩ := y
      have dj : decide ((0 : Int) < ((j + 1 : Nat) : Int)) = true := decide_eq_true (by omega)
      have hw : IntKind.i64.wrap (((j + 1 : Nat) : Int) - 1) = (j : Int) := by rw [show ((j + 1 : Nat) : Int) - 1 = (j : Int) by omega]; exact wraps_i64 _ (by omega) (by omega)
      have j0 : (0 : Int) ≤ (j : Int) := by omega
      have j1 : (j : Int) < (L : Int) := by omega
      clear hy hi0
      by_cases h : (p : Int) < pa
      · have d : decide ((p : Int) < pa) = true := by simpa using h
        have E : Hid (R = false) := hide (HEx.out (order_false (by rw [HNe.out, HLa.out]; unfold ltB; simp only [Bool.false_or]; rw [decide_eq_false (by omega), decide_eq_false (by omega)]; rfl)))
        clear h
        try go_wp2
        go_quiet (fail)
        go_wp2
        go_ret
        exact ⟨by rw [E.out]; rfl, C3.out.drewN _⟩
      have g1 : decide ((p : Int) < pa) = false := by simpa using h
      have h1 := h
      clear h
      by_cases h : pa = (p : Int)
      · have g2 : (pa == (p : Int)) = true := by simpa using h
        by_cases h3 : (q : Int) ≤ pb
        · have d : decide ((q : Int) ≤ pb) = true := by simpa using h3
          have E : Hid (R = false) := hide (HEx.out (order_false (by rw [HNe.out, HLa.out]; unfold ltB; simp only [Bool.false_or]; rw [decide_eq_false (by omega), decide_eq_true h, decide_eq_false (by omega)]; rfl)))
          clear h h1 h3
          try go_wp2
          go_quiet (fail)
          go_wp2
          go_ret
          exact ⟨by rw [E.out]; rfl, C3.out.drewN _⟩
        · have g3 : decide ((q : Int) ≤ pb) = false := by simpa using h3
          have HOrd : Hid (((l.take (j + 1)).isEmpty || ltB (lastP (l.take (j + 1))) ((p : Int), (q : Int))) = true) := hide (by rw [HLa.out]; unfold ltB; rw [decide_eq_true h, decide_eq_true (show pb < (q : Int) by omega)]; simp)
          clear h h1 h3
          go_wp2
          go_quiet (fail)
          have C4 : Hid (Chg [] w (w3.drewN nq)) := hide (C3.out.drewN _)
          have BX4 := hide (BX3.out.keep ((Chg.refl [] w3).drewN nq) List.not_mem_nil)
          clear b0' b1' lbx BX3 C3
          generalize w3.drewN nq = w4 at C4 BX4 ⊢
          have ic0 : (0 : Int) ≤ (((j + 1) : Nat) : Int) := by omega
          have ic1 : (((j + 1) : Nat) : Int) ≤ (ucap : Int) := by omega
          have ic2 : (j + 1) ≤ ucap := by omega
          go_wp2
          go_loopw [94] (fun kv wq => ∃ (k : Nat), k ≤ (j + 1) ∧ kv = .int .i64 (k : Int) ∧ Hid ((∀ r, r < k → fooledB t v ((p : Int), (q : Int)) (l.getD r pr0) = true) ∧ Chg [] w wq ∧ Box wq Bx #[.int .i64 (p : Int), .int .i64 (q : Int)] 60)) (fun kv _ => (j + 1) - (intOf kv).toNat)
          case atStart => exact ⟨0, Nat.zero_le _, rfl, hide ⟨fun r h => by omega, C4.out, BX4.out⟩⟩
          case round =>
            obtain ⟨k, hk, rfl, hK⟩ := hrel
            by_cases hki : k < (j + 1)
            · have dk : decide ((k : Int) < (((j + 1) : Nat) : Int)) = true := decide_eq_true (by omega)
              have dk' : decide (k < (j + 1)) = true := decide_eq_true (by omega)
              obtain ⟨y0, y1⟩ := HC.out wr hK.out.2.1 k (by omega)
              obtain ⟨y, hy⟩ : ∃ y, y = l.getD k pr0 := ⟨_, rfl⟩
              have hpy := (HPl.out _).1 (step_place (HQ.out k (by omega)))
              rw [← hy] at y0 y1 hpy
              have HY := hide hy
              obtain ⟨ya, yb⟩ := y
              simp only [] at hpy
              obtain ⟨r, rfl⟩ := Int.eq_ofNat_of_zero_le hpy.1
              obtain ⟨s, rfl⟩ := Int.eq_ofNat_of_zero_le hpy.2.2.1
              have hrn : r < n := by omega
              have hsm : s < m := by omega
              obtain ⟨br, brc, hrowr⟩ := HE.out r hrn
              have HRr := hide hrowr
              have HK := hide hK.out.1
              have CK := hide hK.out.2.1
              have BK := hide hK.out.2.2
              have k0 : (0 : Int) ≤ (k : Int) := by omega
              have k1 : (k : Int) < (((j + 1) : Nat) : Int) := by omega
              have r0 : (0 : Int) ≤ (r : Int) := by omega
              have r1 : (r : Int) < (n : Int) := by omega
              have s0 : (0 : Int) ≤ (s : Int) := by omega
              have s1 : (s : Int) < (m : Int) := by omega
              have by0 := Box.new wr #[.int .i64 (r : Int), .int .i64 (s : Int)] 60
              have hc5 : Chg [] wr (wr.alloc (.cells #[.int .i64 (r : Int), .int .i64 (s : Int)] 60)) := (Chg.refl _ _).alloc _
              clear hy hpy hrowr hK
              go_wp2
              generalize wr.alloc (.cells #[.int .i64 (r : Int), .int .i64 (s : Int)] 60) = w5 at by0 hc5 ⊢
              generalize wr.heap.size = By at by0 ⊢
              have C5 : Hid (Chg [] w w5) := hide (CK.out.trans hc5)
              have BX5 := hide (BK.out.keep hc5 List.not_mem_nil)
              have a0 := BX5.out.cell 0
              have a1 := BX5.out.cell 1
              have la := BX5.out.lt
              have c0 := by0.cell 0
              have c1 := by0.cell 1
              have lc := by0.lt
              simp only [List.getElem?_toArray, List.getElem?_cons_zero, List.getElem?_cons_succ] at a0 a1 c0 c1
              obtain ⟨f1, f2a⟩ := HRow.out w5 C5.out
              obtain ⟨f3, f4a⟩ := HRr.out w5 C5.out
              have f2 := f2a s hsm
              have f4 := f4a q hq
              clear f2a f4a
              obtain ⟨g, hg⟩ : ∃ g, g = T.ent t p s := ⟨_, rfl⟩
              obtain ⟨h, hh⟩ : ∃ h, h = T.ent t r q := ⟨_, rfl⟩
              rw [← hg] at f2
              rw [← hh] at f4
              have HFo : Hid (fooledB t v ((p : Int), (q : Int)) ((r : Int), (s : Int)) = ((g != v) || (h != v))) := hide (by unfold fooledB; simp only [Int.toNat_natCast]; rw [hg, hh])
              clear by0 hc5 hg hh y0 y1
              by_cases hgv : g = v
              · have e1 : (g == v) = true := by simpa using hgv
                have e1' : (g != v) = false := by simpa using hgv
                by_cases hhv : h = v
                · have e2 : (h == v) = true := by simpa using hhv
                  have e2' : (h != v) = false := by simpa using hhv
                  have E : Hid (R = false) := hide (HEx.out (step_unfooled hil hki (by rw [← HY.out, HFo.out, e1', e2']; rfl)))
                  clear hgv hhv e1' e2'
                  go_quiet (fail)
                  go_wp2
                  go_ret
                  exact ⟨by rw [E.out]; rfl, C5.out.drewN _⟩
                · have e2 : (h == v) = false := by simpa using hhv
                  have e2' : (h != v) = true := by simpa using hhv
                  have HN2 : Hid (fooledB t v ((p : Int), (q : Int)) (l.getD k pr0) = true) := hide (by rw [← HY.out, HFo.out, e1', e2']; rfl)
                  clear hgv hhv e1' e2'
                  go_quiet (fail)
                  go_wp2
                  go_roundw
                  case rel => exact ⟨k + 1, by omega, by go_num, hide ⟨fun r' hr' => by
                    rcases (show r' < k ∨ r' = k by omega) with h' | rfl
                    · exact HK.out r' h'
                    · exact HN2.out, C5.out.drewN _, BX5.out.keep ((Chg.refl [] w5).drewN nq) List.not_mem_nil⟩⟩
                  case measure => simp [intOf]; omega
              · have e1 : (g == v) = false := by simpa using hgv
                have e1' : (g != v) = true := by simpa using hgv
                have HN2 : Hid (fooledB t v ((p : Int), (q : Int)) (l.getD k pr0) = true) := hide (by rw [← HY.out, HFo.out, e1']; rfl)
                clear hgv e1'
                go_quiet (fail)
                go_wp2
                go_roundw
                case rel => exact ⟨k + 1, by omega, by go_num, hide ⟨fun r' hr' => by
                  rcases (show r' < k ∨ r' = k by omega) with h' | rfl
                  · exact HK.out r' h'
                  · exact HN2.out, C5.out.drewN _, BX5.out.keep ((Chg.refl [] w5).drewN nq) List.not_mem_nil⟩⟩
                case measure => simp [intOf]; omega
            · have dk : decide ((k : Int) < (((j + 1) : Nat) : Int)) = false := decide_eq_false (by omega)
              have dk' : decide (k < (j + 1)) = false := decide_eq_false (by omega)
              obtain rfl : k = (j + 1) := by omega
              have HStep : Hid (stepB t v (l.take ((j + 1))) (l.getD ((j + 1)) pr0) = true) := hide (by rw [← HX.out]; exact step_true hil HPx.out HOrd.out hK.out.1)
              go_wp2
              go_roundw
              case rel => exact ⟨(j + 1) + 1, by omega, by go_num, hide ⟨fun r' hr' => by
                rcases (show r' < (j + 1) ∨ r' = (j + 1) by omega) with h' | rfl
                · exact HQ.out r' h'
                · exact HStep.out, hK.out.2.1⟩⟩
              case measure => simp [intOf]; omega
      · have g2 : (pa == (p : Int)) = false := by simpa using h
        have HOrd : Hid (((l.take (j + 1)).isEmpty || ltB (lastP (l.take (j + 1))) ((p : Int), (q : Int))) = true) := hide (by rw [HLa.out]; unfold ltB; rw [decide_eq_true (show pa < (p : Int) by omega)]; simp)
        clear h h1
        go_wp2
        go_quiet (fail)
        have C4 : Hid (Chg [] w (w3.drewN nq)) := hide (C3.out.drewN _)
        have BX4 := hide (BX3.out.keep ((Chg.refl [] w3).drewN nq) List.not_mem_nil)
        clear b0' b1' lbx BX3 C3
        generalize w3.drewN nq = w4 at C4 BX4 ⊢
        have ic0 : (0 : Int) ≤ (((j + 1) : Nat) : Int) := by omega
        have ic1 : (((j + 1) : Nat) : Int) ≤ (ucap : Int) := by omega
        have ic2 : (j + 1) ≤ ucap := by omega
        go_wp2
        go_loopw [94] (fun kv wq => ∃ (k : Nat), k ≤ (j + 1) ∧ kv = .int .i64 (k : Int) ∧ Hid ((∀ r, r < k → fooledB t v ((p : Int), (q : Int)) (l.getD r pr0) = true) ∧ Chg [] w wq ∧ Box wq Bx #[.int .i64 (p : Int), .int .i64 (q : Int)] 60)) (fun kv _ => (j + 1) - (intOf kv).toNat)
        case atStart => exact ⟨0, Nat.zero_le _, rfl, hide ⟨fun r h => by omega, C4.out, BX4.out⟩⟩
        case round =>
          obtain ⟨k, hk, rfl, hK⟩ := hrel
          by_cases hki : k < (j + 1)
          · have dk : decide ((k : Int) < (((j + 1) : Nat) : Int)) = true := decide_eq_true (by omega)
            have dk' : decide (k < (j + 1)) = true := decide_eq_true (by omega)
            obtain ⟨y0, y1⟩ := HC.out wr hK.out.2.1 k (by omega)
            obtain ⟨y, hy⟩ : ∃ y, y = l.getD k pr0 := ⟨_, rfl⟩
            have hpy := (HPl.out _).1 (step_place (HQ.out k (by omega)))
            rw [← hy] at y0 y1 hpy
            have HY := hide hy
            obtain ⟨ya, yb⟩ := y
            simp only [] at hpy
            obtain ⟨r, rfl⟩ := Int.eq_ofNat_of_zero_le hpy.1
            obtain ⟨s, rfl⟩ := Int.eq_ofNat_of_zero_le hpy.2.2.1
            have hrn : r < n := by omega
            have hsm : s < m := by omega
            obtain ⟨br, brc, hrowr⟩ := HE.out r hrn
            have HRr := hide hrowr
            have HK := hide hK.out.1
            have CK := hide hK.out.2.1
            have BK := hide hK.out.2.2
            have k0 : (0 : Int) ≤ (k : Int) := by omega
            have k1 : (k : Int) < (((j + 1) : Nat) : Int) := by omega
            have r0 : (0 : Int) ≤ (r : Int) := by omega
            have r1 : (r : Int) < (n : Int) := by omega
            have s0 : (0 : Int) ≤ (s : Int) := by omega
            have s1 : (s : Int) < (m : Int) := by omega
            have by0 := Box.new wr #[.int .i64 (r : Int), .int .i64 (s : Int)] 60
            have hc5 : Chg [] wr (wr.alloc (.cells #[.int .i64 (r : Int), .int .i64 (s : Int)] 60)) := (Chg.refl _ _).alloc _
            clear hy hpy hrowr hK
            go_wp2
            generalize wr.alloc (.cells #[.int .i64 (r : Int), .int .i64 (s : Int)] 60) = w5 at by0 hc5 ⊢
            generalize wr.heap.size = By at by0 ⊢
            have C5 : Hid (Chg [] w w5) := hide (CK.out.trans hc5)
            have BX5 := hide (BK.out.keep hc5 List.not_mem_nil)
            have a0 := BX5.out.cell 0
            have a1 := BX5.out.cell 1
            have la := BX5.out.lt
            have c0 := by0.cell 0
            have c1 := by0.cell 1
            have lc := by0.lt
            simp only [List.getElem?_toArray, List.getElem?_cons_zero, List.getElem?_cons_succ] at a0 a1 c0 c1
            obtain ⟨f1, f2a⟩ := HRow.out w5 C5.out
            obtain ⟨f3, f4a⟩ := HRr.out w5 C5.out
            have f2 := f2a s hsm
            have f4 := f4a q hq
            clear f2a f4a
            obtain ⟨g, hg⟩ : ∃ g, g = T.ent t p s := ⟨_, rfl⟩
            obtain ⟨h, hh⟩ : ∃ h, h = T.ent t r q := ⟨_, rfl⟩
            rw [← hg] at f2
            rw [← hh] at f4
            have HFo : Hid (fooledB t v ((p : Int), (q : Int)) ((r : Int), (s : Int)) = ((g != v) || (h != v))) := hide (by unfold fooledB; simp only [Int.toNat_natCast]; rw [hg, hh])
            clear by0 hc5 hg hh y0 y1
            by_cases hgv : g = v
            · have e1 : (g == v) = true := by simpa using hgv
              have e1' : (g != v) = false := by simpa using hgv
              by_cases hhv : h = v
              · have e2 : (h == v) = true := by simpa using hhv
                have e2' : (h != v) = false := by simpa using hhv
                have E : Hid (R = false) := hide (HEx.out (step_unfooled hil hki (by rw [← HY.out, HFo.out, e1', e2']; rfl)))
                clear hgv hhv e1' e2'
                go_quiet (fail)
                go_wp2
                go_ret
                exact ⟨by rw [E.out]; rfl, C5.out.drewN _⟩
              · have e2 : (h == v) = false := by simpa using hhv
                have e2' : (h != v) = true := by simpa using hhv
                have HN2 : Hid (fooledB t v ((p : Int), (q : Int)) (l.getD k pr0) = true) := hide (by rw [← HY.out, HFo.out, e1', e2']; rfl)
                clear hgv hhv e1' e2'
                go_quiet (fail)
                go_wp2
                go_roundw
                case rel => exact ⟨k + 1, by omega, by go_num, hide ⟨fun r' hr' => by
                  rcases (show r' < k ∨ r' = k by omega) with h' | rfl
                  · exact HK.out r' h'
                  · exact HN2.out, C5.out.drewN _, BX5.out.keep ((Chg.refl [] w5).drewN nq) List.not_mem_nil⟩⟩
                case measure => simp [intOf]; omega
            · have e1 : (g == v) = false := by simpa using hgv
              have e1' : (g != v) = true := by simpa using hgv
              have HN2 : Hid (fooledB t v ((p : Int), (q : Int)) (l.getD k pr0) = true) := hide (by rw [← HY.out, HFo.out, e1']; rfl)
              clear hgv e1'
              go_quiet (fail)
              go_wp2
              go_roundw
              case rel => exact ⟨k + 1, by omega, by go_num, hide ⟨fun r' hr' => by
                rcases (show r' < k ∨ r' = k by omega) with h' | rfl
                · exact HK.out r' h'
                · exact HN2.out, C5.out.drewN _, BX5.out.keep ((Chg.refl [] w5).drewN nq) List.not_mem_nil⟩⟩
              case measure => simp [intOf]; omega
          · have dk : decide ((k : Int) < (((j + 1) : Nat) : Int)) = false := decide_eq_false (by omega)
            have dk' : decide (k < (j + 1)) = false := decide_eq_false (by omega)
            obtain rfl : k = (j + 1) := by omega
            have HStep : Hid (stepB t v (l.take ((j + 1))) (l.getD ((j + 1)) pr0) = true) := hide (by rw [← HX.out]; exact step_true hil HPx.out HOrd.out hK.out.1)
            go_wp2
            go_roundw
            case rel => exact ⟨(j + 1) + 1, by omega, by go_num, hide ⟨fun r' hr' => by
              rcases (show r' < (j + 1) ∨ r' = (j + 1) by omega) with h' | rfl
              · exact HQ.out r' h'
              · exact HStep.out, hK.out.2.1⟩⟩
            case measure => simp [intOf]; omega
    · have d1 : decide ((i : Int) < (L : Int)) = false := by simpa using hlt
      obtain rfl : i = L := by omega
      have E : Hid (R = true) := hide (HTr.out hI.out.1)
      go_wp2
      go_ret
      exact ⟨by rw [E.out]; rfl, hI.out.2⟩
end Go.Proofs.Ytaapamoglgpocaa

/- Walk: the first of the greatest fooling sets, the reference's. -/
namespace Go.Proofs.Ytaapamoglgpocaa
open Go.RowKit

theorem step_append_grows {P : Program} (w : World) {ops : Array Oper} {o : Oper} {a : Act} {K : Act → World → Prop} {Q : Exit → Act → World → Prop} {E : Prop} (hgd : o.guard = none) (s x : Operand) (t : TypeId)
    (hop : o.op = .call { callee := .builtin .append, args := #[s, x], argTypes := #[t, t] })
    (e : TypeId) (i : TypeInfo) (z : Value) (size bytes : Nat) (h1 : P.underlying t = some (.slice e)) (h2 : P.info? e = some i) (h3 : i.zero = some z) (h4 : i.size = size) (h5 : i.bytes = bytes) (h6 : z.cells.size = size) (h7 : 0 < size)
    (ao : Option Addr) (n cap : Nat) (olds : List Value) (hs : a.eval s = .slice ao n cap) (hnone : ao = none → n = 0 ∧ cap = 0) (hlo : olds.length = n * size) (holds : ∀ b, ao = some b → ∀ j u, olds[j]? = some u → w.cell? (b.add j) = some u)
    (ad : Addr) (m c : Nat) (news : List Value) (hx : a.eval x = .slice (some ad) m c) (hn : news.length = m * size) (hc : ∀ j u, news[j]? = some u → w.cell? (ad.add j) = some u) (h1c : ∀ u ∈ news, u.oneCell' = true)
    (hfull : cap < n + m) (b1 : n + m ≤ maxLen) (b2 : (n + m) * bytes ≤ 140737488355328)
    (hK : ∀ v' w', w'.ownsRow w.heap.size e size v' (n + m) (olds ++ news) → w.grownBy w' none → K (a.put o.dst v') w') :
    if Region.wanted o (yielded ops a.tmps) = true then Oper.wp P o a w K Q else E := by
  have hw : Region.wanted o (yielded ops a.tmps) = true := by simp [Region.wanted, hgd]
  rw [if_pos hw]
  cases ao with
  | some b =>
    obtain ⟨v', w', hrun, r1, r2⟩ := run_append_arg_grows (P := P) w t o.type e i z size bytes h1 h2 h3 h4 h5 h6 h7 b n cap olds hlo (holds b rfl) ad m c news hn hc hfull b1 b2
    unfold Oper.wp
    simp [execOp, hop, resolve, invoke, builtin, hs, hx, hrun, Result.andThen]
    exact hK v' w' r1 r2
  | none =>
    obtain ⟨rfl, rfl⟩ := hnone rfl
    obtain rfl : olds = [] := List.eq_nil_of_length_eq_zero (by simpa using hlo)
    obtain ⟨v', w', hrun, r1, r2, _⟩ := run_append_own (P := P) w w.heap.size t o.type e i z size bytes h1 h2 h3 h4 h5 h6 h7 (.slice none 0 0) 0 [] (World.ownsRow_nil w _ e size) ad m c news hn hc h1c b1 b2 (Nat.le_refl _)
    unfold Oper.wp
    simp [execOp, hop, resolve, invoke, builtin, hs, hx, hrun, Result.andThen]
    exact hK v' w' r1 r2
/-- A search like Fool's, by any rule. -/
def growG (ok : List Pr → Pr → Bool) : List Pr → List Pr → List Pr → List Pr
  | [], _, best => best
  | e :: rest, now, best => growG ok rest now (if ok now e = true then growG ok rest (now ++ [e]) (updM (now ++ [e]) best) else best)
/-- All places of a table. -/
def cellsT (n m : Nat) : List Pr := (List.range (n * m)).map fun k => (((k / m : Nat) : Int), ((k % m : Nat) : Int))
def okR (t : List (List Int)) (v : Int) (now : List Pr) (e : Pr) : Bool := foolsM t v (now ++ [e])
theorem cellsT_len (n m : Nat) : (cellsT n m).length = n * m := by unfold cellsT; simp
theorem cellsT_get {n m k : Nat} (h : k < n * m) : (cellsT n m).getD k pr0 = (((k / m : Nat) : Int), ((k % m : Nat) : Int)) := by
  unfold cellsT
  rw [List.getD_eq_getElem?_getD, List.getElem?_map, List.getElem?_range h]
  rfl
/-- A slice of pairs reads alike where only a box with another slice in it was written. -/
theorem SeeP.keepB {w w' : World} {u : Value} {ps : List Pr} {B : Nat} {ao : Option Addr} {n c : Nat} {T : TypeId} (h : SeeP w u ps) (hB : Box w B #[.slice ao n c] T) (hc : Chg [B] w w') : SeeP w' u ps := by
  obtain ⟨uo, cap, e, hle, hA⟩ := h
  refine ⟨uo, cap, e, hle, fun hne => ?_⟩
  obtain ⟨a, rfl, hb, hx⟩ := hA hne
  have hab : a.block ≠ B := fun hab => by
    have h0 : 0 < ps.length := List.length_pos_iff.2 hne
    have h1 := (hx 0 h0).1
    rw [Nat.zero_mul, add_nought] at h1
    obtain ⟨ab, ao', ai⟩ := a
    obtain rfl : ab = B := hab
    unfold World.cell? at h1
    rw [show w.heap[ab]? = some (.cells #[.slice ao n c] T (0, 0)) from hB] at h1
    simp only [] at h1
    rcases Nat.eq_zero_or_pos ao' with h | h
    · subst h
      cases ai <;> simp at h1
    · obtain ⟨p, rfl⟩ : ∃ p, ao' = p + 1 := ⟨ao' - 1, by omega⟩
      cases ai <;> simp at h1
  have k : ∀ j, w'.cell? (a.add j) = w.cell? (a.add j) := fun j => hc.cellA (by rw [add_block]; exact hb) (by rw [add_block, List.mem_singleton]; exact hab)
  refine ⟨a, rfl, Nat.lt_of_lt_of_le hb hc.size, fun i hi => ?_⟩
  rw [k, k]
  exact hx i hi

theorem wrap_quo {k m : Nat} (h : k ≤ 16) : wrap64 ((k : Int) / (m : Int)) = ((k / m : Nat) : Int) := by
  have h1 := Nat.div_le_self k m
  rw [← Int.natCast_ediv]
  generalize k / m = q at *
  unfold wrap64
  omega
theorem SeeP.flat {w : World} {ao : Option Addr} {n c : Nat} {ps : List Pr} (h : SeeP w (.slice ao n c) ps) : ∀ b, ao = some b → ∀ j u, (flatP ps)[j]? = some u → w.cell? (b.add j) = some u := by
  intro b hb j u hu
  obtain ⟨ao', cap, e, _, hA⟩ := h
  cases e
  have hj : j < ps.length * 2 := by
    rw [← flatP_len]
    exact (List.getElem?_eq_some_iff.1 hu).1
  have hne : ps ≠ [] := by rintro rfl; simp at hj
  obtain ⟨a', e, _, hc⟩ := hA hne
  rw [hb] at e
  cases e
  have hdm := Nat.div_add_mod j 2
  have h2 : j % 2 < 2 := Nat.mod_lt _ (by decide)
  have hq : j / 2 < ps.length := by omega
  have e := flatP_at ps (j / 2) (j % 2) hq h2
  rw [show j / 2 * 2 + j % 2 = j by omega, hu] at e
  obtain ⟨m0, m1⟩ := hc (j / 2) hq
  generalize hk : j % 2 = k at *
  match k, h2, e with
  | 0, _, e => rw [show j = j / 2 * 2 by omega, m0]; exact e.symm
  | 1, _, e => rw [show j = j / 2 * 2 + 1 by omega, m1]; exact e.symm
theorem SeeP.nil_of {w : World} {n c : Nat} {ps : List Pr} (h : SeeP w (.slice none n c) ps) : n = 0 := by
  obtain ⟨ao', cap, e, _, hA⟩ := h
  cases e
  by_cases hne : ps = []
  · rw [hne]; rfl
  · obtain ⟨a, e, _⟩ := hA hne
    cases e

def RFoolOk (w0 : World) (vt : Value) (t : List (List Int)) (v : Int) (Bb F : Nat) : Prop := ∀ (fr : Nat) (w : World) (u bv : Value) (now best : List Pr), fr ≤ t.length * T.cols t → t.length * T.cols t - fr < F → now.length ≤ fr → SeeP w u now → Box w Bb #[bv] 46 → SeeP w bv best → Chg [] w0 w →
  Calls Try.prog 77 #[vt, .int .i64 v, .int .i64 (fr : Int), u, .pointer (some ⟨Bb, 0, none⟩)] w
    fun e w' => e = .returned (.tuple #[]) ∧ Chg [Bb] w w' ∧ ∃ bv', Box w' Bb #[bv'] 46 ∧ SeeP w' bv' (growG (okR t v) ((cellsT t.length (T.cols t)).drop fr) now (updM now best))

set_option maxRecDepth 100000 in
set_option maxHeartbeats 4000000 in
theorem rfool_more (w0 : World) (vt : Value) (t : List (List Int)) (v : Int) (Bb F : Nat) (hv : See2 w0 vt t) (ht : T.isTab t = true) (hB : w0.heap.size ≤ Bb) (IH : RFoolOk w0 vt t v Bb F) : RFoolOk w0 vt t v Bb (F + 1) := by
  intro fr w u bv now best hfr hF hnow hu hbx hbv hch
  have HIH := hide IH
  obtain ⟨a, cap, rfl, hE⟩ := ent_cells hv ht
  have HFs := hide fun x l ws (hw : Chg [] w0 ws) (hs : SeeP ws x l) (hl : l.length ≤ 9223372036854775807) => RFools_any _ x t v l ws (hv.keep hw) ht hs hl
  obtain ⟨⟨t1, t2, t3, t4⟩, _⟩ := T.isTab_iff.1 ht
  obtain ⟨b0, bc0, hr0⟩ := hE 0 (by omega)
  rw [add_nought] at hr0
  have H0 := hide (fun X (hX : Chg [] w0 X) => (hr0 X hX).1)
  obtain ⟨uo, ucap, rfl, hucap⟩ := hu.shape
  obtain ⟨bo, bcap, rfl, hbcap⟩ := hbv.shape
  have HU := hide hu
  have HBV := hide hbv
  have HBX := hide hbx
  have HC := hide hch
  have n0 : (0 : Int) < ((t.length : Nat) : Int) := by omega
  have hnm : t.length * T.cols t ≤ 16 := Nat.mul_le_mul t2 t4
  have c0 := hbx.cell 0
  have cf := hbx.free 0
  have cl := hbx.lt
  simp only [List.getElem?_toArray, List.getElem?_cons_zero] at c0
  have HSub := hide (fun k (hk : k < t.length * T.cols t) => cellsT_get hk)
  have HCl := hide (cellsT_len t.length (T.cols t))
  generalize hcs : cellsT t.length (T.cols t) = cs at *
  obtain ⟨N, hNe⟩ : ∃ N, N = t.length * T.cols t := ⟨_, rfl⟩
  have hNi : ((t.length : Nat) : Int) * ((T.cols t : Nat) : Int) = (N : Int) := by rw [hNe, Int.natCast_mul]
  have hNw : IntKind.i64.wrap (((t.length : Nat) : Int) * ((T.cols t : Nat) : Int)) = (N : Int) := by rw [hNi]; exact wraps_i64 _ (by omega) (by omega)
  rw [← hNe] at hfr hF hnm HSub HCl
  have m1 : 1 ≤ T.cols t := t3
  generalize hn : t.length = n at *
  generalize hm : T.cols t = m at *
  have dm : ((m : Int) == 0) = false := by simp; omega
  have HUpd : Hid (updM now best = if best.length < now.length then now else best) := hide rfl
  obtain ⟨b2, hb2⟩ : ∃ y, y = updM now best := ⟨_, rfl⟩
  rw [← hb2] at HUpd ⊢
  obtain ⟨R, hR⟩ : ∃ R : Ending → World → Prop, R = fun e w' => e = .returned (.tuple #[]) ∧ Chg [Bb] w w' ∧ ∃ bv', Box w' Bb #[bv'] 46 ∧ SeeP w' bv' (growG (okR t v) (cs.drop fr) now b2) := ⟨_, rfl⟩
  rw [← hR]
  have HR : Hid (∀ w', Chg [Bb] w w' → ∀ bv', Box w' Bb #[bv'] 46 → SeeP w' bv' (growG (okR t v) (cs.drop fr) now b2) → R (.returned (.tuple #[])) w') := hide (by rw [hR]; exact fun w' h1 bv' h2 h3 => ⟨rfl, h1, bv', h2, h3⟩)
  obtain ⟨Kn, hKn⟩ : ∃ k, k = now.length := ⟨_, rfl⟩
  obtain ⟨Kb, hKb⟩ : ∃ k, k = best.length := ⟨_, rfl⟩
  rw [← hKn] at HU hucap hnow HUpd ⊢
  rw [← hKb] at HBV HBX hbcap c0 HUpd
  have HKn := hide hKn
  have HKb := hide hKb
  have HNm : Hid (N = t.length * T.cols t) := hide (by rw [hn, hm]; exact hNe)
  have HCs : Hid (cellsT t.length (T.cols t) = cs) := hide (by rw [hn, hm]; exact hcs)
  clear IH hv ht hE hr0 hu hbv hbx hch hcs hn hm hNe hNi hKn hKb hb2 hR
  by_cases hlt : Kb < Kn
  case' pos =>
    have d1 : decide ((Kb : Int) < (Kn : Int)) = true := by simpa using hlt
    have d1' : decide (Kb < Kn) = true := by simpa using hlt
    rw [if_pos hlt] at HUpd
    clear hlt
    go_enter Try.func77, Try.ntmps77
    go_wp2
    have hset := Chg.set w ⟨Bb, 0, none⟩ (.slice uo Kn ucap)
    have hx2 := HBX.out.set1 (.slice uo Kn ucap)
    have hu2 := SeeP.keepB HU.out HBX.out hset
    generalize w.setCell ⟨Bb, 0, none⟩ (.slice uo Kn ucap) = w2 at hset hx2 hu2 ⊢
    have S2 : Hid (∃ bv, Box w2 Bb #[bv] 46 ∧ SeeP w2 bv b2 ∧ SeeP w2 (.slice uo Kn ucap) now ∧ Chg [Bb] w w2) := hide ⟨_, hx2, by rw [HUpd.out]; exact hu2, hu2, hset⟩
    clear hset hx2 hu2 c0 cf cl HUpd
  case' neg =>
    have d1 : decide ((Kb : Int) < (Kn : Int)) = false := by simpa using hlt
    have d1' : decide (Kb < Kn) = false := by simpa using hlt
    rw [if_neg hlt] at HUpd
    obtain ⟨w2, hw2⟩ : ∃ x, x = w := ⟨_, rfl⟩
    have S2 : Hid (∃ bv, Box w2 Bb #[bv] 46 ∧ SeeP w2 bv b2 ∧ SeeP w2 (.slice uo Kn ucap) now ∧ Chg [Bb] w w2) := hide (by rw [hw2, HUpd.out]; exact ⟨_, HBX.out, HBV.out, HU.out, Chg.refl _ _⟩)
    rw [← hw2] at c0 cf cl ⊢
    clear hlt HUpd hw2
    go_enter Try.func77, Try.ntmps77
    go_wp2
    clear c0 cf cl
  all_goals (
    clear HU HBV HBX
    go_loopw [10] (fun kv wr => ∃ (k : Nat) (bv : Value) (b3 : List Pr), k ≤ N ∧ fr ≤ k ∧ kv = .int .i64 (k : Int) ∧ Hid (Box wr Bb #[bv] 46 ∧ SeeP wr bv b3 ∧ SeeP wr (.slice uo Kn ucap) now ∧ Chg [Bb] w wr ∧ growG (okR t v) (cs.drop fr) now b2 = growG (okR t v) (cs.drop k) now b3)) (fun kv _ => N - (intOf kv).toNat)
    case atStart =>
      obtain ⟨bv, h1, h2, h3, h4⟩ := S2.out
      exact ⟨fr, bv, b2, hfr, Nat.le_refl _, rfl, hide ⟨h1, h2, h3, h4, rfl⟩⟩
    case round =>
      obtain ⟨k, bv, b3, hk, hfk, rfl, hK⟩ := hrel
      obtain ⟨hbx, hbv, hu, hc, hg⟩ := hK.out
      have hcw : Chg [] w0 wr := HC.out.trans' hc (fun y hy => .inr (by rw [List.mem_singleton] at hy; rw [hy]; exact hB))
      have f0 := H0.out wr hcw
      by_cases hkl : k < N
      · have d2 : decide ((k : Int) < (N : Int)) = true := by simpa using hkl
        have d2' : decide (k < N) = true := by simpa using hkl
        obtain ⟨xa, hxa⟩ : ∃ y : Int, y = ((k / m : Nat) : Int) := ⟨_, rfl⟩
        obtain ⟨xb, hxb⟩ : ∃ y : Int, y = ((k % m : Nat) : Int) := ⟨_, rfl⟩
        have q1 : wrap64 ((k : Int) / (m : Int)) = xa := by rw [hxa]; exact wrap_quo (by omega)
        have q2 : ((k : Int) % (m : Int)) = xb := by rw [hxb, Int.natCast_emod]
        have hdrop : cs.drop k = (xa, xb) :: cs.drop (k + 1) := by
          have hkl2 : k < cs.length := by rw [HCl.out]; exact hkl
          have e := HSub.out k hkl
          rw [List.getD_eq_getElem?_getD, List.getElem?_eq_getElem hkl2] at e
          rw [List.drop_eq_getElem_cons hkl2, hxa, hxb]
          exact congrArg (· :: cs.drop (k + 1)) e
        have HG : Hid (growG (okR t v) (cs.drop fr) now b2 = growG (okR t v) (cs.drop (k + 1)) now (if okR t v now (xa, xb) = true then growG (okR t v) (cs.drop (k + 1)) (now ++ [(xa, xb)]) (updM (now ++ [(xa, xb)]) b3) else b3)) := hide (by rw [hg, hdrop]; rfl)
        have HB := hide (And.intro hbx (And.intro hbv (And.intro hu hc)))
        have HCW := hide hcw
        have f0' := H0.out (wr.alloc (Obj.cells #[Value.int IntKind.i64 0, Value.int IntKind.i64 0] 60)).drew (hcw.alloc _).drew
        have f0'' : wr.drew.cell? a = _ := f0
        clear hbx hbv hu hc hcw hg hdrop hK hxa hxb
        go_wp2
        go_region
        rw [q1, q2]
        clear f0 f0' f0'' q1 q2
        have hC3 : Chg [] wr (wr.alloc (Obj.cells #[.int .i64 xa, .int .i64 xb] 60)).drew := ((Chg.refl [] wr).alloc _).drew
        have hX3 : Box (wr.alloc (Obj.cells #[.int .i64 xa, .int .i64 xb] 60)).drew wr.heap.size #[.int .i64 xa, .int .i64 xb] 60 := Box.new wr _ _
        generalize (wr.alloc (Obj.cells #[.int .i64 xa, .int .i64 xb] 60)).drew = w3 at hC3 hX3 ⊢
        obtain ⟨S3, hS3⟩ : ∃ y, y = wr.heap.size := ⟨_, rfl⟩
        rw [← hS3] at hX3 ⊢
        have HC3 := hide hC3
        have HS3 := hide hS3
        have HU3 := hide (HB.out.2.2.1.keep hC3)
        have HK := hide (fun X (hX : Chg [] w3 X) => (⟨(hX3.keep hX List.not_mem_nil).cell 0, (hX3.keep hX List.not_mem_nil).cell 1⟩ : X.cell? ⟨S3, 0, none⟩ = some (.int .i64 xa) ∧ X.cell? ⟨S3, 1, none⟩ = some (.int .i64 xb)))
        have HFl := hide (fun X (hX : Chg [] w3 X) => (HU3.out.keep hX).flat)
        have HNo : Hid (uo = none → Kn = 0 ∧ Kn = 0) := hide (fun h => by subst h; exact ⟨HU3.out.nil_of, HU3.out.nil_of⟩)
        clear hC3 hS3 hX3
        obtain ⟨f1, f2⟩ := HK.out w3.drew (Chg.refl [] w3).drew
        obtain ⟨f3, f4⟩ := HK.out w3 (Chg.refl [] w3)
        have k0 : (0 : Int) ≤ (Kn : Int) := by omega
        have k1 : (Kn : Int) ≤ (ucap : Int) := by omega
        obtain ⟨i9, hi9, hz0, hz1, hz2⟩ := info_parts infoPair
        go_wp2
        go_region_law ((refine step_append_grows _ (by rfl) _ _ 46 (by rfl) 60 i9 (.agg #[.int .i64 0, .int .i64 0]) 2 16 Try.underlying46 hi9 hz0 hz1 hz2 (by rfl) (by decide) uo Kn Kn (flatP now) (by rfl) HNo.out (by rw [flatP_len, HKn.out]) (HFl.out _ (by (repeat' (first | with_reducible exact Chg.refl _ _ | with_reducible assumption | with_reducible apply Chg.drewN | with_reducible apply Chg.drew | with_reducible apply Chg.alloc | (with_reducible refine Chg.setCell ?_ (Or.inr ?_) _) | (with_reducible refine Chg.trans ?_ (by assumption)) | (simp; done) | (simp; omega))))) ⟨w3.heap.size, 0, none⟩ 1 1 (prCells (xa, xb)).toList (by rfl) (by rfl) (pr_news w3 (xa, xb) _ rfl) (pr_one (xa, xb)) (by omega) (by unfold maxLen; omega) (by omega) ?_; intro v9 w9 hown9 hgrow9))
        all_goals (
          have e9 : (now ++ [(xa, xb)]).length = Kn + 1 := by rw [List.length_append, ← HKn.out]; rfl
          have hC9 : Chg [] w3 w9 := by
            refine Chg.grown ?_ hgrow9 (fun _ h => by cases h)
            (repeat' (first | with_reducible exact Chg.refl _ _ | with_reducible assumption | with_reducible apply Chg.drewN | with_reducible apply Chg.drew | with_reducible apply Chg.alloc | (with_reducible refine Chg.setCell ?_ (Or.inr ?_) _) | (with_reducible refine Chg.trans ?_ (by assumption)) | (simp; done) | (simp; omega)))
          have hC9' : Chg [] wr w9 := HC3.out.trans hC9
          have hu9 : SeeP w9 v9 (now ++ [(xa, xb)]) := pairs_see (by rw [e9, flatP_snoc]; exact hown9)
          have HF9 := hide (HFs.out v9 _ w9 (HCW.out.trans hC9') hu9 (by rw [e9]; omega))
          have HC9 := hide hC9'
          have HU9 := hide hu9
          have HE9 := hide e9
          clear hC9 hC9' hu9 e9 hown9 hgrow9 f1 f2 f3 f4
          obtain ⟨uo9, uc9, rfl, hc9⟩ := HU9.out.shape
          rw [HE9.out] at HF9 hc9 HU9 ⊢
          have HOk : Hid (okR t v now (xa, xb) = foolsM t v (now ++ [(xa, xb)])) := hide rfl
          cases hfo : foolsM t v (now ++ [(xa, xb)]) with
          | true =>
            rw [hfo] at HF9 HOk
            have HG2 : Hid (growG (okR t v) (cs.drop fr) now b2 = growG (okR t v) (cs.drop (k + 1)) now (growG (okR t v) (cs.drop (k + 1)) (now ++ [(xa, xb)]) (updM (now ++ [(xa, xb)]) b3))) := hide (by rw [HG.out, HOk.out, if_pos rfl])
            clear hfo HOk HG
            go_wp2_with fail
            refine HF9.out.mono ?_
            rintro e w10 ⟨rfl, hw10⟩
            have hC10 := HC9.out.trans hw10
            have hb10 := HB.out.1.keep hC10 List.not_mem_nil
            have HI10 := HIH.out (k + 1) w10 (.slice uo9 (Kn + 1) uc9) bv (now ++ [(xa, xb)]) b3 (by rw [← HNm.out]; omega) (by rw [← HNm.out]; omega) (by rw [HE9.out]; omega) (HU9.out.keep hw10) hb10 (HB.out.2.1.keep hC10) (HCW.out.trans hC10)
            have HI11 := hide HI10
            have HC10 := hide hC10
            have hk1 : ((k + 1 : Nat) : Int) = (k : Int) + 1 := by omega
            clear HI10 hC10 hb10 hw10 HF9
            rw [hk1] at HI11
            go_wp2_with fail
            refine HI11.out.mono ?_
            rintro e w11 ⟨rfl, hw11, bv', hb11, hs11⟩
            rw [HCs.out] at hs11
            have hbs := HB.out.2.1.shape
            obtain ⟨qo, qc, rfl, hqc⟩ := hbs
            have hu11 := ((HB.out.2.2.1.keep HC10.out).keepB (HB.out.1.keep HC10.out List.not_mem_nil) hw11)
            have HI := hide (And.intro hb11 (And.intro hs11 (And.intro hu11 (HB.out.2.2.2.trans (HC10.out.toAny.trans hw11)))))
            clear hb11 hs11 hu11 hw11 hqc
            go_wp2
            go_roundw
            case rel => exact ⟨k + 1, bv', _, by omega, by omega, rfl, hide ⟨HI.out.1, HI.out.2.1, HI.out.2.2.1, HI.out.2.2.2, HG2.out⟩⟩
            case measure =>
              have e1 : (intOf (.int .i64 ((k : Int) + 1))).toNat = k + 1 := by simp [intOf]
              have e2 : (intOf (.int .i64 (k : Int))).toNat = k := by simp [intOf]
              rw [e1, e2]
              omega
          | false =>
            rw [hfo] at HF9 HOk
            have HG2 : Hid (growG (okR t v) (cs.drop fr) now b2 = growG (okR t v) (cs.drop (k + 1)) now b3) := hide (by rw [HG.out, HOk.out, if_neg (by decide)])
            clear hfo HOk HG
            go_wp2_with fail
            refine HF9.out.mono ?_
            rintro e w10 ⟨rfl, hw10⟩
            have HC10 := hide (HC9.out.trans hw10)
            clear HF9 hw10
            go_wp2
            go_roundw
            case rel => exact ⟨k + 1, bv, b3, by omega, by omega, rfl, hide ⟨HB.out.1.keep HC10.out List.not_mem_nil, HB.out.2.1.keep HC10.out, HB.out.2.2.1.keep HC10.out, HB.out.2.2.2.trans HC10.out.toAny, HG2.out⟩⟩
            case measure =>
              have e1 : (intOf (.int .i64 ((k : Int) + 1))).toNat = k + 1 := by simp [intOf]
              have e2 : (intOf (.int .i64 (k : Int))).toNat = k := by simp [intOf]
              rw [e1, e2]
              omega)
      · have d2 : decide ((k : Int) < (N : Int)) = false := by simpa using hkl
        have d2' : decide (k < N) = false := by simpa using hkl
        obtain rfl : k = N := by omega
        have hnil : cs.drop k = [] := List.drop_eq_nil_of_le (by rw [HCl.out]; exact Nat.le_refl _)
        have HE := hide (HR.out wr hc bv hbx (by rw [hg, hnil]; exact hbv))
        clear hbx hbv hu hc hg hcw hnil hK
        go_wp2
        go_end0
        exact HE.out)
theorem rfool_all (w0 : World) (vt : Value) (t : List (List Int)) (v : Int) (Bb : Nat) (hv : See2 w0 vt t) (ht : T.isTab t = true) (hB : w0.heap.size ≤ Bb) : ∀ F, RFoolOk w0 vt t v Bb F
  | 0 => fun _ _ _ _ _ _ _ h => absurd h (Nat.not_lt_zero _)
  | F + 1 => rfool_more w0 vt t v Bb F hv ht hB (rfool_all w0 vt t v Bb hv ht hB F)
def rfoolM (t : List (List Int)) (v : Int) : List Pr := growG (okR t v) (cellsT t.length (T.cols t)) [] []

set_option maxRecDepth 100000 in
set_option maxHeartbeats 2000000 in
theorem RFool_any (vt : Value) (t : List (List Int)) (v : Int) (w : World) (hv : See2 w vt t) (ht : T.isTab t = true) :
    Calls Try.prog 42 #[vt, .int .i64 v] w fun e w' => ∃ v', e = .returned v' ∧ SeeP w' v' (rfoolM t v) ∧ Chg [] w w' := by
  have nil_see : ∀ ws : World, SeeP ws (.slice none 0 0) [] := fun ws => ⟨none, 0, rfl, Nat.le_refl _, fun h => absurd rfl h⟩
  have HGo := hide (rfool_all w vt t v w.heap.size hv ht (Nat.le_refl _) (t.length * T.cols t + 1) 0 (w.alloc (.cells #[.slice none 0 0] 46)) (.slice none 0 0) (.slice none 0 0) [] [] (Nat.zero_le _) (by omega) (Nat.zero_le _) (nil_see _) (Box.new w _ _) (nil_see _) ((Chg.refl [] w).alloc _))
  clear hv ht
  go_enter Try.func42, Try.ntmps42
  go_wp2_with fail
  refine HGo.out.mono ?_
  rintro e w5 ⟨rfl, hC, bv, hB, hS⟩
  have d8 := hB.cell 0
  have l8 := hB.lt
  simp only [List.getElem?_toArray, List.getElem?_cons_zero] at d8
  have HC := hide (((Chg.refl [] w).alloc (.cells #[.slice none 0 0] 46)).trans' hC (fun y hy => .inr (by rw [List.mem_singleton] at hy; omega)))
  have HS := hide hS
  clear hC hB hS
  go_wp2
  go_ret
  exact ⟨bv, rfl, HS.out, HC.out⟩
end Go.Proofs.Ytaapamoglgpocaa
