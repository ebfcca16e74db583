/- Walk: whether entries are a fooling set, the reference's. -/
import Derived.Test.YtaapamoglgpocaaFool5
namespace Go.Proofs.Ytaapamoglgpocaa
open Go.RowKit

def ltB (a b : Pr) : Bool := decide (a.1 < b.1) || (decide (a.1 = b.1) && decide (a.2 < b.2))
def placeB (t : List (List Int)) (v : Int) (x : Pr) : Bool := decide (0 ≤ x.1) && decide (x.1 < t.length) && decide (0 ≤ x.2) && decide (x.2 < T.cols t) && decide (T.ent t x.1.toNat x.2.toNat = v)
def lastP (pre : List Pr) : Pr := pre.getD (pre.length - 1) pr0
/-- Whether an entry may follow these in a fooling set. -/
def stepB (t : List (List Int)) (v : Int) (pre : List Pr) (x : Pr) : Bool := placeB t v x && (pre.isEmpty || ltB (lastP pre) x) && pre.all (fun y => fooledB t v x y)
def foolsM (t : List (List Int)) (v : Int) (l : List Pr) : Bool := (List.range l.length).all fun i => stepB t v (l.take i) (l.getD i pr0)
theorem fools_false {t : List (List Int)} {v : Int} {l : List Pr} {i : Nat} (hi : i < l.length) (h : stepB t v (l.take i) (l.getD i pr0) = false) : foolsM t v l = false := by
  rw [Bool.eq_false_iff]
  intro hf
  have := List.all_eq_true.1 hf i (List.mem_range.2 hi)
  rw [h] at this
  cases this
theorem fools_true {t : List (List Int)} {v : Int} {l : List Pr} (h : ∀ i, i < l.length → stepB t v (l.take i) (l.getD i pr0) = true) : foolsM t v l = true := List.all_eq_true.2 fun i hi => h i (List.mem_range.1 hi)
theorem lastP_take {l : List Pr} {i : Nat} (hi : i < l.length) (h0 : 0 < i) : lastP (l.take i) = l.getD (i - 1) pr0 := by
  unfold lastP
  rw [List.length_take, Nat.min_eq_left (by omega), List.getD_eq_getElem?_getD, List.getD_eq_getElem?_getD, List.getElem?_take, if_pos (by omega)]
theorem take_ne {l : List Pr} {j : Nat} (h : j < l.length) : (l.take (j + 1)).isEmpty = false := by
  cases l with
  | nil => simp at h
  | cons a l => rfl
theorem step_place {t : List (List Int)} {v : Int} {pre : List Pr} {x : Pr} (h : stepB t v pre x = true) : placeB t v x = true := by
  unfold stepB at h
  rw [Bool.and_eq_true, Bool.and_eq_true] at h
  exact h.1.1
theorem step_true {t : List (List Int)} {v : Int} {l : List Pr} {i : Nat} {x : Pr} (hi : i < l.length) (h1 : placeB t v x = true) (h2 : ((l.take i).isEmpty || ltB (lastP (l.take i)) x) = true) (h3 : ∀ r, r < i → fooledB t v x (l.getD r pr0) = true) : stepB t v (l.take i) x = true := by
  unfold stepB
  rw [h1, h2, Bool.true_and, Bool.true_and, List.all_eq_true]
  intro y hy
  obtain ⟨r, hr, he⟩ := List.getElem_of_mem hy
  rw [List.length_take] at hr
  rw [List.getElem_take] at he
  have := h3 r (by omega)
  rw [List.getD_eq_getElem?_getD, List.getElem?_eq_getElem (by omega)] at this
  rw [← he]
  exact this
theorem step_unfooled {t : List (List Int)} {v : Int} {l : List Pr} {i r : Nat} {x : Pr} (hi : i < l.length) (hr : r < i) (h : fooledB t v x (l.getD r pr0) = false) : stepB t v (l.take i) x = false := by
  rw [Bool.eq_false_iff]
  intro hs
  unfold stepB at hs
  rw [Bool.and_eq_true, List.all_eq_true] at hs
  have := hs.2 (l.getD r pr0) (by
    rw [List.getD_eq_getElem?_getD, List.getElem?_eq_getElem (by omega)]
    exact List.mem_take_iff_getElem.2 ⟨r, by omega, rfl⟩)
  rw [h] at this
  cases this
theorem place_false {t : List (List Int)} {v : Int} {pre : List Pr} {x : Pr} (h : placeB t v x = false) : stepB t v pre x = false := by unfold stepB; rw [h]; rfl
theorem order_false {t : List (List Int)} {v : Int} {pre : List Pr} {x : Pr} (h : (pre.isEmpty || ltB (lastP pre) x) = false) : stepB t v pre x = false := by unfold stepB; rw [h]; simp
theorem placeB_iff {t : List (List Int)} {v : Int} {x : Pr} : placeB t v x = true ↔ 0 ≤ x.1 ∧ x.1 < t.length ∧ 0 ≤ x.2 ∧ x.2 < T.cols t ∧ T.ent t x.1.toNat x.2.toNat = v := by
  unfold placeB
  simp [and_assoc]

set_option maxRecDepth 100000 in
set_option maxHeartbeats 8000000 in
theorem RFools_any (vt u : Value) (t : List (List Int)) (v : Int) (l : List Pr) (w : World) (hv : See2 w vt t) (ht : T.isTab t = true) (hu : SeeP w u l) (hl : l.length ≤ 9223372036854775807) :
    Calls Try.prog 43 #[vt, .int .i64 v, u] w (Ret (.bool (foolsM t v l)) w) := by
  obtain ⟨a, cap, rfl, hE⟩ := ent_cells hv ht
  have HE := hide hE
  obtain ⟨⟨t1, t2, t3, t4⟩, _⟩ := T.isTab_iff.1 ht
  obtain ⟨uo, ucap, rfl, hucap⟩ := hu.shape
  have HU := hide hu
  obtain ⟨R, hR⟩ : ∃ R, R = foolsM t v l := ⟨_, rfl⟩
  rw [← hR]
  have HF := hide (fun (i : Nat) (hi : i < l.length) (h : stepB t v (l.take i) (l.getD i pr0) = false) => hR.trans (fools_false hi h))
  have HTr := hide (fun (h : ∀ i, i < l.length → stepB t v (l.take i) (l.getD i pr0) = true) => hR.trans (fools_true h))
  have HPl := hide (fun (x : Pr) => placeB_iff (t := t) (v := v) (x := x))
  clear hv ht hE hu hR
  generalize hn : t.length = n at *
  generalize hm : T.cols t = m at *
  clear hn hm
  obtain ⟨L, hL⟩ : ∃ L, L = l.length := ⟨_, rfl⟩
  have HL := hide hL
  rw [← hL] at hl hucap HU HF HTr ⊢
  clear hL
  obtain ⟨b0, bc0, hr0⟩ := HE.out 0 (by omega)
  rw [add_nought] at hr0
  have H0 := hide (fun X (hX : Chg [] w X) => (hr0 X hX).1)
  have n0 : (0 : Int) < (n : Int) := by omega
  clear hr0
  go_enter Try.func43, Try.ntmps43
  go_wp2
  go_loopw [13] (fun iv wr => ∃ (i : Nat), i ≤ L ∧ iv = .int .i64 (i : Int) ∧ Hid ((∀ q, q < i → stepB t v (l.take q) (l.getD q pr0) = true) ∧ Chg [] w wr)) (fun iv _ => L - (intOf iv).toNat)
  case atStart => exact ⟨0, Nat.zero_le _, rfl, hide ⟨fun q h => by omega, Chg.refl _ _⟩⟩
  case round =>
    obtain ⟨i, hi, rfl, hI⟩ := hrel
    by_cases hlt : i < L
    · have d1 : decide ((i : Int) < (L : Int)) = true := by simpa using hlt
      have hil : i < l.length := by rw [← HL.out]; exact hlt
      have nx : l ≠ [] := by rintro rfl; simp at hil
      obtain ⟨ua, uc, e1, lua, hcell⟩ := HU.out.open nx
      obtain ⟨rfl, hL1, rfl⟩ : uo = some ua ∧ L = l.length ∧ ucap = uc := by simpa using e1
      have HC := hide hcell
      have C1 := hide hI.out.2
      have HQ := hide hI.out.1
      obtain ⟨x0, x1⟩ := hcell wr hI.out.2 i hil
      obtain ⟨x, hx⟩ : ∃ x, x = l.getD i pr0 := ⟨_, rfl⟩
      rw [← hx] at x0 x1
      have HX := hide hx
      obtain ⟨xa, xb⟩ := x
      have hEx := HF.out i hlt
      rw [← hx] at hEx
      have HEx := hide hEx
      have i0 : (0 : Int) ≤ (i : Int) := by omega
      have i1 : (i : Int) < (L : Int) := by omega
      have bx := Box.new wr #[.int .i64 xa, .int .i64 xb] 60
      have hc2 : Chg [] wr (wr.alloc (.cells #[.int .i64 xa, .int .i64 xb] 60)) := (Chg.refl _ _).alloc _
      clear e1 hL1 hcell hI hx nx hEx
      go_wp2
      generalize wr.alloc (.cells #[.int .i64 xa, .int .i64 xb] 60) = w2 at bx hc2 ⊢
      generalize wr.heap.size = Bx at bx ⊢
      have BX := hide bx
      have C2 : Hid (Chg [] w w2) := hide (C1.out.trans hc2)
      have b0' := bx.cell 0
      have b1' := bx.cell 1
      have lbx := bx.lt
      simp only [List.getElem?_toArray, List.getElem?_cons_zero, List.getElem?_cons_succ] at b0' b1'
      have f0 := H0.out w2 C2.out
      clear bx hc2 x0 x1
      by_cases h : xa < 0
      · have d : decide (xa < 0) = true := by simpa using h
        have E : Hid (R = false) := hide (HEx.out (place_false (by rw [Bool.eq_false_iff]; intro h; have h' := (HPl.out _).1 h; simp only [] at h'; omega)))
        clear h
        try go_wp2
        go_quiet (fail)
        go_wp2
        go_ret
        exact ⟨by rw [E.out]; rfl, C2.out.drewN _⟩
      have e1 : decide (xa < 0) = false := by simpa using h
      obtain ⟨p, rfl⟩ := Int.eq_ofNat_of_zero_le (show 0 ≤ xa by omega)
      clear h
      by_cases h : (n : Int) ≤ (p : Int)
      · have d : decide ((n : Int) ≤ (p : Int)) = true := by simpa using h
        have d' : decide (n ≤ p) = true := by simp; omega
        have E : Hid (R = false) := hide (HEx.out (place_false (by rw [Bool.eq_false_iff]; intro h; have h' := (HPl.out _).1 h; simp only [] at h'; omega)))
        clear h
        try go_wp2
        go_quiet (fail)
        go_wp2
        go_ret
        exact ⟨by rw [E.out]; rfl, C2.out.drewN _⟩
      have e2 : decide ((n : Int) ≤ (p : Int)) = false := by simpa using h
      have e2' : decide (n ≤ p) = false := by simp; omega
      have hp : p < n := by omega
      clear h
      by_cases h : xb < 0
      · have d : decide (xb < 0) = true := by simpa using h
        have E : Hid (R = false) := hide (HEx.out (place_false (by rw [Bool.eq_false_iff]; intro h; have h' := (HPl.out _).1 h; simp only [] at h'; omega)))
        clear h
        try go_wp2
        go_quiet (fail)
        go_wp2
        go_ret
        exact ⟨by rw [E.out]; rfl, C2.out.drewN _⟩
      have e3 : decide (xb < 0) = false := by simpa using h
      obtain ⟨q, rfl⟩ := Int.eq_ofNat_of_zero_le (show 0 ≤ xb by omega)
      clear h
      by_cases h : (m : Int) ≤ (q : Int)
      · have d : decide ((m : Int) ≤ (q : Int)) = true := by simpa using h
        have d' : decide (m ≤ q) = true := by simp; omega
        have E : Hid (R = false) := hide (HEx.out (place_false (by rw [Bool.eq_false_iff]; intro h; have h' := (HPl.out _).1 h; simp only [] at h'; omega)))
        clear h
        try go_wp2
        go_quiet (fail)
        go_wp2
        go_ret
        exact ⟨by rw [E.out]; rfl, C2.out.drewN _⟩
      have e4 : decide ((m : Int) ≤ (q : Int)) = false := by simpa using h
      have e4' : decide (m ≤ q) = false := by simp; omega
      have hq : q < m := by omega
      clear h
      obtain ⟨bp, bpc, hrow⟩ := HE.out p hp
      have HRow := hide hrow
      have fr := (hrow w2 C2.out).1
      have fx := (hrow w2 C2.out).2 q hq
      have p0 : (0 : Int) ≤ (p : Int) := by omega
      have p1 : (p : Int) < (n : Int) := by omega
      have q0 : (0 : Int) ≤ (q : Int) := by omega
      have q1 : (q : Int) < (m : Int) := by omega
      obtain ⟨z, hz⟩ : ∃ z, z = T.ent t p q := ⟨_, rfl⟩
      rw [← hz] at fx
      have HZ := hide hz
      clear hrow hz
      by_cases h : z = v
      case' neg =>
        have d : (z != v) = true := by simpa using h
        have E : Hid (R = false) := hide (HEx.out (place_false (by rw [Bool.eq_false_iff]; intro hh; have h' := (HPl.out _).1 hh; simp only [Int.toNat_natCast] at h'; exact h (HZ.out.trans h'.2.2.2.2))))
        clear h
        try go_wp2
        go_quiet (fail)
        go_wp2
        go_ret
        exact ⟨by rw [E.out]; rfl, C2.out.drewN _⟩
      have d5 : (z != v) = false := by simpa using h
      have HPx : Hid (placeB t v ((p : Int), (q : Int)) = true) := hide ((HPl.out _).2 ⟨by simp only []; omega, by simp only []; omega, by simp only []; omega, by simp only []; omega, by simp only [Int.toNat_natCast]; exact HZ.out.symm.trans h⟩)
      clear h
      try go_wp2
      go_quiet (fail)
      have C3 : Hid (Chg [] w (w2.drewN nq)) := hide (C2.out.drewN _)
      have BX3 := hide (BX.out.keep ((Chg.refl [] w2).drewN nq) List.not_mem_nil)
      clear fr fx d5 b0' b1' lbx f0 BX C2
      generalize w2.drewN nq = w3 at C3 BX3 ⊢
      have b0' := BX3.out.cell 0
      have b1' := BX3.out.cell 1
      have lbx := BX3.out.lt
      simp only [List.getElem?_toArray, List.getElem?_cons_zero, List.getElem?_cons_succ] at b0' b1'
      by_cases hi0 : i = 0
      · subst hi0
        have HOrd : Hid (((l.take 0).isEmpty || ltB (lastP (l.take 0)) ((p : Int), (q : Int))) = true) := hide rfl
        go_wp2
        go_quiet (fail)
        have C4 : Hid (Chg [] w (w3.drewN nq)) := hide (C3.out.drewN _)
        have BX4 := hide (BX3.out.keep ((Chg.refl [] w3).drewN nq) List.not_mem_nil)
        clear b0' b1' lbx BX3 C3
        generalize w3.drewN nq = w4 at C4 BX4 ⊢
        have ic0 : (0 : Int) ≤ ((0 : Nat) : Int) := by omega
        have ic1 : ((0 : Nat) : Int) ≤ (ucap : Int) := by omega
        have ic2 : 0 ≤ ucap := by omega
        go_wp2
        go_loopw [94] (fun kv wq => ∃ (k : Nat), k ≤ 0 ∧ kv = .int .i64 (k : Int) ∧ Hid ((∀ r, r < k → fooledB t v ((p : Int), (q : Int)) (l.getD r pr0) = true) ∧ Chg [] w wq ∧ Box wq Bx #[.int .i64 (p : Int), .int .i64 (q : Int)] 60)) (fun kv _ => 0 - (intOf kv).toNat)
        case atStart => exact ⟨0, Nat.zero_le _, rfl, hide ⟨fun r h => by omega, C4.out, BX4.out⟩⟩
        case round =>
          obtain ⟨k, hk, rfl, hK⟩ := hrel
          by_cases hki : k < 0
          · exact absurd hki (Nat.not_lt_zero _)
          · have dk : decide ((k : Int) < ((0 : Nat) : Int)) = false := decide_eq_false (by omega)
            have dk' : decide (k < 0) = false := decide_eq_false (by omega)
            obtain rfl : k = 0 := by omega
            have HStep : Hid (stepB t v (l.take (0)) (l.getD (0) pr0) = true) := hide (by rw [← HX.out]; exact step_true hil HPx.out HOrd.out hK.out.1)
            go_wp2
            go_roundw
            case rel => exact ⟨0 + 1, by omega, by go_num, hide ⟨fun r' hr' => by
              rcases (show r' < 0 ∨ r' = 0 by omega) with h' | rfl
              · exact HQ.out r' h'
              · exact HStep.out, hK.out.2.1⟩⟩
            case measure => simp [intOf]; omega
      obtain ⟨j, rfl⟩ : ∃ j, i = j + 1 := ⟨i - 1, by omega⟩
      have hjl : j < l.length := by rw [← HL.out]; omega
      obtain ⟨y0, y1⟩ := HC.out w3 C3.out j hjl
      obtain ⟨y, hy⟩ : ∃ y, y = l.getD j pr0 := ⟨_, rfl⟩
      rw [← hy] at y0 y1
      have HLa : Hid (lastP (l.take (j + 1)) = y) := hide (by rw [lastP_take hil (by omega), hy]; rfl)
      have HNe : Hid ((l.take (j + 1)).isEmpty = false) := hide (take_ne (by omega))
      obtain ⟨pa, pb⟩ := y
      have dj : decide ((0 : Int) < ((j + 1 : Nat) : Int)) = true := decide_eq_true (by omega)
      have hw : IntKind.i64.wrap (((j + 1 : Nat) : Int) - 1) = (j : Int) := by rw [show ((j + 1 : Nat) : Int) - 1 = (j : Int) by omega]; exact wraps_i64 _ (by omega) (by omega)
      have j0 : (0 : Int) ≤ (j : Int) := by omega
      have j1 : (j : Int) < (L : Int) := by omega
      clear hy hi0
      by_cases h : (p : Int) < pa
      · have d : decide ((p : Int) < pa) = true := by simpa using h
        have E : Hid (R = false) := hide (HEx.out (order_false (by rw [HNe.out, HLa.out]; unfold ltB; simp only [Bool.false_or]; rw [decide_eq_false (by omega), decide_eq_false (by omega)]; rfl)))
        clear h
        try go_wp2
        go_quiet (fail)
        go_wp2
        go_ret
        exact ⟨by rw [E.out]; rfl, C3.out.drewN _⟩
      have g1 : decide ((p : Int) < pa) = false := by simpa using h
      have h1 := h
      clear h
      by_cases h : pa = (p : Int)
      · have g2 : (pa == (p : Int)) = true := by simpa using h
        by_cases h3 : (q : Int) ≤ pb
        · have d : decide ((q : Int) ≤ pb) = true := by simpa using h3
          have E : Hid (R = false) := hide (HEx.out (order_false (by rw [HNe.out, HLa.out]; unfold ltB; simp only [Bool.false_or]; rw [decide_eq_false (by omega), decide_eq_true h, decide_eq_false (by omega)]; rfl)))
          clear h h1 h3
          try go_wp2
          go_quiet (fail)
          go_wp2
          go_ret
          exact ⟨by rw [E.out]; rfl, C3.out.drewN _⟩
        · have g3 : decide ((q : Int) ≤ pb) = false := by simpa using h3
          have HOrd : Hid (((l.take (j + 1)).isEmpty || ltB (lastP (l.take (j + 1))) ((p : Int), (q : Int))) = true) := hide (by rw [HLa.out]; unfold ltB; rw [decide_eq_true h, decide_eq_true (show pb < (q : Int) by omega)]; simp)
          clear h h1 h3
          go_wp2
          go_quiet (fail)
          have C4 : Hid (Chg [] w (w3.drewN nq)) := hide (C3.out.drewN _)
          have BX4 := hide (BX3.out.keep ((Chg.refl [] w3).drewN nq) List.not_mem_nil)
          clear b0' b1' lbx BX3 C3
          generalize w3.drewN nq = w4 at C4 BX4 ⊢
          have ic0 : (0 : Int) ≤ (((j + 1) : Nat) : Int) := by omega
          have ic1 : (((j + 1) : Nat) : Int) ≤ (ucap : Int) := by omega
          have ic2 : (j + 1) ≤ ucap := by omega
          go_wp2
          go_loopw [94] (fun kv wq => ∃ (k : Nat), k ≤ (j + 1) ∧ kv = .int .i64 (k : Int) ∧ Hid ((∀ r, r < k → fooledB t v ((p : Int), (q : Int)) (l.getD r pr0) = true) ∧ Chg [] w wq ∧ Box wq Bx #[.int .i64 (p : Int), .int .i64 (q : Int)] 60)) (fun kv _ => (j + 1) - (intOf kv).toNat)
          case atStart => exact ⟨0, Nat.zero_le _, rfl, hide ⟨fun r h => by omega, C4.out, BX4.out⟩⟩
          case round =>
            obtain ⟨k, hk, rfl, hK⟩ := hrel
            by_cases hki : k < (j + 1)
            · have dk : decide ((k : Int) < (((j + 1) : Nat) : Int)) = true := decide_eq_true (by omega)
              have dk' : decide (k < (j + 1)) = true := decide_eq_true (by omega)
              obtain ⟨y0, y1⟩ := HC.out wr hK.out.2.1 k (by omega)
              obtain ⟨y, hy⟩ : ∃ y, y = l.getD k pr0 := ⟨_, rfl⟩
              have hpy := (HPl.out _).1 (step_place (HQ.out k (by omega)))
              rw [← hy] at y0 y1 hpy
              have HY := hide hy
              obtain ⟨ya, yb⟩ := y
              simp only [] at hpy
              obtain ⟨r, rfl⟩ := Int.eq_ofNat_of_zero_le hpy.1
              obtain ⟨s, rfl⟩ := Int.eq_ofNat_of_zero_le hpy.2.2.1
              have hrn : r < n := by omega
              have hsm : s < m := by omega
              obtain ⟨br, brc, hrowr⟩ := HE.out r hrn
              have HRr := hide hrowr
              have HK := hide hK.out.1
              have CK := hide hK.out.2.1
              have BK := hide hK.out.2.2
              have k0 : (0 : Int) ≤ (k : Int) := by omega
              have k1 : (k : Int) < (((j + 1) : Nat) : Int) := by omega
              have r0 : (0 : Int) ≤ (r : Int) := by omega
              have r1 : (r : Int) < (n : Int) := by omega
              have s0 : (0 : Int) ≤ (s : Int) := by omega
              have s1 : (s : Int) < (m : Int) := by omega
              have by0 := Box.new wr #[.int .i64 (r : Int), .int .i64 (s : Int)] 60
              have hc5 : Chg [] wr (wr.alloc (.cells #[.int .i64 (r : Int), .int .i64 (s : Int)] 60)) := (Chg.refl _ _).alloc _
              clear hy hpy hrowr hK
              go_wp2
              generalize wr.alloc (.cells #[.int .i64 (r : Int), .int .i64 (s : Int)] 60) = w5 at by0 hc5 ⊢
              generalize wr.heap.size = By at by0 ⊢
              have C5 : Hid (Chg [] w w5) := hide (CK.out.trans hc5)
              have BX5 := hide (BK.out.keep hc5 List.not_mem_nil)
              have a0 := BX5.out.cell 0
              have a1 := BX5.out.cell 1
              have la := BX5.out.lt
              have c0 := by0.cell 0
              have c1 := by0.cell 1
              have lc := by0.lt
              simp only [List.getElem?_toArray, List.getElem?_cons_zero, List.getElem?_cons_succ] at a0 a1 c0 c1
              obtain ⟨f1, f2a⟩ := HRow.out w5 C5.out
              obtain ⟨f3, f4a⟩ := HRr.out w5 C5.out
              have f2 := f2a s hsm
              have f4 := f4a q hq
              clear f2a f4a
              obtain ⟨g, hg⟩ : ∃ g, g = T.ent t p s := ⟨_, rfl⟩
              obtain ⟨h, hh⟩ : ∃ h, h = T.ent t r q := ⟨_, rfl⟩
              rw [← hg] at f2
              rw [← hh] at f4
              have HFo : Hid (fooledB t v ((p : Int), (q : Int)) ((r : Int), (s : Int)) = ((g != v) || (h != v))) := hide (by unfold fooledB; simp only [Int.toNat_natCast]; rw [hg, hh])
              clear by0 hc5 hg hh y0 y1
              by_cases hgv : g = v
              · have e1 : (g == v) = true := by simpa using hgv
                have e1' : (g != v) = false := by simpa using hgv
                by_cases hhv : h = v
                · have e2 : (h == v) = true := by simpa using hhv
                  have e2' : (h != v) = false := by simpa using hhv
                  have E : Hid (R = false) := hide (HEx.out (step_unfooled hil hki (by rw [← HY.out, HFo.out, e1', e2']; rfl)))
                  clear hgv hhv e1' e2'
                  go_quiet (fail)
                  go_wp2
                  go_ret
                  exact ⟨by rw [E.out]; rfl, C5.out.drewN _⟩
                · have e2 : (h == v) = false := by simpa using hhv
                  have e2' : (h != v) = true := by simpa using hhv
                  have HN2 : Hid (fooledB t v ((p : Int), (q : Int)) (l.getD k pr0) = true) := hide (by rw [← HY.out, HFo.out, e1', e2']; rfl)
                  clear hgv hhv e1' e2'
                  go_quiet (fail)
                  go_wp2
                  go_roundw
                  case rel => exact ⟨k + 1, by omega, by go_num, hide ⟨fun r' hr' => by
                    rcases (show r' < k ∨ r' = k by omega) with h' | rfl
                    · exact HK.out r' h'
                    · exact HN2.out, C5.out.drewN _, BX5.out.keep ((Chg.refl [] w5).drewN nq) List.not_mem_nil⟩⟩
                  case measure => simp [intOf]; omega
              · have e1 : (g == v) = false := by simpa using hgv
                have e1' : (g != v) = true := by simpa using hgv
                have HN2 : Hid (fooledB t v ((p : Int), (q : Int)) (l.getD k pr0) = true) := hide (by rw [← HY.out, HFo.out, e1']; rfl)
                clear hgv e1'
                go_quiet (fail)
                go_wp2
                go_roundw
                case rel => exact ⟨k + 1, by omega, by go_num, hide ⟨fun r' hr' => by
                  rcases (show r' < k ∨ r' = k by omega) with h' | rfl
                  · exact HK.out r' h'
                  · exact HN2.out, C5.out.drewN _, BX5.out.keep ((Chg.refl [] w5).drewN nq) List.not_mem_nil⟩⟩
                case measure => simp [intOf]; omega
            · have dk : decide ((k : Int) < (((j + 1) : Nat) : Int)) = false := decide_eq_false (by omega)
              have dk' : decide (k < (j + 1)) = false := decide_eq_false (by omega)
              obtain rfl : k = (j + 1) := by omega
              have HStep : Hid (stepB t v (l.take ((j + 1))) (l.getD ((j + 1)) pr0) = true) := hide (by rw [← HX.out]; exact step_true hil HPx.out HOrd.out hK.out.1)
              go_wp2
              go_roundw
              case rel => exact ⟨(j + 1) + 1, by omega, by go_num, hide ⟨fun r' hr' => by
                rcases (show r' < (j + 1) ∨ r' = (j + 1) by omega) with h' | rfl
                · exact HQ.out r' h'
                · exact HStep.out, hK.out.2.1⟩⟩
              case measure => simp [intOf]; omega
      · have g2 : (pa == (p : Int)) = false := by simpa using h
        have HOrd : Hid (((l.take (j + 1)).isEmpty || ltB (lastP (l.take (j + 1))) ((p : Int), (q : Int))) = true) := hide (by rw [HLa.out]; unfold ltB; rw [decide_eq_true (show pa < (p : Int) by omega)]; simp)
        clear h h1
        go_wp2
        go_quiet (fail)
        have C4 : Hid (Chg [] w (w3.drewN nq)) := hide (C3.out.drewN _)
        have BX4 := hide (BX3.out.keep ((Chg.refl [] w3).drewN nq) List.not_mem_nil)
        clear b0' b1' lbx BX3 C3
        generalize w3.drewN nq = w4 at C4 BX4 ⊢
        have ic0 : (0 : Int) ≤ (((j + 1) : Nat) : Int) := by omega
        have ic1 : (((j + 1) : Nat) : Int) ≤ (ucap : Int) := by omega
        have ic2 : (j + 1) ≤ ucap := by omega
        go_wp2
        go_loopw [94] (fun kv wq => ∃ (k : Nat), k ≤ (j + 1) ∧ kv = .int .i64 (k : Int) ∧ Hid ((∀ r, r < k → fooledB t v ((p : Int), (q : Int)) (l.getD r pr0) = true) ∧ Chg [] w wq ∧ Box wq Bx #[.int .i64 (p : Int), .int .i64 (q : Int)] 60)) (fun kv _ => (j + 1) - (intOf kv).toNat)
        case atStart => exact ⟨0, Nat.zero_le _, rfl, hide ⟨fun r h => by omega, C4.out, BX4.out⟩⟩
        case round =>
          obtain ⟨k, hk, rfl, hK⟩ := hrel
          by_cases hki : k < (j + 1)
          · have dk : decide ((k : Int) < (((j + 1) : Nat) : Int)) = true := decide_eq_true (by omega)
            have dk' : decide (k < (j + 1)) = true := decide_eq_true (by omega)
            obtain ⟨y0, y1⟩ := HC.out wr hK.out.2.1 k (by omega)
            obtain ⟨y, hy⟩ : ∃ y, y = l.getD k pr0 := ⟨_, rfl⟩
            have hpy := (HPl.out _).1 (step_place (HQ.out k (by omega)))
            rw [← hy] at y0 y1 hpy
            have HY := hide hy
            obtain ⟨ya, yb⟩ := y
            simp only [] at hpy
            obtain ⟨r, rfl⟩ := Int.eq_ofNat_of_zero_le hpy.1
            obtain ⟨s, rfl⟩ := Int.eq_ofNat_of_zero_le hpy.2.2.1
            have hrn : r < n := by omega
            have hsm : s < m := by omega
            obtain ⟨br, brc, hrowr⟩ := HE.out r hrn
            have HRr := hide hrowr
            have HK := hide hK.out.1
            have CK := hide hK.out.2.1
            have BK := hide hK.out.2.2
            have k0 : (0 : Int) ≤ (k : Int) := by omega
            have k1 : (k : Int) < (((j + 1) : Nat) : Int) := by omega
            have r0 : (0 : Int) ≤ (r : Int) := by omega
            have r1 : (r : Int) < (n : Int) := by omega
            have s0 : (0 : Int) ≤ (s : Int) := by omega
            have s1 : (s : Int) < (m : Int) := by omega
            have by0 := Box.new wr #[.int .i64 (r : Int), .int .i64 (s : Int)] 60
            have hc5 : Chg [] wr (wr.alloc (.cells #[.int .i64 (r : Int), .int .i64 (s : Int)] 60)) := (Chg.refl _ _).alloc _
            clear hy hpy hrowr hK
            go_wp2
            generalize wr.alloc (.cells #[.int .i64 (r : Int), .int .i64 (s : Int)] 60) = w5 at by0 hc5 ⊢
            generalize wr.heap.size = By at by0 ⊢
            have C5 : Hid (Chg [] w w5) := hide (CK.out.trans hc5)
            have BX5 := hide (BK.out.keep hc5 List.not_mem_nil)
            have a0 := BX5.out.cell 0
            have a1 := BX5.out.cell 1
            have la := BX5.out.lt
            have c0 := by0.cell 0
            have c1 := by0.cell 1
            have lc := by0.lt
            simp only [List.getElem?_toArray, List.getElem?_cons_zero, List.getElem?_cons_succ] at a0 a1 c0 c1
            obtain ⟨f1, f2a⟩ := HRow.out w5 C5.out
            obtain ⟨f3, f4a⟩ := HRr.out w5 C5.out
            have f2 := f2a s hsm
            have f4 := f4a q hq
            clear f2a f4a
            obtain ⟨g, hg⟩ : ∃ g, g = T.ent t p s := ⟨_, rfl⟩
            obtain ⟨h, hh⟩ : ∃ h, h = T.ent t r q := ⟨_, rfl⟩
            rw [← hg] at f2
            rw [← hh] at f4
            have HFo : Hid (fooledB t v ((p : Int), (q : Int)) ((r : Int), (s : Int)) = ((g != v) || (h != v))) := hide (by unfold fooledB; simp only [Int.toNat_natCast]; rw [hg, hh])
            clear by0 hc5 hg hh y0 y1
            by_cases hgv : g = v
            · have e1 : (g == v) = true := by simpa using hgv
              have e1' : (g != v) = false := by simpa using hgv
              by_cases hhv : h = v
              · have e2 : (h == v) = true := by simpa using hhv
                have e2' : (h != v) = false := by simpa using hhv
                have E : Hid (R = false) := hide (HEx.out (step_unfooled hil hki (by rw [← HY.out, HFo.out, e1', e2']; rfl)))
                clear hgv hhv e1' e2'
                go_quiet (fail)
                go_wp2
                go_ret
                exact ⟨by rw [E.out]; rfl, C5.out.drewN _⟩
              · have e2 : (h == v) = false := by simpa using hhv
                have e2' : (h != v) = true := by simpa using hhv
                have HN2 : Hid (fooledB t v ((p : Int), (q : Int)) (l.getD k pr0) = true) := hide (by rw [← HY.out, HFo.out, e1', e2']; rfl)
                clear hgv hhv e1' e2'
                go_quiet (fail)
                go_wp2
                go_roundw
                case rel => exact ⟨k + 1, by omega, by go_num, hide ⟨fun r' hr' => by
                  rcases (show r' < k ∨ r' = k by omega) with h' | rfl
                  · exact HK.out r' h'
                  · exact HN2.out, C5.out.drewN _, BX5.out.keep ((Chg.refl [] w5).drewN nq) List.not_mem_nil⟩⟩
                case measure => simp [intOf]; omega
            · have e1 : (g == v) = false := by simpa using hgv
              have e1' : (g != v) = true := by simpa using hgv
              have HN2 : Hid (fooledB t v ((p : Int), (q : Int)) (l.getD k pr0) = true) := hide (by rw [← HY.out, HFo.out, e1']; rfl)
              clear hgv e1'
              go_quiet (fail)
              go_wp2
              go_roundw
              case rel => exact ⟨k + 1, by omega, by go_num, hide ⟨fun r' hr' => by
                rcases (show r' < k ∨ r' = k by omega) with h' | rfl
                · exact HK.out r' h'
                · exact HN2.out, C5.out.drewN _, BX5.out.keep ((Chg.refl [] w5).drewN nq) List.not_mem_nil⟩⟩
              case measure => simp [intOf]; omega
          · have dk : decide ((k : Int) < (((j + 1) : Nat) : Int)) = false := decide_eq_false (by omega)
            have dk' : decide (k < (j + 1)) = false := decide_eq_false (by omega)
            obtain rfl : k = (j + 1) := by omega
            have HStep : Hid (stepB t v (l.take ((j + 1))) (l.getD ((j + 1)) pr0) = true) := hide (by rw [← HX.out]; exact step_true hil HPx.out HOrd.out hK.out.1)
            go_wp2
            go_roundw
            case rel => exact ⟨(j + 1) + 1, by omega, by go_num, hide ⟨fun r' hr' => by
              rcases (show r' < (j + 1) ∨ r' = (j + 1) by omega) with h' | rfl
              · exact HQ.out r' h'
              · exact HStep.out, hK.out.2.1⟩⟩
            case measure => simp [intOf]; omega
    · have d1 : decide ((i : Int) < (L : Int)) = false := by simpa using hlt
      obtain rfl : i = L := by omega
      have E : Hid (R = true) := hide (HTr.out hI.out.1)
      go_wp2
      go_ret
      exact ⟨by rw [E.out]; rfl, hI.out.2⟩
end Go.Proofs.Ytaapamoglgpocaa
