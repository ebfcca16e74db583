/- Walk: the least length, the reference's. -/
import Derived.Test.YtaapamoglgpocaaRClear
import Derived.Test.YtaapamoglgpocaaBy
namespace Go.Proofs.Ytaapamoglgpocaa
open Go.RowKit

/-- The table of what was found. -/
def RTab (w : World) (B : Nat) (f : Nat → Int) : Prop := ∃ cur, Box w B cur 79 ∧ cur.size = 256 ∧ ∀ i, i < 256 → cur[i]? = some (.int .i64 (f i))
theorem RTab.lt {w : World} {A : Nat} {f : Nat → Int} (h : RTab w A f) : A < w.heap.size := by obtain ⟨c, h, _⟩ := h; exact h.lt
theorem RTab.keep {w w' : World} {A : Nat} {f : Nat → Int} {S : List Nat} (h : RTab w A f) (hc : Chg S w w') (hs : A ∉ S) : RTab w' A f := by
  obtain ⟨c, h, hc'⟩ := h
  exact ⟨c, h.keep hc hs, hc'⟩
theorem RTab.cell {w : World} {A : Nat} {f : Nat → Int} (h : RTab w A f) {i : Nat} (hi : i < 256) : w.cell? ⟨A, i, none⟩ = some (.int .i64 (f i)) := by
  obtain ⟨c, h, _, hc⟩ := h
  rw [h.cell]; exact hc i hi
theorem RTab.free {w : World} {A : Nat} {f : Nat → Int} (h : RTab w A f) (i : Nat) : w.frozen? ⟨A, i, none⟩ = false := by
  obtain ⟨c, h, _⟩ := h
  exact h.free i
theorem RTab.set {w : World} {A : Nat} {f g : Nat → Int} (h : RTab w A f) (i : Nat) (v : Int) (hg : ∀ j, j < 256 → g j = if j = i then v else f j) : RTab (w.setCell ⟨A, i, none⟩ (.int .i64 v)) A g := by
  obtain ⟨c, h, hs, hc⟩ := h
  refine ⟨_, h.set i _, by simpa using hs, fun j hj => ?_⟩
  rw [hg j hj]
  by_cases hij : j = i
  · subst hij
    rw [Array.getElem?_setIfInBounds_self, if_pos (by omega), if_pos rfl]
  · rw [Array.getElem?_setIfInBounds_ne (Ne.symm hij), hc j hj, if_neg hij]
/-- What it says of parts is right. -/
def RGood (t : List (List Int)) (f : Nat → Int) : Prop := ∀ r c, r < 16 → c < 16 → r ≠ 0 → c ≠ 0 → f (r * 16 + c) = 0 ∨ f (r * 16 + c) = (T.len t r c : Int) + 1
def RLenOk (w0 : World) (B : Nat) (vt : Value) (t : List (List Int)) (F : Nat) : Prop := ∀ (r c : Nat) (w : World) (f : Nat → Int), r < 16 → c < 16 → r ≠ 0 → c ≠ 0 → r + c < F → Chg [] w0 w → RTab w B f → RGood t f →
  Calls Try.prog 60 #[vt, .int .i64 (r : Int), .int .i64 (c : Int), .pointer (some ⟨B, 0, none⟩)] w
    fun e w' => e = .returned (.int .i64 (T.len t r c : Int)) ∧ Chg [] w0 w' ∧ ∃ f', RTab w' B f' ∧ RGood t f'
/-- In the midst of the search: all sets below some have been tried. -/
def RBest (t : List (List Int)) (r c sr sc b : Nat) : Prop := (b = 100 ∨ (∃ x, x ∈ T.subs r ∧ b = T.cost t r c 0 x) ∨ (∃ x, x ∈ T.subs c ∧ b = T.cost t r c 1 x)) ∧ (∀ x, x < sr → x ∈ T.subs r → b ≤ T.cost t r c 0 x) ∧ (∀ x, x < sc → x ∈ T.subs c → b ≤ T.cost t r c 1 x)
theorem RBest.row_no {t : List (List Int)} {r c sr sc b : Nat} (h : RBest t r c sr sc b) (hn : sr ∉ T.subs r) : RBest t r c (sr + 1) sc b :=
  ⟨h.1, fun x hx hm => h.2.1 x (by
    rcases (show x < sr ∨ x = sr by omega) with h | rfl
    · exact h
    · exact absurd hm hn) hm, h.2.2⟩
theorem RBest.col_no {t : List (List Int)} {r c sr sc b : Nat} (h : RBest t r c sr sc b) (hn : sc ∉ T.subs c) : RBest t r c sr (sc + 1) b :=
  ⟨h.1, h.2.1, fun x hx hm => h.2.2 x (by
    rcases (show x < sc ∨ x = sc by omega) with h | rfl
    · exact h
    · exact absurd hm hn) hm⟩
theorem RBest.row_yes {t : List (List Int)} {r c sr sc b b' : Nat} (h : RBest t r c sr sc b) (hn : sr ∈ T.subs r) (hb : b' = min b (T.cost t r c 0 sr)) : RBest t r c (sr + 1) sc b' := by
  refine ⟨?_, fun x hx hm => ?_, fun x hx hm => ?_⟩
  · by_cases hl : b ≤ T.cost t r c 0 sr
    · rw [show b' = b by omega]; exact h.1
    · exact .inr (.inl ⟨sr, hn, by omega⟩)
  · rcases (show x < sr ∨ x = sr by omega) with h' | rfl
    · have := h.2.1 x h' hm; omega
    · omega
  · have := h.2.2 x hx hm; omega
theorem RBest.col_yes {t : List (List Int)} {r c sr sc b b' : Nat} (h : RBest t r c sr sc b) (hn : sc ∈ T.subs c) (hb : b' = min b (T.cost t r c 1 sc)) : RBest t r c sr (sc + 1) b' := by
  refine ⟨?_, fun x hx hm => ?_, fun x hx hm => ?_⟩
  · by_cases hl : b ≤ T.cost t r c 1 sc
    · rw [show b' = b by omega]; exact h.1
    · exact .inr (.inr ⟨sc, hn, by omega⟩)
  · have := h.2.1 x hx hm; omega
  · rcases (show x < sc ∨ x = sc by omega) with h' | rfl
    · have := h.2.2 x h' hm; omega
    · omega
theorem RBest.start (t : List (List Int)) {r c : Nat} (hr : r < 16) (hc : c < 16) : RBest t r c 1 1 100 :=
  ⟨.inl rfl, fun x hx hm => by have := (T.subs_mem hr hm).1; omega, fun x hx hm => by have := (T.subs_mem hc hm).1; omega⟩
theorem RBest.fin {t : List (List Int)} (ht : T.isTab t = true) {r c b : Nat} (hr : r < 16) (hc : c < 16) (hr0 : r ≠ 0) (hc0 : c ≠ 0) (hcl : T.clear t r c = false) (h : RBest t r c 16 16 b) : b = T.len t r c := by
  have hl := T.len_lt ht hr hc hr0 hc0
  have he := T.len_eq (t := t) hr hc
  rw [hcl, if_neg (by decide)] at he
  have hsub : ∀ s, s ∈ T.subs r → T.len t r c ≤ T.cost t r c 0 s := fun s => (T.cost_sub hr hc hcl (s := s)).1
  have hsub' : ∀ s, s ∈ T.subs c → T.len t r c ≤ T.cost t r c 1 s := fun s => (T.cost_sub hr hc hcl (s := s)).2
  have hb : b ≤ T.len t r c := by
    rcases T.best_mem ((T.subs r).map (T.cost t r c 0) ++ (T.subs c).map (T.cost t r c 1)) with h8 | hm
    · omega
    · rw [← he] at hm
      rcases List.mem_append.1 hm with hm | hm
      · obtain ⟨s, hs, e⟩ := List.mem_map.1 hm
        rw [← e]
        exact h.2.1 s (by have := (T.subs_mem hr hs).2.1; omega) hs
      · obtain ⟨s, hs, e⟩ := List.mem_map.1 hm
        rw [← e]
        exact h.2.2 s (by have := (T.subs_mem hc hs).2.1; omega) hs
  rcases h.1 with h' | ⟨x, hx, e⟩ | ⟨x, hx, e⟩
  · omega
  · have := hsub x hx; omega
  · have := hsub' x hx; omega
theorem RGood.set {t : List (List Int)} {f : Nat → Int} (h : RGood t f) {r c : Nat} (hr : r < 16) (hc : c < 16) : RGood t (fun j => if j = r * 16 + c then (T.len t r c : Int) + 1 else f j) := by
  intro r' c' h1 h2 h3 h4
  by_cases e : r' * 16 + c' = r * 16 + c
  · have e1 : r' = r := by omega
    have e2 : c' = c := by omega
    subst e1 e2
    right
    simp
  · show (if r' * 16 + c' = r * 16 + c then _ else f (r' * 16 + c')) = 0 ∨ (if r' * 16 + c' = r * 16 + c then _ else f (r' * 16 + c')) = _
    rw [if_neg e]
    exact h r' c' h1 h2 h3 h4
theorem not_subs {a s : Nat} (ha : a < 16) (h : ¬ (s &&& a = s ∧ s ≠ a)) : s ∉ T.subs a := fun hm => h ⟨(T.subs_mem ha hm).2.2.1, by have := (T.subs_mem ha hm).2.1; omega⟩
theorem imax_nat (a b : Nat) : imax (a : Int) (b : Int) = ((max a b : Nat) : Int) := by unfold imax; split <;> omega
theorem imin_one (a b : Nat) : imin (a : Int) (1 + (b : Int)) = ((min a (1 + b) : Nat) : Int) := by unfold imin; split <;> omega

set_option maxRecDepth 100000 in
set_option maxHeartbeats 8000000 in
theorem rlength_more (w0 : World) (B : Nat) (vt : Value) (t : List (List Int)) (F : Nat) (hv : See2 w0 vt t) (ht : T.isTab t = true) (hB : w0.heap.size ≤ B) (IH : RLenOk w0 B vt t F) : RLenOk w0 B vt t (F + 1) := by
  intro r c w f hr hc hr0 hc0 hF hw hf hg
  have kmin := fun w ts t x y => @run_min_2 Try.prog w ts t x y
  have kmax := fun w ts t x y => @run_max_2 Try.prog w ts t x y
  have hfc := hf.cell (i := r * 16 + c) (by omega)
  have lB := hf.lt
  have HF := hide (And.intro hf hg)
  have HW := hide hw
  have HIH := hide IH
  have HCl := hide fun ws (h : Chg [] w0 ws) => Clear_any vt t r c ws (hv.keep h) ht (by omega) (by omega)
  have HT := hide ht
  obtain ⟨ao, cap, rfl⟩ := hv.shape
  have hv0 := hg r c hr hc hr0 hc0
  obtain ⟨x, hx⟩ : ∃ x, x = f (r * 16 + c) := ⟨_, rfl⟩
  rw [← hx] at hfc hv0
  have HX := hide hx
  have HR0 := hide (And.intro hr0 hc0)
  have HB := hide hB
  have hle := T.len_lt ht hr hc hr0 hc0
  have hr16 : (r : Int) < 16 := by omega
  have hc16 : (c : Int) < 16 := by omega
  obtain ⟨L, hL⟩ : ∃ L, L = T.len t r c := ⟨_, rfl⟩
  rw [← hL] at hv0 hle ⊢
  have HL := hide hL
  have HFu := hide hF
  obtain ⟨n, hn⟩ : ∃ n, n = t.length := ⟨_, rfl⟩
  rw [← hn] at HIH HCl ⊢
  clear hv hw hf hg IH ht hx hL hB hF hn hr0 hc0
  by_cases hx0 : 0 < x
  · have d0 : decide (0 < x) = true := by simpa using hx0
    obtain rfl : x = (L : Int) + 1 := by omega
    have ex : (L : Int) + 1 - 1 = (L : Int) := by omega
    clear hv0 hx0
    go_enter Try.func60, Try.ntmps60
    go_wp2
    go_ret
    exact ⟨by first | rfl | (congr 2; omega), HW.out, _, HF.out⟩
  have d0 : decide (0 < x) = false := by simpa using hx0
  clear hv0 hx0
  obtain ⟨k, hk⟩ : ∃ k, k = T.clear t r c := ⟨_, rfl⟩
  rw [← hk] at HCl
  have HK := hide hk
  clear hk
  cases k with
  | true =>
    have E : Hid (L = 0) := hide (by rw [HL.out, T.len_eq hr hc, ← HK.out, if_pos rfl])
    go_enter Try.func60, Try.ntmps60
    go_wp2_with fail
    refine (HCl.out _ HW.out).mono ?_
    rintro e w1 ⟨rfl, hw1⟩
    have HF1 := hide (And.intro (HF.out.1.keep hw1 List.not_mem_nil) HF.out.2)
    have C1 : Hid (Chg [] w0 w1) := hide (HW.out.trans hw1)
    have lB1 := HF1.out.1.lt
    have fr1 := HF1.out.1.free (r * 16 + c)
    have fc1 := HF1.out.1.cell (i := r * 16 + c) (by omega)
    clear hw1
    go_wp2
    go_ret
    refine ⟨by rw [E.out]; rfl, C1.out.setCell (.inr HB.out) _, _, HF1.out.1.set _ _ (fun j _ => rfl), ?_⟩
    have h := HF1.out.2.set (r := r) (c := c) hr hc
    rw [← HL.out, E.out] at h
    exact h
  | false =>
    go_enter Try.func60, Try.ntmps60
    go_wp2_with fail
    refine (HCl.out _ HW.out).mono ?_
    rintro e w1 ⟨rfl, hw1⟩
    have HF1 := hide (And.intro (HF.out.1.keep hw1 List.not_mem_nil) HF.out.2)
    have C1 : Hid (Chg [] w0 w1) := hide (HW.out.trans hw1)
    clear hw1 hfc lB
    go_wp2
    go_loopw [9, 10] (fun bv sv wr => ∃ (s b : Nat), 1 ≤ s ∧ s ≤ 16 ∧ b ≤ 100 ∧ bv = .int .i64 (b : Int) ∧ sv = .int .i64 (s : Int) ∧ Hid (RBest t r c s s b ∧ Chg [] w0 wr ∧ ∃ f', RTab wr B f' ∧ RGood t f')) (fun _ sv _ => 16 - (intOf sv).toNat)
    case atStart => exact ⟨1, 100, Nat.le_refl _, by omega, Nat.le_refl _, rfl, rfl, hide ⟨RBest.start t hr hc, C1.out, _, HF1.out⟩⟩
    case round =>
      obtain ⟨s, b, hs1, hs16, hb, rfl, rfl, hI⟩ := hrel
      by_cases hlt : s < 16
      · have d1 : decide ((s : Int) < 16) = true := by simp; omega
        have ar := and_nat s r (by omega) (by omega)
        have ac := and_nat s c (by omega) (by omega)
        obtain ⟨u, hu⟩ : ∃ u, u = s &&& r := ⟨_, rfl⟩
        obtain ⟨u', hu'⟩ : ∃ u', u' = s &&& c := ⟨_, rfl⟩
        rw [← hu] at ar
        rw [← hu'] at ac
        have HU := hide (And.intro hu hu')
        clear hu hu'
        obtain ⟨hBest, c0, f0, t0⟩ := hI.out
        have C0 := hide c0
        have T0 := hide t0
        have HBest := hide hBest
        clear hBest c0 t0 hI
        by_cases hqr : u = s
        · by_cases hner : s = r
          · by_cases hqc : u' = s
            · by_cases hnec : s = c
              · have duc : ((u' : Int) == (s : Int)) = true := by simp; omega
                have dnc : ((s : Int) != (c : Int)) = false := by simp; omega
                have hnoc := hide (not_subs hc (s := s) (fun h => h.2 hnec))
                clear hnec
                have dur : ((u : Int) == (s : Int)) = true := by simp; omega
                have dnr : ((s : Int) != (r : Int)) = false := by simp; omega
                have hnor := hide (not_subs hr (s := s) (fun h => h.2 hner))
                clear hner
                go_wp2
                go_roundw
                case rel => exact ⟨s + 1, b, by omega, by omega, by omega, rfl, by go_num, hide ⟨(HBest.out.row_no hnor.out).col_no hnoc.out, C0.out, _, T0.out⟩⟩
                case measure => simp [intOf]; omega
              · have duc : ((u' : Int) == (s : Int)) = true := by simp; omega
                have dnc : ((s : Int) != (c : Int)) = true := by simp; omega
                have dur : ((u : Int) == (s : Int)) = true := by simp; omega
                have dnr : ((s : Int) != (r : Int)) = false := by simp; omega
                have hnor := hide (not_subs hr (s := s) (fun h => h.2 hner))
                clear hner
                have hsubc : s ∈ T.subs c := T.mem_subs hc hlt (by omega) hnec (by have := HU.out.2; omega)
                obtain ⟨m1, m2, m3, m4, m5, m6⟩ := T.subs_mem hc hsubc
                have anc := andNot_16 hc hlt
                rw [Nat.and_comm, m3] at anc
                obtain ⟨c', hpc⟩ : ∃ x, x = c - s := ⟨_, rfl⟩
                rw [← hpc] at anc m4 m5
                have HSbc := hide hsubc
                have K1c := hide fun w f h1 h2 h3 => HIH.out r s w f (by omega) (by omega) (by first | exact m1 | exact HR0.out.1) (by first | exact HR0.out.2 | exact m1) (by have := HFu.out; omega) h1 h2 h3
                have K2c := hide fun w f h1 h2 h3 => HIH.out r c' w f (by omega) (by omega) (by first | exact m4 | exact HR0.out.1) (by first | exact HR0.out.2 | exact m4) (by have := HFu.out; omega) h1 h2 h3
                have hl1c := T.len_lt HT.out (r := r) (c := s) (by omega) (by omega) (by first | exact m1 | exact HR0.out.1) (by first | exact HR0.out.2 | exact m1)
                have hl2c := T.len_lt HT.out (r := r) (c := c') (by omega) (by omega) (by first | exact m4 | exact HR0.out.1) (by first | exact HR0.out.2 | exact m4)
                have hcoc : T.cost t r c 1 s = 1 + max (T.len t r c') (T.len t r s) := by rw [hpc]; rfl
                obtain ⟨L1c, hL1c⟩ : ∃ x, x = T.len t r s := ⟨_, rfl⟩
                obtain ⟨L2c, hL2c⟩ : ∃ x, x = T.len t r c' := ⟨_, rfl⟩
                rw [← hL1c] at K1c hl1c hcoc
                rw [← hL2c] at K2c hl2c hcoc
                have hmxc := imax_nat L1c L2c
                obtain ⟨Mc, hMc⟩ : ∃ x, x = max L1c L2c := ⟨_, rfl⟩
                rw [← hMc] at hmxc
                rw [Nat.max_comm, ← hMc] at hcoc
                have hM6c : Mc ≤ 6 := by omega
                have hmnc := imin_one b Mc
                obtain ⟨b2, hb2⟩ : ∃ x, x = min b (1 + Mc) := ⟨_, rfl⟩
                rw [← hb2] at hmnc
                have hlec : b2 ≤ 100 := by omega
                have HBoc : Hid (b2 = min b (T.cost t r c 1 s)) := hide (by rw [hcoc]; exact hb2)
                clear hMc hb2 hL1c hL2c hcoc m3 m6 hsubc hpc
                go_wp2_with fail
                refine (K1c.out _ _ C0.out T0.out.1 T0.out.2).mono ?_
                rintro e w1c ⟨rfl, c1c, f1c, t1c⟩
                have C1c := hide c1c; have T1c := hide t1c; clear c1c t1c
                go_wp2_with fail
                refine (K2c.out _ _ C1c.out T1c.out.1 T1c.out.2).mono ?_
                rintro e w2c ⟨rfl, c2c, f2c, t2c⟩
                have C2c := hide c2c; have T2c := hide t2c; clear c2c t2c
                go_wp2
                go_roundw
                case rel => exact ⟨s + 1, b2, by omega, by omega, by omega, rfl, by go_num, hide ⟨(HBest.out.row_no hnor.out).col_yes HSbc.out HBoc.out, C2c.out, _, T2c.out⟩⟩
                case measure => simp [intOf]; omega
            · have duc : ((u' : Int) == (s : Int)) = false := by simp; omega
              have hnoc := hide (not_subs hc (s := s) (fun h => hqc (by have := HU.out; omega)))
              have dur : ((u : Int) == (s : Int)) = true := by simp; omega
              have dnr : ((s : Int) != (r : Int)) = false := by simp; omega
              have hnor := hide (not_subs hr (s := s) (fun h => h.2 hner))
              clear hner
              go_wp2
              go_roundw
              case rel => exact ⟨s + 1, b, by omega, by omega, by omega, rfl, by go_num, hide ⟨(HBest.out.row_no hnor.out).col_no hnoc.out, C0.out, _, T0.out⟩⟩
              case measure => simp [intOf]; omega
          · by_cases hqc : u' = s
            · by_cases hnec : s = c
              · have duc : ((u' : Int) == (s : Int)) = true := by simp; omega
                have dnc : ((s : Int) != (c : Int)) = false := by simp; omega
                have hnoc := hide (not_subs hc (s := s) (fun h => h.2 hnec))
                clear hnec
                have dur : ((u : Int) == (s : Int)) = true := by simp; omega
                have dnr : ((s : Int) != (r : Int)) = true := by simp; omega
                have hsubr : s ∈ T.subs r := T.mem_subs hr hlt (by omega) hner (by have := HU.out.1; omega)
                obtain ⟨m1, m2, m3, m4, m5, m6⟩ := T.subs_mem hr hsubr
                have anr := andNot_16 hr hlt
                rw [Nat.and_comm, m3] at anr
                obtain ⟨r', hpr⟩ : ∃ x, x = r - s := ⟨_, rfl⟩
                rw [← hpr] at anr m4 m5
                have HSbr := hide hsubr
                have K1r := hide fun w f h1 h2 h3 => HIH.out s c w f (by omega) (by omega) (by first | exact m1 | exact HR0.out.1) (by first | exact HR0.out.2 | exact m1) (by have := HFu.out; omega) h1 h2 h3
                have K2r := hide fun w f h1 h2 h3 => HIH.out r' c w f (by omega) (by omega) (by first | exact m4 | exact HR0.out.1) (by first | exact HR0.out.2 | exact m4) (by have := HFu.out; omega) h1 h2 h3
                have hl1r := T.len_lt HT.out (r := s) (c := c) (by omega) (by omega) (by first | exact m1 | exact HR0.out.1) (by first | exact HR0.out.2 | exact m1)
                have hl2r := T.len_lt HT.out (r := r') (c := c) (by omega) (by omega) (by first | exact m4 | exact HR0.out.1) (by first | exact HR0.out.2 | exact m4)
                have hcor : T.cost t r c 0 s = 1 + max (T.len t r' c) (T.len t s c) := by rw [hpr]; rfl
                obtain ⟨L1r, hL1r⟩ : ∃ x, x = T.len t s c := ⟨_, rfl⟩
                obtain ⟨L2r, hL2r⟩ : ∃ x, x = T.len t r' c := ⟨_, rfl⟩
                rw [← hL1r] at K1r hl1r hcor
                rw [← hL2r] at K2r hl2r hcor
                have hmxr := imax_nat L1r L2r
                obtain ⟨Mr, hMr⟩ : ∃ x, x = max L1r L2r := ⟨_, rfl⟩
                rw [← hMr] at hmxr
                rw [Nat.max_comm, ← hMr] at hcor
                have hM6r : Mr ≤ 6 := by omega
                have hmnr := imin_one b Mr
                obtain ⟨b1, hb1⟩ : ∃ x, x = min b (1 + Mr) := ⟨_, rfl⟩
                rw [← hb1] at hmnr
                have hler : b1 ≤ 100 := by omega
                have HBor : Hid (b1 = min b (T.cost t r c 0 s)) := hide (by rw [hcor]; exact hb1)
                clear hMr hb1 hL1r hL2r hcor m3 m6 hsubr hpr
                go_wp2_with fail
                refine (K1r.out _ _ C0.out T0.out.1 T0.out.2).mono ?_
                rintro e w1r ⟨rfl, c1r, f1r, t1r⟩
                have C1r := hide c1r; have T1r := hide t1r; clear c1r t1r
                go_wp2_with fail
                refine (K2r.out _ _ C1r.out T1r.out.1 T1r.out.2).mono ?_
                rintro e w2r ⟨rfl, c2r, f2r, t2r⟩
                have C2r := hide c2r; have T2r := hide t2r; clear c2r t2r
                go_wp2
                go_roundw
                case rel => exact ⟨s + 1, b1, by omega, by omega, by omega, rfl, by go_num, hide ⟨(HBest.out.row_yes HSbr.out HBor.out).col_no hnoc.out, C2r.out, _, T2r.out⟩⟩
                case measure => simp [intOf]; omega
              · have duc : ((u' : Int) == (s : Int)) = true := by simp; omega
                have dnc : ((s : Int) != (c : Int)) = true := by simp; omega
                have dur : ((u : Int) == (s : Int)) = true := by simp; omega
                have dnr : ((s : Int) != (r : Int)) = true := by simp; omega
                have hsubr : s ∈ T.subs r := T.mem_subs hr hlt (by omega) hner (by have := HU.out.1; omega)
                obtain ⟨m1, m2, m3, m4, m5, m6⟩ := T.subs_mem hr hsubr
                have anr := andNot_16 hr hlt
                rw [Nat.and_comm, m3] at anr
                obtain ⟨r', hpr⟩ : ∃ x, x = r - s := ⟨_, rfl⟩
                rw [← hpr] at anr m4 m5
                have HSbr := hide hsubr
                have K1r := hide fun w f h1 h2 h3 => HIH.out s c w f (by omega) (by omega) (by first | exact m1 | exact HR0.out.1) (by first | exact HR0.out.2 | exact m1) (by have := HFu.out; omega) h1 h2 h3
                have K2r := hide fun w f h1 h2 h3 => HIH.out r' c w f (by omega) (by omega) (by first | exact m4 | exact HR0.out.1) (by first | exact HR0.out.2 | exact m4) (by have := HFu.out; omega) h1 h2 h3
                have hl1r := T.len_lt HT.out (r := s) (c := c) (by omega) (by omega) (by first | exact m1 | exact HR0.out.1) (by first | exact HR0.out.2 | exact m1)
                have hl2r := T.len_lt HT.out (r := r') (c := c) (by omega) (by omega) (by first | exact m4 | exact HR0.out.1) (by first | exact HR0.out.2 | exact m4)
                have hcor : T.cost t r c 0 s = 1 + max (T.len t r' c) (T.len t s c) := by rw [hpr]; rfl
                obtain ⟨L1r, hL1r⟩ : ∃ x, x = T.len t s c := ⟨_, rfl⟩
                obtain ⟨L2r, hL2r⟩ : ∃ x, x = T.len t r' c := ⟨_, rfl⟩
                rw [← hL1r] at K1r hl1r hcor
                rw [← hL2r] at K2r hl2r hcor
                have hmxr := imax_nat L1r L2r
                obtain ⟨Mr, hMr⟩ : ∃ x, x = max L1r L2r := ⟨_, rfl⟩
                rw [← hMr] at hmxr
                rw [Nat.max_comm, ← hMr] at hcor
                have hM6r : Mr ≤ 6 := by omega
                have hmnr := imin_one b Mr
                obtain ⟨b1, hb1⟩ : ∃ x, x = min b (1 + Mr) := ⟨_, rfl⟩
                rw [← hb1] at hmnr
                have hler : b1 ≤ 100 := by omega
                have HBor : Hid (b1 = min b (T.cost t r c 0 s)) := hide (by rw [hcor]; exact hb1)
                clear hMr hb1 hL1r hL2r hcor m3 m6 hsubr hpr
                go_wp2_with fail
                refine (K1r.out _ _ C0.out T0.out.1 T0.out.2).mono ?_
                rintro e w1r ⟨rfl, c1r, f1r, t1r⟩
                have C1r := hide c1r; have T1r := hide t1r; clear c1r t1r
                go_wp2_with fail
                refine (K2r.out _ _ C1r.out T1r.out.1 T1r.out.2).mono ?_
                rintro e w2r ⟨rfl, c2r, f2r, t2r⟩
                have C2r := hide c2r; have T2r := hide t2r; clear c2r t2r
                have hsubc : s ∈ T.subs c := T.mem_subs hc hlt (by omega) hnec (by have := HU.out.2; omega)
                obtain ⟨m1, m2, m3, m4, m5, m6⟩ := T.subs_mem hc hsubc
                have anc := andNot_16 hc hlt
                rw [Nat.and_comm, m3] at anc
                obtain ⟨c', hpc⟩ : ∃ x, x = c - s := ⟨_, rfl⟩
                rw [← hpc] at anc m4 m5
                have HSbc := hide hsubc
                have K1c := hide fun w f h1 h2 h3 => HIH.out r s w f (by omega) (by omega) (by first | exact m1 | exact HR0.out.1) (by first | exact HR0.out.2 | exact m1) (by have := HFu.out; omega) h1 h2 h3
                have K2c := hide fun w f h1 h2 h3 => HIH.out r c' w f (by omega) (by omega) (by first | exact m4 | exact HR0.out.1) (by first | exact HR0.out.2 | exact m4) (by have := HFu.out; omega) h1 h2 h3
                have hl1c := T.len_lt HT.out (r := r) (c := s) (by omega) (by omega) (by first | exact m1 | exact HR0.out.1) (by first | exact HR0.out.2 | exact m1)
                have hl2c := T.len_lt HT.out (r := r) (c := c') (by omega) (by omega) (by first | exact m4 | exact HR0.out.1) (by first | exact HR0.out.2 | exact m4)
                have hcoc : T.cost t r c 1 s = 1 + max (T.len t r c') (T.len t r s) := by rw [hpc]; rfl
                obtain ⟨L1c, hL1c⟩ : ∃ x, x = T.len t r s := ⟨_, rfl⟩
                obtain ⟨L2c, hL2c⟩ : ∃ x, x = T.len t r c' := ⟨_, rfl⟩
                rw [← hL1c] at K1c hl1c hcoc
                rw [← hL2c] at K2c hl2c hcoc
                have hmxc := imax_nat L1c L2c
                obtain ⟨Mc, hMc⟩ : ∃ x, x = max L1c L2c := ⟨_, rfl⟩
                rw [← hMc] at hmxc
                rw [Nat.max_comm, ← hMc] at hcoc
                have hM6c : Mc ≤ 6 := by omega
                have hmnc := imin_one b1 Mc
                obtain ⟨b2, hb2⟩ : ∃ x, x = min b1 (1 + Mc) := ⟨_, rfl⟩
                rw [← hb2] at hmnc
                have hlec : b2 ≤ 100 := by omega
                have HBoc : Hid (b2 = min b1 (T.cost t r c 1 s)) := hide (by rw [hcoc]; exact hb2)
                clear hMc hb2 hL1c hL2c hcoc m3 m6 hsubc hpc
                go_wp2_with fail
                refine (K1c.out _ _ C2r.out T2r.out.1 T2r.out.2).mono ?_
                rintro e w1c ⟨rfl, c1c, f1c, t1c⟩
                have C1c := hide c1c; have T1c := hide t1c; clear c1c t1c
                go_wp2_with fail
                refine (K2c.out _ _ C1c.out T1c.out.1 T1c.out.2).mono ?_
                rintro e w2c ⟨rfl, c2c, f2c, t2c⟩
                have C2c := hide c2c; have T2c := hide t2c; clear c2c t2c
                go_wp2
                go_roundw
                case rel => exact ⟨s + 1, b2, by omega, by omega, by omega, rfl, by go_num, hide ⟨(HBest.out.row_yes HSbr.out HBor.out).col_yes HSbc.out HBoc.out, C2c.out, _, T2c.out⟩⟩
                case measure => simp [intOf]; omega
            · have duc : ((u' : Int) == (s : Int)) = false := by simp; omega
              have hnoc := hide (not_subs hc (s := s) (fun h => hqc (by have := HU.out; omega)))
              have dur : ((u : Int) == (s : Int)) = true := by simp; omega
              have dnr : ((s : Int) != (r : Int)) = true := by simp; omega
              have hsubr : s ∈ T.subs r := T.mem_subs hr hlt (by omega) hner (by have := HU.out.1; omega)
              obtain ⟨m1, m2, m3, m4, m5, m6⟩ := T.subs_mem hr hsubr
              have anr := andNot_16 hr hlt
              rw [Nat.and_comm, m3] at anr
              obtain ⟨r', hpr⟩ : ∃ x, x = r - s := ⟨_, rfl⟩
              rw [← hpr] at anr m4 m5
              have HSbr := hide hsubr
              have K1r := hide fun w f h1 h2 h3 => HIH.out s c w f (by omega) (by omega) (by first | exact m1 | exact HR0.out.1) (by first | exact HR0.out.2 | exact m1) (by have := HFu.out; omega) h1 h2 h3
              have K2r := hide fun w f h1 h2 h3 => HIH.out r' c w f (by omega) (by omega) (by first | exact m4 | exact HR0.out.1) (by first | exact HR0.out.2 | exact m4) (by have := HFu.out; omega) h1 h2 h3
              have hl1r := T.len_lt HT.out (r := s) (c := c) (by omega) (by omega) (by first | exact m1 | exact HR0.out.1) (by first | exact HR0.out.2 | exact m1)
              have hl2r := T.len_lt HT.out (r := r') (c := c) (by omega) (by omega) (by first | exact m4 | exact HR0.out.1) (by first | exact HR0.out.2 | exact m4)
              have hcor : T.cost t r c 0 s = 1 + max (T.len t r' c) (T.len t s c) := by rw [hpr]; rfl
              obtain ⟨L1r, hL1r⟩ : ∃ x, x = T.len t s c := ⟨_, rfl⟩
              obtain ⟨L2r, hL2r⟩ : ∃ x, x = T.len t r' c := ⟨_, rfl⟩
              rw [← hL1r] at K1r hl1r hcor
              rw [← hL2r] at K2r hl2r hcor
              have hmxr := imax_nat L1r L2r
              obtain ⟨Mr, hMr⟩ : ∃ x, x = max L1r L2r := ⟨_, rfl⟩
              rw [← hMr] at hmxr
              rw [Nat.max_comm, ← hMr] at hcor
              have hM6r : Mr ≤ 6 := by omega
              have hmnr := imin_one b Mr
              obtain ⟨b1, hb1⟩ : ∃ x, x = min b (1 + Mr) := ⟨_, rfl⟩
              rw [← hb1] at hmnr
              have hler : b1 ≤ 100 := by omega
              have HBor : Hid (b1 = min b (T.cost t r c 0 s)) := hide (by rw [hcor]; exact hb1)
              clear hMr hb1 hL1r hL2r hcor m3 m6 hsubr hpr
              go_wp2_with fail
              refine (K1r.out _ _ C0.out T0.out.1 T0.out.2).mono ?_
              rintro e w1r ⟨rfl, c1r, f1r, t1r⟩
              have C1r := hide c1r; have T1r := hide t1r; clear c1r t1r
              go_wp2_with fail
              refine (K2r.out _ _ C1r.out T1r.out.1 T1r.out.2).mono ?_
              rintro e w2r ⟨rfl, c2r, f2r, t2r⟩
              have C2r := hide c2r; have T2r := hide t2r; clear c2r t2r
              go_wp2
              go_roundw
              case rel => exact ⟨s + 1, b1, by omega, by omega, by omega, rfl, by go_num, hide ⟨(HBest.out.row_yes HSbr.out HBor.out).col_no hnoc.out, C2r.out, _, T2r.out⟩⟩
              case measure => simp [intOf]; omega
        · by_cases hqc : u' = s
          · by_cases hnec : s = c
            · have duc : ((u' : Int) == (s : Int)) = true := by simp; omega
              have dnc : ((s : Int) != (c : Int)) = false := by simp; omega
              have hnoc := hide (not_subs hc (s := s) (fun h => h.2 hnec))
              clear hnec
              have dur : ((u : Int) == (s : Int)) = false := by simp; omega
              have hnor := hide (not_subs hr (s := s) (fun h => hqr (by have := HU.out; omega)))
              go_wp2
              go_roundw
              case rel => exact ⟨s + 1, b, by omega, by omega, by omega, rfl, by go_num, hide ⟨(HBest.out.row_no hnor.out).col_no hnoc.out, C0.out, _, T0.out⟩⟩
              case measure => simp [intOf]; omega
            · have duc : ((u' : Int) == (s : Int)) = true := by simp; omega
              have dnc : ((s : Int) != (c : Int)) = true := by simp; omega
              have dur : ((u : Int) == (s : Int)) = false := by simp; omega
              have hnor := hide (not_subs hr (s := s) (fun h => hqr (by have := HU.out; omega)))
              have hsubc : s ∈ T.subs c := T.mem_subs hc hlt (by omega) hnec (by have := HU.out.2; omega)
              obtain ⟨m1, m2, m3, m4, m5, m6⟩ := T.subs_mem hc hsubc
              have anc := andNot_16 hc hlt
              rw [Nat.and_comm, m3] at anc
              obtain ⟨c', hpc⟩ : ∃ x, x = c - s := ⟨_, rfl⟩
              rw [← hpc] at anc m4 m5
              have HSbc := hide hsubc
              have K1c := hide fun w f h1 h2 h3 => HIH.out r s w f (by omega) (by omega) (by first | exact m1 | exact HR0.out.1) (by first | exact HR0.out.2 | exact m1) (by have := HFu.out; omega) h1 h2 h3
              have K2c := hide fun w f h1 h2 h3 => HIH.out r c' w f (by omega) (by omega) (by first | exact m4 | exact HR0.out.1) (by first | exact HR0.out.2 | exact m4) (by have := HFu.out; omega) h1 h2 h3
              have hl1c := T.len_lt HT.out (r := r) (c := s) (by omega) (by omega) (by first | exact m1 | exact HR0.out.1) (by first | exact HR0.out.2 | exact m1)
              have hl2c := T.len_lt HT.out (r := r) (c := c') (by omega) (by omega) (by first | exact m4 | exact HR0.out.1) (by first | exact HR0.out.2 | exact m4)
              have hcoc : T.cost t r c 1 s = 1 + max (T.len t r c') (T.len t r s) := by rw [hpc]; rfl
              obtain ⟨L1c, hL1c⟩ : ∃ x, x = T.len t r s := ⟨_, rfl⟩
              obtain ⟨L2c, hL2c⟩ : ∃ x, x = T.len t r c' := ⟨_, rfl⟩
              rw [← hL1c] at K1c hl1c hcoc
              rw [← hL2c] at K2c hl2c hcoc
              have hmxc := imax_nat L1c L2c
              obtain ⟨Mc, hMc⟩ : ∃ x, x = max L1c L2c := ⟨_, rfl⟩
              rw [← hMc] at hmxc
              rw [Nat.max_comm, ← hMc] at hcoc
              have hM6c : Mc ≤ 6 := by omega
              have hmnc := imin_one b Mc
              obtain ⟨b2, hb2⟩ : ∃ x, x = min b (1 + Mc) := ⟨_, rfl⟩
              rw [← hb2] at hmnc
              have hlec : b2 ≤ 100 := by omega
              have HBoc : Hid (b2 = min b (T.cost t r c 1 s)) := hide (by rw [hcoc]; exact hb2)
              clear hMc hb2 hL1c hL2c hcoc m3 m6 hsubc hpc
              go_wp2_with fail
              refine (K1c.out _ _ C0.out T0.out.1 T0.out.2).mono ?_
              rintro e w1c ⟨rfl, c1c, f1c, t1c⟩
              have C1c := hide c1c; have T1c := hide t1c; clear c1c t1c
              go_wp2_with fail
              refine (K2c.out _ _ C1c.out T1c.out.1 T1c.out.2).mono ?_
              rintro e w2c ⟨rfl, c2c, f2c, t2c⟩
              have C2c := hide c2c; have T2c := hide t2c; clear c2c t2c
              go_wp2
              go_roundw
              case rel => exact ⟨s + 1, b2, by omega, by omega, by omega, rfl, by go_num, hide ⟨(HBest.out.row_no hnor.out).col_yes HSbc.out HBoc.out, C2c.out, _, T2c.out⟩⟩
              case measure => simp [intOf]; omega
          · have duc : ((u' : Int) == (s : Int)) = false := by simp; omega
            have hnoc := hide (not_subs hc (s := s) (fun h => hqc (by have := HU.out; omega)))
            have dur : ((u : Int) == (s : Int)) = false := by simp; omega
            have hnor := hide (not_subs hr (s := s) (fun h => hqr (by have := HU.out; omega)))
            go_wp2
            go_roundw
            case rel => exact ⟨s + 1, b, by omega, by omega, by omega, rfl, by go_num, hide ⟨(HBest.out.row_no hnor.out).col_no hnoc.out, C0.out, _, T0.out⟩⟩
            case measure => simp [intOf]; omega
      · have d1 : decide ((s : Int) < 16) = false := by simp; omega
        obtain rfl : s = 16 := by omega
        have E : Hid (b = L) := hide (by rw [HL.out]; exact hI.out.1.fin HT.out hr hc HR0.out.1 HR0.out.2 HK.out.symm)
        obtain ⟨_, C2, f2, hf2⟩ := hI.out
        have HF2 := hide hf2
        have CC := hide C2
        have lB2 := hf2.1.lt
        have fr2 := hf2.1.free (r * 16 + c)
        have fc2 := hf2.1.cell (i := r * 16 + c) (by omega)
        clear hf2 C2 hI
        go_wp2
        go_ret
        refine ⟨by rw [E.out]; rfl, CC.out.setCell (.inr HB.out) _, _, HF2.out.1.set _ _ (fun j _ => rfl), ?_⟩
        have h := HF2.out.2.set (r := r) (c := c) hr hc
        rw [← HL.out, ← E.out] at h
        exact h
end Go.Proofs.Ytaapamoglgpocaa
