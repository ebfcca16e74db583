/- Walk: Covers (the function itself). -/
import Derived.Test.YtaapamoglgpocaaCov2
namespace Go.Proofs.Ytaapamoglgpocaa
open Go.RowKit

set_option maxRecDepth 100000 in
set_option maxHeartbeats 1000000 in
theorem Covers_bad (vt lv : Value) (t : List (List Int)) (v : Int) (l : List Pr) (w : World) (hv : See2 w vt t) (hs : SeeP w lv l) (hl : ∀ r ∈ t, r.length ≤ 1000000) (htl : t.length ≤ 1000000) (hb : (T.isTab t && decide (v = 0 ∨ v = 1)) = false) :
    Calls Try.prog 50 #[vt, .int .i64 v, lv] w (Ret (.tuple #[.bool false, .int .i64 2]) w) := by
  have HIV := hide (isValue_any vt t v w hv hl htl)
  rw [hb] at HIV
  obtain ⟨ao, cap, rfl⟩ := hv.shape
  obtain ⟨bo, bc, rfl, _⟩ := hs.shape
  clear hv hs hl htl hb
  generalize t.length = n at *
  generalize l.length = m at *
  go_enter Try.func50, Try.ntmps50
  go_wp2_with fail
  refine HIV.out.mono ?_
  rintro e w1 ⟨rfl, hw1⟩
  go_wp2
  go_ret2
  exact ⟨rfl, hw1⟩

/-- A round of Covers, with a clear rectangle of the value. -/
def CovSt (w wr : World) (B R C : Nat) (lv : Value) (left : List Pr) : Prop := wr.ownsRow w.heap.size 60 2 lv left.length (flatP left) ∧ Box wr B #[.int .i64 (R : Int), .int .i64 (C : Int)] 75 ∧ Chg [] w wr
theorem CovSt.keep {w wr w' : World} {B R C : Nat} {lv : Value} {left : List Pr} (h : CovSt w wr B R C lv left) (hc : Chg [] wr w') : CovSt w w' B R C lv left :=
  ⟨hc.row h.1 (fun _ _ => List.not_mem_nil), h.2.1.keep hc List.not_mem_nil, h.2.2.trans hc⟩

set_option maxRecDepth 100000 in
set_option maxHeartbeats 4000000 in
theorem Covers_good (vt lv : Value) (t : List (List Int)) (v : Int) (l : List Pr) (w : World) (hv : See2 w vt t) (hs : SeeP w lv l) (hl : ∀ r ∈ t, r.length ≤ 1000000) (htl : t.length ≤ 1000000) (hll : l.length ≤ 1000000) (hl63 : ∀ x ∈ l, x.1 < 9223372036854775808 ∧ x.2 < 9223372036854775808) (ht : T.isTab t = true) (hv01 : v = 0 ∨ v = 1) :
    Calls Try.prog 50 #[vt, .int .i64 v, lv] w (Ret (.tuple #[.bool (covB t v l), .int .i64 0]) w) := by
  have kmin := fun w ts t x y => @run_min_2 Try.prog w ts t x y
  have HIV := hide (isValue_any vt t v w hv hl htl)
  rw [ht, decide_eq_true hv01] at HIV
  obtain ⟨⟨t1, t2, t3, t4⟩, _⟩ := T.isTab_iff.1 ht
  have HWh := hide fun ws (hw : Chg [] w ws) => whole_any vt t ws (hv.keep hw) ht
  have HEn := hide fun ws (hw : Chg [] w ws) => entries_any vt t v ws (hv.keep hw) ht
  have HCl := hide fun r c ws (hr : r < 65536) (hc : c < 65536) (hw : Chg [] w ws) => clear_any vt t r c ws (hv.keep hw) ht hr hc
  have HRc := hide fun (a c : Nat) (h1 : 1 ≤ a) (h2 : a < 2 ^ t.length) (h3 : 1 ≤ c) (h4 : c < 2 ^ T.cols t) => rectI_clr ht (v := v) h1 h2 h3 h4
  have HWt : Hid (∀ a, a < 2 ^ 63 → (andnN a (2 ^ t.length - 1) = 0 ↔ a < 2 ^ t.length)) := hide fun a h => andn_whole h t2
  have HWc : Hid (∀ a, a < 2 ^ 63 → (andnN a (2 ^ T.cols t - 1) = 0 ↔ a < 2 ^ T.cols t)) := hide fun a h => andn_whole h t4
  have HRi : Hid (∀ x y, ¬ (1 ≤ x ∧ x < ((2 ^ t.length : Nat) : Int) ∧ 1 ≤ y ∧ y < ((2 ^ T.cols t : Nat) : Int)) → rectI t v x y = false) := hide fun x y h => by unfold rectI; rw [decide_eq_false h]; rfl
  have HIn : Hid (∀ x ∈ ents t v, ∃ i j : Nat, i < 4 ∧ j < 4 ∧ x = ((i : Int), (j : Int))) := hide fun x hx => by
    obtain ⟨i, j, h1, h2, h3, _⟩ := ents_form ht hx
    exact ⟨i, j, h1, h2, h3⟩
  have HL16 : Hid (∀ k, (leftK t v l k).length ≤ 16) := hide fun k => Nat.le_trans (List.length_filter_le _ _) (ents_len ht v)
  have HL0 := hide (leftK_zero t v l)
  have HLs := hide (fun k => @leftK_succ t v l k)
  have HLm := hide (fun k x => @leftK_mem t v l k x)
  have HL63 := hide hl63
  have HNo : Hid (∀ x ∈ l, rectI t v x.1 x.2 = false → covB t v l = false) := hide fun x hx h => by
    unfold covB
    have : l.all (fun x => rectI t v x.1 x.2) = false := by
      rw [Bool.eq_false_iff]
      intro h'
      have := List.all_eq_true.1 h' x hx
      rw [h] at this
      cases this
    rw [this]; rfl
  have HYes : Hid ((∀ x ∈ l, rectI t v x.1 x.2 = true) → covB t v l = decide ((leftK t v l l.length).length = 0)) := hide fun h => by
    unfold covB
    rw [List.all_eq_true.2 h, Bool.true_and, leftK_all]
  have HMs := hide (fun k => @takeP_snoc l k)
  obtain ⟨ao, cap, rfl⟩ := hv.shape
  obtain ⟨bo, bc, rfl, _⟩ := hs.shape
  have HS := hide hs
  have hP4 := (pow_le16 t2).2
  have hQ4 := (pow_le16 t4).2
  have hP1 := (pow_le16 t2).1
  have hQ1 := (pow_le16 t4).1
  generalize covB t v l = res at *
  generalize ents t v = es at *
  obtain ⟨R, hR⟩ : ∃ R, R = 2 ^ t.length - 1 := ⟨_, rfl⟩
  obtain ⟨C, hC⟩ : ∃ C, C = 2 ^ T.cols t - 1 := ⟨_, rfl⟩
  rw [← hR] at HWh HWt
  rw [← hC] at HWh HWc
  generalize 2 ^ t.length = P at *
  generalize 2 ^ T.cols t = Q at *
  unfold rectV at *
  have HRC := hide (And.intro hR hC)
  have hR16 : R < 16 := by omega
  have hC16 : C < 16 := by omega
  clear hv hs hl htl ht hl63 t1 t2 t3 t4 hv01 hR hC
  generalize t.length = tl at *
  generalize hn : l.length = n at *
  have HN := hide hn
  clear hn
  go_enter Try.func50, Try.ntmps50
  go_wp2_with fail
  refine HIV.out.mono ?_
  rintro e w1 ⟨rfl, hw1⟩
  have C1 := hide hw1
  clear hw1 HIV
  go_wp2_with fail
  refine (HWh.out _ C1.out).mono ?_
  rintro e w2 ⟨rfl, hw2⟩
  have C2 := hide (C1.out.trans hw2)
  clear hw2 C1
  go_wp2_with fail
  have HB := hide (Box.new w2 #[.int .i64 (R : Int), .int .i64 (C : Int)] 75)
  have C3 := hide (C2.out.alloc (.cells #[.int .i64 (R : Int), .int .i64 (C : Int)] 75))
  generalize w2.alloc (.cells #[.int .i64 (R : Int), .int .i64 (C : Int)] 75) = w3 at HB C3 ⊢
  generalize w2.heap.size = B at HB ⊢
  refine (HEn.out _ C3.out).mono ?_
  rintro e w4 ⟨lv, rfl, hlv, hw4⟩
  rw [← HL0.out] at hlv
  have HSt : Hid (CovSt w w4 B R C lv (leftK t v l 0)) := hide ⟨row_low hlv C3.out.size, HB.out.keep hw4 List.not_mem_nil, C3.out.trans hw4⟩
  obtain ⟨lo, lc, rfl, _⟩ := row_shape hlv
  rw [HL0.out] at HSt ⊢
  clear hlv hw4 C3 HB C2
  have HSt2 : Hid (∃ lo0 lc0 , (Value.slice lo es.length lc) = .slice lo0 es.length lc0 ∧ CovSt w w4 B R C (Value.slice lo es.length lc) es) := hide ⟨_, _, rfl, HSt.out⟩
  generalize (Value.slice lo es.length lc) = lv at *
  clear HSt
  go_wp2
  go_loopw [10, 28] (fun ov iv wr => ∃ k : Nat, k ≤ n ∧ iv = .int .i64 (k : Int) ∧ Hid (CovSt w wr B R C ov (leftK t v l k) ∧ ∀ x ∈ l.take k, rectI t v x.1 x.2 = true)) (fun _ iv _ => (n - (intOf iv).toNat))
  case atStart =>
    obtain ⟨_, _, _, h⟩ := HSt2.out
    exact ⟨0, by omega, rfl, hide ⟨by rw [HL0.out]; exact h, fun x hx => by simp at hx⟩⟩
  case round =>
    obtain ⟨k, hk, rfl, hI⟩ := hrel
    obtain ⟨lo, lc, rfl, hlc⟩ := row_shape hI.out.1.1
    have h16 := HL16.out k
    have HSK := hide hI.out.1
    have HAk := hide hI.out.2
    clear hI
    by_cases hlt : k < n
    · have d1 : decide ((k : Int) < (n : Int)) = true := by simpa using hlt
      have hlk : k < l.length := by rw [HN.out]; exact hlt
      have nx : l ≠ [] := fun h => by rw [h] at hlk; exact absurd hlk (Nat.not_lt_zero _)
      obtain ⟨a, cap', e, _, hc⟩ := HS.out.open nx
      obtain ⟨rfl, hn1, rfl⟩ : bo = some a ∧ n = l.length ∧ bc = cap' := by simpa using e
      obtain ⟨fx, fy⟩ := hc wr HSK.out.2.2 k hlk
      have HTk := hide (HMs.out k hlt)
      have HLk := hide (HLs.out k hlt)
      have hxl : l.getD k pr0 ∈ l := getDP_mem hlk
      obtain ⟨x, hx⟩ : ∃ x, x = l.getD k pr0 := ⟨_, rfl⟩
      rw [← hx] at fx fy HTk HLk hxl
      have HXl := hide hxl
      have h63 := HL63.out x hxl
      have HNx := hide (HNo.out x hxl)
      have j0 : (0 : Int) ≤ (k : Int) := by omega
      have j1 : (k : Int) < (n : Int) := by omega
      clear nx hc e hn1 hx hlk hxl
      have HBr := hide (Box.at (wr.alloc (.cells #[.int .i64 x.1, .int .i64 x.2] 60)) #[.int .i64 x.1, .int .i64 x.2] 75 (n := wr.heap.size + 1) (by simp))
      have HCr := hide (((Chg.refl [] wr).alloc (.cells #[.int .i64 x.1, .int .i64 x.2] 60)).alloc (.cells #[.int .i64 x.1, .int .i64 x.2] 75))
      have b9 := HSK.out.2.1.cell 0
      have b91 := HSK.out.2.1.cell 1
      have lB9 := HSK.out.2.1.lt
      simp only [List.getElem?_toArray, List.getElem?_cons_zero, List.getElem?_cons_succ] at b9 b91
      by_cases hm : imin x.1 x.2 < 1
      · have d2 : decide (imin x.1 x.2 < 1) = true := by simpa using hm
        have E0 : Hid (res = false) := hide (HNx.out (HRi.out _ _ (by
          rintro ⟨q1, q2, q3, q4⟩
          unfold imin at hm
          split at hm <;> omega)))
        clear hm
        go_wp2
        go_ret2
        exact ⟨by rw [E0.out]; rfl, HSK.out.2.2.trans (by (repeat' (first | with_reducible exact Chg.refl _ _ | with_reducible assumption | with_reducible apply Chg.drewN | with_reducible apply Chg.drew | with_reducible apply Chg.alloc | (with_reducible refine Chg.setCell ?_ (Or.inr ?_) _) | (with_reducible refine Chg.trans ?_ (by assumption)) | (simp; done) | (simp; omega))))⟩
      · have d2 : decide (imin x.1 x.2 < 1) = false := by simpa using hm
        obtain ⟨a', ha⟩ : ∃ a' : Nat, (a' : Int) = x.1 := ⟨x.1.toNat, by unfold imin at hm; split at hm <;> omega⟩
        obtain ⟨c', hc'⟩ : ∃ c' : Nat, (c' : Int) = x.2 := ⟨x.2.toNat, by unfold imin at hm; split at hm <;> omega⟩
        have ha1 : 1 ≤ a' ∧ 1 ≤ c' := by unfold imin at hm; split at hm <;> omega
        have hWi := fun ws => within_any a' c' R C ws (by omega) (by omega) (by omega) (by omega)
        unfold rectV at hWi
        rw [ha, hc'] at hWi
        have HWi := hide hWi
        have hin : inB a' c' R C = (decide (a' < P) && decide (c' < Q)) := by
          unfold inB
          rw [decide_eq_decide.2 (HWt.out a' (by omega)), decide_eq_decide.2 (HWc.out c' (by omega))]
        rw [hin] at HWi
        clear hWi hin hm
        have HBn := hide (And.intro ha hc')
        have HA1 := hide ha1
        by_cases hlt2 : a' < P ∧ c' < Q
        · rw [decide_eq_true hlt2.1, decide_eq_true hlt2.2] at HWi
          have hcl := fun ws hw => HCl.out a' c' ws (by omega) (by omega) hw
          rw [ha, hc'] at hcl
          have hri := HRc.out a' c' ha1.1 hlt2.1 ha1.2 hlt2.2
          rw [ha, hc'] at hri
          have h16a : a' < 16 ∧ c' < 16 := by omega
          have H16 := hide h16a
          have HCL := hide hcl
          have HRI := hide hri
          clear hcl hri ha hc' ha1 hlt2 h16a
          cases hm : T.clrM t a' c' with
          | none =>
            have E0 : Hid (res = false) := hide (HNx.out (by rw [HRI.out, hm]))
            rw [hm] at HCL
            unfold clrV at HCL
            clear hm
            go_wp2_with fail
            refine (HWi.out _).mono ?_
            rintro e w5 ⟨rfl, hw5⟩
            have C5 := hide (HCr.out.trans hw5)
            have B5 := hide (HBr.out.keep hw5 List.not_mem_nil)
            have S5 := hide (HSK.out.keep C5.out)
            clear hw5 HBr HCr
            have g0 := B5.out.cell 0
            have g1 := B5.out.cell 1
            have lB5 := B5.out.lt
            simp only [List.getElem?_toArray, List.getElem?_cons_zero, List.getElem?_cons_succ] at g0 g1
            go_wp2_with fail
            refine (HCL.out _ S5.out.2.2).mono ?_
            rintro e w6 ⟨rfl, hw6⟩
            have B6 := hide (B5.out.keep hw6 List.not_mem_nil)
            have S6 := hide (S5.out.keep hw6)
            clear hw6
            go_wp2
            go_ret2
            exact ⟨by rw [E0.out]; rfl, S6.out.2.2⟩
          | some y =>
            rw [hm] at HCL HRI
            unfold clrV at HCL
            clear hm
            by_cases hyv : y = v
            · subst hyv
              have dv : (y != y) = false := by simp
              have HRt : Hid (rectI t y x.1 x.2 = true) := hide (by rw [HRI.out]; simp)
              go_wp2_with fail
              refine (HWi.out _).mono ?_
              rintro e w5 ⟨rfl, hw5⟩
              have C5 := hide (HCr.out.trans hw5)
              have B5 := hide (HBr.out.keep hw5 List.not_mem_nil)
              have S5 := hide (HSK.out.keep C5.out)
              clear hw5 HBr HCr
              have g0 := B5.out.cell 0
              have g1 := B5.out.cell 1
              have lB5 := B5.out.lt
              simp only [List.getElem?_toArray, List.getElem?_cons_zero, List.getElem?_cons_succ] at g0 g1
              go_wp2_with fail
              refine (HCL.out _ S5.out.2.2).mono ?_
              rintro e w6 ⟨rfl, hw6⟩
              have B6 := hide (B5.out.keep hw6 List.not_mem_nil)
              have S6 := hide (S5.out.keep hw6)
              clear hw6
              have g2 := B6.out.cell 0
              have g3 := B6.out.cell 1
              have lB6 := B6.out.lt
              simp only [List.getElem?_toArray, List.getElem?_cons_zero, List.getElem?_cons_succ] at g2 g3
              have HBN := hide (box_row_ne S6.out.2.1 S6.out.1 (by decide))
              have HBM := hide (box_row_ne B6.out S6.out.1 (by decide))
              generalize hlv : (Value.slice lo (leftK t y l k).length lc) = lv6 at *
              have HD := hide (Delete_pairs 93 #[.pointer (some ⟨wr.heap.size + 1, 0, none⟩)] (hasP x) lv6 (leftK t y l k) w.heap.size lv6.ownBlock.toList w6 S6.out.1 (by omega) (fun A hA => by rw [hA]; simp) callCovers (fun r ws hr hws => by
                obtain ⟨i, j, hi4, hj4, rfl⟩ := HIn.out r (HLm.out k r hr)
                have hb := B6.out.keep hws (by
                  intro hmm
                  rw [Option.mem_toList] at hmm
                  exact HBM.out _ hmm rfl)
                rw [← HBn.out.1, ← HBn.out.2] at hb
                have := inRect (wr.heap.size + 1) a' c' i j ws hb (by have := H16.out.1; omega) (by have := H16.out.2; omega) (by omega) (by omega)
                have e : hasP x ((i : Int), (j : Int)) = T.has a' c' i j := by
                  unfold hasP
                  rw [← HBn.out.1, ← HBn.out.2]
                  rfl
                rw [e]
                exact this))
              subst hlv
              go_wp2_with fail
              refine HD.out.mono ?_
              rintro e w7 ⟨lv7, rfl, hrow, hc7⟩
              have HB7 := hide (S6.out.2.1.keep hc7 (by
                intro hmm
                rw [Option.mem_toList] at hmm
                exact HBN.out _ hmm rfl))
              have HC7 : Hid (Chg [] w w7) := hide (S6.out.2.2.trans' hc7 (fun y hy => .inr (by
                rw [Option.mem_toList] at hy
                exact (S6.out.1.lt _ hy).1)))
              have HR7 := hide hrow
              clear hrow hc7
              go_wp2
              go_roundw
              case rel => exact ⟨k + 1, by omega, by go_num, hide ⟨⟨by rw [HLk.out]; exact HR7.out, HB7.out, HC7.out⟩, fun z hz => by
                rw [HTk.out] at hz
                rcases List.mem_append.1 hz with h | h
                · exact HAk.out z h
                · rw [List.mem_singleton.1 h]; exact HRt.out⟩⟩
              case measure => simp [intOf]; omega
            · have dv : (y != v) = true := by simpa using hyv
              have E0 : Hid (res = false) := hide (HNx.out (by rw [HRI.out]; simp [hyv]))
              clear hyv
              go_wp2_with fail
              refine (HWi.out _).mono ?_
              rintro e w5 ⟨rfl, hw5⟩
              have C5 := hide (HCr.out.trans hw5)
              have B5 := hide (HBr.out.keep hw5 List.not_mem_nil)
              have S5 := hide (HSK.out.keep C5.out)
              clear hw5 HBr HCr
              have g0 := B5.out.cell 0
              have g1 := B5.out.cell 1
              have lB5 := B5.out.lt
              simp only [List.getElem?_toArray, List.getElem?_cons_zero, List.getElem?_cons_succ] at g0 g1
              go_wp2_with fail
              refine (HCL.out _ S5.out.2.2).mono ?_
              rintro e w6 ⟨rfl, hw6⟩
              have B6 := hide (B5.out.keep hw6 List.not_mem_nil)
              have S6 := hide (S5.out.keep hw6)
              clear hw6
              go_wp2
              go_ret2
              exact ⟨by rw [E0.out]; rfl, S6.out.2.2⟩
        · have hlt3 : (decide (a' < P) && decide (c' < Q)) = false := by
            rw [← Bool.decide_and]
            exact decide_eq_false hlt2
          rw [hlt3] at HWi
          have E0 : Hid (res = false) := hide (HNx.out (HRi.out _ _ (by
            rintro ⟨q1, q2, q3, q4⟩
            exact hlt2 ⟨by omega, by omega⟩)))
          clear hlt2 hlt3 ha hc'
          go_wp2_with fail
          refine (HWi.out _).mono ?_
          rintro e w5 ⟨rfl, hw5⟩
          have C5 := hide (HCr.out.trans hw5)
          have B5 := hide (HBr.out.keep hw5 List.not_mem_nil)
          have S5 := hide (HSK.out.keep C5.out)
          clear hw5 HBr HCr
          have g0 := B5.out.cell 0
          have g1 := B5.out.cell 1
          have lB5 := B5.out.lt
          simp only [List.getElem?_toArray, List.getElem?_cons_zero, List.getElem?_cons_succ] at g0 g1
          go_wp2
          go_ret2
          exact ⟨by rw [E0.out]; rfl, S5.out.2.2⟩
    · have d1 : decide ((k : Int) < (n : Int)) = false := by simpa using hlt
      obtain rfl : k = n := by omega
      have E0 : Hid (res = decide ((leftK t v l k).length = 0)) := hide (HYes.out (fun x hx => HAk.out x (by rw [← HN.out, List.take_length]; exact hx)))
      generalize (leftK t v l k).length = z at *
      have hz : ((z : Int) == 0) = decide (z = 0) := by
        by_cases h : z = 0
        · rw [h]; rfl
        · rw [decide_eq_false h]; simpa using h
      generalize decide (z = 0) = zb at *
      go_wp2
      go_ret2
      exact ⟨by rw [E0.out]; rfl, HSK.out.2.2⟩
end Go.Proofs.Ytaapamoglgpocaa
