/- Walk: the statement TalkLess. -/
import Derived.Test.YtaapamoglgpocaaLessQ
import Derived.Test.YtaapamoglgpocaaFool5
namespace Go.Proofs.Ytaapamoglgpocaa
open Go.RowKit

set_option maxRecDepth 100000 in
set_option maxHeartbeats 8000000 in
theorem less_bad (v : Value) (t : List (List Int)) (ai : Int) (b : Bool) (w : World) (hs : See2 w v t) (hrl : ∀ r ∈ t, r.length ≤ 9223372036854775807) (ht : T.isTab t = false) :
    Calls Try.prog 13 #[v, .int .i64 ai, .bool b] w (Ret (.bool true) w) := by
  have HAw := hide fun ws => awake_any ws
  have HTb := hide fun ws (hw : Chg [] w ws) => Table_any v t ws (hs.keep hw) hrl
  rw [ht] at HTb
  obtain ⟨ao, cap, rfl⟩ := hs.shape
  clear hs hrl ht
  generalize t.length = n at *
  go_enter Try.func13, Try.ntmps13
  have C0 : Hid (Chg [] w w) := hide (Chg.refl _ _)
  go_wp2_with fail
  refine (HTb.out _ C0.out).mono ?_
  rintro e w1 ⟨rfl, hw⟩
  have C1 : Hid (Chg [] w w1) := hide (C0.out.trans hw)
  clear hw 
  go_wp2_with fail
  refine (HAw.out _).mono ?_
  rintro e w2 ⟨rfl, hw⟩
  have C2 : Hid (Chg [] w w2) := hide (C1.out.trans hw)
  clear hw 
  go_wp2
  go_ret
  exact ⟨rfl, C2.out⟩

/-- What is asked of one of the two tables. -/
structure Six (w : World) (vk : Value) (tk : List (List Int)) : Prop where
  tab : ∀ ws, Chg [] w ws → Calls Try.prog 18 #[vk] ws fun e w' => ∃ v', e = .returned v' ∧ See2 w' v' tk ∧ Chg [] ws w'
  len : ∀ v' ws, See2 ws v' tk → Calls Try.prog 35 #[v'] ws (Ret (.tuple #[.int .i64 (numV tk 0 : Int), .int .i64 0]) ws)
  part : ∀ v' ws, See2 ws v' tk → Calls Try.prog 45 #[v'] ws (Ret (.tuple #[.int .i64 (numV tk 1 : Int), .int .i64 0]) ws)
  rk : ∀ v' ws, See2 ws v' tk → Calls Try.prog 26 #[v'] ws (Ret (.tuple #[.int .i64 (numV tk 2 : Int), .int .i64 0]) ws)
  rk2 : ∀ v' ws, See2 ws v' tk → Calls Try.prog 27 #[v'] ws (Ret (.tuple #[.int .i64 (numV tk 3 : Int), .int .i64 0]) ws)
  fa : ∀ v' ws, See2 ws v' tk → Calls Try.prog 34 #[v', .int .i64 0] ws fun e w' => ∃ fo fc, e = .returned (.tuple #[.slice fo (numV tk 4) fc, .int .i64 0]) ∧ Chg [] ws w'
  fb : ∀ v' ws, See2 ws v' tk → Calls Try.prog 34 #[v', .int .i64 1] ws fun e w' => ∃ fo fc, e = .returned (.tuple #[.slice fo (numV tk 5) fc, .int .i64 0]) ∧ Chg [] ws w'
theorem Six.mk' {w : World} {vk : Value} {tk : List (List Int)} (hs : See2 w vk tk) (ht : T.isTab tk = true) : Six w vk tk := by
  have hcs := cut_small tk
  have hce := T.cut_of_isTab ht
  rw [hce] at hcs
  refine ⟨fun ws hw => ?_, fun v' ws h => ?_, fun v' ws h => ?_, fun v' ws h => ?_, fun v' ws h => ?_, fun v' ws h => ?_, fun v' ws h => ?_⟩
  · have := table_any vk tk ws (hs.keep hw) (by omega)
    rwa [hce] at this
  · have := Length_any v' tk ws h hcs.1 hcs.2
    unfold lenV at this
    rwa [if_pos ht] at this
  · have := Part_any v' tk ws h hcs.1 hcs.2
    unfold partV at this
    rwa [if_pos ht] at this
  · have := Rank_any v' tk ws h hcs.1 hcs.2
    unfold rankV at this
    rwa [if_pos ht] at this
  · have := Rank2_any v' tk ws h hcs.1 hcs.2
    unfold rankV at this
    rwa [if_pos ht] at this
  · refine (Fool_good v' tk 0 ws h hcs.1 hcs.2 ht (.inl rfl)).mono ?_
    rintro e w1 ⟨u, rfl, hu, hw⟩
    obtain ⟨fo, fc, rfl, _⟩ := hu.shape
    exact ⟨fo, fc, rfl, hw⟩
  · refine (Fool_good v' tk 1 ws h hcs.1 hcs.2 ht (.inr rfl)).mono ?_
    rintro e w1 ⟨u, rfl, hu, hw⟩
    obtain ⟨fo, fc, rfl, _⟩ := hu.shape
    exact ⟨fo, fc, rfl, hw⟩

def stepX (a b : Nat → Nat) : Nat → Nat → Nat
  | 0 => fun _ => 0
  | 1 => a
  | _ => b
def stepY (a : Nat → Nat) : Nat → Nat → Nat
  | 0 => fun _ => 0
  | 1 => fun _ => 0
  | _ => a
def St6 (wx : World) (Z : Nat) (f g : Nat → Nat) (vs : Array Value) (ws : World) : Prop := Box ws Z (arr6 f) 66 ∧ Box ws (Z + 1) (arr6 g) 66 ∧ Box ws (Z + 1 + 1) vs 22 ∧ Chg [] wx ws ∧ wx.heap.size ≤ Z
theorem St6.keep {wx ws ws' : World} {Z : Nat} {f g : Nat → Nat} {vs : Array Value} (h : St6 wx Z f g vs ws) (hc : Chg [] ws ws') : St6 wx Z f g vs ws' :=
  ⟨h.1.keep hc List.not_mem_nil, h.2.1.keep hc List.not_mem_nil, h.2.2.1.keep hc List.not_mem_nil, h.2.2.2.1.trans hc, h.2.2.2.2⟩
theorem Six.keep {w w' : World} {vk : Value} {tk : List (List Int)} (h : Six w vk tk) (hc : Chg [] w w') : Six w' vk tk :=
  ⟨fun ws hw => h.tab ws (hc.trans hw), h.len, h.part, h.rk, h.rk2, h.fa, h.fb⟩

def setSix (w : World) (A : Nat) (g : Nat → Nat) : World :=
  (((((w.setCell ⟨A, 0, none⟩ (.int .i64 (g 0 : Int))).setCell ⟨A, 1, none⟩ (.int .i64 (g 1 : Int))).setCell ⟨A, 2, none⟩ (.int .i64 (g 2 : Int))).setCell ⟨A, 3, none⟩ (.int .i64 (g 3 : Int))).setCell ⟨A, 4, none⟩ (.int .i64 (g 4 : Int))).setCell ⟨A, 5, none⟩ (.int .i64 (g 5 : Int))
theorem setSix_box {w : World} {A : Nat} {f : Nat → Nat} {T : TypeId} (h : Box w A (arr6 f) T) (g : Nat → Nat) : Box (setSix w A g) A (arr6 g) T :=
  (((((h.set 0 (.int .i64 (g 0 : Int))).set 1 (.int .i64 (g 1 : Int))).set 2 (.int .i64 (g 2 : Int))).set 3 (.int .i64 (g 3 : Int))).set 4 (.int .i64 (g 4 : Int))).set 5 (.int .i64 (g 5 : Int))
theorem setSix_chg {S : List Nat} {a w : World} (h : Chg S a w) {A : Nat} (hp : A ∈ S ∨ a.heap.size ≤ A) (g : Nat → Nat) : Chg S a (setSix w A g) :=
  (((((h.setCell hp _).setCell hp _).setCell hp _).setCell hp _).setCell hp _).setCell hp _
theorem St6.put {wx ws : World} {Z : Nat} {f g : Nat → Nat} {vs : Array Value} (h : St6 wx Z f g vs ws) (f2 g2 : Nat → Nat) : St6 wx Z f2 g2 vs (setSix (setSix ws (Z + 1) g2) Z f2) := by
  have c1 : Chg [Z + 1] ws (setSix ws (Z + 1) g2) := setSix_chg (Chg.refl _ _) (.inl (by simp)) g2
  have c2 : Chg [Z] (setSix ws (Z + 1) g2) (setSix (setSix ws (Z + 1) g2) Z f2) := setSix_chg (Chg.refl _ _) (.inl (by simp)) f2
  exact ⟨setSix_box (h.1.keep c1 (by simp)) f2, (setSix_box h.2.1 g2).keep c2 (by simp), (h.2.2.1.keep c1 (by simp)).keep c2 (by rw [List.mem_singleton]; omega),
    setSix_chg (setSix_chg h.2.2.2.1 (.inr (Nat.le_succ_of_le h.2.2.2.2)) g2) (.inr h.2.2.2.2) f2, h.2.2.2.2⟩

set_option maxRecDepth 100000 in
set_option maxHeartbeats 8000000 in
theorem less_good (v : Value) (t : List (List Int)) (ai : Int) (b : Bool) (w : World) (hs : See2 w v t) (hrl : ∀ r ∈ t, r.length ≤ 9223372036854775807) (ht : T.isTab t = true) :
    Calls Try.prog 13 #[v, .int .i64 ai, .bool b] w (Ret (.bool true) w) := by
  have HAw := hide fun ws => awake_any ws
  have HTb := hide fun ws (hw : Chg [] w ws) => Table_any v t ws (hs.keep hw) hrl
  rw [ht] at HTb
  obtain ⟨i0, hi', hz0, hz1, hz2⟩ := info_parts infoInts
  have HOv := hide fun ws (hw : Chg [] w ws) => Over_any v t ws (hs.keep hw) ht
  have HS := hide hs
  have HT := hide ht
  have HOT := hide (over_isTab ht)
  obtain ⟨ao0, cap0, rfl⟩ := hs.shape
  clear hs hrl ht
  go_enter Try.func13, Try.ntmps13
  have C0 : Hid (Chg [] w w) := hide (Chg.refl _ _)
  go_wp2_with fail
  refine (HTb.out _ C0.out).mono ?_
  rintro e w1 ⟨rfl, hw⟩
  have C1 : Hid (Chg [] w w1) := hide (C0.out.trans hw)
  clear hw 
  have HTwo : Hid (∀ (t1 : List (List Int)), T.isTab t1 = true → 1 ≤ t1.length ∧ t1.length ≤ 4) := hide fun t1 h => by
    obtain ⟨⟨t1, t2, _, _⟩, _⟩ := T.isTab_iff.1 h
    exact ⟨t1, t2⟩
  cases b
  case false =>
    obtain ⟨m, hm⟩ : ∃ m, m = t.length := ⟨_, rfl⟩
    rw [← hm]
    have HM := hide hm
    have HSx := hide (HS.out.keep C1.out)
    have HTx := hide HT.out
    obtain ⟨t1, ht1⟩ : ∃ t1, t1 = t := ⟨_, rfl⟩
    rw [← ht1] at HSx HTx HM hm
    have Cx := hide C1.out
    rw [← hm] at HSx
    clear ht1
    generalize ao0 = ao at *
    generalize cap0 = cap at *
    generalize w1 = wx at *
    obtain ⟨m1, m4⟩ := HTwo.out _ HTx.out
    rw [← HM.out] at m1 m4
    clear hm
    by_cases hlt2 : m < 2
    · have dm : decide ((m : Int) < 2) = true := by simp; omega
      go_wp2_with fail
      refine (HAw.out _).mono ?_
      rintro e w5 ⟨rfl, hw⟩
      have C5 := hide (Cx.out.trans hw)
      clear hw
      go_wp2
      go_ret
      exact ⟨rfl, C5.out⟩
    · have dm : decide ((m : Int) < 2) = false := by simp; omega
      obtain ⟨i, hA, hi⟩ := mod_less ai m (by omega) (by omega)
      have dz : ((m : Int) == 0) = false := by simp; omega
      have hm2 : 2 ≤ t1.length := by rw [← HM.out]; omega
      have HNum := hide (fun j => less_nums HTx.out (i := i) hm2 j)
      have HSame := hide (fun h j => same_nums HTx.out (i := i) hm2 h j)
      have HLT := hide (less_isTab HTx.out (i := i) hm2).1
      have HLe := hide (fun j => numV_le HTx.out j)
      rw [← HM.out] at HNum HSame HLT
      have HRow : Hid (∀ k, k < m → (t1.getD k []).length = T.cols t1 ∧ (t1.getD k []).length ≤ 4) := hide fun k hk => by
        have h1 := T.tab_row HTx.out (by rw [← HM.out]; exact hk)
        obtain ⟨⟨_, _, _, h4⟩, _⟩ := T.isTab_iff.1 HTx.out
        omega
      have HLs := hide (fun k => lessK_succ t1 i k)
      have HLl := hide (fun k => lessK_len t1 i k)
      have HSs := hide (fun k => sameK_succ t1 i k)
      have nx : t1 ≠ [] := fun h => by have := HM.out; rw [h] at this; simp at this; omega
      obtain ⟨a, cap', e, _, hrows⟩ := HSx.out.open nx
      obtain ⟨rfl, hx1, rfl⟩ : ao = some a ∧ m = t1.length ∧ cap = cap' := by simpa using e
      have HRows := hide hrows
      obtain ⟨ro, rc, hri⟩ := hrows i (by rw [← HM.out]; exact hi)
      have HRi := hide hri
      have ii0 : (0 : Int) ≤ (i : Int) := by omega
      have ii1 : (i : Int) < (m : Int) := by omega
      clear nx e hx1 hrows hri hm2
      go_wp2
      rw [hA]
      clear hA dz
      go_loopw [7, 8, 48] (fun sv lv kv wr => ∃ k : Nat, k ≤ m ∧ sv = .bool (sameK t1 i k) ∧ kv = .int .i64 (k : Int) ∧ Hid (Rows2 wr wx.heap.size lv (lessK t1 i k) ∧ Chg [] wx wr)) (fun _ _ kv _ => (m - (intOf kv).toNat))
      case atStart => exact ⟨0, by omega, rfl, rfl, hide ⟨Rows2.nil _ _, Chg.refl _ _⟩⟩
      case round =>
        obtain ⟨k, hk, rfl, rfl, hI⟩ := hrel
        by_cases hlt : k < m
        · have d1 : decide ((k : Int) < (m : Int)) = true := by simpa using hlt
          obtain ⟨bo, bc, hrow⟩ := HRows.out k (by rw [← HM.out]; exact hlt)
          obtain ⟨fr, hsr⟩ := hrow wr hI.out.2
          have HSr := hide hsr
          obtain ⟨hrl1, hrl2⟩ := HRow.out k hlt
          obtain ⟨us, hus, ho, hr⟩ := hI.out.1
          have hll := HLl.out k
          have hlm : (lessK t1 i k).length ≤ 4 := by rw [hll]; split <;> omega
          have HUs := hide hus
          have HOw := hide ho
          have HR := hide hr
          have HCk := hide hI.out.2
          have hsz := hI.out.2.size
          have HL1 := hide (HLs.out k)
          have HS1 := hide (HSs.out k)
          obtain ⟨lo, lc, rfl, hlc⟩ := row_shape ho
          obtain ⟨lk, hlk⟩ : ∃ lk, lk = (t1.getD k []).length := ⟨_, rfl⟩
          have HClo := hide (Clone_any (.slice bo (t1.getD k []).length bc) (t1.getD k []) wr HSr.out (by omega))
          rw [← hlk] at fr HClo HSr
          have HLk := hide hlk
          clear hlk
          have HEq := hide (fun ws (hw : Chg [] wx ws) => Equal_any (.slice bo (t1.getD k []).length bc) (.slice ro (t1.getD i []).length rc) (t1.getD k []) (t1.getD i []) ws (hrow ws hw).2 (HRi.out ws hw).2 (by omega))
          rw [← HLk.out, (HRow.out i hi).1] at HEq
          have k0 : (0 : Int) ≤ (k : Int) := by omega
          clear hrow hsr hus ho hr hll hI
          by_cases hki : k = i
          · have d2 : ((k : Int) != (i : Int)) = false := by rw [hki]; simp
            have e1 : Hid (lessK t1 i (k + 1) = lessK t1 i k) := hide (by rw [HL1.out, if_pos hki, List.append_nil])
            have e2 : Hid (sameK t1 i (k + 1) = sameK t1 i k) := hide (by rw [HS1.out, hki]; simp)
            have HUs2 := hide hki
            clear hki
            generalize sameK t1 i k = sk at *
            go_wp2
            go_roundw
            case rel => exact ⟨k + 1, by omega, by rw [e2.out], by go_num, hide ⟨by rw [e1.out]; exact ⟨us, HUs.out, HOw.out, HR.out⟩, HCk.out⟩⟩
            case measure => simp [intOf]; omega
          · have d2 : ((k : Int) != (i : Int)) = true := by simp; omega
            have e1 : Hid (lessK t1 i (k + 1) = lessK t1 i k ++ [t1.getD k []]) := hide (by rw [HL1.out, if_neg hki])
            have e2 : Hid (sameK t1 i (k + 1) = (sameK t1 i k || decide (t1.getD k [] = t1.getD i []))) := hide (by rw [HS1.out, decide_eq_true hki, Bool.true_and])
            have hki2 : ¬ k = i := hki
            clear hki
            go_wp2_with fail
            refine HClo.out.mono ?_
            rintro e w2 ⟨u', rfl, hI1, hc1⟩
            obtain ⟨co, cn, cc, rfl⟩ := hI1.shape
            have HI1 := hide hI1
            have HC1 := hide hc1
            have HO1 := hide (hc1.row HOw.out (fun _ _ => List.not_mem_nil))
            have hzc := hc1.size
            have HC2 := hide (HCk.out.trans HC1.out)
            have HSr2 := hide (HSr.out.keep HC1.out)
            clear hI1 hc1 fr
            generalize sameK t1 i k = sk at *
            cases sk with
            | true =>
              go_wp2_with (at_builtin; refine wpList_append_own _ rfl _ _ 22 rfl wx.heap.size 38 i0 (.slice none 0 0) 1 24 Try.underlying22 hi' hz0 hz1 hz2 rfl (by decide) _ _ _ rfl (HO1.out.alloc _) ⟨w2.heap.size, 0, none⟩ 1 1 [.slice co cn cc] rfl rfl (by intro j u hj; rw [add_zero_row, (Box.new w2 _ _).cell j]; simpa using hj) (by intro x hx; rw [List.mem_singleton] at hx; subst hx; rfl) (by unfold maxLen; omega) (by omega) (by simp; omega) ?_; intro v1 w3 hown1 hgrow1 _; have hc3 : Chg [] wx w3 := ((HC2.out.alloc _).grew (HO1.out.alloc _) (Nat.le_refl _) hgrow1); have fri := (HRi.out w3 hc3).1; rw [(HRow.out i hi).1] at fri)
              have HRw := hide (show Rows2 w3 wx.heap.size v1 (lessK t1 i (k + 1)) from by
                rw [e1.out]
                have hgA : Chg [] w2 (w2.alloc (.cells #[.slice co cn cc] 38)) := (Chg.refl _ _).alloc _
                exact Rows2.push (us := us) (u := .slice co cn cc) (w := w2.alloc (.cells #[.slice co cn cc] 38)) HUs.out (HO1.out.alloc _) (fun j u h => ((HR.out j u h).keep HC1.out).keep hgA) (HI1.out.keep hgA) hgrow1 hown1)
              have HC3 := hide hc3
              clear hown1 hgrow1 hc3
              have E : Hid (sameK t1 i (k + 1) = true) := hide (by rw [e2.out]; rfl)
              go_wp2
              go_roundw
              case rel => exact ⟨k + 1, by omega, by rw [E.out], by go_num, hide ⟨HRw.out, HC3.out⟩⟩
              case measure => simp [intOf]; omega
            | false =>
              go_wp2_with (at_builtin; refine wpList_append_own _ rfl _ _ 22 rfl wx.heap.size 38 i0 (.slice none 0 0) 1 24 Try.underlying22 hi' hz0 hz1 hz2 rfl (by decide) _ _ _ rfl (HO1.out.alloc _) ⟨w2.heap.size, 0, none⟩ 1 1 [.slice co cn cc] rfl rfl (by intro j u hj; rw [add_zero_row, (Box.new w2 _ _).cell j]; simpa using hj) (by intro x hx; rw [List.mem_singleton] at hx; subst hx; rfl) (by unfold maxLen; omega) (by omega) (by simp; omega) ?_; intro v1 w3 hown1 hgrow1 _; have hc3 : Chg [] wx w3 := ((HC2.out.alloc _).grew (HO1.out.alloc _) (Nat.le_refl _) hgrow1); have fri := (HRi.out w3 hc3).1; rw [(HRow.out i hi).1] at fri)
              have HRw := hide (show Rows2 w3 wx.heap.size v1 (lessK t1 i (k + 1)) from by
                rw [e1.out]
                have hgA : Chg [] w2 (w2.alloc (.cells #[.slice co cn cc] 38)) := (Chg.refl _ _).alloc _
                exact Rows2.push (us := us) (u := .slice co cn cc) (w := w2.alloc (.cells #[.slice co cn cc] 38)) HUs.out (HO1.out.alloc _) (fun j u h => ((HR.out j u h).keep HC1.out).keep hgA) (HI1.out.keep hgA) hgrow1 hown1)
              have HC3 := hide hc3
              clear hown1 hgrow1 hc3
              have E : Hid (sameK t1 i (k + 1) = decide (t1.getD k [] = t1.getD i [])) := hide (by rw [e2.out]; rfl)
              generalize decide (t1.getD k [] = t1.getD i []) = eb at *
              go_wp2_with fail
              refine (HEq.out _ HC3.out).mono ?_
              rintro e w4 ⟨rfl, hw4⟩
              have HRw4 := hide (show Rows2 w4 wx.heap.size v1 (lessK t1 i (k + 1)) from by
                obtain ⟨us', q1, q2, q3⟩ := HRw.out
                exact ⟨us', q1, hw4.row q2 (fun _ _ => List.not_mem_nil), fun j u h => (q3 j u h).keep hw4⟩)
              have HC4 := hide (HC3.out.trans hw4)
              clear hw4
              go_wp2
              go_roundw
              case rel => exact ⟨k + 1, by omega, by rw [E.out], by go_num, hide ⟨HRw4.out, HC4.out⟩⟩
              case measure => simp [intOf]; omega
        · have d1 : decide ((k : Int) < (m : Int)) = false := by simpa using hlt
          obtain rfl : k = m := by omega
          have HSb : Hid (sameK t1 i k = true → ∀ j, numV (lessK t1 i k) j = numV t1 j) := HSame
          have HSx6 := hide (Six.mk' HSx.out HTx.out)
          have HLs2 := hI.out.1.toSee2
          have HLx6 := hide (Six.mk' HLs2 HLT.out)
          have HNl := hide (fun j => numV_le HLT.out j)
          obtain ⟨ll, lc, hlv⟩ := HLs2.shape
          subst hlv
          have C7 := hide (Cx.out.trans hI.out.2)
          have CI := hide hI.out.2
          have hle4 : (lessK t1 i k).length ≤ 4 := by have := HLl.out k; rw [this]; split <;> omega
          clear HLs2 hI HSame
          generalize sameK t1 i k = sk at *
          generalize lessK t1 i k = t2 at *
          generalize t2.length = m2 at *
          clear HLs HLl HSs
          go_wp2
          have hst : St6 wr wr.heap.size (stepX (numV t1) (numV t2) 0) (stepY (numV t1) 0) #[.slice (some a) k cap, .slice ll m2 lc] (((wr.alloc (.cells (arr6 fun _ => 0) 66)).alloc (.cells (arr6 fun _ => 0) 66)).alloc (.cells #[.slice (some a) k cap, .slice ll m2 lc] 22)) := by
            have b1 := Box.new wr (arr6 fun _ => 0) 66
            have c2 := (Chg.refl [] (wr.alloc (.cells (arr6 fun _ => 0) 66))).alloc (.cells (arr6 fun _ => 0) 66)
            have b2 := Box.at (wr.alloc (.cells (arr6 fun _ => 0) 66)) (arr6 fun _ => 0) 66 (n := wr.heap.size + 1) (by simp)
            have c3 := (Chg.refl [] ((wr.alloc (.cells (arr6 fun _ => 0) 66)).alloc (.cells (arr6 fun _ => 0) 66))).alloc (.cells #[.slice (some a) k cap, .slice ll m2 lc] 22)
            have b3 := Box.at ((wr.alloc (.cells (arr6 fun _ => 0) 66)).alloc (.cells (arr6 fun _ => 0) 66)) #[.slice (some a) k cap, .slice ll m2 lc] 22 (n := wr.heap.size + 1 + 1) (by simp)
            exact ⟨b1.keep (c2.trans c3) List.not_mem_nil, b2.keep c3 List.not_mem_nil, b3, (((Chg.refl [] wr).alloc _).trans c2).trans c3, Nat.le_refl _⟩
          have hc0 : Chg [] wr (((wr.alloc (.cells (arr6 fun _ => 0) 66)).alloc (.cells (arr6 fun _ => 0) 66)).alloc (.cells #[.slice (some a) k cap, .slice ll m2 lc] 22)) := (((Chg.refl [] wr).alloc _).alloc _).alloc _
          have HSt := hide hst
          have H1 := hide (HSx6.out.keep CI.out)
          have H2 := hide HLx6.out
          have HCw := hide C7.out
          have hc0s := hc0.size
          obtain ⟨W1, hW1⟩ : ∃ W1, W1 = ((wr.alloc (.cells (arr6 fun _ => 0) 66)).alloc (.cells (arr6 fun _ => 0) 66)).alloc (.cells #[.slice (some a) k cap, .slice ll m2 lc] 22) := ⟨_, rfl⟩
          have hW1' : W1 = ((wr.alloc (.cells #[.int .i64 0, .int .i64 0, .int .i64 0, .int .i64 0, .int .i64 0, .int .i64 0] 66)).alloc (.cells #[.int .i64 0, .int .i64 0, .int .i64 0, .int .i64 0, .int .i64 0, .int .i64 0] 66)).alloc (.cells #[.slice (some a) k cap, .slice ll m2 lc] 22) := hW1
          rw [← hW1] at HSt hc0s
          rw [← hW1']
          clear hst hc0 hW1 hW1' CI HSx6 HLx6 C7
          obtain ⟨Z, hZ⟩ : ∃ Z, Z = wr.heap.size := ⟨_, rfl⟩
          rw [← hZ] at HSt ⊢
          clear hZ
          generalize wr = WE at *
          go_loopw [75] (fun kv ws => ∃ q : Nat, q ≤ 2 ∧ kv = .int .i64 (q : Int) ∧ Hid (St6 WE Z (stepX (numV t1) (numV t2) q) (stepY (numV t1) q) #[.slice (some a) k cap, .slice ll m2 lc] ws)) (fun kv _ => (2 - (intOf kv).toNat))
          case atStart => exact ⟨0, by omega, rfl, HSt⟩
          case round =>
            obtain ⟨q, hq, rfl, hI⟩ := hrel
            by_cases hlq : q < 2
            · have d5 : decide ((q : Int) < 2) = true := by simp; omega
              have hsel : ∃ vk tk, (#[.slice (some a) k cap, .slice ll m2 lc] : Array Value)[q]? = some vk ∧ Six WE vk tk ∧ stepX (numV t1) (numV t2) (q + 1) = numV tk ∧ (∀ j, numV tk j ≤ 16) := by
                rcases (show q = 0 ∨ q = 1 by omega) with h | h
                · subst h; exact ⟨_, _, rfl, H1.out, rfl, HLe.out⟩
                · subst h; exact ⟨_, _, rfl, H2.out, rfl, HNl.out⟩
              obtain ⟨vk, tk, hcell, h6, hnext, hn16⟩ := hsel
              have HY : Hid (stepY (numV t1) (q + 1) = stepX (numV t1) (numV t2) q) := hide (by
                rcases (show q = 0 ∨ q = 1 by omega) with h | h <;> subst h <;> rfl)
              have fk : wr.cell? ⟨Z + 1 + 1, q, none⟩ = some vk := by rw [hI.out.2.2.1.cell]; exact hcell
              have lk := hI.out.2.2.1.lt
              have q0 : (0 : Int) ≤ (q : Int) := by omega
              have q1 : (q : Int) < 2 := by omega
              have H6 := hide (h6.keep hI.out.2.2.2.1)
              have HNx := hide hnext
              have HS0 := hI
              have C0 : Hid (Chg [] wr wr) := hide (Chg.refl _ _)
              clear hcell hnext h6 hI hn16
              generalize hfx : stepX (numV t1) (numV t2) q = fX at *
              generalize hfy : stepY (numV t1) q = fY at *
              go_wp2_with fail
              refine (H6.out.tab _ C0.out).mono ?_
              rintro e w1 ⟨v1, rfl, hI1, hw⟩
              have C1 : Hid (Chg [] wr w1) := hide (C0.out.trans hw)
              have A1 := hide hI1
              clear hw hI1
              go_wp2_with fail
              refine (H6.out.len _ _ A1.out).mono ?_
              rintro e w2 ⟨rfl, hw⟩
              have C2 : Hid (Chg [] wr w2) := hide (C1.out.trans hw)
              clear hw
              go_wp2_with fail
              refine (H6.out.tab _ C2.out).mono ?_
              rintro e w3 ⟨v3, rfl, hI3, hw⟩
              have C3 : Hid (Chg [] wr w3) := hide (C2.out.trans hw)
              have A3 := hide hI3
              clear hw hI3
              go_wp2_with fail
              refine (H6.out.part _ _ A3.out).mono ?_
              rintro e w4 ⟨rfl, hw⟩
              have C4 : Hid (Chg [] wr w4) := hide (C3.out.trans hw)
              clear hw
              go_wp2_with fail
              refine (H6.out.tab _ C4.out).mono ?_
              rintro e w5 ⟨v5, rfl, hI5, hw⟩
              have C5 : Hid (Chg [] wr w5) := hide (C4.out.trans hw)
              have A5 := hide hI5
              clear hw hI5
              go_wp2_with fail
              refine (H6.out.rk _ _ A5.out).mono ?_
              rintro e w6 ⟨rfl, hw⟩
              have C6 : Hid (Chg [] wr w6) := hide (C5.out.trans hw)
              clear hw
              go_wp2_with fail
              refine (H6.out.tab _ C6.out).mono ?_
              rintro e w7 ⟨v7, rfl, hI7, hw⟩
              have C7 : Hid (Chg [] wr w7) := hide (C6.out.trans hw)
              have A7 := hide hI7
              clear hw hI7
              go_wp2_with fail
              refine (H6.out.rk2 _ _ A7.out).mono ?_
              rintro e w8 ⟨rfl, hw⟩
              have C8 : Hid (Chg [] wr w8) := hide (C7.out.trans hw)
              clear hw
              go_wp2_with fail
              refine (H6.out.tab _ C8.out).mono ?_
              rintro e w9 ⟨v9, rfl, hI9, hw⟩
              have C9 : Hid (Chg [] wr w9) := hide (C8.out.trans hw)
              have A9 := hide hI9
              clear hw hI9
              go_wp2_with fail
              refine (H6.out.fa _ _ A9.out).mono ?_
              rintro e w10 ⟨fo10, fc10, rfl, hw⟩
              have C10 : Hid (Chg [] wr w10) := hide (C9.out.trans hw)
              clear hw
              go_wp2_with fail
              refine (H6.out.tab _ C10.out).mono ?_
              rintro e w11 ⟨v11, rfl, hI11, hw⟩
              have C11 : Hid (Chg [] wr w11) := hide (C10.out.trans hw)
              have A11 := hide hI11
              clear hw hI11
              go_wp2_with fail
              refine (H6.out.fb _ _ A11.out).mono ?_
              rintro e w12 ⟨fo12, fc12, rfl, hw⟩
              have C12 : Hid (Chg [] wr w12) := hide (C11.out.trans hw)
              clear hw

              have HS12 := hide (HS0.out.keep C12.out)
              have bx := HS12.out.1
              have by' := HS12.out.2.1
              unfold arr6 at bx by'
              have x0 := bx.cell 0
              have y0 := by'.cell 0
              have p0 := bx.free 0
              have r0 := by'.free 0
              have x1 := bx.cell 1
              have y1 := by'.cell 1
              have p1 := bx.free 1
              have r1 := by'.free 1
              have x2 := bx.cell 2
              have y2 := by'.cell 2
              have p2 := bx.free 2
              have r2 := by'.free 2
              have x3 := bx.cell 3
              have y3 := by'.cell 3
              have p3 := bx.free 3
              have r3 := by'.free 3
              have x4 := bx.cell 4
              have y4 := by'.cell 4
              have p4 := bx.free 4
              have r4 := by'.free 4
              have x5 := bx.cell 5
              have y5 := by'.cell 5
              have p5 := bx.free 5
              have r5 := by'.free 5
              simp only [List.getElem?_toArray, List.getElem?_cons_zero, List.getElem?_cons_succ] at x0 y0 x1 y1 x2 y2 x3 y3 x4 y4 x5 y5
              have lx := bx.lt
              have ly := by'.lt
              clear bx by'
              go_wp2
              go_roundw
              case rel => exact ⟨q + 1, by omega, by go_num, hide (by rw [HNx.out, HY.out]; exact HS12.out.put (numV tk) fX)⟩
              case measure => simp [intOf]; omega
            · have d5 : decide ((q : Int) < 2) = false := by simp; omega
              have hq2 : q = 2 := by omega
              rw [hq2] at hI
              clear hq2 d5
              have d5 : decide ((q : Int) < 2) = false := by simp; omega
              have HBx : Hid (Box wr Z (arr6 (numV t2)) 66 ∧ Box wr (Z + 1) (arr6 (numV t1)) 66 ∧ Chg [] w wr) := hide ⟨hI.out.1, hI.out.2.1, HCw.out.trans hI.out.2.2.2.1⟩
              clear hI
              go_wp2
              go_loopw [148] (fun kv ws => ∃ j : Nat, j ≤ 6 ∧ kv = .int .i64 (j : Int) ∧ Hid (Box ws Z (arr6 (numV t2)) 66 ∧ Box ws (Z + 1) (arr6 (numV t1)) 66 ∧ Chg [] w ws)) (fun kv _ => (6 - (intOf kv).toNat))
              case atStart => exact ⟨0, by omega, rfl, HBx⟩
              case round =>
                obtain ⟨j, hj, rfl, hJ⟩ := hrel
                by_cases hlj : j < 6
                · have d6 : decide ((j : Int) < 6) = true := by simp; omega
                  have j0 : (0 : Int) ≤ (j : Int) := by omega
                  have j1 : (j : Int) < 6 := by omega
                  have xa : wr.cell? ⟨Z, j, none⟩ = some (.int .i64 (numV t2 j : Int)) := by rw [hJ.out.1.cell]; exact arr6_at _ hlj
                  have ya : wr.cell? ⟨Z + 1, j, none⟩ = some (.int .i64 (numV t1 j : Int)) := by rw [hJ.out.2.1.cell]; exact arr6_at _ hlj
                  have lx := hJ.out.1.lt
                  have ly := hJ.out.2.1.lt
                  have hle := HNum.out j
                  have HJ := hide (fun n => (show Box (wr.drewN n) Z (arr6 (numV t2)) 66 ∧ Box (wr.drewN n) (Z + 1) (arr6 (numV t1)) 66 ∧ Chg [] w (wr.drewN n) from ⟨hJ.out.1.keep ((Chg.refl [] wr).drewN n) List.not_mem_nil, hJ.out.2.1.keep ((Chg.refl [] wr).drewN n) List.not_mem_nil, hJ.out.2.2.drewN n⟩))
                  have dn := fun h => HSb.out h j
                  clear hJ
                  generalize numV t2 j = nx at *
                  generalize numV t1 j = ny at *
                  have dg1 : decide ((ny : Int) < (nx : Int)) = false := by simp; omega
                  have dg2 : decide ((nx : Int) > (ny : Int)) = false := by simp; omega
                  have dg3 : decide (ny < nx) = false := by simp; omega
                  cases sk with
                  | false =>
                    clear dn
                    go_wp2
                    go_big_quiet (fail)
                    go_wp2
                    go_roundw
                    case rel => exact ⟨j + 1, by omega, by go_num, hide (HJ.out _)⟩
                    case measure => simp [intOf]; omega
                  | true =>
                    obtain rfl : nx = ny := dn rfl
                    have dn2 : ((nx : Int) != (nx : Int)) = false := by simp
                    have dn3 : (nx != nx) = false := by simp
                    clear dn
                    go_wp2
                    go_big_quiet (fail)
                    go_wp2
                    go_roundw
                    case rel => exact ⟨j + 1, by omega, by go_num, hide (HJ.out _)⟩
                    case measure => simp [intOf]; omega
                · have d6 : decide ((j : Int) < 6) = false := by simp; omega
                  have HCf : Hid (Chg [] w wr) := hide hJ.out.2.2
                  clear hJ
                  go_wp2_with fail
                  refine (HAw.out _).mono ?_
                  rintro e w13 ⟨rfl, hw⟩
                  have C13 := hide (HCf.out.trans hw)
                  clear hw
                  go_wp2
                  go_ret
                  exact ⟨rfl, C13.out⟩
  case true =>
    go_wp2_with fail
    refine (HOv.out _ C1.out).mono ?_
    rintro e wx ⟨vo, rfl, hRo, hw⟩
    obtain ⟨ao, cap, rfl⟩ := hRo.toSee2.shape
    obtain ⟨m, hm⟩ : ∃ m, m = (overT t).length := ⟨_, rfl⟩
    have HSx := hide hRo.toSee2
    rw [← hm] at HSx ⊢
    have HM := hide hm
    have HTx := hide HOT.out
    have Cx := hide (C1.out.trans hw)
    generalize overT t = t1 at *
    clear hw hRo
    obtain ⟨m1, m4⟩ := HTwo.out _ HTx.out
    rw [← HM.out] at m1 m4
    clear hm
    by_cases hlt2 : m < 2
    · have dm : decide ((m : Int) < 2) = true := by simp; omega
      go_wp2_with fail
      refine (HAw.out _).mono ?_
      rintro e w5 ⟨rfl, hw⟩
      have C5 := hide (Cx.out.trans hw)
      clear hw
      go_wp2
      go_ret
      exact ⟨rfl, C5.out⟩
    · have dm : decide ((m : Int) < 2) = false := by simp; omega
      obtain ⟨i, hA, hi⟩ := mod_less ai m (by omega) (by omega)
      have dz : ((m : Int) == 0) = false := by simp; omega
      have hm2 : 2 ≤ t1.length := by rw [← HM.out]; omega
      have HNum := hide (fun j => less_nums HTx.out (i := i) hm2 j)
      have HSame := hide (fun h j => same_nums HTx.out (i := i) hm2 h j)
      have HLT := hide (less_isTab HTx.out (i := i) hm2).1
      have HLe := hide (fun j => numV_le HTx.out j)
      rw [← HM.out] at HNum HSame HLT
      have HRow : Hid (∀ k, k < m → (t1.getD k []).length = T.cols t1 ∧ (t1.getD k []).length ≤ 4) := hide fun k hk => by
        have h1 := T.tab_row HTx.out (by rw [← HM.out]; exact hk)
        obtain ⟨⟨_, _, _, h4⟩, _⟩ := T.isTab_iff.1 HTx.out
        omega
      have HLs := hide (fun k => lessK_succ t1 i k)
      have HLl := hide (fun k => lessK_len t1 i k)
      have HSs := hide (fun k => sameK_succ t1 i k)
      have nx : t1 ≠ [] := fun h => by have := HM.out; rw [h] at this; simp at this; omega
      obtain ⟨a, cap', e, _, hrows⟩ := HSx.out.open nx
      obtain ⟨rfl, hx1, rfl⟩ : ao = some a ∧ m = t1.length ∧ cap = cap' := by simpa using e
      have HRows := hide hrows
      obtain ⟨ro, rc, hri⟩ := hrows i (by rw [← HM.out]; exact hi)
      have HRi := hide hri
      have ii0 : (0 : Int) ≤ (i : Int) := by omega
      have ii1 : (i : Int) < (m : Int) := by omega
      clear nx e hx1 hrows hri hm2
      go_wp2
      rw [hA]
      clear hA dz
      go_loopw [7, 8, 48] (fun sv lv kv wr => ∃ k : Nat, k ≤ m ∧ sv = .bool (sameK t1 i k) ∧ kv = .int .i64 (k : Int) ∧ Hid (Rows2 wr wx.heap.size lv (lessK t1 i k) ∧ Chg [] wx wr)) (fun _ _ kv _ => (m - (intOf kv).toNat))
      case atStart => exact ⟨0, by omega, rfl, rfl, hide ⟨Rows2.nil _ _, Chg.refl _ _⟩⟩
      case round =>
        obtain ⟨k, hk, rfl, rfl, hI⟩ := hrel
        by_cases hlt : k < m
        · have d1 : decide ((k : Int) < (m : Int)) = true := by simpa using hlt
          obtain ⟨bo, bc, hrow⟩ := HRows.out k (by rw [← HM.out]; exact hlt)
          obtain ⟨fr, hsr⟩ := hrow wr hI.out.2
          have HSr := hide hsr
          obtain ⟨hrl1, hrl2⟩ := HRow.out k hlt
          obtain ⟨us, hus, ho, hr⟩ := hI.out.1
          have hll := HLl.out k
          have hlm : (lessK t1 i k).length ≤ 4 := by rw [hll]; split <;> omega
          have HUs := hide hus
          have HOw := hide ho
          have HR := hide hr
          have HCk := hide hI.out.2
          have hsz := hI.out.2.size
          have HL1 := hide (HLs.out k)
          have HS1 := hide (HSs.out k)
          obtain ⟨lo, lc, rfl, hlc⟩ := row_shape ho
          obtain ⟨lk, hlk⟩ : ∃ lk, lk = (t1.getD k []).length := ⟨_, rfl⟩
          have HClo := hide (Clone_any (.slice bo (t1.getD k []).length bc) (t1.getD k []) wr HSr.out (by omega))
          rw [← hlk] at fr HClo HSr
          have HLk := hide hlk
          clear hlk
          have HEq := hide (fun ws (hw : Chg [] wx ws) => Equal_any (.slice bo (t1.getD k []).length bc) (.slice ro (t1.getD i []).length rc) (t1.getD k []) (t1.getD i []) ws (hrow ws hw).2 (HRi.out ws hw).2 (by omega))
          rw [← HLk.out, (HRow.out i hi).1] at HEq
          have k0 : (0 : Int) ≤ (k : Int) := by omega
          clear hrow hsr hus ho hr hll hI
          by_cases hki : k = i
          · have d2 : ((k : Int) != (i : Int)) = false := by rw [hki]; simp
            have e1 : Hid (lessK t1 i (k + 1) = lessK t1 i k) := hide (by rw [HL1.out, if_pos hki, List.append_nil])
            have e2 : Hid (sameK t1 i (k + 1) = sameK t1 i k) := hide (by rw [HS1.out, hki]; simp)
            have HUs2 := hide hki
            clear hki
            generalize sameK t1 i k = sk at *
            go_wp2
            go_roundw
            case rel => exact ⟨k + 1, by omega, by rw [e2.out], by go_num, hide ⟨by rw [e1.out]; exact ⟨us, HUs.out, HOw.out, HR.out⟩, HCk.out⟩⟩
            case measure => simp [intOf]; omega
          · have d2 : ((k : Int) != (i : Int)) = true := by simp; omega
            have e1 : Hid (lessK t1 i (k + 1) = lessK t1 i k ++ [t1.getD k []]) := hide (by rw [HL1.out, if_neg hki])
            have e2 : Hid (sameK t1 i (k + 1) = (sameK t1 i k || decide (t1.getD k [] = t1.getD i []))) := hide (by rw [HS1.out, decide_eq_true hki, Bool.true_and])
            have hki2 : ¬ k = i := hki
            clear hki
            go_wp2_with fail
            refine HClo.out.mono ?_
            rintro e w2 ⟨u', rfl, hI1, hc1⟩
            obtain ⟨co, cn, cc, rfl⟩ := hI1.shape
            have HI1 := hide hI1
            have HC1 := hide hc1
            have HO1 := hide (hc1.row HOw.out (fun _ _ => List.not_mem_nil))
            have hzc := hc1.size
            have HC2 := hide (HCk.out.trans HC1.out)
            have HSr2 := hide (HSr.out.keep HC1.out)
            clear hI1 hc1 fr
            generalize sameK t1 i k = sk at *
            cases sk with
            | true =>
              go_wp2_with (at_builtin; refine wpList_append_own _ rfl _ _ 22 rfl wx.heap.size 38 i0 (.slice none 0 0) 1 24 Try.underlying22 hi' hz0 hz1 hz2 rfl (by decide) _ _ _ rfl (HO1.out.alloc _) ⟨w2.heap.size, 0, none⟩ 1 1 [.slice co cn cc] rfl rfl (by intro j u hj; rw [add_zero_row, (Box.new w2 _ _).cell j]; simpa using hj) (by intro x hx; rw [List.mem_singleton] at hx; subst hx; rfl) (by unfold maxLen; omega) (by omega) (by simp; omega) ?_; intro v1 w3 hown1 hgrow1 _; have hc3 : Chg [] wx w3 := ((HC2.out.alloc _).grew (HO1.out.alloc _) (Nat.le_refl _) hgrow1); have fri := (HRi.out w3 hc3).1; rw [(HRow.out i hi).1] at fri)
              have HRw := hide (show Rows2 w3 wx.heap.size v1 (lessK t1 i (k + 1)) from by
                rw [e1.out]
                have hgA : Chg [] w2 (w2.alloc (.cells #[.slice co cn cc] 38)) := (Chg.refl _ _).alloc _
                exact Rows2.push (us := us) (u := .slice co cn cc) (w := w2.alloc (.cells #[.slice co cn cc] 38)) HUs.out (HO1.out.alloc _) (fun j u h => ((HR.out j u h).keep HC1.out).keep hgA) (HI1.out.keep hgA) hgrow1 hown1)
              have HC3 := hide hc3
              clear hown1 hgrow1 hc3
              have E : Hid (sameK t1 i (k + 1) = true) := hide (by rw [e2.out]; rfl)
              go_wp2
              go_roundw
              case rel => exact ⟨k + 1, by omega, by rw [E.out], by go_num, hide ⟨HRw.out, HC3.out⟩⟩
              case measure => simp [intOf]; omega
            | false =>
              go_wp2_with (at_builtin; refine wpList_append_own _ rfl _ _ 22 rfl wx.heap.size 38 i0 (.slice none 0 0) 1 24 Try.underlying22 hi' hz0 hz1 hz2 rfl (by decide) _ _ _ rfl (HO1.out.alloc _) ⟨w2.heap.size, 0, none⟩ 1 1 [.slice co cn cc] rfl rfl (by intro j u hj; rw [add_zero_row, (Box.new w2 _ _).cell j]; simpa using hj) (by intro x hx; rw [List.mem_singleton] at hx; subst hx; rfl) (by unfold maxLen; omega) (by omega) (by simp; omega) ?_; intro v1 w3 hown1 hgrow1 _; have hc3 : Chg [] wx w3 := ((HC2.out.alloc _).grew (HO1.out.alloc _) (Nat.le_refl _) hgrow1); have fri := (HRi.out w3 hc3).1; rw [(HRow.out i hi).1] at fri)
              have HRw := hide (show Rows2 w3 wx.heap.size v1 (lessK t1 i (k + 1)) from by
                rw [e1.out]
                have hgA : Chg [] w2 (w2.alloc (.cells #[.slice co cn cc] 38)) := (Chg.refl _ _).alloc _
                exact Rows2.push (us := us) (u := .slice co cn cc) (w := w2.alloc (.cells #[.slice co cn cc] 38)) HUs.out (HO1.out.alloc _) (fun j u h => ((HR.out j u h).keep HC1.out).keep hgA) (HI1.out.keep hgA) hgrow1 hown1)
              have HC3 := hide hc3
              clear hown1 hgrow1 hc3
              have E : Hid (sameK t1 i (k + 1) = decide (t1.getD k [] = t1.getD i [])) := hide (by rw [e2.out]; rfl)
              generalize decide (t1.getD k [] = t1.getD i []) = eb at *
              go_wp2_with fail
              refine (HEq.out _ HC3.out).mono ?_
              rintro e w4 ⟨rfl, hw4⟩
              have HRw4 := hide (show Rows2 w4 wx.heap.size v1 (lessK t1 i (k + 1)) from by
                obtain ⟨us', q1, q2, q3⟩ := HRw.out
                exact ⟨us', q1, hw4.row q2 (fun _ _ => List.not_mem_nil), fun j u h => (q3 j u h).keep hw4⟩)
              have HC4 := hide (HC3.out.trans hw4)
              clear hw4
              go_wp2
              go_roundw
              case rel => exact ⟨k + 1, by omega, by rw [E.out], by go_num, hide ⟨HRw4.out, HC4.out⟩⟩
              case measure => simp [intOf]; omega
        · have d1 : decide ((k : Int) < (m : Int)) = false := by simpa using hlt
          obtain rfl : k = m := by omega
          have HSb : Hid (sameK t1 i k = true → ∀ j, numV (lessK t1 i k) j = numV t1 j) := HSame
          have HSx6 := hide (Six.mk' HSx.out HTx.out)
          have HLs2 := hI.out.1.toSee2
          have HLx6 := hide (Six.mk' HLs2 HLT.out)
          have HNl := hide (fun j => numV_le HLT.out j)
          obtain ⟨ll, lc, hlv⟩ := HLs2.shape
          subst hlv
          have C7 := hide (Cx.out.trans hI.out.2)
          have CI := hide hI.out.2
          have hle4 : (lessK t1 i k).length ≤ 4 := by have := HLl.out k; rw [this]; split <;> omega
          clear HLs2 hI HSame
          generalize sameK t1 i k = sk at *
          generalize lessK t1 i k = t2 at *
          generalize t2.length = m2 at *
          clear HLs HLl HSs
          go_wp2
          have hst : St6 wr wr.heap.size (stepX (numV t1) (numV t2) 0) (stepY (numV t1) 0) #[.slice (some a) k cap, .slice ll m2 lc] (((wr.alloc (.cells (arr6 fun _ => 0) 66)).alloc (.cells (arr6 fun _ => 0) 66)).alloc (.cells #[.slice (some a) k cap, .slice ll m2 lc] 22)) := by
            have b1 := Box.new wr (arr6 fun _ => 0) 66
            have c2 := (Chg.refl [] (wr.alloc (.cells (arr6 fun _ => 0) 66))).alloc (.cells (arr6 fun _ => 0) 66)
            have b2 := Box.at (wr.alloc (.cells (arr6 fun _ => 0) 66)) (arr6 fun _ => 0) 66 (n := wr.heap.size + 1) (by simp)
            have c3 := (Chg.refl [] ((wr.alloc (.cells (arr6 fun _ => 0) 66)).alloc (.cells (arr6 fun _ => 0) 66))).alloc (.cells #[.slice (some a) k cap, .slice ll m2 lc] 22)
            have b3 := Box.at ((wr.alloc (.cells (arr6 fun _ => 0) 66)).alloc (.cells (arr6 fun _ => 0) 66)) #[.slice (some a) k cap, .slice ll m2 lc] 22 (n := wr.heap.size + 1 + 1) (by simp)
            exact ⟨b1.keep (c2.trans c3) List.not_mem_nil, b2.keep c3 List.not_mem_nil, b3, (((Chg.refl [] wr).alloc _).trans c2).trans c3, Nat.le_refl _⟩
          have hc0 : Chg [] wr (((wr.alloc (.cells (arr6 fun _ => 0) 66)).alloc (.cells (arr6 fun _ => 0) 66)).alloc (.cells #[.slice (some a) k cap, .slice ll m2 lc] 22)) := (((Chg.refl [] wr).alloc _).alloc _).alloc _
          have HSt := hide hst
          have H1 := hide (HSx6.out.keep CI.out)
          have H2 := hide HLx6.out
          have HCw := hide C7.out
          have hc0s := hc0.size
          obtain ⟨W1, hW1⟩ : ∃ W1, W1 = ((wr.alloc (.cells (arr6 fun _ => 0) 66)).alloc (.cells (arr6 fun _ => 0) 66)).alloc (.cells #[.slice (some a) k cap, .slice ll m2 lc] 22) := ⟨_, rfl⟩
          have hW1' : W1 = ((wr.alloc (.cells #[.int .i64 0, .int .i64 0, .int .i64 0, .int .i64 0, .int .i64 0, .int .i64 0] 66)).alloc (.cells #[.int .i64 0, .int .i64 0, .int .i64 0, .int .i64 0, .int .i64 0, .int .i64 0] 66)).alloc (.cells #[.slice (some a) k cap, .slice ll m2 lc] 22) := hW1
          rw [← hW1] at HSt hc0s
          rw [← hW1']
          clear hst hc0 hW1 hW1' CI HSx6 HLx6 C7
          obtain ⟨Z, hZ⟩ : ∃ Z, Z = wr.heap.size := ⟨_, rfl⟩
          rw [← hZ] at HSt ⊢
          clear hZ
          generalize wr = WE at *
          go_loopw [75] (fun kv ws => ∃ q : Nat, q ≤ 2 ∧ kv = .int .i64 (q : Int) ∧ Hid (St6 WE Z (stepX (numV t1) (numV t2) q) (stepY (numV t1) q) #[.slice (some a) k cap, .slice ll m2 lc] ws)) (fun kv _ => (2 - (intOf kv).toNat))
          case atStart => exact ⟨0, by omega, rfl, HSt⟩
          case round =>
            obtain ⟨q, hq, rfl, hI⟩ := hrel
            by_cases hlq : q < 2
            · have d5 : decide ((q : Int) < 2) = true := by simp; omega
              have hsel : ∃ vk tk, (#[.slice (some a) k cap, .slice ll m2 lc] : Array Value)[q]? = some vk ∧ Six WE vk tk ∧ stepX (numV t1) (numV t2) (q + 1) = numV tk ∧ (∀ j, numV tk j ≤ 16) := by
                rcases (show q = 0 ∨ q = 1 by omega) with h | h
                · subst h; exact ⟨_, _, rfl, H1.out, rfl, HLe.out⟩
                · subst h; exact ⟨_, _, rfl, H2.out, rfl, HNl.out⟩
              obtain ⟨vk, tk, hcell, h6, hnext, hn16⟩ := hsel
              have HY : Hid (stepY (numV t1) (q + 1) = stepX (numV t1) (numV t2) q) := hide (by
                rcases (show q = 0 ∨ q = 1 by omega) with h | h <;> subst h <;> rfl)
              have fk : wr.cell? ⟨Z + 1 + 1, q, none⟩ = some vk := by rw [hI.out.2.2.1.cell]; exact hcell
              have lk := hI.out.2.2.1.lt
              have q0 : (0 : Int) ≤ (q : Int) := by omega
              have q1 : (q : Int) < 2 := by omega
              have H6 := hide (h6.keep hI.out.2.2.2.1)
              have HNx := hide hnext
              have HS0 := hI
              have C0 : Hid (Chg [] wr wr) := hide (Chg.refl _ _)
              clear hcell hnext h6 hI hn16
              generalize hfx : stepX (numV t1) (numV t2) q = fX at *
              generalize hfy : stepY (numV t1) q = fY at *
              go_wp2_with fail
              refine (H6.out.tab _ C0.out).mono ?_
              rintro e w1 ⟨v1, rfl, hI1, hw⟩
              have C1 : Hid (Chg [] wr w1) := hide (C0.out.trans hw)
              have A1 := hide hI1
              clear hw hI1
              go_wp2_with fail
              refine (H6.out.len _ _ A1.out).mono ?_
              rintro e w2 ⟨rfl, hw⟩
              have C2 : Hid (Chg [] wr w2) := hide (C1.out.trans hw)
              clear hw
              go_wp2_with fail
              refine (H6.out.tab _ C2.out).mono ?_
              rintro e w3 ⟨v3, rfl, hI3, hw⟩
              have C3 : Hid (Chg [] wr w3) := hide (C2.out.trans hw)
              have A3 := hide hI3
              clear hw hI3
              go_wp2_with fail
              refine (H6.out.part _ _ A3.out).mono ?_
              rintro e w4 ⟨rfl, hw⟩
              have C4 : Hid (Chg [] wr w4) := hide (C3.out.trans hw)
              clear hw
              go_wp2_with fail
              refine (H6.out.tab _ C4.out).mono ?_
              rintro e w5 ⟨v5, rfl, hI5, hw⟩
              have C5 : Hid (Chg [] wr w5) := hide (C4.out.trans hw)
              have A5 := hide hI5
              clear hw hI5
              go_wp2_with fail
              refine (H6.out.rk _ _ A5.out).mono ?_
              rintro e w6 ⟨rfl, hw⟩
              have C6 : Hid (Chg [] wr w6) := hide (C5.out.trans hw)
              clear hw
              go_wp2_with fail
              refine (H6.out.tab _ C6.out).mono ?_
              rintro e w7 ⟨v7, rfl, hI7, hw⟩
              have C7 : Hid (Chg [] wr w7) := hide (C6.out.trans hw)
              have A7 := hide hI7
              clear hw hI7
              go_wp2_with fail
              refine (H6.out.rk2 _ _ A7.out).mono ?_
              rintro e w8 ⟨rfl, hw⟩
              have C8 : Hid (Chg [] wr w8) := hide (C7.out.trans hw)
              clear hw
              go_wp2_with fail
              refine (H6.out.tab _ C8.out).mono ?_
              rintro e w9 ⟨v9, rfl, hI9, hw⟩
              have C9 : Hid (Chg [] wr w9) := hide (C8.out.trans hw)
              have A9 := hide hI9
              clear hw hI9
              go_wp2_with fail
              refine (H6.out.fa _ _ A9.out).mono ?_
              rintro e w10 ⟨fo10, fc10, rfl, hw⟩
              have C10 : Hid (Chg [] wr w10) := hide (C9.out.trans hw)
              clear hw
              go_wp2_with fail
              refine (H6.out.tab _ C10.out).mono ?_
              rintro e w11 ⟨v11, rfl, hI11, hw⟩
              have C11 : Hid (Chg [] wr w11) := hide (C10.out.trans hw)
              have A11 := hide hI11
              clear hw hI11
              go_wp2_with fail
              refine (H6.out.fb _ _ A11.out).mono ?_
              rintro e w12 ⟨fo12, fc12, rfl, hw⟩
              have C12 : Hid (Chg [] wr w12) := hide (C11.out.trans hw)
              clear hw

              have HS12 := hide (HS0.out.keep C12.out)
              have bx := HS12.out.1
              have by' := HS12.out.2.1
              unfold arr6 at bx by'
              have x0 := bx.cell 0
              have y0 := by'.cell 0
              have p0 := bx.free 0
              have r0 := by'.free 0
              have x1 := bx.cell 1
              have y1 := by'.cell 1
              have p1 := bx.free 1
              have r1 := by'.free 1
              have x2 := bx.cell 2
              have y2 := by'.cell 2
              have p2 := bx.free 2
              have r2 := by'.free 2
              have x3 := bx.cell 3
              have y3 := by'.cell 3
              have p3 := bx.free 3
              have r3 := by'.free 3
              have x4 := bx.cell 4
              have y4 := by'.cell 4
              have p4 := bx.free 4
              have r4 := by'.free 4
              have x5 := bx.cell 5
              have y5 := by'.cell 5
              have p5 := bx.free 5
              have r5 := by'.free 5
              simp only [List.getElem?_toArray, List.getElem?_cons_zero, List.getElem?_cons_succ] at x0 y0 x1 y1 x2 y2 x3 y3 x4 y4 x5 y5
              have lx := bx.lt
              have ly := by'.lt
              clear bx by'
              go_wp2
              go_roundw
              case rel => exact ⟨q + 1, by omega, by go_num, hide (by rw [HNx.out, HY.out]; exact HS12.out.put (numV tk) fX)⟩
              case measure => simp [intOf]; omega
            · have d5 : decide ((q : Int) < 2) = false := by simp; omega
              have hq2 : q = 2 := by omega
              rw [hq2] at hI
              clear hq2 d5
              have d5 : decide ((q : Int) < 2) = false := by simp; omega
              have HBx : Hid (Box wr Z (arr6 (numV t2)) 66 ∧ Box wr (Z + 1) (arr6 (numV t1)) 66 ∧ Chg [] w wr) := hide ⟨hI.out.1, hI.out.2.1, HCw.out.trans hI.out.2.2.2.1⟩
              clear hI
              go_wp2
              go_loopw [148] (fun kv ws => ∃ j : Nat, j ≤ 6 ∧ kv = .int .i64 (j : Int) ∧ Hid (Box ws Z (arr6 (numV t2)) 66 ∧ Box ws (Z + 1) (arr6 (numV t1)) 66 ∧ Chg [] w ws)) (fun kv _ => (6 - (intOf kv).toNat))
              case atStart => exact ⟨0, by omega, rfl, HBx⟩
              case round =>
                obtain ⟨j, hj, rfl, hJ⟩ := hrel
                by_cases hlj : j < 6
                · have d6 : decide ((j : Int) < 6) = true := by simp; omega
                  have j0 : (0 : Int) ≤ (j : Int) := by omega
                  have j1 : (j : Int) < 6 := by omega
                  have xa : wr.cell? ⟨Z, j, none⟩ = some (.int .i64 (numV t2 j : Int)) := by rw [hJ.out.1.cell]; exact arr6_at _ hlj
                  have ya : wr.cell? ⟨Z + 1, j, none⟩ = some (.int .i64 (numV t1 j : Int)) := by rw [hJ.out.2.1.cell]; exact arr6_at _ hlj
                  have lx := hJ.out.1.lt
                  have ly := hJ.out.2.1.lt
                  have hle := HNum.out j
                  have HJ := hide (fun n => (show Box (wr.drewN n) Z (arr6 (numV t2)) 66 ∧ Box (wr.drewN n) (Z + 1) (arr6 (numV t1)) 66 ∧ Chg [] w (wr.drewN n) from ⟨hJ.out.1.keep ((Chg.refl [] wr).drewN n) List.not_mem_nil, hJ.out.2.1.keep ((Chg.refl [] wr).drewN n) List.not_mem_nil, hJ.out.2.2.drewN n⟩))
                  have dn := fun h => HSb.out h j
                  clear hJ
                  generalize numV t2 j = nx at *
                  generalize numV t1 j = ny at *
                  have dg1 : decide ((ny : Int) < (nx : Int)) = false := by simp; omega
                  have dg2 : decide ((nx : Int) > (ny : Int)) = false := by simp; omega
                  have dg3 : decide (ny < nx) = false := by simp; omega
                  cases sk with
                  | false =>
                    clear dn
                    go_wp2
                    go_big_quiet (fail)
                    go_wp2
                    go_roundw
                    case rel => exact ⟨j + 1, by omega, by go_num, hide (HJ.out _)⟩
                    case measure => simp [intOf]; omega
                  | true =>
                    obtain rfl : nx = ny := dn rfl
                    have dn2 : ((nx : Int) != (nx : Int)) = false := by simp
                    have dn3 : (nx != nx) = false := by simp
                    clear dn
                    go_wp2
                    go_big_quiet (fail)
                    go_wp2
                    go_roundw
                    case rel => exact ⟨j + 1, by omega, by go_num, hide (HJ.out _)⟩
                    case measure => simp [intOf]; omega
                · have d6 : decide ((j : Int) < 6) = false := by simp; omega
                  have HCf : Hid (Chg [] w wr) := hide hJ.out.2.2
                  clear hJ
                  go_wp2_with fail
                  refine (HAw.out _).mono ?_
                  rintro e w13 ⟨rfl, hw⟩
                  have C13 := hide (HCf.out.trans hw)
                  clear hw
                  go_wp2
                  go_ret
                  exact ⟨rfl, C13.out⟩
theorem talkLess_walk (v u1 u2 : Value) (w : World) (hv : IsRows w v) (h1 : IsInt u1) (h2 : IsBool u2) : Calls Try.prog 13 #[v, u1, u2] w (Ret (.bool true) w) := by
  obtain ⟨t, hs, htl, hrl⟩ := hv
  obtain ⟨ai, rfl, _⟩ := h1
  obtain ⟨b, rfl⟩ := h2
  cases ht : T.isTab t with
  | false => exact less_bad v t ai b w hs hrl ht
  | true => exact less_good v t ai b w hs hrl ht
end Go.Proofs.Ytaapamoglgpocaa
