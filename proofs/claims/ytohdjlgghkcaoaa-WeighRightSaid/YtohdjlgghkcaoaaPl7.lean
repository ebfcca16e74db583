/- Walk: Plan. -/
import Derived.Test.YtohdjlgghkcaoaaPl6
namespace Go.Proofs.Ytohdjlgghkcaoaa
open Go.RowKit

theorem slots_ok : ∀ k, 1 ≤ k → k ≤ 3 → (W.slotsM k).length ≤ 13 ∧ ∀ r ∈ W.slotsM k, W.rowOk k r = true := by
  intro k h1 h3
  rcases (show k = 1 ∨ k = 2 ∨ k = 3 by omega) with rfl | rfl | rfl
  · exact ⟨by decide, by decide⟩
  · exact ⟨by decide, by decide⟩
  · exact ⟨by decide, by decide⟩
theorem grow_all (w1 W0 : World) (Bp Bc Ba Bg coins k b1' : Nat) (va : Value) (all : List (List Int)) (hB : Bp < W0.heap.size ∧ Bc < W0.heap.size ∧ Ba < W0.heap.size ∧ Bg < W0.heap.size) (n1 : Bp ≠ Bc) (n2 : Bp ≠ Ba) (n3 : Bp ≠ Bg) (hw1 : w1.heap.size ≤ Bp)
    (hc1 : 1 ≤ coins) (hc13 : coins ≤ 13) (hk1 : 1 ≤ k) (hk3 : k ≤ 3) (hal : all.length ≤ 13) (hav : ∃ ao cap, va = .slice ao all.length cap) (hAll : Rows2 w1 b1' va all) (har : ∀ r ∈ all, W.rowOk k r = true) : ∀ m, GrowOk w1 W0 Bp Bc Ba Bg coins k va all m
  | 0 => grow_end w1 W0 Bp Bc Ba Bg coins k va all hc1 hc13 hk1 hk3
  | m + 1 => grow_more w1 W0 Bp Bc Ba Bg coins k b1' va all m hB n1 n2 n3 hw1 hc13 hk3 hal hav hAll har (grow_all w1 W0 Bp Bc Ba Bg coins k b1' va all hB n1 n2 n3 hw1 hc1 hc13 hk1 hk3 hal hav hAll har m)

set_option maxRecDepth 100000 in
set_option maxHeartbeats 2000000 in
theorem Plan_no (coins k : Int) (w : World) (h : coins < 1 ∨ 13 < coins ∨ k < 1 ∨ 3 < k) : Calls Try.prog 47 #[.int .i64 coins, .int .i64 k] w (Ret (.tuple #[.slice none 0 0, .int .i64 2]) w) := by
  by_cases h1 : coins < 1
  · have d1 : decide (coins < 1) = true := by simpa using h1
    clear h
    go_enter Try.func47, Try.ntmps47
    go_wp2
    go_ret2
    exact ⟨rfl, (Chg.refl _ _).alloc _⟩
  · have d1 : decide (coins < 1) = false := by simpa using h1
    by_cases h2 : 13 < coins
    · have d2 : decide (13 < coins) = true := by simpa using h2
      clear h
      go_enter Try.func47, Try.ntmps47
      go_wp2
      go_ret2
      exact ⟨rfl, (Chg.refl _ _).alloc _⟩
    · have d2 : decide (13 < coins) = false := by simpa using h2
      by_cases h3 : k < 1
      · have d3 : decide (k < 1) = true := by simpa using h3
        clear h
        go_enter Try.func47, Try.ntmps47
        go_wp2
        go_ret2
        exact ⟨rfl, (Chg.refl _ _).alloc _⟩
      · have d3 : decide (k < 1) = false := by simpa using h3
        have d4 : decide (3 < k) = true := by simp; omega
        clear h
        go_enter Try.func47, Try.ntmps47
        go_wp2
        go_ret2
        exact ⟨rfl, (Chg.refl _ _).alloc _⟩

theorem grow_len {all : List (List Int)} : ∀ (m i : Nat) (p q : List (List Int)), W.growM all m i p = some q → q.length = p.length + m
  | 0, i, p, q, h => by
    unfold W.growM at h
    split at h
    · cases h; rfl
    · cases h
  | m + 1, i, p, q, h => by
    unfold W.growM at h
    obtain ⟨j, _, hj⟩ := List.exists_of_findSome?_eq_some h
    rcases Option.or_eq_some_iff.1 hj with h1 | ⟨_, h1⟩
    · have := grow_len m _ _ _ h1; simp at this; omega
    · have := grow_len m _ _ _ h1; simp at this; omega

/-- What Plan answers. -/
def PlanIs (coins k : Nat) (w w' : World) (e : Ending) : Prop :=
  ∃ v : Value, ∃ c : Int, e = .returned (.tuple #[v, .int .i64 c]) ∧ Chg [] w w' ∧ ((∃ p, W.planM coins k = some p ∧ c = 0 ∧ See2 w' v p) ∨ (W.planM coins k = none ∧ c = 4 ∧ v = .slice none 0 0))

set_option maxRecDepth 100000 in
set_option maxHeartbeats 4000000 in
theorem Plan_yes (coins k : Nat) (w : World) (hc1 : 1 ≤ coins) (hc13 : coins ≤ 13) (hk1 : 1 ≤ k) (hk3 : k ≤ 3) : Calls Try.prog 47 #[.int .i64 (coins : Int), .int .i64 (k : Int)] w fun e w' => PlanIs coins k w w' e := by
  obtain ⟨s1, s2⟩ := slots_ok k hk1 hk3
  have d1 : decide ((coins : Int) < 1) = false := by simp; omega
  have d2 : decide ((13 : Int) < (coins : Int)) = false := by simp; omega
  have d3 : decide ((k : Int) < 1) = false := by simp; omega
  have d4 : decide ((3 : Int) < (k : Int)) = false := by simp; omega
  have HS2 := hide s2
  clear s2
  go_enter Try.func47, Try.ntmps47
  go_wp2_with fail
  have b2 := Box.new w #[.int .i64 (coins : Int)] 3
  have C0 : Hid (Chg [] w (w.alloc (.cells #[.int .i64 (coins : Int)] 3))) := hide ((Chg.refl _ _).alloc _)
  generalize w.alloc (.cells #[.int .i64 (coins : Int)] 3) = wa at b2 C0 ⊢
  refine (slots_any k hk3 _).mono ?_
  rintro e w1 ⟨va, rfl, hall, hw1⟩
  obtain ⟨ao, acap, rfl⟩ := hall.toSee2.shape
  have B2 := hide (b2.keep hw1 List.not_mem_nil)
  have HAll := hide hall
  have C1 : Hid (Chg [] w w1) := hide (C0.out.trans hw1)
  have lb := B2.out.lt
  clear b2 hall hw1
  generalize w.heap.size = Bc at B2 lb ⊢
  obtain ⟨N, hN⟩ : ∃ N, N = (W.slotsM k).length := ⟨_, rfl⟩
  rw [← hN] at s1 ⊢
  have HN := hide hN
  clear hN
  go_wp2_with fail
  have hc0 : Chg [] w1 (((w1.alloc (.cells #[.slice ao N acap] 62)).alloc (.cells #[.slice none 0 0] 62)).alloc (.cells #[.func (.func 72) #[] #[.pointer (some ⟨w1.heap.size + 1, 0, none⟩), .pointer (some ⟨Bc, 0, none⟩), .pointer (some ⟨w1.heap.size, 0, none⟩), .pointer (some ⟨w1.heap.size + 1 + 1, 0, none⟩)]] 56)) := ((((Chg.refl [] w1).alloc _).alloc _).alloc _)
  have q3 : Box (((w1.alloc (.cells #[.slice ao N acap] 62)).alloc (.cells #[.slice none 0 0] 62)).alloc (.cells #[.func (.func 72) #[] #[.pointer (some ⟨w1.heap.size + 1, 0, none⟩), .pointer (some ⟨Bc, 0, none⟩), .pointer (some ⟨w1.heap.size, 0, none⟩), .pointer (some ⟨w1.heap.size + 1 + 1, 0, none⟩)]] 56)) w1.heap.size #[.slice ao N acap] 62 := ((Box.new w1 #[.slice ao N acap] 62).old _).old _
  have q1 : Box (((w1.alloc (.cells #[.slice ao N acap] 62)).alloc (.cells #[.slice none 0 0] 62)).alloc (.cells #[.func (.func 72) #[] #[.pointer (some ⟨w1.heap.size + 1, 0, none⟩), .pointer (some ⟨Bc, 0, none⟩), .pointer (some ⟨w1.heap.size, 0, none⟩), .pointer (some ⟨w1.heap.size + 1 + 1, 0, none⟩)]] 56)) (w1.heap.size + 1) #[.slice none 0 0] 62 := (Box.at (w1.alloc (.cells #[.slice ao N acap] 62)) #[.slice none 0 0] 62 (by simp)).old _
  have q4 : Box (((w1.alloc (.cells #[.slice ao N acap] 62)).alloc (.cells #[.slice none 0 0] 62)).alloc (.cells #[.func (.func 72) #[] #[.pointer (some ⟨w1.heap.size + 1, 0, none⟩), .pointer (some ⟨Bc, 0, none⟩), .pointer (some ⟨w1.heap.size, 0, none⟩), .pointer (some ⟨w1.heap.size + 1 + 1, 0, none⟩)]] 56)) (w1.heap.size + 1 + 1) #[.func (.func 72) #[] #[.pointer (some ⟨w1.heap.size + 1, 0, none⟩), .pointer (some ⟨Bc, 0, none⟩), .pointer (some ⟨w1.heap.size, 0, none⟩), .pointer (some ⟨w1.heap.size + 1 + 1, 0, none⟩)]] 56 := Box.at ((w1.alloc (.cells #[.slice ao N acap] 62)).alloc (.cells #[.slice none 0 0] 62)) #[.func (.func 72) #[] #[.pointer (some ⟨w1.heap.size + 1, 0, none⟩), .pointer (some ⟨Bc, 0, none⟩), .pointer (some ⟨w1.heap.size, 0, none⟩), .pointer (some ⟨w1.heap.size + 1 + 1, 0, none⟩)]] 56 (by simp)
  have q2 := B2.out.keep hc0 List.not_mem_nil
  generalize (((w1.alloc (.cells #[.slice ao N acap] 62)).alloc (.cells #[.slice none 0 0] 62)).alloc (.cells #[.func (.func 72) #[] #[.pointer (some ⟨w1.heap.size + 1, 0, none⟩), .pointer (some ⟨Bc, 0, none⟩), .pointer (some ⟨w1.heap.size, 0, none⟩), .pointer (some ⟨w1.heap.size + 1 + 1, 0, none⟩)]] 56)) = W0 at hc0 q1 q2 q3 q4 ⊢
  have hst : PlanSt w1 W0 (w1.heap.size + 1) Bc w1.heap.size (w1.heap.size + 1 + 1) coins k (.slice ao (W.slotsM k).length acap) W0 (.slice none 0 0) [] := ⟨q1, q2, by rw [← HN.out]; exact q3, q4, Rows2.nil _ _, fun r hr => (by cases hr), Chg.refl _ _, hc0⟩
  have HC0 : Hid (Chg [] w W0) := hide (C1.out.trans hc0)
  have hw01 := C1.out.size
  have hgrow := grow_all w1 W0 (w1.heap.size + 1) Bc w1.heap.size (w1.heap.size + 1 + 1) coins k _ (.slice ao (W.slotsM k).length acap) (W.slotsM k) ⟨q1.lt, q2.lt, q3.lt, q4.lt⟩ (by omega) (by omega) (by omega) (by omega) hc1 hc13 hk1 hk3 (by rw [← HN.out]; exact s1) ⟨_, _, rfl⟩ HAll.out HS2.out coins
  refine (hgrow 0 [] W0 (.slice none 0 0) (by simp) (Nat.zero_le _) hst).mono ?_
  rintro e w2 ⟨vp', _, _, ⟨rfl, q, hq, st⟩ | ⟨rfl, hq, st⟩⟩
  · have HQ := hide hq
    have hC2 : Chg [] w w2 := HC0.out.trans' st.2.2.2.2.2.2.1 (fun x hx => .inr (by simp at hx; omega))
    have HC2 := hide hC2
    have hx := st.2.2.2.2.1
    have b1 := st.1
    obtain ⟨po, pcap, rfl⟩ := hx.toSee2.shape
    have hql : q.length ≤ 1000000 := by have := grow_len _ _ _ _ hq; simp at this; omega
    have HR := hide st.2.2.2.2.2.1
    have c1 := b1.cell 0
    simp at c1
    have HX := hide hx
    clear hc0 q1 q2 q3 q4 hst hgrow hq st hx b1 hC2 lb hw01
    obtain ⟨n, hn⟩ : ∃ n, n = q.length := ⟨_, rfl⟩
    rw [← hn] at c1 hql HX
    have HQn := hide hn
    clear hn
    go_wp2
    obtain ⟨i0, hi, hz0, hz1, hz2⟩ := info_parts infoInts
    go_loopw [9, 34] (fun o ii wr => ∃ j : Nat, j ≤ n ∧ ii = .int .i64 (j : Int) ∧ Hid (Rows2 wr w2.heap.size o (q.take j) ∧ Chg [] w2 wr)) (fun _ ii _ => (n - (intOf ii).toNat))
    case atStart => exact ⟨0, Nat.zero_le _, rfl, hide ⟨Rows2.nil _ _, Chg.refl _ _⟩⟩
    case round =>
      obtain ⟨j, hj, rfl, hI⟩ := hrel
      by_cases hlt : j < n
      · have e1 : decide ((j : Int) < (n : Int)) = true := by simpa using hlt
        obtain ⟨g, capg, bo, bc, e, hbg, hgl, fcell, hrowI⟩ := HX.out.open (i := j) (by rw [← HQn.out]; exact hlt)
        rw [← HQn.out] at e
        cases e
        have fx := (hI.out.2.cell hgl List.not_mem_nil j).trans fcell
        have hrl : (q.getD j []).length ≤ 1000000 := by
          have := (W.rowOk_iff.1 (HR.out _ (W.row_mem (i := j) (by rw [← HQn.out]; exact hlt)))).1
          omega
        have HRow := hide (hrowI.keep hI.out.2)
        obtain ⟨row, hrow⟩ : ∃ row, row = q.getD j [] := ⟨_, rfl⟩
        rw [← hrow] at fx hrl HRow
        have HRw := hide hrow
        have HRl := hide hrl
        clear fcell hrowI hrow hrl
        obtain ⟨LR, hLR⟩ : ∃ LR, LR = row.length := ⟨_, rfl⟩
        rw [← hLR] at fx HRow
        clear hLR
        go_wp2_with fail
        refine (Clone_any _ row _ HRow.out.toSee HRl.out).mono ?_
        rintro e w3 ⟨u', rfl, hI1, hc1'⟩
        obtain ⟨uo, un, uc, rfl⟩ := hI1.shape
        obtain ⟨us, hus, ho, hr⟩ := hI.out.1
        have hlm : (q.take j).length = j := by rw [List.length_take, ← HQn.out]; omega
        have ho1 := hc1'.row ho (fun _ _ => List.not_mem_nil)
        rw [hlm] at ho1
        have HO := hide ho1
        have HRR := hide (And.intro hus (fun i u h => (hr i u h).keep hc1'))
        have HI1 := hide hI1
        have HC1 := hide hc1'
        have HLM := hide hlm
        have hsz := hc1'.size
        have hsz0 := hI.out.2.size
        clear hI1 hc1' hus ho hr ho1 hlm fx
        go_wp2_with (at_builtin; refine wpList_append_own _ rfl _ _ 62 rfl w2.heap.size 51 i0 (.slice none 0 0) 1 24 Try.underlying62 hi hz0 hz1 hz2 rfl (by decide) _ _ _ rfl (HO.out.alloc _) ⟨w3.heap.size, 0, none⟩ 1 1 [.slice uo un uc] rfl rfl (by intro j u hj; rw [add_zero_row, (Box.new w3 _ _).cell j]; simpa using hj) (by intro x hx; rw [List.mem_singleton] at hx; subst hx; rfl) (by unfold maxLen; omega) (by omega) (by simp; omega) ?_; intro v1 w4 hown1 hgrow1 _)
        go_roundw
        case rel =>
          refine ⟨j + 1, by omega, by go_num, hide ⟨?_, (((hI.out.2.trans HC1.out).alloc _).grew (HO.out.alloc _) (Nat.le_refl _) hgrow1)⟩⟩
          have e : q.take (j + 1) = q.take j ++ [row] := by
            rw [List.take_add_one, HRw.out, List.getD_eq_getElem?_getD, List.getElem?_eq_getElem (by rw [← HQn.out]; exact hlt)]
            rfl
          rw [e]
          have hgA : Chg [] w3 (w3.alloc (.cells #[.slice uo un uc] 51)) := (Chg.refl _ _).alloc _
          exact Rows2.push (us := us) (u := .slice uo un uc) (w := w3.alloc (.cells #[.slice uo un uc] 51)) (by rw [HLM.out]; exact HRR.out.1.trans HLM.out) (by rw [HLM.out]; exact HO.out.alloc _) (fun i u h => (HRR.out.2 i u h).keep hgA) (HI1.out.keep hgA) hgrow1 (by rw [HLM.out]; exact hown1)
        case measure => simp [intOf]; omega
      · have e1 : decide ((j : Int) < (n : Int)) = false := by simpa using hlt
        obtain rfl : j = n := by omega
        have hfin := hI.out.1.toSee2
        rw [List.take_of_length_le (by rw [← HQn.out]; exact Nat.le_refl _)] at hfin
        have HFin := hide hfin
        obtain ⟨fo, fcap, rfl⟩ := hfin.shape
        clear hfin
        go_wp2
        go_ret2
        exact ⟨_, _, rfl, HC2.out.trans hI.out.2, .inl ⟨q, HQ.out, rfl, HFin.out⟩⟩
  · have HQ := hide hq
    have hC2 : Chg [] w w2 := HC0.out.trans' st.2.2.2.2.2.2.1 (fun x hx => .inr (by simp at hx; omega))
    have HC2 := hide hC2
    clear hc0 q1 q2 q3 q4 hst hgrow hq st hC2 lb hw01
    go_wp2
    go_ret2
    exact ⟨_, _, rfl, HC2.out, .inr ⟨HQ.out, rfl, rfl⟩⟩
end Go.Proofs.Ytohdjlgghkcaoaa
