/- Walk: Once. -/
import Derived.Test.YtaapamoglgpocaaLaw7
import Derived.Lib.BitFns
namespace Go.Proofs.Ytaapamoglgpocaa
open Go.RowKit

/-- The rows that differ, the first of each. -/
def uniqT (t : List (List Int)) : List (List Int) := t.foldl (fun acc r => if acc.any (fun s => decide (r = s)) = true then acc else acc ++ [r]) []
theorem uniqT_snoc (t : List (List Int)) (r : List Int) : uniqT (t ++ [r]) = if (uniqT t).any (fun s => decide (r = s)) = true then uniqT t else uniqT t ++ [r] := by
  unfold uniqT
  rw [List.foldl_append]
  rfl
theorem uniqT_len (t : List (List Int)) : ∀ n, n ≤ t.length → (uniqT (t.take n)).length ≤ n
  | 0, _ => by simp [uniqT]
  | n + 1, h => by
    have ih := uniqT_len t n (by omega)
    rw [List.take_add_one, List.getElem?_eq_getElem (by omega)]
    show (uniqT (t.take n ++ [t[n]])).length ≤ n + 1
    rw [uniqT_snoc]
    split
    · omega
    · rw [List.length_append]; simp; omega
theorem uniqT_pos (t : List (List Int)) : ∀ n, 0 < n → n ≤ t.length → 1 ≤ (uniqT (t.take n)).length
  | 0, h, _ => by omega
  | n + 1, _, h => by
    rw [List.take_add_one, List.getElem?_eq_getElem (by omega)]
    show 1 ≤ (uniqT (t.take n ++ [t[n]])).length
    rw [uniqT_snoc]
    by_cases h0 : n = 0
    · subst h0; simp [uniqT]
    · have ih := uniqT_pos t n (by omega) (by omega)
      split
      · exact ih
      · rw [List.length_append]; simp
/-- How many words it takes to name one of d. -/
def wordsN (d : Nat) : Nat := if d ≤ 1 then 0 else if d ≤ 2 then 1 else 2
def onceN (t : List (List Int)) : Nat := wordsN (uniqT t).length
def onceV (t : List (List Int)) : Value := if T.isTab t = true then .tuple #[.int .i64 (onceN t : Int), .int .i64 0] else .tuple #[.int .i64 0, .int .i64 2]

set_option maxHeartbeats 4000000 in
set_option maxRecDepth 100000 in
theorem Len64_any (x : Nat) (w : World) (h : x < 4) : Calls Try.prog 110 #[.int .u64 (x : Int)] w fun e w' => e = .returned (.int .i64 (wordsN (x + 1) : Int)) ∧ w' = w := by
  match x, h with
  | 0, _ =>
    go_enter Try.func110, Try.ntmps110
    go_wp2
    go_ret
    refine ⟨congrArg Ending.returned (congrArg (Value.int IntKind.i64) ?_), rfl⟩
    decide +kernel
  | 1, _ =>
    go_enter Try.func110, Try.ntmps110
    go_wp2
    go_ret
    refine ⟨congrArg Ending.returned (congrArg (Value.int IntKind.i64) ?_), rfl⟩
    decide +kernel
  | 2, _ =>
    go_enter Try.func110, Try.ntmps110
    go_wp2
    go_ret
    refine ⟨congrArg Ending.returned (congrArg (Value.int IntKind.i64) ?_), rfl⟩
    decide +kernel
  | 3, _ =>
    go_enter Try.func110, Try.ntmps110
    go_wp2
    go_ret
    refine ⟨congrArg Ending.returned (congrArg (Value.int IntKind.i64) ?_), rfl⟩
    decide +kernel
set_option maxHeartbeats 4000000 in
set_option maxRecDepth 100000 in
theorem Len_any (x : Nat) (w : World) (h : x < 4) : Calls Try.prog 82 #[.int .u64 (x : Int)] w fun e w' => e = .returned (.int .i64 (wordsN (x + 1) : Int)) ∧ w' = w := by
  go_enter Try.func82, Try.ntmps82
  go_wp2_with (go_at_call 110; refine (Len64_any x _ h).mono ?_; rintro e w' ⟨rfl, rfl⟩)
  go_ret
  exact ⟨rfl, rfl⟩

set_option maxRecDepth 100000 in
set_option maxHeartbeats 1000000 in
theorem Index_rows (F : FuncId) (cp : Array Value) (P : List Int → Bool) (v : Value) (t : List (List Int)) (w : World) (hv : See2 w v t) (hl : t.length ≤ 1000000)
    (hcall : ∀ args W, (callFunc F args).run Try.prog W = .ok (.enter F args) W) (hF : ∀ u r ws, r ∈ t → Chg [] w ws → See ws u r → Calls Try.prog F (#[u] ++ cp) ws (Ret (.bool (P r)) ws)) :
    Calls Try.prog 102 #[v, .func (.func F) #[] cp] w fun e w' => ∃ r : Int, e = .returned (.int .i64 r) ∧ decide (0 ≤ r) = t.any P ∧ Chg [] w w' := by
  obtain ⟨ao, cap, rfl⟩ := hv.shape
  have HV := hide hv
  have HF := hide hF
  clear hv hF
  generalize hn : t.length = n at *
  have HN := hide hn
  clear hn
  go_enter Try.func102, Try.ntmps102
  go_wp2
  go_loopw [8] (fun i wr => ∃ j : Nat, j ≤ n ∧ i = .int .i64 (j : Int) ∧ Hid ((∀ q, q < j → P (t.getD q []) = false) ∧ Chg [] w wr)) (fun i _ => (n - (intOf i).toNat))
  case atStart => exact ⟨0, Nat.zero_le _, rfl, hide ⟨fun q h => by omega, Chg.refl _ _⟩⟩
  case round =>
    obtain ⟨j, hj, rfl, hI⟩ := hrel
    by_cases hlt : j < n
    · have d1 : decide ((j : Int) < (n : Int)) = true := by simpa using hlt
      have nx : t ≠ [] := fun h => by have := HN.out; rw [h] at this; simp at this; omega
      obtain ⟨a, cap', e, _, hc⟩ := HV.out.open nx
      cases e
      obtain ⟨bo, bc, hrow⟩ := hc j (by rw [HN.out]; exact hlt)
      obtain ⟨fx, hs⟩ := hrow wr hI.out.2
      have HMem : Hid (t.getD j [] ∈ t) := hide (T.row_mem (by rw [HN.out]; exact hlt))
      have HC := hide (HF.out _ _ wr HMem.out hI.out.2 hs)
      obtain ⟨x, hxe⟩ : ∃ x, x = t.getD j [] := ⟨_, rfl⟩
      rw [← hxe] at fx HC HMem
      have HXE := hide hxe
      clear nx hc hxe hrow hs
      go_wp2_with fail
      refine HC.out.mono ?_
      rintro e w1 ⟨rfl, hw1⟩
      cases hp : P x with
      | true =>
        have HP := hide hp
        clear hp
        go_wp2
        go_ret
        refine ⟨_, rfl, ?_, hI.out.2.trans hw1⟩
        have : t.any P = true := List.any_eq_true.2 ⟨x, HMem.out, HP.out⟩
        rw [this]
        simp
      | false =>
        have HP := hide hp
        clear hp
        go_wp2
        go_roundw
        case rel => exact ⟨j + 1, by omega, by go_num, hide ⟨fun q hq => by
          rcases (show q < j ∨ q = j by omega) with h | rfl
          · exact hI.out.1 q h
          · rw [← HXE.out]; exact HP.out, hI.out.2.trans hw1⟩⟩
        case measure => simp [intOf]; omega
    · have d1 : decide ((j : Int) < (n : Int)) = false := by simpa using hlt
      go_wp2
      go_ret
      refine ⟨_, rfl, ?_, hI.out.2⟩
      have : t.any P = false := by
        rw [Bool.eq_false_iff]
        intro h
        obtain ⟨x, hx, hp⟩ := List.any_eq_true.1 h
        obtain ⟨q, hq, he⟩ := List.getElem_of_mem hx
        have := hI.out.1 q (by rw [HN.out] at hq; omega)
        rw [List.getD_eq_getElem?_getD, List.getElem?_eq_getElem hq] at this
        simp only [Option.getD_some, he, hp] at this
        cases this
      rw [this]
      decide

set_option maxRecDepth 100000 in
set_option maxHeartbeats 1000000 in
theorem Contains_rows (F : FuncId) (cp : Array Value) (P : List Int → Bool) (v : Value) (t : List (List Int)) (w : World) (hv : See2 w v t) (hl : t.length ≤ 1000000)
    (hcall : ∀ args W, (callFunc F args).run Try.prog W = .ok (.enter F args) W) (hF : ∀ u r ws, r ∈ t → Chg [] w ws → See ws u r → Calls Try.prog F (#[u] ++ cp) ws (Ret (.bool (P r)) ws)) :
    Calls Try.prog 80 #[v, .func (.func F) #[] cp] w (Ret (.bool (t.any P)) w) := by
  have HI := hide (Index_rows F cp P v t w hv hl hcall hF)
  clear hF hv hcall
  go_enter Try.func80, Try.ntmps80
  go_wp2_with fail
  refine HI.out.mono ?_
  rintro e w1 ⟨r, rfl, hr, hc⟩
  have HR := hide hr
  clear hr
  go_wp2
  go_ret
  exact ⟨by rw [← HR.out]; rfl, hc⟩

set_option maxRecDepth 100000 in
set_option maxHeartbeats 1000000 in
theorem same_row (r s : List Int) (B : Nat) (u vr : Value) (w : World) (hB : w.cell? ⟨B, 0, none⟩ = some vr) (hr : See w vr r) (hs : See w u s) (hl : r.length < 1000000) :
    Calls Try.prog 81 #[u, .pointer (some ⟨B, 0, none⟩)] w (Ret (.bool (decide (r = s))) w) := by
  have HE := hide (Equal_any vr u r s w hr hs hl)
  obtain ⟨ao, cap, rfl⟩ := hr.shape
  obtain ⟨bo, cap', rfl⟩ := hs.shape
  clear hr hs
  generalize r.length = n at *
  generalize s.length = m at *
  go_enter Try.func81, Try.ntmps81
  go_wp2_with fail
  refine HE.out.mono ?_
  rintro e w1 ⟨rfl, hw1⟩
  go_wp2
  go_ret
  exact ⟨rfl, hw1⟩
theorem callOnce (args : Array Value) (W : World) : (callFunc 81 args).run Try.prog W = .ok (.enter 81 args) W := by kernel_rfl
/-- A slice of rows that is the call's own; the rows lie where they lay. -/
def RowsA (w0 w : World) (v : Value) (l : List (List Int)) : Prop := ∃ us : List Value, us.length = l.length ∧ w.ownsRow w0.heap.size 38 1 v l.length us ∧ ∀ i u, us[i]? = some u → See w0 u (l.getD i [])
theorem RowsA.see {w0 w : World} {v : Value} {l : List (List Int)} (h : RowsA w0 w v l) (hc : Chg [] w0 w) : See2 w v l := by
  obtain ⟨us, h1, h2, h3⟩ := h
  rcases h2.2 with ⟨rfl, hn⟩ | ⟨g, cap, cur, rfl, hb, hg, hle, hcap, hsz, ht⟩
  · exact ⟨none, 0, by rw [hn], by omega, fun hne => absurd (List.length_eq_zero_iff.1 hn) hne⟩
  · refine ⟨some ⟨g, 0, none⟩, cap, rfl, hle, fun _ => ⟨_, rfl, (Array.getElem?_eq_some_iff.1 hg).1, fun i hi => ?_⟩⟩
    obtain ⟨u, hu⟩ : ∃ u, us[i]? = some u := ⟨_, List.getElem?_eq_getElem (by omega)⟩
    refine ⟨u, ?_, (h3 i u hu).keep hc⟩
    rw [add_zero_row, cell_of_row w g _ cur 38 (0, 0) hg]
    rw [← ht, List.getElem?_take] at hu
    split at hu
    · simpa using hu
    · cases hu
theorem RowsA.nil (w0 : World) : RowsA w0 w0 (.slice none 0 0) [] := ⟨[], rfl, World.ownsRow_nil _ _ _ _, fun i u h => by simp at h⟩
theorem RowsA.keep {w0 w w' : World} {v : Value} {l : List (List Int)} (h : RowsA w0 w v l) (hc : Chg [] w w') : RowsA w0 w' v l := by
  obtain ⟨us, h1, h2, h3⟩ := h
  exact ⟨us, h1, hc.row h2 (fun _ _ => List.not_mem_nil), h3⟩

set_option maxRecDepth 100000 in
set_option maxHeartbeats 2000000 in
theorem Once_any (v : Value) (t : List (List Int)) (w : World) (hv : See2 w v t) (hl : ∀ r ∈ t, r.length ≤ 1000000) (htl : t.length ≤ 1000000) : Calls Try.prog 46 #[v] w (Ret (onceV t) w) := by
  have HVa := hide (valid_any v t w hv hl htl)
  obtain ⟨ao, cap, rfl⟩ := hv.shape
  unfold onceV
  cases ht : T.isTab t with
  | false =>
    rw [ht] at HVa
    rw [if_neg (by decide)]
    clear hv hl htl ht
    generalize t.length = n at *
    go_enter Try.func46, Try.ntmps46
    go_wp2_with fail
    refine HVa.out.mono ?_
    rintro e w1 ⟨rfl, hw1⟩
    go_wp2
    go_ret2
    exact ⟨rfl, hw1⟩
  | true =>
    rw [ht] at HVa
    rw [if_pos rfl]
    obtain ⟨⟨t1, t2, t3, t4⟩, _⟩ := T.isTab_iff.1 ht
    have hne : t ≠ [] := by rintro rfl; simp at t1
    obtain ⟨a, cap', e, _, hcc⟩ := hv.open hne
    cases e
    have HC := hide hcc
    have HT := hide ht
    have HUp := hide (uniqT_pos t t.length (by omega) (Nat.le_refl _))
    have HUl := hide (uniqT_len t)
    rw [List.take_length] at HUp
    have HTk : Hid (t.take t.length = t) := hide (List.take_length)
    obtain ⟨n, hn⟩ : ∃ n, n = t.length := ⟨_, rfl⟩
    have HN := hide hn
    rw [← hn] at t1 t2 HVa HUl HTk ⊢
    obtain ⟨i0, hi, hz0, hz1, hz2⟩ := info_parts infoInts
    have HRl := hide fun i (hi : i < n) => (T.tab_row ht (i := i) (by rw [← hn]; exact hi))
    clear hcc hv hl htl hne ht hn
    go_enter Try.func46, Try.ntmps46
    go_wp2_with fail
    refine HVa.out.mono ?_
    rintro e w1 ⟨rfl, hw1⟩
    have C1 := hide hw1
    clear hw1
    go_wp2
    go_loopw [4, 12] (fun ov iv wr => ∃ (i : Nat), i ≤ n ∧ iv = .int .i64 (i : Int) ∧ Hid (RowsA w wr ov (uniqT (t.take i)) ∧ Chg [] w wr)) (fun _ iv _ => n - (intOf iv).toNat)
    case atStart => exact ⟨0, Nat.zero_le _, rfl, hide ⟨(RowsA.nil w).keep C1.out, C1.out⟩⟩
    case round =>
      obtain ⟨i, hi', rfl, hI⟩ := hrel
      obtain ⟨us, hus, hown, hse⟩ := hI.out.1
      obtain ⟨oo, oc, rfl, hoc⟩ := row_shape hown
      have HOw := hide hown
      have HUs := hide (And.intro hus hse)
      have C2 := hide hI.out.2
      have HSee := hide (hI.out.1.see hI.out.2)
      have hlu := HUl.out i hi'
      clear hus hown hse hI
      generalize hL : uniqT (t.take i) = L at *
      have HLe := hide hL
      clear hL
      by_cases hlt : i < n
      · have d1 : decide ((i : Int) < (n : Int)) = true := by simpa using hlt
        obtain ⟨bo, bc, hrow⟩ := HC.out i (by rw [← HN.out]; exact hlt)
        have hlen := HRl.out i hlt
        rw [hlen] at hrow
        obtain ⟨fr, _⟩ := hrow wr C2.out
        have HRow := hide hrow
        obtain ⟨r, hr⟩ : ∃ r, r = t.getD i [] := ⟨_, rfl⟩
        rw [← hr] at HRow
        have HSn : Hid (uniqT (t.take (i + 1)) = if L.any (fun s => decide (r = s)) = true then L else L ++ [r]) := hide (by
          have hi2 : i < t.length := by rw [← HN.out]; exact hlt
          rw [List.take_add_one, List.getElem?_eq_getElem hi2, hr, List.getD_eq_getElem?_getD, List.getElem?_eq_getElem hi2, ← HLe.out]
          exact uniqT_snoc _ _)
        have hrl : r.length < 1000000 := by rw [hr, hlen]; omega
        generalize T.cols t = m at *
        clear hrow hr hlen
        have HB := hide (fun X (hX : Chg [] (wr.alloc (.cells #[.slice bo m bc] 38)) X) => ((Box.new wr #[.slice bo m bc] 38).keep hX List.not_mem_nil).cell 0)
        have hCon := Contains_rows 81 #[.pointer (some ⟨wr.heap.size, 0, none⟩)] (fun s => decide (r = s)) _ L (wr.alloc (.cells #[.slice bo m bc] 38)) (HSee.out.keep ((Chg.refl _ _).alloc _)) (by omega) callOnce
          (fun u s ws _ hw hs => same_row r s wr.heap.size u _ ws (HB.out ws hw) (HRow.out ws (C2.out.trans (((Chg.refl _ _).alloc _).trans hw))).2 hs hrl)
        have HCon := hide hCon
        have C3 : Hid (Chg [] w (wr.alloc (.cells #[.slice bo m bc] 38))) := hide (C2.out.alloc _)
        have HOw3 : Hid ((wr.alloc (.cells #[.slice bo m bc] 38)).ownsRow w.heap.size 38 1 (.slice oo L.length oc) L.length us) := hide (HOw.out.alloc _)
        clear hCon
        cases hp : L.any (fun s => decide (r = s)) with
        | true =>
          rw [hp] at HCon HSn
          rw [if_pos rfl] at HSn
          clear hp
          go_wp2_with fail
          refine HCon.out.mono ?_
          rintro e w3 ⟨rfl, hw3⟩
          have C4 : Hid (Chg [] w w3) := hide (C3.out.trans hw3)
          have HO4 := hide (hw3.row HOw3.out (fun _ _ => List.not_mem_nil))
          clear hw3
          go_wp2
          go_roundw
          case rel => exact ⟨i + 1, by omega, by go_num, hide ⟨by rw [HSn.out]; exact ⟨us, HUs.out.1, HO4.out, HUs.out.2⟩, C4.out⟩⟩
          case measure => simp [intOf]; omega
        | false =>
          rw [hp] at HCon HSn
          rw [if_neg (by decide)] at HSn
          clear hp
          go_wp2_with fail
          refine HCon.out.mono ?_
          rintro e w3 ⟨rfl, hw3⟩
          have C4 : Hid (Chg [] w w3) := hide (C3.out.trans hw3)
          have HO4 := hide (hw3.row HOw3.out (fun _ _ => List.not_mem_nil))
          have fb := HB.out w3 hw3
          simp only [List.getElem?_toArray, List.getElem?_cons_zero] at fb
          have lb : wr.heap.size < w3.heap.size := by have := hw3.size; simp at this; omega
          have hs3 := C4.out.size
          clear hw3
          generalize wr.heap.size = Bx at fb lb
          go_wp2_with (at_builtin; refine wpList_append_own _ rfl _ _ 22 rfl w.heap.size 38 i0 (.slice none 0 0) 1 24 Try.underlying22 hi hz0 hz1 hz2 rfl (by decide) _ _ _ rfl (HO4.out.alloc _) ⟨w3.heap.size, 0, none⟩ 1 1 [.slice bo m bc] rfl rfl (by intro j u hj; rw [add_zero_row, (Box.new w3 _ _).cell j]; simpa using hj) (by intro x hx; rw [List.mem_singleton] at hx; subst hx; rfl) (by unfold maxLen; omega) (by omega) (by simp; omega) ?_; intro v1 w4 hown1 hgrow1 _)
          go_roundw
          case rel => exact ⟨i + 1, by omega, by go_num, hide ⟨by
            rw [HSn.out]
            refine ⟨us ++ [.slice bo m bc], by rw [List.length_append, List.length_append, HUs.out.1]; rfl, by rw [List.length_append]; exact hown1, fun q u hq => ?_⟩
            rcases Nat.lt_or_ge q us.length with h | h
            · rw [List.getElem?_append_left h] at hq
              rw [List.getD_eq_getElem?_getD, List.getElem?_append_left (by have := HUs.out.1; omega), ← List.getD_eq_getElem?_getD]
              exact HUs.out.2 q u hq
            · rw [List.getElem?_append_right h] at hq
              have hq0 : q - us.length = 0 := by
                rcases Nat.eq_zero_or_pos (q - us.length) with h' | h'
                · exact h'
                · rw [List.getElem?_eq_none (by simp; omega)] at hq; cases hq
              rw [hq0] at hq
              simp at hq
              subst hq
              have e : q = L.length := by have := HUs.out.1; omega
              rw [List.getD_eq_getElem?_getD, e, List.getElem?_append_right (Nat.le_refl _)]
              simp only [Nat.sub_self, List.getElem?_cons_zero, Option.getD_some]
              exact (HRow.out w (Chg.refl _ _)).2, chg_grown (C4.out.alloc _) (HO4.out.alloc _) (Nat.le_refl _) hgrow1⟩⟩
          case measure => simp [intOf]; omega
      · have d1 : decide ((i : Int) < (n : Int)) = false := by simpa using hlt
        obtain rfl : i = n := by omega
        obtain ⟨K, hK⟩ : ∃ K, K = L.length := ⟨_, rfl⟩
        have hLt : L = uniqT t := by rw [← HLe.out, HTk.out]
        have hpos := HUp.out
        rw [← hLt, ← hK] at hpos
        rw [← hK] at hlu ⊢
        have HE : Hid (onceN t = wordsN K) := hide (by unfold onceN; rw [← hLt, hK])
        obtain ⟨Q, hQ⟩ : ∃ Q, K = Q + 1 := ⟨K - 1, by omega⟩
        subst hQ
        have HLn := hide (fun ws => Len_any Q ws (by omega))
        clear hLt hK hpos
        have hq : ((Q + 1 : Nat) : Int) - 1 = (Q : Int) := by omega
        have hw : IntKind.i64.wrap (((Q + 1 : Nat) : Int) - 1) = (Q : Int) := by rw [hq]; exact wraps_i64 _ (by omega) (by omega)
        clear hq
        go_wp2_with fail
        refine (HLn.out _).mono ?_
        rintro e w5 ⟨rfl, rfl⟩
        go_wp2
        go_ret2
        exact ⟨by rw [HE.out]; rfl, C2.out⟩
end Go.Proofs.Ytaapamoglgpocaa
