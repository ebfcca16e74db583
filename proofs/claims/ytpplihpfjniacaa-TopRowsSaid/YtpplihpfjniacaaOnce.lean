/- Walk: Once. -/
import Derived.Test.YtpplihpfjniacaaLen3
import Derived.Lib.BitFns
namespace Go.Proofs.Ytpplihpfjniacaa
open Go.RowKit

/-- The rows that differ, the first of each. -/
def uniqT (t : List (List Int)) : List (List Int) := t.foldl (fun acc r => if acc.any (fun s => decide (r = s)) = true then acc else acc ++ [r]) []
theorem uniqT_snoc (t : List (List Int)) (r : List Int) : uniqT (t ++ [r]) = if (uniqT t).any (fun s => decide (r = s)) = true then uniqT t else uniqT t ++ [r] := by
  unfold uniqT
  rw [List.foldl_append]
  rfl
theorem uniqT_len (t : List (List Int)) : ∀ n, n ≤ t.length → (uniqT (t.take n)).length ≤ n
  | 0, _ => by simp [uniqT]
  | n + 1, h => by
    have ih := uniqT_len t n (by omega)
    rw [List.take_add_one, List.getElem?_eq_getElem (by omega)]
    show (uniqT (t.take n ++ [t[n]])).length ≤ n + 1
    rw [uniqT_snoc]
    split
    · omega
    · rw [List.length_append]; simp; omega
theorem uniqT_pos (t : List (List Int)) : ∀ n, 0 < n → n ≤ t.length → 1 ≤ (uniqT (t.take n)).length
  | 0, h, _ => by omega
  | n + 1, _, h => by
    rw [List.take_add_one, List.getElem?_eq_getElem (by omega)]
    show 1 ≤ (uniqT (t.take n ++ [t[n]])).length
    rw [uniqT_snoc]
    by_cases h0 : n = 0
    · subst h0; simp [uniqT]
    · have ih := uniqT_pos t n (by omega) (by omega)
      split
      · exact ih
      · rw [List.length_append]; simp
/-- How many words it takes to name one of d. -/
def wordsN (d : Nat) : Nat := if d ≤ 1 then 0 else if d ≤ 2 then 1 else 2
def onceN (t : List (List Int)) : Nat := wordsN (uniqT t).length
def onceV (t : List (List Int)) : Value := if T.isTab t = true then .tuple #[.int .i64 (onceN t : Int), .int .i64 0] else .tuple #[.int .i64 0, .int .i64 2]

set_option maxHeartbeats 4000000 in
set_option maxRecDepth 100000 in
theorem Len64_any (x : Nat) (w : World) (h : x < 4) : Calls Try.prog 52 #[.int .u64 (x : Int)] w fun e w' => e = .returned (.int .i64 (wordsN (x + 1) : Int)) ∧ w' = w := by
  match x, h with
  | 0, _ =>
    go_enter Try.func52, Try.ntmps52
    go_wp2
    go_ret
    refine ⟨congrArg Ending.returned (congrArg (Value.int IntKind.i64) ?_), rfl⟩
    decide +kernel
  | 1, _ =>
    go_enter Try.func52, Try.ntmps52
    go_wp2
    go_ret
    refine ⟨congrArg Ending.returned (congrArg (Value.int IntKind.i64) ?_), rfl⟩
    decide +kernel
  | 2, _ =>
    go_enter Try.func52, Try.ntmps52
    go_wp2
    go_ret
    refine ⟨congrArg Ending.returned (congrArg (Value.int IntKind.i64) ?_), rfl⟩
    decide +kernel
  | 3, _ =>
    go_enter Try.func52, Try.ntmps52
    go_wp2
    go_ret
    refine ⟨congrArg Ending.returned (congrArg (Value.int IntKind.i64) ?_), rfl⟩
    decide +kernel
set_option maxHeartbeats 4000000 in
set_option maxRecDepth 100000 in
theorem Len_any (x : Nat) (w : World) (h : x < 4) : Calls Try.prog 29 #[.int .u64 (x : Int)] w fun e w' => e = .returned (.int .i64 (wordsN (x + 1) : Int)) ∧ w' = w := by
  go_enter Try.func29, Try.ntmps29
  go_wp2_with (go_at_call 52; refine (Len64_any x _ h).mono ?_; rintro e w' ⟨rfl, rfl⟩)
  go_ret
  exact ⟨rfl, rfl⟩

set_option maxRecDepth 100000 in
set_option maxHeartbeats 1000000 in
theorem Index_rows (F : FuncId) (cp : Array Value) (P : List Int → Bool) (v : Value) (t : List (List Int)) (w : World) (hv : See2 w v t) (hl : t.length ≤ 1000000)
    (hcall : ∀ args W, (callFunc F args).run Try.prog W = .ok (.enter F args) W) (hF : ∀ u r ws, r ∈ t → Chg [] w ws → See ws u r → Calls Try.prog F (#[u] ++ cp) ws (Ret (.bool (P r)) ws)) :
    Calls Try.prog 50 #[v, .func (.func F) #[] cp] w fun e w' => ∃ r : Int, e = .returned (.int .i64 r) ∧ decide (0 ≤ r) = t.any P ∧ Chg [] w w' := by
  obtain ⟨ao, cap, rfl⟩ := hv.shape
  have HV := hide hv
  have HF := hide hF
  clear hv hF
  generalize hn : t.length = n at *
  have HN := hide hn
  clear hn
  go_enter Try.func50, Try.ntmps50
  go_wp2
  go_loopw [8] (fun i wr => ∃ j : Nat, j ≤ n ∧ i = .int .i64 (j : Int) ∧ Hid ((∀ q, q < j → P (t.getD q []) = false) ∧ Chg [] w wr)) (fun i _ => (n - (intOf i).toNat))
  case atStart => exact ⟨0, Nat.zero_le _, rfl, hide ⟨fun q h => by omega, Chg.refl _ _⟩⟩
  case round =>
    obtain ⟨j, hj, rfl, hI⟩ := hrel
    by_cases hlt : j < n
    · have d1 : decide ((j : Int) < (n : Int)) = true := by simpa using hlt
      have nx : t ≠ [] := fun h => by have := HN.out; rw [h] at this; simp at this; omega
      obtain ⟨a, cap', e, _, hc⟩ := HV.out.open nx
      cases e
      obtain ⟨bo, bc, hrow⟩ := hc j (by rw [HN.out]; exact hlt)
      obtain ⟨fx, hs⟩ := hrow wr hI.out.2
      have HMem : Hid (t.getD j [] ∈ t) := hide (T.row_mem (by rw [HN.out]; exact hlt))
      have HC := hide (HF.out _ _ wr HMem.out hI.out.2 hs)
      obtain ⟨x, hxe⟩ : ∃ x, x = t.getD j [] := ⟨_, rfl⟩
      rw [← hxe] at fx HC HMem
      have HXE := hide hxe
      clear nx hc hxe hrow hs
      go_wp2_with fail
      refine HC.out.mono ?_
      rintro e w1 ⟨rfl, hw1⟩
      cases hp : P x with
      | true =>
        have HP := hide hp
        clear hp
        go_wp2
        go_ret
        refine ⟨_, rfl, ?_, hI.out.2.trans hw1⟩
        have : t.any P = true := List.any_eq_true.2 ⟨x, HMem.out, HP.out⟩
        rw [this]
        simp
      | false =>
        have HP := hide hp
        clear hp
        go_wp2
        go_roundw
        case rel => exact ⟨j + 1, by omega, by go_num, hide ⟨fun q hq => by
          rcases (show q < j ∨ q = j by omega) with h | rfl
          · exact hI.out.1 q h
          · rw [← HXE.out]; exact HP.out, hI.out.2.trans hw1⟩⟩
        case measure => simp [intOf]; omega
    · have d1 : decide ((j : Int) < (n : Int)) = false := by simpa using hlt
      go_wp2
      go_ret
      refine ⟨_, rfl, ?_, hI.out.2⟩
      have : t.any P = false := by
        rw [Bool.eq_false_iff]
        intro h
        obtain ⟨x, hx, hp⟩ := List.any_eq_true.1 h
        obtain ⟨q, hq, he⟩ := List.getElem_of_mem hx
        have := hI.out.1 q (by rw [HN.out] at hq; omega)
        rw [List.getD_eq_getElem?_getD, List.getElem?_eq_getElem hq] at this
        simp only [Option.getD_some, he, hp] at this
        cases this
      rw [this]
      decide

set_option maxRecDepth 100000 in
set_option maxHeartbeats 1000000 in
theorem Contains_rows (F : FuncId) (cp : Array Value) (P : List Int → Bool) (v : Value) (t : List (List Int)) (w : World) (hv : See2 w v t) (hl : t.length ≤ 1000000)
    (hcall : ∀ args W, (callFunc F args).run Try.prog W = .ok (.enter F args) W) (hF : ∀ u r ws, r ∈ t → Chg [] w ws → See ws u r → Calls Try.prog F (#[u] ++ cp) ws (Ret (.bool (P r)) ws)) :
    Calls Try.prog 26 #[v, .func (.func F) #[] cp] w (Ret (.bool (t.any P)) w) := by
  have HI := hide (Index_rows F cp P v t w hv hl hcall hF)
  clear hF hv hcall
  go_enter Try.func26, Try.ntmps26
  go_wp2_with fail
  refine HI.out.mono ?_
  rintro e w1 ⟨r, rfl, hr, hc⟩
  have HR := hide hr
  clear hr
  go_wp2
  go_ret
  exact ⟨by rw [← HR.out]; rfl, hc⟩

set_option maxRecDepth 100000 in
set_option maxHeartbeats 1000000 in
theorem same_row (r s : List Int) (B : Nat) (u vr : Value) (w : World) (hB : w.cell? ⟨B, 0, none⟩ = some vr) (hr : See w vr r) (hs : See w u s) (hl : r.length < 1000000) :
    Calls Try.prog 27 #[u, .pointer (some ⟨B, 0, none⟩)] w (Ret (.bool (decide (r = s))) w) := by
  have HE := hide (Equal_any vr u r s w hr hs hl)
  obtain ⟨ao, cap, rfl⟩ := hr.shape
  obtain ⟨bo, cap', rfl⟩ := hs.shape
  clear hr hs
  generalize r.length = n at *
  generalize s.length = m at *
  go_enter Try.func27, Try.ntmps27
  go_wp2_with fail
  refine HE.out.mono ?_
  rintro e w1 ⟨rfl, hw1⟩
  go_wp2
  go_ret
  exact ⟨rfl, hw1⟩
theorem callOnce (args : Array Value) (W : World) : (callFunc 27 args).run Try.prog W = .ok (.enter 27 args) W := by kernel_rfl
/-- A slice of rows that is the call's own; the rows lie where they lay. -/
def RowsA (w0 w : World) (v : Value) (l : List (List Int)) : Prop := ∃ us : List Value, us.length = l.length ∧ w.ownsRow w0.heap.size 23 1 v l.length us ∧ ∀ i u, us[i]? = some u → See w0 u (l.getD i [])
theorem RowsA.see {w0 w : World} {v : Value} {l : List (List Int)} (h : RowsA w0 w v l) (hc : Chg [] w0 w) : See2 w v l := by
  obtain ⟨us, h1, h2, h3⟩ := h
  rcases h2.2 with ⟨rfl, hn⟩ | ⟨g, cap, cur, rfl, hb, hg, hle, hcap, hsz, ht⟩
  · exact ⟨none, 0, by rw [hn], by omega, fun hne => absurd (List.length_eq_zero_iff.1 hn) hne⟩
  · refine ⟨some ⟨g, 0, none⟩, cap, rfl, hle, fun _ => ⟨_, rfl, (Array.getElem?_eq_some_iff.1 hg).1, fun i hi => ?_⟩⟩
    obtain ⟨u, hu⟩ : ∃ u, us[i]? = some u := ⟨_, List.getElem?_eq_getElem (by omega)⟩
    refine ⟨u, ?_, (h3 i u hu).keep hc⟩
    rw [add_zero_row, cell_of_row w g _ cur 23 (0, 0) hg]
    rw [← ht, List.getElem?_take] at hu
    split at hu
    · simpa using hu
    · cases hu
theorem RowsA.nil (w0 : World) : RowsA w0 w0 (.slice none 0 0) [] := ⟨[], rfl, World.ownsRow_nil _ _ _ _, fun i u h => by simp at h⟩
theorem RowsA.keep {w0 w w' : World} {v : Value} {l : List (List Int)} (h : RowsA w0 w v l) (hc : Chg [] w w') : RowsA w0 w' v l := by
  obtain ⟨us, h1, h2, h3⟩ := h
  exact ⟨us, h1, hc.row h2 (fun _ _ => List.not_mem_nil), h3⟩

set_option maxRecDepth 100000 in
set_option maxHeartbeats 2000000 in
theorem Once_any (v : Value) (t : List (List Int)) (w : World) (hv : See2 w v t) (hl : ∀ r ∈ t, r.length ≤ 1000000) (htl : t.length ≤ 1000000) : Calls Try.prog 12 #[v] w (Ret (onceV t) w) := by
  have HVa := hide (valid_any v t w hv hl htl)
  obtain ⟨ao, cap, rfl⟩ := hv.shape
  unfold onceV
  cases ht : T.isTab t with
  | false =>
    rw [ht] at HVa
    rw [if_neg (by decide)]
    clear hv hl htl ht
    generalize t.length = n at *
    go_enter Try.func12, Try.ntmps12
    go_wp2_with fail
    refine HVa.out.mono ?_
    rintro e w1 ⟨rfl, hw1⟩
    go_wp2
    go_ret2
    exact ⟨rfl, hw1⟩
  | true =>
    rw [ht] at HVa
    rw [if_pos rfl]
    obtain ⟨⟨t1, t2, t3, t4⟩, _⟩ := T.isTab_iff.1 ht
    have hne : t ≠ [] := by rintro rfl; simp at t1
    obtain ⟨a, cap', e, _, hcc⟩ := hv.open hne
    cases e
    have HC := hide hcc
    have HT := hide ht
    have HUp := hide (uniqT_pos t t.length (by omega) (Nat.le_refl _))
    have HUl := hide (uniqT_len t)
    rw [List.take_length] at HUp
    have HTk : Hid (t.take t.length = t) := hide (List.take_length)
    obtain ⟨n, hn⟩ : ∃ n, n = t.length := ⟨_, rfl⟩
    have HN := hide hn
    rw [← hn] at t1 t2 HVa HUl HTk ⊢
    obtain ⟨i0, hi, hz0, hz1, hz2⟩ := info_parts infoInts
    have HRl := hide fun i (hi : i < n) => (T.tab_row ht (i := i) (by rw [← hn]; exact hi))
    clear hcc hv hl htl hne ht hn
    go_enter Try.func12, Try.ntmps12
    go_wp2_with fail
    refine HVa.out.mono ?_
    rintro e w1 ⟨rfl, hw1⟩
    have C1 := hide hw1
    clear hw1
    go_wp2
    go_loopw [4, 12] (fun ov iv wr => ∃ (i : Nat), i ≤ n ∧ iv = .int .i64 (i : Int) ∧ Hid (RowsA w wr ov (uniqT (t.take i)) ∧ Chg [] w wr)) (fun _ iv _ => n - (intOf iv).toNat)
    case atStart => exact ⟨0, Nat.zero_le _, rfl, hide ⟨(RowsA.nil w).keep C1.out, C1.out⟩⟩
    case round =>
      obtain ⟨i, hi', rfl, hI⟩ := hrel
      obtain ⟨us, hus, hown, hse⟩ := hI.out.1
      obtain ⟨oo, oc, rfl, hoc⟩ := row_shape hown
      have HOw := hide hown
      have HUs := hide (And.intro hus hse)
      have C2 := hide hI.out.2
      have HSee := hide (hI.out.1.see hI.out.2)
      have hlu := HUl.out i hi'
      clear hus hown hse hI
      generalize hL : uniqT (t.take i) = L at *
      have HLe := hide hL
      clear hL
      by_cases hlt : i < n
      · have d1 : decide ((i : Int) < (n : Int)) = true := by simpa using hlt
        obtain ⟨bo, bc, hrow⟩ := HC.out i (by rw [← HN.out]; exact hlt)
        have hlen := HRl.out i hlt
        rw [hlen] at hrow
        obtain ⟨fr, _⟩ := hrow wr C2.out
        have HRow := hide hrow
        obtain ⟨r, hr⟩ : ∃ r, r = t.getD i [] := ⟨_, rfl⟩
        rw [← hr] at HRow
        have HSn : Hid (uniqT (t.take (i + 1)) = if L.any (fun s => decide (r = s)) = true then L else L ++ [r]) := hide (by
          have hi2 : i < t.length := by rw [← HN.out]; exact hlt
          rw [List.take_add_one, List.getElem?_eq_getElem hi2, hr, List.getD_eq_getElem?_getD, List.getElem?_eq_getElem hi2, ← HLe.out]
          exact uniqT_snoc _ _)
        have hrl : r.length < 1000000 := by rw [hr, hlen]; omega
        generalize T.cols t = m at *
        clear hrow hr hlen
        have HB := hide (fun X (hX : Chg [] (wr.alloc (.cells #[.slice bo m bc] 23)) X) => ((Box.new wr #[.slice bo m bc] 23).keep hX List.not_mem_nil).cell 0)
        have hCon := Contains_rows 27 #[.pointer (some ⟨wr.heap.size, 0, none⟩)] (fun s => decide (r = s)) _ L (wr.alloc (.cells #[.slice bo m bc] 23)) (HSee.out.keep ((Chg.refl _ _).alloc _)) (by omega) callOnce
          (fun u s ws _ hw hs => same_row r s wr.heap.size u _ ws (HB.out ws hw) (HRow.out ws (C2.out.trans (((Chg.refl _ _).alloc _).trans hw))).2 hs hrl)
        have HCon := hide hCon
        have C3 : Hid (Chg [] w (wr.alloc (.cells #[.slice bo m bc] 23))) := hide (C2.out.alloc _)
        have HOw3 : Hid ((wr.alloc (.cells #[.slice bo m bc] 23)).ownsRow w.heap.size 23 1 (.slice oo L.length oc) L.length us) := hide (HOw.out.alloc _)
        clear hCon
        cases hp : L.any (fun s => decide (r = s)) with
        | true =>
          rw [hp] at HCon HSn
          rw [if_pos rfl] at HSn
          clear hp
          go_wp2_with fail
          refine HCon.out.mono ?_
          rintro e w3 ⟨rfl, hw3⟩
          have C4 : Hid (Chg [] w w3) := hide (C3.out.trans hw3)
          have HO4 := hide (hw3.row HOw3.out (fun _ _ => List.not_mem_nil))
          clear hw3
          go_wp2
          go_roundw
          case rel => exact ⟨i + 1, by omega, by go_num, hide ⟨by rw [HSn.out]; exact ⟨us, HUs.out.1, HO4.out, HUs.out.2⟩, C4.out⟩⟩
          case measure => simp [intOf]; omega
        | false =>
          rw [hp] at HCon HSn
          rw [if_neg (by decide)] at HSn
          clear hp
          go_wp2_with fail
          refine HCon.out.mono ?_
          rintro e w3 ⟨rfl, hw3⟩
          have C4 : Hid (Chg [] w w3) := hide (C3.out.trans hw3)
          have HO4 := hide (hw3.row HOw3.out (fun _ _ => List.not_mem_nil))
          have fb := HB.out w3 hw3
          simp only [List.getElem?_toArray, List.getElem?_cons_zero] at fb
          have lb : wr.heap.size < w3.heap.size := by have := hw3.size; simp at this; omega
          have hs3 := C4.out.size
          clear hw3
          generalize wr.heap.size = Bx at fb lb
          go_wp2_with (at_builtin; refine wpList_append_own _ rfl _ _ 35 rfl w.heap.size 23 i0 (.slice none 0 0) 1 24 Try.underlying35 hi hz0 hz1 hz2 rfl (by decide) _ _ _ rfl (HO4.out.alloc _) ⟨w3.heap.size, 0, none⟩ 1 1 [.slice bo m bc] rfl rfl (by intro j u hj; rw [add_zero_row, (Box.new w3 _ _).cell j]; simpa using hj) (by intro x hx; rw [List.mem_singleton] at hx; subst hx; rfl) (by unfold maxLen; omega) (by omega) (by simp; omega) ?_; intro v1 w4 hown1 hgrow1 _)
          go_roundw
          case rel => exact ⟨i + 1, by omega, by go_num, hide ⟨by
            rw [HSn.out]
            refine ⟨us ++ [.slice bo m bc], by rw [List.length_append, List.length_append, HUs.out.1]; rfl, by rw [List.length_append]; exact hown1, fun q u hq => ?_⟩
            rcases Nat.lt_or_ge q us.length with h | h
            · rw [List.getElem?_append_left h] at hq
              rw [List.getD_eq_getElem?_getD, List.getElem?_append_left (by have := HUs.out.1; omega), ← List.getD_eq_getElem?_getD]
              exact HUs.out.2 q u hq
            · rw [List.getElem?_append_right h] at hq
              have hq0 : q - us.length = 0 := by
                rcases Nat.eq_zero_or_pos (q - us.length) with h' | h'
                · exact h'
                · rw [List.getElem?_eq_none (by simp; omega)] at hq; cases hq
              rw [hq0] at hq
              simp at hq
              subst hq
              have e : q = L.length := by have := HUs.out.1; omega
              rw [List.getD_eq_getElem?_getD, e, List.getElem?_append_right (Nat.le_refl _)]
              simp only [Nat.sub_self, List.getElem?_cons_zero, Option.getD_some]
              exact (HRow.out w (Chg.refl _ _)).2, chg_grown (C4.out.alloc _) (HO4.out.alloc _) (Nat.le_refl _) hgrow1⟩⟩
          case measure => simp [intOf]; omega
      · have d1 : decide ((i : Int) < (n : Int)) = false := by simpa using hlt
        obtain rfl : i = n := by omega
        obtain ⟨K, hK⟩ : ∃ K, K = L.length := ⟨_, rfl⟩
        have hLt : L = uniqT t := by rw [← HLe.out, HTk.out]
        have hpos := HUp.out
        rw [← hLt, ← hK] at hpos
        rw [← hK] at hlu ⊢
        have HE : Hid (onceN t = wordsN K) := hide (by unfold onceN; rw [← hLt, hK])
        obtain ⟨Q, hQ⟩ : ∃ Q, K = Q + 1 := ⟨K - 1, by omega⟩
        subst hQ
        have HLn := hide (fun ws => Len_any Q ws (by omega))
        clear hLt hK hpos
        have hq : ((Q + 1 : Nat) : Int) - 1 = (Q : Int) := by omega
        have hw : IntKind.i64.wrap (((Q + 1 : Nat) : Int) - 1) = (Q : Int) := by rw [hq]; exact wraps_i64 _ (by omega) (by omega)
        clear hq
        go_wp2_with fail
        refine (HLn.out _).mono ?_
        rintro e w5 ⟨rfl, rfl⟩
        go_wp2
        go_ret2
        exact ⟨by rw [HE.out]; rfl, C2.out⟩
end Go.Proofs.Ytpplihpfjniacaa

/- Walk: a table turned over. -/
namespace Go.Proofs.Ytpplihpfjniacaa
open Go.RowKit

/-- The columns of a table, up to c; all of them. -/
def setN (f : Nat → Bool) : Nat := (if f 0 = true then 1 else 0) + (if f 1 = true then 2 else 0) + (if f 2 = true then 4 else 0) + (if f 3 = true then 8 else 0)
theorem setN_lt (f : Nat → Bool) : setN f < 16 := by
  unfold setN
  split <;> split <;> split <;> split <;> omega
theorem setN_bit (f : Nat → Bool) {i : Nat} (hi : i < 4) : setN f / 2 ^ i % 2 = 1 ↔ f i = true := by
  unfold setN
  match i, hi with
  | 0, _ => cases f 0 <;> cases f 1 <;> cases f 2 <;> cases f 3 <;> decide
  | 1, _ => cases f 0 <;> cases f 1 <;> cases f 2 <;> cases f 3 <;> decide
  | 2, _ => cases f 0 <;> cases f 1 <;> cases f 2 <;> cases f 3 <;> decide
  | 3, _ => cases f 0 <;> cases f 1 <;> cases f 2 <;> cases f 3 <;> decide
theorem sub_bits' : (List.range 16).all (fun a => (List.range 16).all fun s => !(decide (s ≠ 0) && decide (s ≠ a) && (List.range 4).all fun j => !decide (s / 2 ^ j % 2 = 1) || decide (a / 2 ^ j % 2 = 1)) || decide (s ∈ T.subs a)) = true := by decide +kernel
theorem sub_bits {a s : Nat} (hs : s < 16) (ha : a < 16) (h0 : s ≠ 0) (h1 : s ≠ a) (h : ∀ j, j < 4 → s / 2 ^ j % 2 = 1 → a / 2 ^ j % 2 = 1) : s ∈ T.subs a := by
  have := List.all_eq_true.1 (List.all_eq_true.1 sub_bits' a (List.mem_range.2 ha)) s (List.mem_range.2 hs)
  have hb : ((List.range 4).all fun j => !decide (s / 2 ^ j % 2 = 1) || decide (a / 2 ^ j % 2 = 1)) = true := List.all_eq_true.2 fun j hj => by
    by_cases hx : s / 2 ^ j % 2 = 1
    · simp [hx, h j (List.mem_range.1 hj) hx]
    · simp [hx]
  rw [hb] at this
  simpa [h0, h1] using this
theorem diff_bit' : (List.range 16).all (fun a => (T.subs a).all fun s => (List.range 4).all fun j => !decide ((a - s) / 2 ^ j % 2 = 1) || (decide (a / 2 ^ j % 2 = 1) && decide (s / 2 ^ j % 2 ≠ 1))) = true := by decide +kernel
theorem diff_bit {a s j : Nat} (ha : a < 16) (hs : s ∈ T.subs a) (hj : j < 4) (h : (a - s) / 2 ^ j % 2 = 1) : a / 2 ^ j % 2 = 1 ∧ ¬ (s / 2 ^ j % 2 = 1) := by
  have := List.all_eq_true.1 (List.all_eq_true.1 (List.all_eq_true.1 diff_bit' a (List.mem_range.2 ha)) s hs) j (List.mem_range.2 hj)
  simpa [h] using this
def lineR (t : List (List Int)) (i : Nat) : List Int := t.getD i []
theorem lineR_ent {t : List (List Int)} {i j : Nat} (_ : j < T.cols t) : T.ent t i j = (lineR t i).getD j 0 := rfl
def lineC (t : List (List Int)) (j : Nat) : List Int := t.map (·.getD j 0)
/-- A rectangle that is not empty, within the table. -/
def Within (t : List (List Int)) (r c : Nat) : Prop := r ≠ 0 ∧ c ≠ 0 ∧ r < 2 ^ t.length ∧ c < 2 ^ T.cols t ∧ r < 16 ∧ c < 16
theorem bit_of' : (List.range 4).all (fun n => (List.range 16).all fun a => !(decide (a ≠ 0) && decide (a < 2 ^ (n + 1))) || (List.range (n + 1)).any fun i => decide (a / 2 ^ i % 2 = 1)) = true := by decide +kernel
theorem bit_of {n a : Nat} (hn : 1 ≤ n ∧ n ≤ 4) (h16 : a < 16) (h0 : a ≠ 0) (h : a < 2 ^ n) : ∃ i, i < n ∧ a / 2 ^ i % 2 = 1 := by
  obtain ⟨m, rfl⟩ : ∃ m, n = m + 1 := ⟨n - 1, by omega⟩
  have := List.all_eq_true.1 (List.all_eq_true.1 bit_of' m (List.mem_range.2 (by omega))) a (List.mem_range.2 h16)
  rw [decide_eq_true h0, decide_eq_true h] at this
  simp only [Bool.and_self, Bool.not_true, Bool.false_or, List.any_eq_true, decide_eq_true_eq, List.mem_range] at this
  exact this
theorem Within.some {t : List (List Int)} (ht : T.isTab t = true) {r c : Nat} (h : Within t r c) : ∃ i j, i < t.length ∧ j < T.cols t ∧ T.has r c i j = true := by
  obtain ⟨⟨t1, t2, t3, t4⟩, _⟩ := T.isTab_iff.1 ht
  obtain ⟨h1, h2, h3, h4, h5, h6⟩ := h
  obtain ⟨i, hi, bi⟩ := bit_of ⟨t1, t2⟩ h5 h1 h3
  obtain ⟨j, hj, bj⟩ := bit_of ⟨t3, t4⟩ h6 h2 h4
  exact ⟨i, j, hi, hj, by unfold T.has; rw [decide_eq_true bi, decide_eq_true bj]; rfl⟩
theorem whole_within {t : List (List Int)} (ht : T.isTab t = true) : Within t (2 ^ t.length - 1) (2 ^ T.cols t - 1) := by
  obtain ⟨⟨t1, t2, t3, t4⟩, _⟩ := T.isTab_iff.1 ht
  obtain ⟨p1, p2⟩ := whole_lt t1 t2
  obtain ⟨q1, q2⟩ := whole_lt t3 t4
  have h1 : 0 < 2 ^ t.length := Nat.two_pow_pos _
  have h2 : 0 < 2 ^ T.cols t := Nat.two_pow_pos _
  exact ⟨p2, q2, by omega, by omega, p1, q1⟩
theorem lineC_ent {t : List (List Int)} {i j : Nat} (hi : i < t.length) : T.ent t i j = (lineC t j).getD i 0 := by
  unfold lineC T.ent
  rw [List.getD_eq_getElem?_getD (l := t.map _), List.getElem?_map, List.getD_eq_getElem?_getD (l := t), List.getElem?_eq_getElem hi]
  rfl

theorem has_iff {r c i j : Nat} : T.has r c i j = true ↔ r / 2 ^ i % 2 = 1 ∧ c / 2 ^ j % 2 = 1 := by unfold T.has; simp
/-- The part in which an entry lies is what is said. -/
theorem uni_rows {t : List (List Int)} (ht : T.isTab t = true) {r c : Nat} (hw : Within t r c) (hag : ∀ i i' j, i < t.length → i' < t.length → j < T.cols t → r / 2 ^ i % 2 = 1 → r / 2 ^ i' % 2 = 1 → c / 2 ^ j % 2 = 1 → T.ent t i j = T.ent t i' j) : T.len t r c ≤ 1 := by
  obtain ⟨⟨t1, t2, t3, t4⟩, _⟩ := T.isTab_iff.1 ht
  obtain ⟨w1, w2, w3, w4, w5, w6⟩ := id hw
  cases hcl : T.clear t r c with
  | true => rw [T.len_eq w5 w6, if_pos hcl]; omega
  | false =>
    obtain ⟨i0, hi0, hb0⟩ := bit_of ⟨t1, t2⟩ w5 w1 w3
    have hs16 := setN_lt (fun j => decide (c / 2 ^ j % 2 = 1) && decide (T.ent t i0 j = 1) && decide (j < T.cols t))
    obtain ⟨s, hs⟩ : ∃ s, s = setN (fun j => decide (c / 2 ^ j % 2 = 1) && decide (T.ent t i0 j = 1) && decide (j < T.cols t)) := ⟨_, rfl⟩
    rw [← hs] at hs16
    have hbs : ∀ j, j < 4 → (s / 2 ^ j % 2 = 1 ↔ c / 2 ^ j % 2 = 1 ∧ T.ent t i0 j = 1 ∧ j < T.cols t) := fun j hj => by
      rw [hs, setN_bit _ hj]
      simp [and_assoc]
    have hmono : ∀ k : Int, (∀ j, j < T.cols t → c / 2 ^ j % 2 = 1 → T.ent t i0 j = k) → T.clear t r c = true := fun k hk => (T.clear_iff ht).2 fun a b a' b' ha hb ha' hb' h h' => by
      rw [has_iff] at h h'
      rw [hag a i0 b ha hi0 hb h.1 hb0 h.2, hag a' i0 b' ha' hi0 hb' h'.1 hb0 h'.2, hk b hb h.2, hk b' hb' h'.2]
    have h0 : s ≠ 0 := fun e => by
      rw [hmono 0 (fun j hj hc => by
        have hn : ¬ (s / 2 ^ j % 2 = 1) := by rw [e]; simp
        rw [hbs j (by omega)] at hn
        have hv := T.ent_val ht (i := i0) (j := j)
        have : T.ent t i0 j ≠ 1 := fun he => hn ⟨hc, he, hj⟩
        omega)] at hcl
      cases hcl
    have h1 : s ≠ c := fun e => by
      rw [hmono 1 (fun j hj hc => by
        rw [← e] at hc
        exact ((hbs j (by omega)).1 hc).2.1)] at hcl
      cases hcl
    have hsub : s ∈ T.subs c := sub_bits hs16 w6 h0 h1 (fun j hj h => ((hbs j hj).1 h).1)
    have hle := (T.cost_sub w5 w6 hcl (s := s)).2 hsub
    have hm := T.subs_mem w6 hsub
    have clr : ∀ x, x < 16 → (∀ j, j < T.cols t → x / 2 ^ j % 2 = 1 → c / 2 ^ j % 2 = 1) → (∃ k : Int, ∀ j, j < T.cols t → x / 2 ^ j % 2 = 1 → T.ent t i0 j = k) → T.len t r x = 0 := fun x hx hxc ⟨k, hk⟩ => by
      rw [T.len_eq w5 hx, if_pos]
      refine (T.clear_iff ht).2 fun a b a' b' ha hb ha' hb' h h' => ?_
      rw [has_iff] at h h'
      rw [hag a i0 b ha hi0 hb h.1 hb0 (hxc b hb h.2), hag a' i0 b' ha' hi0 hb' h'.1 hb0 (hxc b' hb' h'.2), hk b hb h.2, hk b' hb' h'.2]
    have e1 := clr s hs16 (fun j hj h => ((hbs j (by omega)).1 h).1) ⟨1, fun j hj h => ((hbs j (by omega)).1 h).2.1⟩
    have e2 := clr (c - s) (by omega) (fun j hj h => (diff_bit w6 hsub (by omega) h).1) ⟨0, fun j hj h => by
      obtain ⟨u1, u2⟩ := diff_bit w6 hsub (show j < 4 by omega) h
      rw [hbs j (by omega)] at u2
      have hv := T.ent_val ht (i := i0) (j := j)
      have : T.ent t i0 j ≠ 1 := fun he => u2 ⟨u1, he, hj⟩
      omega⟩
    unfold T.cost at hle
    rw [if_neg (by decide), e1, e2] at hle
    exact hle

/-- Rows of few kinds: as many words as it takes to name a kind, and one. -/
theorem kinds_rows {t : List (List Int)} (ht : T.isTab t = true) {c : Nat} : ∀ (k : Nat) (L : List (List Int)) (r : Nat), Within t r c → L.length ≤ 2 ^ k → (∀ i, i < t.length → r / 2 ^ i % 2 = 1 → lineR t i ∈ L) → T.len t r c ≤ k + 1
  | 0, L, r, hw, hL, hin => uni_rows ht hw fun i i' j hi hi' hj h h' _ => by
    have e1 := hin i hi h
    have e2 := hin i' hi' h'
    match L, hL, e1, e2 with
    | [], _, e1, _ => cases e1
    | [x], _, e1, e2 =>
      rw [List.mem_singleton] at e1 e2
      rw [lineR_ent hj, lineR_ent hj, e1, e2]
    | _ :: _ :: _, hL, _, _ => simp at hL
  | k + 1, L, r, hw, hL, hin => by
    obtain ⟨⟨t1, t2, t3, t4⟩, _⟩ := T.isTab_iff.1 ht
    obtain ⟨w1, w2, w3, w4, w5, w6⟩ := id hw
    have hp : 2 ^ (k + 1) = 2 * 2 ^ k := by rw [Nat.pow_succ]; omega
    cases hcl : T.clear t r c with
    | true => rw [T.len_eq w5 w6, if_pos hcl]; omega
    | false =>
      have hs16 := setN_lt (fun i => decide (r / 2 ^ i % 2 = 1) && decide (lineR t i ∈ L.take (2 ^ k)) && decide (i < t.length))
      obtain ⟨s, hs⟩ : ∃ s, s = setN (fun i => decide (r / 2 ^ i % 2 = 1) && decide (lineR t i ∈ L.take (2 ^ k)) && decide (i < t.length)) := ⟨_, rfl⟩
      rw [← hs] at hs16
      have hbs : ∀ i, i < 4 → (s / 2 ^ i % 2 = 1 ↔ r / 2 ^ i % 2 = 1 ∧ lineR t i ∈ L.take (2 ^ k) ∧ i < t.length) := fun i hi => by
        rw [hs, setN_bit _ hi]
        simp [and_assoc]
      have hrest : ∀ i, i < t.length → r / 2 ^ i % 2 = 1 → ¬ (s / 2 ^ i % 2 = 1) → lineR t i ∈ L.drop (2 ^ k) := fun i hi h hn => by
        rw [hbs i (by omega)] at hn
        have hm := hin i hi h
        rw [← List.take_append_drop (2 ^ k) L] at hm
        rcases List.mem_append.1 hm with h' | h'
        · exact absurd ⟨h, h', hi⟩ hn
        · exact h'
      by_cases h0 : s = 0
      · have := kinds_rows ht k (L.drop (2 ^ k)) r hw (by rw [List.length_drop]; omega) (fun i hi h => hrest i hi h (by rw [h0]; simp))
        omega
      · by_cases h1 : s = r
        · have := kinds_rows ht k (L.take (2 ^ k)) r hw (by rw [List.length_take]; omega) (fun i hi h => by
            rw [← h1] at h
            exact ((hbs i (by omega)).1 h).2.1)
          omega
        · have hsub : s ∈ T.subs r := sub_bits hs16 w5 h0 h1 (fun j hj h => ((hbs j hj).1 h).1)
          have hle := (T.cost_sub w5 w6 hcl (s := s)).1 hsub
          have hm := T.subs_mem w5 hsub
          have e1 := kinds_rows ht k (L.take (2 ^ k)) s ⟨h0, w2, by omega, w4, hs16, w6⟩ (by rw [List.length_take]; omega) (fun i hi h => ((hbs i (by omega)).1 h).2.1)
          have e2 := kinds_rows ht k (L.drop (2 ^ k)) (r - s) ⟨by omega, w2, by omega, w4, by omega, w6⟩ (by rw [List.length_drop]; omega) (fun i hi h => by
            obtain ⟨u1, u2⟩ := diff_bit w5 hsub (show i < 4 by omega) h
            exact hrest i hi u1 u2)
          unfold T.cost at hle
          rw [if_pos rfl] at hle
          omega


theorem uniqT_mem (t : List (List Int)) : ∀ n, n ≤ t.length → ∀ i, i < n → t.getD i [] ∈ uniqT (t.take n)
  | 0, _, i, h => by omega
  | n + 1, h, i, hi => by
    have e : t.take (n + 1) = t.take n ++ [t.getD n []] := by
      rw [List.take_add_one, List.getElem?_eq_getElem (by omega), List.getD_eq_getElem?_getD, List.getElem?_eq_getElem (by omega)]
      rfl
    rw [e, uniqT_snoc]
    by_cases hin : i = n
    · subst hin
      by_cases ha : (uniqT (t.take i)).any (fun s => decide (t.getD i [] = s)) = true
      · rw [if_pos ha]
        obtain ⟨s, hs, hd⟩ := List.any_eq_true.1 ha
        rw [of_decide_eq_true hd]
        exact hs
      · rw [if_neg ha]
        exact List.mem_append_right _ (List.mem_singleton.2 rfl)
    · have ih := uniqT_mem t n (by omega) i (by omega)
      split
      · exact ih
      · exact List.mem_append_left _ ih
theorem uniqT_all {t : List (List Int)} {i : Nat} (hi : i < t.length) : t.getD i [] ∈ uniqT t := by
  have := uniqT_mem t t.length (Nat.le_refl _) i hi
  rwa [List.take_length] at this
theorem words_pow {d : Nat} (h : d ≤ 4) : d ≤ 2 ^ wordsN d := by
  rcases (show d = 0 ∨ d = 1 ∨ d = 2 ∨ d = 3 ∨ d = 4 by omega) with rfl | rfl | rfl | rfl | rfl <;> decide
theorem len_once {t : List (List Int)} (ht : T.isTab t = true) : lenT t ≤ onceN t + 1 := by
  obtain ⟨⟨t1, t2, t3, t4⟩, _⟩ := T.isTab_iff.1 ht
  have hl := uniqT_len t t.length (Nat.le_refl _)
  rw [List.take_length] at hl
  exact kinds_rows ht _ (uniqT t) _ (whole_within ht) (words_pow (by omega)) (fun i hi _ => uniqT_all hi)
end Go.Proofs.Ytpplihpfjniacaa
