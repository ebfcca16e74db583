/- Walk: Check. -/
import Derived.Test.YtaapamoglgpocaaBack
import Derived.Test.YtaapamoglgpocaaLaw7
import Derived.Test.YtaapamoglgpocaaRound
namespace Go.Proofs.Ytaapamoglgpocaa
open Go.RowKit Go.Shelf
attribute [local go_sem] Oper.semAt_some

def checkV (t : List (List Int)) (ps : List Nd) : Value := if T.isTab t = true then (if isPl ps = true ∧ rightM t ps = true then .tuple #[.int .i64 (depA ps 0 : Int), .bool true, .int .i64 0] else .tuple #[.int .i64 0, .bool false, .int .i64 0]) else .tuple #[.int .i64 0, .bool false, .int .i64 2]

/-- What Check's list of lengths holds when these indices have come. -/
def longOf (ps : List Nd) (pre : List (Ix ps.length)) : Nat → Int :=
  pre.foldl (fun f x => if (ps.getD x.1 nd0).leaf = true then f else fun p => if p = x.1 then IntKind.i64.wrap (1 + imax (f (ps.getD x.1 nd0).no.toNat) (f (ps.getD x.1 nd0).yes.toNat)) else f p) (fun _ => 0)
theorem longOf_snoc (ps : List Nd) (pre : List (Ix ps.length)) (x : Ix ps.length) : longOf ps (pre ++ [x]) = if (ps.getD x.1 nd0).leaf = true then longOf ps pre else fun p => if p = x.1 then IntKind.i64.wrap (1 + imax (longOf ps pre (ps.getD x.1 nd0).no.toNat) (longOf ps pre (ps.getD x.1 nd0).yes.toNat)) else longOf ps pre p := by
  unfold longOf
  rw [List.foldl_append]
  rfl
theorem longOf_down {ps : List Nd} (hp : isPl ps = true) : ∀ (m k : Nat), k + m = ps.length → ∀ pre : List (Ix ps.length), pre.map Subtype.val = downN ps.length k → ∀ p, p < ps.length → longOf ps pre p = depT ps k p
  | 0, k, hk, pre, hpre, p, hpl => by
    obtain rfl : k = ps.length := by omega
    rw [downN_all] at hpre
    obtain rfl : pre = [] := List.map_eq_nil_iff.1 hpre
    exact (if_neg (by omega)).symm
  | m + 1, k, hk, pre, hpre, p, hpl => by
    have hkl : k < ps.length := by omega
    rw [downN_more ps.length k hkl] at hpre
    obtain ⟨pre', l2, rfl, h1, h2⟩ := List.map_eq_append_iff.1 hpre
    obtain ⟨x, l3, rfl, hx, h3⟩ := List.map_eq_cons_iff.1 h2
    obtain rfl : l3 = [] := List.map_eq_nil_iff.1 h3
    have ih := longOf_down hp m (k + 1) (by omega) pre' h1
    obtain ⟨xv, hxl⟩ := x
    obtain rfl : xv = k := hx
    rw [longOf_snoc, depT_more]
    dsimp only
    cases hlf : (ps.getD xv nd0).leaf with
    | true =>
      rw [if_pos rfl, ih p hpl]
      by_cases hpk : p = xv
      · subst hpk
        rw [if_pos rfl, depA_leaf hxl hlf]
        exact if_neg (by omega)
      · rw [if_neg hpk]
    | false =>
      rw [if_neg (by decide)]
      obtain ⟨⟨n1, n2⟩, n3, n4⟩ := node_next hp hxl hlf
      by_cases hpk : p = xv
      · rw [if_pos hpk, if_pos hpk, ih _ n2, ih _ n4, depA_node hp hxl hlf, show depT ps (xv + 1) (ps.getD xv nd0).no.toNat = (depA ps (ps.getD xv nd0).no.toNat : Int) from if_pos (by omega), show depT ps (xv + 1) (ps.getD xv nd0).yes.toNat = (depA ps (ps.getD xv nd0).yes.toNat : Int) from if_pos (by omega), imaxD]
        have b1 := depA_le hp (ps.getD xv nd0).no.toNat
        have b2 := depA_le hp (ps.getD xv nd0).yes.toNat
        rw [show (1 : Int) + ((max (depA ps (ps.getD xv nd0).no.toNat) (depA ps (ps.getD xv nd0).yes.toNat) : Nat) : Int) = ((1 + max (depA ps (ps.getD xv nd0).no.toNat) (depA ps (ps.getD xv nd0).yes.toNat) : Nat) : Int) by omega]
        exact wraps_i64 _ (by omega) (by omega)
      · rw [if_neg hpk, if_neg hpk, ih p hpl]
/-! What a loop over a function leaves alone. -/
theorem Box.own {W W' : World} {A B : Nat} {cs : Array Value} {T : TypeId} {row : Option Nat} (h : Box W A cs T) (hg : W.grownBy W' row) (hr : ∀ r, row = some r → B ≤ r ∧ ∃ o : Obj, W.heap[r]? = some o ∧ o.isCells = false) : Box W' A cs T :=
  (hg.block A h.lt (fun e => by
    obtain ⟨_, o, ho, hc⟩ := hr A e.symm
    rw [show W.heap[A]? = some (.cells cs T (0, 0)) from h] at ho
    cases ho
    cases hc)).trans h
theorem IntTab.own {W W' : World} {A n B : Nat} {f : Nat → Int} {row : Option Nat} (h : IntTab W A n f) (hg : W.grownBy W' row) (hr : ∀ r, row = some r → B ≤ r ∧ ∃ o : Obj, W.heap[r]? = some o ∧ o.isCells = false) : IntTab W' A n f := by
  obtain ⟨c, h, h2⟩ := h
  exact ⟨c, h.own hg hr, h2⟩
theorem Chg.own {S : List Nat} {w0 W W' : World} {B : Nat} {row : Option Nat} (h : Chg S w0 W) (hB : w0.heap.size ≤ B) (hg : W.grownBy W' row) (hr : ∀ r, row = some r → B ≤ r ∧ ∃ o : Obj, W.heap[r]? = some o ∧ o.isCells = false) : Chg S w0 W' :=
  h.grown hg (fun k hk => .inr (by have := (hr k hk).1; omega))
theorem KeepsFrom.ofChg {B : Nat} {S : List Nat} {W W' : World} (h : Chg S W W') (hS : ∀ s ∈ S, s < B ∨ ∀ o, W.heap[s]? = some o → o.isCells = true) : KeepsFrom B W W' :=
  ⟨h.size, fun k o hk ho hc => (h.block k (Array.getElem?_eq_some_iff.1 ho).1 (fun hm => by
    rcases hS k hm with h | h
    · omega
    · rw [h o ho] at hc; cases hc)).trans ho⟩

theorem nodes_at {w : World} {a : Addr} {n cap : Nat} {ps : List Nd} (h : SeeN w (.slice (some a) n cap) ps) (hne : ps ≠ []) : a.block < w.heap.size ∧ NodesAt w a ps := by
  obtain ⟨ao, cap', e, _, hA⟩ := h
  obtain ⟨a', rfl, hb, hx⟩ := hA hne
  cases e
  refine ⟨hb, fun i hi k u hu => ?_⟩
  obtain ⟨m0, m1, m2, m3, m4, m5⟩ := hx i hi
  match k, hu with
  | 0, hu => rw [← hu]; exact m0
  | 1, hu => rw [← hu]; exact m1
  | 2, hu => rw [← hu]; exact m2
  | 3, hu => rw [← hu]; exact m3
  | 4, hu => rw [← hu]; exact m4
  | 5, hu => rw [← hu]; exact m5
  | k + 6, hu => simp [ndCells] at hu

set_option maxRecDepth 100000 in
set_option maxHeartbeats 2000000 in
theorem Check_bad (v u : Value) (t : List (List Int)) (w : World) (hv : See2 w v t) (hl : ∀ r ∈ t, r.length ≤ 1000000) (htl : t.length ≤ 1000000) (ht : T.isTab t = false) :
    Calls Try.prog 36 #[v, u] w (Ret (.tuple #[.int .i64 0, .bool false, .int .i64 2]) w) := by
  have HVa := hide (valid_any v t w hv hl htl)
  rw [ht] at HVa
  obtain ⟨ao, cap, rfl⟩ := hv.shape
  clear hv hl htl ht
  generalize t.length = n at *
  go_enter Try.func36, Try.ntmps36
  go_wp2_with fail
  refine HVa.out.mono ?_
  rintro e w1 ⟨rfl, hw1⟩
  go_wp2
  go_ret3
  exact ⟨rfl, hw1⟩

set_option maxRecDepth 100000 in
set_option maxHeartbeats 2000000 in
theorem Check_noplan (v u : Value) (t : List (List Int)) (ps : List Nd) (w : World) (hv : See2 w v t) (hl : ∀ r ∈ t, r.length ≤ 1000000) (htl : t.length ≤ 1000000) (hu : SeeN w u ps) (hpl : ps.length ≤ 1000000) (ht : T.isTab t = true) (hp : isPl ps = false) :
    Calls Try.prog 36 #[v, u] w (Ret (.tuple #[.int .i64 0, .bool false, .int .i64 0]) w) := by
  have HVa := hide (valid_any v t w hv hl htl)
  rw [ht] at HVa
  have HIp := hide fun ws (hw : Chg [] w ws) => isPlan_any u ps ws (hu.keep hw) hpl
  rw [hp] at HIp
  obtain ⟨ao, cap, rfl⟩ := hv.shape
  clear hv hl htl ht hu hpl hp
  generalize t.length = n at *
  go_enter Try.func36, Try.ntmps36
  go_wp2_with fail
  refine HVa.out.mono ?_
  rintro e w1 ⟨rfl, hw1⟩
  go_wp2_with fail
  refine (HIp.out _ hw1).mono ?_
  rintro e w2 ⟨rfl, hw2⟩
  go_wp2
  go_ret3
  exact ⟨rfl, hw1.trans hw2⟩

set_option maxRecDepth 100000 in
set_option maxHeartbeats 4000000 in
theorem Check_wrong (v u : Value) (t : List (List Int)) (ps : List Nd) (w : World) (hv : See2 w v t) (hl : ∀ r ∈ t, r.length ≤ 1000000) (htl : t.length ≤ 1000000) (hu : SeeN w u ps) (hpl : ps.length ≤ 1000000) (ht : T.isTab t = true) (hp : isPl ps = true) (hr : rightM t ps = false) :
    Calls Try.prog 36 #[v, u] w (Ret (.tuple #[.int .i64 0, .bool false, .int .i64 0]) w) := by
  obtain ⟨⟨t1, t2, t3, t4⟩, _⟩ := T.isTab_iff.1 ht
  have HVa := hide (valid_any v t w hv hl htl)
  rw [ht] at HVa
  have HIp := hide fun ws (hw : Chg [] w ws) => isPlan_any u ps ws (hu.keep hw) hpl
  rw [hp] at HIp
  have hne : t ≠ [] := by rintro rfl; simp at t1
  obtain ⟨a, cap, rfl, _, hcc⟩ := hv.open hne
  have HC := hide hcc
  have HT := hide ht
  have HP := hide hp
  have HU := hide hu
  obtain ⟨n, hn⟩ : ∃ n, n = t.length := ⟨_, rfl⟩
  have HN := hide hn
  rw [← hn] at t1 t2 HVa ⊢
  obtain ⟨m, hm⟩ : ∃ m, m = T.cols t := ⟨_, rfl⟩
  have HM := hide hm
  rw [← hm] at t3 t4
  have HRn := hide fun ws (hw : Chg [] w ws) (i j : Nat) (hi : i < 4) (hj : j < 4) => run_any u ps i j ws (hu.keep hw) hp hi hj
  have HPos := hide fun i j => runM_pos hp i j
  have HIf := hide (rightM_iff (t := t) (ps := ps))
  rw [← hn, ← hm] at HIf
  have HR := hide hr
  clear hcc hv hu hne ht hp hn hm hl htl hpl hr HU HP
  go_enter Try.func36, Try.ntmps36
  go_wp2_with fail
  refine HVa.out.mono ?_
  rintro e w1 ⟨rfl, hw1⟩
  go_wp2_with fail
  refine (HIp.out _ hw1).mono ?_
  rintro e w2 ⟨rfl, hw2⟩
  have C2 : Hid (Chg [] w w2) := hide (hw1.trans hw2)
  clear hw1 hw2
  go_wp2
  go_loopw [23] (fun iv wr => ∃ (i : Nat), i ≤ n ∧ iv = .int .i64 (i : Int) ∧ Hid ((∀ a q, a < n → q < m → T.met i 0 a q → lastM ps a q = T.ent t a q) ∧ Chg [] w wr)) (fun iv _ => n - (intOf iv).toNat)
  case atStart => exact ⟨0, Nat.zero_le _, rfl, hide ⟨fun a q _ _ h => by unfold T.met at h; omega, C2.out⟩⟩
  case round =>
    obtain ⟨i, hi, rfl, hI⟩ := hrel
    by_cases hlt : i < n
    · have d1 : decide ((i : Int) < (n : Int)) = true := by simpa using hlt
      obtain ⟨bo, bc, hrow⟩ := HC.out i (by rw [← HN.out]; exact hlt)
      have hlen : (t.getD i []).length = m := by rw [HM.out]; exact T.tab_row HT.out (by rw [← HN.out]; exact hlt)
      obtain ⟨fr, hs⟩ := hrow wr hI.out.2
      rw [hlen] at fr hs
      have HLen := hide hlen
      have HRow := hide hrow
      rw [hlen] at HRow
      clear hrow hs hlen
      go_wp2
      go_loopw [30] (fun jv wq => ∃ (j : Nat), j ≤ m ∧ jv = .int .i64 (j : Int) ∧ Hid ((∀ a q, a < n → q < m → T.met i j a q → lastM ps a q = T.ent t a q) ∧ Chg [] w wq)) (fun jv _ => m - (intOf jv).toNat)
      case atStart => exact ⟨0, Nat.zero_le _, rfl, hide ⟨hI.out.1, hI.out.2⟩⟩
      case round =>
        obtain ⟨j, hj, rfl, hJ⟩ := hrel
        by_cases hlj : j < m
        · have d2 : decide ((j : Int) < (m : Int)) = true := by simpa using hlj
          obtain ⟨_, hs⟩ := HRow.out wr hJ.out.2
          have hrn : t.getD i [] ≠ [] := by intro h; have := HLen.out; rw [h] at this; simp at this; omega
          obtain ⟨a2, cap2, e2, hx⟩ := hs.open hrn
          rw [HLen.out] at e2
          cases e2
          have fx0 := hx wr (Chg.refl _ _) j (by rw [HLen.out]; exact hlj)
          obtain ⟨z, hz⟩ : ∃ z, z = T.ent t i j := ⟨_, rfl⟩
          have fx : wr.cell? (a2.add j) = some (.int .i64 z) := by rw [hz]; exact fx0
          clear fx0
          have HZ := hide hz
          have HCall := hide (HRn.out wr hJ.out.2 i j (by omega) (by omega))
          obtain ⟨p1, p2⟩ := HPos.out i j
          clear hs hrn hx hz
          go_wp2_with fail
          refine HCall.out.mono ?_
          rintro e w3 ⟨v3, rfl, hI3, hw3⟩
          obtain ⟨g, cap3, rfl, hg, fl⟩ := ints_last hI3 p1
          have C3 : Hid (Chg [] w w3) := hide (hJ.out.2.trans hw3)
          obtain ⟨y, hy⟩ : ∃ y, y = lastM ps i j := ⟨_, rfl⟩
          have fl : w3.cell? ⟨g, (runM ps i j).length - 1, none⟩ = some (.int .i64 y) := by rw [hy]; exact fl
          have HY := hide hy
          obtain ⟨K, hK⟩ : ∃ K, (runM ps i j).length = K + 1 := ⟨(runM ps i j).length - 1, by omega⟩
          rw [hK] at fl p1 p2 ⊢
          rw [Nat.add_sub_cancel] at fl
          have hK1 : ((K + 1 : Nat) : Int) - 1 = (K : Int) := by omega
          have hw : IntKind.i64.wrap (((K + 1 : Nat) : Int) - 1) = (K : Int) := by rw [hK1]; exact wraps_i64 _ (by omega) (by omega)
          have i1 : (0 : Int) ≤ (K : Int) := by omega
          have i2 : (K : Int) < ((K + 1 : Nat) : Int) := by omega
          clear hw3 hI3 hy hK hK1
          by_cases hyz : y = z
          · have d4 : (y != z) = false := by simp [hyz]
            have HE := hide hyz
            clear hyz
            go_wp2
            go_roundw
            case rel => exact ⟨j + 1, by omega, by go_num, hide ⟨fun a q ha hq hm => by
              by_cases he : a = i ∧ q = j
              · obtain ⟨rfl, rfl⟩ := he
                rw [← HY.out, ← HZ.out]; exact HE.out
              · exact hJ.out.1 a q ha hq (by unfold T.met at hm ⊢; omega), C3.out⟩⟩
            case measure => simp [intOf]; omega
          · have d4 : (y != z) = true := by simpa using hyz
            clear hyz
            go_wp2
            go_ret3
            exact ⟨rfl, C3.out⟩
        · have d2 : decide ((j : Int) < (m : Int)) = false := by simpa using hlj
          obtain rfl : j = m := by omega
          go_wp2
          go_roundw
          case rel => exact ⟨i + 1, by omega, by go_num, hide ⟨fun a q ha hq hm => hJ.out.1 a q ha hq (by unfold T.met at hm ⊢; omega), hJ.out.2⟩⟩
          case measure => simp [intOf]; omega
    · have d1 : decide ((i : Int) < (n : Int)) = false := by simpa using hlt
      obtain rfl : i = n := by omega
      exact absurd (HIf.out.2 (fun a q ha hq => hI.out.1 a q ha hq (by unfold T.met; omega))) (by rw [HR.out]; decide)


set_option maxRecDepth 100000 in
set_option maxHeartbeats 4000000 in
theorem Check_right (v u : Value) (t : List (List Int)) (ps : List Nd) (w : World) (hv : See2 w v t) (hl : ∀ r ∈ t, r.length ≤ 1000000) (htl : t.length ≤ 1000000) (hu : SeeN w u ps) (hpl : ps.length ≤ 1000000) (ht : T.isTab t = true) (hp : isPl ps = true) (hr : rightM t ps = true) :
    Calls Try.prog 36 #[v, u] w (Ret (.tuple #[.int .i64 (depA ps 0 : Int), .bool true, .int .i64 0]) w) := by
  obtain ⟨⟨t1, t2, t3, t4⟩, _⟩ := T.isTab_iff.1 ht
  have HVa := hide (valid_any v t w hv hl htl)
  rw [ht] at HVa
  have HIp := hide fun ws (hw : Chg [] w ws) => isPlan_any u ps ws (hu.keep hw) hpl
  rw [hp] at HIp
  have hne : t ≠ [] := by rintro rfl; simp at t1
  obtain ⟨a, cap, rfl, _, hcc⟩ := hv.open hne
  have HC := hide hcc
  have HT := hide ht
  have HP := hide hp
  have HU := hide hu
  obtain ⟨n, hn⟩ : ∃ n, n = t.length := ⟨_, rfl⟩
  have HN := hide hn
  rw [← hn] at t1 t2 HVa ⊢
  obtain ⟨m, hm⟩ : ∃ m, m = T.cols t := ⟨_, rfl⟩
  have HM := hide hm
  rw [← hm] at t3 t4
  have HRn := hide fun ws (hw : Chg [] w ws) (i j : Nat) (hi : i < 4) (hj : j < 4) => run_any u ps i j ws (hu.keep hw) hp hi hj
  have HPos := hide fun i j => runM_pos hp i j
  have HIf := hide (rightM_iff (t := t) (ps := ps))
  rw [← hn, ← hm] at HIf
  have HR := hide hr
  obtain ⟨hl1, hl100, _⟩ := isPl_iff.1 hp
  have hnp : ps ≠ [] := by rintro rfl; simp at hl1
  obtain ⟨au, ucap, rfl, _⟩ := hu.open hnp
  have HNd := hide (nodes_at hu hnp)
  obtain ⟨L, hL⟩ : ∃ L, L = ps.length := ⟨_, rfl⟩
  have HL := hide hL
  rw [← hL] at hl1 hl100 HIp HU HRn ⊢
  clear hcc hv hu hne ht hp hn hm hl htl hpl hr HU hL hnp
  obtain ⟨i0, hi, hz0, hz1, hz2⟩ := info_parts infoInt
  refine callsIn_wide.1 (callsIn_of_wp_marks (F := Fence.wide) (n := 3) Try.func36 rfl trivial ?_ rfl)
  refine wpIn_wide.2 ?_
  simp only [Try.ntmps36, List.size_toArray, List.length_cons, List.length_nil, Nat.reduceAdd, Nat.reduceSub, Array.replicate_succ, Array.replicate_zero, List.push_toArray, List.append_toArray, List.nil_append, List.cons_append]
  go_wp2_with fail
  refine HVa.out.mono ?_
  rintro e w1 ⟨rfl, hw1⟩
  go_wp2_with fail
  refine (HIp.out _ hw1).mono ?_
  rintro e w2 ⟨rfl, hw2⟩
  have C2 : Hid (Chg [] w w2) := hide (hw1.trans hw2)
  clear hw1 hw2
  go_wp2
  go_loopw [23] (fun iv wr => ∃ (i : Nat), i ≤ n ∧ iv = .int .i64 (i : Int) ∧ Hid ((∀ a q, a < n → q < m → T.met i 0 a q → lastM ps a q = T.ent t a q) ∧ Chg [] w wr)) (fun iv _ => n - (intOf iv).toNat)
  case atStart => exact ⟨0, Nat.zero_le _, rfl, hide ⟨fun a q _ _ h => by unfold T.met at h; omega, C2.out⟩⟩
  case round =>
    obtain ⟨i, hi, rfl, hI⟩ := hrel
    by_cases hlt : i < n
    · have d1 : decide ((i : Int) < (n : Int)) = true := by simpa using hlt
      obtain ⟨bo, bc, hrow⟩ := HC.out i (by rw [← HN.out]; exact hlt)
      have hlen : (t.getD i []).length = m := by rw [HM.out]; exact T.tab_row HT.out (by rw [← HN.out]; exact hlt)
      obtain ⟨fr, hs⟩ := hrow wr hI.out.2
      rw [hlen] at fr hs
      have HLen := hide hlen
      have HRow := hide hrow
      rw [hlen] at HRow
      clear hrow hs hlen
      go_wp2
      go_loopw [30] (fun jv wq => ∃ (j : Nat), j ≤ m ∧ jv = .int .i64 (j : Int) ∧ Hid ((∀ a q, a < n → q < m → T.met i j a q → lastM ps a q = T.ent t a q) ∧ Chg [] w wq)) (fun jv _ => m - (intOf jv).toNat)
      case atStart => exact ⟨0, Nat.zero_le _, rfl, hide ⟨hI.out.1, hI.out.2⟩⟩
      case round =>
        obtain ⟨j, hj, rfl, hJ⟩ := hrel
        by_cases hlj : j < m
        · have d2 : decide ((j : Int) < (m : Int)) = true := by simpa using hlj
          obtain ⟨_, hs⟩ := HRow.out wr hJ.out.2
          have hrn : t.getD i [] ≠ [] := by intro h; have := HLen.out; rw [h] at this; simp at this; omega
          obtain ⟨a2, cap2, e2, hx⟩ := hs.open hrn
          rw [HLen.out] at e2
          cases e2
          have fx0 := hx wr (Chg.refl _ _) j (by rw [HLen.out]; exact hlj)
          obtain ⟨z, hz⟩ : ∃ z, z = T.ent t i j := ⟨_, rfl⟩
          have fx : wr.cell? (a2.add j) = some (.int .i64 z) := by rw [hz]; exact fx0
          clear fx0
          have HZ := hide hz
          have HCall := hide (HRn.out wr hJ.out.2 i j (by omega) (by omega))
          obtain ⟨p1, p2⟩ := HPos.out i j
          clear hs hrn hx hz
          go_wp2_with fail
          refine HCall.out.mono ?_
          rintro e w3 ⟨v3, rfl, hI3, hw3⟩
          obtain ⟨g, cap3, rfl, hg, fl⟩ := ints_last hI3 p1
          have C3 : Hid (Chg [] w w3) := hide (hJ.out.2.trans hw3)
          obtain ⟨y, hy⟩ : ∃ y, y = lastM ps i j := ⟨_, rfl⟩
          have fl : w3.cell? ⟨g, (runM ps i j).length - 1, none⟩ = some (.int .i64 y) := by rw [hy]; exact fl
          have HY := hide hy
          obtain ⟨K, hK⟩ : ∃ K, (runM ps i j).length = K + 1 := ⟨(runM ps i j).length - 1, by omega⟩
          rw [hK] at fl p1 p2 ⊢
          rw [Nat.add_sub_cancel] at fl
          have hK1 : ((K + 1 : Nat) : Int) - 1 = (K : Int) := by omega
          have hw : IntKind.i64.wrap (((K + 1 : Nat) : Int) - 1) = (K : Int) := by rw [hK1]; exact wraps_i64 _ (by omega) (by omega)
          have i1 : (0 : Int) ≤ (K : Int) := by omega
          have i2 : (K : Int) < ((K + 1 : Nat) : Int) := by omega
          clear hw3 hI3 hy hK hK1
          by_cases hyz : y = z
          · have d4 : (y != z) = false := by simp [hyz]
            have HE := hide hyz
            clear hyz
            go_wp2
            go_roundw
            case rel => exact ⟨j + 1, by omega, by go_num, hide ⟨fun a q ha hq hm => by
              by_cases he : a = i ∧ q = j
              · obtain ⟨rfl, rfl⟩ := he
                rw [← HY.out, ← HZ.out]; exact HE.out
              · exact hJ.out.1 a q ha hq (by unfold T.met at hm ⊢; omega), C3.out⟩⟩
            case measure => simp [intOf]; omega
          · exact absurd (HIf.out.1 HR.out i j hlt hlj) (by rw [← HY.out, ← HZ.out]; exact hyz)
        · have d2 : decide ((j : Int) < (m : Int)) = false := by simpa using hlj
          obtain rfl : j = m := by omega
          go_wp2
          go_roundw
          case rel => exact ⟨i + 1, by omega, by go_num, hide ⟨fun a q ha hq hm => hJ.out.1 a q ha hq (by unfold T.met at hm ⊢; omega), hJ.out.2⟩⟩
          case measure => simp [intOf]; omega
    · have d1 : decide ((i : Int) < (n : Int)) = false := by simpa using hlt
      obtain rfl : i = n := by omega
      have C3 : Hid (Chg [] w wr) := hide hI.out.2
      clear hI hi
      go_wp2_with (at_make; refine wpList_make_full _ rfl _ _ 38 rfl 0 3 i0 (.int .i64 0) 1 Try.underlying38 hi hz0 hz1 _ _ _ _ L rfl rfl rfl rfl (by rw [hz2]; omega) (by unfold maxLen; omega) (Nat.zero_le _) ?_; intro w5 hown hgrow)
      have T5 := hide (IntTab.made (by simpa using hown))
      have C5 : Hid (Chg [] w w5) := hide (C3.out.grown hgrow (fun k hk => by cases hk))
      have hA : Hid (w.heap.size ≤ wr.heap.size) := hide C3.out.size
      have hA5 : Hid (wr.heap.size < w5.heap.size) := hide T5.out.lt
      clear hown hgrow hi hz0 hz1 hz2 C3
      generalize wr.heap.size = A at T5 hA hA5 ⊢
      refine (Backward_any _ _ _ _).mono ?_
      rintro e w6 ⟨rfl, rfl⟩
      have bl := Box.new w5 #[.slice (some ⟨A, 0, none⟩) L L] 38
      generalize hW6 : w5.alloc (.cells #[.slice (some ⟨A, 0, none⟩) L L] 38) = w6 at bl ⊢
      have s6 : w6.heap.size = w5.heap.size + 1 := by rw [← hW6]; simp
      have C56 : Chg [] w5 w6 := by rw [← hW6]; exact (Chg.refl _ _).alloc _
      have bb := Box.new w6 #[.slice (some au) L ucap] 23
      have C67 := (Chg.refl [] w6).alloc (.cells #[.slice (some au) L ucap] 23)
      have s7 : (w6.alloc (.cells #[.slice (some au) L ucap] 23)).heap.size = w6.heap.size + 1 := by simp
      generalize w6.alloc (.cells #[.slice (some au) L ucap] 23) = w7 at bb C67 s7 ⊢
      have C7 : Hid (Chg [] w w7) := hide (C5.out.trans (C56.trans C67))
      have T7 := hide (T5.out.keep (C56.trans C67) List.not_mem_nil)
      have BL := hide (bl.keep C67 List.not_mem_nil)
      have BB := hide bb
      obtain ⟨Bl, hBl⟩ : ∃ x, x = w5.heap.size := ⟨_, rfl⟩
      obtain ⟨Bb, hBb⟩ : ∃ x, x = w6.heap.size := ⟨_, rfl⟩
      rw [← hBl] at BL ⊢
      rw [← hBb] at BB ⊢
      have hN : Hid (au.block < w.heap.size ∧ w.heap.size ≤ A ∧ A < Bl ∧ Bl < Bb ∧ Bb < w7.heap.size) := hide ⟨HNd.out.1, hA.out, by rw [hBl]; exact hA5.out, by omega, by omega⟩
      clear bl bb C56 C67 T5 s6 s7 hBl hBb hW6 C5 hA hA5
      go_wp2
      refine (wpIn_wide (n := 3)).1 ?_
      have hnd7 : NodesAt w7 au ps := fun i hi k u hu => (C7.out.cellA (by rw [add_block]; exact hN.out.1) List.not_mem_nil).trans (HNd.out.2 i hi k u hu)
      have hcb := BB.out.cell 0
      simp only [List.getElem?_toArray, List.getElem?_cons_zero] at hcb
      rw [HL.out] at hcb
      have hLe : w.heap.size ≤ w7.heap.size := C7.out.size
      refine wpIn_rangeFunc_ownH rfl (by decide) (gf := 106) (lb := #[.pointer (some ⟨Bb, 0, none⟩)]) rfl trivial (enters_of Try.func106 (by kernel_rfl) rfl)
        (back_stops Fence.wide (3 - 1) trivial rfl (by decide) Bb w7.heap.size ucap au [A] ps (by rw [← HL.out]; omega) w7 (by have := hN.out; simp; omega) (by have := hN.out; simp; omega) (Nat.le_refl _) hcb hnd7) (fun h k => h.trans k) (fun W l o o' hl h _ _ => KP.put W l o o' hl h) (Below.refl _ _) (fun _ => rfl)
        (fun pre W => ((IntTab W A L (longOf ps pre) ∧ Box W Bl #[.slice (some ⟨A, 0, none⟩) L L] 38) ∧ Chg [] w W) ∧ w7.heap.size ≤ W.heap.size) (fun _ _ _ => False)
        (fun s W W' row hs hg hr => ⟨⟨⟨hs.1.1.1.own hg hr, hs.1.1.2.own hg hr⟩, hs.1.2.own hLe hg hr⟩, Nat.le_trans hs.2 hg.size⟩) (fun _ _ _ _ _ hs _ _ => hs) ⟨⟨⟨T7.out, BL.out⟩, C7.out⟩, Nat.le_refl _⟩
        (fun x a' W => ∃ Bx, (Bb < Bx ∧ w7.heap.size ≤ Bx) ∧ Box W Bx (ndCells (ps.getD x.1 nd0)) 54 ∧ a' = { tmps := #[.slice (some a) i cap, .slice (some au) L ucap, undef, undef, u4, u5, u6, u7, u8, u9, u10, u11, .pointer (some ⟨Bl, 0, none⟩), .int .i64 (x.1 : Int), .pointer (some ⟨Bx, 0, none⟩), .slice (some a) i cap, .bool true, .bool false, .slice (some au) L ucap, .bool true, .bool false, .slice (some a) i cap, .int .i64 (i : Int), .int .i64 (i : Int), .bool false, u25, u26, u27, u28, u29, u30, u31, u32, u33, u34, u35, u36, u37, u38, u39, u40, u41, u42, u43, u44, u45, u46, u47, u48, .slice (some au) L ucap, .int .i64 (L : Int), .slice (some ⟨A, 0, none⟩) L L, .slice (some au) L ucap, .func (.func 106) #[] #[.pointer (some ⟨Bb, 0, none⟩)], .int .i64 (x.1 : Int), .agg (ndCells (ps.getD x.1 nd0)), undef, undef, undef, undef, undef, undef, undef, undef, undef, undef, undef, undef, undef, undef, undef, undef, undef, undef, undef, undef, undef], defers := [] })
        (fun x a' s W W' row ⟨Bx, h1, h2, e⟩ hg hr => ⟨Bx, h1, h2.own hg hr, e⟩) ?assign ?body ?done ?stop
      case assign =>
        intro l pre x W K hI hK
        unfold encN
        generalize hy : ps.getD x.1 nd0 = y at hK ⊢
        unfold ndCells at hK ⊢
        obtain ⟨⟨⟨hT, hBl⟩, hc⟩, hs7⟩ := hI
        have hsz := hc.size
        gi_wp2
        exact hK _ _ ((KeepsOthers.alloc _ _).from _) (KP.ofChg ((Chg.refl _ _).alloc _) hs7) ⟨⟨⟨hT.keep ((Chg.refl [] W).alloc _) List.not_mem_nil, hBl.old _⟩, hc.alloc _⟩, by simp; omega⟩ ⟨W.heap.size, ⟨by have := hN.out; omega, hs7⟩, Box.new _ _ _, rfl⟩
      case body =>
        rintro l pre x a' W hl ⟨r, hr⟩ ⟨⟨⟨hT, hBl⟩, hc⟩, hs7⟩ ⟨Bx, hBx, bx, rfl⟩ hlt
        have hxl := x.2
        generalize hy : ps.getD x.1 nd0 = y at bx
        have HY := hide hy
        have c0 := bx.cell 0
        have c1 := bx.cell 1
        have c2 := bx.cell 2
        have c3 := bx.cell 3
        have c4 := bx.cell 4
        have c5 := bx.cell 5
        have lb := bx.lt
        unfold ndCells at c0 c1 c2 c3 c4 c5
        simp only [List.getElem?_toArray, List.getElem?_cons_zero, List.getElem?_cons_succ] at c0 c1 c2 c3 c4 c5
        have l0 := hBl.cell 0
        have ll := hBl.lt
        simp only [List.getElem?_toArray, List.getElem?_cons_zero] at l0
        have HSn := hide (longOf_snoc ps pre x)
        rw [hy] at HSn
        have HI := hide (And.intro hT (And.intro hBl hc))
        have lA := hT.lt
        obtain ⟨lf, hlf⟩ : ∃ b, b = y.leaf := ⟨_, rfl⟩
        rw [← hlf] at c0 HSn
        cases lf with
        | true =>
          rw [if_pos rfl] at HSn
          clear hT hBl hc hlf hy bx
          gi_wp2
          exact ⟨KeepsFrom.refl _ _, KP.refl _ _ _, ⟨⟨⟨by rw [HSn.out]; exact HI.out.1, HI.out.2.1⟩, HI.out.2.2⟩, hs7⟩⟩
        | false =>
          have hlf' : (ps.getD x.1 nd0).leaf = false := by rw [hy]; exact hlf.symm
          obtain ⟨⟨n1, n2⟩, n3, n4⟩ := node_next HP.out hxl hlf'
          have ok := (ndOk_node hlf').1 ((isPl_iff.1 HP.out).2.2 x.1 hxl)
          rw [hy] at n1 n2 n3 n4 ok
          rw [← HL.out] at n2 n4
          obtain ⟨p, hp⟩ := Int.eq_ofNat_of_zero_le (show 0 ≤ y.no by omega)
          obtain ⟨q, hq⟩ := Int.eq_ofNat_of_zero_le (show 0 ≤ y.yes by omega)
          rw [if_neg (by decide), hp, hq] at HSn
          rw [hp] at c4 n1 n2
          rw [hq] at c5 n3 n4
          simp only [Int.toNat_natCast] at n1 n2 n3 n4 HSn
          obtain ⟨V, hV⟩ : ∃ V, IntKind.i64.wrap (1 + imax (longOf ps pre p) (longOf ps pre q)) = V := ⟨_, rfl⟩
          rw [hV] at HSn
          have d1 := hT.cell n2
          have d2 := hT.cell n4
          have fz := hT.free x.1
          have xL : x.1 < L := by have := HL.out; omega
          have d3 := hT.cell xL
          have p0 : (0 : Int) ≤ (p : Int) := by omega
          have p1 : (p : Int) < (L : Int) := by omega
          have q0 : (0 : Int) ≤ (q : Int) := by omega
          have q1 : (q : Int) < (L : Int) := by omega
          have x0 : (0 : Int) ≤ (x.1 : Int) := by omega
          have x1 : (x.1 : Int) < (L : Int) := by omega
          have kmax := fun w ts t x y => @run_max_2 Try.prog w ts t x y
          clear hT hBl hc hlf hy bx hlf' ok hp hq n1 n3
          gi_wp2
          refine region_round_still 15 (by kernel_rfl) (by kernel_rfl) (by kernel_rfl) ?_
          simp only [List.take_succ_cons, List.take_zero, List.drop_succ_cons, List.drop_zero]
          repeat still_step
          try refine wpStill_nil ?_
          have CD := (Chg.refl [] W).drew
          have KD : KeepsFrom w7.heap.size W W.drew := KeepsFrom.ofChg CD (fun s h => by cases h)
          have T6 := hide (HI.out.1.keep CD List.not_mem_nil)
          have B6 := hide (HI.out.2.1.keep CD List.not_mem_nil)
          have C6 := hide (HI.out.2.2.trans CD)
          have CD := hide CD
          have s6 : w7.heap.size ≤ W.drew.heap.size := hs7
          clear d1 d2 d3 fz c0 c1 c2 c3 c4 c5 l0 ll lb lA
          generalize W.drew = W2 at T6 B6 C6 CD KD s6 ⊢
          clear hV
          have lt0 := T6.out.lt
          have fz := T6.out.free x.1
          have ck := T6.out.cell xL
          go_wp2
          have CS := Chg.set W2 ⟨A, x.1, none⟩ (.int .i64 V)
          have hAlt : A < w7.heap.size := by have := hN.out; omega
          refine ⟨KD.trans (KeepsFrom.ofChg CS (fun s h => by rw [List.mem_singleton] at h; have h : s = A := h; exact .inl (by omega))), (KP.ofChg (CD.out.toAny.trans CS) hs7), ⟨⟨⟨T6.out.set x.1 _ (fun j _ => by rw [HSn.out]), B6.out.keep CS (by have := hN.out; rw [List.mem_singleton]; show Bl ≠ A; omega)⟩, C6.out.trans' CS (fun s h => .inr (by rw [List.mem_singleton] at h; have h : s = A := h; have := hN.out; omega))⟩, ?_⟩⟩
          exact Nat.le_trans s6 CS.size
      case done =>
        rintro D xs W hD hS ⟨⟨⟨hT, hBl⟩, hc⟩, hs7⟩ hK
        have hl0 : 0 < L := by omega
        have k0 := hT.cell hl0
        rw [longOf_down HP.out ps.length 0 (by omega) xs hS 0 (by rw [← HL.out]; exact hl0), show depT ps 0 0 = (depA ps 0 : Int) from if_pos (Nat.le_refl _)] at k0
        have l0 := hBl.cell 0
        have ll := hBl.lt
        have lA := hT.lt
        simp only [List.getElem?_toArray, List.getElem?_cons_zero] at l0
        have i0 : (0 : Int) < (L : Int) := by omega
        have HC := hide hc
        have HK := hide hK
        have hDw : Hid (w.heap.size ≤ D) := hide (by omega)
        clear hc hK hT hBl hS
        go_wp2
        refine ⟨by simp, .inl ⟨_, _, rfl, run_takeDeferred HK.out, ?_⟩⟩
        have hg := grownBy_putObj' W D (.deferred none)
        exact ⟨_, results_tmp3 rfl _ _ _, rfl, HC.out.grown hg (fun k hk => by cases hk; exact .inr hDw.out)⟩
      case stop =>
        rintro D c pre W _ _ h _
        exact h.elim

theorem Check_any (v u : Value) (t : List (List Int)) (ps : List Nd) (w : World) (hv : See2 w v t) (hl : ∀ r ∈ t, r.length ≤ 1000000) (htl : t.length ≤ 1000000) (hu : SeeN w u ps) (hpl : ps.length ≤ 1000000) : Calls Try.prog 36 #[v, u] w (Ret (checkV t ps) w) := by
  unfold checkV
  cases ht : T.isTab t with
  | false => exact Check_bad v u t w hv hl htl ht
  | true =>
    rw [if_pos rfl]
    cases hp : isPl ps with
    | false => rw [if_neg (fun h => by cases h.1)]; exact Check_noplan v u t ps w hv hl htl hu hpl ht hp
    | true =>
      cases hr : rightM t ps with
      | false => rw [if_neg (fun h => by cases h.2)]; exact Check_wrong v u t ps w hv hl htl hu hpl ht hp hr
      | true => rw [if_pos ⟨rfl, rfl⟩]; exact Check_right v u t ps w hv hl htl hu hpl ht hp hr
end Go.Proofs.Ytaapamoglgpocaa
