/- Walk: det, the reference's. -/
import Derived.Test.YtaapamoglgpocaaRk4
import Derived.ArgAppend
import Derived.Deep.RegionLaw
namespace Go.Proofs.Ytaapamoglgpocaa
open Go.RowKit

theorem step_append_own {P : Program} (w : World) {ops : Array Oper} {o : Oper} {a : Act} {K : Act → World → Prop} {Q : Exit → Act → World → Prop} {E : Prop} (hgd : o.guard = none) (s x : Operand) (t : TypeId)
    (hop : o.op = .call { callee := .builtin .append, args := #[s, x], argTypes := #[t, t] })
    (base : Nat) (e : TypeId) (i : TypeInfo) (z : Value) (size bytes : Nat) (h1 : P.underlying t = some (.slice e)) (h2 : P.info? e = some i) (h3 : i.zero = some z) (h4 : i.size = size) (h5 : i.bytes = bytes) (h6 : z.cells.size = size) (h7 : 0 < size)
    (v : Value) (n : Nat) (olds : List Value) (hs : a.eval s = v) (hown : w.ownsRow base e size v n olds)
    (ad : Addr) (m c : Nat) (news : List Value) (hx : a.eval x = .slice (some ad) m c) (hn : news.length = m * size) (hc : ∀ j u, news[j]? = some u → w.cell? (ad.add j) = some u) (h1c : ∀ u ∈ news, u.oneCell' = true)
    (b1 : n + m ≤ maxLen) (b2 : (n + m) * bytes ≤ 140737488355328) (hb : base ≤ w.heap.size)
    (hK : ∀ v' w', w'.ownsRow base e size v' (n + m) (olds ++ news) → w.grownBy w' v.ownBlock → K (a.put o.dst v') w') :
    if Region.wanted o (yielded ops a.tmps) = true then Oper.wp P o a w K Q else E := by
  have hw : Region.wanted o (yielded ops a.tmps) = true := by simp [Region.wanted, hgd]
  rw [if_pos hw]
  obtain ⟨v', w', hrun, r1, r2, _⟩ := run_append_own (P := P) w base t o.type e i z size bytes h1 h2 h3 h4 h5 h6 h7 v n olds hown ad m c news hn hc h1c b1 b2 hb
  unfold Oper.wp
  simp [execOp, hop, resolve, invoke, builtin, hs, hx, hrun, Result.andThen]
  exact hK v' w' r1 r2

/-- Some rows and columns of a table. -/
def tblM (M : Nat → Nat → Int) (I C : List Nat) : List (List Int) := I.map fun i => C.map (M i)
theorem tblM_len (M : Nat → Nat → Int) (I C : List Nat) : (tblM M I C).length = I.length := by simp [tblM]
theorem tblM_row {M : Nat → Nat → Int} {I C : List Nat} {q : Nat} (h : q < I.length) : (tblM M I C).getD q [] = C.map (M (I.getD q 0)) := by
  unfold tblM
  rw [List.getD_eq_getElem?_getD, List.getElem?_map, List.getElem?_eq_getElem h, List.getD_eq_getElem?_getD (l := I), List.getElem?_eq_getElem h]; rfl
theorem map_get {x : Nat → Int} {C : List Nat} {c : Nat} (h : c < C.length) : (C.map x).getD c 0 = x (C.getD c 0) := by
  rw [List.getD_eq_getElem?_getD, List.getElem?_map, List.getElem?_eq_getElem h, List.getD_eq_getElem?_getD (l := C), List.getElem?_eq_getElem h]; rfl
theorem tblM_push {M : Nat → Nat → Int} {I C : List Nat} {q : Nat} (h : q < I.length) : tblM M (I.take (q + 1)) C = tblM M (I.take q) C ++ [C.map (M (I.getD q 0))] := by
  unfold tblM
  rw [List.take_succ_eq_append_getElem h, List.map_append, List.getD_eq_getElem?_getD, List.getElem?_eq_getElem h]; rfl
theorem erase_map {x : Nat → Int} {C : List Nat} (j : Nat) : (C.map x).take j ++ (C.map x).drop (j + 1) = (C.eraseIdx j).map x := by
  rw [List.eraseIdx_eq_take_drop_succ, List.map_append, List.map_take, List.map_drop]

theorem add_add' (a : Addr) (d p : Nat) : (a.add d).add p = a.add (d + p) := by
  cases a with
  | mk b o i =>
    unfold Addr.add
    by_cases h1 : d = 0
    · subst h1; simp
    · by_cases h2 : p = 0
      · subst h2; simp
      · simp [h1, h2, Nat.add_assoc]
theorem add_pos (a : Addr) {d : Nat} (h : 0 < d) : a.add d = ⟨a.block, a.off + d, none⟩ := by
  unfold Addr.add
  rw [if_neg (by omega)]
theorem news_take {w : World} {rb : Addr} {L : List Int} {n j : Nat} (hL : L.length = n) (hc : ∀ i, i < n → w.cell? (rb.add i) = some (.int .i64 (L.getD i 0))) :
    ∀ p u, ((L.take j).map (Value.int .i64))[p]? = some u → w.cell? (rb.add p) = some u := by
  intro p u h
  rw [List.getElem?_map, List.getElem?_take] at h
  split at h
  · rcases Nat.lt_or_ge p L.length with hp | hp
    · rw [hc p (by omega), List.getD_eq_getElem?_getD, List.getElem?_eq_getElem hp]
      rw [List.getElem?_eq_getElem hp] at h
      simpa using h
    · rw [List.getElem?_eq_none hp] at h; cases h
  · cases h
theorem news_drop {w : World} {rb : Addr} {L : List Int} {n d : Nat} (hL : L.length = n) (hc : ∀ i, i < n → w.cell? (rb.add i) = some (.int .i64 (L.getD i 0))) :
    ∀ p u, ((L.drop d).map (Value.int .i64))[p]? = some u → w.cell? ((rb.add d).add p) = some u := by
  intro p u h
  rw [List.getElem?_map, List.getElem?_drop] at h
  rcases Nat.lt_or_ge (d + p) L.length with hp | hp
  · rw [add_add', hc (d + p) (by omega), List.getD_eq_getElem?_getD, List.getElem?_eq_getElem hp]
    rw [List.getElem?_eq_getElem hp] at h
    simpa using h
  · rw [List.getElem?_eq_none hp] at h; cases h
theorem news_none {w : World} {a : Addr} {L : List Int} {n d : Nat} (hL : L.length = n) (hd : n ≤ d) :
    ∀ p u, ((L.drop d).map (Value.int .i64))[p]? = some u → w.cell? (a.add p) = some u := by
  intro p u h
  rw [List.getElem?_map, List.getElem?_drop, List.getElem?_eq_none (by omega)] at h
  cases h
theorem erase_ints {w : World} {b n m j : Nat} {v : Value} {x : Nat → Int} {C : List Nat} {L : List Int} (hL : L = C.map x) (hn : L.length = n) (hj : j < n) (hm : 0 + j + m = n - 1)
    (h : w.ownsRow b 3 1 v (0 + j + m) (([] ++ (L.take j).map (Value.int .i64)) ++ (L.drop (j + 1)).map (Value.int .i64))) : Ints w v ((C.eraseIdx j).map x) := by
  unfold Ints
  have hC : C.length = n := by rw [← hn, hL, List.length_map]
  have e : ((C.eraseIdx j).map x).length = 0 + j + m := by rw [List.length_map, List.length_eraseIdx_of_lt (by omega)]; omega
  rw [e, ← erase_map, List.map_append, ← hL]
  exact row_low h (Nat.zero_le _)
theorem ints_one {L : List Int} : ∀ u ∈ L.map (Value.int .i64), u.oneCell' = true := by
  intro u hu
  obtain ⟨x, _, rfl⟩ := List.mem_map.1 hu
  rfl

set_option maxRecDepth 100000 in
set_option maxHeartbeats 1000000 in
theorem det_zero (ao : Option Addr) (cap : Nat) (w : World) : Calls Try.prog 104 #[.slice ao 0 cap] w (Ret (.int .i64 1) w) := by
  go_enter Try.func104, Try.ntmps104
  go_wp2
  go_ret
  exact ⟨rfl, Chg.refl _ _⟩
set_option maxRecDepth 100000 in
set_option maxHeartbeats 1000000 in
theorem det_one (M : Nat → Nat → Int) (hM : ∀ i c, -1 ≤ M i c ∧ M i c ≤ 1) (v : Value) (r0 c0 : Nat) (w : World) (hv : See2 w v (tblM M [r0] [c0])) :
    Calls Try.prog 104 #[v] w (Ret (.int .i64 (M r0 c0)) w) := by
  obtain ⟨a, cap, rfl, hcap, hc⟩ := hv.open (by intro h; cases h)
  obtain ⟨bo, bc, h⟩ := hc 0 (by simp [tblM])
  rw [show (tblM M [r0] [c0]).getD 0 [] = [M r0 c0] from rfl] at h
  have hx := hM r0 c0
  generalize M r0 c0 = x at h hx ⊢
  have H := hide h
  have hcap' : 1 ≤ cap := hcap
  have f0 := (h w (Chg.refl _ _)).1
  rw [add_nought] at f0
  clear hv hc h hcap
  have hw1 : IntKind.i64.wrap x = x := by rw [IntKind.wrap_i64]; omega
  show Calls _ _ #[.slice (some a) 1 cap] _ _
  by_cases hc1 : cap = 1
  case' pos => subst hc1
  all_goals (
    go_enter Try.func104, Try.ntmps104
    go_wp2
    go_loopw [3, 4, 17] (fun sv gv iv wr => ∃ j : Nat, ∃ s g : Int, ((j = 0 ∧ s = 0 ∧ g = 1) ∨ (j = 1 ∧ s = x ∧ g = -1)) ∧ sv = .int .i64 s ∧ gv = .int .i64 g ∧ iv = .int .i64 (j : Int) ∧ Hid (Chg [] w wr)) (fun _ _ iv _ => (1 - (intOf iv).toNat))
    case atStart => exact ⟨0, 0, 1, .inl ⟨rfl, rfl, rfl⟩, rfl, rfl, rfl, hide (Chg.refl _ _)⟩
    case round =>
      obtain ⟨j, s, g, hj, rfl, rfl, rfl, hI⟩ := hrel
      rcases hj with ⟨rfl, rfl, rfl⟩ | ⟨rfl, rfl, rfl⟩
      · obtain ⟨ra, rcap, hre, hcell⟩ := (H.out wr hI.out).2.open (by intro h; cases h)
        cases hre
        have fx := hcell wr (Chg.refl _ _) 0 (by simp)
        rw [add_nought, show [x].getD 0 0 = x from rfl] at fx
        clear hcell
        go_wp2
        go_loopw [7, 25] (fun ov iv ws => ov = .slice none 0 0 ∧ iv = .int .i64 0 ∧ Hid (Chg [] w ws)) (fun _ _ _ => 0)
        case atStart => exact ⟨rfl, rfl, hI⟩
        case round =>
          obtain ⟨rfl, rfl, hJ⟩ := hrel
          go_wp2_with fail
          refine (det_zero none 0 _).mono ?_
          rintro e w2 ⟨rfl, hw2⟩
          have C2 := hide (hJ.out.trans hw2)
          clear hw2
          go_wp2
          go_roundw
          case rel => exact ⟨1, x, -1, .inr ⟨rfl, rfl, rfl⟩, rfl, rfl, rfl, C2⟩
          case measure => simp [intOf]
      · go_wp2
        go_ret
        exact ⟨rfl, hI.out⟩)
set_option maxRecDepth 100000 in
set_option maxHeartbeats 2000000 in
theorem det_any (M : Nat → Nat → Int) (hM : ∀ i c, -1 ≤ M i c ∧ M i c ≤ 1) : ∀ (k : Nat) (v : Value) (I C : List Nat) (w : World), I.length = k → C.length = k → k ≤ 4 → See2 w v (tblM M I C) →
    Calls Try.prog 104 #[v] w (Ret (.int .i64 (dets (I.map M) C)) w)
  | 0, v, I, C, w, hI, hC, _, hv => by
    obtain rfl : I = [] := List.length_eq_zero_iff.1 hI
    obtain rfl : C = [] := List.length_eq_zero_iff.1 hC
    obtain ⟨ao, cap, rfl⟩ := hv.shape
    exact det_zero ao cap w
  | 1, v, I, C, w, hI, hC, _, hv => by
    obtain ⟨r0, rfl⟩ := List.length_eq_one_iff.1 hI
    obtain ⟨c0, rfl⟩ := List.length_eq_one_iff.1 hC
    have e : dets ([r0].map M) [c0] = M r0 c0 := by simp [dets, alt]
    rw [e]
    exact det_one M hM v r0 c0 w hv
  | k0 + 2, v, [], C, w, hI, hC, _, hv => by simp at hI
  | k0 + 2, v, r0 :: I, C, w, hI, hC, hk, hv => by
    obtain ⟨k, hk0⟩ : ∃ k, k = k0 + 1 := ⟨_, rfl⟩
    obtain ⟨i0, hi, hz0, hz1, hz2⟩ := info_parts infoInts
    obtain ⟨i1, hi1, hy0, hy1, hy2⟩ := info_parts infoInt
    rw [show k0 + 2 = k + 1 by omega] at hI hC hk
    have hI' : I.length = k := by simpa using hI
    have IH := hide fun j (hj : j < k + 1) v' ws (hs : See2 ws v' (tblM M I (C.eraseIdx j))) => det_any M hM (k0 + 1) v' I (C.eraseIdx j) ws (by omega) (by rw [List.length_eraseIdx_of_lt (by omega), hC]; omega) (by omega) hs
    obtain ⟨a, cap, rfl, hcap, hc⟩ := hv.open (by intro h; have := congrArg List.length h; rw [tblM_len, hI] at this; simp at this)
    rw [tblM_len, hI] at hc hcap ⊢
    have HRows : Hid (∀ q, q < k + 1 → ∃ bo bc, ∀ wr, Chg [] w wr → wr.cell? (a.add q) = some (.slice bo (k + 1) bc) ∧ See wr (.slice bo (k + 1) bc) (C.map (M ((r0 :: I).getD q 0)))) := hide fun q hq => by
      obtain ⟨bo, bc, h⟩ := hc q hq
      rw [tblM_row (by rw [hI]; exact hq), List.length_map, hC] at h
      exact ⟨bo, bc, h⟩
    have HCl := hide hC
    have HIl := hide hI'
    have HM := hide hM
    have HS : Hid (∀ j, j ≤ k + 1 → -120 ≤ sumTo (M r0) (dets (I.map M)) C j ∧ sumTo (M r0) (dets (I.map M)) C j ≤ 120) := hide fun j hj =>
      sumTo_ok (x := M r0) (L := I.map M) (C := C) (by simp [hI', hC]) (by omega) (hM r0) (fun y hy c => by
        obtain ⟨i, _, rfl⟩ := List.mem_map.1 hy
        exact hM i c) (by omega)
    have HD : Hid (∀ j, j < k + 1 → -24 ≤ dets (I.map M) (C.eraseIdx j) ∧ dets (I.map M) (C.eraseIdx j) ≤ 24) := hide fun j hj =>
      dets_24 (by rw [List.length_map, hI', List.length_eraseIdx_of_lt (by omega), hC]; rfl) (by rw [List.length_eraseIdx_of_lt (by omega)]; omega) (fun y hy c => by
        obtain ⟨i, _, rfl⟩ := List.mem_map.1 hy
        exact hM i c)
    have E : Hid (dets ((r0 :: I).map M) C = sumTo (M r0) (dets (I.map M)) C (k + 1)) := hide (by
      rw [← hC, sumTo_all]; rfl)
    have h0 : sumTo (M r0) (dets (I.map M)) C 0 = 0 := sumTo_zero _ _ _
    have H0 := hide h0
    have HNx : Hid (∀ j, j < k + 1 → sumTo (M r0) (dets (I.map M)) C (j + 1) = sumTo (M r0) (dets (I.map M)) C j + sg j * M r0 (C.getD j 0) * dets (I.map M) (C.eraseIdx j)) := hide fun j hj => sumTo_succ (by omega)
    rw [E.out]
    clear hc hv hI hC hI' hM h0 E
    have d0 : (((k + 1 : Nat) : Int) == 0) = false := by simp; omega
    obtain ⟨bo, bc, hrow0⟩ := HRows.out 0 (by omega)
    have HR0 := hide hrow0
    have f0 := (hrow0 w (Chg.refl _ _)).1
    rw [add_nought] at f0
    clear hrow0
    have hn1 : 1 < k + 1 := by omega
    clear hk0
    generalize hn : k + 1 = n at *
    have HN := hide hn
    clear hn
    have hc1 : ¬ cap = 1 := by omega
    go_enter Try.func104, Try.ntmps104
    go_wp2
    go_loopw [3, 4, 17] (fun sv gv iv wr => ∃ j : Nat, j ≤ n ∧ sv = .int .i64 (sumTo (M r0) (dets (I.map M)) C j) ∧ gv = .int .i64 (sg j) ∧ iv = .int .i64 (j : Int) ∧ Hid (Chg [] w wr)) (fun _ _ iv _ => (n - (intOf iv).toNat))
    case atStart => exact ⟨0, Nat.zero_le _, by rw [H0.out], rfl, rfl, hide (Chg.refl _ _)⟩
    case round =>
      obtain ⟨j, hjn, rfl, rfl, rfl, hI⟩ := hrel
      by_cases hlt : j < n
      · have d1 : decide ((j : Int) < (n : Int)) = true := by simpa using hlt
        obtain ⟨ra, rcap, hre, hcell⟩ := (HR0.out wr hI.out).2.open (by intro h; have := congrArg List.length h; rw [List.length_map, HCl.out] at this; simp at this; omega)
        rw [List.length_map, HCl.out] at hre hcell
        cases hre
        have fx := hcell wr (Chg.refl _ _) j hlt
        rw [map_get (by rw [HCl.out]; exact hlt), show (r0 :: I).getD 0 0 = r0 from rfl] at fx
        obtain ⟨x, hx⟩ : ∃ x, x = M r0 (C.getD j 0) := ⟨_, rfl⟩
        rw [← hx] at fx
        have HX := hide hx
        clear hcell hx
        have p0 : (1 : Int) ≤ (n : Int) := by omega
        go_wp2
        obtain ⟨a1, c1, ea, HA⟩ : ∃ a1 c1, Value.slice (some ⟨a.block, a.off + 1, none⟩) (n - 1) (cap - 1) = Value.slice (some a1) (n - 1) c1 ∧ Hid (∀ q, q < n - 1 → a1.add q = a.add (q + 1)) := ⟨_, _, rfl, hide fun q _ => by rw [← add_pos a (by decide : 0 < 1), add_add', Nat.add_comm]⟩
        all_goals (
          rw [ea]
          clear ea
          have HDl : Hid ((C.eraseIdx j).length = n - 1) := hide (by rw [List.length_eraseIdx_of_lt (by rw [HCl.out]; exact hlt), HCl.out])
          go_loopw [7, 25] (fun ov iv ws => ∃ q : Nat, q ≤ n - 1 ∧ iv = .int .i64 (q : Int) ∧ Hid (Rows2 ws w.heap.size ov (tblM M (I.take q) (C.eraseIdx j)) ∧ Chg [] w ws)) (fun _ iv _ => (n - 1 - (intOf iv).toNat))
          case atStart => exact ⟨0, Nat.zero_le _, rfl, hide ⟨Rows2.nil _ _, hI.out⟩⟩
          case round =>
            obtain ⟨q, hq, rfl, hJ⟩ := hrel
            by_cases hlq : q < n - 1
            · have d2 : decide ((q : Int) < ((n - 1 : Nat) : Int)) = true := by simpa using hlq
              obtain ⟨bo', bc', hrow⟩ := HRows.out (q + 1) (by omega)
              have hrow' := hrow _ hJ.out.2
              rw [show (r0 :: I).getD (q + 1) 0 = I.getD q 0 from rfl] at hrow'
              obtain ⟨L, hL⟩ : ∃ L, L = C.map (M (I.getD q 0)) := ⟨_, rfl⟩
              rw [← hL] at hrow'
              have hLn : L.length = n := by rw [hL, List.length_map, HCl.out]
              obtain ⟨rb, rbc, hre, hcell⟩ := hrow'.2.open (by intro h; rw [h] at hLn; simp at hLn; omega)
              rw [hLn] at hre hcell
              cases hre
              have fr := hrow'.1
              rw [← HA.out q hlq] at fr
              have HCe := hide hcell
              have HLn := hide hLn
              have HLe := hide hL
              have hbc : n ≤ bc' := by
                obtain ⟨_, _, e, h, _⟩ := hrow'.2.len
                cases e
                omega
              clear hrow hrow' hcell hL hLn
              obtain ⟨us, hus, ho, hr⟩ := hJ.out.1
              have hlt' : (tblM M (I.take q) (C.eraseIdx j)).length = q := by rw [tblM_len, List.length_take, HIl.out]; have := HN.out; omega
              rw [hlt'] at hus ho
              have HO := hide ho
              have HUs := hide hus
              have HR := hide hr
              have HW := hide hJ.out.2.size
              have HLt := hide hlt'
              clear hus ho hr hlt'
              have j0 : (0 : Int) ≤ (j : Int) := by omega
              have j1 : (j : Int) ≤ (n : Int) := by omega
              have j2 : (j : Int) + 1 ≤ (n : Int) := by omega
              have hw : IntKind.i64.wrap ((j : Int) + 1) = ((j + 1 : Nat) : Int) := by rw [show (j : Int) + 1 = ((j + 1 : Nat) : Int) by omega, IntKind.wrap_i64]; omega
              have b0 : ¬ bc' = 0 := by omega
              by_cases hb : bc' = j + 1
              · have hnj : n ≤ j + 1 := by omega
                subst hb
                have jb : (j : Int) ≤ (j : Int) + 1 := by omega
                have jb1 : (n : Int) ≤ (j : Int) + 1 := by omega
                have jb2 : (0 : Int) ≤ (j : Int) + 1 := by omega
                go_wp2_with fail
                go_region_law ((first | (refine step_append_own _ (by rfl) _ _ 38 (by rfl) wr.heap.size 3 i1 (.int .i64 0) 1 8 Try.underlying38 hi1 hy0 hy1 hy2 (by rfl) (by decide) (.slice (some ⟨wr.heap.size, 0, none⟩) 0 0) 0 [] (by rfl) (World.ownsRow_made wr #[] 0 (Nat.le_refl _) (Nat.zero_le _) rfl) _ j _ ((L.take j).map (Value.int .i64)) (by rfl) (by rw [List.length_map, List.length_take, HLn.out]; omega) (news_take HLn.out (HCe.out _ (by (repeat' (first | with_reducible exact Chg.refl _ _ | with_reducible assumption | with_reducible apply Chg.drewN | with_reducible apply Chg.drew | with_reducible apply Chg.alloc | (with_reducible refine Chg.setCell ?_ (Or.inr ?_) _) | (with_reducible refine Chg.trans ?_ (by assumption)) | (simp; done) | (simp; omega)))))) ints_one (by unfold maxLen; omega) (by omega) (by simp) ?_; intro v9 w9 hown9 hgrow9; have HC9 : Hid (Chg [] wr w9) := hide (((Chg.refl [] wr).alloc (.cells #[] 3)).drew.grew (World.ownsRow_made (base := wr.heap.size) (e := 3) (size := 1) wr #[] 0 (Nat.le_refl _) (Nat.zero_le _) rfl) (Nat.le_refl _) hgrow9); have HO9 := hide hown9; have hz9 := HC9.out.size; clear hown9 hgrow9) | (refine step_append_own _ (by rfl) _ _ 38 (by rfl) wr.heap.size 3 i1 (.int .i64 0) 1 8 Try.underlying38 hi1 hy0 hy1 hy2 (by rfl) (by decide) v9 (0 + j) ([] ++ (L.take j).map (Value.int .i64)) (by rfl) HO9.out _ 0 _ ((L.drop (j + 1)).map (Value.int .i64)) (by rfl) (by rw [List.length_map, List.length_drop, HLn.out]; omega) (news_none HLn.out hnj) ints_one (by unfold maxLen; omega) (by omega) hz9 ?_; intro v10 w10 hown10 hgrow10; obtain ⟨bo2, bcap2, rfl, _⟩ := row_shape hown10; have HC10 : Hid (Chg [] wr w10) := hide (HC9.out.grew HO9.out (Nat.le_refl _) hgrow10); have HO10 := hide hown10; have hz10 := HC10.out.size; have HT10 := hide (HC10.out.row HO.out (fun _ _ => List.not_mem_nil)); clear hown10 hgrow10) | (refine step_append_own _ (by rfl) _ _ 22 (by rfl) w.heap.size 38 i0 (.slice none 0 0) 1 24 Try.underlying22 hi hz0 hz1 hz2 (by rfl) (by decide) u7 q us (by rfl) (HT10.out.alloc _) ⟨w10.heap.size, 0, none⟩ 1 1 [.slice bo2 (0 + j + 0) bcap2] (by rfl) (by rfl) (by intro p u hp; rw [add_zero_row, (Box.new w10 _ _).cell p]; simpa using hp) (by intro x hx; rw [List.mem_singleton] at hx; subst hx; rfl) (by unfold maxLen; omega) (by omega) (by have := HW.out; simp; omega) ?_; intro v11 w11 hown11 hgrow11; have HO11 := hide hown11; have HG11 := hide hgrow11; clear hown11 hgrow11)))
                all_goals (
                  go_wp2
                  go_roundw
                  case rel =>
                    refine ⟨q + 1, by omega, by go_num, hide ⟨?_, ((hJ.out.2.trans HC10.out).alloc _).grew (HT10.out.alloc _) (Nat.le_refl _) HG11.out⟩⟩
                    have hgA : Chg [] w10 (w10.alloc (.cells #[.slice bo2 (0 + j + 0) bcap2] 38)) := (Chg.refl _ _).alloc _
                    have hI1 := erase_ints HLe.out HLn.out hlt (by omega) HO10.out
                    rw [tblM_push (by rw [HIl.out]; have := HN.out; omega)]
                    exact Rows2.push (us := us) (u := .slice bo2 (0 + j + 0) bcap2) (w := w10.alloc (.cells #[.slice bo2 (0 + j + 0) bcap2] 38)) (by rw [HLt.out]; exact HUs.out) (by rw [HLt.out]; exact HT10.out.alloc _) (fun i u h => ((HR.out i u h).keep HC10.out).keep hgA) (hI1.keep hgA) (by simpa using HG11.out) (by rw [HLt.out]; exact HO11.out)
                  case measure => simp [intOf]; omega)
              · have b1 : ¬ bc' = j + 1 := hb
                have jb : (j : Int) ≤ (bc' : Int) := by omega
                have jb1 : (n : Int) ≤ (bc' : Int) := by omega
                have jb2 : (0 : Int) ≤ (j : Int) + 1 := by omega
                have jb3 : (j : Int) + 1 ≤ (bc' : Int) := by omega
                clear hb
                go_wp2_with fail
                go_region_law ((first | (refine step_append_own _ (by rfl) _ _ 38 (by rfl) wr.heap.size 3 i1 (.int .i64 0) 1 8 Try.underlying38 hi1 hy0 hy1 hy2 (by rfl) (by decide) (.slice (some ⟨wr.heap.size, 0, none⟩) 0 0) 0 [] (by rfl) (World.ownsRow_made wr #[] 0 (Nat.le_refl _) (Nat.zero_le _) rfl) _ j _ ((L.take j).map (Value.int .i64)) (by rfl) (by rw [List.length_map, List.length_take, HLn.out]; omega) (news_take HLn.out (HCe.out _ (by (repeat' (first | with_reducible exact Chg.refl _ _ | with_reducible assumption | with_reducible apply Chg.drewN | with_reducible apply Chg.drew | with_reducible apply Chg.alloc | (with_reducible refine Chg.setCell ?_ (Or.inr ?_) _) | (with_reducible refine Chg.trans ?_ (by assumption)) | (simp; done) | (simp; omega)))))) ints_one (by unfold maxLen; omega) (by omega) (by simp) ?_; intro v9 w9 hown9 hgrow9; have HC9 : Hid (Chg [] wr w9) := hide (((Chg.refl [] wr).alloc (.cells #[] 3)).drew.grew (World.ownsRow_made (base := wr.heap.size) (e := 3) (size := 1) wr #[] 0 (Nat.le_refl _) (Nat.zero_le _) rfl) (Nat.le_refl _) hgrow9); have HO9 := hide hown9; have hz9 := HC9.out.size; clear hown9 hgrow9) | (refine step_append_own _ (by rfl) _ _ 38 (by rfl) wr.heap.size 3 i1 (.int .i64 0) 1 8 Try.underlying38 hi1 hy0 hy1 hy2 (by rfl) (by decide) v9 (0 + j) ([] ++ (L.take j).map (Value.int .i64)) (by rfl) HO9.out _ (n - (j + 1)) _ ((L.drop (j + 1)).map (Value.int .i64)) (by rfl) (by rw [List.length_map, List.length_drop, HLn.out]; omega) (by have h := news_drop (w := w9) (d := j + 1) HLn.out (HCe.out w9 HC9.out); rwa [add_pos rb (Nat.succ_pos j)] at h) ints_one (by unfold maxLen; omega) (by omega) hz9 ?_; intro v10 w10 hown10 hgrow10; obtain ⟨bo2, bcap2, rfl, _⟩ := row_shape hown10; have HC10 : Hid (Chg [] wr w10) := hide (HC9.out.grew HO9.out (Nat.le_refl _) hgrow10); have HO10 := hide hown10; have hz10 := HC10.out.size; have HT10 := hide (HC10.out.row HO.out (fun _ _ => List.not_mem_nil)); clear hown10 hgrow10) | (refine step_append_own _ (by rfl) _ _ 22 (by rfl) w.heap.size 38 i0 (.slice none 0 0) 1 24 Try.underlying22 hi hz0 hz1 hz2 (by rfl) (by decide) u7 q us (by rfl) (HT10.out.alloc _) ⟨w10.heap.size, 0, none⟩ 1 1 [.slice bo2 (0 + j + (n - (j + 1))) bcap2] (by rfl) (by rfl) (by intro p u hp; rw [add_zero_row, (Box.new w10 _ _).cell p]; simpa using hp) (by intro x hx; rw [List.mem_singleton] at hx; subst hx; rfl) (by unfold maxLen; omega) (by omega) (by have := HW.out; simp; omega) ?_; intro v11 w11 hown11 hgrow11; have HO11 := hide hown11; have HG11 := hide hgrow11; clear hown11 hgrow11)))
                all_goals (
                  go_wp2
                  go_roundw
                  case rel =>
                    refine ⟨q + 1, by omega, by go_num, hide ⟨?_, ((hJ.out.2.trans HC10.out).alloc _).grew (HT10.out.alloc _) (Nat.le_refl _) HG11.out⟩⟩
                    have hgA : Chg [] w10 (w10.alloc (.cells #[.slice bo2 (0 + j + (n - (j + 1))) bcap2] 38)) := (Chg.refl _ _).alloc _
                    have hI1 := erase_ints HLe.out HLn.out hlt (by omega) HO10.out
                    rw [tblM_push (by rw [HIl.out]; have := HN.out; omega)]
                    exact Rows2.push (us := us) (u := .slice bo2 (0 + j + (n - (j + 1))) bcap2) (w := w10.alloc (.cells #[.slice bo2 (0 + j + (n - (j + 1))) bcap2] 38)) (by rw [HLt.out]; exact HUs.out) (by rw [HLt.out]; exact HT10.out.alloc _) (fun i u h => ((HR.out i u h).keep HC10.out).keep hgA) (hI1.keep hgA) (by simpa using HG11.out) (by rw [HLt.out]; exact HO11.out)
                  case measure => simp [intOf]; omega)
            · have d2 : decide ((q : Int) < ((n - 1 : Nat) : Int)) = false := by simpa using hlq
              obtain rfl : q = n - 1 := by omega
              have hJ1 := hJ.out.1
              rw [List.take_of_length_le (by rw [HIl.out]; have := HN.out; omega)] at hJ1
              have HDet := hide (IH.out j hlt u7 wr hJ1.toSee2)
              have CJ := hide hJ.out.2
              obtain ⟨D, hD⟩ : ∃ D, D = dets (I.map M) (C.eraseIdx j) := ⟨_, rfl⟩
              obtain ⟨S, hS⟩ : ∃ S, S = sumTo (M r0) (dets (I.map M)) C j := ⟨_, rfl⟩
              obtain ⟨S', hS'⟩ : ∃ S', S' = sumTo (M r0) (dets (I.map M)) C (j + 1) := ⟨_, rfl⟩
              obtain ⟨g, hg⟩ : ∃ g, g = sg j := ⟨_, rfl⟩
              have hnx := HNx.out j hlt
              have hb1 := HS.out (j + 1) (by omega)
              have hb2 := HD.out j hlt
              have hx1 := HM.out r0 (C.getD j 0)
              rw [← hS, ← hS', ← hg, ← HX.out, ← hD] at hnx
              rw [← hS'] at hb1
              rw [← hD] at hb2 HDet
              rw [← HX.out] at hx1
              have hgg := sg_or j
              rw [← hg] at hgg
              have hgs : -g = sg (j + 1) := by rw [hg, sg_succ]
              rw [← hS, ← hg]
              have HSn := hide hS'
              have HGn := hide hgs
              have hm1 : -1 ≤ g * x ∧ g * x ≤ 1 := by rcases hgg with h | h <;> rw [h] <;> omega
              obtain ⟨gx, hgx⟩ : ∃ gx, gx = g * x := ⟨_, rfl⟩
              rw [← hgx] at hnx hm1
              have hm2 : -24 ≤ gx * D ∧ gx * D ≤ 24 := by
                rcases (by omega : gx = -1 ∨ gx = 0 ∨ gx = 1) with h | h | h <;> rw [h] <;> omega
              obtain ⟨gD, hgD⟩ : ∃ gD, gD = gx * D := ⟨_, rfl⟩
              rw [← hgD] at hnx hm2
              have hw1 : IntKind.i64.wrap (g * x) = gx := by rw [← hgx, IntKind.wrap_i64]; omega
              have hw2 : IntKind.i64.wrap (gx * D) = gD := by rw [← hgD, IntKind.wrap_i64]; omega
              have hw3 : IntKind.i64.wrap (S + gD) = S' := by rw [← hnx, IntKind.wrap_i64]; omega
              have hw4 : IntKind.i64.wrap (-g) = -g := by rw [IntKind.wrap_i64]; omega
              clear hJ hJ1 hD hS hS' hg hnx hb1 hb2 hx1 hgg hgs hm1 hgx hm2 hgD
              go_wp2_with fail
              refine HDet.out.mono ?_
              rintro e w2 ⟨rfl, hw2'⟩
              have C2 := hide (CJ.out.trans hw2')
              clear hw2' HDet CJ
              go_wp2
              go_roundw
              case rel => exact ⟨j + 1, by omega, by rw [HSn.out], by rw [HGn.out], by go_num, C2⟩
              case measure => simp [intOf]; omega)
      · have d1 : decide ((j : Int) < (n : Int)) = false := by simpa using hlt
        obtain rfl : n = j := by omega
        go_wp2
        go_ret
        exact ⟨rfl, hI.out⟩
end Go.Proofs.Ytaapamoglgpocaa
