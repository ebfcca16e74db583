/- Walk: orders: read. -/
import Derived.Test.YtpplihpfjniacaaDoorAd1
import Derived.Laws.IdiomCopy
namespace Go.Proofs.YtpplihpfjniacaaDoor
open Go.RowKit Go.Shelf
attribute [local go_sem] Oper.semAt_some

/-- Some numbers copied into an order. -/
theorem copy_ord {S : List Nat} {w0 : World} {Z n : Nat} : ∀ (xs : List Nat) (k : Nat) (A : Nat → Nat) (w : World), k + xs.length ≤ 6 → Box w Z (ordC n A) 72 → Chg S w0 w → (Z ∈ S ∨ w0.heap.size ≤ Z) →
    Box (w.setCells Z (1 + k) (xs.map fun (x : Nat) => (.int .i64 (x : Int) : Value))) Z (ordC n fun q => if k ≤ q ∧ q < k + xs.length then xs.getD (q - k) 0 else A q) 72 ∧ Chg S w0 (w.setCells Z (1 + k) (xs.map fun (x : Nat) => (.int .i64 (x : Int) : Value)))
  | [], k, A, w, _, hb, hc, _ => by
    refine ⟨?_, hc⟩
    have e : (fun q => if k ≤ q ∧ q < k + ([] : List Nat).length then ([] : List Nat).getD (q - k) 0 else A q) = A := funext fun q => if_neg (by simp)
    rw [e]
    exact hb
  | x :: xs, k, A, w, hk, hb, hc, hZ => by
    rw [List.length_cons] at hk
    have hb2 : Box (w.setCell ⟨Z, 1 + k, none⟩ (.int .i64 (x : Int))) Z (ordC n fun q => if q = k then x else A q) 72 := by
      have := hb.set (1 + k) (.int .i64 (x : Int))
      rwa [ordC_set (B := fun q => if q = k then x else A q) (by omega) (fun q => rfl)] at this
    have := copy_ord xs (k + 1) _ _ (by omega) hb2 (hc.setCell hZ _) hZ
    have e : (fun q => if k + 1 ≤ q ∧ q < k + 1 + xs.length then xs.getD (q - (k + 1)) 0 else if q = k then x else A q) = fun q => if k ≤ q ∧ q < k + (x :: xs).length then (x :: xs).getD (q - k) 0 else A q := by
      funext q
      rw [List.length_cons]
      by_cases h1 : q = k
      · subst h1
        rw [if_neg (by omega), if_pos rfl, if_pos (by omega), Nat.sub_self]
        rfl
      · by_cases h2 : k + 1 ≤ q ∧ q < k + 1 + xs.length
        · rw [if_pos h2, if_pos (by omega)]
          obtain ⟨d, hd⟩ : ∃ d, q = k + 1 + d := ⟨q - (k + 1), by omega⟩
          subst hd
          rw [show k + 1 + d - (k + 1) = d by omega, show k + 1 + d - k = d + 1 by omega]
          rfl
        · rw [if_neg h2, if_neg h1, if_neg (by omega)]
    rw [e] at this
    exact this
/-- The cells of an order that a slice shows. -/
def ordN (n : Nat) (A : Nat → Nat) : List Nat := (List.range n).map A
theorem ordN_len (n : Nat) (A : Nat → Nat) : (ordN n A).length = n := by unfold ordN; rw [List.length_map, List.length_range]
theorem ordN_get {n j : Nat} {A : Nat → Nat} (h : j < n) : (ordN n A).getD j 0 = A j := by
  unfold ordN
  rw [List.getD_eq_getElem?_getD, List.getElem?_map, List.getElem?_range h]
  rfl
theorem copy_all {n : Nat} {A : Nat → Nat} (o : Tr.Ord n A) : (fun q => if 0 ≤ q ∧ q < 0 + (ordN n A).length then (ordN n A).getD (q - 0) 0 else 0) = A := by
  funext q
  rw [ordN_len]
  by_cases h : q < n
  · rw [if_pos (by omega), Nat.sub_zero, ordN_get h]
  · rw [if_neg (by omega), o.out q (by omega)]

set_option maxRecDepth 100000 in
set_option maxHeartbeats 4000000 in
theorem read_any (n : Nat) (A : Nat → Nat) (v : Value) (w : World) (hv : See w v (ordL n A)) (h1 : 1 ≤ n) (h6 : n ≤ 6) (o : Tr.Ord n A) (hT : Tz w) :
    Calls Tryd.prog 48 #[v] w (Ret (.tuple #[ordV n A, .bool true]) w) := by
  have HV := hide hv
  have hlen := ordL_len n A
  have hne : ordL n A ≠ [] := fun e => by rw [e] at hlen; simp at hlen; omega
  obtain ⟨a, cap, rfl, hcell⟩ := hv.open hne
  rw [hlen] at HV ⊢
  have hA : ∀ j, j < n → ∀ wr, Chg [] w wr → wr.cell? (a.add j) = some (.int .i64 (A j : Int)) := fun j hj wr hw => by
    rw [← ordL_get (A := A) hj]; exact hcell wr hw j (by rw [hlen]; exact hj)
  have HA := hide hA
  have HO := hide o
  have HT := hide hT
  have HN := hide (And.intro h1 h6)
  have d1 : decide ((n : Int) < 1) = false := by simp; omega
  have d2 : decide ((n : Int) > 6) = false := by simp; omega
  have d2' : decide ((6 : Int) < (n : Int)) = false := by simp; omega
  have d2n : decide (6 < n) = false := by simp; omega
  clear hA o hT hcell hne hlen hv
  refine calls_calm 9 Tryd.func48 rfl ?_
  simp only [Tryd.ntmps48, List.size_toArray, List.length_cons, List.length_nil, Nat.reduceAdd, Nat.reduceSub, Array.replicate_succ, Array.replicate_zero, List.push_toArray, List.append_toArray, List.nil_append, List.cons_append]
  go_wp2
  obtain ⟨Z, hZ⟩ : ∃ Z, w.heap.size = Z := ⟨_, rfl⟩
  rw [hZ]
  obtain ⟨W1, e1, b1, c1, z1⟩ := alloc_box hZ #[.slice (some a) n cap] 22
  rw [e1]
  obtain ⟨W2, e2, b2, c2, z2⟩ := alloc_box z1 #[.int .i64 0, .int .i64 0, .int .i64 0, .int .i64 0, .int .i64 0, .int .i64 0, .int .i64 0] 72
  rw [e2]
  obtain ⟨W3, e3, b3, c3, z3⟩ := alloc_box z2 #[.bool false] 4
  rw [e3]
  obtain ⟨W4, e4, b4, c4, z4⟩ := alloc_box z3 #[.int .i64 (n : Int), .int .i64 0, .int .i64 0, .int .i64 0, .int .i64 0, .int .i64 0, .int .i64 0] 72
  rw [e4]
  have HB1 := hide (b1.keep (c2.trans (c3.trans c4)) List.not_mem_nil)
  have HB2 := hide (b2.keep (c3.trans c4) List.not_mem_nil)
  have HB3 := hide (b3.keep c4 List.not_mem_nil)
  have HB4 := hide b4
  have HC4 := hide (c1.trans (c2.trans (c3.trans c4)))
  clear e1 e2 e3 e4 b1 b2 b3 b4 c1 c2 c3 c4 z1 z2 z3
  have hnm : n.min 6 = n := Nat.min_eq_left HN.out.2
  have hcopy : (Builtin.copy_ #[22, 22] 3 #[.slice (some ⟨Z + 1 + 1 + 1, 1, none⟩) 6 6, .slice (some a) n cap]).run Tryd.prog W4.drew = .ok (.int .i64 (n : Int)) (W4.drew.setCells (Z + 1 + 1 + 1) 1 ((ordN n A).map fun (x : Nat) => (.int .i64 (x : Int) : Value))) := by
    refine (run_copy_cells (P := Tryd.prog) _ 22 22 3 3 (Z + 1 + 1 + 1) 1 6 6 a n cap ((ordN n A).map fun (x : Nat) => (.int .i64 (x : Int) : Value)) Tryd.underlying22 (by kernel_rfl) ?_ ?_ ?_ ?_ ?_).trans ?_
    · rw [List.length_map, ordN_len]; exact hnm.symm
    · intro j u hj
      rw [List.getElem?_map] at hj
      have hjn : j < n := by
        have : j < (ordN n A).length := Nat.lt_of_not_le fun h => by rw [List.getElem?_eq_none h] at hj; cases hj
        rwa [ordN_len] at this
      have e : (ordN n A)[j]? = some (A j) := by
        rw [← ordN_get (A := A) hjn, List.getD_eq_getElem?_getD, List.getElem?_eq_getElem (by rw [ordN_len]; exact hjn)]; rfl
      rw [e] at hj
      cases hj
      exact HA.out j hjn _ HC4.out.drew
    · intro j hj
      rw [List.length_map, ordN_len] at hj
      have := ord_at (A := fun _ => 0) HB4.out (show j < 6 by have := HN.out.2; omega)
      rw [show W4.drew.cell? ⟨Z + 1 + 1 + 1, 1 + j, none⟩ = W4.cell? ⟨Z + 1 + 1 + 1, 1 + j, none⟩ from rfl, this]
      rfl
    · intro j hj
      exact HB4.out.free _
    · intro u hu
      obtain ⟨x, _, rfl⟩ := List.mem_map.1 hu
      rfl
    · rw [List.length_map, ordN_len]; rfl
  have f1 := HB1.out.cell 0
  have l1 := HB1.out.lt
  have l4 := HB4.out.lt
  simp only [List.getElem?_toArray, List.getElem?_cons_zero] at f1
  go_wp2
  go_region
  obtain ⟨hb5, hc5⟩ := copy_ord (S := [Z + 1 + 1 + 1]) (w0 := W4) (Z := Z + 1 + 1 + 1) (n := n) (ordN n A) 0 (fun _ => 0) W4.drew (by rw [ordN_len]; have := HN.out.2; omega) (HB4.out.keep (Chg.refl [] W4).drew List.not_mem_nil) ((Chg.refl _ W4).drew) (.inl (by simp))
  rw [copy_all HO.out] at hb5
  rw [show 1 + 0 = 1 from rfl] at hb5 hc5
  generalize W4.drew.setCells (Z + 1 + 1 + 1) 1 ((ordN n A).map fun (x : Nat) => (.int .i64 (x : Int) : Value)) = W5 at hb5 hc5 ⊢
  have hs : ∀ y, y ≠ Z + 1 + 1 + 1 → y ∉ [Z + 1 + 1 + 1] := fun y hy hm => hy (List.mem_singleton.1 hm)
  have HI5 := hide (And.intro (HB1.out.keep hc5 (hs _ (by omega))) (And.intro (HB2.out.keep hc5 (hs _ (by omega))) (And.intro (HB3.out.keep hc5 (hs _ (by omega))) (And.intro hb5 (HC4.out.trans' hc5 (fun x hx => .inr (by rw [List.mem_singleton] at hx; omega)))))))
  clear hb5 hc5 hcopy f1 l1 l4 HB1 HB2 HB3 HB4 HC4 hs hnm z4
  have f1 := HI5.out.1.cell 0
  have l1 := HI5.out.1.lt
  simp only [List.getElem?_toArray, List.getElem?_cons_zero] at f1
  go_wp2
  have HT5 := HT.out.keep HI5.out.2.2.2.2
  have HI6 := hide (And.intro HI5.out (And.intro (Marks.nil Z W5.heap.size W5) HT5))
  clear HI5 f1 l1 HT5
  refine wp_loop (fun a' w' => ∃ (i : Nat) (ds : List Deferred), (i ≤ n ∧ Hid ((Box w' Z #[.slice (some a) n cap] 22 ∧ Box w' (Z + 1) #[.int .i64 0, .int .i64 0, .int .i64 0, .int .i64 0, .int .i64 0, .int .i64 0, .int .i64 0] 72 ∧ Box w' (Z + 1 + 1) #[.bool false] 4 ∧ Box w' (Z + 1 + 1 + 1) (ordC n A) 72 ∧ Chg [] w w') ∧ Marks Z w'.heap.size w' ds ∧ Tz w')) ∧
    ∃ u5 u6 u27 u28 u29 u30 u31 u32 u33 u34 u35 u36 u37 u38 u39 u40 u41 u42 u43 u44 u45 u46 u48 u49 u59 : Value, a' = { tmps := #[Value.slice (some a) n cap, Value.pointer (some { block := Z, off := 0 }), Value.pointer (some { block := Z + 1, off := 0 }), Value.pointer (some { block := Z + 1 + 1, off := 0 }), Value.pointer (some { block := Z + 1 + 1 + 1, off := 0 }), u5, u6, undef, Value.slice (some a) n cap, Value.int IntKind.i64 ↑n, Value.agg #[Value.int IntKind.i64 ↑n, Value.int IntKind.i64 0, Value.int IntKind.i64 0, Value.int IntKind.i64 0, Value.int IntKind.i64 0, Value.int IntKind.i64 0, Value.int IntKind.i64 0], Value.slice (some a) n cap, Value.int IntKind.i64 ↑n, Value.bool false, Value.bool false, Value.slice (some a) n cap, Value.int IntKind.i64 ↑n, Value.bool false, Value.bool false, undef, Value.pointer (some { block := Z + 1 + 1 + 1, off := 1 }), Value.slice (some { block := Z + 1 + 1 + 1, off := 1 }) 6 6, Value.slice (some a) n cap, Value.int IntKind.i64 ↑n, Value.slice (some a) n cap, Value.int IntKind.i64 ↑n, .int .i64 (i : Int), u27, u28, u29, u30, u31, u32, u33, u34, u35, u36, u37, u38, u39, u40, u41, u42, u43, u44, u45, u46, undef, u48, u49, undef, undef, undef, undef, undef, undef, undef, undef, undef, u59, undef], defers := ds }) (fun a' _ => n - (intOf (a'.tmps.getD 26 undef)).toNat) ⟨0, [], ⟨Nat.zero_le _, HI6⟩, _, _, _, _, _, _, _, _, _, _, _, _, _, _, _, _, _, _, _, _, _, _, _, _, _, rfl⟩ ?_
  rintro a' wr ⟨i, ds, ⟨hi, hI⟩, u5, u6, u27, u28, u29, u30, u31, u32, u33, u34, u35, u36, u37, u38, u39, u40, u41, u42, u43, u44, u45, u46, u48, u49, u59, rfl⟩
  by_cases hlt : i < n
  · have d5 : decide ((i : Int) < (n : Int)) = true := by simp; omega
    have fx := HA.out i hlt wr hI.out.1.2.2.2.2
    have ep := pt_bit (s := A i) (x := i) (by have := HO.out.lt i; have := Tr.pow16 (show n ≤ 8 by have := HN.out; omega); omega)
    rw [HO.out.irr, if_neg (by decide)] at ep
    have hAi := HO.out.lt i
    have ew := wrap_pow (m := n) (by have := HN.out; omega)
    obtain ⟨P, hP⟩ : ∃ P, P = 2 ^ n := ⟨_, rfl⟩
    rw [← hP] at hAi ew
    have HPe := hide hP
    have hP64 : P ≤ 64 := by rw [hP]; exact Nat.pow_le_pow_right (n := 2) (by decide) (show n ≤ 6 from HN.out.2)
    obtain ⟨s, hs⟩ : ∃ s, s = A i := ⟨_, rfl⟩
    rw [← hs] at fx ep hAi
    have HSe := hide hs
    have e1 : decide ((s : Int) < 0) = false := by simp
    have e2 : decide ((s : Int) ≥ (P : Int)) = false := by simp; omega
    have e2' : decide ((P : Int) ≤ (s : Int)) = false := by simp; omega
    have e2n : decide (P ≤ s) = false := by simp; omega
    have i0 : (0 : Int) ≤ (i : Int) := by omega
    have i1 : (i : Int) < 64 := by have := HN.out; omega
    have n0 : (0 : Int) ≤ (n : Int) := by omega
    have n1 : (n : Int) < 64 := by have := HN.out; omega
    have f1 := hI.out.1.1.cell 0
    have l1 := hI.out.1.1.lt
    simp only [List.getElem?_toArray, List.getElem?_cons_zero] at f1
    clear hP hs
    go_wp2
    go_big_quiet (fail)
    go_wp2_with fail
    have b6 := (Box.new wr #[.int .i64 (s : Int)] 3).keep ((Chg.refl [] _).drewN nq) List.not_mem_nil
    have c6 := ((Chg.refl [] wr).alloc (.cells #[.int .i64 (s : Int)] 3)).drewN nq
    have z6 : ((wr.alloc (.cells #[.int .i64 (s : Int)] 3)).drewN nq).heap.size = wr.heap.size + 1 := by
      show (wr.alloc (.cells #[.int .i64 (s : Int)] 3)).heap.size = _
      simp
    generalize (wr.alloc (.cells #[.int .i64 (s : Int)] 3)).drewN nq = W6 at b6 c6 z6 ⊢
    obtain ⟨⟨k1, k2, k3, k4, k5⟩, kM, kT⟩ := hI.out
    obtain ⟨B6, hB6⟩ : ∃ B6, B6 = wr.heap.size := ⟨_, rfl⟩
    rw [← hB6] at b6 z6 kM ⊢
    refine (elements_any s W6).mono ?_
    rintro e W7 ⟨rfl, rfl⟩
    rw [z6]
    obtain ⟨W7, e7, b7, c7, z7⟩ := alloc_box z6 #[.int .i64 (s : Int)] 3
    rw [e7]
    have c67 := c6.trans c7
    have hBZ : Z + 1 + 1 + 1 < B6 := by rw [hB6]; exact k4.lt
    have HI7 : Hid ((Box W7 Z #[.slice (some a) n cap] 22 ∧ Box W7 (Z + 1) #[.int .i64 0, .int .i64 0, .int .i64 0, .int .i64 0, .int .i64 0, .int .i64 0, .int .i64 0] 72 ∧ Box W7 (Z + 1 + 1) #[.bool false] 4 ∧ Box W7 (Z + 1 + 1 + 1) (ordC n A) 72 ∧ Chg [] w W7) ∧ Marks Z B6 W7 ds ∧ Box W7 B6 #[.int .i64 (s : Int)] 3) :=
      hide ⟨⟨k1.keep c67 List.not_mem_nil, k2.keep c67 List.not_mem_nil, k3.keep c67 List.not_mem_nil, k4.keep c67 List.not_mem_nil, k5.trans c67⟩, kM.keep0 c67, b6.keep c7 List.not_mem_nil⟩
    have HT7 := hide (kT.keep c67)
    have HB7 := hide b7
    have s65 : s < 65536 := by omega
    clear k1 k2 k3 k4 k5 kM kT hI b6 c6 e7 b7 c7 c67 hB6 z6 f1 l1 fx ep e1 e2 e2' e2n ew
    go_wp2
    refine (wpIn_wide (n := 9)).1 ?_
    refine bits_out (by decide) rfl (enters_of Tryd.func97 (by kernel_rfl) rfl) (elems_in 8 (B6 + 1) (by decide)) rfl (X := s) s65 HB7.out HT7.out
      (fun Y W => ((Box W Z #[.slice (some a) n cap] 22 ∧ Box W (Z + 1) #[.int .i64 0, .int .i64 0, .int .i64 0, .int .i64 0, .int .i64 0, .int .i64 0, .int .i64 0] 72 ∧ Box W (Z + 1 + 1) #[.bool false] 4 ∧ Box W (Z + 1 + 1 + 1) (ordC n A) 72 ∧ Chg [] w W) ∧ Marks Z B6 W ds ∧ Box W B6 #[.int .i64 (s : Int)] 3) ∧ ∀ k, Y.testBit k = true → s.testBit k = true)
      (fun Y W W' row hs hg hr => by
        obtain ⟨⟨⟨k1, k2, k3, k4, k5⟩, k6, k7⟩, k8⟩ := hs
        exact ⟨⟨⟨k1.row hg hr, k2.row hg hr, k3.row hg hr, k4.row hg hr, k5.row' (by omega) hg hr⟩, k6.row (by omega) hg hr, k7.row hg hr⟩, k8⟩)
      (fun Y W u hs => by
        obtain ⟨⟨⟨k1, k2, k3, k4, k5⟩, k6, k7⟩, k8⟩ := hs
        have cs := Chg.set W ⟨B6 + 1, 0, none⟩ u
        have hn : ∀ y, y ≠ B6 + 1 → y ∉ [(⟨B6 + 1, 0, none⟩ : Addr).block] := fun y hy hm => hy (List.mem_singleton.1 hm)
        refine ⟨⟨⟨k1.keep cs (hn _ (by omega)), k2.keep cs (hn _ (by omega)), k3.keep cs (hn _ (by omega)), k4.keep cs (hn _ (by omega)), k5.setCell (.inr (by show w.heap.size ≤ B6 + 1; omega)) _⟩, k6.low cs (by intro x hx; rw [List.mem_singleton] at hx; have hx : x = B6 + 1 := hx; omega), k7.keep cs (hn _ (by omega))⟩, k8⟩)
      ⟨HI7.out, fun _ h => h⟩ ?f ?assign ?body ?done
    case assign =>
      intro l Y W K hK
      gi_wp2
      exact hK
    case body =>
      rintro l Y W hl ⟨r, hr⟩ hY0 hY65 ⟨⟨⟨k1, k2, k3, k4, k5⟩, k6, k7⟩, hsub⟩ hBY hTY
      have hkM := hsub _ (ctz_low hY0 hY65)
      have HSub : Hid (∀ k, (Y &&& (Y - 1)).testBit k = true → s.testBit k = true) := hide fun k hk => hsub k (by rw [Nat.testBit_and, Bool.and_eq_true] at hk; exact hk.1)
      obtain ⟨k, hk⟩ : ∃ k, k = Lib.ctz 64 Y := ⟨_, rfl⟩
      rw [← hk] at hkM ⊢
      have hkn : k < n := Tr.bit_ltn (by rw [← HPe.out]; exact hAi) hkM
      have fk := HA.out k hkn W k5
      have hAk : A k < 65536 := Nat.lt_trans (HO.out.lt k) (Tr.pow16 (by have := HN.out; omega))
      have ean : bits .andNot .i64 (A k : Int) (s : Int) = 0 := by
        rw [and_not hAk s65]
        have : andnN (A k) s = 0 := Nat.eq_of_testBit_eq fun q => by
          rw [andnN_test (by omega) (by omega), Nat.zero_testBit]
          cases hb : (A k).testBit q with
          | false => rfl
          | true => rw [HSe.out, HO.out.tr i k q (by rw [← HSe.out]; exact hkM) hb]; rfl
        rw [this]; rfl
      obtain ⟨ak, hak⟩ : ∃ ak, ak = A k := ⟨_, rfl⟩
      rw [← hak] at fk ean
      have HW1 := hide (And.intro (And.intro (And.intro k1 (And.intro k2 (And.intro k3 (And.intro k4 k5)))) (And.intro k6 k7)) HSub.out)
      have HBY := hide hBY
      have HTY := hide hTY
      have f1 := k1.cell 0
      have l1 := k1.lt
      have f6 := k7.cell 0
      have l6 := k7.lt
      simp only [List.getElem?_toArray, List.getElem?_cons_zero] at f1 f6
      have q0 : (0 : Int) ≤ (k : Int) := by omega
      have q1 : (k : Int) < (n : Int) := by omega
      have HK := hide hk
      clear k1 k2 k3 k4 k5 k6 k7 hsub hBY hTY hkM hAk hak hk hr
      gi_wp2
      refine region_round_still 6 (by kernel_rfl) (by kernel_rfl) (by kernel_rfl) ?_
      simp only [List.take_succ_cons, List.take_zero, List.drop_succ_cons, List.drop_zero]
      repeat still_step
      try refine wpStill_nil ?_
      go_wp2
      simp only [goesOn]
      gi_wp2
      have CD := (Chg.refl [] W).drew
      obtain ⟨⟨⟨k1, k2, k3, k4, k5⟩, k6, k7⟩, k8⟩ := HW1.out
      exact ⟨kf_chg CD (fun s h => by cases h), HBY.out.keep CD List.not_mem_nil, HTY.out.keep CD, ⟨⟨k1.keep CD List.not_mem_nil, k2.keep CD List.not_mem_nil, k3.keep CD List.not_mem_nil, k4.keep CD List.not_mem_nil, k5.trans CD⟩, k6.keep0 CD, k7.keep CD List.not_mem_nil⟩, k8⟩
    case done =>
      rintro D W hD ⟨⟨⟨k1, k2, k3, k4, k5⟩, k6, k7⟩, hsub⟩ hTW hK
      have HW1 := hide (And.intro (And.intro k1 (And.intro k2 (And.intro k3 (And.intro k4 k5)))) (And.intro (k6.push (V := W.heap.size) (by omega) (by omega) (Array.getElem?_eq_some_iff.1 hK).1 hK) hTW))
      clear k1 k2 k3 k4 k5 k6 k7 hsub hTW hK
      go_wp2
      refine ⟨⟨i + 1, _, ⟨by omega, HW1⟩, _, _, _, _, _, _, _, _, _, _, _, _, _, _, _, _, _, _, _, _, _, _, _, _, _, by go_num⟩, ?_⟩
      simp [intOf]
      omega
  · have d5 : decide ((i : Int) < (n : Int)) = false := by simp; omega
    obtain rfl : i = n := by omega
    obtain ⟨⟨k1, k2, k3, k4, k5⟩, kM, kT⟩ := hI.out
    obtain ⟨⟨f0, f1, f2, f3, f4, f5, f6⟩, l3⟩ := ord_all k4
    obtain ⟨⟨p0, p1, p2, p3, p4, p5, p6⟩, l4⟩ := ord_all (A := fun _ => 0) (n := 0) k2
    obtain ⟨g0, g1, g2, g3, g4, g5, g6⟩ := ord_free k2
    have c3 := k3.cell 0
    have z3 := k3.free 0
    have l5 := k3.lt
    simp only [List.getElem?_toArray, List.getElem?_cons_zero] at c3
    have HK2 := hide k2
    have HK3 := hide k3
    have HK5 := hide k5
    have HKM := hide kM
    clear k1 k2 k3 k4 k5 kM kT hI
    go_wp2
    have cs1 := chg_put (S := [Z + 1]) (B := Z + 1) (Chg.refl _ wr) (.inl (by simp)) (u0 := .int .i64 (i : Int)) (u1 := .int .i64 (A 0 : Int)) (u2 := .int .i64 (A 1 : Int)) (u3 := .int .i64 (A 2 : Int)) (u4 := .int .i64 (A 3 : Int)) (u5 := .int .i64 (A 4 : Int)) (u6 := .int .i64 (A 5 : Int))
    have hb2 := ord_put (m := i) (C := A) (n := 0) (A := fun _ => 0) HK2.out
    generalize (((((((wr.setCell ⟨Z + 1, 0, none⟩ (.int .i64 (i : Int))).setCell ⟨Z + 1, 1, none⟩ (.int .i64 (A 0 : Int))).setCell ⟨Z + 1, 2, none⟩ (.int .i64 (A 1 : Int))).setCell ⟨Z + 1, 3, none⟩ (.int .i64 (A 2 : Int))).setCell ⟨Z + 1, 4, none⟩ (.int .i64 (A 3 : Int))).setCell ⟨Z + 1, 5, none⟩ (.int .i64 (A 4 : Int))).setCell ⟨Z + 1, 6, none⟩ (.int .i64 (A 5 : Int))) = Wp at cs1 hb2 ⊢
    have hn : ∀ y, y ≠ Z + 1 → y ∉ [Z + 1] := fun y hy hm => hy (List.mem_singleton.1 hm)
    have hb3 := HK3.out.keep cs1 (hn _ (by omega))
    have hcw := HK5.out.trans' cs1 (fun x hx => .inr (by rw [List.mem_singleton] at hx; omega))
    have hM1 := HKM.out.keep cs1 (fun x hx o ho => by
      rw [List.mem_singleton] at hx
      subst hx
      rw [show wr.heap[Z + 1]? = _ from HK2.out] at ho
      cases ho; rfl)
    have cs2 := Chg.set Wp ⟨Z + 1 + 1, 0, none⟩ (.bool true)
    have hn2 : ∀ y, y ≠ Z + 1 + 1 → y ∉ [(⟨Z + 1 + 1, 0, none⟩ : Addr).block] := fun y hy hm => hy (List.mem_singleton.1 hm)
    have hM2 := hM1.keep cs2 (fun x hx o ho => by
      rw [List.mem_singleton] at hx
      have hx : x = Z + 1 + 1 := hx
      subst hx
      rw [show Wp.heap[Z + 1 + 1]? = _ from hb3] at ho
      cases ho; rfl)
    refine leavesM (B := Z) (U := wr.heap.size) (K := fun W' => Box W' (Z + 1) (ordC i A) 72 ∧ Box W' (Z + 1 + 1) #[.bool true] 4 ∧ Chg [] w W') (fun _ W1 W2 row hs hg hr => ⟨hs.1.row hg hr, hs.2.1.row hg hr, hs.2.2.row' (Nat.le_of_eq hZ) hg hr⟩) (fun W' hs => ?_) _ _ hM2 ⟨hb2.keep cs2 (hn2 _ (by omega)), hb3.set1 _, hcw.setCell (.inr (by show w.heap.size ≤ Z + 1 + 1; omega)) _⟩
    obtain ⟨⟨q0, q1, q2, q3, q4, q5, q6⟩, q7⟩ := ord_all hs.1
    have q8 := hs.2.1.cell 0
    simp only [List.getElem?_toArray, List.getElem?_cons_zero] at q8
    refine ⟨.tuple #[.agg (ordC i A), .bool true], ?_, rfl, hs.2.2⟩
    unfold ordC
    simp [results, Tryd.results48, go_sem, q0, q1, q2, q3, q4, q5, q6, q8]
end Go.Proofs.YtpplihpfjniacaaDoor
