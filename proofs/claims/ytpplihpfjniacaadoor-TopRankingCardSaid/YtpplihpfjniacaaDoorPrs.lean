/- Slices of pairs (ported from talk). -/
import Derived.Test.YtpplihpfjniacaaDoorRg2
namespace Go.Proofs.YtpplihpfjniacaaDoor
open Go.RowKit

theorem add_in (a : Addr) (x : Nat) {j : Nat} (hj : 1 ≤ j) : a.add (x + j) = ⟨(a.add x).block, (a.add x).off + j, none⟩ := by
  unfold Addr.add
  rw [if_neg (by omega)]
  split
  · rename_i h; subst h; simp
  · simp [Nat.add_assoc]
abbrev Pr := Int × Int
def pr0 : Pr := (0, 0)
def prCells (x : Pr) : Array Value := #[.int .i64 x.1, .int .i64 x.2]
def prV (x : Pr) : Value := .agg #[.int .i64 x.1, .int .i64 x.2]
theorem infoPair : (Tryd.prog.info? 35).map (fun i => (i.zero, i.size, i.bytes)) = some (some (.agg #[.int .i64 0, .int .i64 0]), 2, 16) := by kernel_rfl
def flatP (ps : List Pr) : List Value := ps.flatMap fun x => (prCells x).toList
theorem flatP_len : ∀ ps : List Pr, (flatP ps).length = ps.length * 2
  | [] => rfl
  | x :: ps => by
    have := flatP_len ps
    unfold flatP at this ⊢
    rw [List.flatMap_cons, List.length_append, this, List.length_cons]
    show 2 + _ = _
    omega
theorem flatP_at : ∀ (ps : List Pr) (i k : Nat), i < ps.length → k < 2 → (flatP ps)[i * 2 + k]? = (prCells (ps.getD i pr0))[k]?
  | [], i, k, hi, _ => by simp at hi
  | x :: ps, 0, k, _, hk => by
    unfold flatP
    rw [List.flatMap_cons, List.getElem?_append_left (by show _ < 2; omega)]
    simp
  | x :: ps, i + 1, k, hi, hk => by
    have := flatP_at ps i k (by simpa using hi) hk
    unfold flatP at this ⊢
    rw [List.flatMap_cons, List.getElem?_append_right (by show 2 ≤ _; omega)]
    show ((List.flatMap _ ps))[(i + 1) * 2 + k - 2]? = _
    rw [show (i + 1) * 2 + k - 2 = i * 2 + k by omega, this]
    rfl
theorem flatP_snoc (ps : List Pr) (x : Pr) : flatP (ps ++ [x]) = flatP ps ++ (prCells x).toList := by
  unfold flatP
  rw [List.flatMap_append]
  simp
theorem flatP_one (ps : List Pr) : ∀ u ∈ flatP ps, u.oneCell' = true := by
  intro u hu
  obtain ⟨x, _, hx⟩ := List.mem_flatMap.1 hu
  simp [prCells] at hx
  rcases hx with rfl | rfl <;> rfl
theorem pr_one (x : Pr) : ∀ u ∈ (prCells x).toList, u.oneCell' = true := by
  intro u hu
  simp [prCells] at hu
  rcases hu with rfl | rfl <;> rfl
theorem pr_news (w : World) (x : Pr) (T : TypeId) {g : Nat} (hg : g = w.heap.size) : ∀ j u, (prCells x).toList[j]? = some u → (w.alloc (.cells (prCells x) T)).cell? ((⟨g, 0, none⟩ : Addr).add j) = some u := by
  intro j u hj
  subst hg
  rw [add_zero_row, (Box.new w (prCells x) T).cell j]
  simpa using hj
/-- A slice of these pairs, wherever it lies. -/
def SeeP (w : World) (v : Value) (ps : List Pr) : Prop :=
  ∃ ao cap, v = .slice ao ps.length cap ∧ ps.length ≤ cap ∧ (ps ≠ [] → ∃ a, ao = some a ∧ a.block < w.heap.size ∧ ∀ i, i < ps.length → w.cell? (a.add (i * 2)) = some (.int .i64 (ps.getD i pr0).1) ∧ w.cell? (a.add (i * 2 + 1)) = some (.int .i64 (ps.getD i pr0).2))
theorem SeeP.keep {w w' : World} {v : Value} {ps : List Pr} (h : SeeP w v ps) (hc : Chg [] w w') : SeeP w' v ps := by
  obtain ⟨ao, cap, e, hle, hA⟩ := h
  refine ⟨ao, cap, e, hle, fun hne => ?_⟩
  obtain ⟨a, rfl, hb, hx⟩ := hA hne
  have k : ∀ j, w'.cell? (a.add j) = w.cell? (a.add j) := fun j => hc.cellA (by rw [add_block]; exact hb) List.not_mem_nil
  refine ⟨a, rfl, Nat.lt_of_lt_of_le hb hc.size, fun i hi => ?_⟩
  rw [k, k]
  exact hx i hi
theorem SeeP.shape {w : World} {v : Value} {ps : List Pr} (h : SeeP w v ps) : ∃ ao cap, v = .slice ao ps.length cap ∧ ps.length ≤ cap := by
  obtain ⟨ao, cap, e, hle, _⟩ := h
  exact ⟨ao, cap, e, hle⟩
theorem SeeP.open {w : World} {v : Value} {ps : List Pr} (h : SeeP w v ps) (hne : ps ≠ []) : ∃ a cap, v = .slice (some a) ps.length cap ∧ a.block < w.heap.size ∧ ∀ wr, Chg [] w wr → ∀ i, i < ps.length →
    wr.cell? (a.add (i * 2)) = some (.int .i64 (ps.getD i pr0).1) ∧ wr.cell? ⟨(a.add (i * 2)).block, (a.add (i * 2)).off + 1, none⟩ = some (.int .i64 (ps.getD i pr0).2) := by
  obtain ⟨ao, cap, rfl, _, hA⟩ := h
  obtain ⟨a, rfl, hb, hx⟩ := hA hne
  refine ⟨a, cap, rfl, hb, fun wr hw i hi => ?_⟩
  have k : ∀ j, wr.cell? (a.add j) = w.cell? (a.add j) := fun j => hw.cellA (by rw [add_block]; exact hb) List.not_mem_nil
  rw [← add_in a (i * 2) (by decide : 1 ≤ 1), k, k]
  exact hx i hi
/-- A row of pairs that the call itself made. -/
theorem pairs_see {w : World} {base : Nat} {v : Value} {ps : List Pr} (h : w.ownsRow base 35 2 v ps.length (flatP ps)) : SeeP w v ps := by
  rcases h.2 with ⟨rfl, hn⟩ | ⟨g, cap, cur, rfl, hb, hg, hle, hcap, hsz, ht⟩
  · exact ⟨none, 0, by rw [hn], by omega, fun hne => absurd (List.length_eq_zero_iff.1 hn) hne⟩
  · refine ⟨some ⟨g, 0, none⟩, cap, rfl, hle, fun _ => ⟨_, rfl, (Array.getElem?_eq_some_iff.1 hg).1, fun i hi => ?_⟩⟩
    have key : ∀ k u, k < 2 → (prCells (ps.getD i pr0))[k]? = some u → w.cell? ((⟨g, 0, none⟩ : Addr).add (i * 2 + k)) = some u := fun k u hk hu => by
      rw [add_zero_row, cell_of_row w g _ cur 35 (0, 0) hg]
      have h1 := flatP_at ps i k hi hk
      rw [hu, ← ht, List.getElem?_take] at h1
      split at h1
      · simpa using h1
      · cases h1
    exact ⟨key 0 _ (by omega) rfl, key 1 _ (by omega) rfl⟩

@[go_sem] theorem run_eql_pairs_nil (w : World) (a : Option Addr) (l c : Nat) : (binOp .eql 34 (.slice a l c) (.slice none 0 0)).run Tryd.prog w = .ok (.bool a.isNone) w := by
  simp only [binOp]
  simp [run_equal_slice_nil w _ _ a l c Tryd.underlying34]

set_option maxRecDepth 100000 in
set_option maxHeartbeats 1000000 in
set_option maxRecDepth 100000 in
set_option maxHeartbeats 1000000 in
theorem Index_pairs (F : FuncId) (cp : Array Value) (P : Pr → Bool) (v : Value) (t : List Pr) (w : World) (hv : SeeP w v t) (hl : t.length ≤ 1000000)
    (hcall : ∀ args W, (callFunc F args).run Tryd.prog W = .ok (.enter F args) W) (hF : ∀ r ws, r ∈ t → Chg [] w ws → Calls Tryd.prog F (#[prV r] ++ cp) ws (Ret (.bool (P r)) ws)) :
    Calls Tryd.prog 73 #[v, .func (.func F) #[] cp] w fun e w' => ∃ r : Int, e = .returned (.int .i64 r) ∧ decide (0 ≤ r) = t.any P ∧ Chg [] w w' := by
  obtain ⟨ao, cap, rfl, _⟩ := hv.shape
  have HV := hide hv
  have HF := hide hF
  clear hv hF
  generalize hn : t.length = n at *
  have HN := hide hn
  clear hn
  go_enter Tryd.func73, Tryd.ntmps73
  go_wp2
  go_loopw [8] (fun i wr => ∃ j : Nat, j ≤ n ∧ i = .int .i64 (j : Int) ∧ Hid ((∀ q, q < j → P (t.getD q pr0) = false) ∧ Chg [] w wr)) (fun i _ => (n - (intOf i).toNat))
  case atStart => exact ⟨0, Nat.zero_le _, rfl, hide ⟨fun q h => by omega, Chg.refl _ _⟩⟩
  case round =>
    obtain ⟨j, hj, rfl, hI⟩ := hrel
    by_cases hlt : j < n
    · have d1 : decide ((j : Int) < (n : Int)) = true := by simpa using hlt
      have nx : t ≠ [] := fun h => by have := HN.out; rw [h] at this; simp at this; omega
      obtain ⟨a, cap', e, _, hc⟩ := HV.out.open nx
      obtain ⟨rfl, hn1, rfl⟩ : ao = some a ∧ n = t.length ∧ cap = cap' := by simpa using e
      obtain ⟨fx, fy⟩ := hc wr hI.out.2 j (by rw [HN.out]; exact hlt)
      have HMem : Hid (t.getD j pr0 ∈ t) := hide (by
        rw [List.getD_eq_getElem?_getD, List.getElem?_eq_getElem (by rw [HN.out]; exact hlt)]
        exact List.getElem_mem _)
      have HC := hide (HF.out _ wr HMem.out hI.out.2)
      obtain ⟨x, hxe⟩ : ∃ x, x = t.getD j pr0 := ⟨_, rfl⟩
      rw [← hxe] at fx fy HC HMem
      have HXE := hide hxe
      unfold prV at HC
      have j0 : (0 : Int) ≤ (j : Int) := by omega
      have j1 : (j : Int) < (n : Int) := by omega
      clear nx hc hxe e hn1
      go_wp2_with fail
      refine HC.out.mono ?_
      rintro e w1 ⟨rfl, hw1⟩
      cases hp : P x with
      | true =>
        have HP := hide hp
        clear hp
        go_wp2
        go_ret
        refine ⟨_, rfl, ?_, hI.out.2.trans hw1⟩
        have : t.any P = true := List.any_eq_true.2 ⟨x, HMem.out, HP.out⟩
        rw [this]
        simp
      | false =>
        have HP := hide hp
        clear hp
        go_wp2
        go_roundw
        case rel => exact ⟨j + 1, by omega, by go_num, hide ⟨fun q hq => by
          rcases (show q < j ∨ q = j by omega) with h | rfl
          · exact hI.out.1 q h
          · rw [← HXE.out]; exact HP.out, hI.out.2.trans hw1⟩⟩
        case measure => simp [intOf]; omega
    · have d1 : decide ((j : Int) < (n : Int)) = false := by simpa using hlt
      go_wp2
      go_ret
      refine ⟨_, rfl, ?_, hI.out.2⟩
      have : t.any P = false := by
        rw [Bool.eq_false_iff]
        intro h
        obtain ⟨x, hx, hp⟩ := List.any_eq_true.1 h
        obtain ⟨q, hq, he⟩ := List.getElem_of_mem hx
        have := hI.out.1 q (by rw [HN.out] at hq; omega)
        rw [List.getD_eq_getElem?_getD, List.getElem?_eq_getElem hq] at this
        simp only [Option.getD_some, he, hp] at this
        cases this
      rw [this]
      decide

set_option maxRecDepth 100000 in
set_option maxHeartbeats 1000000 in
theorem Contains_pairs (F : FuncId) (cp : Array Value) (P : Pr → Bool) (v : Value) (t : List Pr) (w : World) (hv : SeeP w v t) (hl : t.length ≤ 1000000)
    (hcall : ∀ args W, (callFunc F args).run Tryd.prog W = .ok (.enter F args) W) (hF : ∀ r ws, r ∈ t → Chg [] w ws → Calls Tryd.prog F (#[prV r] ++ cp) ws (Ret (.bool (P r)) ws)) :
    Calls Tryd.prog 38 #[v, .func (.func F) #[] cp] w (Ret (.bool (t.any P)) w) := by
  have HI := hide (Index_pairs F cp P v t w hv hl hcall hF)
  clear hF hv hcall
  go_enter Tryd.func38, Tryd.ntmps38
  go_wp2_with fail
  refine HI.out.mono ?_
  rintro e w1 ⟨r, rfl, hr, hc⟩
  have HR := hide hr
  clear hr
  go_wp2
  go_ret
  exact ⟨by rw [← HR.out]; rfl, hc⟩

end Go.Proofs.YtpplihpfjniacaaDoor
