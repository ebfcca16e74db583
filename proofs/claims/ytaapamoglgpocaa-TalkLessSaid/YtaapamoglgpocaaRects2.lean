/- Walk: the iterator rectangles for a loop that fills a row. -/
import Derived.Test.YtaapamoglgpocaaPartP
namespace Go.Proofs.Ytaapamoglgpocaa
open Go.RowKit Go.Shelf
attribute [local go_sem] Oper.semAt_some

/-- The block of the row that a box holds. -/
def OwnAll (Z : Nat) (w : World) (k : Nat) : Prop := ∃ v T, w.heap[Z]? = some (.cells #[v] T (0, 0)) ∧ v.ownBlock = some k
theorem OwnAll.same {Z : Nat} {a w : World} {k : Nat} (h : w.heap[Z]? = a.heap[Z]?) (hk : OwnAll Z w k) : OwnAll Z a k := by
  obtain ⟨v, T, e, h2⟩ := hk
  exact ⟨v, T, by rw [← h]; exact e, h2⟩
/-- What a round keeps: all cells but the box and the row that it holds. -/
def KO (Z : Nat) (a w : World) : Prop := (w.os = a.os ∧ w.tape = a.tape ∧ w.output = a.output ∧ a.heap.size ≤ w.heap.size) ∧ (∀ k o, k ≠ Z → ¬ OwnAll Z a k → a.heap[k]? = some o → o.isCells = true → w.heap[k]? = some o) ∧ ∀ k, OwnAll Z w k → OwnAll Z a k ∨ a.heap.size ≤ k
theorem KO.trans {Z : Nat} {a b c : World} (h : KO Z a b) (k : KO Z b c) : KO Z a c :=
  ⟨⟨k.1.1.trans h.1.1, k.1.2.1.trans h.1.2.1, k.1.2.2.1.trans h.1.2.2.1, Nat.le_trans h.1.2.2.2 k.1.2.2.2⟩,
   fun i _ hi hn ho hc => k.2.1 i _ hi (fun hb => by
     rcases h.2.2 i hb with h' | h'
     · exact hn h'
     · have := (Array.getElem?_eq_some_iff.1 ho).1
       omega) (h.2.1 i _ hi hn ho hc) hc,
   fun i hi => by
     rcases k.2.2 i hi with h' | h'
     · exact h.2.2 i h'
     · exact .inr (Nat.le_trans h.1.2.2.2 h')⟩
theorem KO.ofChg {Z : Nat} {a w : World} (h : Chg [] a w) (hZ : Z < a.heap.size) : KO Z a w :=
  ⟨⟨h.os, h.tape, h.output, h.size⟩, fun k _ _ _ ho _ => (h.block k (Array.getElem?_eq_some_iff.1 ho).1 List.not_mem_nil).trans ho, fun _ hk => .inl (hk.same (h.block Z hZ List.not_mem_nil))⟩
theorem KO.put {Z : Nat} (W : World) (l : Nat) (o o' : Obj) (hl : l ≠ Z) (h : W.heap[l]? = some o) (ho : o.isCells = false) : KO Z W (W.putObj l o') := by
  have hg := grownBy_putObj' W l o'
  have hz : ∀ k, k < W.heap.size → k ≠ l → (W.putObj l o').heap[k]? = W.heap[k]? := fun k hk hkl => hg.block k hk (fun e => by cases e; exact hkl rfl)
  refine ⟨⟨hg.os, hg.tape, hg.output, hg.size⟩, fun k u _ _ hu hc => ?_, fun k hk => .inl ?_⟩
  · by_cases hk : k = l
    · subst hk
      rw [h] at hu
      cases hu
      rw [ho] at hc
      cases hc
    · exact (hz k (Array.getElem?_eq_some_iff.1 hu).1 hk).trans hu
  · refine hk.same ?_
    rcases Nat.lt_or_ge Z W.heap.size with h' | h'
    · exact hz Z h' (Ne.symm hl)
    · rw [World.putObj_heap_other (Ne.symm hl)]
theorem KO.box {Z : Nat} {a w : World} (h : KO Z a w) {A : Nat} {cs : Array Value} {T : TypeId} (hb : Box a A cs T) (hA : A ≠ Z) (hn : ¬ OwnAll Z a A) : Box w A cs T := h.2.1 A _ hA hn hb rfl
theorem KO.not {Z : Nat} {a w : World} (h : KO Z a w) {A : Nat} {cs : Array Value} {T : TypeId} (hb : Box a A cs T) (hn : ¬ OwnAll Z a A) : ¬ OwnAll Z w A := fun hw => by
  rcases h.2.2 A hw with h' | h'
  · exact hn h'
  · have := hb.lt
    omega

set_option maxRecDepth 100000 in
set_option maxHeartbeats 2000000 in
theorem rect_gives2 (tv : Value) (t : List (List Int)) (w : World) (Z : Nat) (hv : See2 w tv t) (ht : T.isTab t = true) (hZ : Z < w.heap.size) (hO : ∀ k, ¬ OwnAll Z w k) (R C : Nat) (hR : R = 2 ^ t.length - 1) (hC : C = 2 ^ T.cols t - 1) :
    GivesB Fence.wide (3 - 1) Try.prog 107 #[tv] (encR R C) (KO Z) (fun xs => xs.map Subtype.val = rectsTo C (R * C)) (R * C) w := by
  intro l J W hsz hold hos hAb hY h0
  have hcW : Chg [] w W := ⟨hos.1, hos.2.1, hos.2.2, hsz, fun k hk _ => hold k hk⟩
  have HWh := hide (whole_any tv t W (hv.keep hcW) ht)
  rw [← hR, ← hC] at HWh
  obtain ⟨⟨t1, t2, t3, t4⟩, _⟩ := T.isTab_iff.1 ht
  have hR16 : R < 16 := by rw [hR]; have := pow_le16 t2; omega
  have hC16 : C < 16 := by rw [hC]; have := pow_le16 t4; omega
  obtain ⟨ao, cap, rfl⟩ := hv.shape
  have HSB : Hid (Z < W.heap.size ∧ ∀ k, ¬ OwnAll Z W k) := hide ⟨by omega, fun k hk => hO k (OwnAll.same (hold Z hZ) hk)⟩
  clear hsz hold hos hcW hv ht hR hC t1 t2 t3 t4 hZ hO
  generalize t.length = tl at *
  refine callsIn_of_wp Try.func107 rfl trivial ?_ rfl
  simp only [Try.ntmps107, List.size_toArray, List.length_cons, List.length_nil, Nat.reduceAdd, Nat.reduceSub, Array.replicate_succ, Array.replicate_zero, List.push_toArray, List.append_toArray, List.nil_append, List.cons_append]
  gi_wp2_with fail
  refine ⟨trivial, callsIn_wide.2 (HWh.out.mono ?_)⟩
  rintro e w1 ⟨rfl, hw1⟩
  unfold rectV
  have hJ1 : J [] (w1.alloc (.cells #[.int .i64 (R : Int), .int .i64 (C : Int)] 75)) := by
    have hc := hw1.alloc (.cells #[.int .i64 (R : Int), .int .i64 (C : Int)] 75)
    exact hAb [] W _ none h0 (grown_of_chg hc) (fun r h => by cases h)
  have HB1 := hide (Box.new w1 #[.int .i64 (R : Int), .int .i64 (C : Int)] 75)
  have HBn : Hid (w1.heap.size ≠ Z) := hide (by
    have h1 := HSB.out.1
    have h2 := hw1.size
    omega)
  have HBo : Hid (∀ k, ¬ OwnAll Z (w1.alloc (.cells #[.int .i64 (R : Int), .int .i64 (C : Int)] 75)) k) := hide fun k hk => HSB.out.2 k (OwnAll.same ((hw1.alloc _).block Z HSB.out.1 List.not_mem_nil) hk)
  have HY := hide hY
  clear hw1 hAb h0 hY
  gi_wp2
  generalize w1.heap.size = B at HB1 HBn ⊢
  generalize w1.alloc (.cells #[.int .i64 (R : Int), .int .i64 (C : Int)] 75) = W1 at HB1 hJ1 HBo ⊢
  gi_loopw [5, 6] (fun iv _ wr => ∃ i : Nat, i ≤ R ∧ iv = .int .i64 ((i : Int) + 1) ∧ Hid ((∃ pre : List (Rct R C), pre.map Subtype.val = rectsTo C (i * C) ∧ J pre wr) ∧ Box wr B #[.int .i64 (R : Int), .int .i64 (C : Int)] 75 ∧ ¬ OwnAll Z wr B)) (fun iv _ _ => (R + 1 - (intOf iv).toNat))
  case atStart => exact ⟨0, Nat.zero_le _, rfl, hide ⟨⟨[], by simp [rectsTo], hJ1⟩, HB1.out, HBo.out _⟩⟩
  case round =>
    obtain ⟨i, hi, rfl, hI⟩ := hrel
    have f0 := hI.out.2.1.cell 0
    have f1 := hI.out.2.1.cell 1
    simp only [List.getElem?_toArray, List.getElem?_cons_zero, List.getElem?_cons_succ] at f0 f1
    by_cases hlt : i < R
    · have d1 : decide ((i : Int) + 1 ≤ (R : Int)) = true := by simp; omega
      gi_wp2
      gi_loopw [6] (fun jv wq => ∃ j : Nat, j ≤ C ∧ jv = .int .i64 ((j : Int) + 1) ∧ Hid ((∃ pre : List (Rct R C), pre.map Subtype.val = rectsTo C (i * C + j) ∧ J pre wq) ∧ Box wq B #[.int .i64 (R : Int), .int .i64 (C : Int)] 75 ∧ ¬ OwnAll Z wq B)) (fun jv _ => (C + 1 - (intOf jv).toNat))
      case atStart => exact ⟨0, Nat.zero_le _, rfl, hI⟩
      case round =>
        obtain ⟨j, hj, rfl, hK⟩ := hrel
        have g0 := hK.out.2.1.cell 0
        have g1 := hK.out.2.1.cell 1
        simp only [List.getElem?_toArray, List.getElem?_cons_zero, List.getElem?_cons_succ] at g0 g1
        by_cases hlj : j < C
        · have d2 : decide ((j : Int) + 1 ≤ (C : Int)) = true := by simp; omega
          obtain ⟨pre, hpre, hJs⟩ := hK.out.1
          have hplen : pre.length < R * C := by
            have := congrArg List.length hpre
            rw [List.length_map, rectsTo_len] at this
            rw [this]
            have h1 : (i + 1) * C ≤ R * C := Nat.mul_le_mul_right C hlt
            rw [Nat.succ_mul] at h1
            omega
          obtain ⟨fn, tmps, assign, body, hy, hRd⟩ := HY.out pre ⟨(i + 1, j + 1), ⟨by omega, by omega⟩, by omega, by omega⟩ wr hJs hplen
          have hgo : (pre ++ [(⟨(i + 1, j + 1), ⟨by omega, by omega⟩, by omega, by omega⟩ : Rct R C)]).map Subtype.val = rectsTo C (i * C + (j + 1)) := by
            rw [List.map_append, hpre, show i * C + (j + 1) = (i * C + j) + 1 by omega, rectsTo_succ, rectAt_eq hlj]
            rfl
          unfold encR at hy
          simp only [Int.natCast_add, Int.natCast_one] at hy
          have HG := hide hgo
          have HBk := hide hK.out.2
          clear hgo hpre hplen hK f0 f1
          gi_wp2
          refine hRd.mono ?_
          rintro e W3 ⟨rfl, hJ3, hk3⟩
          have HB3 := hide (And.intro (hk3.box HBk.out.1 HBn.out HBk.out.2) (hk3.not HBk.out.1 HBk.out.2))
          gi_wp2
          go_roundw
          case rel => exact ⟨j + 1, by omega, by go_num, hide ⟨⟨_, HG.out, hJ3⟩, HB3.out⟩⟩
          case measure => simp [intOf]; omega
        · have d2 : decide ((j : Int) + 1 ≤ (C : Int)) = false := by simp; omega
          have hjC : j = C := by omega
          have HK := hide hK.out
          rw [hjC] at HK
          clear hjC hK f0 f1
          gi_wp2
          go_roundw
          case rel =>
            refine ⟨i + 1, by omega, by go_num, hide ⟨?_, HK.out.2⟩⟩
            rw [Nat.succ_mul]
            exact HK.out.1
          case measure => simp [intOf]; omega
    · have d1 : decide ((i : Int) + 1 ≤ (R : Int)) = false := by simp; omega
      obtain rfl : R = i := by omega
      obtain ⟨⟨pre, hpre, hJs⟩, _⟩ := hI.out
      clear hI
      gi_wp2
      go_end0
      exact ⟨⟨_, rfl⟩, pre, hpre, hJs⟩
end Go.Proofs.Ytaapamoglgpocaa
