/- Walk: fewest, the reference's. -/
import Derived.Test.YtaapamoglgpocaaRCov2
namespace Go.Proofs.Ytaapamoglgpocaa
open Go.RowKit

theorem wrap_i8s {n : Int} (h0 : 0 ≤ n) (h1 : n < 128) : IntKind.i8.wrap n = n := by
  have h : IntKind.i8.wrap n = (n + 128) % 256 - 128 := by
    simp [IntKind.wrap, IntKind.bits, IntKind.signed]
    split <;> omega
  omega

/-- A row of small ints that the call itself writes. -/
def I8Tab (w : World) (A n : Nat) (f : Nat → Int) : Prop := ∃ cur, Box w A cur 139 ∧ cur.size = n ∧ ∀ i, i < n → cur[i]? = some (.int .i8 (f i))
theorem I8Tab.lt {w : World} {A n : Nat} {f : Nat → Int} (h : I8Tab w A n f) : A < w.heap.size := by obtain ⟨c, h, _⟩ := h; exact h.lt
theorem I8Tab.keep {w w' : World} {A n : Nat} {f : Nat → Int} {S : List Nat} (h : I8Tab w A n f) (hc : Chg S w w') (hs : A ∉ S) : I8Tab w' A n f := by
  obtain ⟨c, h, hc'⟩ := h
  exact ⟨c, h.keep hc hs, hc'⟩
theorem I8Tab.cell {w : World} {A n : Nat} {f : Nat → Int} (h : I8Tab w A n f) {i : Nat} (hi : i < n) : w.cell? ⟨A, i, none⟩ = some (.int .i8 (f i)) := by
  obtain ⟨c, h, _, hc⟩ := h
  rw [h.cell]; exact hc i hi
theorem I8Tab.free {w : World} {A n : Nat} {f : Nat → Int} (h : I8Tab w A n f) (i : Nat) : w.frozen? ⟨A, i, none⟩ = false := by
  obtain ⟨c, h, _⟩ := h
  exact h.free i
theorem I8Tab.set {w : World} {A n : Nat} {f g : Nat → Int} (h : I8Tab w A n f) (i : Nat) (v : Int) (hg : ∀ j, j < n → g j = if j = i then v else f j) : I8Tab (w.setCell ⟨A, i, none⟩ (.int .i8 v)) A n g := by
  obtain ⟨c, h, hs, hc⟩ := h
  refine ⟨_, h.set i _, by simpa using hs, fun j hj => ?_⟩
  rw [hg j hj]
  by_cases hij : j = i
  · subst hij
    rw [Array.getElem?_setIfInBounds_self, if_pos (by omega), if_pos rfl]
  · rw [Array.getElem?_setIfInBounds_ne (Ne.symm hij), hc j hj, if_neg hij]
theorem I8Tab.made {w : World} {g n base : Nat} (h : w.ownsRow base 139 1 (.slice (some ⟨g, 0, none⟩) n n) n (madeCells (Value.int .i8 0).cells (n * 1)).toList) : I8Tab w g n (fun _ => 0) := by
  rcases h.2 with ⟨h, _⟩ | ⟨g', cap', cur, he, hb, hg, hle, hm, hsz, ht⟩
  · cases h
  · cases he
    have hcells : (Value.int .i8 0).cells = #[.int .i8 0] := rfl
    rw [hcells, toList_madeCells_one, Nat.mul_one] at ht
    refine ⟨cur, hg, by omega, fun i hi => ?_⟩
    have e : (List.replicate n (Value.int .i8 0))[i]? = some (.int .i8 0) := by rw [List.getElem?_replicate, if_pos hi]
    rw [← ht, List.getElem?_take, if_pos hi] at e
    simpa using e

/-- The memory of fewest: what it says is right. -/
def FwMem (w : World) (A N : Nat) (S : List Nat) (once : Bool) : Prop := ∃ f : Nat → Int, I8Tab w A N f ∧ ∀ x, x < N → f x = 0 ∨ f x = (fewN S once x : Int)
theorem FwMem.keep {w w' : World} {A N : Nat} {S : List Nat} {once : Bool} {Z : List Nat} (h : FwMem w A N S once) (hc : Chg Z w w') (hs : A ∉ Z) : FwMem w' A N S once := by
  obtain ⟨f, h1, h2⟩ := h
  exact ⟨f, h1.keep hc hs, h2⟩
def FwOk (w0 : World) (A N : Nat) (vs : Value) (S : List Nat) (once : Bool) (F : Nat) : Prop := ∀ (left : Nat) (w : World), left < N → left < F → Chg [A] w0 w → FwMem w A N S once →
  Calls Try.prog 83 #[vs, .int .i64 (left : Int), .bool once, .slice (some ⟨A, 0, none⟩) N N] w
    fun e w' => e = .returned (.int .i64 (fewN S once left : Int)) ∧ Chg [A] w0 w' ∧ FwMem w' A N S once
theorem foldl_take_succ {l : List Nat} {f : Nat → Nat → Nat} {b k : Nat} (h : k < l.length) : (l.take (k + 1)).foldl f b = f ((l.take k).foldl f b) (l.getD k 0) := by
  have e : l.take (k + 1) = l.take k ++ [l.getD k 0] := by
    rw [List.take_add_one, List.getElem?_eq_getElem h, List.getD_eq_getElem?_getD, List.getElem?_eq_getElem h]
    rfl
  rw [e, List.foldl_append]; rfl

set_option maxRecDepth 100000 in
set_option maxHeartbeats 4000000 in
theorem fewest_step (w0 : World) (A N : Nat) (vs : Value) (S : List Nat) (once : Bool) (F : Nat) (hv : ∀ ws, Chg [A] w0 ws → See ws vs (S.map fun s : Nat => (s : Int))) (hS : ∀ s ∈ S, s < N) (hl : S.length ≤ 256) (hN : N = 65536) (ih : FwOk w0 A N vs S once F) : FwOk w0 A N vs S once (F + 1) := by
  have kmin := fun w ts t x y => @run_min_2 Try.prog w ts t x y
  intro left w hL hF hw hm
  have HV := hide hv
  obtain ⟨ao, cap, rfl⟩ := (hv w0 (Chg.refl _ _)).shape
  rw [List.length_map] at *
  have HS := hide hS
  have HIH := hide ih
  have HFu := hide hF
  have HW := hide hw
  have HN := hide hN
  have HEq := hide (fewN_eq (S := S) (by rw [← hN]; exact hS) once (left := left) (by omega))
  have hfle := fewN_le S once left
  obtain ⟨f, hf1, hf2⟩ := hm
  have c0 := hf1.cell hL
  have lA := hf1.lt
  have hv0 := hf2 left hL
  have HM := hide (show FwMem w A N S once from ⟨f, hf1, hf2⟩)
  generalize f left = x at c0 hv0
  have HCell : Hid (∀ ws, Chg [A] w0 ws → ∀ k, k < S.length → ∃ a, ao = some a ∧ ws.cell? (a.add k) = some (.int .i64 (S.getD k 0 : Nat))) := hide fun ws hws k hk => by
    have hne : S.map (fun s : Nat => (s : Int)) ≠ [] := by
      intro h
      have : S.length = 0 := by simpa using congrArg List.length h
      omega
    obtain ⟨a', cap', e, hx⟩ := (HV.out ws hws).open hne
    rw [List.length_map] at e
    cases e
    refine ⟨a', rfl, ?_⟩
    rw [hx ws (Chg.refl _ _) k (by rw [List.length_map]; exact hk), List.getD_eq_getElem?_getD, List.getElem?_map, List.getElem?_eq_getElem hk, List.getD_eq_getElem?_getD, List.getElem?_eq_getElem hk]
    rfl
  clear hv hS ih hF hw hf1 hf2 hN
  by_cases h0 : left = 0
  · subst h0
    have E : Hid (fewN S once 0 = 0) := hide (by rw [HEq.out]; rfl)
    generalize S.length = n at *
    have d0 : ((0 : Int) == 0) = true := rfl
    go_enter Try.func83, Try.ntmps83
    go_wp2
    go_ret
    exact ⟨by rw [E.out]; rfl, HW.out, HM.out⟩
  · have d0 : ((left : Int) == 0) = false := by simpa using h0
    have i0 : (0 : Int) ≤ (left : Int) := by omega
    have i1 : (left : Int) < (N : Int) := by omega
    have HL := hide hL
    by_cases hx : 0 < x
    · have d1 : decide (0 < x) = true := by simpa using hx
      have E : Hid (x = (fewN S once left : Int)) := hide (by omega)
      have hx17 : x ≤ 17 := by omega
      have hcv : IntKind.i64.wrap x = x := by rw [IntKind.wrap_i64]; omega
      clear hv0 hfle
      generalize S.length = n at *
      go_enter Try.func83, Try.ntmps83
      go_wp2
      go_ret
      exact ⟨by rw [← E.out]; rfl, HW.out, HM.out⟩
    · have d1 : decide (0 < x) = false := by simpa using hx
      have hneg : IntKind.i64.wrap (-(left : Int)) = -(left : Int) := by rw [IntKind.wrap_i64]; have := HN.out; omega
      have hlow := and_neg h0 (by have := HN.out; omega)
      have hlle := andnN_le left (left - 1)
      obtain ⟨lo, hlo⟩ : ∃ lo, lo = lowN left := ⟨_, rfl⟩
      rw [← hlo] at hlow
      have HLo := hide hlo
      have hlo16 : lo < N := by rw [hlo]; unfold lowN; omega
      have H0 := hide h0
      clear hlo hlle hv0 hx h0
      obtain ⟨n, hn⟩ : ∃ n, n = S.length := ⟨_, rfl⟩
      rw [← hn] at hl HCell HIH ⊢
      have HNn := hide hn
      obtain ⟨R, hR⟩ : ∃ R, R = fewN S once left := ⟨_, rfl⟩
      rw [← hR] at hfle HEq ⊢
      have HR := hide hR
      clear hn hR
      go_enter Try.func83, Try.ntmps83
      go_wp2
      go_loopw [9, 26] (fun bv iv wr => ∃ k b : Nat, k ≤ n ∧ b ≤ 17 ∧ bv = .int .i64 (b : Int) ∧ iv = .int .i64 (k : Int) ∧ Hid (b = (S.take k).foldl (stepF once (fewN S once) left) 17 ∧ Chg [A] w0 wr ∧ FwMem wr A N S once)) (fun _ iv _ => (n - (intOf iv).toNat))
      case atStart => exact ⟨0, 17, Nat.zero_le _, Nat.le_refl _, rfl, rfl, hide ⟨rfl, HW.out, HM.out⟩⟩
      case round =>
        obtain ⟨k, b, hk, hb, rfl, rfl, hI⟩ := hrel
        by_cases hlt : k < n
        · have d2 : decide ((k : Int) < (n : Int)) = true := by simpa using hlt
          obtain ⟨a, rfl, fs⟩ := HCell.out wr hI.out.2.1 k hlt
          have hmem : S.getD k 0 ∈ S := by rw [List.getD_eq_getElem?_getD, List.getElem?_eq_getElem (by rw [← HNn.out]; exact hlt)]; exact List.getElem_mem _
          have hs16 := HS.out _ hmem
          have hstep := foldl_take_succ (f := stepF once (fewN S once) left) (b := 17) (l := S) (k := k) (by rw [← HNn.out]; exact hlt)
          rw [← hI.out.1] at hstep
          obtain ⟨s, hs⟩ : ∃ s, s = S.getD k 0 := ⟨_, rfl⟩
          rw [← hs] at fs hs16 hstep
          have HSt := hide hstep
          have HSm : Hid (s ∈ S) := hide (by rw [hs]; exact hmem)
          have HI := hide hI.out.2
          clear hmem hs hstep hI
          have ha1 := (bits_nat .i64 63 (by decide) wraps_i64 s lo (by have := HN.out; omega) (by have := HN.out; omega)).1
          have ha2 := and_not (a := s) (b := left) (by have := HN.out; omega) (by have := HN.out; omega)
          have ha3 := and_not (a := left) (b := s) (by have := HN.out; omega) (by have := HN.out; omega)
          have HOk : Hid (okF once left s = (!decide (s &&& lo = 0) && (!once || decide (andnN s left = 0)))) := hide (by unfold okF; rw [HLo.out])
          have hle1 : s &&& lo ≤ s := Nat.and_le_left
          have hle2 := andnN_le s left
          have hle3 := andnN_le left s
          have HLess : Hid (okF once left s = true → andnN left s < left) := hide (okF_less H0.out (by have := HN.out; have := HL.out; omega) (by have := HN.out; omega))
          have HStep : Hid (stepF once (fewN S once) left b s = if okF once left s = true then min b (1 + fewN S once (andnN left s)) else b) := hide rfl
          have hnl := fewN_le S once (andnN left s)
          obtain ⟨l', hl'⟩ : ∃ l', l' = andnN left s := ⟨_, rfl⟩
          rw [← hl'] at ha3 hle3 HLess HStep hnl
          generalize andnN s left = z2 at *
          generalize s &&& lo = z1 at *
          obtain ⟨nl, hnle⟩ : ∃ nl, nl = fewN S once l' := ⟨_, rfl⟩
          rw [← hnle] at HStep hnl
          have HRec := hide fun (hless : l' < left) ws h1 h2 => HIH.out l' ws (by have := HL.out; omega) (by have := HFu.out; exact Nat.lt_of_lt_of_le hless (by omega)) h1 h2
          rw [← hnle] at HRec
          clear hl' hnle
          have hwr : IntKind.i64.wrap (1 + (nl : Int)) = ((1 + nl : Nat) : Int) := by rw [IntKind.wrap_i64]; omega
          have hmin : imin (b : Int) ((1 + nl : Nat) : Int) = ((min b (1 + nl) : Nat) : Int) := by unfold imin; split <;> omega
          obtain ⟨n2, hn2⟩ : ∃ n2, n2 = 1 + nl := ⟨_, rfl⟩
          rw [← hn2] at hwr hmin HStep
          have hmn17 : min b n2 ≤ 17 := by omega
          obtain ⟨mn, hmn⟩ : ∃ mn, mn = min b n2 := ⟨_, rfl⟩
          rw [← hmn] at hmin HStep hmn17
          clear hn2 hmn
          by_cases hz1 : z1 = 0
          · have e1 : ((z1 : Int) != 0) = false := by simp [hz1]
            have HNo : Hid ((S.take (k + 1)).foldl (stepF once (fewN S once) left) 17 = b) := hide (by
              rw [HSt.out, HStep.out, HOk.out, decide_eq_true hz1]; rfl)
            clear hz1
            go_wp2
            go_roundw
            case rel => exact ⟨k + 1, b, by omega, hb, rfl, by go_num, hide ⟨HNo.out.symm, HI.out⟩⟩
            case measure => simp [intOf]; omega
          · have e1 : ((z1 : Int) != 0) = true := by simp; omega
            have hd1 : decide (z1 = 0) = false := by simpa using hz1
            rw [hd1, Bool.not_false, Bool.true_and] at HOk
            clear hz1 hd1
            have K2 : Hid (okF once left s = true → stepF once (fewN S once) left b s = mn) := hide fun h => by rw [HStep.out, if_pos h]
            have K3 : Hid (okF once left s = false → stepF once (fewN S once) left b s = b) := hide fun h => by rw [HStep.out, h]; rfl
            clear HStep
            cases once with
            | false =>
              have hok : okF false left s = true := by rw [HOk.out]; rfl
              have E : Hid ((S.take (k + 1)).foldl (stepF false (fewN S false) left) 17 = mn) := hide (by rw [HSt.out, K2.out hok])
              have HR2 := hide fun ws => HRec.out (HLess.out hok) ws
              clear hok HRec HLess HOk K2 K3 HSt
              go_wp2_with fail
              refine (HR2.out _ HI.out.1 HI.out.2).mono ?_
              rintro e w3 ⟨rfl, hw3, hm3⟩
              have HI3 := hide (And.intro hw3 hm3)
              clear hw3 hm3
              go_wp2
              go_roundw
              case rel => exact ⟨k + 1, mn, by omega, hmn17, rfl, by go_num, hide ⟨E.out.symm, HI3.out⟩⟩
              case measure => simp [intOf]; omega
            | true =>
              by_cases hz2 : z2 = 0
              · have e2 : ((z2 : Int) == 0) = true := by simpa using hz2
                have hok : okF true left s = true := by rw [HOk.out, decide_eq_true hz2]; rfl
                have E : Hid ((S.take (k + 1)).foldl (stepF true (fewN S true) left) 17 = mn) := hide (by rw [HSt.out, K2.out hok])
                have HR2 := hide fun ws => HRec.out (HLess.out hok) ws
                clear hok HRec HLess HOk K2 K3 HSt hz2
                go_wp2_with fail
                refine (HR2.out _ HI.out.1 HI.out.2).mono ?_
                rintro e w3 ⟨rfl, hw3, hm3⟩
                have HI3 := hide (And.intro hw3 hm3)
                clear hw3 hm3
                go_wp2
                go_roundw
                case rel => exact ⟨k + 1, mn, by omega, hmn17, rfl, by go_num, hide ⟨E.out.symm, HI3.out⟩⟩
                case measure => simp [intOf]; omega
              · have e2 : ((z2 : Int) == 0) = false := by simpa using hz2
                have hok : okF true left s = false := by rw [HOk.out, decide_eq_false hz2]; rfl
                have E : Hid ((S.take (k + 1)).foldl (stepF true (fewN S true) left) 17 = b) := hide (by rw [HSt.out, K3.out hok])
                clear hok HRec HLess HOk K2 K3 HSt hz2
                go_wp2
                go_roundw
                case rel => exact ⟨k + 1, b, by omega, hb, rfl, by go_num, hide ⟨E.out.symm, HI.out⟩⟩
                case measure => simp [intOf]; omega
        · have d2 : decide ((k : Int) < (n : Int)) = false := by simpa using hlt
          obtain rfl : k = n := by omega
          have E : Hid (b = R) := hide (by rw [hI.out.1, HEq.out, if_neg H0.out, HNn.out, List.take_length])
          obtain ⟨hb0, CC, f2, hf2, hf3⟩ := hI.out
          have fr := hf2.free left
          have fc2 := hf2.cell HL.out
          have lA2 := hf2.lt
          have HF2 := hide (And.intro hf2 hf3)
          have HCC := hide CC
          have hc8 : IntKind.i8.wrap (b : Int) = (b : Int) := wrap_i8s (by omega) (by omega)
          clear hf2 hf3 CC hI hb0
          go_wp2
          go_ret
          refine ⟨by rw [E.out]; rfl, HCC.out.setCell (.inl (by simp)) _, _, HF2.out.1.set left (b : Int) (fun j _ => rfl), fun y hy => ?_⟩
          by_cases hyl : y = left
          · rw [if_pos hyl, hyl, E.out, HR.out]; exact .inr rfl
          · rw [if_neg hyl]; exact HF2.out.2 y hy
end Go.Proofs.Ytaapamoglgpocaa
