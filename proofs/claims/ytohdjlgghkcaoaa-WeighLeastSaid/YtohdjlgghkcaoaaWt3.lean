/- Walk: up to which number weights weigh all; the reference's. -/
import Derived.Test.YtohdjlgghkcaoaaWt2
namespace Go.Proofs.Ytohdjlgghkcaoaa
open Go.RowKit Go.Maps

/-- What is met after a weight, of the first q numbers. -/
def nx (S : Int → Bool) (X q : Nat) (m : Nat) : Bool := S m || (List.range q).any fun n => S n && (decide (m = n + X) || decide (m = n - X + (X - n)))
theorem nx_zero (S : Int → Bool) (X m : Nat) : nx S X 0 m = S m := by unfold nx; simp
theorem nx_succ (S : Int → Bool) (X q m : Nat) : nx S X (q + 1) m = (nx S X q m || (S q && (decide (m = q + X) || decide (m = q - X + (X - q))))) := by
  unfold nx
  rw [List.range_succ, List.any_append]
  simp [Bool.or_assoc]
theorem nx_all {S : Int → Bool} {X m : Nat} (hneg : ∀ n, S (-n) = S n) (hle : ∀ n : Nat, S n = true → n ≤ 1000) (hm : m ≤ 1000) : nx S X 1001 m = (S m || S ((m : Int) - X) || S ((m : Int) + X)) := by
  rw [Bool.eq_iff_iff]
  unfold nx
  simp only [Bool.or_eq_true, List.any_eq_true, List.mem_range, Bool.and_eq_true, decide_eq_true_eq]
  constructor
  · rintro (h | ⟨n, _, h, rfl | rfl⟩)
    · exact .inl (.inl h)
    · exact .inl (.inr (by rw [show ((n + X : Nat) : Int) - X = n by omega]; exact h))
    · by_cases hx : X ≤ n
      · exact .inr (by rw [show ((n - X + (X - n) : Nat) : Int) + X = n by omega]; exact h)
      · exact .inl (.inr (by rw [show ((n - X + (X - n) : Nat) : Int) - X = -(n : Int) by omega, hneg]; exact h))
  · rintro ((h | h) | h)
    · exact .inl h
    · by_cases hx : X ≤ m
      · rw [show (m : Int) - X = ((m - X : Nat) : Int) by omega] at h
        exact .inr ⟨m - X, by omega, h, .inl (by omega)⟩
      · rw [show (m : Int) - X = -((X - m : Nat) : Int) by omega, hneg] at h
        have := hle _ h
        exact .inr ⟨X - m, by omega, h, .inr (by omega)⟩
    · rw [show (m : Int) + X = ((m + X : Nat) : Int) by omega] at h
      have := hle _ h
      exact .inr ⟨m + X, by omega, h, .inr (by omega)⟩
theorem total_take {xs : List Int} (hx : ∀ x ∈ xs, 0 ≤ x) : ∀ i, i ≤ xs.length → W.total (xs.take i) ≤ W.total xs := by
  intro i hi
  obtain ⟨d, hd⟩ : ∃ d, d = xs.length - i := ⟨_, rfl⟩
  induction d generalizing i with
  | zero => rw [show i = xs.length by omega, List.take_length]; exact Int.le_refl _
  | succ d ih =>
    have h1 := ih (i + 1) (by omega) (by omega)
    rw [take_snoc (by omega), W.total_snoc] at h1
    have := hx _ (getD_mem (show i < xs.length by omega))
    omega

set_option maxRecDepth 100000 in
set_option maxHeartbeats 4000000 in
theorem RWeighs_any (v : Value) (xs : List Int) (F : Nat) (w : World) (hv : See w v xs) (hl : xs.length ≤ 6) (hx : ∀ x ∈ xs, 1 ≤ x ∧ x ≤ 1000) (ht : W.total xs ≤ 999) (hf : W.IsFar xs F) :
    Calls Try.prog 39 #[v] w (Ret (.int .i64 (F : Int)) w) := by
  obtain ⟨ao, cap, rfl⟩ := hv.shape
  have HV := hide hv
  have HX := hide hx
  have HF := hide hf
  have HX0 : Hid (∀ x ∈ xs, 0 ≤ x) := hide fun x hm => by have := hx x hm; omega
  have HT : Hid (∀ i, i ≤ xs.length → W.total (xs.take i) ≤ 999) := hide fun i hi => Int.le_trans (total_take HX0.out i hi) ht
  clear hv hx hf ht
  obtain ⟨L, hL⟩ : ∃ L, L = xs.length := ⟨_, rfl⟩
  rw [← hL] at hl ⊢
  have HL := hide hL
  clear hL
  go_enter Try.func39, Try.ntmps39
  go_wp2_with (with_reducible refine halt_at 10 ?_)
  have b0 : BArr (w.alloc (.cells Try.zeroCells91 91)) w.heap.size (fun _ => false) := ⟨_, Box.new _ _ _, bools_zero⟩
  have C0 : Hid (Chg [] w (w.alloc (.cells Try.zeroCells91 91))) := hide ((Chg.refl _ _).alloc _)
  have hA : w.heap.size ≤ w.heap.size := Nat.le_refl _
  have l0 := b0.lt
  have f0 := b0.cell (i := 0) (by omega)
  have ff0 := b0.free 0
  have B0 := hide b0
  clear b0
  generalize w.alloc (.cells Try.zeroCells91 91) = W0 at B0 C0 l0 f0 ff0 ⊢
  obtain ⟨A, hAe⟩ : ∃ A, A = w.heap.size := ⟨_, rfl⟩
  rw [← hAe] at B0 l0 f0 ff0 hA ⊢
  have HA : Hid (w.heap.size ≤ A) := hide (by omega)
  clear hAe hA
  refine Halt.go ?_
  go_wp2
  have B1 := hide (B0.out.set 0 (g := fun m => W.rc (xs.take 0) m) (fun j hj => by
    rw [List.take_zero, W.rc_nil]
    by_cases h : j = 0
    · subst h; rfl
    · rw [if_neg h]; simpa using h))
  have C1 : Hid (Chg [] w (W0.setCell ⟨A, 0, none⟩ (.bool true))) := hide (C0.out.setCell (.inr HA.out) _)
  clear f0 ff0 l0
  generalize W0.setCell ⟨A, 0, none⟩ (.bool true) = W1 at B1 C1 ⊢
  go_loopw [13] (fun iv wr => ∃ i : Nat, i ≤ L ∧ iv = .int .i64 (i : Int) ∧ Hid (BArr wr A (fun m => W.rc (xs.take i) m) ∧ Chg [] w wr)) (fun iv _ => L - (intOf iv).toNat)
  case atStart => exact ⟨0, Nat.zero_le _, rfl, hide ⟨B1.out, C1.out⟩⟩
  case round =>
    obtain ⟨i, hi, rfl, hI⟩ := hrel
    by_cases hlt : i < L
    · have d1 : decide ((i : Int) < (L : Int)) = true := by simpa using hlt
      have hne : xs ≠ [] := by rintro rfl; have := HL.out; simp at this; omega
      have hil : i < xs.length := by rw [← HL.out]; exact hlt
      obtain ⟨a, cap', e, hcell⟩ := HV.out.open hne
      cases e
      have fx := hcell _ hI.out.2 i hil
      obtain ⟨x1, x2⟩ := HX.out _ (getD_mem hil)
      obtain ⟨X, hXe⟩ : ∃ X : Nat, (X : Int) = xs.getD i 0 := ⟨(xs.getD i 0).toNat, by omega⟩
      rw [← hXe] at fx x1 x2
      have HXE := hide hXe
      have HIl := hide hil
      clear hcell hne hil hXe
      obtain ⟨cur, hbox, hcur⟩ := hI.out.1
      have hld := load_row hbox hcur
      have hla := hbox.lt
      have hbox2 : Box (wr.alloc (.cells cur 91)) A cur 91 := hbox.old _
      have hld2 := load_row hbox2 hcur
      have hst := store_new (w := wr) hcur bools_zero
      have HCur := hide hcur
      have HBox2 := hide hbox2
      clear hbox hcur hbox2
      go_wp2_with (first
        | (refine wpList_load_arr _ rfl 91 _ rfl _ _ rfl hld ?_)
        | (refine wpList_load_arr _ rfl 91 _ rfl _ _ rfl hld2 ?_)
        | (refine wpList_store_arr _ rfl 91 _ _ rfl _ _ _ rfl rfl hst ?_)
        | go_in)
      have bn : BArr (wr.alloc (.cells cur 91)) wr.heap.size (fun m => W.rc (xs.take i) m) := ⟨cur, Box.new _ _ _, HCur.out⟩
      have CN : Hid (Chg [] w (wr.alloc (.cells cur 91))) := hide (hI.out.2.alloc _)
      have BA := hide (hI.out.1.keep ((Chg.refl [] wr).alloc (.cells cur 91)) List.not_mem_nil)
      have hsz := hI.out.2.size
      have HAn : Hid (w.heap.size ≤ wr.heap.size ∧ A < wr.heap.size) := hide ⟨hsz, hla⟩
      have BN := hide bn
      clear bn hsz hla hld hld2 hst fx
      generalize wr.alloc (.cells cur 91) = W2 at BN CN BA ⊢
      generalize wr.heap.size = An at BN HAn ⊢
      go_loopw [19] (fun qv wq => ∃ q : Nat, q ≤ 1001 ∧ qv = .int .i64 (q : Int) ∧ Hid (BArr wq An (nx (W.rc (xs.take i)) X q) ∧ BArr wq A (fun m => W.rc (xs.take i) m) ∧ Chg [] w wq)) (fun qv _ => 1001 - (intOf qv).toNat)
      case atStart => exact ⟨0, Nat.zero_le _, rfl, hide ⟨BN.out.congr (fun j _ => nx_zero _ _ _), BA.out, CN.out⟩⟩
      case round =>
        obtain ⟨q, hq, rfl, hJ⟩ := hrel
        by_cases hlq : q < 1001
        · have d2 : decide ((q : Int) < 1001) = true := by simp; omega
          have hix := index_row HCur.out hlq
          have hns := nx_succ (W.rc (xs.take i)) X q
          cases hs : W.rc (xs.take i) (q : Int) with
          | false =>
            rw [hs] at hix
            have HNs : Hid (∀ m, nx (W.rc (xs.take i)) X (q + 1) m = nx (W.rc (xs.take i)) X q m) := hide fun m => by rw [hns, hs]; simp
            clear hns hs
            go_wp2
            go_roundw
            case rel => exact ⟨q + 1, by omega, by go_num, hide ⟨hJ.out.1.congr (fun j _ => HNs.out j), hJ.out.2⟩⟩
            case measure => simp [intOf]; omega
          | true =>
            rw [hs] at hix
            have HNs : Hid (∀ m, nx (W.rc (xs.take i)) X (q + 1) m = (nx (W.rc (xs.take i)) X q m || (decide (m = q + X) || decide (m = q - X + (X - q))))) := hide fun m => by rw [hns, hs]; simp
            clear hns hs
            have lb := hJ.out.1.lt
            obtain ⟨D, hD⟩ : ∃ D, D = q - X + (X - q) := ⟨_, rfl⟩
            have HDe := hide hD
            have hD1 : (D : Int) < 1001 := by omega
            have hD0 : (0 : Int) ≤ (D : Int) := by omega
            obtain ⟨y1, e1⟩ : ∃ y1, (q : Int) - (X : Int) = y1 := ⟨_, rfl⟩
            obtain ⟨y2, e2⟩ : ∃ y2, (X : Int) - (q : Int) = y2 := ⟨_, rfl⟩
            have hmax : (if y1 < y2 then y2 else y1) = (D : Int) := by split <;> omega
            have y11 : -1001 ≤ y1 := by omega
            have y12 : y1 ≤ 1001 := by omega
            have y21 : -1001 ≤ y2 := by omega
            have y22 : y2 ≤ 1001 := by omega
            by_cases hle : q + X ≤ 1000
            · obtain ⟨K, hK⟩ : ∃ K, K = q + X := ⟨_, rfl⟩
              have e3 : (q : Int) + (X : Int) = (K : Int) := by omega
              have d3 : decide ((K : Int) ≤ 1000) = true := by simp; omega
              have hK1 : (K : Int) < 1001 := by omega
              have hK0 : (0 : Int) ≤ (K : Int) := by omega
              have bk := hJ.out.1.set K (g := fun m => nx (W.rc (xs.take i)) X q m || decide (m = q + X)) (fun j _ => by
                by_cases h : j = K
                · rw [if_pos h, decide_eq_true (h.trans hK)]; simp
                · rw [if_neg h, decide_eq_false (fun e => h (e.trans hK.symm))]; simp)
              have bd := bk.set D (g := nx (W.rc (xs.take i)) X (q + 1)) (fun j _ => by
                rw [HNs.out, ← HDe.out]
                by_cases h : j = D
                · rw [if_pos h, decide_eq_true h]; simp
                · rw [if_neg h, decide_eq_false h]; simp)
              have H2 : Hid (BArr ((wr.setCell ⟨An, K, none⟩ (.bool true)).setCell ⟨An, D, none⟩ (.bool true)) An (nx (W.rc (xs.take i)) X (q + 1)) ∧ BArr ((wr.setCell ⟨An, K, none⟩ (.bool true)).setCell ⟨An, D, none⟩ (.bool true)) A (fun m => W.rc (xs.take i) m) ∧ Chg [] w ((wr.setCell ⟨An, K, none⟩ (.bool true)).setCell ⟨An, D, none⟩ (.bool true))) :=
                hide ⟨bd, (hJ.out.2.1.other (Nat.ne_of_lt HAn.out.2) _).other (Nat.ne_of_lt HAn.out.2) _, (hJ.out.2.2.setCell (.inr HAn.out.1) _).setCell (.inr HAn.out.1) _⟩
              have f1 := hJ.out.1.cell (i := K) (by omega)
              have ff1 := hJ.out.1.free K
              have f2 := bk.cell (i := D) (by omega)
              have ff2 := bk.free D
              clear bk bd hK hD
              go_wp2
              exact ⟨⟨q + 1, by omega, by go_num, H2⟩, by simp [intOf]; omega⟩
            · have d3 : decide ((q : Int) + (X : Int) ≤ 1000) = false := by simp; omega
              have bd := hJ.out.1.set D (g := nx (W.rc (xs.take i)) X (q + 1)) (fun j _ => by
                rw [HNs.out, ← HDe.out, decide_eq_false (show ¬ j = q + X by omega)]
                by_cases h : j = D
                · rw [if_pos h, decide_eq_true h]; simp
                · rw [if_neg h, decide_eq_false h]; simp)
              have H2 : Hid (BArr (wr.setCell ⟨An, D, none⟩ (.bool true)) An (nx (W.rc (xs.take i)) X (q + 1)) ∧ BArr (wr.setCell ⟨An, D, none⟩ (.bool true)) A (fun m => W.rc (xs.take i) m) ∧ Chg [] w (wr.setCell ⟨An, D, none⟩ (.bool true))) :=
                hide ⟨bd, hJ.out.2.1.other (Nat.ne_of_lt HAn.out.2) _, hJ.out.2.2.setCell (.inr HAn.out.1) _⟩
              have f2 := hJ.out.1.cell (i := D) (by omega)
              have ff2 := hJ.out.1.free D
              clear bd hD
              go_wp2
              exact ⟨⟨q + 1, by omega, by go_num, H2⟩, by simp [intOf]; omega⟩
        · have d2 : decide ((q : Int) < 1001) = false := by simp; omega
          obtain rfl : q = 1001 := by omega
          obtain ⟨cn, hbn, hcn⟩ := hJ.out.1
          obtain ⟨ca, hba, hca⟩ := hJ.out.2.1
          have hld := load_row hbn hcn
          have hst := store_row hcn hca hba
          have H3 : Hid (BArr (wr.setRow A cn) A (fun m => W.rc (xs.take (i + 1)) m) ∧ Chg [] w (wr.setRow A cn)) := hide ⟨⟨cn, setRow_box hba, hcn.1, fun m hm => by
            rw [hcn.2 m hm]
            dsimp only
            rw [take_snoc HIl.out, W.rc_snoc, ← HXE.out, nx_all (fun n => W.rc_neg _ _) (fun n hn => by
              have h1 := (W.rc_le (fun x hx => HX0.out x (List.mem_of_mem_take hx)) hn).2
              have h2 := HT.out i (Nat.le_of_lt HIl.out)
              omega) (by omega)]⟩, setRow_chg hJ.out.2.2 HA.out⟩
          clear hbn hcn hba hca
          go_wp2_with (first
            | (refine wpList_load_arr _ rfl 91 _ rfl _ _ rfl hld ?_)
            | (refine wpList_store_arr _ rfl 91 _ _ rfl _ _ _ rfl rfl hst ?_)
            | go_in)
          exact ⟨⟨i + 1, by omega, by go_num, H3⟩, by simp [intOf]; omega⟩
    · have d1 : decide ((i : Int) < (L : Int)) = false := by simpa using hlt
      obtain rfl : i = L := by omega
      have hT : xs.take i = xs := by rw [HL.out]; exact List.take_length
      have bm := hI.out.1
      rw [hT] at bm
      have BM := hide bm
      have C3 := hide hI.out.2
      have HF2 : Hid ((F : Int) ≤ 999) := hide (by
        by_cases h : 1 ≤ F
        · have h1 := (W.rc_le HX0.out (HF.out.1 F h (Nat.le_refl _))).2
          have h2 := HT.out xs.length (Nat.le_refl _)
          rw [List.take_length] at h2
          omega
        · omega)
      have HM : Hid (∀ m : Nat, m ≤ F → W.rc xs ((m : Int) + 1) = decide (m < F)) := hide fun m hm => by
        by_cases h : m < F
        · have := HF.out.1 (m + 1) (by omega) (by omega)
          rw [decide_eq_true h, ← this]
          rw [show ((m + 1 : Nat) : Int) = (m : Int) + 1 by omega]
        · rw [decide_eq_false h, show m = F by omega]
          exact HF.out.2
      clear bm hT
      go_wp2
      go_loop [9] (fun nv => ∃ m : Nat, m ≤ F ∧ nv = .int .i64 (m : Int)) (fun nv => F - (intOf nv).toNat)
      case atStart => exact ⟨0, Nat.zero_le _, rfl⟩
      case round =>
        obtain ⟨m, hm, rfl⟩ := hrel
        have hF2 := HF2.out
        have fx := BM.out.cell (i := m + 1) (by omega)
        have hmm := HM.out m hm
        rw [show ((m + 1 : Nat) : Int) = (m : Int) + 1 by omega, hmm] at fx
        have hm0 : (0 : Int) ≤ (m : Int) + 1 := by omega
        have hm1 : (m : Int) + 1 < 1001 := by omega
        clear hmm
        by_cases hlm : m < F
        · rw [decide_eq_true hlm] at fx
          go_wp2
          go_round
          case rel => exact ⟨m + 1, by omega, by go_num⟩
          case measure => simp [intOf]; omega
        · rw [decide_eq_false hlm] at fx
          obtain rfl : m = F := by omega
          go_wp2
          go_ret
          exact ⟨rfl, C3.out⟩
end Go.Proofs.Ytohdjlgghkcaoaa
