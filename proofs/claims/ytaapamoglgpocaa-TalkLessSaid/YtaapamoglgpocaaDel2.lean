/- Walk: pairs struck off a row (the function itself). -/
import Derived.Test.YtaapamoglgpocaaDel
namespace Go.Proofs.Ytaapamoglgpocaa
open Go.RowKit

theorem Chg.puts {S : List Nat} {a w : World} {A : Nat} (h : Chg S a w) (hA : A ∈ S) : ∀ (l : List Value) (o : Nat), Chg S a (w.setCells A o l)
  | [], _ => h
  | v :: l, o => by
    unfold World.setCells
    exact Chg.puts (h.setCell (p := ⟨A, o, none⟩) (.inl hA) v) hA l (o + 1)
theorem run_clear_pairs (w : World) (ty : TypeId) (b o n c : Nat) (hn : 0 < n)
    (hc : ∀ j, j < n * 2 → (w.cell? ⟨b, o + j, none⟩).isSome = true) (hf : ∀ j, j < n * 2 → w.frozen? ⟨b, o + j, none⟩ = false) :
    (Builtin.clear_ #[46] ty #[.slice (some ⟨b, o, none⟩) n c]).run Try.prog w = .ok (.tuple #[]) (w.setCells b o (List.replicate (n * 2) (.int .i64 0))) := by
  have hzc : (Builtin.zeroCells (Value.agg #[.int .i64 0, .int .i64 0]).cells n).toList = List.replicate (n * 2) (.int .i64 0) := by
    have hcells : (Value.agg #[.int .i64 0, .int .i64 0]).cells = #[.int .i64 0, .int .i64 0] := by kernel_rfl
    rw [hcells]
    simp [Builtin.zeroCells]
    apply List.ext_getElem
    · simp
    · intro i h1 h2
      simp only [List.getElem_map, List.getElem_range, List.getElem_replicate]
      rcases (show i % 2 = 0 ∨ i % 2 = 1 by omega) with h | h <;> rw [h] <;> rfl
  have hst := run_storeCells_cells (P := Try.prog) b o (List.replicate (n * 2) (.int .i64 0)) 0 w (by simpa using hc) (by simpa using hf) (by intro v hv'; rw [List.eq_of_mem_replicate hv']; rfl)
  simp only [Nat.add_zero] at hst
  obtain ⟨m, rfl⟩ : ∃ m, n = m + 1 := ⟨n - 1, by omega⟩
  have hv : ∀ w, (zeroValue 60).run Try.prog w = .ok (.agg #[.int .i64 0, .int .i64 0]) w := fun w => by kernel_rfl
  simp [Builtin.clear_, run_underlying Try.underlying46, hv, hzc, hst]

/-- What is left of the first j. -/
def keepTo (P : Pr → Bool) (ps : List Pr) (j : Nat) : List Pr := (ps.take j).filter fun x => !P x
theorem keepTo_succ {P : Pr → Bool} {ps : List Pr} {j : Nat} (h : j < ps.length) : keepTo P ps (j + 1) = keepTo P ps j ++ (if P (ps.getD j pr0) = true then [] else [ps.getD j pr0]) := by
  unfold keepTo
  rw [List.take_add_one, List.getElem?_eq_getElem h, List.filter_append]
  congr 1
  rw [List.getD_eq_getElem?_getD, List.getElem?_eq_getElem h]
  simp only [Option.toList_some, Option.getD_some, List.filter_cons, List.filter_nil]
  cases P ps[j] <;> rfl
theorem keepTo_len (P : Pr → Bool) (ps : List Pr) (j : Nat) : (keepTo P ps j).length ≤ j := by
  unfold keepTo
  refine Nat.le_trans (List.length_filter_le _ _) ?_
  rw [List.length_take]; omega
theorem keepTo_first {P : Pr → Bool} {ps : List Pr} {k : Nat} (hk : k ≤ ps.length) (h : ∀ q, q < k → P (ps.getD q pr0) = false) : keepTo P ps k = ps.take k := by
  unfold keepTo
  rw [List.filter_eq_self]
  intro x hx
  obtain ⟨q, hq, rfl⟩ := List.getElem_of_mem hx
  rw [List.length_take] at hq
  have := h q (by omega)
  rw [List.getD_eq_getElem?_getD, List.getElem?_eq_getElem (by omega)] at this
  rw [List.getElem_take]
  simpa using this
theorem keepTo_all (P : Pr → Bool) (ps : List Pr) : keepTo P ps ps.length = ps.filter fun x => !P x := by unfold keepTo; rw [List.take_length]

set_option maxRecDepth 100000 in
set_option maxHeartbeats 2000000 in
theorem Delete_pairs (F : FuncId) (cp : Array Value) (P : Pr → Bool) (v : Value) (ps : List Pr) (base : Nat) (S : List Nat) (w : World) (ho : w.ownsRow base 60 2 v ps.length (flatP ps)) (hl : ps.length ≤ 1000) (hS : ∀ A, v.ownBlock = some A → A ∈ S)
    (hcall : ∀ args W, (callFunc F args).run Try.prog W = .ok (.enter F args) W) (hF : ∀ r ws, r ∈ ps → Chg S w ws → Calls Try.prog F (#[prV r] ++ cp) ws (Ret (.bool (P r)) ws)) :
    Calls Try.prog 89 #[v, .func (.func F) #[] cp] w fun e w' => ∃ v', e = .returned v' ∧ w'.ownsRow base 60 2 v' (ps.filter fun x => !P x).length (flatP (ps.filter fun x => !P x)) ∧ Chg S w w' := by
  have hsee := pairs_see ho
  have HI := hide (IndexX_pairs F cp P v ps w hsee (by omega) hcall (fun r ws hr hw => hF r ws hr hw.toAny))
  have HF := hide hF
  have HOw := hide ho
  have hsh : v = .slice none 0 0 ∧ ps = [] ∨ ∃ A K, v = .slice (some ⟨A, 0, none⟩) ps.length K := by
    rcases ho.2 with ⟨h1, h2⟩ | ⟨g, cap, cur, h1, _⟩
    · exact .inl ⟨h1, List.length_eq_zero_iff.1 h2⟩
    · exact .inr ⟨g, cap, h1⟩
  rcases hsh with ⟨rfl, rfl⟩ | ⟨A, K, rfl⟩
  · clear ho hF hsee hS hl
    go_enter Try.func89, Try.ntmps89
    go_wp2_with fail
    refine HI.out.mono ?_
    rintro e w1 ⟨r, rfl, hr, hw1⟩
    obtain rfl : r = -1 := by
      rcases hr with ⟨h, _⟩ | ⟨k, hk, _⟩
      · exact h
      · exact absurd hk (Nat.not_lt_zero _)
    have HO1 := hide (hw1.row HOw.out (fun _ _ => List.not_mem_nil))
    clear hr
    go_wp2
    go_ret
    exact ⟨_, rfl, HO1.out, hw1.toAny⟩
  · obtain ⟨hT, hb, hK⟩ := PTab.of ho rfl
    have hAS := hS A rfl
    have HAS := hide hAS
    have HT := hide hT
    have HB := hide (And.intro hb hK)
    have HKs := hide (fun j => @keepTo_succ P ps j)
    have HKl := hide (keepTo_len P ps)
    have HKf := hide (fun j => @keepTo_first P ps j)
    have HKa := hide (keepTo_all P ps)
    obtain ⟨n, hn⟩ : ∃ n, n = ps.length := ⟨_, rfl⟩
    rw [← hn] at HT HI HOw HKa hl HKf HKs ⊢
    have HN := hide hn
    have hnK : n ≤ K := by obtain ⟨c, _, _, h, _⟩ := HT.out; exact h
    clear ho hF hsee hS hT hb hK hn hAS
    go_enter Try.func89, Try.ntmps89
    go_wp2_with fail
    refine HI.out.mono ?_
    rintro e w1 ⟨r, rfl, hr, hw1⟩
    rcases hr with ⟨rfl, hno⟩ | ⟨k, hk, rfl, hk1, hk2⟩
    · have HO1 := hide (hw1.row HOw.out (fun _ _ => List.not_mem_nil))
      have HFl : Hid (ps.filter (fun x => !P x) = ps) := hide (by
        rw [List.filter_eq_self]
        intro x hx
        rw [hno x hx]; rfl)
      clear hno
      go_wp2
      go_ret
      exact ⟨_, rfl, by rw [HFl.out, ← HN.out]; exact HO1.out, hw1.toAny⟩
    · have hkn : k < n := by rw [HN.out]; exact hk
      have HK0 := hide (HKf.out _ (Nat.le_of_lt hkn) hk1)
      have HKP := hide hk2
      have HT1 := hide (HT.out.keep hw1 List.not_mem_nil)
      have HW1 := hide hw1
      have d0 : ((k : Int) == -1) = false := by simp
      clear hk hk1 hk2 hw1 HI
      have HN0 := hide hkn
      go_wp2
      go_loopw [5, 6] (fun iv jv wr => ∃ i j : Nat, k + 1 ≤ j ∧ j ≤ n ∧ i < j ∧ iv = .int .i64 (i : Int) ∧ jv = .int .i64 (j : Int) ∧ Hid (i = (keepTo P ps j).length ∧ Chg S w wr ∧ ∃ g, PTab wr A K n g ∧ (∀ q, q < i → g q = (keepTo P ps j).getD q pr0) ∧ (∀ q, j ≤ q → q < n → g q = ps.getD q pr0))) (fun _ jv _ => (n - (intOf jv).toNat))
      case atStart =>
        refine ⟨k, k + 1, Nat.le_refl _, hkn, by omega, rfl, by go_num, hide ⟨?_, HW1.out.toAny, _, HT1.out, fun q hq => ?_, fun q _ _ => rfl⟩⟩
        · rw [HKs.out _ HN0.out, HKP.out, if_pos rfl, List.append_nil, HK0.out, List.length_take, ← HN.out]; omega
        · rw [HKs.out _ HN0.out, HKP.out, if_pos rfl, List.append_nil, HK0.out]; simp [List.getD_eq_getElem?_getD, hq]
      case round =>
        obtain ⟨i, j, hjk, hj, hij, rfl, rfl, hI⟩ := hrel
        obtain ⟨hil, CC, g, hg, hg1, hg2⟩ := hI.out
        have HIl := hide hil
        have HCC := hide CC
        have HG := hide hg
        have HG1 := hide hg1
        have HG2 := hide hg2
        clear hil CC hg1 hg2 hI
        by_cases hlt : j < n
        · have d1 : decide ((j : Int) < (n : Int)) = true := by simpa using hlt
          obtain ⟨fx, fy⟩ := hg.cell hlt
          rw [HG2.out j (Nat.le_refl _) hlt] at fx fy
          have hmem : ps.getD j pr0 ∈ ps := getDP_mem (by rw [← HN.out]; exact hlt)
          have HKj := hide (HKs.out _ hlt)
          obtain ⟨x, hx⟩ : ∃ x, x = ps.getD j pr0 := ⟨_, rfl⟩
          rw [← hx] at fx fy hmem HKj
          have HX := hide hx
          have HC := hide (fun ws (hw : Chg S w ws) => HF.out x ws hmem hw)
          unfold prV at HC
          have j0 : (0 : Int) ≤ (j : Int) := by omega
          have j1 : (j : Int) < (n : Int) := by omega
          clear hmem hx hg
          have HBx := hide (Box.new wr (prCells x) 60)
          unfold prCells at HBx
          go_wp2
          have HCA := hide (HCC.out.alloc (.cells #[.int .i64 x.1, .int .i64 x.2] 60))
          have HGA := hide (HG.out.keep ((Chg.refl [] wr).alloc (.cells #[.int .i64 x.1, .int .i64 x.2] 60)) List.not_mem_nil)
          obtain ⟨B, hB⟩ : ∃ B, B = wr.heap.size := ⟨_, rfl⟩
          rw [← hB] at HBx ⊢
          clear HCC HG fx fy hB
          generalize wr.alloc (.cells #[.int .i64 x.1, .int .i64 x.2] 60) = w2 at HBx HCA HGA ⊢
          refine (HC.out _ HCA.out).mono ?_
          rintro e w3 ⟨rfl, hw3⟩
          have HB3 := hide (HBx.out.keep hw3 List.not_mem_nil)
          have HC3 := hide (HCA.out.trans hw3.toAny)
          have HG3 := hide (HGA.out.keep hw3 List.not_mem_nil)
          clear hw3 HBx HCA HGA HC
          cases hp : P x with
          | true =>
            have HKj1 : Hid (keepTo P ps (j + 1) = keepTo P ps j) := hide (by rw [HKj.out, hp, if_pos rfl, List.append_nil])
            clear hp HKj
            go_wp2
            go_roundw
            case rel => exact ⟨i, j + 1, by omega, by omega, by omega, rfl, by go_num, hide ⟨by rw [HKj1.out]; exact HIl.out, HC3.out, g, HG3.out, fun q hq => by rw [HKj1.out]; exact HG1.out q hq, fun q hq hq2 => HG2.out q (by omega) hq2⟩⟩
            case measure => simp [intOf]; omega
          | false =>
            have HKj1 : Hid (keepTo P ps (j + 1) = keepTo P ps j ++ [x]) := hide (by rw [HKj.out, hp]; rfl)
            clear hp HKj
            have b0 := HB3.out.cell 0
            have b1 := HB3.out.cell 1
            simp only [List.getElem?_toArray, List.getElem?_cons_zero, List.getElem?_cons_succ] at b0 b1
            have lA := HG3.out.lt
            have fr := HG3.out.free
            obtain ⟨c1, c2⟩ := HG3.out.cell (k := i) (by omega)
            have i0 : (0 : Int) ≤ (i : Int) := by omega
            have i1 : (i : Int) < (n : Int) := by omega
            go_wp2
            go_roundw
            case rel =>
              refine ⟨i + 1, j + 1, by omega, by omega, by omega, by go_num, by go_num, hide ⟨by rw [HKj1.out, List.length_append, ← HIl.out]; rfl, (HC3.out.setCell (.inl HAS.out) _).setCell (.inl HAS.out) _, fun q => if q = i then x else g q, HG3.out.set i x (fun _ _ => rfl), fun q hq => ?_, fun q hq hq2 => ?_⟩⟩
              · show (if q = i then x else g q) = _
                rw [HKj1.out, List.getD_eq_getElem?_getD]
                by_cases hqi : q = i
                · rw [if_pos hqi, hqi, List.getElem?_append_right (by rw [← HIl.out]; exact Nat.le_refl _), ← HIl.out, Nat.sub_self]; rfl
                · rw [if_neg hqi, HG1.out q (by omega), List.getElem?_append_left (by rw [← HIl.out]; omega), List.getD_eq_getElem?_getD]
              · show (if q = i then x else g q) = _
                rw [if_neg (by omega)]
                exact HG2.out q (by omega) hq2
            case measure => simp [intOf]; omega
        · have d1 : decide ((j : Int) < (n : Int)) = false := by simpa using hlt
          obtain rfl : j = n := by omega
          have hcl : ∀ ty, (Builtin.clear_ #[46] ty #[.slice (some ⟨A, i * 2, none⟩) (j - i) (K - i)]).run Try.prog wr = .ok (.tuple #[]) (wr.setCells A (i * 2) (List.replicate ((j - i) * 2) (.int .i64 0))) := fun ty =>
            run_clear_pairs wr ty A (i * 2) (j - i) (K - i) (by omega) (fun q hq => by
              obtain ⟨e, d, hd, rfl⟩ : ∃ e d, d < 2 ∧ q = e * 2 + d := ⟨q / 2, q % 2, by omega, by omega⟩
              obtain ⟨c1, c2⟩ := hg.cell (k := i + e) (by omega)
              rcases (show d = 0 ∨ d = 1 by omega) with rfl | rfl
              · rw [show i * 2 + (e * 2 + 0) = (i + e) * 2 by omega, c1]; rfl
              · rw [show i * 2 + (e * 2 + 1) = (i + e) * 2 + 1 by omega, c2]; rfl) (fun q _ => hg.free _)
          have i0 : (i : Int) ≤ (j : Int) := by omega
          have i1 : (i : Int) ≤ (K : Int) := by omega
          have i2 : ¬ j = i := by omega
          have i3 : ¬ K = i := by omega
          clear hg
          go_wp2
          go_ret
          refine ⟨_, rfl, ?_, HCC.out.puts HAS.out _ _⟩
          rw [← HKa.out, ← HIl.out]
          exact ((HG.out.less (by omega)).puts _ _ (Nat.le_refl _)).to HB.out.1 HB.out.2 HIl.out HG1.out
end Go.Proofs.Ytaapamoglgpocaa
