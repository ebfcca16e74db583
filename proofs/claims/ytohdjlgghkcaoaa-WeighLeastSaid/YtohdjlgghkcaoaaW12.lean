/- Walks: whether so many weighings are enough. -/
import Derived.Test.YtohdjlgghkcaoaaW11
namespace Go.Proofs.Ytohdjlgghkcaoaa
open Go.RowKit

theorem poss_K (k : W.K) (hk : small k) (w : World) : Calls Try.prog 56 #[.agg #[.int .i64 (k.b : Int), .int .i64 (k.h : Int), .int .i64 (k.l : Int), .int .i64 (k.g : Int), .bool k.n]] w (Ret (.int .i64 (k.poss : Int)) w) := by
  obtain ⟨h1, h2, h3, _⟩ := hk
  have h := poss_any k.b k.h k.l k.g k.n w (by omega) (by omega) (by omega) (by omega) (by omega) (by omega)
  rw [poss_cast] at h
  exact h

theorem look_at {w : World} {bm : Nat} (h : MemoIs w bm) {k : W.K} {m : Nat} (hk : small k) (hm : m ≤ 6) :
    ∃ v ok, (∀ w', w'.heap[bm]? = w.heap[bm]? → (Instr.lookup 77 (.map (some bm)) (keyK k m) true).run Try.prog w' = .ok (.tuple #[.bool v, .bool ok]) w') ∧ (ok = true → v = W.wins m k) := by
  obtain ⟨es, clock, hb, he⟩ := h
  obtain ⟨kl, hkey⟩ := keyK_some hk hm
  have hkeys : ∀ e ∈ es.toList, ∃ l, keyOf Try.prog 112 e.key = some l := fun e hm => by
    obtain ⟨k', m', h1, h2, h3, _⟩ := he e hm
    rw [h3]; exact keyK_some h1 h2
  by_cases hin : ∃ e ∈ es.toList, e.key = keyK k m
  · refine ⟨W.wins m k, true, fun w' hw' => ?_, fun _ => rfl⟩
    have hb' := hw'.trans hb
    rcases keyed.find w' hkey es.toList hkeys with ⟨_, h2⟩ | ⟨j, e0, h1, h2, h3⟩
    · obtain ⟨e, h3, h4⟩ := hin; exact absurd h4 (h2 e h3)
    · obtain ⟨k', m', _, _, e1, e2⟩ := he e0 (List.mem_of_getElem? h2)
      obtain ⟨rfl, rfl⟩ := keyK_inj (h3.symm.trans e1)
      simp [Instr.lookup, run_underlying Try.underlying77, MapKept.run_getObj_map hb', keyed.check w' _ hkey, h1, e2, Result.andThen]
  · refine ⟨false, false, fun w' hw' => ?_, fun e => by cases e⟩
    have hb' := hw'.trans hb
    rcases keyed.find w' hkey es.toList hkeys with ⟨h1, _⟩ | ⟨j, e0, h1, h2, h3⟩
    · simp [Instr.lookup, run_underlying Try.underlying77, MapKept.run_getObj_map hb', keyed.check w' _ hkey, h1, Result.andThen]
    · exact absurd ⟨e0, List.mem_of_getElem? h2, h3⟩ hin

def pw (j : Nat) : Nat := 3 ^ j
theorem pw_zero : pw 0 = 1 := rfl
theorem pw_succ (j : Nat) : pw (j + 1) = pw j * 3 := Nat.pow_succ ..
theorem pow6 {j : Nat} (h : j ≤ 6) : pw j ≤ 729 := Nat.pow_le_pow_right (n := 3) (by decide) h

theorem MemoIs.of_heap {w w' : World} {bm : Nat} (h : MemoIs w bm) (hw : w'.heap[bm]? = w.heap[bm]?) : MemoIs w' bm := by
  obtain ⟨es, c, hb, he⟩ := h
  exact ⟨es, c, hw.trans hb, he⟩

theorem wins_false_of {m : Nat} {k : W.K} (h1 : k.poss ≠ 1) (h : ∀ x, W.fits k x = true → W.good (W.wins m) k x = false) : W.wins (m + 1) k = false := by
  rw [Bool.eq_false_iff]
  intro hw
  rcases W.wins_succ.1 hw with h' | ⟨_, x, hf, hg⟩
  · exact h1 h'
  · exact absurd ((h x hf).symm.trans hg) (by decide)
theorem wins_true_of {m : Nat} {k : W.K} (hp : k.poss ≤ 3 ^ (m + 1)) {x : W.L} (hf : W.fits k x = true) (hg : W.good (W.wins m) k x = true) : W.wins (m + 1) k = true := W.wins_succ.2 (.inr ⟨hp, x, hf, hg⟩)

set_option maxRecDepth 100000 in
set_option maxHeartbeats 1000000 in
theorem wins_step (n : Nat) (hn : n ≤ 6) (hW : ∀ m, n = m + 1 → WinsOk m) : WinsOk n := by
  intro k bb bm w hk hbb hM hne
  have hP := fun w1 => poss_K k hk.small w1
  have HP := hide hP
  have HW := hide hW
  have HB := hide hbb
  have HM := hide hM
  have lb := hbb.lt
  have lM := hM.lt
  have HK := hide hk
  clear hP hW hbb hM hk
  by_cases h1 : k.poss = 1
  · have d1 : ((k.poss : Int) == 1) = true := by simp [h1]
    have E := hide (W.wins_one_poss (n := n) h1)
    have c1 : Chg [] w (w.alloc (.cells #[.int .i64 (k.b : Int), .int .i64 (k.h : Int), .int .i64 (k.l : Int), .int .i64 (k.g : Int), .bool k.n] 27)) := (Chg.refl _ _).alloc _
    clear h1
    go_enter Try.func75, Try.ntmps75
    go_wp2_with (go_at_call 56; refine (HP.out _).mono ?_; rintro e w1 ⟨rfl, hw1⟩)
    go_ret
    exact ⟨by rw [E.out]; rfl, (c1.trans hw1).toAny, HM.out.keep (c1.trans hw1) (by simp)⟩
  · have d1 : ((k.poss : Int) == 1) = false := by simp; omega
    have H1 := hide h1
    clear h1
    go_enter Try.func75, Try.ntmps75
    go_wp2_with (go_at_call 56; refine (HP.out _).mono ?_; rintro e w1 ⟨rfl, hw1⟩; (first | (replace hw0 := Chg.trans hw0 hw1; clear hw1 hc0 hf0 hz0) | (have hw0 := hw1; clear hw1)); obtain ⟨hc0, hf0⟩ := hw0.reads; have hzz := hw0.size; simp at hzz; have hz0 : w.heap.size < w1.heap.size := (by omega); clear hzz)
    go_loop [7, 14] (fun r i => ∃ j : Nat, j ≤ n ∧ i = .int .i64 (j : Int) ∧ r = .int .i64 (pw j : Int)) (fun _ i => n - (intOf i).toNat)
    case atStart => exact ⟨0, Nat.zero_le _, rfl, rfl⟩
    case round =>
      obtain ⟨j, hj, rfl, rfl⟩ := hrel
      have hp6 : pw j ≤ 729 := pow6 (by omega)
      by_cases hlt : j < n
      · go_wp2
        go_round
        case rel => exact ⟨j + 1, by omega, by go_num, by rw [pw_succ]; go_num⟩
        case measure => simp [intOf]; omega
      · obtain rfl : j = n := by omega
        have dl : decide ((j : Int) < (j : Int)) = false := by simp
        by_cases hbig : pw j < k.poss
        · have d2 : decide ((pw j : Int) < (k.poss : Int)) = true := by simpa using hbig
          go_wp2_with (go_at_call 56; refine (HP.out _).mono ?_; rintro e w1 ⟨rfl, hw1⟩; (first | (replace hw0 := Chg.trans hw0 hw1; clear hw1 hc0 hf0 hz0) | (have hw0 := hw1; clear hw1)); obtain ⟨hc0, hf0⟩ := hw0.reads; have hzz := hw0.size; simp at hzz; have hz0 : w.heap.size < w1.heap.size := (by omega); clear hzz)
          go_ret
          have E : W.wins j k = false := by
            rw [Bool.eq_false_iff]
            intro hw
            have := W.wins_le hw
            unfold pw at hbig; omega
          have hcw : Chg [] w w1 := by clear hc0 hf0; (repeat' (first | with_reducible exact Chg.refl _ _ | with_reducible assumption | with_reducible apply Chg.drewN | with_reducible apply Chg.drew | with_reducible apply Chg.alloc | (with_reducible refine Chg.setCell ?_ (Or.inr ?_) _) | (with_reducible refine Chg.trans ?_ (by assumption)) | (simp; done) | (simp; omega)))
          exact ⟨by rw [E]; rfl, hcw.toAny, HM.out.keep hcw (by simp)⟩
        · have d2 : decide ((pw j : Int) < (k.poss : Int)) = false := by simpa using hbig
          obtain ⟨m, rfl⟩ : ∃ m, j = m + 1 := by
            cases j with
            | zero => exfalso; have := H1.out; have := HK.out.2.2; rw [pw_zero] at hbig; omega
            | succ m => exact ⟨m, rfl⟩
          go_wp2_with (go_at_call 56; refine (HP.out _).mono ?_; rintro e w1 ⟨rfl, hw1⟩; (first | (replace hw0 := Chg.trans hw0 hw1; clear hw1 hc0 hf0 hz0) | (have hw0 := hw1; clear hw1)); obtain ⟨hc0, hf0⟩ := hw0.reads; have hzz := hw0.size; simp at hzz; have hz0 : w.heap.size < w1.heap.size := (by omega); clear hzz)
          have cw : Hid (Chg [] w w1) := by
            clear hc0 hf0
            exact hide ((Chg.alloc (Chg.refl _ _) _).trans hw0)
          have M1 := HM.out.keep cw.out (by simp)
          have hk1 := HK.out.small
          obtain ⟨v, ok, hl, hv⟩ := look_at M1 hk1 hn
          have hrun := fun nq => hl (w1.drewN nq) rfl
          simp only [keyK, keyV] at hrun
          rw [show ((m + 1 : Nat) : Int) = (m : Int) + 1 from by omega] at hrun
          have HV := hide hv
          have qb : w.cell? ⟨bb, 0, none⟩ = some (.map (some bm)) := HB.out
          have lb1 : bb < w.heap.size + 1 := by omega
          have hk2 := hide hk1
          have HM1 := hide M1
          clear hl hv hk1 M1
          cases ok
          · go_quiet (fail)
            go_wp2_with fail
            refine (load_any m (by omega) (HW.out m rfl) k HK.out bb bm _ (HB.out.keep (cw.out.drewN nq) (by simp)) (HM1.out.of_heap rfl) hne).mono ?_
            have cwn := hide (cw.out.drewN nq)
            have bk := Box.new w #[.int .i64 (k.b : Int), .int .i64 (k.h : Int), .int .i64 (k.l : Int), .int .i64 (k.g : Int), .bool k.n] 27
            have bk3 := hide (bk.keep (hw0.drewN nq) (by simp))
            clear bk hrun hc0 hf0 hw0
            generalize w1.drewN nq = w3 at cwn bk3 ⊢
            rintro e w2 ⟨hc2, hm2, hres⟩
            have c2 : Hid (Chg [bm] w w2) := hide (cwn.out.toAny.trans hc2)
            have bk2 := bk3.out.keep hc2 (by simp; omega)
            have l2 := bk2.lt
            have f2 := fun o => bk2.cell o
            have qb2 : w2.cell? ⟨bb, 0, none⟩ = some (.map (some bm)) := HB.out.keep c2.out (by simpa using hne)
            have lb2 : bb < w2.heap.size := by omega
            obtain ⟨w4, hst, hm4, hc4⟩ := (hm2.of_heap (w' := w2.drew) rfl).store (k := k) (m := m + 1) hk2.out hn
            have HM4 := hide hm4
            have HC4 := hide hc4
            have E : ∃ b, e = .returned (.tuple #[(match e with | .returned (.tuple t) => t.getD 0 undef | _ => undef), .bool b]) ∧ W.wins (m + 1) k = b := by
              rcases hres with ⟨rfl, hno⟩ | ⟨x, rfl, hf, hg⟩
              · exact ⟨false, rfl, wins_false_of H1.out hno⟩
              · exact ⟨true, rfl, wins_true_of (by unfold pw at hbig; omega) hf hg⟩
            obtain ⟨b, he, hb⟩ := E
            generalize (match e with | .returned (.tuple t) => t.getD 0 undef | _ => undef) = y at he
            subst he
            rw [hb] at hst
            simp only [keyK, keyV] at hst
            rw [show ((m + 1 : Nat) : Int) = (m : Int) + 1 from by omega] at hst
            have HBb := hide hb
            clear hres hm2 hc2 hm4 hc4 bk2 hb
            go_wp2
            go_region
            all_goals
              go_wp2
              go_ret
              exact ⟨by rw [HBb.out]; rfl, (c2.out.drew).trans HC4.out, HM4.out⟩
          · go_quiet (fail)
            go_wp2
            go_ret
            refine ⟨by rw [← HV.out trivial]; rfl, ?_, ?_⟩
            · exact (cw.out.drewN _).toAny
            · exact HM1.out.of_heap rfl
end Go.Proofs.Ytohdjlgghkcaoaa
