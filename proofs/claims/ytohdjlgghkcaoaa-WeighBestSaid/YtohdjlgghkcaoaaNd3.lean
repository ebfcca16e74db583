/- Walk: whether so many weighings are enough, the reference's search: what ends before the search. -/
import Derived.Test.YtohdjlgghkcaoaaNd2
namespace Go.Proofs.Ytohdjlgghkcaoaa
open Go.RowKit

/-- What the table says is right up to n weighings, and of more nothing has turned. -/
def TabOk (w0 w : World) (A : Nat) (t : Nat → Nat) (n : Nat) : Prop := Chg [A] w0 w ∧ ∃ t', Tab w A t' ∧ W.MetOK t' (n + 1) ∧ ∀ i, (n + 1) * 76832 ≤ i → t' i = t i
/-- So many weighings: what 'enough' is asked and answers. -/
def EnoughOk (n : Nat) : Prop := ∀ (k : W.K) (A : Nat) (t : Nat → Nat) (w : World), okK k → Tab w A t → W.MetOK t (n + 1) →
  Calls Try.prog 57 #[.agg #[.int .i64 (k.b : Int), .int .i64 (k.h : Int), .int .i64 (k.l : Int), .int .i64 (k.g : Int), .bool k.n], .int .i64 (n : Int), .slice (some ⟨A, 0, none⟩) 537824 537824] w
    fun e w' => e = .returned (.bool (W.wins n k)) ∧ TabOk w w' A t n
theorem TabOk.same {w w' : World} {A : Nat} {t : Nat → Nat} {n : Nat} (h : Chg [] w w') (hT : Tab w A t) (hM : W.MetOK t (n + 1)) : TabOk w w' A t n :=
  ⟨h.toAny, t, hT.keep h (by simp), hM, fun _ _ => rfl⟩
theorem rposs_K (k : W.K) (hk : okK k) (w : World) : Calls Try.prog 28 #[.agg #[.int .i64 (k.b : Int), .int .i64 (k.h : Int), .int .i64 (k.l : Int), .int .i64 (k.g : Int), .bool k.n]] w (Ret (.int .i64 (k.poss : Int)) w) := by
  obtain ⟨h1, h2, _⟩ := hk
  have h := rposs_any k.b k.h k.l k.g k.n w (by omega) (by omega) (by omega) (by omega) (by omega) (by omega)
  rw [poss_cast] at h
  exact h
theorem place_K (k : W.K) (m : Nat) (hk : okK k) (hn : m + 1 ≤ 6) (w : World) :
    Calls Try.prog 78 #[.agg #[.int .i64 (k.b : Int), .int .i64 (k.h : Int), .int .i64 (k.l : Int), .int .i64 (k.g : Int), .bool k.n], .int .i64 ((m : Int) + 1)] w (Ret (.int .i64 (W.place k (m + 1) : Int)) w) := by
  have h := place_any k (m + 1) hk.sm hn w
  rw [show ((m + 1 : Nat) : Int) = (m : Int) + 1 from by omega] at h
  exact h

set_option maxRecDepth 100000 in
set_option maxHeartbeats 1000000 in
theorem enough_one (n : Nat) (k : W.K) (A : Nat) (t : Nat → Nat) (w : World) (hk : okK k) (hT : Tab w A t) (hM : W.MetOK t (n + 1)) (h1 : k.poss = 1) :
    Calls Try.prog 57 #[.agg #[.int .i64 (k.b : Int), .int .i64 (k.h : Int), .int .i64 (k.l : Int), .int .i64 (k.g : Int), .bool k.n], .int .i64 (n : Int), .slice (some ⟨A, 0, none⟩) 537824 537824] w
    fun e w' => e = .returned (.bool (W.wins n k)) ∧ TabOk w w' A t n := by
  have HP := hide fun w1 => rposs_K k hk w1
  have d1 : ((k.poss : Int) == 1) = true := by simp [h1]
  have E := hide (W.wins_one_poss (n := n) h1)
  have HH := hide (And.intro hT hM)
  clear h1 hT hM hk
  go_enter Try.func57, Try.ntmps57
  go_wp2_with fail
  refine (HP.out _).mono ?_
  rintro e w1 ⟨rfl, hw1⟩
  go_wp2
  go_ret
  exact ⟨by rw [E.out]; rfl, TabOk.same (((Chg.refl _ _).alloc _).trans hw1) HH.out.1 HH.out.2⟩

set_option maxRecDepth 100000 in
set_option maxHeartbeats 1000000 in
theorem enough_zero (k : W.K) (A : Nat) (t : Nat → Nat) (w : World) (hk : okK k) (hT : Tab w A t) (hM : W.MetOK t (0 + 1)) (h1 : k.poss ≠ 1) :
    Calls Try.prog 57 #[.agg #[.int .i64 (k.b : Int), .int .i64 (k.h : Int), .int .i64 (k.l : Int), .int .i64 (k.g : Int), .bool k.n], .int .i64 0, .slice (some ⟨A, 0, none⟩) 537824 537824] w
    fun e w' => e = .returned (.bool (W.wins 0 k)) ∧ TabOk w w' A t 0 := by
  have HP := hide fun w1 => rposs_K k hk w1
  have d1 : ((k.poss : Int) == 1) = false := by simp; omega
  have E : Hid (W.wins 0 k = false) := hide (by rw [Bool.eq_false_iff]; intro h; exact h1 (W.wins_zero.1 h))
  have HH := hide (And.intro hT hM)
  clear h1 hT hM hk
  go_enter Try.func57, Try.ntmps57
  go_wp2_with fail
  refine (HP.out _).mono ?_
  rintro e w1 ⟨rfl, hw1⟩
  go_wp2
  go_ret
  exact ⟨by rw [E.out]; rfl, TabOk.same (((Chg.refl _ _).alloc _).trans hw1) HH.out.1 HH.out.2⟩

set_option maxRecDepth 100000 in
set_option maxHeartbeats 1000000 in
theorem enough_known (m : Nat) (hm : m + 1 ≤ 6) (k : W.K) (A : Nat) (t : Nat → Nat) (w : World) (hk : okK k) (hT : Tab w A t) (hM : W.MetOK t (m + 1 + 1)) (h1 : k.poss ≠ 1) (h0 : t (W.place k (m + 1)) ≠ 0) :
    Calls Try.prog 57 #[.agg #[.int .i64 (k.b : Int), .int .i64 (k.h : Int), .int .i64 (k.l : Int), .int .i64 (k.g : Int), .bool k.n], .int .i64 ((m : Int) + 1), .slice (some ⟨A, 0, none⟩) 537824 537824] w
    fun e w' => e = .returned (.bool (W.wins (m + 1) k)) ∧ TabOk w w' A t (m + 1) := by
  have HP := hide fun w1 => rposs_K k hk w1
  have HPl := hide fun w1 => place_K k m hk hm w1
  have d1 : ((k.poss : Int) == 1) = false := by simp; omega
  have d2 : ((m : Int) + 1 == 0) = false := by simp; omega
  have hpl := W.place_lt (n := m + 1) hk.sm
  have hpl' : W.place k (m + 1) < 537824 := by omega
  have hc : w.cell? ⟨A, W.place k (m + 1), none⟩ = some (.int .u8 (t (W.place k (m + 1)) : Int)) := hT.cell hpl'
  have hv := hM k (m + 1) hk.sm (by omega)
  have lA := hT.lt
  have HH := hide (And.intro hT hM)
  generalize W.place k (m + 1) = p at *
  have hp1 : (p : Int) < 537824 := by omega
  clear h1 hT hM hk hpl hpl'
  rcases hv with h | ⟨h, hw⟩ | ⟨h, hw⟩
  · exact absurd h h0
  · rw [h] at hc
    have E := hide hw
    clear h hw h0
    go_enter Try.func57, Try.ntmps57
    go_wp2_with fail
    refine (HP.out _).mono ?_
    rintro e w1 ⟨rfl, hw1⟩
    have bk := (Box.new w #[.int .i64 (k.b : Int), .int .i64 (k.h : Int), .int .i64 (k.l : Int), .int .i64 (k.g : Int), .bool k.n] 30).keep hw1 (by simp)
    have C1 : Hid (Chg [] w w1) := hide (((Chg.refl _ _).alloc _).trans hw1)
    have f := fun o => bk.cell o
    have lk := bk.lt
    go_wp2_with fail
    refine (HPl.out _).mono ?_
    rintro e w2 ⟨rfl, hw2⟩
    have C2 : Hid (Chg [] w w2) := hide (C1.out.trans hw2)
    have hc2 : w2.cell? ⟨A, p, none⟩ = some (.int .u8 ((1 : Nat) : Int)) := (C2.out.cell lA (by simp) p).trans hc
    simp at hc2
    clear f bk hw1 hw2 lk hc
    go_wp2
    go_ret
    exact ⟨by rw [E.out]; rfl, TabOk.same C2.out HH.out.1 HH.out.2⟩
  · rw [h] at hc
    have E := hide hw
    clear h hw h0
    go_enter Try.func57, Try.ntmps57
    go_wp2_with fail
    refine (HP.out _).mono ?_
    rintro e w1 ⟨rfl, hw1⟩
    have bk := (Box.new w #[.int .i64 (k.b : Int), .int .i64 (k.h : Int), .int .i64 (k.l : Int), .int .i64 (k.g : Int), .bool k.n] 30).keep hw1 (by simp)
    have C1 : Hid (Chg [] w w1) := hide (((Chg.refl _ _).alloc _).trans hw1)
    have f := fun o => bk.cell o
    have lk := bk.lt
    go_wp2_with fail
    refine (HPl.out _).mono ?_
    rintro e w2 ⟨rfl, hw2⟩
    have C2 : Hid (Chg [] w w2) := hide (C1.out.trans hw2)
    have hc2 : w2.cell? ⟨A, p, none⟩ = some (.int .u8 ((2 : Nat) : Int)) := (C2.out.cell lA (by simp) p).trans hc
    simp at hc2
    clear f bk hw1 hw2 lk hc
    go_wp2
    go_ret
    exact ⟨by rw [E.out]; rfl, TabOk.same C2.out HH.out.1 HH.out.2⟩
end Go.Proofs.Ytohdjlgghkcaoaa
