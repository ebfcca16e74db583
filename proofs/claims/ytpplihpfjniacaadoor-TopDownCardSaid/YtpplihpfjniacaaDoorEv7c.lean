/- Walks: families: read. -/
import Derived.Test.YtpplihpfjniacaaDoorEv7a
import Derived.Test.YtpplihpfjniacaaDoorEv7b
namespace Go.Proofs.YtpplihpfjniacaaDoor
open Go.RowKit

theorem read_good (n X Y : Nat) (b1 b2 : Bool) (v : Value) (w : World)
    (hcol : ∀ ws, Chg [] w ws → Calls Tryd.prog 58 #[.int .i64 (n : Int), v] ws (Ret (.tuple #[famV n X, .bool true]) ws))
    (hlist : ∀ ws, Chg [] w ws → Calls Tryd.prog 59 #[famV n X] ws fun e w' => ∃ u, e = .returned u ∧ (∀ ws, Chg [] w' ws → Calls Tryd.prog 21 #[u, v] ws (Ret (.bool b1) ws)) ∧ Chg [] ws w')
    (hclo : ∀ ws, Calls Tryd.prog 60 #[famV n X] ws (Ret (famV n Y) ws)) (eY : ((Y : Int) == (X : Int)) = b2) :
    Calls Tryd.prog 25 #[.int .i64 (n : Int), v] w (Ret (.tuple #[famV n X, .bool (b1 && b2)]) w) := by
  cases b1 with
  | false => exact read_gf n X Y b2 v w hcol hlist hclo
  | true => exact read_gt n X Y b2 v w hcol hlist hclo eY

theorem read_any (n : Int) (v : Value) (l : List Int) (w : World) (hv : See w v l) (hT : Tz w) :
    Calls Tryd.prog 25 #[.int .i64 n, v] w (ReadOut n l w) := by
  by_cases hb : 1 ≤ n ∧ n ≤ 6 ∧ l.length ≤ 64
  · obtain ⟨m, rfl⟩ : ∃ m : Nat, n = (m : Int) := ⟨n.toNat, by omega⟩
    have hk : okR (m : Int) l = Fam.readB m l := by
      unfold okR
      rw [decide_eq_true hb, Bool.true_and, Int.toNat_natCast]
    cases hs : Fam.sets m l with
    | false =>
      refine (read_bad (m : Int) v w fun ws hw => (collect_in m v l ws (hv.keep hw) (by omega) (by omega) hb.2.2).mono ?_).mono ?_
      · rintro e w' ⟨hc, ⟨h1, _⟩ | ⟨_, X, _, rfl⟩⟩
        · rw [hs] at h1; cases h1
        · exact ⟨hc, (m : Int), X, rfl⟩
      · rintro e w' ⟨hc, h⟩
        refine ⟨hc, .inr ⟨?_, h⟩⟩
        rw [hk]
        unfold Fam.readB
        rw [hs]
        rfl
    | true =>
      have hX : Fam.setOf l < 18446744073709551616 := Fam.setOf_lt (n := 64) fun s h => by have := (Fam.sets_nat hs h).1; have := Fam.pow_64 (n := m) (by omega); omega
      refine (read_good m (Fam.setOf l) (Fam.closed m (Fam.setOf l)) (decide (Fam.bitsList (Fam.setOf l) = l)) (decide (Fam.closed m (Fam.setOf l) = Fam.setOf l)) v w (fun ws hw => (collect_in m v l ws (hv.keep hw) (by omega) (by omega) hb.2.2).mono ?_) (fun ws hw => (list_any m (Fam.setOf l) ws hX (hT.keep hw)).mono ?_) (fun ws => closed_any m (Fam.setOf l) ws hX (by omega)) ?_).mono ?_
      · rintro e w' ⟨hc, ⟨_, rfl⟩ | ⟨h1, _⟩⟩
        · exact ⟨rfl, hc⟩
        · rw [hs] at h1; cases h1
      · rintro e w' ⟨u, rfl, hI, hc⟩
        exact ⟨u, rfl, fun ws' hw' => Equal_any u v _ l ws' (hI.keep hw').toSee (hv.keep ((hw.trans hc).trans hw')) (by have := Fam.bits_len (Fam.setOf l); omega), hc⟩
      · rw [Bool.eq_iff_iff, beq_iff_eq, decide_eq_true_eq]; omega
      · rintro e w' ⟨rfl, hc⟩
        refine ⟨hc, ?_⟩
        have e1 : okR (m : Int) l = (decide (Fam.bitsList (Fam.setOf l) = l) && decide (Fam.closed m (Fam.setOf l) = Fam.setOf l)) := by
          rw [hk]
          unfold Fam.readB
          rw [hs, Bool.true_and]
        rw [e1]
        cases (decide (Fam.bitsList (Fam.setOf l) = l) && decide (Fam.closed m (Fam.setOf l) = Fam.setOf l)) with
        | true => exact .inl ⟨rfl, rfl⟩
        | false => exact .inr ⟨rfl, (m : Int), Fam.setOf l, rfl⟩
  · have hk : okR n l = false := by
      unfold okR
      rw [decide_eq_false hb]
      rfl
    refine (read_bad n v w fun ws hw => (collect_out n v l ws (hv.keep hw) hb).mono ?_).mono ?_
    · rintro e w' ⟨rfl, hc⟩
      exact ⟨hc, n, 0, rfl⟩
    · rintro e w' ⟨hc, h⟩
      exact ⟨hc, .inr ⟨hk, h⟩⟩
end Go.Proofs.YtpplihpfjniacaaDoor
