/- Walks: Rank, Rank2. -/
import Derived.Test.YtaapamoglgpocaaRk3
namespace Go.Proofs.Ytaapamoglgpocaa
open Go.RowKit

def bnd : Nat → Int
  | 0 => 1
  | 1 => 2
  | 2 => 8
  | _ => 128
theorem mul_bnd {a d B : Int} (ha : -B ≤ a ∧ a ≤ B) (hd : -B ≤ d ∧ d ≤ B) : -(B * B) ≤ a * d ∧ a * d ≤ B * B := by
  have h1 : (a * d).natAbs ≤ B.natAbs * B.natAbs := by
    rw [Int.natAbs_mul]
    exact Nat.mul_le_mul (by omega) (by omega)
  have h2 : ((B.natAbs * B.natAbs : Nat) : Int) = B * B := by rw [Int.natCast_mul, Int.natAbs_of_nonneg (by omega)]
  omega
theorem cross0_ok : ∀ (s : Nat) (a b c d : Int), s ≤ 2 → (-bnd s ≤ a ∧ a ≤ bnd s) → (-bnd s ≤ b ∧ b ≤ bnd s) → (-bnd s ≤ c ∧ c ≤ bnd s) → (-bnd s ≤ d ∧ d ≤ bnd s) →
    (-bnd (s + 1) ≤ cross0 a b c d ∧ cross0 a b c d ≤ bnd (s + 1)) ∧ (0 : Int) ∣ cross0 a b c d - (a * d - b * c) := by
  intro s a b c d hs ha hb hc hd
  have h1 := mul_bnd ha hd
  have h2 := mul_bnd hb hc
  have h3 : 2 * (bnd s * bnd s) ≤ bnd (s + 1) ∧ bnd s * bnd s ≤ 64 := by
    rcases (by omega : s = 0 ∨ s = 1 ∨ s = 2) with rfl | rfl | rfl <;> decide
  have e : cross0 a b c d = a * d - b * c := by
    unfold cross0 wrap64
    generalize a * d = x at *
    generalize b * c = y at *
    omega
  rw [e]
  refine ⟨by omega, ⟨0, by omega⟩⟩
theorem cross2_ok : ∀ (s : Nat) (a b c d : Int), s ≤ 2 → (a = 0 ∨ a = 1) → (b = 0 ∨ b = 1) → (c = 0 ∨ c = 1) → (d = 0 ∨ d = 1) →
    (cross2 a b c d = 0 ∨ cross2 a b c d = 1) ∧ (2 : Int) ∣ cross2 a b c d - (a * d - b * c) := by
  intro s a b c d _ ha hb hc hd
  rcases ha with rfl | rfl <;> rcases hb with rfl | rfl <;> rcases hc with rfl | rfl <;> rcases hd with rfl | rfl <;> decide +kernel
theorem rank0_eq {t : List (List Int)} (ht : T.isTab t = true) : rkGo cross0 t.length (T.cols t) 0 0 (T.ent t) = minorsM 0 (T.ent t) t.length (T.cols t) := by
  obtain ⟨⟨t1, t2, t3, t4⟩, _⟩ := T.isTab_iff.1 ht
  refine IsRk.eq (rkGo_isRk (ok := fun s x => -bnd s ≤ x ∧ x ≤ bnd s) prim_zero (by decide) t2 t1 cross0_ok (fun s x _ h => Int.zero_dvd.1 h) (fun i _ c _ => ?_)) (minors_isRk (by decide))
  have := T.ent_val (i := i) (j := c) ht
  show -(1 : Int) ≤ _ ∧ _ ≤ (1 : Int)
  omega
theorem rank2_eq {t : List (List Int)} (ht : T.isTab t = true) : rkGo cross2 t.length (T.cols t) 0 0 (T.ent t) = minorsM 2 (T.ent t) t.length (T.cols t) := by
  obtain ⟨⟨t1, t2, t3, t4⟩, _⟩ := T.isTab_iff.1 ht
  refine IsRk.eq (rkGo_isRk (ok := fun _ x => x = 0 ∨ x = 1) prim_two (by decide) t2 t1 cross2_ok (fun s x hx h => ?_) (fun i _ c _ => ?_)) (minors_isRk (by decide))
  · omega
  · have := T.ent_val (i := i) (j := c) ht
    show _ ∨ _
    omega

def rankN (p : Int) (t : List (List Int)) : Nat := minorsM p (T.ent t) t.length (T.cols t)
def rankV (p : Int) (t : List (List Int)) : Value := if T.isTab t = true then .tuple #[.int .i64 (rankN p t : Int), .int .i64 0] else .tuple #[.int .i64 0, .int .i64 2]
theorem callC0 (args : Array Value) (W : World) : (callFunc 62 args).run Try.prog W = .ok (.enter 62 args) W := by kernel_rfl
theorem callC2 (args : Array Value) (W : World) : (callFunc 63 args).run Try.prog W = .ok (.enter 63 args) W := by kernel_rfl

set_option maxRecDepth 100000 in
set_option maxHeartbeats 1000000 in
theorem rank_bad (F : FuncId) (v : Value) (t : List (List Int)) (w : World) (hv : See2 w v t) (hl : ∀ r ∈ t, r.length ≤ 1000000) (htl : t.length ≤ 1000000) (ht : T.isTab t = false) :
    Calls Try.prog 61 #[v, .func (.func F) #[] #[]] w (Ret (.tuple #[.int .i64 0, .int .i64 2]) w) := by
  have HVa := hide (valid_any v t w hv hl htl)
  obtain ⟨ao, cap, rfl⟩ := hv.shape
  rw [ht] at HVa
  clear hv hl htl ht
  generalize t.length = n at *
  go_enter Try.func61, Try.ntmps61
  go_wp2_with fail
  refine HVa.out.mono ?_
  rintro e w1 ⟨rfl, hw1⟩
  go_wp2
  go_ret2
  exact ⟨rfl, hw1⟩
theorem rank0_any (v : Value) (t : List (List Int)) (w : World) (hv : See2 w v t) (hl : ∀ r ∈ t, r.length ≤ 1000000) (htl : t.length ≤ 1000000) :
    Calls Try.prog 61 #[v, .func (.func 62) #[] #[]] w (Ret (rankV 0 t) w) := by
  unfold rankV
  cases ht : T.isTab t with
  | false => rw [if_neg (by decide)]; exact rank_bad _ v t w hv hl htl ht
  | true => rw [if_pos rfl]; exact rank_good _ cross0 v t w hv ht callC0 cross0_any _ (rank0_eq ht)
theorem rank2_any (v : Value) (t : List (List Int)) (w : World) (hv : See2 w v t) (hl : ∀ r ∈ t, r.length ≤ 1000000) (htl : t.length ≤ 1000000) :
    Calls Try.prog 61 #[v, .func (.func 63) #[] #[]] w (Ret (rankV 2 t) w) := by
  unfold rankV
  cases ht : T.isTab t with
  | false => rw [if_neg (by decide)]; exact rank_bad _ v t w hv hl htl ht
  | true => rw [if_pos rfl]; exact rank_good _ cross2 v t w hv ht callC2 cross2_any _ (rank2_eq ht)
set_option maxRecDepth 100000 in
set_option maxHeartbeats 1000000 in
theorem Rank_any (v : Value) (t : List (List Int)) (w : World) (hv : See2 w v t) (hl : ∀ r ∈ t, r.length ≤ 1000000) (htl : t.length ≤ 1000000) : Calls Try.prog 26 #[v] w (Ret (rankV 0 t) w) := by
  have HR := hide (rank0_any v t w hv hl htl)
  obtain ⟨x, y, hxy⟩ : ∃ x y : Int, rankV 0 t = .tuple #[.int .i64 x, .int .i64 y] := by unfold rankV; split <;> exact ⟨_, _, rfl⟩
  rw [hxy] at HR ⊢
  obtain ⟨ao, cap, rfl⟩ := hv.shape
  clear hv hl htl hxy
  generalize t.length = n at *
  go_enter Try.func26, Try.ntmps26
  go_wp2_with fail
  refine HR.out.mono ?_
  rintro e w1 ⟨rfl, hw1⟩
  go_wp2
  go_ret2
  exact ⟨rfl, hw1⟩
set_option maxRecDepth 100000 in
set_option maxHeartbeats 1000000 in
theorem Rank2_any (v : Value) (t : List (List Int)) (w : World) (hv : See2 w v t) (hl : ∀ r ∈ t, r.length ≤ 1000000) (htl : t.length ≤ 1000000) : Calls Try.prog 27 #[v] w (Ret (rankV 2 t) w) := by
  have HR := hide (rank2_any v t w hv hl htl)
  obtain ⟨x, y, hxy⟩ : ∃ x y : Int, rankV 2 t = .tuple #[.int .i64 x, .int .i64 y] := by unfold rankV; split <;> exact ⟨_, _, rfl⟩
  rw [hxy] at HR ⊢
  obtain ⟨ao, cap, rfl⟩ := hv.shape
  clear hv hl htl hxy
  generalize t.length = n at *
  go_enter Try.func27, Try.ntmps27
  go_wp2_with fail
  refine HR.out.mono ?_
  rintro e w1 ⟨rfl, hw1⟩
  go_wp2
  go_ret2
  exact ⟨rfl, hw1⟩
end Go.Proofs.Ytaapamoglgpocaa
