/- Plain: the tables of TalkEqual. -/
import Derived.Test.YtaapamoglgpocaaFool5
import Derived.Test.YtaapamoglgpocaaBndPlain
namespace Go.Proofs.Ytaapamoglgpocaa

def idT (n : Nat) : List (List Int) := (List.range n).map fun i => (List.replicate n 0).set i 1
theorem idT_len (n : Nat) : (idT n).length = n := by unfold idT; simp
theorem idT_take {n i : Nat} (h : i < n) : (idT n).take (i + 1) = (idT n).take i ++ [(List.replicate n 0).set i 1] := by
  rw [List.take_add_one, List.getElem?_eq_getElem (by rw [idT_len]; exact h)]
  unfold idT
  simp
def look2 (h : List (List Nat)) (r c : Nat) : Nat := (h.getD r []).getD c 0
/-- The rule of the least lengths, at one rectangle. -/
def lenRule (t : List (List Int)) (h : List (List Nat)) (r c : Nat) : Bool := decide (look2 h r c = if T.clear t r c = true then 0 else T.best ((T.subs r).map (fun s => 1 + max (look2 h (r - s) c) (look2 h s c)) ++ (T.subs c).map (fun s => 1 + max (look2 h r (c - s)) (look2 h r s))))
def lenRules (t : List (List Int)) (h : List (List Nat)) : Bool := (List.range 16).all fun r => (List.range 16).all fun c => lenRule t h r c
theorem len_cert {t : List (List Int)} {h : List (List Nat)} (hh : lenRules t h = true) : ∀ (f r c : Nat), r + c < f → r < 16 → c < 16 → T.len t r c = look2 h r c
  | 0, _, _, hf, _, _ => by omega
  | f + 1, r, c, hf, hr, hc => by
    have h1 := of_decide_eq_true (List.all_eq_true.1 (List.all_eq_true.1 hh r (List.mem_range.2 hr)) c (List.mem_range.2 hc))
    rw [h1, T.len_eq hr hc]
    congr 1
    congr 1
    congr 1
    · apply List.map_congr_left
      intro s hs
      have hm := T.subs_mem hr hs
      unfold T.cost
      rw [if_pos rfl, len_cert hh f (r - s) c (by omega) (by omega) hc, len_cert hh f s c (by omega) (by omega) hc]
    · apply List.map_congr_left
      intro s hs
      have hm := T.subs_mem hc hs
      unfold T.cost
      rw [if_neg (by decide), len_cert hh f r (c - s) (by omega) hr (by omega), len_cert hh f r s (by omega) hr (by omega)]
theorem lenT_cert {t : List (List Int)} {h : List (List Nat)} (hh : lenRules t h = true) (ht : T.isTab t = true) : lenT t = look2 h (2 ^ t.length - 1) (2 ^ T.cols t - 1) := by
  have hw := whole_within ht
  exact len_cert hh _ _ _ (Nat.lt_succ_self _) hw.2.2.2.2.1 hw.2.2.2.2.2
def hT2 : List (List Nat) := [[0, 0, 0, 0, 0, 0, 0, 0, 0, 0, 0, 0, 0, 0, 0, 0], [0, 0, 0, 1, 0, 0, 0, 1, 0, 0, 0, 1, 0, 0, 0, 1], [0, 0, 0, 1, 0, 0, 0, 1, 0, 0, 0, 1, 0, 0, 0, 1], [0, 1, 1, 2, 0, 1, 1, 2, 0, 1, 1, 2, 0, 1, 1, 2], [0, 0, 0, 0, 0, 0, 0, 0, 0, 0, 0, 0, 0, 0, 0, 0], [0, 0, 0, 1, 0, 0, 0, 1, 0, 0, 0, 1, 0, 0, 0, 1], [0, 0, 0, 1, 0, 0, 0, 1, 0, 0, 0, 1, 0, 0, 0, 1], [0, 1, 1, 2, 0, 1, 1, 2, 0, 1, 1, 2, 0, 1, 1, 2], [0, 0, 0, 0, 0, 0, 0, 0, 0, 0, 0, 0, 0, 0, 0, 0], [0, 0, 0, 1, 0, 0, 0, 1, 0, 0, 0, 1, 0, 0, 0, 1], [0, 0, 0, 1, 0, 0, 0, 1, 0, 0, 0, 1, 0, 0, 0, 1], [0, 1, 1, 2, 0, 1, 1, 2, 0, 1, 1, 2, 0, 1, 1, 2], [0, 0, 0, 0, 0, 0, 0, 0, 0, 0, 0, 0, 0, 0, 0, 0], [0, 0, 0, 1, 0, 0, 0, 1, 0, 0, 0, 1, 0, 0, 0, 1], [0, 0, 0, 1, 0, 0, 0, 1, 0, 0, 0, 1, 0, 0, 0, 1], [0, 1, 1, 2, 0, 1, 1, 2, 0, 1, 1, 2, 0, 1, 1, 2]]
theorem lenT2 : lenT (idT 2) = 2 := by
  rw [lenT_cert (h := hT2) (by decide +kernel) (by decide +kernel)]
  decide +kernel
theorem foolT2 : (foolM (idT 2) 1).length = 2 := by decide +kernel
theorem tabT2 : T.isTab (idT 2) = true := by decide +kernel
def hT3 : List (List Nat) := [[0, 0, 0, 0, 0, 0, 0, 0, 0, 0, 0, 0, 0, 0, 0, 0], [0, 0, 0, 1, 0, 1, 0, 1, 0, 0, 0, 1, 0, 1, 0, 1], [0, 0, 0, 1, 0, 0, 1, 1, 0, 0, 0, 1, 0, 0, 1, 1], [0, 1, 1, 2, 0, 2, 2, 2, 0, 1, 1, 2, 0, 2, 2, 2], [0, 0, 0, 0, 0, 1, 1, 1, 0, 0, 0, 0, 0, 1, 1, 1], [0, 1, 0, 2, 1, 2, 2, 2, 0, 1, 0, 2, 1, 2, 2, 2], [0, 0, 1, 2, 1, 2, 2, 2, 0, 0, 1, 2, 1, 2, 2, 2], [0, 1, 1, 2, 1, 2, 2, 3, 0, 1, 1, 2, 1, 2, 2, 3], [0, 0, 0, 0, 0, 0, 0, 0, 0, 0, 0, 0, 0, 0, 0, 0], [0, 0, 0, 1, 0, 1, 0, 1, 0, 0, 0, 1, 0, 1, 0, 1], [0, 0, 0, 1, 0, 0, 1, 1, 0, 0, 0, 1, 0, 0, 1, 1], [0, 1, 1, 2, 0, 2, 2, 2, 0, 1, 1, 2, 0, 2, 2, 2], [0, 0, 0, 0, 0, 1, 1, 1, 0, 0, 0, 0, 0, 1, 1, 1], [0, 1, 0, 2, 1, 2, 2, 2, 0, 1, 0, 2, 1, 2, 2, 2], [0, 0, 1, 2, 1, 2, 2, 2, 0, 0, 1, 2, 1, 2, 2, 2], [0, 1, 1, 2, 1, 2, 2, 3, 0, 1, 1, 2, 1, 2, 2, 3]]
theorem lenT3 : lenT (idT 3) = 3 := by
  rw [lenT_cert (h := hT3) (by decide +kernel) (by decide +kernel)]
  decide +kernel
theorem foolT3 : (foolM (idT 3) 1).length = 3 := by decide +kernel
theorem tabT3 : T.isTab (idT 3) = true := by decide +kernel
def hT4 : List (List Nat) := [[0, 0, 0, 0, 0, 0, 0, 0, 0, 0, 0, 0, 0, 0, 0, 0], [0, 0, 0, 1, 0, 1, 0, 1, 0, 1, 0, 1, 0, 1, 0, 1], [0, 0, 0, 1, 0, 0, 1, 1, 0, 0, 1, 1, 0, 0, 1, 1], [0, 1, 1, 2, 0, 2, 2, 2, 0, 2, 2, 2, 0, 2, 2, 2], [0, 0, 0, 0, 0, 1, 1, 1, 0, 0, 0, 0, 1, 1, 1, 1], [0, 1, 0, 2, 1, 2, 2, 2, 0, 2, 0, 2, 2, 2, 2, 2], [0, 0, 1, 2, 1, 2, 2, 2, 0, 0, 2, 2, 2, 2, 2, 2], [0, 1, 1, 2, 1, 2, 2, 3, 0, 2, 2, 3, 2, 3, 3, 3], [0, 0, 0, 0, 0, 0, 0, 0, 0, 1, 1, 1, 1, 1, 1, 1], [0, 1, 0, 2, 0, 2, 0, 2, 1, 2, 2, 2, 2, 2, 2, 2], [0, 0, 1, 2, 0, 0, 2, 2, 1, 2, 2, 2, 2, 2, 2, 2], [0, 1, 1, 2, 0, 2, 2, 3, 1, 2, 2, 3, 2, 3, 3, 3], [0, 0, 0, 0, 1, 2, 2, 2, 1, 2, 2, 2, 2, 2, 2, 2], [0, 1, 0, 2, 1, 2, 2, 3, 1, 2, 2, 3, 2, 3, 3, 3], [0, 0, 1, 2, 1, 2, 2, 3, 1, 2, 2, 3, 2, 3, 3, 3], [0, 1, 1, 2, 1, 2, 2, 3, 1, 2, 2, 3, 2, 3, 3, 3]]
theorem lenT4 : lenT (idT 4) = 3 := by
  rw [lenT_cert (h := hT4) (by decide +kernel) (by decide +kernel)]
  decide +kernel
theorem foolT4 : (foolM (idT 4) 1).length = 4 := by decide +kernel
theorem tabT4 : T.isTab (idT 4) = true := by decide +kernel
end Go.Proofs.Ytaapamoglgpocaa
