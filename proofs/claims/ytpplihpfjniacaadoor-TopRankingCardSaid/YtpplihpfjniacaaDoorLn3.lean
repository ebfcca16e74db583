/- Walk: orders: lines, Lines. -/
import Derived.Test.YtpplihpfjniacaaDoorLn2
import Derived.Test.YtpplihpfjniacaaDoorCt1
import Derived.Laws.EntriesVeiled
namespace Go.Proofs.YtpplihpfjniacaaDoor
open Go.RowKit Go.Shelf

theorem growL_all (l : List Int) (w0 : World) (Z : Nat) (T : Tr.Tour l) (hA : Tr.Acy l) (h6 : l.length ≤ 6) (hT : Tz w0) : ∀ N, GrowL l w0 Z N
  | 0 => fun _ _ _ _ h => absurd h (Nat.not_lt_zero _)
  | N + 1 => growL_step l w0 Z N T hA h6 hT (growL_all l w0 Z T hA h6 hT N)
/-- What lines hands back: one line alone. -/
def OneLine (l : List Int) (w : World) (e : Ending) (w' : World) : Prop := ∃ v' xs, e = .returned v' ∧ See2 w' v' [natsI xs] ∧ Tr.Asc l (2 ^ l.length - 1) xs ∧ Chg [] w w'
theorem one_see {l : List Int} {w0 W : World} {Z k fl : Nat} {xs : List Nat} {Bs : List Nat} (h : Ln1 l w0 Z k xs fl Bs W) : ∃ ov, Box W (Z + 1) #[ov] 29 ∧ See2 W ov [natsI xs] := by
  obtain ⟨_, _, ov, u, h4, h5, h6, _⟩ := h
  refine ⟨ov, h4, Rows2.toSee2 (base := Z + 1 + 1 + 1 + 1) ⟨[u], rfl, h5, fun i q hq => ?_⟩⟩
  match i, hq with
  | 0, hq =>
    cases hq
    exact row_one (xs := natsI xs) (by rw [natsI_map]; exact h6) (natsI_len xs).symm
set_option maxRecDepth 100000 in
set_option maxHeartbeats 2000000 in
theorem lines_any (l : List Int) (w : World) (T : Tr.Tour l) (hA : Tr.Acy l) (h6 : l.length ≤ 6) (hT : Tz w) :
    Calls Tryd.prog 49 #[ordV l.length (Tr.upA l)] w (OneLine l w) := by
  have HAll := hide fun ws => all_any l.length (Tr.upA l) ws h6
  have HG := hide fun Z => growL_all l w Z T hA h6 hT (2 ^ l.length)
  have hp := Nat.two_pow_pos l.length
  have hcd := Tr.card_all l.length (by omega)
  obtain ⟨P, hP⟩ : ∃ P, P = 2 ^ l.length - 1 := ⟨_, rfl⟩
  rw [← hP] at HAll hcd
  have HP := hide (And.intro hP (And.intro hp hcd))
  have HL := hide h6
  unfold ordV ordC at HAll
  unfold ordV
  clear T hA h6 hT hP hp hcd
  go_enter Tryd.func49, Tryd.ntmps49
  go_wp2
  obtain ⟨Z, hZ⟩ : ∃ Z, w.heap.size = Z := ⟨_, rfl⟩
  rw [hZ]
  obtain ⟨W1, e1, b1, c1, z1⟩ := alloc_box hZ (ordC l.length (Tr.upA l)) 72
  rw [e1]
  obtain ⟨W2, e2, b2, c2, z2⟩ := alloc_box z1 #[.slice none 0 0] 29
  rw [e2]
  obtain ⟨W3, e3, b3, c3, z3⟩ := alloc_box z2 #[.slice none 0 0] 22
  rw [e3]
  obtain ⟨W4, e4, b4, c4, z4⟩ := alloc_box z3 #[.func (.func 80) #[] (lnCap Z)] 121
  unfold lnCap at e4
  rw [e4]
  have c14 := c1.trans (c2.trans (c3.trans c4))
  have HS4 : Hid (Ln0 l w Z (.slice none 0 0) [] W4) := hide ⟨⟨b1.keep (c2.trans (c3.trans c4)) List.not_mem_nil, b4, c14, by omega, Nat.le_of_eq hZ⟩, b3.keep c4 List.not_mem_nil, World.ownsRow_nil _ _ _ _, b2.keep (c3.trans c4) List.not_mem_nil⟩
  clear e1 e2 e3 e4 b1 b2 b3 b4 c1 c2 c3 c4 c14 z1 z2 z3
  have eargs : ∀ v : Value, #[v] ++ lnCap Z = #[v, .pointer (some ⟨Z + 1, 0, none⟩), .pointer (some ⟨Z + 1 + 1, 0, none⟩), .pointer (some ⟨Z, 0, none⟩), .pointer (some ⟨Z + 1 + 1 + 1, 0, none⟩)] := fun v => rfl
  have HRec := hide fun ws (hw : Chg [] W4 ws) => HG.out Z P _ [] ws (by have := HP.out; omega) (by have := HP.out; omega) (by rw [HP.out.2.2, List.length_nil]; have := HL.out; omega) (HS4.out.keep hw)
  simp only [eargs] at HRec
  obtain ⟨⟨f0, f1, f2, f3, f4, f5, f6⟩, l3⟩ := ord_all HS4.out.1.1
  have fg := HS4.out.1.2.1.cell 0
  have lg := HS4.out.1.2.1.lt
  simp only [List.getElem?_toArray, List.getElem?_cons_zero] at fg
  unfold lnCap at fg
  clear eargs
  go_region_with ((first | (go_at_call 81; refine (HAll.out _).mono ?_; rintro e w5 ⟨rfl, h5⟩; have k5 : Chg [] W4 w5 := (by (repeat' (first | with_reducible exact Chg.refl _ _ | with_reducible assumption | with_reducible apply Chg.drewN | with_reducible apply Chg.drew | with_reducible apply Chg.alloc | (with_reducible refine Chg.setCell ?_ (Or.inr ?_) _) | (with_reducible refine Chg.trans ?_ (by assumption)) | (simp; done) | (simp; omega)))); have fg5 := (HS4.out.1.2.1.keep k5 List.not_mem_nil).cell 0; (try simp only [List.getElem?_toArray, List.getElem?_cons_zero] at fg5); unfold lnCap at fg5; have lg5 := Nat.lt_of_lt_of_le lg k5.size) | (go_at_call 80; refine (HRec.out _ (by (repeat' (first | with_reducible exact Chg.refl _ _ | with_reducible assumption | with_reducible apply Chg.drewN | with_reducible apply Chg.drew | with_reducible apply Chg.alloc | (with_reducible refine Chg.setCell ?_ (Or.inr ?_) _) | (with_reducible refine Chg.trans ?_ (by assumption)) | (simp; done) | (simp; omega))))).mono ?_; rintro e w6 ⟨⟨v6, rfl⟩, ⟨xs, hasc, hL⟩, hc6, hk6⟩)))
  all_goals
    obtain ⟨ov, ho, hsee⟩ := one_see hL
    have HO := hide (And.intro hsee (And.intro hasc hL.1.2.2.1))
    have fo := ho.cell 0
    have lo := ho.lt
    simp only [List.getElem?_toArray, List.getElem?_cons_zero] at fo
    clear hasc hL hc6 hk6 ho hsee h5 k5 fg5 lg5 fg lg f0 f1 f2 f3 f4 f5 f6 l3 HRec
    go_wp2
    go_ret
    exact ⟨_, xs, rfl, HO.out.1, by rw [← HP.out.1]; exact HO.out.2.1, HO.out.2.2⟩

set_option maxRecDepth 100000 in
theorem Lines_any (l : List Int) (v : Value) (w : World) (hv : See w v (ordL l.length (Tr.upA l))) (T : Tr.Tour l) (hA : Tr.Acy l) (h6 : l.length ≤ 6) (hT : Tz w) :
    Calls Tryd.prog 18 #[v] w fun e w' => ∃ v' xs, e = .returned (.tuple #[v', .int .i64 0]) ∧ See2 w' v' [natsI xs] ∧ Tr.Asc l (2 ^ l.length - 1) xs ∧ Chg [] w w' := by
  have HR := hide (read_any l.length (Tr.upA l) v w hv T.len.1 h6 (Tr.up_ord T hA) hT)
  have HC := hide fun ws hw => lines_any l ws T hA h6 (hT.keep hw)
  obtain ⟨ao, cap, rfl⟩ := hv.shape
  unfold ordV ordC at HR HC
  clear hv hT
  go_enter Tryd.func18, Tryd.ntmps18
  go_wp2_with fail
  refine HR.out.mono ?_
  rintro e w2 ⟨rfl, h2⟩
  have H2 := hide h2
  clear h2
  go_wp2_with fail
  refine (HC.out _ (H2.out.alloc _)).mono ?_
  rintro e w3 ⟨v', xs, rfl, hs, ha, h3⟩
  have H3 := hide (And.intro hs (And.intro ha ((H2.out.alloc _).trans h3)))
  clear hs ha h3
  go_wp2
  go_ret2
  exact ⟨v', xs, rfl, H3.out⟩
end Go.Proofs.YtpplihpfjniacaaDoor
