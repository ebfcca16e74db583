/- Walk: tournaments: walk, Way. -/
import Derived.Test.YtpplihpfjniacaaDoorWy2
import Derived.Laws.EntriesVeiled
namespace Go.Proofs.YtpplihpfjniacaaDoor
open Go.RowKit Go.Shelf

theorem growW_all (l : List Int) (w0 : World) (Z : Nat) (a : Addr) (cap : Nat) (T : Tr.Tour l) (hA : Tr.Acy l) (hT : Tz w0) (hTA : TourAt w0 (.slice (some a) l.length cap) l a cap) : ∀ N, GrowW l w0 Z a cap N
  | 0 => fun _ _ _ _ h => absurd h (Nat.not_lt_zero _)
  | N + 1 => growW_step l w0 Z a cap N T hA hT hTA (growW_all l w0 Z a cap T hA hT hTA N)
/-- The way, in a row of its own. -/
def OneWay (l : List Int) (w : World) (v' : Value) (w' : World) : Prop := ∃ xs, w'.ownsRow w.heap.size 3 1 v' xs.length (natsV xs) ∧ Tr.Desc l (2 ^ l.length - 1) xs ∧ xs.length ≤ 8 ∧ Chg [] w w'
set_option maxRecDepth 100000 in
set_option maxHeartbeats 2000000 in
theorem walk_any (vt : Value) (l : List Int) (w : World) (hv : See w vt l) (T : Tr.Tour l) (hA : Tr.Acy l) (hT : Tz w) :
    Calls Tryd.prog 50 #[vt, .int .i64 (l.length : Int), .func (.func 51) #[] #[]] w fun e w' => ∃ v', e = .returned v' ∧ OneWay l w v' w' := by
  obtain ⟨a, cap, hTA⟩ := tour_at T hv
  obtain rfl := hTA.eq
  have HAll := hide fun ws => allT_any (some a) l.length cap ws T.len.2
  have HG := hide fun Z => growW_all l w Z a cap T hA hT hTA (2 ^ l.length)
  have hp := Nat.two_pow_pos l.length
  have hn8 := T.len.2
  have hcd := Tr.card_all l.length (by omega)
  obtain ⟨P, hP⟩ : ∃ P, P = 2 ^ l.length - 1 := ⟨_, rfl⟩
  rw [← hP] at HAll hcd
  have HP := hide (And.intro hP (And.intro hp (And.intro hcd hn8)))
  clear T hA hT hP hp hcd hTA hv hn8
  go_enter Tryd.func50, Tryd.ntmps50
  go_wp2
  obtain ⟨Z, hZ⟩ : ∃ Z, w.heap.size = Z := ⟨_, rfl⟩
  rw [hZ]
  obtain ⟨W1, e1, b1, c1, z1⟩ := alloc_box hZ #[.slice (some a) l.length cap] 78
  rw [e1]
  obtain ⟨W2, e2, b2, c2, z2⟩ := alloc_box z1 #[.int .i64 (l.length : Int)] 3
  rw [e2]
  obtain ⟨W3, e3, b3, c3, z3⟩ := alloc_box z2 #[.func (.func 51) #[] #[]] 33
  rw [e3]
  obtain ⟨W4, e4, b4, c4, z4⟩ := alloc_box z3 #[.slice none 0 0] 22
  rw [e4]
  obtain ⟨W5, e5, b5, c5, z5⟩ := alloc_box z4 #[.func (.func 82) #[] (wyCap Z)] 74
  unfold wyCap at e5
  rw [e5]
  have c15 := c1.trans (c2.trans (c3.trans (c4.trans c5)))
  have HS5 : Hid (WyS l w Z a cap (.slice none 0 0) [] W5) := hide ⟨⟨b1.keep (c2.trans (c3.trans (c4.trans c5))) List.not_mem_nil, b2.keep (c3.trans (c4.trans c5)) List.not_mem_nil, b3.keep (c4.trans c5) List.not_mem_nil, b5, c15, by omega, Nat.le_of_eq hZ⟩, b4.keep c5 List.not_mem_nil, World.ownsRow_nil _ _ _ _⟩
  clear e1 e2 e3 e4 e5 b1 b2 b3 b4 b5 c1 c2 c3 c4 c5 c15 z1 z2 z3 z4
  have eargs : ∀ v : Value, #[v] ++ wyCap Z = #[v, .pointer (some ⟨Z + 1 + 1 + 1, 0, none⟩), .pointer (some ⟨Z + 1, 0, none⟩), .pointer (some ⟨Z + 1 + 1, 0, none⟩), .pointer (some ⟨Z, 0, none⟩), .pointer (some ⟨Z + 1 + 1 + 1 + 1, 0, none⟩)] := fun v => rfl
  have HRec := hide fun ws (hw : Chg [] W5 ws) => HG.out Z P _ [] ws (by have := HP.out; omega) (by have := HP.out; omega) (by rw [HP.out.2.2.1, List.length_nil]; omega) (fun _ h => by cases h) (HS5.out.keep hw)
  simp only [eargs] at HRec
  have f1 := HS5.out.1.1.cell 0
  have l1 := HS5.out.1.1.lt
  have fg := HS5.out.1.2.2.2.1.cell 0
  have lg := HS5.out.1.2.2.2.1.lt
  simp only [List.getElem?_toArray, List.getElem?_cons_zero] at f1 fg
  unfold wyCap at fg
  clear eargs
  go_region_with ((first | (go_at_call 83; refine (HAll.out _).mono ?_; rintro e w6 ⟨rfl, h6⟩; have k6 : Chg [] W5 w6 := (by (repeat' (first | with_reducible exact Chg.refl _ _ | with_reducible assumption | with_reducible apply Chg.drewN | with_reducible apply Chg.drew | with_reducible apply Chg.alloc | (with_reducible refine Chg.setCell ?_ (Or.inr ?_) _) | (with_reducible refine Chg.trans ?_ (by assumption)) | (simp; done) | (simp; omega)))); have fg6 := (HS5.out.1.2.2.2.1.keep k6 List.not_mem_nil).cell 0; (try simp only [List.getElem?_toArray, List.getElem?_cons_zero] at fg6); unfold wyCap at fg6; have lg6 := Nat.lt_of_lt_of_le lg k6.size) | (go_at_call 82; refine (HRec.out _ (by (repeat' (first | with_reducible exact Chg.refl _ _ | with_reducible assumption | with_reducible apply Chg.drewN | with_reducible apply Chg.drew | with_reducible apply Chg.alloc | (with_reducible refine Chg.setCell ?_ (Or.inr ?_) _) | (with_reducible refine Chg.trans ?_ (by assumption)) | (simp; done) | (simp; omega))))).mono ?_; rintro e w7 ⟨b, lv', lst', rfl, hs, hg, _, hc7, _, hk7⟩; obtain ⟨rfl, xs, hd, rfl⟩ := hg (fun z hz => by cases hz))))
  all_goals
    try rw [List.nil_append] at hs
    have fo := hs.2.1.cell 0
    have lo := hs.2.1.lt
    simp only [List.getElem?_toArray, List.getElem?_cons_zero] at fo
    have HO := hide (And.intro hs (And.intro hd (show w.heap.size ≤ Z + 1 + 1 + 1 + 1 + 1 by omega)))
    clear hs hd hg hc7 hk7 fg f1 l1 HRec h6 k6 fg6 lg6 lg
    go_wp2
    go_ret
    refine ⟨_, rfl, _, row_low HO.out.1.2.2 HO.out.2.2, by rw [← HP.out.1]; exact HO.out.2.1, ?_, HO.out.1.1.2.2.2.2.1⟩
    have := Tr.desc_len HO.out.2.1 (by have := HP.out; have := Tr.pow16 HP.out.2.2.2; omega)
    have := HP.out
    omega

set_option maxRecDepth 100000 in
theorem Way_any (l : List Int) (v : Value) (w : World) (hv : See w v l) (ht : tourV l = true) (hl : 1 ≤ l.length ∧ l.length ≤ 8) (hA : Tr.Acy l) (hT : Tz w) :
    Calls Tryd.prog 19 #[v] w fun e w' => ∃ v', e = .returned (.tuple #[v', .int .i64 0]) ∧ OneWay l w v' w' := by
  have T := Tr.tour_of hl ht
  have HV := hide (validR_any v l w hv hl)
  rw [ht] at HV
  have HC := hide fun ws (hw : Chg [] w ws) => walk_any v l ws (hv.keep hw) T hA (hT.keep hw)
  obtain ⟨ao, cap, rfl⟩ := hv.shape
  clear hv hT T hA ht hl
  go_enter Tryd.func19, Tryd.ntmps19
  go_wp2_with fail
  refine HV.out.mono ?_
  rintro e w2 ⟨rfl, h2⟩
  have H2 := hide h2
  clear h2
  go_wp2_with fail
  refine (HC.out _ H2.out).mono ?_
  rintro e w3 ⟨v', rfl, xs, hr, hd, h8, h3⟩
  have H3 := hide (And.intro (row_low hr H2.out.size) (And.intro hd (And.intro h8 (H2.out.trans h3))))
  clear hr hd h8 h3
  go_wp2
  go_ret2
  exact ⟨v', rfl, xs, H3.out⟩
end Go.Proofs.YtpplihpfjniacaaDoor
