/- Walk: greatest (the function itself). -/
import Derived.Test.YtaapamoglgpocaaGr2
import Derived.Test.YtaapamoglgpocaaPart3
namespace Go.Proofs.Ytaapamoglgpocaa
open Go.RowKit
attribute [local go_sem] Oper.semAt_some

set_option maxRecDepth 100000 in
set_option maxHeartbeats 4000000 in
theorem greatest_any (vt : Value) (t : List (List Int)) (v : Int) (w : World) (hv : See2 w vt t) (ht : T.isTab t = true) :
    Calls Try.prog 86 #[vt, .int .i64 v] w fun e w' => ∃ v', e = .returned v' ∧ w'.ownsRow w.heap.size 75 2 v' (topG t v).length (flatP ((topG t v).map toP)) ∧ Chg [] w w' := by
  obtain ⟨i0, hi', hz0, hz1, hz2⟩ := info_parts infoRect
  obtain ⟨ao, cap, rfl⟩ := hv.shape
  have HV := hide hv
  have HT := hide ht
  obtain ⟨R, hR⟩ : ∃ R, R = 2 ^ t.length - 1 := ⟨_, rfl⟩
  obtain ⟨C, hC⟩ : ∃ C, C = 2 ^ T.cols t - 1 := ⟨_, rfl⟩
  have HRC := hide (And.intro hR hC)
  clear hv ht hR hC
  have b2 := Box.new w #[.slice ao t.length cap] 69
  have c2 := (Chg.refl [] w).alloc (.cells #[.slice ao t.length cap] 69)
  have z2 : (w.alloc (.cells #[.slice ao t.length cap] 69)).heap.size = w.heap.size + 1 := by simp
  generalize hW2 : w.alloc (.cells #[.slice ao t.length cap] 69) = W2 at b2 c2 z2
  have b3 := Box.new W2 #[.int .i64 v] 3
  have c3 := (Chg.refl [] W2).alloc (.cells #[.int .i64 v] 3)
  have z3 : (W2.alloc (.cells #[.int .i64 v] 3)).heap.size = W2.heap.size + 1 := by simp
  generalize hW3 : W2.alloc (.cells #[.int .i64 v] 3) = W3 at b3 c3 z3
  have b4 := Box.new W3 #[.slice none 0 0] 111
  have c4 := (Chg.refl [] W3).alloc (.cells #[.slice none 0 0] 111)
  have z4 : (W3.alloc (.cells #[.slice none 0 0] 111)).heap.size = W3.heap.size + 1 := by simp
  generalize hW4 : W3.alloc (.cells #[.slice none 0 0] 111) = W4 at b4 c4 z4
  rw [z2] at b3
  rw [z3, z2] at b4
  have hG0 : GSt w w.heap.size (.slice ao t.length cap) v [] W4 := ⟨b2.keep (c3.trans c4) List.not_mem_nil, b3.keep c4 List.not_mem_nil, ⟨_, b4, World.ownsRow_nil _ _ _ _⟩, (c2.trans c3).trans c4, by omega⟩
  have HNo : Hid (∀ k, ¬ OwnAll (w.heap.size + 1 + 1) W4 k) := hide fun k hk => by
    obtain ⟨u, T', hu, hk⟩ := hk
    rw [show W4.heap[w.heap.size + 1 + 1]? = some (.cells #[.slice none 0 0] 111 (0, 0)) from b4] at hu
    simp only [Option.some.injEq, Obj.cells.injEq] at hu
    have e := congrArg (fun x => x.getD 0 undef) hu.1
    simp at e
    rw [← e] at hk
    cases hk
  have HG0 := hide hG0
  have f2 := hG0.1.cell 0
  simp only [List.getElem?_toArray, List.getElem?_cons_zero] at f2
  have l2 := hG0.1.lt
  have z5 : W4.heap.size = w.heap.size + 3 := by omega
  have hsee4 : See2 W4 (.slice ao t.length cap) t := HV.out.keep hG0.2.2.2.1
  have HSee := hide hsee4
  have e2 := z2
  have e3 : W3.heap.size = w.heap.size + 1 + 1 := by omega
  clear b2 c2 z2 b3 c3 z3 b4 c4 z4 hG0 hsee4
  refine callsIn_wide.1 (callsIn_of_wp_marks (F := Fence.wide) (n := 3) Try.func86 rfl trivial ?_ rfl)
  refine wpIn_wide.2 ?_
  simp only [Try.ntmps86, List.size_toArray, List.length_cons, List.length_nil, Nat.reduceAdd, Nat.reduceSub, Array.replicate_succ, Array.replicate_zero, List.push_toArray, List.append_toArray, List.nil_append, List.cons_append]
  go_wp2
  clear e2 e3 hW2 hW3 hW4 f2 l2
  obtain ⟨Z, hZ⟩ : ∃ Z, Z = w.heap.size := ⟨_, rfl⟩
  rw [← hZ] at HG0 HNo z5 ⊢
  have HZ := hide hZ
  have hZl : Z + 1 + 1 < W4.heap.size := by omega
  clear hZ
  refine (wpIn_wide (n := 3)).1 ?_
  refine wpIn_rangeBound rfl (by decide) (gf := 107) (first := #[.slice ao t.length cap]) rfl trivial (enters_of Try.func107 (by kernel_rfl) rfl)
    (rect_gives2 (.slice ao t.length cap) t W4 (Z + 1 + 1) HSee.out HT.out hZl HNo.out R C HRC.out.1 HRC.out.2) (fun h k => h.trans k) (fun W l o o' hl h ho _ => KO.put W l o o' (by omega) h ho) (fun _ => rfl)
    (fun pre W => GSt w Z (.slice ao t.length cap) v (((pre.map Subtype.val).filter (clrG t v)).map toP) W) (fun s W W' row hs hg hr => hs.row (B := W4.heap.size) (by have := HZ.out; omega) hg hr) HG0.out
    (fun x a' W => ∃ Bx, Z + 3 ≤ Bx ∧ Box W Bx #[.int .i64 (x.1.1 : Int), .int .i64 (x.1.2 : Int)] 75 ∧ a' = { tmps := #[.slice ao t.length cap, .int .i64 v, .pointer (some ⟨Z, 0, none⟩), .pointer (some ⟨Z + 1, 0, none⟩), .slice none 0 0, .pointer (some ⟨Z + 1 + 1, 0, none⟩), .slice none 0 0, .pointer (some ⟨Bx, 0, none⟩), undef, undef, undef, undef, .slice ao t.length cap, .func (.func 107) #[.slice ao t.length cap] #[], .agg #[.int .i64 (x.1.1 : Int), .int .i64 (x.1.2 : Int)], undef, undef, undef, undef, undef, undef, undef, undef, undef, undef, undef, undef, undef, undef, undef, undef, undef, undef, undef, undef, undef, undef, undef, undef, undef, undef, undef, undef, undef, undef, undef, undef], defers := [] })
    (fun x a' s W W' row ⟨Bx, h1, h2, e⟩ hg hr => ⟨Bx, h1, h2.row hg hr, e⟩) ?assign ?body ?done
  case assign =>
    intro l pre x W K hI hK
    unfold encR
    gi_wp2
    exact hK _ _ ((KeepsOthers.alloc _ _).from _) (KO.ofChg ((Chg.refl _ _).alloc _) (by have := hI.2.2.2.2; omega)) (hI.keep ((Chg.refl _ _).alloc _)) ⟨W.heap.size, hI.2.2.2.2, Box.new _ _ _, rfl⟩
  case body =>
    rintro l pre x a' W hl hI ⟨Bx, hBx, bx, rfl⟩ hlt
    obtain ⟨⟨r, c⟩, ⟨r1, r2⟩, c1, c2⟩ := x
    dsimp only at r1 r2 c1 c2 bx ⊢
    obtain ⟨⟨t1, t2, t3, t4⟩, _⟩ := T.isTab_iff.1 HT.out
    have hr16 : r < 65536 := by have := HRC.out.1; have := pow_le16 t2; omega
    have hc16 : c < 65536 := by have := HRC.out.2; have := pow_le16 t4; omega
    have hRC16 : R * C ≤ 256 := by
      have h1 := HRC.out.1
      have h2 := HRC.out.2
      have h3 := (pow_le16 t2).2
      have h4 := (pow_le16 t4).2
      exact Nat.le_trans (Nat.mul_le_mul (show R ≤ 16 by omega) (show C ≤ 16 by omega)) (by decide)
    have HPost : Hid (∀ W', GSt w Z (.slice ao t.length cap) v (((pre.map Subtype.val).filter (clrG t v)).map toP ++ (if clrG t v (r, c) = true then [toP (r, c)] else [])) W' → GSt w Z (.slice ao t.length cap) v (((List.map Subtype.val (pre ++ [(⟨(r, c), ⟨r1, r2⟩, c1, c2⟩ : Rct R C)])).filter (clrG t v)).map toP) W') := hide fun W' h => by
      rw [List.map_append, List.map_cons, List.map_nil, filter_snoc, List.map_append]
      split
      · rename_i hh; rw [if_pos hh] at h; exact h
      · rename_i hh; rw [if_neg hh] at h; exact h
    have hlen : (((pre.map Subtype.val).filter (clrG t v)).map toP).length ≤ 256 := by
      rw [List.length_map]
      refine Nat.le_trans (List.length_filter_le _ _) ?_
      rw [List.length_map]
      omega
    have HI := hide hI
    have BX := hide bx
    have hcl := hide fun ws (hw : Chg [] W ws) => clear_any (.slice ao t.length cap) t r c ws (HV.out.keep (hI.2.2.2.1.trans hw)) HT.out hr16 hc16
    have HGr : Hid (clrG t v (r, c) = decide (T.clrM t r c = some v)) := hide rfl
    generalize ((pre.map Subtype.val).filter (clrG t v)).map toP = L at *
    have x0 := bx.cell 0
    have x1 := bx.cell 1
    have lx := bx.lt
    have c20 := hI.1.cell 0
    have l20 := hI.1.lt
    simp only [List.getElem?_toArray, List.getElem?_cons_zero, List.getElem?_cons_succ] at x0 x1 c20
    clear bx hI t1 t2 t3 t4 hlt
    cases hm : T.clrM t r c with
    | none =>
      have HS : Hid (clrG t v (r, c) = false) := hide (by rw [HGr.out, hm]; rfl)
      rw [hm] at hcl
      unfold clrV at hcl
      clear hm HGr
      gi_wp2_with fail
      refine ⟨trivial, CallsIn.inRound l (callsIn_wide.2 ((hcl.out W (Chg.refl _ _)).mono ?_))⟩
      rintro e w2 ⟨rfl, hw2⟩
      have HI2 := hide (HI.out.keep hw2)
      have HKF2 := hide (kf_chg (B := W4.heap.size) hw2 (fun s h => by cases h))
      have HKC2 := hide (KO.ofChg hw2 (Z := Z + 1 + 1) (by have := HI.out.2.2.2.2; omega))
      clear hw2
      gi_wp2
      exact ⟨HKF2.out, HKC2.out, HPost.out _ (by rw [HS.out]; simpa using HI2.out)⟩
    | some y =>
      rw [hm] at hcl
      unfold clrV at hcl
      gi_wp2_with fail
      refine ⟨trivial, CallsIn.inRound l (callsIn_wide.2 ((hcl.out W (Chg.refl _ _)).mono ?_))⟩
      rintro e w2 ⟨rfl, hw2⟩
      have HI2 := hide (HI.out.keep hw2)
      have HKF2 := hide (kf_chg (B := W4.heap.size) hw2 (fun s h => by cases h))
      have HKC2 := hide (KO.ofChg hw2 (Z := Z + 1 + 1) (by have := HI.out.2.2.2.2; omega))
      have BX2 := hide (BX.out.keep hw2 List.not_mem_nil)
      have c30 := HI2.out.2.1.cell 0
      have l30 := HI2.out.2.1.lt
      have y0 := BX2.out.cell 0
      have y1 := BX2.out.cell 1
      have ly := BX2.out.lt
      simp only [List.getElem?_toArray, List.getElem?_cons_zero, List.getElem?_cons_succ] at c30 y0 y1
      clear hw2 x0 x1 lx c20 l20
      by_cases hyv : y = v
      · have d1 : (y == v) = true := by simpa using hyv
        have HS : Hid (clrG t v (r, c) = true) := hide (by rw [HGr.out, hm, hyv]; simp)
        clear hm HGr hyv
        obtain ⟨av, hb5, hown⟩ := HI2.out.2.2.1
        have c50 := hb5.cell 0
        have l50 := hb5.lt
        simp only [List.getElem?_toArray, List.getElem?_cons_zero] at c50
        have HB5 := hide hb5
        have HOw := hide hown
        have hszw := HI2.out.2.2.2.2
        obtain ⟨oa, oc, rfl, hoc⟩ := row_shape hown
        clear hb5 hown
        gi_wp2_with (gi_at_builtin; refine wpListIn_append_lies _ rfl _ _ 111 rfl (Z + 3) 75 i0 (.agg #[.int .i64 0, .int .i64 0]) 2 16 Try.underlying111 hi' hz0 hz1 hz2 rfl (by decide) _ _ _ rfl (HOw.out.alloc _) ⟨w2.heap.size, 0, none⟩ 1 1 (prCells (toP (r, c))).toList rfl rfl (pr_news w2 (toP (r, c)) _ rfl) (pr_one (toP (r, c))) (by decide) (by unfold maxLen; omega) (by omega) (by simp; omega) _ rfl ?_; intro g1 cap1 w3 hown1 hgrow1 hat1 hlt1; have q5 := box_grown (HB5.out.old _) (HOw.out.alloc _) hgrow1 (by omega); have q5c := q5.cell 0; have q5l := q5.lt; have q5f := q5.free 0; simp only [List.getElem?_toArray, List.getElem?_cons_zero] at q5c)
        have hgrown := hgrow1
        have hcA : Chg (Value.slice oa L.length oc).ownBlock.toList w2 w3 := ((Chg.refl _ w2).alloc _).grown hgrow1 (fun k hk => .inl (Option.mem_toList.2 hk))
        have hko := KO.append (nv := .slice (some ⟨g1, 0, none⟩) (L.length + 1) cap1) HB5.out hcA rfl (by
          rcases hat1 with h | h
          · exact .inl h
          · right
            rw [h]
            simp) (fun k hk => by have := (HOw.out.lt k hk).1; omega)
        have hcs := Chg.set w3 ⟨Z + 1 + 1, 0, none⟩ (.slice (some ⟨g1, 0, none⟩) (L.length + 1) cap1)
        have hb2 := HI2.out.1
        have hb3 := HI2.out.2.1
        refine ⟨HKF2.out.trans ((kf_chg (B := W4.heap.size) hcA (fun s hs => .inr (own_cells HOw.out (Option.mem_toList.1 hs)))).trans (kf_chg (B := W4.heap.size) hcs (fun s hs => .inl (by rw [List.mem_singleton.1 hs]; exact hZl)))), HKC2.out.trans hko, HPost.out _ ?_⟩
        rw [HS.out, if_pos rfl]
        refine ⟨(box_grown (hb2.old _) (HOw.out.alloc _) hgrow1 (by omega)).set' (by simp; omega) _, (box_grown (hb3.old _) (HOw.out.alloc _) hgrow1 (by omega)).set' (by simp) _, ⟨_, q5.set1 _, ?_⟩, (chg_grown (HI2.out.2.2.2.1.alloc _) (HOw.out.alloc _) (by have := HZ.out; omega) hgrow1).setCell (.inr (by have := HZ.out; simp; omega)) _, ?_⟩
        · rw [List.length_append, flatP_snoc]
          exact row_set hown1 (by simp) _
        · have := hcA.size
          have := hcs.size
          omega
      · have d1 : (y == v) = false := by simpa using hyv
        have HS : Hid (clrG t v (r, c) = false) := hide (by rw [HGr.out, hm]; simp [hyv])
        clear hm HGr hyv
        gi_wp2
        exact ⟨HKF2.out, HKC2.out, HPost.out _ (by rw [HS.out]; simpa using HI2.out)⟩
  case done =>
    rintro D xs W hD hS hI hK
    have hall : ((xs.map Subtype.val).filter (clrG t v)) = allG t v := by
      rw [hS]
      unfold allG allRects
      rw [← HRC.out.1, ← HRC.out.2]
    rw [hall] at hI
    clear hall hS
    obtain ⟨hb2, hb3, ⟨av, hb5, hrow⟩, hch, hsz⟩ := hI
    rw [List.length_map] at hrow
    have hseeA : SeeP W av ((allG t v).map toP) := rects_see (by rw [List.length_map]; exact hrow)
    obtain ⟨oa, oc, rfl, hoc⟩ := row_shape hrow
    have hA256 := allG_len HT.out v
    have HA := hide hseeA
    have HB5 := hide hb5
    have HCh := hide hch
    have HK := hide hK
    have HKs := hide (fun k => @topK_succ t v k)
    have HKl := hide (topK_len t v)
    have HKa := hide (topK_all t v)
    have HD := hide hD
    have c50 := hb5.cell 0
    have l50 := hb5.lt
    have HMem : Hid (∀ x ∈ allG t v, x.1 < 16 ∧ x.2 < 16) := hide fun x hx => by
      obtain ⟨⟨t1, t2, t3, t4⟩, _⟩ := T.isTab_iff.1 HT.out
      have h1 := (allG_mem HT.out hx).1
      have h3 := (pow_le16 t2).2
      have h4 := (pow_le16 t4).2
      omega
    simp only [List.getElem?_toArray, List.getElem?_cons_zero] at c50
    clear hb2 hb3 hb5 hrow hch hK hD hseeA
    obtain ⟨n, hn⟩ : ∃ n, n = (allG t v).length := ⟨_, rfl⟩
    rw [← hn] at hA256 HA HB5 HKs HKa c50 hoc
    have HN := hide hn
    clear hn
    go_wp2
    go_loopw [6, 33] (fun ov iv wr => ∃ k : Nat, k ≤ n ∧ iv = .int .i64 (k : Int) ∧ Hid (wr.ownsRow W.heap.size 75 2 ov (topK t v k).length (flatP ((topK t v k).map toP)) ∧ Chg [] W wr)) (fun _ iv _ => (n - (intOf iv).toNat))
    case atStart => exact ⟨0, by omega, rfl, hide ⟨World.ownsRow_nil _ _ _ _, Chg.refl _ _⟩⟩
    case round =>
      obtain ⟨k, hk, rfl, hI⟩ := hrel
      obtain ⟨oo, ooc, rfl, hooc⟩ := row_shape hI.out.1
      have HOw := hide hI.out.1
      have HCk := hide hI.out.2
      clear hI
      by_cases hlt : k < n
      · have d1 : decide ((k : Int) < (n : Int)) = true := by simpa using hlt
        have hlk : k < ((allG t v).map toP).length := by rw [List.length_map, ← HN.out]; exact hlt
        have nx : (allG t v).map toP ≠ [] := fun h => by rw [h] at hlk; exact absurd hlk (Nat.not_lt_zero _)
        obtain ⟨a, cap', e, _, hc⟩ := HA.out.open nx
        rw [List.length_map, ← HN.out] at e
        obtain ⟨rfl, rfl⟩ : oa = some a ∧ oc = cap' := by simpa using e
        obtain ⟨fx, fy⟩ := hc wr HCk.out k hlk
        have hget : ((allG t v).map toP).getD k pr0 = toP ((allG t v).getD k (0, 0)) := by
          rw [List.getD_eq_getElem?_getD, List.getElem?_map, List.getD_eq_getElem?_getD, List.getElem?_eq_getElem (by rw [← HN.out]; exact hlt)]
          rfl
        rw [hget] at fx fy
        have HKk := hide (HKs.out k hlt)
        have hmem : (allG t v).getD k (0, 0) ∈ allG t v := by
          rw [List.getD_eq_getElem?_getD, List.getElem?_eq_getElem (by rw [← HN.out]; exact hlt)]
          exact List.getElem_mem _
        obtain ⟨r16, c16⟩ := HMem.out _ hmem
        obtain ⟨p, hp⟩ : ∃ p, p = (allG t v).getD k (0, 0) := ⟨_, rfl⟩
        rw [← hp] at fx fy HKk r16 c16
        obtain ⟨r, c⟩ := p
        unfold toP at fx fy
        dsimp only at fx fy r16 c16
        have j0 : (0 : Int) ≤ (k : Int) := by omega
        have j1 : (k : Int) < (n : Int) := by omega
        have hkl := HKl.out k
        have HBx := hide (Box.new wr #[.int .i64 (r : Int), .int .i64 (c : Int)] 75)
        have HCx := hide ((Chg.refl [] wr).alloc (.cells #[.int .i64 (r : Int), .int .i64 (c : Int)] 75))
        have c5k := (HB5.out.keep HCk.out List.not_mem_nil).cell 0
        have l5k := (HB5.out.keep HCk.out List.not_mem_nil).lt
        simp only [List.getElem?_toArray, List.getElem?_cons_zero] at c5k
        have HRC16 := hide (And.intro r16 c16)
        clear nx hc e hget hmem hp hlk c50 l50
        have HF := hide (Contains_rects 112 #[.pointer (some ⟨wr.heap.size, 0, none⟩)] (fun x => outB (r, c) (x.1.toNat, x.2.toNat)) (.slice (some a) n oc) ((allG t v).map toP) (wr.alloc (.cells #[.int .i64 (r : Int), .int .i64 (c : Int)] 75)) (HA.out.keep (HCk.out.trans HCx.out)) (by rw [List.length_map, ← HN.out]; omega) (fun args W => by kernel_rfl) (fun x ws hx hws => by
          obtain ⟨q, hq, rfl⟩ := List.mem_map.1 hx
          obtain ⟨q1, q2⟩ := HMem.out q hq
          have := outer_any wr.heap.size (r, c) q ws (HBx.out.keep hws List.not_mem_nil) HRC16.out.1 HRC16.out.2 q1 q2
          have e : outB (r, c) ((toP q).1.toNat, (toP q).2.toNat) = outB (r, c) q := by unfold toP; rfl
          rw [e]
          exact this))
        have hany : (((allG t v).map toP).any fun x => outB (r, c) (x.1.toNat, x.2.toNat)) = (allG t v).any (outB (r, c)) := by
          rw [List.any_map]
          rfl
        rw [hany] at HF
        clear hany
        go_wp2_with fail
        refine HF.out.mono ?_
        rintro e w3 ⟨rfl, hw3⟩
        have HB3 := hide (HBx.out.keep hw3 List.not_mem_nil)
        have HO3 := hide ((HCx.out.trans hw3).row HOw.out (fun _ _ => List.not_mem_nil))
        have HC3 := hide (HCk.out.trans (HCx.out.trans hw3))
        have hz3 := HC3.out.size
        clear hw3 HBx HCx HF HOw HCk fx fy
        cases hany : (allG t v).any (outB (r, c)) with
        | true =>
          have HS : Hid (topK t v (k + 1) = topK t v k) := hide (by rw [HKk.out, if_pos hany, List.append_nil])
          clear hany HKk
          go_wp2
          go_roundw
          case rel => exact ⟨k + 1, by omega, by go_num, hide ⟨by rw [HS.out]; exact HO3.out, HC3.out⟩⟩
          case measure => simp [intOf]; omega
        | false =>
          have HS : Hid (topK t v (k + 1) = topK t v k ++ [(r, c)]) := hide (by rw [HKk.out, if_neg (by rw [hany]; decide)])
          clear hany HKk
          have b0 := HB3.out.cell 0
          have b1 := HB3.out.cell 1
          have lB := HB3.out.lt
          simp only [List.getElem?_toArray, List.getElem?_cons_zero, List.getElem?_cons_succ] at b0 b1
          go_wp2_with (at_builtin; refine wpList_append_own _ rfl _ _ 111 rfl W.heap.size 75 i0 (.agg #[.int .i64 0, .int .i64 0]) 2 16 Try.underlying111 hi' hz0 hz1 hz2 rfl (by decide) _ _ _ rfl (HO3.out.alloc _) ⟨w3.heap.size, 0, none⟩ 1 1 (prCells (toP (r, c))).toList rfl rfl (pr_news w3 (toP (r, c)) _ rfl) (pr_one (toP (r, c))) (by unfold maxLen; omega) (by omega) (by simp; omega) ?_; intro v1 w4 hown1 hgrow1 _)
          go_roundw
          case rel =>
            refine ⟨k + 1, by omega, by go_num, hide ⟨?_, chg_grown (HC3.out.alloc _) (HO3.out.alloc _) (Nat.le_refl _) hgrow1⟩⟩
            rw [HS.out, List.map_append, List.length_append]
            show World.ownsRow _ _ _ _ _ _ (flatP ((topK t v k).map toP ++ [toP (r, c)]))
            rw [flatP_snoc]
            exact hown1
          case measure => simp [intOf]; omega
      · have d1 : decide ((k : Int) < (n : Int)) = false := by simpa using hlt
        obtain rfl : k = n := by omega
        rw [HKa.out] at HOw ⊢
        have hKd : wr.heap[D]? = some (.deferred (some [])) := (HCk.out.block D (Array.getElem?_eq_some_iff.1 HK.out).1 List.not_mem_nil).trans HK.out
        have HKd := hide hKd
        clear hKd c50 l50
        go_wp2
        refine ⟨by simp, .inl ⟨_, _, rfl, run_takeDeferred HKd.out, ?_⟩⟩
        have hg := grownBy_putObj' wr D (.deferred none)
        have hr : ∀ r, some D = some r → W4.heap.size ≤ r ∧ ∃ o : Obj, wr.heap[r]? = some o ∧ o.isCells = false := fun r e => by cases e; exact ⟨HD.out, _, HKd.out, rfl⟩
        exact ⟨_, results_tmp rfl _ _ _, _, rfl, row_low (own_row (B := W4.heap.size) HOw.out hg hr) HCh.out.size, (HCh.out.trans HCk.out).row' (B := W4.heap.size) (by have := HZ.out; omega) hg hr⟩
end Go.Proofs.Ytaapamoglgpocaa
