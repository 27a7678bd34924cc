import Derived.Test.YthfcaiipcdibbaaDoorMP
/- The examples: sanity's walk. -/
set_option linter.unusedSimpArgs false
set_option linter.unusedVariables false
namespace Go.Proofs.YthfcaiipcdibbaaDoor
open Go.RowKit Tm Go.Shelf Go.MapKept

set_option maxHeartbeats 4000000 in
set_option maxRecDepth 100000 in
theorem sanityCall (w : World) (ht : tab w) : Calls Tryd.prog 13 #[] w fun e w' => e = .returned (.bool true) ∧ Below w.heap.size w w' := by
  have HT := Lib.hid ht
  clear ht
  go_enter Tryd.func13, Tryd.ntmps13
  go_wp2_with fail
  refine (keyCall _ _).mono ?_
  rintro e w1 ⟨rfl, h1⟩
  have B1 := Lib.hid (h1)
  clear h1
  go_wp2_with fail
  refine (keyCall _ _).mono ?_
  rintro e w2 ⟨rfl, h2⟩
  have B2 := Lib.hid (B1.out.trans (h2.mono B1.out.size))
  clear h2 B1
  go_wp2_with fail
  refine (sealK (a := kt 1) (b := kt 2) (SWt.nil _) (SWt.nil _)).mono ?_
  rintro e w3 ⟨A1, c1, rfl, s1, h3⟩
  have B3 := Lib.hid (B2.out.trans (h3.mono B2.out.size))
  clear h3 B2
  have BB := Lib.hid (B3.out.alloc B3.out.size (.cells #[.int .i64 3, .int .i64 0, .slice A1 2 c1] 24))
  have T1 : Hid (TB (w3.alloc (.cells #[.int .i64 3, .int .i64 0, .slice A1 2 c1] 24)) w3.heap.size sa A1 c1) := TB.make (t := sa) s1
  clear B3 s1
  go_wp2_with fail
  generalize w3.heap.size = X1 at T1 ⊢
  generalize w3.alloc (.cells #[.int .i64 3, .int .i64 0, .slice A1 2 c1] 24) = v1 at T1 BB ⊢
  refine (keyCall _ _).mono ?_
  rintro e w4 ⟨rfl, h4⟩
  have C4 := Lib.hid h4
  clear h4
  go_wp2_with fail
  refine (dataCall _ _).mono ?_
  rintro e w5 ⟨rfl, h5⟩
  have C5 := Lib.hid (C4.out.trans (h5.mono C4.out.size))
  clear h5 C4
  go_wp2_with fail
  refine (sealK (a := kt 2) (b := dt) (SWt.nil _) (SWt.nil _)).mono ?_
  rintro e w6 ⟨A2, c2, rfl, s2, h6⟩
  have C6 := Lib.hid (C5.out.trans (h6.mono C5.out.size))
  clear h6 C5
  have C7 := Lib.hid (C6.out.alloc C6.out.size (.cells #[.int .i64 3, .int .i64 0, .slice A2 2 c2] 24))
  have BB2 := Lib.hid (BB.out.trans (C7.out.mono BB.out.size))
  have T1b := Lib.hid (T1.out.grow C7.out)
  have T2 : Hid (TB (w6.alloc (.cells #[.int .i64 3, .int .i64 0, .slice A2 2 c2] 24)) w6.heap.size sb A2 c2) := TB.make (t := sb) s2
  clear C6 C7 s2 BB T1
  go_wp2_with fail
  generalize w6.heap.size = X2 at T2 ⊢
  generalize w6.alloc (.cells #[.int .i64 3, .int .i64 0, .slice A2 2 c2] 24) = v2 at T1b T2 BB2 ⊢
  refine (keyCall _ _).mono ?_
  rintro e w7 ⟨rfl, h7⟩
  have D1 := Lib.hid ((h7.alloc h7.size (.cells #[.int .i64 2, .int .i64 1, .slice none 0 0] 24)).alloc (by have := h7.size; simp; omega) (.cells #[.int .i64 5, .int .i64 2, .slice (some ⟨w7.heap.size, 0, none⟩) 1 1] 24))
  have T3 : Hid (TB ((w7.alloc (.cells #[.int .i64 2, .int .i64 1, .slice none 0 0] 24)).alloc (.cells #[.int .i64 5, .int .i64 2, .slice (some ⟨w7.heap.size, 0, none⟩) 1 1] 24)) (w7.alloc (.cells #[.int .i64 2, .int .i64 1, .slice none 0 0] 24)).heap.size sc (some ⟨w7.heap.size, 0, none⟩) 1) := TB.make (t := sc) (bk1 w7)
  have BB3 := Lib.hid (BB2.out.trans (D1.out.mono BB2.out.size))
  have T1c := Lib.hid (T1b.out.grow D1.out)
  have T2c := Lib.hid (T2.out.grow D1.out)
  clear h7 D1 BB2 T1b T2
  rw [World.size_alloc] at T3
  go_wp2_with fail
  generalize (w7.alloc (.cells #[.int .i64 2, .int .i64 1, .slice none 0 0] 24)).alloc (.cells #[.int .i64 5, .int .i64 2, .slice (some ⟨w7.heap.size, 0, none⟩) 1 1] 24) = v3 at T1c T2c T3 BB3 ⊢
  generalize w7.heap.size + 1 = X3 at T3 ⊢
  generalize (some ⟨w7.heap.size, 0, none⟩ : Option Addr) = A3 at T3
  refine (keyCall _ _).mono ?_
  rintro e w8 ⟨rfl, h8⟩
  have E8 := Lib.hid h8
  clear h8
  go_wp2_with fail
  refine (dataCall _ _).mono ?_
  rintro e w9 ⟨rfl, h9⟩
  have h9' := E8.out.trans (h9.mono E8.out.size)
  have D1 := Lib.hid ((h9'.alloc h9'.size (.cells #[.int .i64 2, .int .i64 1, .slice none 0 0, .int .i64 1, .int .i64 0, .slice none 0 0] 24)).alloc (by have := h9'.size; simp; omega) (.cells #[.int .i64 4, .int .i64 3, .slice (some ⟨w9.heap.size, 0, none⟩) 2 2] 24))
  have T4 : Hid (TB ((w9.alloc (.cells #[.int .i64 2, .int .i64 1, .slice none 0 0, .int .i64 1, .int .i64 0, .slice none 0 0] 24)).alloc (.cells #[.int .i64 4, .int .i64 3, .slice (some ⟨w9.heap.size, 0, none⟩) 2 2] 24)) (w9.alloc (.cells #[.int .i64 2, .int .i64 1, .slice none 0 0, .int .i64 1, .int .i64 0, .slice none 0 0] 24)).heap.size sx (some ⟨w9.heap.size, 0, none⟩) 2) := TB.make (t := sx) (bkd w9)
  have BB4 := Lib.hid (BB3.out.trans (D1.out.mono BB3.out.size))
  have T1d := Lib.hid (T1c.out.grow D1.out)
  have T2d := Lib.hid (T2c.out.grow D1.out)
  have T3d := Lib.hid (T3.out.grow D1.out)
  clear h9 h9' D1 BB3 T1c T2c T3 E8
  rw [World.size_alloc] at T4
  go_upto_region 5 with fail
  generalize (w9.alloc (.cells #[.int .i64 2, .int .i64 1, .slice none 0 0, .int .i64 1, .int .i64 0, .slice none 0 0] 24)).alloc (.cells #[.int .i64 4, .int .i64 3, .slice (some ⟨w9.heap.size, 0, none⟩) 2 2] 24) = v4 at T1d T2d T3d T4 BB4 ⊢
  generalize w9.heap.size + 1 = X4 at T4 ⊢
  generalize (some ⟨w9.heap.size, 0, none⟩ : Option Addr) = A4 at T4
  obtain ⟨p0, p1, p2⟩ := T1d.out.cells
  obtain ⟨q0, q1, q2⟩ := T2d.out.cells
  simp only [sa, sb, kt, dt, T.k_mk, T.n_mk, T.l_mk, List.length_cons, List.length_nil, Nat.zero_add, Nat.reduceAdd] at p0 p1 p2 q0 q1 q2
  go_wp2_with fail
  refine (close2 (bab T1d.out.s T2d.out.s) (tab_below HT.out (BB4.out.alloc BB4.out.size _))).mono ?_
  rintro e w10 ⟨Al, cl, rfl, sl, h10⟩
  have F10 : Hid (Below v4.heap.size v4 w10) := ((Below.refl _ _).alloc (Nat.le_refl _) _).trans (h10.mono (by simp))
  have BB5 := Lib.hid (BB4.out.trans (F10.out.mono BB4.out.size))
  have T1e := Lib.hid (T1d.out.grow F10.out)
  have T2e := Lib.hid (T2d.out.grow F10.out)
  have T3e := Lib.hid (T3d.out.grow F10.out)
  have T4e := Lib.hid (T4.out.grow F10.out)
  have SL := Lib.hid sl
  clear p0 p1 p2 q0 q1 q2 h10 F10 sl T1d T2d T3d T4 BB4
  obtain ⟨p0, p1, p2⟩ := T1e.out.cells
  obtain ⟨q0, q1, q2⟩ := T2e.out.cells
  simp only [sa, sb, kt, dt, T.k_mk, T.n_mk, T.l_mk, List.length_cons, List.length_nil, Nat.zero_add, Nat.reduceAdd] at p0 p1 p2 q0 q1 q2
  have HC3 := Lib.hid (fun (V : World) (b : Nat) (hV : Below w10.heap.size w10 V) (hb : V.heap[b]? = some (.cells #[.int .i64 3, .int .i64 0, .slice A1 2 c1, .int .i64 3, .int .i64 0, .slice A2 2 c2, .int .i64 2, .int .i64 1, .slice none 0 0] 24)) => sanClose3 (T1e.out.s.grow hV) (T2e.out.s.grow hV) (tab_below HT.out (BB5.out.trans (hV.mono BB5.out.size))) hV hb)
  have L10 := fun V hV => (T1e.out.at V hV).1
  have L11 := fun V hV => (T1e.out.at V hV).2.1
  have L12 := fun V hV => (T1e.out.at V hV).2.2
  have L20 := fun V hV => (T2e.out.at V hV).1
  have L21 := fun V hV => (T2e.out.at V hV).2.1
  have L22 := fun V hV => (T2e.out.at V hV).2.2
  simp only [sa, sb, sc, sx, kt, dt, T.k_mk, T.n_mk, T.l_mk, List.length_cons, List.length_nil, Nat.zero_add, Nat.reduceAdd] at L10 L11 L12 L20 L21 L22
  clear p0 p1 p2 q0 q1 q2
  go_wp2_with fail
  go_cut [6] (fun s6 wx => SanM w10 s6 wx)
  case first =>
    go_region_held3 (fun V => Below w10.heap.size w10 V) (first | exact (Below.refl _ _).drew | exact Below.alloc (by assumption) (Below.size (by assumption)) _ | assumption)
      ((first
      | (go_at_call 30; refine (keyCall _ _).mono ?_; rintro e w11 ⟨rfl, h11⟩; have hk11 : Below w10.heap.size w10 w11 := Below.trans (by assumption) (h11.mono (Below.size (by assumption))))
      | (go_at_call 25; refine (HC3.out _ _ (by assumption) (by exact heap_alloc_new _ _)).mono ?_; rintro e w12 ⟨Am, cm, rfl, sm, hk12⟩)))
    all_goals (go_wp2_with fail; go_meet; exact ⟨_, _, rfl, sm, hk12⟩)
  case rest =>
  obtain ⟨Am, cm, rfl, sm, h12⟩ := hcut
  obtain ⟨wq, rfl⟩ : ∃ wq : World, wq = wc := ⟨_, rfl⟩
  clear L10 L11 L12 L20 L21 L22 HC3
  have F12 := Lib.hid h12
  have BQ := Lib.hid (BB5.out.trans (F12.out.mono BB5.out.size))
  have T1 := Lib.hid (T1e.out.grow F12.out)
  have T2 := Lib.hid (T2e.out.grow F12.out)
  have T3 := Lib.hid (T3e.out.grow F12.out)
  have T4 := Lib.hid (T4e.out.grow F12.out)
  have SLq := Lib.hid (SL.out.grow F12.out)
  have SM := Lib.hid sm
  clear h12 F12 sm T1e T2e T3e T4e SL BB5
  have HTq := Lib.hid (tab_below HT.out BQ.out)
  go_wp2_with fail
  have L10 := fun V hV => (T1.out.at V hV).1
  have L11 := fun V hV => (T1.out.at V hV).2.1
  have L12 := fun V hV => (T1.out.at V hV).2.2
  have L20 := fun V hV => (T2.out.at V hV).1
  have L21 := fun V hV => (T2.out.at V hV).2.1
  have L22 := fun V hV => (T2.out.at V hV).2.2
  have L30 := fun V hV => (T3.out.at V hV).1
  have L31 := fun V hV => (T3.out.at V hV).2.1
  have L32 := fun V hV => (T3.out.at V hV).2.2
  have L40 := fun V hV => (T4.out.at V hV).1
  have L41 := fun V hV => (T4.out.at V hV).2.1
  have L42 := fun V hV => (T4.out.at V hV).2.2
  simp only [sa, sb, sc, sx, kt, dt, T.k_mk, T.n_mk, T.l_mk, List.length_cons, List.length_nil, Nat.zero_add, Nat.reduceAdd] at L10 L11 L12 L20 L21 L22 L30 L31 L32 L40 L41 L42
  have HS1 := Lib.hid (fun (V : World) (b : Nat) (hV : Below wq.heap.size wq V) (hb : V.heap[b]? = some (.cells #[.int .i64 3, .int .i64 0, .slice A1 2 c1, .int .i64 3, .int .i64 0, .slice A2 2 c2] 24)) => sanS1 (SLq.out.grow hV) (T1.out.s.grow hV) (T2.out.s.grow hV) hV hb)
  have HS2 := Lib.hid (fun (V : World) (b : Nat) (hV : Below wq.heap.size wq V) (hb : V.heap[b]? = some (.cells #[.int .i64 1, .int .i64 0, .slice none 0 0, .int .i64 2, .int .i64 1, .slice none 0 0, .int .i64 2, .int .i64 2, .slice none 0 0, .int .i64 3, .int .i64 0, .slice A1 2 c1, .int .i64 3, .int .i64 0, .slice A2 2 c2] 24)) => sanS2 (SM.out.grow hV) (T1.out.s.grow hV) (T2.out.s.grow hV) hV hb)
  have HK1 := Lib.hid (fun (V : World) (b : Nat) (hV : Below wq.heap.size wq V) (hb : V.heap[b]? = some (.cells #[.int .i64 2, .int .i64 1, .slice none 0 0] 24)) => sanK1 (T3.out.s.grow hV) (tab_below HTq.out hV) hV hb)
  have HK2 := Lib.hid (fun (V : World) (b : Nat) (hV : Below wq.heap.size wq V) (hb : V.heap[b]? = some (.cells #[.int .i64 2, .int .i64 1, .slice none 0 0] 24)) => sanK2 (tab_below HTq.out hV) hV hb)
  have HK3 := Lib.hid (fun (V : World) (b : Nat) (A1 : Option Addr) (c1 : Nat) (hV : Below wq.heap.size wq V) (h : SWt V ss.l A1 c1) (hb : V.heap[b]? = some (.cells #[.int .i64 3, .int .i64 0, .slice A1 2 c1, .int .i64 2, .int .i64 1, .slice none 0 0] 24)) => sanK3 (tab_below HTq.out hV) hV h hb)
  have HSE := Lib.hid (fun (V : World) (hV : Below wq.heap.size wq V) => sanSeal (T3.out.s.grow hV) hV)
  have HTX := Lib.hid (fun (V : World) (hV : Below wq.heap.size wq V) => sanText (T4.out.s.grow hV) (tab_below HTq.out hV) hV)
  have HSZ := Lib.hid (fun (V : World) (hV : Below wq.heap.size wq V) => sanSize (T4.out.s.grow hV) hV)
  have HVA := Lib.hid (fun (V : World) (hV : Below wq.heap.size wq V) => sanValid (T4.out.s.grow hV) hV)
  have HI3 := Lib.hid (fun (V : World) (hV : Below wq.heap.size wq V) => sanIs3 (A3 := A3) (c3 := 1) hV)
  have HI4 := Lib.hid (fun (V : World) (hV : Below wq.heap.size wq V) => sanIs4 (A4 := A4) (c4 := 2) hV)
  have HCM := Lib.hid (fun (V : World) (hV : Below wq.heap.size wq V) => sanCmp (T1.out.s.grow hV) (T2.out.s.grow hV) hV)
  have HSU := Lib.hid (fun (V : World) (hV : Below wq.heap.size wq V) => sanSub (T1.out.s.grow hV) (tab_below HTq.out hV) hV)
  clear T1 T2 T3 T4 SLq SM HTq HT
  dsimp only [List.append]
  refine wp_region_held_drew (S := fun V => Below wq.heap.size wq V) (by kernel_rfl) (Below.refl _ _).drew (fun hHeld => ?_)
  change wpAnyH _ _ _ _ _ 73 (List.toArray [false, false, false, false, false, false, false, false, false, false, false, false, false, false, false, false, false, false, false, false, false, false, false, false, false, false, false, false, false, false, false, false, false, false, false, false, false, false, false, false, false, false, false, false, false, false, false, false, false, false, false, false, false, false, false, false, false, false, false, false, false, false, false, false, false, false, false, false, false, false, false, false, false]) _ _
  refine wpAnyH_take (i := 0) (v := ?_) rfl (by kernel_rfl) (by kernel_rfl) (by kernel_rfl) (fun _ _ _ h => h) (Or.inl ⟨by rfl, ?_⟩) (by assumption) ?_
  rotate_left
  · intro V hSw
    go_simp
    all_goals (with_reducible rfl)
  simp only [Act.put, List.getElem_toArray, List.getElem_cons_succ, List.getElem_cons_zero, List.setIfInBounds_toArray, List.set_cons_zero, List.set_cons_succ]
  refine wpAnyH_take (i := 1) (v := ?_) rfl (by kernel_rfl) (by kernel_rfl) (by kernel_rfl) (fun _ _ _ h => h) (Or.inl ⟨by rfl, ?_⟩) (by assumption) ?_
  rotate_left
  · intro V hSw
    go_simp
    all_goals (with_reducible rfl)
  simp only [Act.put, List.getElem_toArray, List.getElem_cons_succ, List.getElem_cons_zero, List.setIfInBounds_toArray, List.set_cons_zero, List.set_cons_succ]
  refine wpAnyH_take (i := 2) (v := ?_) rfl (by kernel_rfl) (by kernel_rfl) (by kernel_rfl) (fun _ _ _ h => h) (Or.inl ⟨by rfl, ?_⟩) (by assumption) ?_
  rotate_left
  · intro V hSw
    go_simp
    all_goals (with_reducible rfl)
  simp only [Act.put, List.getElem_toArray, List.getElem_cons_succ, List.getElem_cons_zero, List.setIfInBounds_toArray, List.set_cons_zero, List.set_cons_succ]
  refine wpAnyH_ready (rs := [3]) (by kernel_rfl) (by simp) ?_
  refine AllReadyH.cons rfl (fun K hK => ?_) ?_
  · go_simp
    refine hK.out _ _ ?_ (fun hHeld => ?_)
    · exact Below.alloc hHeld (Below.size hHeld) _
    clear hK K
    simp only [Act.put, List.getElem_toArray, List.getElem_cons_succ, List.getElem_cons_zero, List.setIfInBounds_toArray, List.set_cons_zero, List.set_cons_succ]
    refine wpAnyH_ready (rs := [4]) (by kernel_rfl) (by simp) ?_
    refine AllReadyH.cons rfl (fun K hK => ?_) ?_
    · go_simp; refine (HS1.out _ _ hHeld (heap_alloc_new _ _)).mono ?_; rintro e w4 ⟨rfl, k4⟩; try (go_wp2_with fail)
      refine hK.out _ _ ?_ (fun hHeld => ?_)
      · exact k4
      clear hK K
      simp only [Act.put, List.getElem_toArray, List.getElem_cons_succ, List.getElem_cons_zero, List.setIfInBounds_toArray, List.set_cons_zero, List.set_cons_succ]
      refine wpAnyH_take (i := 5) (v := ?_) rfl (by kernel_rfl) (by kernel_rfl) (by kernel_rfl) (fun _ _ _ h => h) (Or.inl ⟨by rfl, ?_⟩) (by assumption) ?_
      rotate_left
      · intro V hSw
        go_simp
        all_goals (with_reducible rfl)
      simp only [Act.put, List.getElem_toArray, List.getElem_cons_succ, List.getElem_cons_zero, List.setIfInBounds_toArray, List.set_cons_zero, List.set_cons_succ]
      refine wpAnyH_take (i := 6) (v := ?_) rfl (by kernel_rfl) (by kernel_rfl) (by kernel_rfl) (fun _ _ _ h => h) (Or.inl ⟨by rfl, ?_⟩) (by assumption) ?_
      rotate_left
      · intro V hSw
        go_simp
        all_goals (with_reducible rfl)
      simp only [Act.put, List.getElem_toArray, List.getElem_cons_succ, List.getElem_cons_zero, List.setIfInBounds_toArray, List.set_cons_zero, List.set_cons_succ]
      refine wpAnyH_take (i := 10) (v := ?_) rfl (by kernel_rfl) (by kernel_rfl) (by kernel_rfl) (fun _ _ _ h => h) (Or.inl ⟨by rfl, ?_⟩) (by assumption) ?_
      rotate_left
      · intro V hSw
        go_simp
        all_goals (with_reducible rfl)
      simp only [Act.put, List.getElem_toArray, List.getElem_cons_succ, List.getElem_cons_zero, List.setIfInBounds_toArray, List.set_cons_zero, List.set_cons_succ]
      refine wpAnyH_take (i := 11) (v := ?_) rfl (by kernel_rfl) (by kernel_rfl) (by kernel_rfl) (fun _ _ _ h => h) (Or.inl ⟨by rfl, ?_⟩) (by assumption) ?_
      rotate_left
      · intro V hSw
        go_simp
        all_goals (with_reducible rfl)
      simp only [Act.put, List.getElem_toArray, List.getElem_cons_succ, List.getElem_cons_zero, List.setIfInBounds_toArray, List.set_cons_zero, List.set_cons_succ]
      refine wpAnyH_ready (rs := [7]) (by kernel_rfl) (by simp) ?_
      refine AllReadyH.cons rfl (fun K hK => ?_) ?_
      · go_simp; refine (dataCall _ _).mono ?_; rintro e w7 ⟨rfl, h7⟩; have k7 : Below wq.heap.size wq w7 := Below.trans hHeld (h7.mono (Below.size hHeld)); try (go_wp2_with fail)
        refine hK.out _ _ ?_ (fun hHeld => ?_)
        · exact k7
        clear hK K
        simp only [Act.put, List.getElem_toArray, List.getElem_cons_succ, List.getElem_cons_zero, List.setIfInBounds_toArray, List.set_cons_zero, List.set_cons_succ]
        refine wpAnyH_ready (rs := [8]) (by kernel_rfl) (by simp) ?_
        refine AllReadyH.cons rfl (fun K hK => ?_) ?_
        · go_simp; refine (keyCall _ _).mono ?_; rintro e w8 ⟨rfl, h8⟩; have k8 : Below wq.heap.size wq w8 := Below.trans hHeld (h8.mono (Below.size hHeld)); try (go_wp2_with fail)
          refine hK.out _ _ ?_ (fun hHeld => ?_)
          · exact k8
          clear hK K
          simp only [Act.put, List.getElem_toArray, List.getElem_cons_succ, List.getElem_cons_zero, List.setIfInBounds_toArray, List.set_cons_zero, List.set_cons_succ]
          refine wpAnyH_ready (rs := [9]) (by kernel_rfl) (by simp) ?_
          refine AllReadyH.cons rfl (fun K hK => ?_) ?_
          · go_simp; refine (keyCall _ _).mono ?_; rintro e w9 ⟨rfl, h9⟩; have k9 : Below wq.heap.size wq w9 := Below.trans hHeld (h9.mono (Below.size hHeld)); try (go_wp2_with fail)
            refine hK.out _ _ ?_ (fun hHeld => ?_)
            · exact k9
            clear hK K
            simp only [Act.put, List.getElem_toArray, List.getElem_cons_succ, List.getElem_cons_zero, List.setIfInBounds_toArray, List.set_cons_zero, List.set_cons_succ]
            refine wpAnyH_ready (rs := [12]) (by kernel_rfl) (by simp) ?_
            refine AllReadyH.cons rfl (fun K hK => ?_) ?_
            · go_simp
              refine hK.out _ _ ?_ (fun hHeld => ?_)
              · exact Below.alloc hHeld (Below.size hHeld) _
              clear hK K
              simp only [Act.put, List.getElem_toArray, List.getElem_cons_succ, List.getElem_cons_zero, List.setIfInBounds_toArray, List.set_cons_zero, List.set_cons_succ]
              refine wpAnyH_ready (rs := [13]) (by kernel_rfl) (by simp) ?_
              refine AllReadyH.cons rfl (fun K hK => ?_) ?_
              · go_simp; refine (HS2.out _ _ hHeld (heap_alloc_new _ _)).mono ?_; rintro e w13 ⟨rfl, k13⟩; try (go_wp2_with fail)
                refine hK.out _ _ ?_ (fun hHeld => ?_)
                · exact k13
                clear hK K
                simp only [Act.put, List.getElem_toArray, List.getElem_cons_succ, List.getElem_cons_zero, List.setIfInBounds_toArray, List.set_cons_zero, List.set_cons_succ]
                refine wpAnyH_take (i := 14) (v := ?_) rfl (by kernel_rfl) (by kernel_rfl) (by kernel_rfl) (fun _ _ _ h => h) (Or.inl ⟨by rfl, ?_⟩) (by assumption) ?_
                rotate_left
                · intro V hSw
                  go_simp
                  all_goals (with_reducible rfl)
                simp only [Act.put, List.getElem_toArray, List.getElem_cons_succ, List.getElem_cons_zero, List.setIfInBounds_toArray, List.set_cons_zero, List.set_cons_succ]
                refine wpAnyH_take (i := 15) (v := ?_) rfl (by kernel_rfl) (by kernel_rfl) (by kernel_rfl) (fun _ _ _ h => h) (Or.inl ⟨by rfl, ?_⟩) (by assumption) ?_
                rotate_left
                · intro V hSw
                  go_simp
                  all_goals (with_reducible rfl)
                simp only [Act.put, List.getElem_toArray, List.getElem_cons_succ, List.getElem_cons_zero, List.setIfInBounds_toArray, List.set_cons_zero, List.set_cons_succ]
                refine wpAnyH_take (i := 18) (v := ?_) rfl (by kernel_rfl) (by kernel_rfl) (by kernel_rfl) (fun _ _ _ h => h) (Or.inl ⟨by rfl, ?_⟩) (by assumption) ?_
                rotate_left
                · intro V hSw
                  go_simp
                  all_goals (with_reducible rfl)
                simp only [Act.put, List.getElem_toArray, List.getElem_cons_succ, List.getElem_cons_zero, List.setIfInBounds_toArray, List.set_cons_zero, List.set_cons_succ]
                refine wpAnyH_ready (rs := [16]) (by kernel_rfl) (by simp) ?_
                refine AllReadyH.cons rfl (fun K hK => ?_) ?_
                · go_simp; refine (keyCall _ _).mono ?_; rintro e w16 ⟨rfl, h16⟩; have k16 : Below wq.heap.size wq w16 := Below.trans hHeld (h16.mono (Below.size hHeld)); try (go_wp2_with fail)
                  refine hK.out _ _ ?_ (fun hHeld => ?_)
                  · exact k16
                  clear hK K
                  simp only [Act.put, List.getElem_toArray, List.getElem_cons_succ, List.getElem_cons_zero, List.setIfInBounds_toArray, List.set_cons_zero, List.set_cons_succ]
                  refine wpAnyH_ready (rs := [17]) (by kernel_rfl) (by simp) ?_
                  refine AllReadyH.cons rfl (fun K hK => ?_) ?_
                  · go_simp
                    refine hK.out _ _ ?_ (fun hHeld => ?_)
                    · exact Below.alloc hHeld (Below.size hHeld) _
                    clear hK K
                    simp only [Act.put, List.getElem_toArray, List.getElem_cons_succ, List.getElem_cons_zero, List.setIfInBounds_toArray, List.set_cons_zero, List.set_cons_succ]
                    refine wpAnyH_ready (rs := [19]) (by kernel_rfl) (by simp) ?_
                    refine AllReadyH.cons rfl (fun K hK => ?_) ?_
                    · go_simp; refine (HK1.out _ _ hHeld (heap_alloc_new _ _)).mono ?_; rintro e w19 ⟨rfl, k19⟩; try (go_wp2_with fail)
                      refine hK.out _ _ ?_ (fun hHeld => ?_)
                      · exact k19
                      clear hK K
                      simp only [Act.put, List.getElem_toArray, List.getElem_cons_succ, List.getElem_cons_zero, List.setIfInBounds_toArray, List.set_cons_zero, List.set_cons_succ]
                      refine wpAnyH_take (i := 20) (v := ?_) rfl (by kernel_rfl) (by kernel_rfl) (by kernel_rfl) (fun _ _ _ h => h) (Or.inl ⟨by rfl, ?_⟩) (by assumption) ?_
                      rotate_left
                      · intro V hSw
                        go_simp
                        all_goals (with_reducible rfl)
                      simp only [Act.put, List.getElem_toArray, List.getElem_cons_succ, List.getElem_cons_zero, List.setIfInBounds_toArray, List.set_cons_zero, List.set_cons_succ]
                      refine wpAnyH_take (i := 21) (v := ?_) rfl (by kernel_rfl) (by kernel_rfl) (by kernel_rfl) (fun _ _ _ h => h) (Or.inl ⟨by rfl, ?_⟩) (by assumption) ?_
                      rotate_left
                      · intro V hSw
                        go_simp
                        all_goals (with_reducible rfl)
                      simp only [Act.put, List.getElem_toArray, List.getElem_cons_succ, List.getElem_cons_zero, List.setIfInBounds_toArray, List.set_cons_zero, List.set_cons_succ]
                      refine wpAnyH_ready (rs := [22]) (by kernel_rfl) (by simp) ?_
                      refine AllReadyH.cons rfl (fun K hK => ?_) ?_
                      · go_simp; refine (keyCall _ _).mono ?_; rintro e w22 ⟨rfl, h22⟩; have k22 : Below wq.heap.size wq w22 := Below.trans hHeld (h22.mono (Below.size hHeld)); try (go_wp2_with fail)
                        refine hK.out _ _ ?_ (fun hHeld => ?_)
                        · exact k22
                        clear hK K
                        simp only [Act.put, List.getElem_toArray, List.getElem_cons_succ, List.getElem_cons_zero, List.setIfInBounds_toArray, List.set_cons_zero, List.set_cons_succ]
                        refine wpAnyH_ready (rs := [23, 24]) (by kernel_rfl) (by simp) ?_
                        refine AllReadyH.cons rfl (fun K hK => ?_) ?_
                        · go_simp
                          refine hK.out _ _ ?_ (fun hHeld => ?_)
                          · exact Below.alloc hHeld (Below.size hHeld) _
                          clear hK K
                          simp only [Act.put, List.getElem_toArray, List.getElem_cons_succ, List.getElem_cons_zero, List.setIfInBounds_toArray, List.set_cons_zero, List.set_cons_succ]
                          refine wpAnyH_ready (rs := [24]) (by kernel_rfl) (by simp) ?_
                          refine AllReadyH.cons rfl (fun K hK => ?_) ?_
                          · go_simp; refine (keyCall _ _).mono ?_; rintro e w24 ⟨rfl, h24⟩; have k24 : Below wq.heap.size wq w24 := Below.trans hHeld (h24.mono (Below.size hHeld)); try (go_wp2_with fail)
                            refine hK.out _ _ ?_ (fun hHeld => ?_)
                            · exact k24
                            clear hK K
                            simp only [Act.put, List.getElem_toArray, List.getElem_cons_succ, List.getElem_cons_zero, List.setIfInBounds_toArray, List.set_cons_zero, List.set_cons_succ]
                            refine wpAnyH_ready (rs := [25]) (by kernel_rfl) (by simp) ?_
                            refine AllReadyH.cons rfl (fun K hK => ?_) ?_
                            · go_simp; refine (HK2.out _ _ hHeld ((h24.block _ (by simp)).trans (heap_alloc_new _ _))).mono ?_; rintro e w25 ⟨rfl, k25⟩; try (go_wp2_with fail)
                              refine hK.out _ _ ?_ (fun hHeld => ?_)
                              · exact k25
                              clear hK K
                              simp only [Act.put, List.getElem_toArray, List.getElem_cons_succ, List.getElem_cons_zero, List.setIfInBounds_toArray, List.set_cons_zero, List.set_cons_succ]
                              refine wpAnyH_take (i := 26) (v := ?_) rfl (by kernel_rfl) (by kernel_rfl) (by kernel_rfl) (fun _ _ _ h => h) (Or.inl ⟨by rfl, ?_⟩) (by assumption) ?_
                              rotate_left
                              · intro V hSw
                                go_simp
                                all_goals (with_reducible rfl)
                              simp only [Act.put, List.getElem_toArray, List.getElem_cons_succ, List.getElem_cons_zero, List.setIfInBounds_toArray, List.set_cons_zero, List.set_cons_succ]
                              refine wpAnyH_take (i := 27) (v := ?_) rfl (by kernel_rfl) (by kernel_rfl) (by kernel_rfl) (fun _ _ _ h => h) (Or.inl ⟨by rfl, ?_⟩) (by assumption) ?_
                              rotate_left
                              · intro V hSw
                                go_simp
                                all_goals (with_reducible rfl)
                              simp only [Act.put, List.getElem_toArray, List.getElem_cons_succ, List.getElem_cons_zero, List.setIfInBounds_toArray, List.set_cons_zero, List.set_cons_succ]
                              refine wpAnyH_take (i := 28) (v := ?_) rfl (by kernel_rfl) (by kernel_rfl) (by kernel_rfl) (fun _ _ _ h => h) (Or.inl ⟨by rfl, ?_⟩) (by assumption) ?_
                              rotate_left
                              · intro V hSw
                                go_simp
                                all_goals (with_reducible rfl)
                              simp only [Act.put, List.getElem_toArray, List.getElem_cons_succ, List.getElem_cons_zero, List.setIfInBounds_toArray, List.set_cons_zero, List.set_cons_succ]
                              refine wpAnyH_take (i := 29) (v := ?_) rfl (by kernel_rfl) (by kernel_rfl) (by kernel_rfl) (fun _ _ _ h => h) (Or.inl ⟨by rfl, ?_⟩) (by assumption) ?_
                              rotate_left
                              · intro V hSw
                                go_simp
                                all_goals (with_reducible rfl)
                              simp only [Act.put, List.getElem_toArray, List.getElem_cons_succ, List.getElem_cons_zero, List.setIfInBounds_toArray, List.set_cons_zero, List.set_cons_succ]
                              refine wpAnyH_ready (rs := [30]) (by kernel_rfl) (by simp) ?_
                              refine AllReadyH.cons rfl (fun K hK => ?_) ?_
                              · go_simp; refine (keyCall _ _).mono ?_; rintro e w30 ⟨rfl, h30⟩; have k30 : Below wq.heap.size wq w30 := Below.trans hHeld (h30.mono (Below.size hHeld)); try (go_wp2_with fail)
                                refine hK.out _ _ ?_ (fun hHeld => ?_)
                                · exact k30
                                clear hK K
                                simp only [Act.put, List.getElem_toArray, List.getElem_cons_succ, List.getElem_cons_zero, List.setIfInBounds_toArray, List.set_cons_zero, List.set_cons_succ]
                                refine wpAnyH_ready (rs := [31]) (by kernel_rfl) (by simp) ?_
                                refine AllReadyH.cons rfl (fun K hK => ?_) ?_
                                · go_simp; refine (HSE.out _ hHeld).mono ?_; rintro e w31 ⟨C, cc, rfl, s60, k31⟩; try (go_wp2_with fail)
                                  refine hK.out _ _ ?_ (fun hHeld => ?_)
                                  · exact k31
                                  clear hK K
                                  simp only [Act.put, List.getElem_toArray, List.getElem_cons_succ, List.getElem_cons_zero, List.setIfInBounds_toArray, List.set_cons_zero, List.set_cons_succ]
                                  refine wpAnyH_ready (rs := [32]) (by kernel_rfl) (by simp) ?_
                                  refine AllReadyH.cons rfl (fun K hK => ?_) ?_
                                  · go_simp; refine (keyCall _ _).mono ?_; rintro e w32 ⟨rfl, h32⟩; have k32 : Below wq.heap.size wq w32 := Below.trans hHeld (h32.mono (Below.size hHeld)); try (go_wp2_with fail)
                                    refine hK.out _ _ ?_ (fun hHeld => ?_)
                                    · exact k32
                                    clear hK K
                                    simp only [Act.put, List.getElem_toArray, List.getElem_cons_succ, List.getElem_cons_zero, List.setIfInBounds_toArray, List.set_cons_zero, List.set_cons_succ]
                                    refine wpAnyH_ready (rs := [33, 34]) (by kernel_rfl) (by simp) ?_
                                    refine AllReadyH.cons rfl (fun K hK => ?_) ?_
                                    · go_simp
                                      refine hK.out _ _ ?_ (fun hHeld => ?_)
                                      · exact Below.alloc hHeld (Below.size hHeld) _
                                      clear hK K
                                      simp only [Act.put, List.getElem_toArray, List.getElem_cons_succ, List.getElem_cons_zero, List.setIfInBounds_toArray, List.set_cons_zero, List.set_cons_succ]
                                      refine wpAnyH_ready (rs := [34]) (by kernel_rfl) (by simp) ?_
                                      refine AllReadyH.cons rfl (fun K hK => ?_) ?_
                                      · go_simp; refine (keyCall _ _).mono ?_; rintro e w34 ⟨rfl, h34⟩; have k34 : Below wq.heap.size wq w34 := Below.trans hHeld (h34.mono (Below.size hHeld)); try (go_wp2_with fail)
                                        refine hK.out _ _ ?_ (fun hHeld => ?_)
                                        · exact k34
                                        clear hK K
                                        simp only [Act.put, List.getElem_toArray, List.getElem_cons_succ, List.getElem_cons_zero, List.setIfInBounds_toArray, List.set_cons_zero, List.set_cons_succ]
                                        refine wpAnyH_ready (rs := [35]) (by kernel_rfl) (by simp) ?_
                                        refine AllReadyH.cons rfl (fun K hK => ?_) ?_
                                        · go_simp; refine (HK3.out _ _ _ _ hHeld (((s60.grow h32).alloc _).grow h34) ((h34.block _ (by simp)).trans (heap_alloc_new _ _))).mono ?_; rintro e w35 ⟨rfl, k35⟩; try (go_wp2_with fail)
                                          refine hK.out _ _ ?_ (fun hHeld => ?_)
                                          · exact k35
                                          clear hK K
                                          simp only [Act.put, List.getElem_toArray, List.getElem_cons_succ, List.getElem_cons_zero, List.setIfInBounds_toArray, List.set_cons_zero, List.set_cons_succ]
                                          refine wpAnyH_take (i := 36) (v := ?_) rfl (by kernel_rfl) (by kernel_rfl) (by kernel_rfl) (fun _ _ _ h => h) (Or.inl ⟨by rfl, ?_⟩) (by assumption) ?_
                                          rotate_left
                                          · intro V hSw
                                            go_simp
                                            all_goals (with_reducible rfl)
                                          simp only [Act.put, List.getElem_toArray, List.getElem_cons_succ, List.getElem_cons_zero, List.setIfInBounds_toArray, List.set_cons_zero, List.set_cons_succ]
                                          refine wpAnyH_take (i := 37) (v := ?_) rfl (by kernel_rfl) (by kernel_rfl) (by kernel_rfl) (fun _ _ _ h => h) (Or.inl ⟨by rfl, ?_⟩) (by assumption) ?_
                                          rotate_left
                                          · intro V hSw
                                            go_simp
                                            all_goals (with_reducible rfl)
                                          simp only [Act.put, List.getElem_toArray, List.getElem_cons_succ, List.getElem_cons_zero, List.setIfInBounds_toArray, List.set_cons_zero, List.set_cons_succ]
                                          refine wpAnyH_take (i := 38) (v := ?_) rfl (by kernel_rfl) (by kernel_rfl) (by kernel_rfl) (fun _ _ _ h => h) (Or.inl ⟨by rfl, ?_⟩) (by assumption) ?_
                                          rotate_left
                                          · intro V hSw
                                            go_simp
                                            all_goals (with_reducible rfl)
                                          simp only [Act.put, List.getElem_toArray, List.getElem_cons_succ, List.getElem_cons_zero, List.setIfInBounds_toArray, List.set_cons_zero, List.set_cons_succ]
                                          refine wpAnyH_ready (rs := [39]) (by kernel_rfl) (by simp) ?_
                                          refine AllReadyH.cons rfl (fun K hK => ?_) ?_
                                          · go_simp; refine (HTX.out _ hHeld).mono ?_; rintro e w39 ⟨rfl, k39⟩; try (go_wp2_with fail)
                                            refine hK.out _ _ ?_ (fun hHeld => ?_)
                                            · exact k39
                                            clear hK K
                                            simp only [Act.put, List.getElem_toArray, List.getElem_cons_succ, List.getElem_cons_zero, List.setIfInBounds_toArray, List.set_cons_zero, List.set_cons_succ]
                                            refine wpAnyH_take (i := 40) (v := ?_) rfl (by kernel_rfl) (by kernel_rfl) (by kernel_rfl) (fun _ _ _ h => h) (Or.inl ⟨by rfl, ?_⟩) (by assumption) ?_
                                            rotate_left
                                            · intro V hSw
                                              go_simp
                                              all_goals (with_reducible rfl)
                                            simp only [Act.put, List.getElem_toArray, List.getElem_cons_succ, List.getElem_cons_zero, List.setIfInBounds_toArray, List.set_cons_zero, List.set_cons_succ]
                                            refine wpAnyH_take (i := 41) (v := ?_) rfl (by kernel_rfl) (by kernel_rfl) (by kernel_rfl) (fun _ _ _ h => h) (Or.inl ⟨by rfl, ?_⟩) (by assumption) ?_
                                            rotate_left
                                            · intro V hSw
                                              go_simp
                                              all_goals (with_reducible rfl)
                                            simp only [Act.put, List.getElem_toArray, List.getElem_cons_succ, List.getElem_cons_zero, List.setIfInBounds_toArray, List.set_cons_zero, List.set_cons_succ]
                                            refine wpAnyH_take (i := 42) (v := ?_) rfl (by kernel_rfl) (by kernel_rfl) (by kernel_rfl) (fun _ _ _ h => h) (Or.inl ⟨by rfl, ?_⟩) (by assumption) ?_
                                            rotate_left
                                            · intro V hSw
                                              go_simp
                                              all_goals (with_reducible rfl)
                                            simp only [Act.put, List.getElem_toArray, List.getElem_cons_succ, List.getElem_cons_zero, List.setIfInBounds_toArray, List.set_cons_zero, List.set_cons_succ]
                                            refine wpAnyH_take (i := 43) (v := ?_) rfl (by kernel_rfl) (by kernel_rfl) (by kernel_rfl) (fun _ _ _ h => h) (Or.inl ⟨by rfl, ?_⟩) (by assumption) ?_
                                            rotate_left
                                            · intro V hSw
                                              go_simp
                                              all_goals (with_reducible rfl)
                                            simp only [Act.put, List.getElem_toArray, List.getElem_cons_succ, List.getElem_cons_zero, List.setIfInBounds_toArray, List.set_cons_zero, List.set_cons_succ]
                                            refine wpAnyH_ready (rs := [44]) (by kernel_rfl) (by simp) ?_
                                            refine AllReadyH.cons rfl (fun K hK => ?_) ?_
                                            · go_simp; refine (HSZ.out _ hHeld).mono ?_; rintro e w44 ⟨rfl, k44⟩; try (go_wp2_with fail)
                                              refine hK.out _ _ ?_ (fun hHeld => ?_)
                                              · exact k44
                                              clear hK K
                                              simp only [Act.put, List.getElem_toArray, List.getElem_cons_succ, List.getElem_cons_zero, List.setIfInBounds_toArray, List.set_cons_zero, List.set_cons_succ]
                                              refine wpAnyH_take (i := 45) (v := ?_) rfl (by kernel_rfl) (by kernel_rfl) (by kernel_rfl) (fun _ _ _ h => h) (Or.inl ⟨by rfl, ?_⟩) (by assumption) ?_
                                              rotate_left
                                              · intro V hSw
                                                go_simp
                                                all_goals (with_reducible rfl)
                                              simp only [Act.put, List.getElem_toArray, List.getElem_cons_succ, List.getElem_cons_zero, List.setIfInBounds_toArray, List.set_cons_zero, List.set_cons_succ]
                                              refine wpAnyH_take (i := 46) (v := ?_) rfl (by kernel_rfl) (by kernel_rfl) (by kernel_rfl) (fun _ _ _ h => h) (Or.inl ⟨by rfl, ?_⟩) (by assumption) ?_
                                              rotate_left
                                              · intro V hSw
                                                go_simp
                                                all_goals (with_reducible rfl)
                                              simp only [Act.put, List.getElem_toArray, List.getElem_cons_succ, List.getElem_cons_zero, List.setIfInBounds_toArray, List.set_cons_zero, List.set_cons_succ]
                                              refine wpAnyH_take (i := 47) (v := ?_) rfl (by kernel_rfl) (by kernel_rfl) (by kernel_rfl) (fun _ _ _ h => h) (Or.inl ⟨by rfl, ?_⟩) (by assumption) ?_
                                              rotate_left
                                              · intro V hSw
                                                go_simp
                                                all_goals (with_reducible rfl)
                                              simp only [Act.put, List.getElem_toArray, List.getElem_cons_succ, List.getElem_cons_zero, List.setIfInBounds_toArray, List.set_cons_zero, List.set_cons_succ]
                                              refine wpAnyH_take (i := 48) (v := ?_) rfl (by kernel_rfl) (by kernel_rfl) (by kernel_rfl) (fun _ _ _ h => h) (Or.inl ⟨by rfl, ?_⟩) (by assumption) ?_
                                              rotate_left
                                              · intro V hSw
                                                go_simp
                                                all_goals (with_reducible rfl)
                                              simp only [Act.put, List.getElem_toArray, List.getElem_cons_succ, List.getElem_cons_zero, List.setIfInBounds_toArray, List.set_cons_zero, List.set_cons_succ]
                                              refine wpAnyH_ready (rs := [49]) (by kernel_rfl) (by simp) ?_
                                              refine AllReadyH.cons rfl (fun K hK => ?_) ?_
                                              · go_simp; refine (HVA.out _ hHeld).mono ?_; rintro e w49 ⟨rfl, k49⟩; try (go_wp2_with fail)
                                                refine hK.out _ _ ?_ (fun hHeld => ?_)
                                                · exact k49
                                                clear hK K
                                                simp only [Act.put, List.getElem_toArray, List.getElem_cons_succ, List.getElem_cons_zero, List.setIfInBounds_toArray, List.set_cons_zero, List.set_cons_succ]
                                                refine wpAnyH_take (i := 50) (v := ?_) rfl (by kernel_rfl) (by kernel_rfl) (by kernel_rfl) (fun _ _ _ h => h) (Or.inl ⟨by rfl, ?_⟩) (by assumption) ?_
                                                rotate_left
                                                · intro V hSw
                                                  go_simp
                                                  all_goals (with_reducible rfl)
                                                simp only [Act.put, List.getElem_toArray, List.getElem_cons_succ, List.getElem_cons_zero, List.setIfInBounds_toArray, List.set_cons_zero, List.set_cons_succ]
                                                refine wpAnyH_take (i := 51) (v := ?_) rfl (by kernel_rfl) (by kernel_rfl) (by kernel_rfl) (fun _ _ _ h => h) (Or.inl ⟨by rfl, ?_⟩) (by assumption) ?_
                                                rotate_left
                                                · intro V hSw
                                                  go_simp
                                                  all_goals (with_reducible rfl)
                                                simp only [Act.put, List.getElem_toArray, List.getElem_cons_succ, List.getElem_cons_zero, List.setIfInBounds_toArray, List.set_cons_zero, List.set_cons_succ]
                                                refine wpAnyH_take (i := 52) (v := ?_) rfl (by kernel_rfl) (by kernel_rfl) (by kernel_rfl) (fun _ _ _ h => h) (Or.inl ⟨by rfl, ?_⟩) (by assumption) ?_
                                                rotate_left
                                                · intro V hSw
                                                  go_simp
                                                  all_goals (with_reducible rfl)
                                                simp only [Act.put, List.getElem_toArray, List.getElem_cons_succ, List.getElem_cons_zero, List.setIfInBounds_toArray, List.set_cons_zero, List.set_cons_succ]
                                                refine wpAnyH_ready (rs := [53]) (by kernel_rfl) (by simp) ?_
                                                refine AllReadyH.cons rfl (fun K hK => ?_) ?_
                                                · go_simp; refine (HI3.out _ hHeld).mono ?_; rintro e w53 ⟨rfl, k53⟩; try (go_wp2_with fail)
                                                  refine hK.out _ _ ?_ (fun hHeld => ?_)
                                                  · exact k53
                                                  clear hK K
                                                  simp only [Act.put, List.getElem_toArray, List.getElem_cons_succ, List.getElem_cons_zero, List.setIfInBounds_toArray, List.set_cons_zero, List.set_cons_succ]
                                                  refine wpAnyH_take (i := 54) (v := ?_) rfl (by kernel_rfl) (by kernel_rfl) (by kernel_rfl) (fun _ _ _ h => h) (Or.inl ⟨by rfl, ?_⟩) (by assumption) ?_
                                                  rotate_left
                                                  · intro V hSw
                                                    go_simp
                                                    all_goals (with_reducible rfl)
                                                  simp only [Act.put, List.getElem_toArray, List.getElem_cons_succ, List.getElem_cons_zero, List.setIfInBounds_toArray, List.set_cons_zero, List.set_cons_succ]
                                                  refine wpAnyH_take (i := 55) (v := ?_) rfl (by kernel_rfl) (by kernel_rfl) (by kernel_rfl) (fun _ _ _ h => h) (Or.inl ⟨by rfl, ?_⟩) (by assumption) ?_
                                                  rotate_left
                                                  · intro V hSw
                                                    go_simp
                                                    all_goals (with_reducible rfl)
                                                  simp only [Act.put, List.getElem_toArray, List.getElem_cons_succ, List.getElem_cons_zero, List.setIfInBounds_toArray, List.set_cons_zero, List.set_cons_succ]
                                                  refine wpAnyH_take (i := 56) (v := ?_) rfl (by kernel_rfl) (by kernel_rfl) (by kernel_rfl) (fun _ _ _ h => h) (Or.inl ⟨by rfl, ?_⟩) (by assumption) ?_
                                                  rotate_left
                                                  · intro V hSw
                                                    go_simp
                                                    all_goals (with_reducible rfl)
                                                  simp only [Act.put, List.getElem_toArray, List.getElem_cons_succ, List.getElem_cons_zero, List.setIfInBounds_toArray, List.set_cons_zero, List.set_cons_succ]
                                                  refine wpAnyH_ready (rs := [57]) (by kernel_rfl) (by simp) ?_
                                                  refine AllReadyH.cons rfl (fun K hK => ?_) ?_
                                                  · go_simp; refine (HI4.out _ hHeld).mono ?_; rintro e w57 ⟨rfl, k57⟩; try (go_wp2_with fail)
                                                    refine hK.out _ _ ?_ (fun hHeld => ?_)
                                                    · exact k57
                                                    clear hK K
                                                    simp only [Act.put, List.getElem_toArray, List.getElem_cons_succ, List.getElem_cons_zero, List.setIfInBounds_toArray, List.set_cons_zero, List.set_cons_succ]
                                                    refine wpAnyH_take (i := 58) (v := ?_) rfl (by kernel_rfl) (by kernel_rfl) (by kernel_rfl) (fun _ _ _ h => h) (Or.inl ⟨by rfl, ?_⟩) (by assumption) ?_
                                                    rotate_left
                                                    · intro V hSw
                                                      go_simp
                                                      all_goals (with_reducible rfl)
                                                    simp only [Act.put, List.getElem_toArray, List.getElem_cons_succ, List.getElem_cons_zero, List.setIfInBounds_toArray, List.set_cons_zero, List.set_cons_succ]
                                                    refine wpAnyH_take (i := 59) (v := ?_) rfl (by kernel_rfl) (by kernel_rfl) (by kernel_rfl) (fun _ _ _ h => h) (Or.inl ⟨by rfl, ?_⟩) (by assumption) ?_
                                                    rotate_left
                                                    · intro V hSw
                                                      go_simp
                                                      all_goals (with_reducible rfl)
                                                    simp only [Act.put, List.getElem_toArray, List.getElem_cons_succ, List.getElem_cons_zero, List.setIfInBounds_toArray, List.set_cons_zero, List.set_cons_succ]
                                                    refine wpAnyH_take (i := 60) (v := ?_) rfl (by kernel_rfl) (by kernel_rfl) (by kernel_rfl) (fun _ _ _ h => h) (Or.inl ⟨by rfl, ?_⟩) (by assumption) ?_
                                                    rotate_left
                                                    · intro V hSw
                                                      go_simp
                                                      all_goals (with_reducible rfl)
                                                    simp only [Act.put, List.getElem_toArray, List.getElem_cons_succ, List.getElem_cons_zero, List.setIfInBounds_toArray, List.set_cons_zero, List.set_cons_succ]
                                                    refine wpAnyH_take (i := 61) (v := ?_) rfl (by kernel_rfl) (by kernel_rfl) (by kernel_rfl) (fun _ _ _ h => h) (Or.inl ⟨by rfl, ?_⟩) (by assumption) ?_
                                                    rotate_left
                                                    · intro V hSw
                                                      go_simp
                                                      all_goals (with_reducible rfl)
                                                    simp only [Act.put, List.getElem_toArray, List.getElem_cons_succ, List.getElem_cons_zero, List.setIfInBounds_toArray, List.set_cons_zero, List.set_cons_succ]
                                                    refine wpAnyH_take (i := 62) (v := ?_) rfl (by kernel_rfl) (by kernel_rfl) (by kernel_rfl) (fun _ _ _ h => h) (Or.inl ⟨by rfl, ?_⟩) (by assumption) ?_
                                                    rotate_left
                                                    · intro V hSw
                                                      go_simp
                                                      all_goals (with_reducible rfl)
                                                    simp only [Act.put, List.getElem_toArray, List.getElem_cons_succ, List.getElem_cons_zero, List.setIfInBounds_toArray, List.set_cons_zero, List.set_cons_succ]
                                                    refine wpAnyH_ready (rs := [63]) (by kernel_rfl) (by simp) ?_
                                                    refine AllReadyH.cons rfl (fun K hK => ?_) ?_
                                                    · go_simp; refine (HCM.out _ hHeld).mono ?_; rintro e w63 ⟨rfl, k63⟩; try (go_wp2_with fail)
                                                      refine hK.out _ _ ?_ (fun hHeld => ?_)
                                                      · exact k63
                                                      clear hK K
                                                      simp only [Act.put, List.getElem_toArray, List.getElem_cons_succ, List.getElem_cons_zero, List.setIfInBounds_toArray, List.set_cons_zero, List.set_cons_succ]
                                                      refine wpAnyH_take (i := 64) (v := ?_) rfl (by kernel_rfl) (by kernel_rfl) (by kernel_rfl) (fun _ _ _ h => h) (Or.inl ⟨by rfl, ?_⟩) (by assumption) ?_
                                                      rotate_left
                                                      · intro V hSw
                                                        go_simp
                                                        all_goals (with_reducible rfl)
                                                      simp only [Act.put, List.getElem_toArray, List.getElem_cons_succ, List.getElem_cons_zero, List.setIfInBounds_toArray, List.set_cons_zero, List.set_cons_succ]
                                                      refine wpAnyH_take (i := 65) (v := ?_) rfl (by kernel_rfl) (by kernel_rfl) (by kernel_rfl) (fun _ _ _ h => h) (Or.inl ⟨by rfl, ?_⟩) (by assumption) ?_
                                                      rotate_left
                                                      · intro V hSw
                                                        go_simp
                                                        all_goals (with_reducible rfl)
                                                      simp only [Act.put, List.getElem_toArray, List.getElem_cons_succ, List.getElem_cons_zero, List.setIfInBounds_toArray, List.set_cons_zero, List.set_cons_succ]
                                                      refine wpAnyH_take (i := 66) (v := ?_) rfl (by kernel_rfl) (by kernel_rfl) (by kernel_rfl) (fun _ _ _ h => h) (Or.inl ⟨by rfl, ?_⟩) (by assumption) ?_
                                                      rotate_left
                                                      · intro V hSw
                                                        go_simp
                                                        all_goals (with_reducible rfl)
                                                      simp only [Act.put, List.getElem_toArray, List.getElem_cons_succ, List.getElem_cons_zero, List.setIfInBounds_toArray, List.set_cons_zero, List.set_cons_succ]
                                                      refine wpAnyH_take (i := 67) (v := ?_) rfl (by kernel_rfl) (by kernel_rfl) (by kernel_rfl) (fun _ _ _ h => h) (Or.inl ⟨by rfl, ?_⟩) (by assumption) ?_
                                                      rotate_left
                                                      · intro V hSw
                                                        go_simp
                                                        all_goals (with_reducible rfl)
                                                      simp only [Act.put, List.getElem_toArray, List.getElem_cons_succ, List.getElem_cons_zero, List.setIfInBounds_toArray, List.set_cons_zero, List.set_cons_succ]
                                                      refine wpAnyH_ready (rs := [68]) (by kernel_rfl) (by simp) ?_
                                                      refine AllReadyH.cons rfl (fun K hK => ?_) ?_
                                                      · go_simp; refine (HSU.out _ hHeld).mono ?_; rintro e w68 ⟨AS, cS, rfl, k68⟩; try (go_wp2_with fail)
                                                        refine hK.out _ _ ?_ (fun hHeld => ?_)
                                                        · exact k68
                                                        clear hK K
                                                        simp only [Act.put, List.getElem_toArray, List.getElem_cons_succ, List.getElem_cons_zero, List.setIfInBounds_toArray, List.set_cons_zero, List.set_cons_succ]
                                                        refine wpAnyH_take (i := 69) (v := ?_) rfl (by kernel_rfl) (by kernel_rfl) (by kernel_rfl) (fun _ _ _ h => h) (Or.inl ⟨by rfl, ?_⟩) (by assumption) ?_
                                                        rotate_left
                                                        · intro V hSw
                                                          go_simp
                                                          all_goals (with_reducible rfl)
                                                        simp only [Act.put, List.getElem_toArray, List.getElem_cons_succ, List.getElem_cons_zero, List.setIfInBounds_toArray, List.set_cons_zero, List.set_cons_succ]
                                                        refine wpAnyH_take (i := 70) (v := ?_) rfl (by kernel_rfl) (by kernel_rfl) (by kernel_rfl) (fun _ _ _ h => h) (Or.inl ⟨by rfl, ?_⟩) (by assumption) ?_
                                                        rotate_left
                                                        · intro V hSw
                                                          go_simp
                                                          all_goals (with_reducible rfl)
                                                        simp only [Act.put, List.getElem_toArray, List.getElem_cons_succ, List.getElem_cons_zero, List.setIfInBounds_toArray, List.set_cons_zero, List.set_cons_succ]
                                                        refine wpAnyH_take (i := 71) (v := ?_) rfl (by kernel_rfl) (by kernel_rfl) (by kernel_rfl) (fun _ _ _ h => h) (Or.inl ⟨by rfl, ?_⟩) (by assumption) ?_
                                                        rotate_left
                                                        · intro V hSw
                                                          go_simp
                                                          all_goals (with_reducible rfl)
                                                        simp only [Act.put, List.getElem_toArray, List.getElem_cons_succ, List.getElem_cons_zero, List.setIfInBounds_toArray, List.set_cons_zero, List.set_cons_succ]
                                                        refine wpAnyH_take (i := 72) (v := ?_) rfl (by kernel_rfl) (by kernel_rfl) (by kernel_rfl) (fun _ _ _ h => h) (Or.inl ⟨by rfl, ?_⟩) (by assumption) ?_
                                                        rotate_left
                                                        · intro V hSw
                                                          go_simp
                                                          all_goals (with_reducible rfl)
                                                        simp only [Act.put, List.getElem_toArray, List.getElem_cons_succ, List.getElem_cons_zero, List.setIfInBounds_toArray, List.set_cons_zero, List.set_cons_succ]
                                                        refine wpAnyH_done (by kernel_rfl) ?_ _
                                                        go_wp2
                                                        go_ret
                                                        exact ⟨rfl, BQ.out.trans (Below.mono hHeld BQ.out.size)⟩
                                                      exact AllReadyH.nil
                                                    exact AllReadyH.nil
                                                  exact AllReadyH.nil
                                                exact AllReadyH.nil
                                              exact AllReadyH.nil
                                            exact AllReadyH.nil
                                          exact AllReadyH.nil
                                        exact AllReadyH.nil
                                      exact AllReadyH.nil
                                    refine AllReadyH.cons rfl (fun K hK => ?_) ?_
                                    · go_simp; refine (keyCall _ _).mono ?_; rintro e w34 ⟨rfl, h34⟩; have k34 : Below wq.heap.size wq w34 := Below.trans hHeld (h34.mono (Below.size hHeld)); try (go_wp2_with fail)
                                      refine hK.out _ _ ?_ (fun hHeld => ?_)
                                      · exact k34
                                      clear hK K
                                      simp only [Act.put, List.getElem_toArray, List.getElem_cons_succ, List.getElem_cons_zero, List.setIfInBounds_toArray, List.set_cons_zero, List.set_cons_succ]
                                      refine wpAnyH_ready (rs := [33]) (by kernel_rfl) (by simp) ?_
                                      refine AllReadyH.cons rfl (fun K hK => ?_) ?_
                                      · go_simp
                                        refine hK.out _ _ ?_ (fun hHeld => ?_)
                                        · exact Below.alloc hHeld (Below.size hHeld) _
                                        clear hK K
                                        simp only [Act.put, List.getElem_toArray, List.getElem_cons_succ, List.getElem_cons_zero, List.setIfInBounds_toArray, List.set_cons_zero, List.set_cons_succ]
                                        refine wpAnyH_ready (rs := [35]) (by kernel_rfl) (by simp) ?_
                                        refine AllReadyH.cons rfl (fun K hK => ?_) ?_
                                        · go_simp; refine (HK3.out _ _ _ _ hHeld (((s60.grow h32).grow h34).alloc _) (heap_alloc_new _ _)).mono ?_; rintro e w35 ⟨rfl, k35⟩; try (go_wp2_with fail)
                                          refine hK.out _ _ ?_ (fun hHeld => ?_)
                                          · exact k35
                                          clear hK K
                                          simp only [Act.put, List.getElem_toArray, List.getElem_cons_succ, List.getElem_cons_zero, List.setIfInBounds_toArray, List.set_cons_zero, List.set_cons_succ]
                                          refine wpAnyH_take (i := 36) (v := ?_) rfl (by kernel_rfl) (by kernel_rfl) (by kernel_rfl) (fun _ _ _ h => h) (Or.inl ⟨by rfl, ?_⟩) (by assumption) ?_
                                          rotate_left
                                          · intro V hSw
                                            go_simp
                                            all_goals (with_reducible rfl)
                                          simp only [Act.put, List.getElem_toArray, List.getElem_cons_succ, List.getElem_cons_zero, List.setIfInBounds_toArray, List.set_cons_zero, List.set_cons_succ]
                                          refine wpAnyH_take (i := 37) (v := ?_) rfl (by kernel_rfl) (by kernel_rfl) (by kernel_rfl) (fun _ _ _ h => h) (Or.inl ⟨by rfl, ?_⟩) (by assumption) ?_
                                          rotate_left
                                          · intro V hSw
                                            go_simp
                                            all_goals (with_reducible rfl)
                                          simp only [Act.put, List.getElem_toArray, List.getElem_cons_succ, List.getElem_cons_zero, List.setIfInBounds_toArray, List.set_cons_zero, List.set_cons_succ]
                                          refine wpAnyH_take (i := 38) (v := ?_) rfl (by kernel_rfl) (by kernel_rfl) (by kernel_rfl) (fun _ _ _ h => h) (Or.inl ⟨by rfl, ?_⟩) (by assumption) ?_
                                          rotate_left
                                          · intro V hSw
                                            go_simp
                                            all_goals (with_reducible rfl)
                                          simp only [Act.put, List.getElem_toArray, List.getElem_cons_succ, List.getElem_cons_zero, List.setIfInBounds_toArray, List.set_cons_zero, List.set_cons_succ]
                                          refine wpAnyH_ready (rs := [39]) (by kernel_rfl) (by simp) ?_
                                          refine AllReadyH.cons rfl (fun K hK => ?_) ?_
                                          · go_simp; refine (HTX.out _ hHeld).mono ?_; rintro e w39 ⟨rfl, k39⟩; try (go_wp2_with fail)
                                            refine hK.out _ _ ?_ (fun hHeld => ?_)
                                            · exact k39
                                            clear hK K
                                            simp only [Act.put, List.getElem_toArray, List.getElem_cons_succ, List.getElem_cons_zero, List.setIfInBounds_toArray, List.set_cons_zero, List.set_cons_succ]
                                            refine wpAnyH_take (i := 40) (v := ?_) rfl (by kernel_rfl) (by kernel_rfl) (by kernel_rfl) (fun _ _ _ h => h) (Or.inl ⟨by rfl, ?_⟩) (by assumption) ?_
                                            rotate_left
                                            · intro V hSw
                                              go_simp
                                              all_goals (with_reducible rfl)
                                            simp only [Act.put, List.getElem_toArray, List.getElem_cons_succ, List.getElem_cons_zero, List.setIfInBounds_toArray, List.set_cons_zero, List.set_cons_succ]
                                            refine wpAnyH_take (i := 41) (v := ?_) rfl (by kernel_rfl) (by kernel_rfl) (by kernel_rfl) (fun _ _ _ h => h) (Or.inl ⟨by rfl, ?_⟩) (by assumption) ?_
                                            rotate_left
                                            · intro V hSw
                                              go_simp
                                              all_goals (with_reducible rfl)
                                            simp only [Act.put, List.getElem_toArray, List.getElem_cons_succ, List.getElem_cons_zero, List.setIfInBounds_toArray, List.set_cons_zero, List.set_cons_succ]
                                            refine wpAnyH_take (i := 42) (v := ?_) rfl (by kernel_rfl) (by kernel_rfl) (by kernel_rfl) (fun _ _ _ h => h) (Or.inl ⟨by rfl, ?_⟩) (by assumption) ?_
                                            rotate_left
                                            · intro V hSw
                                              go_simp
                                              all_goals (with_reducible rfl)
                                            simp only [Act.put, List.getElem_toArray, List.getElem_cons_succ, List.getElem_cons_zero, List.setIfInBounds_toArray, List.set_cons_zero, List.set_cons_succ]
                                            refine wpAnyH_take (i := 43) (v := ?_) rfl (by kernel_rfl) (by kernel_rfl) (by kernel_rfl) (fun _ _ _ h => h) (Or.inl ⟨by rfl, ?_⟩) (by assumption) ?_
                                            rotate_left
                                            · intro V hSw
                                              go_simp
                                              all_goals (with_reducible rfl)
                                            simp only [Act.put, List.getElem_toArray, List.getElem_cons_succ, List.getElem_cons_zero, List.setIfInBounds_toArray, List.set_cons_zero, List.set_cons_succ]
                                            refine wpAnyH_ready (rs := [44]) (by kernel_rfl) (by simp) ?_
                                            refine AllReadyH.cons rfl (fun K hK => ?_) ?_
                                            · go_simp; refine (HSZ.out _ hHeld).mono ?_; rintro e w44 ⟨rfl, k44⟩; try (go_wp2_with fail)
                                              refine hK.out _ _ ?_ (fun hHeld => ?_)
                                              · exact k44
                                              clear hK K
                                              simp only [Act.put, List.getElem_toArray, List.getElem_cons_succ, List.getElem_cons_zero, List.setIfInBounds_toArray, List.set_cons_zero, List.set_cons_succ]
                                              refine wpAnyH_take (i := 45) (v := ?_) rfl (by kernel_rfl) (by kernel_rfl) (by kernel_rfl) (fun _ _ _ h => h) (Or.inl ⟨by rfl, ?_⟩) (by assumption) ?_
                                              rotate_left
                                              · intro V hSw
                                                go_simp
                                                all_goals (with_reducible rfl)
                                              simp only [Act.put, List.getElem_toArray, List.getElem_cons_succ, List.getElem_cons_zero, List.setIfInBounds_toArray, List.set_cons_zero, List.set_cons_succ]
                                              refine wpAnyH_take (i := 46) (v := ?_) rfl (by kernel_rfl) (by kernel_rfl) (by kernel_rfl) (fun _ _ _ h => h) (Or.inl ⟨by rfl, ?_⟩) (by assumption) ?_
                                              rotate_left
                                              · intro V hSw
                                                go_simp
                                                all_goals (with_reducible rfl)
                                              simp only [Act.put, List.getElem_toArray, List.getElem_cons_succ, List.getElem_cons_zero, List.setIfInBounds_toArray, List.set_cons_zero, List.set_cons_succ]
                                              refine wpAnyH_take (i := 47) (v := ?_) rfl (by kernel_rfl) (by kernel_rfl) (by kernel_rfl) (fun _ _ _ h => h) (Or.inl ⟨by rfl, ?_⟩) (by assumption) ?_
                                              rotate_left
                                              · intro V hSw
                                                go_simp
                                                all_goals (with_reducible rfl)
                                              simp only [Act.put, List.getElem_toArray, List.getElem_cons_succ, List.getElem_cons_zero, List.setIfInBounds_toArray, List.set_cons_zero, List.set_cons_succ]
                                              refine wpAnyH_take (i := 48) (v := ?_) rfl (by kernel_rfl) (by kernel_rfl) (by kernel_rfl) (fun _ _ _ h => h) (Or.inl ⟨by rfl, ?_⟩) (by assumption) ?_
                                              rotate_left
                                              · intro V hSw
                                                go_simp
                                                all_goals (with_reducible rfl)
                                              simp only [Act.put, List.getElem_toArray, List.getElem_cons_succ, List.getElem_cons_zero, List.setIfInBounds_toArray, List.set_cons_zero, List.set_cons_succ]
                                              refine wpAnyH_ready (rs := [49]) (by kernel_rfl) (by simp) ?_
                                              refine AllReadyH.cons rfl (fun K hK => ?_) ?_
                                              · go_simp; refine (HVA.out _ hHeld).mono ?_; rintro e w49 ⟨rfl, k49⟩; try (go_wp2_with fail)
                                                refine hK.out _ _ ?_ (fun hHeld => ?_)
                                                · exact k49
                                                clear hK K
                                                simp only [Act.put, List.getElem_toArray, List.getElem_cons_succ, List.getElem_cons_zero, List.setIfInBounds_toArray, List.set_cons_zero, List.set_cons_succ]
                                                refine wpAnyH_take (i := 50) (v := ?_) rfl (by kernel_rfl) (by kernel_rfl) (by kernel_rfl) (fun _ _ _ h => h) (Or.inl ⟨by rfl, ?_⟩) (by assumption) ?_
                                                rotate_left
                                                · intro V hSw
                                                  go_simp
                                                  all_goals (with_reducible rfl)
                                                simp only [Act.put, List.getElem_toArray, List.getElem_cons_succ, List.getElem_cons_zero, List.setIfInBounds_toArray, List.set_cons_zero, List.set_cons_succ]
                                                refine wpAnyH_take (i := 51) (v := ?_) rfl (by kernel_rfl) (by kernel_rfl) (by kernel_rfl) (fun _ _ _ h => h) (Or.inl ⟨by rfl, ?_⟩) (by assumption) ?_
                                                rotate_left
                                                · intro V hSw
                                                  go_simp
                                                  all_goals (with_reducible rfl)
                                                simp only [Act.put, List.getElem_toArray, List.getElem_cons_succ, List.getElem_cons_zero, List.setIfInBounds_toArray, List.set_cons_zero, List.set_cons_succ]
                                                refine wpAnyH_take (i := 52) (v := ?_) rfl (by kernel_rfl) (by kernel_rfl) (by kernel_rfl) (fun _ _ _ h => h) (Or.inl ⟨by rfl, ?_⟩) (by assumption) ?_
                                                rotate_left
                                                · intro V hSw
                                                  go_simp
                                                  all_goals (with_reducible rfl)
                                                simp only [Act.put, List.getElem_toArray, List.getElem_cons_succ, List.getElem_cons_zero, List.setIfInBounds_toArray, List.set_cons_zero, List.set_cons_succ]
                                                refine wpAnyH_ready (rs := [53]) (by kernel_rfl) (by simp) ?_
                                                refine AllReadyH.cons rfl (fun K hK => ?_) ?_
                                                · go_simp; refine (HI3.out _ hHeld).mono ?_; rintro e w53 ⟨rfl, k53⟩; try (go_wp2_with fail)
                                                  refine hK.out _ _ ?_ (fun hHeld => ?_)
                                                  · exact k53
                                                  clear hK K
                                                  simp only [Act.put, List.getElem_toArray, List.getElem_cons_succ, List.getElem_cons_zero, List.setIfInBounds_toArray, List.set_cons_zero, List.set_cons_succ]
                                                  refine wpAnyH_take (i := 54) (v := ?_) rfl (by kernel_rfl) (by kernel_rfl) (by kernel_rfl) (fun _ _ _ h => h) (Or.inl ⟨by rfl, ?_⟩) (by assumption) ?_
                                                  rotate_left
                                                  · intro V hSw
                                                    go_simp
                                                    all_goals (with_reducible rfl)
                                                  simp only [Act.put, List.getElem_toArray, List.getElem_cons_succ, List.getElem_cons_zero, List.setIfInBounds_toArray, List.set_cons_zero, List.set_cons_succ]
                                                  refine wpAnyH_take (i := 55) (v := ?_) rfl (by kernel_rfl) (by kernel_rfl) (by kernel_rfl) (fun _ _ _ h => h) (Or.inl ⟨by rfl, ?_⟩) (by assumption) ?_
                                                  rotate_left
                                                  · intro V hSw
                                                    go_simp
                                                    all_goals (with_reducible rfl)
                                                  simp only [Act.put, List.getElem_toArray, List.getElem_cons_succ, List.getElem_cons_zero, List.setIfInBounds_toArray, List.set_cons_zero, List.set_cons_succ]
                                                  refine wpAnyH_take (i := 56) (v := ?_) rfl (by kernel_rfl) (by kernel_rfl) (by kernel_rfl) (fun _ _ _ h => h) (Or.inl ⟨by rfl, ?_⟩) (by assumption) ?_
                                                  rotate_left
                                                  · intro V hSw
                                                    go_simp
                                                    all_goals (with_reducible rfl)
                                                  simp only [Act.put, List.getElem_toArray, List.getElem_cons_succ, List.getElem_cons_zero, List.setIfInBounds_toArray, List.set_cons_zero, List.set_cons_succ]
                                                  refine wpAnyH_ready (rs := [57]) (by kernel_rfl) (by simp) ?_
                                                  refine AllReadyH.cons rfl (fun K hK => ?_) ?_
                                                  · go_simp; refine (HI4.out _ hHeld).mono ?_; rintro e w57 ⟨rfl, k57⟩; try (go_wp2_with fail)
                                                    refine hK.out _ _ ?_ (fun hHeld => ?_)
                                                    · exact k57
                                                    clear hK K
                                                    simp only [Act.put, List.getElem_toArray, List.getElem_cons_succ, List.getElem_cons_zero, List.setIfInBounds_toArray, List.set_cons_zero, List.set_cons_succ]
                                                    refine wpAnyH_take (i := 58) (v := ?_) rfl (by kernel_rfl) (by kernel_rfl) (by kernel_rfl) (fun _ _ _ h => h) (Or.inl ⟨by rfl, ?_⟩) (by assumption) ?_
                                                    rotate_left
                                                    · intro V hSw
                                                      go_simp
                                                      all_goals (with_reducible rfl)
                                                    simp only [Act.put, List.getElem_toArray, List.getElem_cons_succ, List.getElem_cons_zero, List.setIfInBounds_toArray, List.set_cons_zero, List.set_cons_succ]
                                                    refine wpAnyH_take (i := 59) (v := ?_) rfl (by kernel_rfl) (by kernel_rfl) (by kernel_rfl) (fun _ _ _ h => h) (Or.inl ⟨by rfl, ?_⟩) (by assumption) ?_
                                                    rotate_left
                                                    · intro V hSw
                                                      go_simp
                                                      all_goals (with_reducible rfl)
                                                    simp only [Act.put, List.getElem_toArray, List.getElem_cons_succ, List.getElem_cons_zero, List.setIfInBounds_toArray, List.set_cons_zero, List.set_cons_succ]
                                                    refine wpAnyH_take (i := 60) (v := ?_) rfl (by kernel_rfl) (by kernel_rfl) (by kernel_rfl) (fun _ _ _ h => h) (Or.inl ⟨by rfl, ?_⟩) (by assumption) ?_
                                                    rotate_left
                                                    · intro V hSw
                                                      go_simp
                                                      all_goals (with_reducible rfl)
                                                    simp only [Act.put, List.getElem_toArray, List.getElem_cons_succ, List.getElem_cons_zero, List.setIfInBounds_toArray, List.set_cons_zero, List.set_cons_succ]
                                                    refine wpAnyH_take (i := 61) (v := ?_) rfl (by kernel_rfl) (by kernel_rfl) (by kernel_rfl) (fun _ _ _ h => h) (Or.inl ⟨by rfl, ?_⟩) (by assumption) ?_
                                                    rotate_left
                                                    · intro V hSw
                                                      go_simp
                                                      all_goals (with_reducible rfl)
                                                    simp only [Act.put, List.getElem_toArray, List.getElem_cons_succ, List.getElem_cons_zero, List.setIfInBounds_toArray, List.set_cons_zero, List.set_cons_succ]
                                                    refine wpAnyH_take (i := 62) (v := ?_) rfl (by kernel_rfl) (by kernel_rfl) (by kernel_rfl) (fun _ _ _ h => h) (Or.inl ⟨by rfl, ?_⟩) (by assumption) ?_
                                                    rotate_left
                                                    · intro V hSw
                                                      go_simp
                                                      all_goals (with_reducible rfl)
                                                    simp only [Act.put, List.getElem_toArray, List.getElem_cons_succ, List.getElem_cons_zero, List.setIfInBounds_toArray, List.set_cons_zero, List.set_cons_succ]
                                                    refine wpAnyH_ready (rs := [63]) (by kernel_rfl) (by simp) ?_
                                                    refine AllReadyH.cons rfl (fun K hK => ?_) ?_
                                                    · go_simp; refine (HCM.out _ hHeld).mono ?_; rintro e w63 ⟨rfl, k63⟩; try (go_wp2_with fail)
                                                      refine hK.out _ _ ?_ (fun hHeld => ?_)
                                                      · exact k63
                                                      clear hK K
                                                      simp only [Act.put, List.getElem_toArray, List.getElem_cons_succ, List.getElem_cons_zero, List.setIfInBounds_toArray, List.set_cons_zero, List.set_cons_succ]
                                                      refine wpAnyH_take (i := 64) (v := ?_) rfl (by kernel_rfl) (by kernel_rfl) (by kernel_rfl) (fun _ _ _ h => h) (Or.inl ⟨by rfl, ?_⟩) (by assumption) ?_
                                                      rotate_left
                                                      · intro V hSw
                                                        go_simp
                                                        all_goals (with_reducible rfl)
                                                      simp only [Act.put, List.getElem_toArray, List.getElem_cons_succ, List.getElem_cons_zero, List.setIfInBounds_toArray, List.set_cons_zero, List.set_cons_succ]
                                                      refine wpAnyH_take (i := 65) (v := ?_) rfl (by kernel_rfl) (by kernel_rfl) (by kernel_rfl) (fun _ _ _ h => h) (Or.inl ⟨by rfl, ?_⟩) (by assumption) ?_
                                                      rotate_left
                                                      · intro V hSw
                                                        go_simp
                                                        all_goals (with_reducible rfl)
                                                      simp only [Act.put, List.getElem_toArray, List.getElem_cons_succ, List.getElem_cons_zero, List.setIfInBounds_toArray, List.set_cons_zero, List.set_cons_succ]
                                                      refine wpAnyH_take (i := 66) (v := ?_) rfl (by kernel_rfl) (by kernel_rfl) (by kernel_rfl) (fun _ _ _ h => h) (Or.inl ⟨by rfl, ?_⟩) (by assumption) ?_
                                                      rotate_left
                                                      · intro V hSw
                                                        go_simp
                                                        all_goals (with_reducible rfl)
                                                      simp only [Act.put, List.getElem_toArray, List.getElem_cons_succ, List.getElem_cons_zero, List.setIfInBounds_toArray, List.set_cons_zero, List.set_cons_succ]
                                                      refine wpAnyH_take (i := 67) (v := ?_) rfl (by kernel_rfl) (by kernel_rfl) (by kernel_rfl) (fun _ _ _ h => h) (Or.inl ⟨by rfl, ?_⟩) (by assumption) ?_
                                                      rotate_left
                                                      · intro V hSw
                                                        go_simp
                                                        all_goals (with_reducible rfl)
                                                      simp only [Act.put, List.getElem_toArray, List.getElem_cons_succ, List.getElem_cons_zero, List.setIfInBounds_toArray, List.set_cons_zero, List.set_cons_succ]
                                                      refine wpAnyH_ready (rs := [68]) (by kernel_rfl) (by simp) ?_
                                                      refine AllReadyH.cons rfl (fun K hK => ?_) ?_
                                                      · go_simp; refine (HSU.out _ hHeld).mono ?_; rintro e w68 ⟨AS, cS, rfl, k68⟩; try (go_wp2_with fail)
                                                        refine hK.out _ _ ?_ (fun hHeld => ?_)
                                                        · exact k68
                                                        clear hK K
                                                        simp only [Act.put, List.getElem_toArray, List.getElem_cons_succ, List.getElem_cons_zero, List.setIfInBounds_toArray, List.set_cons_zero, List.set_cons_succ]
                                                        refine wpAnyH_take (i := 69) (v := ?_) rfl (by kernel_rfl) (by kernel_rfl) (by kernel_rfl) (fun _ _ _ h => h) (Or.inl ⟨by rfl, ?_⟩) (by assumption) ?_
                                                        rotate_left
                                                        · intro V hSw
                                                          go_simp
                                                          all_goals (with_reducible rfl)
                                                        simp only [Act.put, List.getElem_toArray, List.getElem_cons_succ, List.getElem_cons_zero, List.setIfInBounds_toArray, List.set_cons_zero, List.set_cons_succ]
                                                        refine wpAnyH_take (i := 70) (v := ?_) rfl (by kernel_rfl) (by kernel_rfl) (by kernel_rfl) (fun _ _ _ h => h) (Or.inl ⟨by rfl, ?_⟩) (by assumption) ?_
                                                        rotate_left
                                                        · intro V hSw
                                                          go_simp
                                                          all_goals (with_reducible rfl)
                                                        simp only [Act.put, List.getElem_toArray, List.getElem_cons_succ, List.getElem_cons_zero, List.setIfInBounds_toArray, List.set_cons_zero, List.set_cons_succ]
                                                        refine wpAnyH_take (i := 71) (v := ?_) rfl (by kernel_rfl) (by kernel_rfl) (by kernel_rfl) (fun _ _ _ h => h) (Or.inl ⟨by rfl, ?_⟩) (by assumption) ?_
                                                        rotate_left
                                                        · intro V hSw
                                                          go_simp
                                                          all_goals (with_reducible rfl)
                                                        simp only [Act.put, List.getElem_toArray, List.getElem_cons_succ, List.getElem_cons_zero, List.setIfInBounds_toArray, List.set_cons_zero, List.set_cons_succ]
                                                        refine wpAnyH_take (i := 72) (v := ?_) rfl (by kernel_rfl) (by kernel_rfl) (by kernel_rfl) (fun _ _ _ h => h) (Or.inl ⟨by rfl, ?_⟩) (by assumption) ?_
                                                        rotate_left
                                                        · intro V hSw
                                                          go_simp
                                                          all_goals (with_reducible rfl)
                                                        simp only [Act.put, List.getElem_toArray, List.getElem_cons_succ, List.getElem_cons_zero, List.setIfInBounds_toArray, List.set_cons_zero, List.set_cons_succ]
                                                        refine wpAnyH_done (by kernel_rfl) ?_ _
                                                        go_wp2
                                                        go_ret
                                                        exact ⟨rfl, BQ.out.trans (Below.mono hHeld BQ.out.size)⟩
                                                      exact AllReadyH.nil
                                                    exact AllReadyH.nil
                                                  exact AllReadyH.nil
                                                exact AllReadyH.nil
                                              exact AllReadyH.nil
                                            exact AllReadyH.nil
                                          exact AllReadyH.nil
                                        exact AllReadyH.nil
                                      exact AllReadyH.nil
                                    exact AllReadyH.nil
                                  exact AllReadyH.nil
                                exact AllReadyH.nil
                              exact AllReadyH.nil
                            exact AllReadyH.nil
                          exact AllReadyH.nil
                        refine AllReadyH.cons rfl (fun K hK => ?_) ?_
                        · go_simp; refine (keyCall _ _).mono ?_; rintro e w24 ⟨rfl, h24⟩; have k24 : Below wq.heap.size wq w24 := Below.trans hHeld (h24.mono (Below.size hHeld)); try (go_wp2_with fail)
                          refine hK.out _ _ ?_ (fun hHeld => ?_)
                          · exact k24
                          clear hK K
                          simp only [Act.put, List.getElem_toArray, List.getElem_cons_succ, List.getElem_cons_zero, List.setIfInBounds_toArray, List.set_cons_zero, List.set_cons_succ]
                          refine wpAnyH_ready (rs := [23]) (by kernel_rfl) (by simp) ?_
                          refine AllReadyH.cons rfl (fun K hK => ?_) ?_
                          · go_simp
                            refine hK.out _ _ ?_ (fun hHeld => ?_)
                            · exact Below.alloc hHeld (Below.size hHeld) _
                            clear hK K
                            simp only [Act.put, List.getElem_toArray, List.getElem_cons_succ, List.getElem_cons_zero, List.setIfInBounds_toArray, List.set_cons_zero, List.set_cons_succ]
                            refine wpAnyH_ready (rs := [25]) (by kernel_rfl) (by simp) ?_
                            refine AllReadyH.cons rfl (fun K hK => ?_) ?_
                            · go_simp; refine (HK2.out _ _ hHeld (heap_alloc_new _ _)).mono ?_; rintro e w25 ⟨rfl, k25⟩; try (go_wp2_with fail)
                              refine hK.out _ _ ?_ (fun hHeld => ?_)
                              · exact k25
                              clear hK K
                              simp only [Act.put, List.getElem_toArray, List.getElem_cons_succ, List.getElem_cons_zero, List.setIfInBounds_toArray, List.set_cons_zero, List.set_cons_succ]
                              refine wpAnyH_take (i := 26) (v := ?_) rfl (by kernel_rfl) (by kernel_rfl) (by kernel_rfl) (fun _ _ _ h => h) (Or.inl ⟨by rfl, ?_⟩) (by assumption) ?_
                              rotate_left
                              · intro V hSw
                                go_simp
                                all_goals (with_reducible rfl)
                              simp only [Act.put, List.getElem_toArray, List.getElem_cons_succ, List.getElem_cons_zero, List.setIfInBounds_toArray, List.set_cons_zero, List.set_cons_succ]
                              refine wpAnyH_take (i := 27) (v := ?_) rfl (by kernel_rfl) (by kernel_rfl) (by kernel_rfl) (fun _ _ _ h => h) (Or.inl ⟨by rfl, ?_⟩) (by assumption) ?_
                              rotate_left
                              · intro V hSw
                                go_simp
                                all_goals (with_reducible rfl)
                              simp only [Act.put, List.getElem_toArray, List.getElem_cons_succ, List.getElem_cons_zero, List.setIfInBounds_toArray, List.set_cons_zero, List.set_cons_succ]
                              refine wpAnyH_take (i := 28) (v := ?_) rfl (by kernel_rfl) (by kernel_rfl) (by kernel_rfl) (fun _ _ _ h => h) (Or.inl ⟨by rfl, ?_⟩) (by assumption) ?_
                              rotate_left
                              · intro V hSw
                                go_simp
                                all_goals (with_reducible rfl)
                              simp only [Act.put, List.getElem_toArray, List.getElem_cons_succ, List.getElem_cons_zero, List.setIfInBounds_toArray, List.set_cons_zero, List.set_cons_succ]
                              refine wpAnyH_take (i := 29) (v := ?_) rfl (by kernel_rfl) (by kernel_rfl) (by kernel_rfl) (fun _ _ _ h => h) (Or.inl ⟨by rfl, ?_⟩) (by assumption) ?_
                              rotate_left
                              · intro V hSw
                                go_simp
                                all_goals (with_reducible rfl)
                              simp only [Act.put, List.getElem_toArray, List.getElem_cons_succ, List.getElem_cons_zero, List.setIfInBounds_toArray, List.set_cons_zero, List.set_cons_succ]
                              refine wpAnyH_ready (rs := [30]) (by kernel_rfl) (by simp) ?_
                              refine AllReadyH.cons rfl (fun K hK => ?_) ?_
                              · go_simp; refine (keyCall _ _).mono ?_; rintro e w30 ⟨rfl, h30⟩; have k30 : Below wq.heap.size wq w30 := Below.trans hHeld (h30.mono (Below.size hHeld)); try (go_wp2_with fail)
                                refine hK.out _ _ ?_ (fun hHeld => ?_)
                                · exact k30
                                clear hK K
                                simp only [Act.put, List.getElem_toArray, List.getElem_cons_succ, List.getElem_cons_zero, List.setIfInBounds_toArray, List.set_cons_zero, List.set_cons_succ]
                                refine wpAnyH_ready (rs := [31]) (by kernel_rfl) (by simp) ?_
                                refine AllReadyH.cons rfl (fun K hK => ?_) ?_
                                · go_simp; refine (HSE.out _ hHeld).mono ?_; rintro e w31 ⟨C, cc, rfl, s60, k31⟩; try (go_wp2_with fail)
                                  refine hK.out _ _ ?_ (fun hHeld => ?_)
                                  · exact k31
                                  clear hK K
                                  simp only [Act.put, List.getElem_toArray, List.getElem_cons_succ, List.getElem_cons_zero, List.setIfInBounds_toArray, List.set_cons_zero, List.set_cons_succ]
                                  refine wpAnyH_ready (rs := [32]) (by kernel_rfl) (by simp) ?_
                                  refine AllReadyH.cons rfl (fun K hK => ?_) ?_
                                  · go_simp; refine (keyCall _ _).mono ?_; rintro e w32 ⟨rfl, h32⟩; have k32 : Below wq.heap.size wq w32 := Below.trans hHeld (h32.mono (Below.size hHeld)); try (go_wp2_with fail)
                                    refine hK.out _ _ ?_ (fun hHeld => ?_)
                                    · exact k32
                                    clear hK K
                                    simp only [Act.put, List.getElem_toArray, List.getElem_cons_succ, List.getElem_cons_zero, List.setIfInBounds_toArray, List.set_cons_zero, List.set_cons_succ]
                                    refine wpAnyH_ready (rs := [33, 34]) (by kernel_rfl) (by simp) ?_
                                    refine AllReadyH.cons rfl (fun K hK => ?_) ?_
                                    · go_simp
                                      refine hK.out _ _ ?_ (fun hHeld => ?_)
                                      · exact Below.alloc hHeld (Below.size hHeld) _
                                      clear hK K
                                      simp only [Act.put, List.getElem_toArray, List.getElem_cons_succ, List.getElem_cons_zero, List.setIfInBounds_toArray, List.set_cons_zero, List.set_cons_succ]
                                      refine wpAnyH_ready (rs := [34]) (by kernel_rfl) (by simp) ?_
                                      refine AllReadyH.cons rfl (fun K hK => ?_) ?_
                                      · go_simp; refine (keyCall _ _).mono ?_; rintro e w34 ⟨rfl, h34⟩; have k34 : Below wq.heap.size wq w34 := Below.trans hHeld (h34.mono (Below.size hHeld)); try (go_wp2_with fail)
                                        refine hK.out _ _ ?_ (fun hHeld => ?_)
                                        · exact k34
                                        clear hK K
                                        simp only [Act.put, List.getElem_toArray, List.getElem_cons_succ, List.getElem_cons_zero, List.setIfInBounds_toArray, List.set_cons_zero, List.set_cons_succ]
                                        refine wpAnyH_ready (rs := [35]) (by kernel_rfl) (by simp) ?_
                                        refine AllReadyH.cons rfl (fun K hK => ?_) ?_
                                        · go_simp; refine (HK3.out _ _ _ _ hHeld (((s60.grow h32).alloc _).grow h34) ((h34.block _ (by simp)).trans (heap_alloc_new _ _))).mono ?_; rintro e w35 ⟨rfl, k35⟩; try (go_wp2_with fail)
                                          refine hK.out _ _ ?_ (fun hHeld => ?_)
                                          · exact k35
                                          clear hK K
                                          simp only [Act.put, List.getElem_toArray, List.getElem_cons_succ, List.getElem_cons_zero, List.setIfInBounds_toArray, List.set_cons_zero, List.set_cons_succ]
                                          refine wpAnyH_take (i := 36) (v := ?_) rfl (by kernel_rfl) (by kernel_rfl) (by kernel_rfl) (fun _ _ _ h => h) (Or.inl ⟨by rfl, ?_⟩) (by assumption) ?_
                                          rotate_left
                                          · intro V hSw
                                            go_simp
                                            all_goals (with_reducible rfl)
                                          simp only [Act.put, List.getElem_toArray, List.getElem_cons_succ, List.getElem_cons_zero, List.setIfInBounds_toArray, List.set_cons_zero, List.set_cons_succ]
                                          refine wpAnyH_take (i := 37) (v := ?_) rfl (by kernel_rfl) (by kernel_rfl) (by kernel_rfl) (fun _ _ _ h => h) (Or.inl ⟨by rfl, ?_⟩) (by assumption) ?_
                                          rotate_left
                                          · intro V hSw
                                            go_simp
                                            all_goals (with_reducible rfl)
                                          simp only [Act.put, List.getElem_toArray, List.getElem_cons_succ, List.getElem_cons_zero, List.setIfInBounds_toArray, List.set_cons_zero, List.set_cons_succ]
                                          refine wpAnyH_take (i := 38) (v := ?_) rfl (by kernel_rfl) (by kernel_rfl) (by kernel_rfl) (fun _ _ _ h => h) (Or.inl ⟨by rfl, ?_⟩) (by assumption) ?_
                                          rotate_left
                                          · intro V hSw
                                            go_simp
                                            all_goals (with_reducible rfl)
                                          simp only [Act.put, List.getElem_toArray, List.getElem_cons_succ, List.getElem_cons_zero, List.setIfInBounds_toArray, List.set_cons_zero, List.set_cons_succ]
                                          refine wpAnyH_ready (rs := [39]) (by kernel_rfl) (by simp) ?_
                                          refine AllReadyH.cons rfl (fun K hK => ?_) ?_
                                          · go_simp; refine (HTX.out _ hHeld).mono ?_; rintro e w39 ⟨rfl, k39⟩; try (go_wp2_with fail)
                                            refine hK.out _ _ ?_ (fun hHeld => ?_)
                                            · exact k39
                                            clear hK K
                                            simp only [Act.put, List.getElem_toArray, List.getElem_cons_succ, List.getElem_cons_zero, List.setIfInBounds_toArray, List.set_cons_zero, List.set_cons_succ]
                                            refine wpAnyH_take (i := 40) (v := ?_) rfl (by kernel_rfl) (by kernel_rfl) (by kernel_rfl) (fun _ _ _ h => h) (Or.inl ⟨by rfl, ?_⟩) (by assumption) ?_
                                            rotate_left
                                            · intro V hSw
                                              go_simp
                                              all_goals (with_reducible rfl)
                                            simp only [Act.put, List.getElem_toArray, List.getElem_cons_succ, List.getElem_cons_zero, List.setIfInBounds_toArray, List.set_cons_zero, List.set_cons_succ]
                                            refine wpAnyH_take (i := 41) (v := ?_) rfl (by kernel_rfl) (by kernel_rfl) (by kernel_rfl) (fun _ _ _ h => h) (Or.inl ⟨by rfl, ?_⟩) (by assumption) ?_
                                            rotate_left
                                            · intro V hSw
                                              go_simp
                                              all_goals (with_reducible rfl)
                                            simp only [Act.put, List.getElem_toArray, List.getElem_cons_succ, List.getElem_cons_zero, List.setIfInBounds_toArray, List.set_cons_zero, List.set_cons_succ]
                                            refine wpAnyH_take (i := 42) (v := ?_) rfl (by kernel_rfl) (by kernel_rfl) (by kernel_rfl) (fun _ _ _ h => h) (Or.inl ⟨by rfl, ?_⟩) (by assumption) ?_
                                            rotate_left
                                            · intro V hSw
                                              go_simp
                                              all_goals (with_reducible rfl)
                                            simp only [Act.put, List.getElem_toArray, List.getElem_cons_succ, List.getElem_cons_zero, List.setIfInBounds_toArray, List.set_cons_zero, List.set_cons_succ]
                                            refine wpAnyH_take (i := 43) (v := ?_) rfl (by kernel_rfl) (by kernel_rfl) (by kernel_rfl) (fun _ _ _ h => h) (Or.inl ⟨by rfl, ?_⟩) (by assumption) ?_
                                            rotate_left
                                            · intro V hSw
                                              go_simp
                                              all_goals (with_reducible rfl)
                                            simp only [Act.put, List.getElem_toArray, List.getElem_cons_succ, List.getElem_cons_zero, List.setIfInBounds_toArray, List.set_cons_zero, List.set_cons_succ]
                                            refine wpAnyH_ready (rs := [44]) (by kernel_rfl) (by simp) ?_
                                            refine AllReadyH.cons rfl (fun K hK => ?_) ?_
                                            · go_simp; refine (HSZ.out _ hHeld).mono ?_; rintro e w44 ⟨rfl, k44⟩; try (go_wp2_with fail)
                                              refine hK.out _ _ ?_ (fun hHeld => ?_)
                                              · exact k44
                                              clear hK K
                                              simp only [Act.put, List.getElem_toArray, List.getElem_cons_succ, List.getElem_cons_zero, List.setIfInBounds_toArray, List.set_cons_zero, List.set_cons_succ]
                                              refine wpAnyH_take (i := 45) (v := ?_) rfl (by kernel_rfl) (by kernel_rfl) (by kernel_rfl) (fun _ _ _ h => h) (Or.inl ⟨by rfl, ?_⟩) (by assumption) ?_
                                              rotate_left
                                              · intro V hSw
                                                go_simp
                                                all_goals (with_reducible rfl)
                                              simp only [Act.put, List.getElem_toArray, List.getElem_cons_succ, List.getElem_cons_zero, List.setIfInBounds_toArray, List.set_cons_zero, List.set_cons_succ]
                                              refine wpAnyH_take (i := 46) (v := ?_) rfl (by kernel_rfl) (by kernel_rfl) (by kernel_rfl) (fun _ _ _ h => h) (Or.inl ⟨by rfl, ?_⟩) (by assumption) ?_
                                              rotate_left
                                              · intro V hSw
                                                go_simp
                                                all_goals (with_reducible rfl)
                                              simp only [Act.put, List.getElem_toArray, List.getElem_cons_succ, List.getElem_cons_zero, List.setIfInBounds_toArray, List.set_cons_zero, List.set_cons_succ]
                                              refine wpAnyH_take (i := 47) (v := ?_) rfl (by kernel_rfl) (by kernel_rfl) (by kernel_rfl) (fun _ _ _ h => h) (Or.inl ⟨by rfl, ?_⟩) (by assumption) ?_
                                              rotate_left
                                              · intro V hSw
                                                go_simp
                                                all_goals (with_reducible rfl)
                                              simp only [Act.put, List.getElem_toArray, List.getElem_cons_succ, List.getElem_cons_zero, List.setIfInBounds_toArray, List.set_cons_zero, List.set_cons_succ]
                                              refine wpAnyH_take (i := 48) (v := ?_) rfl (by kernel_rfl) (by kernel_rfl) (by kernel_rfl) (fun _ _ _ h => h) (Or.inl ⟨by rfl, ?_⟩) (by assumption) ?_
                                              rotate_left
                                              · intro V hSw
                                                go_simp
                                                all_goals (with_reducible rfl)
                                              simp only [Act.put, List.getElem_toArray, List.getElem_cons_succ, List.getElem_cons_zero, List.setIfInBounds_toArray, List.set_cons_zero, List.set_cons_succ]
                                              refine wpAnyH_ready (rs := [49]) (by kernel_rfl) (by simp) ?_
                                              refine AllReadyH.cons rfl (fun K hK => ?_) ?_
                                              · go_simp; refine (HVA.out _ hHeld).mono ?_; rintro e w49 ⟨rfl, k49⟩; try (go_wp2_with fail)
                                                refine hK.out _ _ ?_ (fun hHeld => ?_)
                                                · exact k49
                                                clear hK K
                                                simp only [Act.put, List.getElem_toArray, List.getElem_cons_succ, List.getElem_cons_zero, List.setIfInBounds_toArray, List.set_cons_zero, List.set_cons_succ]
                                                refine wpAnyH_take (i := 50) (v := ?_) rfl (by kernel_rfl) (by kernel_rfl) (by kernel_rfl) (fun _ _ _ h => h) (Or.inl ⟨by rfl, ?_⟩) (by assumption) ?_
                                                rotate_left
                                                · intro V hSw
                                                  go_simp
                                                  all_goals (with_reducible rfl)
                                                simp only [Act.put, List.getElem_toArray, List.getElem_cons_succ, List.getElem_cons_zero, List.setIfInBounds_toArray, List.set_cons_zero, List.set_cons_succ]
                                                refine wpAnyH_take (i := 51) (v := ?_) rfl (by kernel_rfl) (by kernel_rfl) (by kernel_rfl) (fun _ _ _ h => h) (Or.inl ⟨by rfl, ?_⟩) (by assumption) ?_
                                                rotate_left
                                                · intro V hSw
                                                  go_simp
                                                  all_goals (with_reducible rfl)
                                                simp only [Act.put, List.getElem_toArray, List.getElem_cons_succ, List.getElem_cons_zero, List.setIfInBounds_toArray, List.set_cons_zero, List.set_cons_succ]
                                                refine wpAnyH_take (i := 52) (v := ?_) rfl (by kernel_rfl) (by kernel_rfl) (by kernel_rfl) (fun _ _ _ h => h) (Or.inl ⟨by rfl, ?_⟩) (by assumption) ?_
                                                rotate_left
                                                · intro V hSw
                                                  go_simp
                                                  all_goals (with_reducible rfl)
                                                simp only [Act.put, List.getElem_toArray, List.getElem_cons_succ, List.getElem_cons_zero, List.setIfInBounds_toArray, List.set_cons_zero, List.set_cons_succ]
                                                refine wpAnyH_ready (rs := [53]) (by kernel_rfl) (by simp) ?_
                                                refine AllReadyH.cons rfl (fun K hK => ?_) ?_
                                                · go_simp; refine (HI3.out _ hHeld).mono ?_; rintro e w53 ⟨rfl, k53⟩; try (go_wp2_with fail)
                                                  refine hK.out _ _ ?_ (fun hHeld => ?_)
                                                  · exact k53
                                                  clear hK K
                                                  simp only [Act.put, List.getElem_toArray, List.getElem_cons_succ, List.getElem_cons_zero, List.setIfInBounds_toArray, List.set_cons_zero, List.set_cons_succ]
                                                  refine wpAnyH_take (i := 54) (v := ?_) rfl (by kernel_rfl) (by kernel_rfl) (by kernel_rfl) (fun _ _ _ h => h) (Or.inl ⟨by rfl, ?_⟩) (by assumption) ?_
                                                  rotate_left
                                                  · intro V hSw
                                                    go_simp
                                                    all_goals (with_reducible rfl)
                                                  simp only [Act.put, List.getElem_toArray, List.getElem_cons_succ, List.getElem_cons_zero, List.setIfInBounds_toArray, List.set_cons_zero, List.set_cons_succ]
                                                  refine wpAnyH_take (i := 55) (v := ?_) rfl (by kernel_rfl) (by kernel_rfl) (by kernel_rfl) (fun _ _ _ h => h) (Or.inl ⟨by rfl, ?_⟩) (by assumption) ?_
                                                  rotate_left
                                                  · intro V hSw
                                                    go_simp
                                                    all_goals (with_reducible rfl)
                                                  simp only [Act.put, List.getElem_toArray, List.getElem_cons_succ, List.getElem_cons_zero, List.setIfInBounds_toArray, List.set_cons_zero, List.set_cons_succ]
                                                  refine wpAnyH_take (i := 56) (v := ?_) rfl (by kernel_rfl) (by kernel_rfl) (by kernel_rfl) (fun _ _ _ h => h) (Or.inl ⟨by rfl, ?_⟩) (by assumption) ?_
                                                  rotate_left
                                                  · intro V hSw
                                                    go_simp
                                                    all_goals (with_reducible rfl)
                                                  simp only [Act.put, List.getElem_toArray, List.getElem_cons_succ, List.getElem_cons_zero, List.setIfInBounds_toArray, List.set_cons_zero, List.set_cons_succ]
                                                  refine wpAnyH_ready (rs := [57]) (by kernel_rfl) (by simp) ?_
                                                  refine AllReadyH.cons rfl (fun K hK => ?_) ?_
                                                  · go_simp; refine (HI4.out _ hHeld).mono ?_; rintro e w57 ⟨rfl, k57⟩; try (go_wp2_with fail)
                                                    refine hK.out _ _ ?_ (fun hHeld => ?_)
                                                    · exact k57
                                                    clear hK K
                                                    simp only [Act.put, List.getElem_toArray, List.getElem_cons_succ, List.getElem_cons_zero, List.setIfInBounds_toArray, List.set_cons_zero, List.set_cons_succ]
                                                    refine wpAnyH_take (i := 58) (v := ?_) rfl (by kernel_rfl) (by kernel_rfl) (by kernel_rfl) (fun _ _ _ h => h) (Or.inl ⟨by rfl, ?_⟩) (by assumption) ?_
                                                    rotate_left
                                                    · intro V hSw
                                                      go_simp
                                                      all_goals (with_reducible rfl)
                                                    simp only [Act.put, List.getElem_toArray, List.getElem_cons_succ, List.getElem_cons_zero, List.setIfInBounds_toArray, List.set_cons_zero, List.set_cons_succ]
                                                    refine wpAnyH_take (i := 59) (v := ?_) rfl (by kernel_rfl) (by kernel_rfl) (by kernel_rfl) (fun _ _ _ h => h) (Or.inl ⟨by rfl, ?_⟩) (by assumption) ?_
                                                    rotate_left
                                                    · intro V hSw
                                                      go_simp
                                                      all_goals (with_reducible rfl)
                                                    simp only [Act.put, List.getElem_toArray, List.getElem_cons_succ, List.getElem_cons_zero, List.setIfInBounds_toArray, List.set_cons_zero, List.set_cons_succ]
                                                    refine wpAnyH_take (i := 60) (v := ?_) rfl (by kernel_rfl) (by kernel_rfl) (by kernel_rfl) (fun _ _ _ h => h) (Or.inl ⟨by rfl, ?_⟩) (by assumption) ?_
                                                    rotate_left
                                                    · intro V hSw
                                                      go_simp
                                                      all_goals (with_reducible rfl)
                                                    simp only [Act.put, List.getElem_toArray, List.getElem_cons_succ, List.getElem_cons_zero, List.setIfInBounds_toArray, List.set_cons_zero, List.set_cons_succ]
                                                    refine wpAnyH_take (i := 61) (v := ?_) rfl (by kernel_rfl) (by kernel_rfl) (by kernel_rfl) (fun _ _ _ h => h) (Or.inl ⟨by rfl, ?_⟩) (by assumption) ?_
                                                    rotate_left
                                                    · intro V hSw
                                                      go_simp
                                                      all_goals (with_reducible rfl)
                                                    simp only [Act.put, List.getElem_toArray, List.getElem_cons_succ, List.getElem_cons_zero, List.setIfInBounds_toArray, List.set_cons_zero, List.set_cons_succ]
                                                    refine wpAnyH_take (i := 62) (v := ?_) rfl (by kernel_rfl) (by kernel_rfl) (by kernel_rfl) (fun _ _ _ h => h) (Or.inl ⟨by rfl, ?_⟩) (by assumption) ?_
                                                    rotate_left
                                                    · intro V hSw
                                                      go_simp
                                                      all_goals (with_reducible rfl)
                                                    simp only [Act.put, List.getElem_toArray, List.getElem_cons_succ, List.getElem_cons_zero, List.setIfInBounds_toArray, List.set_cons_zero, List.set_cons_succ]
                                                    refine wpAnyH_ready (rs := [63]) (by kernel_rfl) (by simp) ?_
                                                    refine AllReadyH.cons rfl (fun K hK => ?_) ?_
                                                    · go_simp; refine (HCM.out _ hHeld).mono ?_; rintro e w63 ⟨rfl, k63⟩; try (go_wp2_with fail)
                                                      refine hK.out _ _ ?_ (fun hHeld => ?_)
                                                      · exact k63
                                                      clear hK K
                                                      simp only [Act.put, List.getElem_toArray, List.getElem_cons_succ, List.getElem_cons_zero, List.setIfInBounds_toArray, List.set_cons_zero, List.set_cons_succ]
                                                      refine wpAnyH_take (i := 64) (v := ?_) rfl (by kernel_rfl) (by kernel_rfl) (by kernel_rfl) (fun _ _ _ h => h) (Or.inl ⟨by rfl, ?_⟩) (by assumption) ?_
                                                      rotate_left
                                                      · intro V hSw
                                                        go_simp
                                                        all_goals (with_reducible rfl)
                                                      simp only [Act.put, List.getElem_toArray, List.getElem_cons_succ, List.getElem_cons_zero, List.setIfInBounds_toArray, List.set_cons_zero, List.set_cons_succ]
                                                      refine wpAnyH_take (i := 65) (v := ?_) rfl (by kernel_rfl) (by kernel_rfl) (by kernel_rfl) (fun _ _ _ h => h) (Or.inl ⟨by rfl, ?_⟩) (by assumption) ?_
                                                      rotate_left
                                                      · intro V hSw
                                                        go_simp
                                                        all_goals (with_reducible rfl)
                                                      simp only [Act.put, List.getElem_toArray, List.getElem_cons_succ, List.getElem_cons_zero, List.setIfInBounds_toArray, List.set_cons_zero, List.set_cons_succ]
                                                      refine wpAnyH_take (i := 66) (v := ?_) rfl (by kernel_rfl) (by kernel_rfl) (by kernel_rfl) (fun _ _ _ h => h) (Or.inl ⟨by rfl, ?_⟩) (by assumption) ?_
                                                      rotate_left
                                                      · intro V hSw
                                                        go_simp
                                                        all_goals (with_reducible rfl)
                                                      simp only [Act.put, List.getElem_toArray, List.getElem_cons_succ, List.getElem_cons_zero, List.setIfInBounds_toArray, List.set_cons_zero, List.set_cons_succ]
                                                      refine wpAnyH_take (i := 67) (v := ?_) rfl (by kernel_rfl) (by kernel_rfl) (by kernel_rfl) (fun _ _ _ h => h) (Or.inl ⟨by rfl, ?_⟩) (by assumption) ?_
                                                      rotate_left
                                                      · intro V hSw
                                                        go_simp
                                                        all_goals (with_reducible rfl)
                                                      simp only [Act.put, List.getElem_toArray, List.getElem_cons_succ, List.getElem_cons_zero, List.setIfInBounds_toArray, List.set_cons_zero, List.set_cons_succ]
                                                      refine wpAnyH_ready (rs := [68]) (by kernel_rfl) (by simp) ?_
                                                      refine AllReadyH.cons rfl (fun K hK => ?_) ?_
                                                      · go_simp; refine (HSU.out _ hHeld).mono ?_; rintro e w68 ⟨AS, cS, rfl, k68⟩; try (go_wp2_with fail)
                                                        refine hK.out _ _ ?_ (fun hHeld => ?_)
                                                        · exact k68
                                                        clear hK K
                                                        simp only [Act.put, List.getElem_toArray, List.getElem_cons_succ, List.getElem_cons_zero, List.setIfInBounds_toArray, List.set_cons_zero, List.set_cons_succ]
                                                        refine wpAnyH_take (i := 69) (v := ?_) rfl (by kernel_rfl) (by kernel_rfl) (by kernel_rfl) (fun _ _ _ h => h) (Or.inl ⟨by rfl, ?_⟩) (by assumption) ?_
                                                        rotate_left
                                                        · intro V hSw
                                                          go_simp
                                                          all_goals (with_reducible rfl)
                                                        simp only [Act.put, List.getElem_toArray, List.getElem_cons_succ, List.getElem_cons_zero, List.setIfInBounds_toArray, List.set_cons_zero, List.set_cons_succ]
                                                        refine wpAnyH_take (i := 70) (v := ?_) rfl (by kernel_rfl) (by kernel_rfl) (by kernel_rfl) (fun _ _ _ h => h) (Or.inl ⟨by rfl, ?_⟩) (by assumption) ?_
                                                        rotate_left
                                                        · intro V hSw
                                                          go_simp
                                                          all_goals (with_reducible rfl)
                                                        simp only [Act.put, List.getElem_toArray, List.getElem_cons_succ, List.getElem_cons_zero, List.setIfInBounds_toArray, List.set_cons_zero, List.set_cons_succ]
                                                        refine wpAnyH_take (i := 71) (v := ?_) rfl (by kernel_rfl) (by kernel_rfl) (by kernel_rfl) (fun _ _ _ h => h) (Or.inl ⟨by rfl, ?_⟩) (by assumption) ?_
                                                        rotate_left
                                                        · intro V hSw
                                                          go_simp
                                                          all_goals (with_reducible rfl)
                                                        simp only [Act.put, List.getElem_toArray, List.getElem_cons_succ, List.getElem_cons_zero, List.setIfInBounds_toArray, List.set_cons_zero, List.set_cons_succ]
                                                        refine wpAnyH_take (i := 72) (v := ?_) rfl (by kernel_rfl) (by kernel_rfl) (by kernel_rfl) (fun _ _ _ h => h) (Or.inl ⟨by rfl, ?_⟩) (by assumption) ?_
                                                        rotate_left
                                                        · intro V hSw
                                                          go_simp
                                                          all_goals (with_reducible rfl)
                                                        simp only [Act.put, List.getElem_toArray, List.getElem_cons_succ, List.getElem_cons_zero, List.setIfInBounds_toArray, List.set_cons_zero, List.set_cons_succ]
                                                        refine wpAnyH_done (by kernel_rfl) ?_ _
                                                        go_wp2
                                                        go_ret
                                                        exact ⟨rfl, BQ.out.trans (Below.mono hHeld BQ.out.size)⟩
                                                      exact AllReadyH.nil
                                                    exact AllReadyH.nil
                                                  exact AllReadyH.nil
                                                exact AllReadyH.nil
                                              exact AllReadyH.nil
                                            exact AllReadyH.nil
                                          exact AllReadyH.nil
                                        exact AllReadyH.nil
                                      exact AllReadyH.nil
                                    refine AllReadyH.cons rfl (fun K hK => ?_) ?_
                                    · go_simp; refine (keyCall _ _).mono ?_; rintro e w34 ⟨rfl, h34⟩; have k34 : Below wq.heap.size wq w34 := Below.trans hHeld (h34.mono (Below.size hHeld)); try (go_wp2_with fail)
                                      refine hK.out _ _ ?_ (fun hHeld => ?_)
                                      · exact k34
                                      clear hK K
                                      simp only [Act.put, List.getElem_toArray, List.getElem_cons_succ, List.getElem_cons_zero, List.setIfInBounds_toArray, List.set_cons_zero, List.set_cons_succ]
                                      refine wpAnyH_ready (rs := [33]) (by kernel_rfl) (by simp) ?_
                                      refine AllReadyH.cons rfl (fun K hK => ?_) ?_
                                      · go_simp
                                        refine hK.out _ _ ?_ (fun hHeld => ?_)
                                        · exact Below.alloc hHeld (Below.size hHeld) _
                                        clear hK K
                                        simp only [Act.put, List.getElem_toArray, List.getElem_cons_succ, List.getElem_cons_zero, List.setIfInBounds_toArray, List.set_cons_zero, List.set_cons_succ]
                                        refine wpAnyH_ready (rs := [35]) (by kernel_rfl) (by simp) ?_
                                        refine AllReadyH.cons rfl (fun K hK => ?_) ?_
                                        · go_simp; refine (HK3.out _ _ _ _ hHeld (((s60.grow h32).grow h34).alloc _) (heap_alloc_new _ _)).mono ?_; rintro e w35 ⟨rfl, k35⟩; try (go_wp2_with fail)
                                          refine hK.out _ _ ?_ (fun hHeld => ?_)
                                          · exact k35
                                          clear hK K
                                          simp only [Act.put, List.getElem_toArray, List.getElem_cons_succ, List.getElem_cons_zero, List.setIfInBounds_toArray, List.set_cons_zero, List.set_cons_succ]
                                          refine wpAnyH_take (i := 36) (v := ?_) rfl (by kernel_rfl) (by kernel_rfl) (by kernel_rfl) (fun _ _ _ h => h) (Or.inl ⟨by rfl, ?_⟩) (by assumption) ?_
                                          rotate_left
                                          · intro V hSw
                                            go_simp
                                            all_goals (with_reducible rfl)
                                          simp only [Act.put, List.getElem_toArray, List.getElem_cons_succ, List.getElem_cons_zero, List.setIfInBounds_toArray, List.set_cons_zero, List.set_cons_succ]
                                          refine wpAnyH_take (i := 37) (v := ?_) rfl (by kernel_rfl) (by kernel_rfl) (by kernel_rfl) (fun _ _ _ h => h) (Or.inl ⟨by rfl, ?_⟩) (by assumption) ?_
                                          rotate_left
                                          · intro V hSw
                                            go_simp
                                            all_goals (with_reducible rfl)
                                          simp only [Act.put, List.getElem_toArray, List.getElem_cons_succ, List.getElem_cons_zero, List.setIfInBounds_toArray, List.set_cons_zero, List.set_cons_succ]
                                          refine wpAnyH_take (i := 38) (v := ?_) rfl (by kernel_rfl) (by kernel_rfl) (by kernel_rfl) (fun _ _ _ h => h) (Or.inl ⟨by rfl, ?_⟩) (by assumption) ?_
                                          rotate_left
                                          · intro V hSw
                                            go_simp
                                            all_goals (with_reducible rfl)
                                          simp only [Act.put, List.getElem_toArray, List.getElem_cons_succ, List.getElem_cons_zero, List.setIfInBounds_toArray, List.set_cons_zero, List.set_cons_succ]
                                          refine wpAnyH_ready (rs := [39]) (by kernel_rfl) (by simp) ?_
                                          refine AllReadyH.cons rfl (fun K hK => ?_) ?_
                                          · go_simp; refine (HTX.out _ hHeld).mono ?_; rintro e w39 ⟨rfl, k39⟩; try (go_wp2_with fail)
                                            refine hK.out _ _ ?_ (fun hHeld => ?_)
                                            · exact k39
                                            clear hK K
                                            simp only [Act.put, List.getElem_toArray, List.getElem_cons_succ, List.getElem_cons_zero, List.setIfInBounds_toArray, List.set_cons_zero, List.set_cons_succ]
                                            refine wpAnyH_take (i := 40) (v := ?_) rfl (by kernel_rfl) (by kernel_rfl) (by kernel_rfl) (fun _ _ _ h => h) (Or.inl ⟨by rfl, ?_⟩) (by assumption) ?_
                                            rotate_left
                                            · intro V hSw
                                              go_simp
                                              all_goals (with_reducible rfl)
                                            simp only [Act.put, List.getElem_toArray, List.getElem_cons_succ, List.getElem_cons_zero, List.setIfInBounds_toArray, List.set_cons_zero, List.set_cons_succ]
                                            refine wpAnyH_take (i := 41) (v := ?_) rfl (by kernel_rfl) (by kernel_rfl) (by kernel_rfl) (fun _ _ _ h => h) (Or.inl ⟨by rfl, ?_⟩) (by assumption) ?_
                                            rotate_left
                                            · intro V hSw
                                              go_simp
                                              all_goals (with_reducible rfl)
                                            simp only [Act.put, List.getElem_toArray, List.getElem_cons_succ, List.getElem_cons_zero, List.setIfInBounds_toArray, List.set_cons_zero, List.set_cons_succ]
                                            refine wpAnyH_take (i := 42) (v := ?_) rfl (by kernel_rfl) (by kernel_rfl) (by kernel_rfl) (fun _ _ _ h => h) (Or.inl ⟨by rfl, ?_⟩) (by assumption) ?_
                                            rotate_left
                                            · intro V hSw
                                              go_simp
                                              all_goals (with_reducible rfl)
                                            simp only [Act.put, List.getElem_toArray, List.getElem_cons_succ, List.getElem_cons_zero, List.setIfInBounds_toArray, List.set_cons_zero, List.set_cons_succ]
                                            refine wpAnyH_take (i := 43) (v := ?_) rfl (by kernel_rfl) (by kernel_rfl) (by kernel_rfl) (fun _ _ _ h => h) (Or.inl ⟨by rfl, ?_⟩) (by assumption) ?_
                                            rotate_left
                                            · intro V hSw
                                              go_simp
                                              all_goals (with_reducible rfl)
                                            simp only [Act.put, List.getElem_toArray, List.getElem_cons_succ, List.getElem_cons_zero, List.setIfInBounds_toArray, List.set_cons_zero, List.set_cons_succ]
                                            refine wpAnyH_ready (rs := [44]) (by kernel_rfl) (by simp) ?_
                                            refine AllReadyH.cons rfl (fun K hK => ?_) ?_
                                            · go_simp; refine (HSZ.out _ hHeld).mono ?_; rintro e w44 ⟨rfl, k44⟩; try (go_wp2_with fail)
                                              refine hK.out _ _ ?_ (fun hHeld => ?_)
                                              · exact k44
                                              clear hK K
                                              simp only [Act.put, List.getElem_toArray, List.getElem_cons_succ, List.getElem_cons_zero, List.setIfInBounds_toArray, List.set_cons_zero, List.set_cons_succ]
                                              refine wpAnyH_take (i := 45) (v := ?_) rfl (by kernel_rfl) (by kernel_rfl) (by kernel_rfl) (fun _ _ _ h => h) (Or.inl ⟨by rfl, ?_⟩) (by assumption) ?_
                                              rotate_left
                                              · intro V hSw
                                                go_simp
                                                all_goals (with_reducible rfl)
                                              simp only [Act.put, List.getElem_toArray, List.getElem_cons_succ, List.getElem_cons_zero, List.setIfInBounds_toArray, List.set_cons_zero, List.set_cons_succ]
                                              refine wpAnyH_take (i := 46) (v := ?_) rfl (by kernel_rfl) (by kernel_rfl) (by kernel_rfl) (fun _ _ _ h => h) (Or.inl ⟨by rfl, ?_⟩) (by assumption) ?_
                                              rotate_left
                                              · intro V hSw
                                                go_simp
                                                all_goals (with_reducible rfl)
                                              simp only [Act.put, List.getElem_toArray, List.getElem_cons_succ, List.getElem_cons_zero, List.setIfInBounds_toArray, List.set_cons_zero, List.set_cons_succ]
                                              refine wpAnyH_take (i := 47) (v := ?_) rfl (by kernel_rfl) (by kernel_rfl) (by kernel_rfl) (fun _ _ _ h => h) (Or.inl ⟨by rfl, ?_⟩) (by assumption) ?_
                                              rotate_left
                                              · intro V hSw
                                                go_simp
                                                all_goals (with_reducible rfl)
                                              simp only [Act.put, List.getElem_toArray, List.getElem_cons_succ, List.getElem_cons_zero, List.setIfInBounds_toArray, List.set_cons_zero, List.set_cons_succ]
                                              refine wpAnyH_take (i := 48) (v := ?_) rfl (by kernel_rfl) (by kernel_rfl) (by kernel_rfl) (fun _ _ _ h => h) (Or.inl ⟨by rfl, ?_⟩) (by assumption) ?_
                                              rotate_left
                                              · intro V hSw
                                                go_simp
                                                all_goals (with_reducible rfl)
                                              simp only [Act.put, List.getElem_toArray, List.getElem_cons_succ, List.getElem_cons_zero, List.setIfInBounds_toArray, List.set_cons_zero, List.set_cons_succ]
                                              refine wpAnyH_ready (rs := [49]) (by kernel_rfl) (by simp) ?_
                                              refine AllReadyH.cons rfl (fun K hK => ?_) ?_
                                              · go_simp; refine (HVA.out _ hHeld).mono ?_; rintro e w49 ⟨rfl, k49⟩; try (go_wp2_with fail)
                                                refine hK.out _ _ ?_ (fun hHeld => ?_)
                                                · exact k49
                                                clear hK K
                                                simp only [Act.put, List.getElem_toArray, List.getElem_cons_succ, List.getElem_cons_zero, List.setIfInBounds_toArray, List.set_cons_zero, List.set_cons_succ]
                                                refine wpAnyH_take (i := 50) (v := ?_) rfl (by kernel_rfl) (by kernel_rfl) (by kernel_rfl) (fun _ _ _ h => h) (Or.inl ⟨by rfl, ?_⟩) (by assumption) ?_
                                                rotate_left
                                                · intro V hSw
                                                  go_simp
                                                  all_goals (with_reducible rfl)
                                                simp only [Act.put, List.getElem_toArray, List.getElem_cons_succ, List.getElem_cons_zero, List.setIfInBounds_toArray, List.set_cons_zero, List.set_cons_succ]
                                                refine wpAnyH_take (i := 51) (v := ?_) rfl (by kernel_rfl) (by kernel_rfl) (by kernel_rfl) (fun _ _ _ h => h) (Or.inl ⟨by rfl, ?_⟩) (by assumption) ?_
                                                rotate_left
                                                · intro V hSw
                                                  go_simp
                                                  all_goals (with_reducible rfl)
                                                simp only [Act.put, List.getElem_toArray, List.getElem_cons_succ, List.getElem_cons_zero, List.setIfInBounds_toArray, List.set_cons_zero, List.set_cons_succ]
                                                refine wpAnyH_take (i := 52) (v := ?_) rfl (by kernel_rfl) (by kernel_rfl) (by kernel_rfl) (fun _ _ _ h => h) (Or.inl ⟨by rfl, ?_⟩) (by assumption) ?_
                                                rotate_left
                                                · intro V hSw
                                                  go_simp
                                                  all_goals (with_reducible rfl)
                                                simp only [Act.put, List.getElem_toArray, List.getElem_cons_succ, List.getElem_cons_zero, List.setIfInBounds_toArray, List.set_cons_zero, List.set_cons_succ]
                                                refine wpAnyH_ready (rs := [53]) (by kernel_rfl) (by simp) ?_
                                                refine AllReadyH.cons rfl (fun K hK => ?_) ?_
                                                · go_simp; refine (HI3.out _ hHeld).mono ?_; rintro e w53 ⟨rfl, k53⟩; try (go_wp2_with fail)
                                                  refine hK.out _ _ ?_ (fun hHeld => ?_)
                                                  · exact k53
                                                  clear hK K
                                                  simp only [Act.put, List.getElem_toArray, List.getElem_cons_succ, List.getElem_cons_zero, List.setIfInBounds_toArray, List.set_cons_zero, List.set_cons_succ]
                                                  refine wpAnyH_take (i := 54) (v := ?_) rfl (by kernel_rfl) (by kernel_rfl) (by kernel_rfl) (fun _ _ _ h => h) (Or.inl ⟨by rfl, ?_⟩) (by assumption) ?_
                                                  rotate_left
                                                  · intro V hSw
                                                    go_simp
                                                    all_goals (with_reducible rfl)
                                                  simp only [Act.put, List.getElem_toArray, List.getElem_cons_succ, List.getElem_cons_zero, List.setIfInBounds_toArray, List.set_cons_zero, List.set_cons_succ]
                                                  refine wpAnyH_take (i := 55) (v := ?_) rfl (by kernel_rfl) (by kernel_rfl) (by kernel_rfl) (fun _ _ _ h => h) (Or.inl ⟨by rfl, ?_⟩) (by assumption) ?_
                                                  rotate_left
                                                  · intro V hSw
                                                    go_simp
                                                    all_goals (with_reducible rfl)
                                                  simp only [Act.put, List.getElem_toArray, List.getElem_cons_succ, List.getElem_cons_zero, List.setIfInBounds_toArray, List.set_cons_zero, List.set_cons_succ]
                                                  refine wpAnyH_take (i := 56) (v := ?_) rfl (by kernel_rfl) (by kernel_rfl) (by kernel_rfl) (fun _ _ _ h => h) (Or.inl ⟨by rfl, ?_⟩) (by assumption) ?_
                                                  rotate_left
                                                  · intro V hSw
                                                    go_simp
                                                    all_goals (with_reducible rfl)
                                                  simp only [Act.put, List.getElem_toArray, List.getElem_cons_succ, List.getElem_cons_zero, List.setIfInBounds_toArray, List.set_cons_zero, List.set_cons_succ]
                                                  refine wpAnyH_ready (rs := [57]) (by kernel_rfl) (by simp) ?_
                                                  refine AllReadyH.cons rfl (fun K hK => ?_) ?_
                                                  · go_simp; refine (HI4.out _ hHeld).mono ?_; rintro e w57 ⟨rfl, k57⟩; try (go_wp2_with fail)
                                                    refine hK.out _ _ ?_ (fun hHeld => ?_)
                                                    · exact k57
                                                    clear hK K
                                                    simp only [Act.put, List.getElem_toArray, List.getElem_cons_succ, List.getElem_cons_zero, List.setIfInBounds_toArray, List.set_cons_zero, List.set_cons_succ]
                                                    refine wpAnyH_take (i := 58) (v := ?_) rfl (by kernel_rfl) (by kernel_rfl) (by kernel_rfl) (fun _ _ _ h => h) (Or.inl ⟨by rfl, ?_⟩) (by assumption) ?_
                                                    rotate_left
                                                    · intro V hSw
                                                      go_simp
                                                      all_goals (with_reducible rfl)
                                                    simp only [Act.put, List.getElem_toArray, List.getElem_cons_succ, List.getElem_cons_zero, List.setIfInBounds_toArray, List.set_cons_zero, List.set_cons_succ]
                                                    refine wpAnyH_take (i := 59) (v := ?_) rfl (by kernel_rfl) (by kernel_rfl) (by kernel_rfl) (fun _ _ _ h => h) (Or.inl ⟨by rfl, ?_⟩) (by assumption) ?_
                                                    rotate_left
                                                    · intro V hSw
                                                      go_simp
                                                      all_goals (with_reducible rfl)
                                                    simp only [Act.put, List.getElem_toArray, List.getElem_cons_succ, List.getElem_cons_zero, List.setIfInBounds_toArray, List.set_cons_zero, List.set_cons_succ]
                                                    refine wpAnyH_take (i := 60) (v := ?_) rfl (by kernel_rfl) (by kernel_rfl) (by kernel_rfl) (fun _ _ _ h => h) (Or.inl ⟨by rfl, ?_⟩) (by assumption) ?_
                                                    rotate_left
                                                    · intro V hSw
                                                      go_simp
                                                      all_goals (with_reducible rfl)
                                                    simp only [Act.put, List.getElem_toArray, List.getElem_cons_succ, List.getElem_cons_zero, List.setIfInBounds_toArray, List.set_cons_zero, List.set_cons_succ]
                                                    refine wpAnyH_take (i := 61) (v := ?_) rfl (by kernel_rfl) (by kernel_rfl) (by kernel_rfl) (fun _ _ _ h => h) (Or.inl ⟨by rfl, ?_⟩) (by assumption) ?_
                                                    rotate_left
                                                    · intro V hSw
                                                      go_simp
                                                      all_goals (with_reducible rfl)
                                                    simp only [Act.put, List.getElem_toArray, List.getElem_cons_succ, List.getElem_cons_zero, List.setIfInBounds_toArray, List.set_cons_zero, List.set_cons_succ]
                                                    refine wpAnyH_take (i := 62) (v := ?_) rfl (by kernel_rfl) (by kernel_rfl) (by kernel_rfl) (fun _ _ _ h => h) (Or.inl ⟨by rfl, ?_⟩) (by assumption) ?_
                                                    rotate_left
                                                    · intro V hSw
                                                      go_simp
                                                      all_goals (with_reducible rfl)
                                                    simp only [Act.put, List.getElem_toArray, List.getElem_cons_succ, List.getElem_cons_zero, List.setIfInBounds_toArray, List.set_cons_zero, List.set_cons_succ]
                                                    refine wpAnyH_ready (rs := [63]) (by kernel_rfl) (by simp) ?_
                                                    refine AllReadyH.cons rfl (fun K hK => ?_) ?_
                                                    · go_simp; refine (HCM.out _ hHeld).mono ?_; rintro e w63 ⟨rfl, k63⟩; try (go_wp2_with fail)
                                                      refine hK.out _ _ ?_ (fun hHeld => ?_)
                                                      · exact k63
                                                      clear hK K
                                                      simp only [Act.put, List.getElem_toArray, List.getElem_cons_succ, List.getElem_cons_zero, List.setIfInBounds_toArray, List.set_cons_zero, List.set_cons_succ]
                                                      refine wpAnyH_take (i := 64) (v := ?_) rfl (by kernel_rfl) (by kernel_rfl) (by kernel_rfl) (fun _ _ _ h => h) (Or.inl ⟨by rfl, ?_⟩) (by assumption) ?_
                                                      rotate_left
                                                      · intro V hSw
                                                        go_simp
                                                        all_goals (with_reducible rfl)
                                                      simp only [Act.put, List.getElem_toArray, List.getElem_cons_succ, List.getElem_cons_zero, List.setIfInBounds_toArray, List.set_cons_zero, List.set_cons_succ]
                                                      refine wpAnyH_take (i := 65) (v := ?_) rfl (by kernel_rfl) (by kernel_rfl) (by kernel_rfl) (fun _ _ _ h => h) (Or.inl ⟨by rfl, ?_⟩) (by assumption) ?_
                                                      rotate_left
                                                      · intro V hSw
                                                        go_simp
                                                        all_goals (with_reducible rfl)
                                                      simp only [Act.put, List.getElem_toArray, List.getElem_cons_succ, List.getElem_cons_zero, List.setIfInBounds_toArray, List.set_cons_zero, List.set_cons_succ]
                                                      refine wpAnyH_take (i := 66) (v := ?_) rfl (by kernel_rfl) (by kernel_rfl) (by kernel_rfl) (fun _ _ _ h => h) (Or.inl ⟨by rfl, ?_⟩) (by assumption) ?_
                                                      rotate_left
                                                      · intro V hSw
                                                        go_simp
                                                        all_goals (with_reducible rfl)
                                                      simp only [Act.put, List.getElem_toArray, List.getElem_cons_succ, List.getElem_cons_zero, List.setIfInBounds_toArray, List.set_cons_zero, List.set_cons_succ]
                                                      refine wpAnyH_take (i := 67) (v := ?_) rfl (by kernel_rfl) (by kernel_rfl) (by kernel_rfl) (fun _ _ _ h => h) (Or.inl ⟨by rfl, ?_⟩) (by assumption) ?_
                                                      rotate_left
                                                      · intro V hSw
                                                        go_simp
                                                        all_goals (with_reducible rfl)
                                                      simp only [Act.put, List.getElem_toArray, List.getElem_cons_succ, List.getElem_cons_zero, List.setIfInBounds_toArray, List.set_cons_zero, List.set_cons_succ]
                                                      refine wpAnyH_ready (rs := [68]) (by kernel_rfl) (by simp) ?_
                                                      refine AllReadyH.cons rfl (fun K hK => ?_) ?_
                                                      · go_simp; refine (HSU.out _ hHeld).mono ?_; rintro e w68 ⟨AS, cS, rfl, k68⟩; try (go_wp2_with fail)
                                                        refine hK.out _ _ ?_ (fun hHeld => ?_)
                                                        · exact k68
                                                        clear hK K
                                                        simp only [Act.put, List.getElem_toArray, List.getElem_cons_succ, List.getElem_cons_zero, List.setIfInBounds_toArray, List.set_cons_zero, List.set_cons_succ]
                                                        refine wpAnyH_take (i := 69) (v := ?_) rfl (by kernel_rfl) (by kernel_rfl) (by kernel_rfl) (fun _ _ _ h => h) (Or.inl ⟨by rfl, ?_⟩) (by assumption) ?_
                                                        rotate_left
                                                        · intro V hSw
                                                          go_simp
                                                          all_goals (with_reducible rfl)
                                                        simp only [Act.put, List.getElem_toArray, List.getElem_cons_succ, List.getElem_cons_zero, List.setIfInBounds_toArray, List.set_cons_zero, List.set_cons_succ]
                                                        refine wpAnyH_take (i := 70) (v := ?_) rfl (by kernel_rfl) (by kernel_rfl) (by kernel_rfl) (fun _ _ _ h => h) (Or.inl ⟨by rfl, ?_⟩) (by assumption) ?_
                                                        rotate_left
                                                        · intro V hSw
                                                          go_simp
                                                          all_goals (with_reducible rfl)
                                                        simp only [Act.put, List.getElem_toArray, List.getElem_cons_succ, List.getElem_cons_zero, List.setIfInBounds_toArray, List.set_cons_zero, List.set_cons_succ]
                                                        refine wpAnyH_take (i := 71) (v := ?_) rfl (by kernel_rfl) (by kernel_rfl) (by kernel_rfl) (fun _ _ _ h => h) (Or.inl ⟨by rfl, ?_⟩) (by assumption) ?_
                                                        rotate_left
                                                        · intro V hSw
                                                          go_simp
                                                          all_goals (with_reducible rfl)
                                                        simp only [Act.put, List.getElem_toArray, List.getElem_cons_succ, List.getElem_cons_zero, List.setIfInBounds_toArray, List.set_cons_zero, List.set_cons_succ]
                                                        refine wpAnyH_take (i := 72) (v := ?_) rfl (by kernel_rfl) (by kernel_rfl) (by kernel_rfl) (fun _ _ _ h => h) (Or.inl ⟨by rfl, ?_⟩) (by assumption) ?_
                                                        rotate_left
                                                        · intro V hSw
                                                          go_simp
                                                          all_goals (with_reducible rfl)
                                                        simp only [Act.put, List.getElem_toArray, List.getElem_cons_succ, List.getElem_cons_zero, List.setIfInBounds_toArray, List.set_cons_zero, List.set_cons_succ]
                                                        refine wpAnyH_done (by kernel_rfl) ?_ _
                                                        go_wp2
                                                        go_ret
                                                        exact ⟨rfl, BQ.out.trans (Below.mono hHeld BQ.out.size)⟩
                                                      exact AllReadyH.nil
                                                    exact AllReadyH.nil
                                                  exact AllReadyH.nil
                                                exact AllReadyH.nil
                                              exact AllReadyH.nil
                                            exact AllReadyH.nil
                                          exact AllReadyH.nil
                                        exact AllReadyH.nil
                                      exact AllReadyH.nil
                                    exact AllReadyH.nil
                                  exact AllReadyH.nil
                                exact AllReadyH.nil
                              exact AllReadyH.nil
                            exact AllReadyH.nil
                          exact AllReadyH.nil
                        exact AllReadyH.nil
                      exact AllReadyH.nil
                    exact AllReadyH.nil
                  exact AllReadyH.nil
                exact AllReadyH.nil
              exact AllReadyH.nil
            exact AllReadyH.nil
          exact AllReadyH.nil
        exact AllReadyH.nil
      exact AllReadyH.nil
    exact AllReadyH.nil
  exact AllReadyH.nil
end Go.Proofs.YthfcaiipcdibbaaDoor
