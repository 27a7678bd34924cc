import Derived.Test.YthfcaiipcdibbaaDoorMN
/- closure: what its two loops want. -/
set_option linter.unusedSimpArgs false
set_option linter.unusedVariables false
namespace Go.Proofs.YthfcaiipcdibbaaDoor
open Go.RowKit Tm Go.Shelf Go.MapKept

theorem open_eq (S : List T) (x : T) : openS S x = openT S x := by unfold openS openT; cases x.l <;> rfl
theorem repC_elem {I : Im} : ∀ {L : List T} {xs : List Value} {i : Nat} (hi : i < L.length), RepC I L xs → ∃ A cap, SL I L[i].l A cap ∧ xs[i * 3]? = some (.int .i64 L[i].k) ∧ xs[i * 3 + 1]? = some (.int .i64 L[i].n) ∧ xs[i * 3 + 2]? = some (.slice A L[i].l.length cap)
  | a :: L, _, 0, _, h => by
    obtain ⟨cs, r, rfl, h1, h2⟩ := h
    obtain ⟨A, cap, rfl, h3⟩ := h1.sl
    exact ⟨A, cap, h3, rfl, rfl, rfl⟩
  | a :: L, _, i + 1, hi, h => by
    obtain ⟨cs, r, rfl, h1, h2⟩ := h
    obtain ⟨A, cap, rfl, h3⟩ := h1.sl
    obtain ⟨A', cap', g1, g2, g3, g4⟩ := repC_elem (i := i) (by simpa using hi) h2
    refine ⟨A', cap', g1, ?_, ?_, ?_⟩
    · rw [show (i + 1) * 3 = i * 3 + 3 by omega]; simpa using g2
    · rw [show (i + 1) * 3 + 1 = i * 3 + 1 + 3 by omega]; simpa using g3
    · rw [show (i + 1) * 3 + 2 = i * 3 + 2 + 3 by omega]; simpa using g4
/-- Element i of the call's own slice. -/
theorem OwnT.elem {w : World} {I : Im} {base : Nat} {v : Value} {L : List T} (h : OwnT w I base v L) {i : Nat} (hi : i < L.length) :
    ∃ g cap A c, v = .slice (some ⟨g, 0, none⟩) L.length cap ∧ L.length ≤ cap ∧ cap ≤ 9223372036854775807 ∧ SL I L[i].l A c ∧ w.cell? ⟨g, i * 3, none⟩ = some (.int .i64 L[i].k) ∧ w.cell? ⟨g, i * 3 + 1, none⟩ = some (.int .i64 L[i].n) ∧ w.cell? ⟨g, i * 3 + 2, none⟩ = some (.slice A L[i].l.length c) := by
  obtain ⟨xs, ho, hr⟩ := h
  rcases ho.2 with ⟨h', h0⟩ | ⟨g, cap, cur, rfl, hb, hg, hnc, hcm, hcs, htake⟩
  · omega
  obtain ⟨A, c, h1, h2, h3, h4⟩ := repC_elem hi hr
  refine ⟨g, cap, A, c, rfl, hnc, by simpa [maxLen] using hcm, h1, ?_, ?_, ?_⟩
  · rw [ho.cellAt _ (by omega)]; exact h2
  · rw [ho.cellAt _ (by omega)]; exact h3
  · rw [ho.cellAt _ (by omega)]; exact h4
/-- 'locked = slices.Delete(locked, i, i+1)', and block X as it was. -/
theorem delP {w0 w : World} {I : Im} {p q r : Nat} {S L : List T} {v : Value} (h : AEnv w0 w I p q r S L v) {i : Nat} (hi : i < L.length) {X : Nat} {u0 u1 u2 : Value} (hX : w.heap[X]? = some (.cells #[u0, u1, u2] 24 (0, 0))) (hv : v.ownBlock ≠ some X) :
    Calls Tryd.prog 61 #[v, .int .i64 i, .int .i64 (i + 1)] w fun e w3 => ∃ A' c', e = .returned (.slice A' (L.eraseIdx i).length c') ∧ w3.cell? ⟨q, 0, none⟩ = some v ∧ w3.frozen? ⟨q, 0, none⟩ = false ∧
      AEnv w0 (w3.setCell ⟨q, 0, none⟩ (.slice A' (L.eraseIdx i).length c')) I p q r S (L.eraseIdx i) (.slice A' (L.eraseIdx i).length c') ∧
      (w3.setCell ⟨q, 0, none⟩ (.slice A' (L.eraseIdx i).length c')).cell? ⟨X, 0, none⟩ = some u0 ∧ (w3.setCell ⟨q, 0, none⟩ (.slice A' (L.eraseIdx i).length c')).cell? ⟨X, 1, none⟩ = some u1 ∧ (w3.setCell ⟨q, 0, none⟩ (.slice A' (L.eraseIdx i).length c')).cell? ⟨X, 2, none⟩ = some u2 := by
  refine (deleteT i hi w h.own).mono ?_
  rintro e w3 ⟨v', rfl, ho, hob, hg⟩
  obtain ⟨a1, a2, a3, a4, a5, a6⟩ := h.apart
  obtain ⟨l1, l2, l3, l4⟩ := h.lts
  obtain ⟨A', c', rfl, _, _⟩ := ho.shape
  have hq3 := h.box.kept hg (fun e => a5 e.symm)
  have hp3 := h.m.kept hg (fun e => a4 e.symm)
  have hX3 : w3.heap[X]? = _ := (hg.block X (Array.getElem?_eq_some_iff.1 hX).1 (fun e => hv e.symm)).trans hX
  have hXq : X ≠ q := fun e => by subst e; have := hX.symm.trans (show w.heap[X]? = _ from h.box); simp at this
  have hgq := grownBy_setCell' w3 q (.slice A' (L.eraseIdx i).length c')
  have hne : ∀ k, k ≠ q → some k ≠ some q := fun k hk e => hk (by injection e)
  refine ⟨A', c', rfl, hq3.cell, hq3.frozen, ⟨(h.bel.grown hg h.bel.size (fun k e => (l4 k e).1)).grown hgq ((h.bel.grown hg h.bel.size (fun k e => (l4 k e).1)).size) (fun k e => by cases e; exact h.hq), h.hq, h.hr, hp3.kept hgq (hne _ a1), ?_, Boxed.set _ hq3, ?_⟩, ?_⟩
  · obtain ⟨⟨es, c, h1, h2⟩, h3⟩ := h.map
    exact ⟨⟨es, c, (hgq.block r (Nat.lt_of_lt_of_le l3 hg.size) (hne _ (Ne.symm a3))).trans ((hg.block r l3 (fun e => a6 e.symm)).trans h1), h2⟩, h3⟩
  · obtain ⟨xs, h1, h2⟩ := ho
    exact ⟨xs, h1.kept hgq (.inr (by rw [hob]; exact a5)), h2⟩
  · have hX4 := (hgq.block X (Array.getElem?_eq_some_iff.1 hX3).1 (hne _ hXq)).trans hX3
    obtain ⟨c0, c1, c2, _⟩ := xcells hX4
    exact ⟨c0, c1, c2⟩
def closW (w : World) : World := ((w.alloc (.map #[] 0)).alloc (.cells #[.map (some w.heap.size)] 57)).alloc (.cells #[.slice none 0 0] 22)
theorem closEnv (w : World) (I : Im) : AEnv w (closW w) I (w.heap.size + 1) (w.heap.size + 1 + 1) w.heap.size [] [] (.slice none 0 0) := by
  have h1 : (w.alloc (.map #[] 0)).heap.size = w.heap.size + 1 := by simp
  have h2 : ((w.alloc (.map #[] 0)).alloc (.cells #[.map (some w.heap.size)] 57)).heap.size = w.heap.size + 1 + 1 := by simp
  have hm := (MapT.made w I).grow ((Below.refl _ _).alloc (Nat.le_refl _) (.cells #[.map (some w.heap.size)] 57))
  have hbp := Boxed.new (w.alloc (.map #[] 0)) 57 (.map (some w.heap.size))
  rw [h1] at hbp
  have hbq := Boxed.new ((w.alloc (.map #[] 0)).alloc (.cells #[.map (some w.heap.size)] 57)) 22 (.slice none 0 0)
  rw [h2] at hbq
  exact ⟨(((Below.refl _ _).alloc (Nat.le_refl _) _).alloc (by simp) _).alloc (by simp; omega) _, by omega, Nat.le_refl _, hbp.alloc _, hm.grow ((Below.refl _ _).alloc (Nat.le_refl _) _), hbq, OwnT.nil _ _ _⟩
/-- The search among those put aside. -/
theorem openAt {w0 w : World} {I : Im} {p q r : Nat} {S L l : List T} {v : Value} (h : AEnv w0 w I p q r S L v) (hm : Tm.Mod w0 I) (ht : tab w0) (hinv : Inv l l S L) (hs : sizes L ≤ 1000000) :
    Calls Tryd.prog 51 #[v, .func (.func 60) #[] #[.pointer (some ⟨p, 0, none⟩)]] w fun e w' => e = .returned (.int .i64 (idx (openS S) L)) ∧ Below w.heap.size w w' := by
  obtain ⟨J, A, cap, h1, h2, rfl, h4, h5⟩ := h.own.done (hm.grow h.bel) (fun b x hx => hm.lt hx)
  refine indexFunc _ _ (openS S) e60 L J w A cap h2 h4 (fun x hx => ?_)
  obtain ⟨k, n, a, b, rfl, hk, hS⟩ := hinv.lock x hx
  have hv := hinv.val _ hS
  obtain ⟨a', b', e, va, _, sa, _⟩ := lock_shape hv hk
  simp only [T.l_mk, List.cons.injEq, and_true] at e
  obtain ⟨rfl, rfl⟩ := e
  exact clos2 S _ a [b] rfl J w p r h2 (h.map.mono h1) h.m.cell va (by have := size_le_sizes hx; omega) (tab_below ht h.bel)
end Go.Proofs.YthfcaiipcdibbaaDoor

/- closure. -/
set_option linter.unusedSimpArgs false
set_option linter.unusedVariables false
namespace Go.Proofs.YthfcaiipcdibbaaDoor
open Go.RowKit Tm Go.Shelf Go.MapKept
theorem e59 : ∀ args w, (callFunc 59 args).run Tryd.prog w = .ok (.enter 59 args) w := enters_of (f := 59) Tryd.func59 (by kernel_rfl) rfl
theorem idx_none {p : T → Bool} {l : List T} (h : l.any p = false) : idx p l = -1 := by unfold idx; rw [if_neg (by simp [h])]
theorem idx_some {p : T → Bool} {l : List T} (h : l.any p = true) : ∃ i, ∃ hi : i < l.length, idx p l = (i : Int) ∧ p l[i] = true := by
  have hlt : l.findIdx p < l.length := List.findIdx_lt_length_of_exists (by simpa using h)
  refine ⟨l.findIdx p, hlt, by unfold idx; rw [if_pos h], ?_⟩
  exact List.findIdx_getElem
/-- What closure leaves: a map that holds just the closure. -/
def ClosP (I : Im) (l : List T) (w : World) (e : Ending) (w' : World) : Prop := ∃ r S, e = .returned (.map (some r)) ∧ MapT w' I r S ∧ Below w.heap.size w w' ∧ (∀ x, x ∈ S ↔ Cl l x) ∧ S.Nodup

set_option maxHeartbeats 4000000 in
set_option maxRecDepth 100000 in
theorem closureC (l : List T) (I : Im) (w : World) (A : Option Addr) (cap : Nat) (hm : Tm.Mod w I) (hl : SL I l A cap) (hv : ∀ x ∈ l, valid x = true) (hs : sizes l ≤ 1000000) (ht : tab w) :
    Calls Tryd.prog 48 #[.slice A l.length cap] w (ClosP I l w) := by
  have HM := Lib.hid hm
  have HL := Lib.hid hl
  have HV := Lib.hid hv
  have HT := Lib.hid ht
  have HE0 := Lib.hid (closEnv w I)
  have hc1 := hl.1
  have hc2 := hl.2.1
  have hmm := @run_makeMap Tryd.prog
  clear hm hl hv ht
  go_enter Tryd.func48, Tryd.ntmps48
  go_wp2_with fail
  go_loopw [14] (fun i wr => ∃ (j : Nat) (S L : List T) (v : Value), j ≤ l.length ∧ i = .int .i64 j ∧ Inv l (l.take j) S L ∧ sizes L ≤ sizes (l.take j) ∧ AEnv w wr I (w.heap.size + 1) (w.heap.size + 1 + 1) w.heap.size S L v) (fun i _ => l.length - (intOf i).toNat)
  case atStart => exact ⟨0, [], [], _, Nat.zero_le _, rfl, by simpa using Inv.start l, by simp [sizes], HE0.out⟩
  case round =>
    obtain ⟨j, S, L, v, hj, rfl, hI, hSz, hE⟩ := hrel
    by_cases hlt : j < l.length
    · have hMr := HM.out.grow hE.bel
      obtain ⟨b, o, A', cap', rfl, g3, d0, d1, d2⟩ := HL.out.cells hMr hlt
      have hal := (Below.refl wr.heap.size wr).alloc (Nat.le_refl _) (.cells #[.int .i64 l[j].k, .int .i64 l[j].n, .slice A' l[j].l.length cap'] 24)
      have hvj := HV.out l[j] (List.getElem_mem hlt)
      have hszj := size_le_sizes (List.getElem_mem hlt)
      have hst := sizes_take_succ hlt
      have hLs := length_le_sizes L
      have hsj : sizes (l.take j) ≤ sizes l := by
        have := sizes_append (l.take j) (l.drop j); rw [List.take_append_drop] at this; omega
      have HC := Lib.hid (clos1 (hE.grow hal) HM.out HT.out l[j] A' cap' g3 hvj (by omega) (by omega))
      have hI2 := hI.add hvj (Cl.mem (List.getElem_mem hlt))
      rw [show l.take j ++ [l[j]] = l.take (j + 1) by rw [List.take_add_one, List.getElem?_eq_getElem hlt]; rfl] at hI2
      have HI2 := Lib.hid hI2
      have HSZ := Lib.hid (show sizes (addC l[j] S L).2 ≤ sizes (l.take (j + 1)) by have := addC_sizes l[j] S L; omega)
      clear hI hSz hE hMr g3 hal hvj hszj hst hLs hsj hI2
      go_wp2_with (go_at_call 59; refine HC.out.mono ?_; rintro e w6 ⟨rfl, v6, hE6⟩; have HE6 := Lib.hid hE6; clear hE6)
      go_roundw
      case rel => first | exact ⟨j + 1, _, _, v6, by omega, by go_num, HI2.out, HSZ.out, HE6.out⟩ | ((repeat apply Exists.intro); exact ⟨⟨j + 1, _, _, v6, by omega, by go_num, HI2.out, HSZ.out, HE6.out⟩, rfl⟩)
      case measure => simp [intOf]; omega
    · obtain rfl : j = l.length := by omega
      rw [List.take_length] at hI hSz
      have HI := Lib.hid hI
      have HE := Lib.hid hE
      have hsz2 : sizes L ≤ 1000000 := by omega
      have HSZ := Lib.hid hsz2
      clear hI hSz hE hsz2
      go_wp2_with fail
      go_loopg [8] (sizes L) (fun g u wr => ∃ (S L : List T) (v : Value), Inv l l S L ∧ sizes L ≤ g ∧ g ≤ 1000000 ∧ AEnv w wr I (w.heap.size + 1) (w.heap.size + 1 + 1) w.heap.size S L v)
      case atStart => exact ⟨S, L, v, HI.out, Nat.le_refl _, HSZ.out, HE.out⟩
      case round =>
        clear HI HE HSZ HE0 HL hlt hj
        obtain ⟨S, L, v, hI, hSz, hg, hE⟩ := hrel
        have hF := openAt hE HM.out HT.out hI (by omega)
        cases hany : L.any (openS S) with
        | false =>
          rw [idx_none hany] at hF
          have hfin : ∀ x, x ∈ S ↔ Cl l x := fun x => hI.done_iff (fun y hy => by
            rw [← open_eq]
            have := List.any_eq_false.1 hany y hy
            simpa using this) x
          have hnd := hI.nodup
          obtain ⟨av, capv, rfl, hv1, hv2⟩ := hE.own.shape
          have HF : Hid (Calls Tryd.prog 51 #[.slice av L.length capv, .func (.func 60) #[] #[.pointer (some ⟨w.heap.size + 1, 0, none⟩)]] wr fun e w1 => e = .returned (.int .i64 (-1)) ∧ w1.cell? ⟨w.heap.size + 1, 0, none⟩ = some (.map (some w.heap.size)) ∧ ClosP I l w (.returned (.map (some w.heap.size))) w1) :=
            hF.mono fun e w1 ⟨he, hb⟩ => ⟨he, (hE.grow hb).m.cell, _, S, rfl, (hE.grow hb).map, (hE.grow hb).bel, hfin, hnd⟩
          have cq := hE.box.cell
          clear hF hI hSz hE hany hfin hnd
          go_wp2_with (go_at_call 51; refine HF.out.mono ?_; rintro e w1 ⟨rfl, c1, hP⟩; have HP := Lib.hid hP; clear hP)
          go_ret
          exact HP.out
        | true =>
          obtain ⟨i, hi, hidx, hop⟩ := idx_some hany
          rw [hidx] at hF
          rw [open_eq] at hop
          obtain ⟨k, n, a, b, hLi, hk, hSm⟩ := hI.lock _ (List.getElem_mem hi)
          obtain ⟨hI2, hsz2, hvb⟩ := hI.open hi hLi hop
          have hszb : size b ≤ 1000000 := by
            have h1 := size_le_sizes (List.getElem_mem hi)
            rw [hLi] at h1
            simp only [size, sizes] at h1
            omega
          have hLe : (L.eraseIdx i).length ≤ 1000000000 := by
            have := length_le_sizes L
            have := List.length_eraseIdx_le L i
            omega
          obtain ⟨g, capv, A', c', rfl, hv1, hv2, hsl, m0, m1, m2⟩ := OwnT.elem hE.own hi
          have hll : L[i].l = [a, b] := by rw [hLi]; rfl
          have hsl2 := hsl
          rw [hll] at hsl2
          have hMr := HM.out.grow hE.bel
          obtain ⟨bb, oo, Aa, ca, Ab, cb, rfl, ga, gb, _, _, _, m3, m4, m5⟩ := sl2 hMr hsl2
          have cq := hE.box.cell
          have hl1 : (1 : Int) < (L[i].l.length : Int) := by rw [hll]; simp
          have hl2 : 1 < L[i].l.length := by rw [hll]; simp
          have hi0 : (i : Int) < (L.length : Int) := by omega
          have hiz : (0 : Int) ≤ (i : Int) := by omega
          have hiz2 : (0 : Int) ≤ (i : Int) + 1 := by omega
          have hi6 : (i : Int) ≤ 1000000 := by have := length_le_sizes L; omega
          have hneg : decide ((i : Int) < 0) = false := by simp
          generalize hlen : L[i].l.length = len at hl1 hl2 m2
          have HF : Hid (Calls Tryd.prog 51 #[.slice (some ⟨g, 0, none⟩) L.length capv, .func (.func 60) #[] #[.pointer (some ⟨w.heap.size + 1, 0, none⟩)]] wr fun e w1 => e = .returned (.int .i64 i) ∧ (w1.cell? ⟨w.heap.size + 1 + 1, 0, none⟩ = some (.slice (some ⟨g, 0, none⟩) L.length capv) ∧ w1.cell? ⟨g, i * 3 + 2, none⟩ = some (.slice (some ⟨bb, oo, none⟩) len c') ∧ w1.cell? ⟨bb, oo + 3, none⟩ = some (.int .i64 b.k) ∧ w1.cell? ⟨bb, oo + 3 + 1, none⟩ = some (.int .i64 b.n) ∧ w1.cell? ⟨bb, oo + 3 + 2, none⟩ = some (.slice Ab b.l.length cb) ∧
              (w1.alloc (.cells #[.int .i64 b.k, .int .i64 b.n, .slice Ab b.l.length cb] 24)).cell? ⟨w.heap.size + 1 + 1, 0, none⟩ = some (.slice (some ⟨g, 0, none⟩) L.length capv)) ∧
              Hid (Calls Tryd.prog 61 #[.slice (some ⟨g, 0, none⟩) L.length capv, .int .i64 i, .int .i64 (i + 1)] (w1.alloc (.cells #[.int .i64 b.k, .int .i64 b.n, .slice Ab b.l.length cb] 24)) fun e w3 => ∃ A' c', e = .returned (.slice A' (L.eraseIdx i).length c') ∧ w3.cell? ⟨w.heap.size + 1 + 1, 0, none⟩ = some (.slice (some ⟨g, 0, none⟩) L.length capv) ∧ w3.frozen? ⟨w.heap.size + 1 + 1, 0, none⟩ = false ∧
                AEnv w (w3.setCell ⟨w.heap.size + 1 + 1, 0, none⟩ (.slice A' (L.eraseIdx i).length c')) I (w.heap.size + 1) (w.heap.size + 1 + 1) w.heap.size S (L.eraseIdx i) (.slice A' (L.eraseIdx i).length c') ∧
                (w3.setCell ⟨w.heap.size + 1 + 1, 0, none⟩ (.slice A' (L.eraseIdx i).length c')).cell? ⟨w1.heap.size, 0, none⟩ = some (.int .i64 b.k) ∧ (w3.setCell ⟨w.heap.size + 1 + 1, 0, none⟩ (.slice A' (L.eraseIdx i).length c')).cell? ⟨w1.heap.size, 1, none⟩ = some (.int .i64 b.n) ∧ (w3.setCell ⟨w.heap.size + 1 + 1, 0, none⟩ (.slice A' (L.eraseIdx i).length c')).cell? ⟨w1.heap.size, 2, none⟩ = some (.slice Ab b.l.length cb))) := hF.mono fun e w1 ⟨he, hb⟩ => by
            have hE1 := hE.grow hb
            have kp : ∀ {bk of : Nat} {x : Value}, wr.cell? ⟨bk, of, none⟩ = some x → w1.cell? ⟨bk, of, none⟩ = some x := fun h => (hb.cell (p := ⟨_, _, none⟩) (World.block_lt_of_cell? _ _ h)).trans h
            refine ⟨he, ⟨kp cq, kp m2, kp m3, kp m4, kp m5, (hE1.box.alloc _).cell⟩, ?_⟩
            exact delP (hE1.grow ((Below.refl _ _).alloc (Nat.le_refl _) _)) hi (heap_alloc w1 _).1 (fun e => by have := (hE1.lts.2.2.2 _ e).2; omega)
          have HADD := Lib.hid (fun (W : World) (v' : Value) (h : AEnv w W I (w.heap.size + 1) (w.heap.size + 1 + 1) w.heap.size S (L.eraseIdx i) v') => clos1 h HM.out HT.out b Ab cb gb hvb hszb hLe)
          have HI2 := Lib.hid hI2
          have hszN : sizes (addC b S (L.eraseIdx i)).2 < gk := by omega
          have HN := Lib.hid hszN
          clear hF hI hE hany hidx hop hLi hk hSm hI2 hsz2 hvb hszb hLe hsl hsl2 hMr ga gb m0 m1 m2 m3 m4 m5 hll hlen hszN hSz
          go_wp2_with (first
            | (go_at_call 51; refine HF.out.mono ?_; rintro e w1 ⟨rfl, ⟨q0, q1, q2, q3, q4, q5⟩, HDEL⟩)
            | (go_at_call 61; refine HDEL.out.mono ?_; rintro e w3 ⟨A3, c3, rfl, hq3, hf3, hE3, x0, x1, x2⟩; have HE3 := Lib.hid hE3; clear hE3)
            | (go_at_call 59; refine (HADD.out _ _ HE3.out).mono ?_; rintro e w6 ⟨rfl, v6, hE6⟩; have HE6 := Lib.hid hE6; clear hE6))
          go_roundg (sizes (addC b S (L.eraseIdx i)).2)
          case measure => exact HN.out
          case rel =>
            have := HN.out
            exact ⟨_, _, v6, HI2.out, Nat.le_refl _, by omega, HE6.out⟩
end Go.Proofs.YthfcaiipcdibbaaDoor

/- term.Close, term.Knows. -/
set_option linter.unusedSimpArgs false
set_option linter.unusedVariables false
namespace Go.Proofs.YthfcaiipcdibbaaDoor
open Go.RowKit Tm Go.Shelf Go.MapKept
theorem clos_sort {l S : List T} (hv : ∀ x ∈ l, valid x = true) (h : ∀ x, x ∈ S ↔ Cl l x) : sortU S = close l := close_eq hv (sorted_sortU S) fun x => by rw [mem_sortU]; exact h x
theorem clos_len {l S : List T} (h : ∀ x, x ∈ S ↔ Cl l x) (hn : S.Nodup) : S.length ≤ sizes l := by
  rw [← subsL_length l]
  exact length_le_of_subset hn fun x hx => ((h x).1 hx).subs
theorem clos_built {l S : List T} (hv : ∀ x ∈ l, valid x = true) (h : ∀ x, x ∈ S ↔ Cl l x) (t : T) : built S t = knows l t := by
  unfold knows
  exact built_congr (fun x => by rw [h, mem_close hv]) t

set_option maxHeartbeats 1000000 in
theorem termClose (l : List T) (I : Im) (w : World) (A : Option Addr) (cap : Nat) (hm : Tm.Mod w I) (hl : SL I l A cap) (hv : ∀ x ∈ l, valid x = true) (hs : sizes l ≤ 1000000) (ht : tab w) :
    Calls Tryd.prog 25 #[.slice A l.length cap] w (RetL I w (close l)) := by
  have HC : Hid (Calls Tryd.prog 48 #[.slice A l.length cap] w fun e w1 => ∃ r S, e = .returned (.map (some r)) ∧ Below w.heap.size w w1 ∧ sortU S = close l ∧ Calls Tryd.prog 47 #[.map (some r)] w1 (RetL I w1 (sortU S))) := by
    refine (closureC l I w A cap hm hl hv hs ht).mono ?_
    rintro e w1 ⟨r, S, rfl, hS, hb, hi, hn⟩
    exact ⟨r, S, rfl, hb, clos_sort hv hi, termList r w1 (hm.grow hb) hS (by have := clos_len hi hn; omega)⟩
  have hc1 := hl.1
  have hc2 := hl.2.1
  clear hm hl hv hs ht
  go_enter Tryd.func25, Tryd.ntmps25
  go_wp2_with (first
    | (go_at_call 48; refine HC.out.mono ?_; rintro e w1 ⟨r, S, rfl, hb1, hq, hL⟩; have HB1 := Lib.hid hb1; have HQ := Lib.hid hq; have HL := Lib.hid hL; clear hb1 hq hL)
    | (go_at_call 47; refine HL.out.mono ?_; rintro e w2 ⟨J, A2, cap2, h1, h2, rfl, h4, h5⟩))
  go_ret
  refine ⟨J, A2, cap2, h1.from HB1.out.size, h2, ?_, ?_, HB1.out.trans (h5.mono HB1.out.size)⟩
  · rw [← HQ.out]; rfl
  · rw [← HQ.out]; exact h4

set_option maxHeartbeats 2000000 in
theorem termKnows (l : List T) (t : T) (I : Im) (w : World) (A B : Option Addr) (cap cb : Nat) (hm : Tm.Mod w I) (hl : SL I l A cap) (hlt : SL I t.l B cb) (hv : ∀ x ∈ l, valid x = true) (hs : sizes l ≤ 1000000) (hvt : valid t = true) (hst : size t ≤ 1000000) (ht : tab w) :
    Calls Tryd.prog 27 #[.slice A l.length cap, .agg #[.int .i64 t.k, .int .i64 t.n, .slice B t.l.length cb]] w fun e w' => e = .returned (.bool (knows l t)) ∧ Below w.heap.size w w' := by
  have hbx := (Below.refl w.heap.size w).alloc (Nat.le_refl _) (.cells #[.int .i64 t.k, .int .i64 t.n, .slice B t.l.length cb] 24)
  obtain ⟨n0, n1, n2, _⟩ := xcells (heap_alloc w (.cells #[.int .i64 t.k, .int .i64 t.n, .slice B t.l.length cb] 24)).1
  have HBX := Lib.hid hbx
  have hc1 := hl.1
  have hc2 := hl.2.1
  have HC := Lib.hid (fun (V : World) (hV : Below (w.alloc (.cells #[.int .i64 t.k, .int .i64 t.n, .slice B t.l.length cb] 24)).heap.size (w.alloc (.cells #[.int .i64 t.k, .int .i64 t.n, .slice B t.l.length cb] 24)) V) =>
    (show Calls Tryd.prog 48 #[.slice A l.length cap] V fun e w' => ∃ r, e = .returned (.map (some r)) ∧ Below (w.alloc (.cells #[.int .i64 t.k, .int .i64 t.n, .slice B t.l.length cb] 24)).heap.size (w.alloc (.cells #[.int .i64 t.k, .int .i64 t.n, .slice B t.l.length cb] 24)) w' ∧
      Hid (Calls Tryd.prog 50 #[.map (some r), .agg #[.int .i64 t.k, .int .i64 t.n, .slice B t.l.length cb]] w' fun e w2 => e = .returned (.bool (knows l t)) ∧ Below (w.alloc (.cells #[.int .i64 t.k, .int .i64 t.n, .slice B t.l.length cb] 24)).heap.size (w.alloc (.cells #[.int .i64 t.k, .int .i64 t.n, .slice B t.l.length cb] 24)) w2) from by
      have hmV := (hm.grow hbx).grow hV
      have htV := tab_below (tab_below ht hbx) hV
      refine (closureC l I V A cap hmV hl hv hs htV).mono ?_
      rintro e w1 ⟨r, S, rfl, hS, hb, hi, hn⟩
      refine ⟨r, rfl, hV.trans (hb.mono hV.size), ?_⟩
      refine (termBuilt S t I w1 B cb r (hmV.grow hb) hlt hS hvt hst (tab_below htV hb)).mono ?_
      rintro e w2 ⟨rfl, hb2⟩
      exact ⟨by rw [clos_built hv hi], hV.trans ((hb.trans (hb2.mono hb.size)).mono hV.size)⟩))
  clear hm hl hlt hv hs hvt hst ht hbx
  go_enter Tryd.func27, Tryd.ntmps27
  go_wp2_with fail
  generalize (w.alloc (.cells #[.int .i64 t.k, .int .i64 t.n, .slice B t.l.length cb] 24)) = wq at HC n0 n1 n2 HBX ⊢
  have L0 := fun (V : World) (hV : Below wq.heap.size wq V) => (hV.cell (p := ⟨w.heap.size, 0, none⟩) (World.block_lt_of_cell? _ _ n0)).trans n0
  have L1 := fun (V : World) (hV : Below wq.heap.size wq V) => (hV.cell (p := ⟨w.heap.size, 1, none⟩) (World.block_lt_of_cell? _ _ n1)).trans n1
  have L2 := fun (V : World) (hV : Below wq.heap.size wq V) => (hV.cell (p := ⟨w.heap.size, 2, none⟩) (World.block_lt_of_cell? _ _ n2)).trans n2
  clear n0 n1 n2
  go_region_held3 (fun V => Below wq.heap.size wq V) (first | exact (Below.refl _ _).drew | exact hkeep1 | exact hkeep2 | assumption) ((first | (go_at_call 48; refine (HC.out _ (by assumption)).mono ?_; rintro e w2 ⟨r, rfl, hkeep1, HB⟩) | (go_at_call 50; refine HB.out.mono ?_; rintro e w3 ⟨rfl, hkeep2⟩)))
  all_goals (go_wp2; go_ret; exact ⟨rfl, HBX.out.trans (Below.mono (by assumption) HBX.out.size)⟩)
end Go.Proofs.YthfcaiipcdibbaaDoor
