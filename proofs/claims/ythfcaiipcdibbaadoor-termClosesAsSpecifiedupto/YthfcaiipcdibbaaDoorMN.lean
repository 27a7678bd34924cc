import Derived.Test.YthfcaiipcdibbaaDoorMM
import Derived.Deep.LoopGhost
/- closure$1: 'add'. -/
set_option linter.unusedSimpArgs false
set_option linter.unusedVariables false
namespace Go.Proofs.YthfcaiipcdibbaaDoor
open Go.RowKit Tm Go.Shelf Go.MapKept

/-- The state at the head of add's loop: at most g nodes of the term are still to be taken. -/
def AInv (w0 : World) (I : Im) (p q r X : Nat) (L : List T) (v : Value) (R : List T × List T) (g : Nat) (wr : World) : Prop :=
  ∃ (t : T) (A : Option Addr) (cap : Nat) (S : List T), AEnv w0 wr I p q r S L v ∧ SL I t.l A cap ∧ valid t = true ∧ size t ≤ g ∧ addC t S L = R ∧ wr.heap[X]? = some (.cells #[.int .i64 t.k, .int .i64 t.n, .slice A t.l.length cap] 24 (0, 0))

def APost (w0 : World) (I : Im) (p q r : Nat) (R : List T × List T) (e : Ending) (w' : World) : Prop := e = .returned (.tuple #[]) ∧ ∃ v', AEnv w0 w' I p q r R.1 R.2 v'

theorem bcell {W w1 : World} (hb : Below W.heap.size W w1) : (∀ b o, b < W.heap.size → w1.cell? ⟨b, o, none⟩ = W.cell? ⟨b, o, none⟩) ∧ (∀ b o, b < W.heap.size → w1.frozen? ⟨b, o, none⟩ = W.frozen? ⟨b, o, none⟩) :=
  ⟨fun b o h => hb.cell (p := ⟨b, o, none⟩) h, fun b o h => hb.frozen (p := ⟨b, o, none⟩) h⟩
theorem addC_in' {t : T} {S L : List T} (h : t ∈ S) : addC t S L = (S, L) := by obtain ⟨k, n, l⟩ := t; exact addC_in h
theorem addC_free' {t : T} {S L : List T} (h : t ∉ S) (hk : ¬ Lock t.k) : addC t S L = (S ++ [t], L) := by obtain ⟨k, n, l⟩ := t; exact addC_free h hk
theorem addC_aside' {t a b : T} {S L : List T} (h : t ∉ S) (hk : Lock t.k) (hl : t.l = [a, b]) (hb : built (S ++ [t]) a = false) : addC t S L = (S ++ [t], L ++ [t]) := by
  obtain ⟨k, n, l⟩ := t
  obtain rfl : l = [a, b] := hl
  exact addC_aside h hk hb
theorem addC_open' {t a b : T} {S L : List T} (h : t ∉ S) (hk : Lock t.k) (hl : t.l = [a, b]) (hb : built (S ++ [t]) a = true) : addC t S L = addC b (S ++ [t]) L := by
  obtain ⟨k, n, l⟩ := t
  obtain rfl : l = [a, b] := hl
  exact addC_open h hk hb
theorem lock_shape {t : T} (hv : valid t = true) (hk : Lock t.k) : ∃ a b, t.l = [a, b] ∧ valid a = true ∧ valid b = true ∧ size a < size t ∧ size b < size t := by
  obtain ⟨k, n, l⟩ := t
  cases shape_of hv with
  | data => exact absurd hk (by unfold Lock; simp only [T.k_mk]; omega)
  | key => exact absurd hk (by unfold Lock; simp only [T.k_mk]; omega)
  | seal_ ha hb => exact ⟨_, _, rfl, ha, hb, by simp [size, sizes]; omega, by simp [size, sizes]; omega⟩
  | box_ h0 h1 ha hb => exact ⟨_, _, rfl, ha, hb, by simp [size, sizes]; omega, by simp [size, sizes]; omega⟩
  | kdf => exact absurd hk (by unfold Lock; simp only [T.k_mk]; omega)
  | mac => exact absurd hk (by unfold Lock; simp only [T.k_mk]; omega)
theorem sl2 {w : World} {I : Im} {a b : T} {A : Option Addr} {cap : Nat} (hm : Tm.Mod w I) (h : SL I [a, b] A cap) : ∃ bb o Aa ca Ab cb, A = some ⟨bb, o, none⟩ ∧ SL I a.l Aa ca ∧ SL I b.l Ab cb ∧ w.cell? ⟨bb, o, none⟩ = some (.int .i64 a.k) ∧ w.cell? ⟨bb, o + 1, none⟩ = some (.int .i64 a.n) ∧ w.cell? ⟨bb, o + 2, none⟩ = some (.slice Aa a.l.length ca) ∧
    w.cell? ⟨bb, o + 3, none⟩ = some (.int .i64 b.k) ∧ w.cell? ⟨bb, o + 3 + 1, none⟩ = some (.int .i64 b.n) ∧ w.cell? ⟨bb, o + 3 + 2, none⟩ = some (.slice Ab b.l.length cb) := by
  obtain ⟨bb, o, Aa, ca, rfl, h1, h2, h3, h4⟩ := h.cells hm (i := 0) (by simp)
  obtain ⟨bb', o', Ab, cb, e, h5, h6, h7, h8⟩ := h.cells hm (i := 1) (by simp)
  cases e
  simp only [Nat.zero_mul, Nat.add_zero, Nat.one_mul, List.getElem_cons_zero, List.getElem_cons_succ] at h1 h2 h3 h4 h5 h6 h7 h8
  exact ⟨bb, o, Aa, ca, Ab, cb, rfl, h1, h5, h2, h3, h4, h6, h7, h8⟩
def lkB (t : T) : Bool := decide (¬ Lock t.k)
theorem setx {w : World} {X : Nat} {u0 u1 u2 : Value} {ty : TypeId} (h : w.heap[X]? = some (.cells #[u0, u1, u2] ty (0, 0))) (v0 v1 v2 : Value) : (((w.setCell ⟨X, 0, none⟩ v0).setCell ⟨X, 1, none⟩ v1).setCell ⟨X, 2, none⟩ v2).heap[X]? = some (.cells #[v0, v1, v2] ty (0, 0)) ∧ w.grownBy (((w.setCell ⟨X, 0, none⟩ v0).setCell ⟨X, 1, none⟩ v1).setCell ⟨X, 2, none⟩ v2) (some X) := by
  have h1 := heap_setCell_same w X 0 _ ty v0 h
  have h2 := heap_setCell_same _ X 1 _ ty v1 h1
  have h3 := heap_setCell_same _ X 2 _ ty v2 h2
  refine ⟨by simpa using h3, ⟨rfl, rfl, rfl, by simp, fun k _ hk => ?_⟩⟩
  have hne : k ≠ X := fun e => hk (by rw [e])
  rw [Below.heap_setCell _ _ _ _ hne, Below.heap_setCell _ _ _ _ hne, Below.heap_setCell _ _ _ _ hne]
theorem addS_new {S : List T} {t : T} (h : t ∉ S) : Tm.addS S t = S ++ [t] := if_neg h
abbrev zeroC : Obj := .cells #[.int .i64 0, .int .i64 0, .slice none 0 0] 24
/-- The cells of block X. -/
theorem xcells {w : World} {X : Nat} {u0 u1 u2 : Value} {t : TypeId} (h : w.heap[X]? = some (.cells #[u0, u1, u2] t (0, 0))) : w.cell? ⟨X, 0, none⟩ = some u0 ∧ w.cell? ⟨X, 1, none⟩ = some u1 ∧ w.cell? ⟨X, 2, none⟩ = some u2 ∧ w.frozen? ⟨X, 0, none⟩ = false ∧ w.frozen? ⟨X, 1, none⟩ = false ∧ w.frozen? ⟨X, 2, none⟩ = false := by
  refine ⟨?_, ?_, ?_, ?_, ?_, ?_⟩ <;> simp [World.cell?, World.frozen?, h]

set_option maxHeartbeats 4000000 in
set_option maxRecDepth 100000 in
theorem clos1 {w0 w : World} {I : Im} {p q r : Nat} {S L : List T} {v : Value} (hE : AEnv w0 w I p q r S L v) (hm : Tm.Mod w0 I) (ht : tab w0) (t : T) (A : Option Addr) (cap : Nat) (hl : SL I t.l A cap) (hv : valid t = true) (hs : size t ≤ 1000000) (hL : L.length ≤ 1000000000) :
    Calls Tryd.prog 59 #[.agg #[.int .i64 t.k, .int .i64 t.n, .slice A t.l.length cap], .pointer (some ⟨p, 0, none⟩), .pointer (some ⟨q, 0, none⟩)] w (APost w0 I p q r (addC t S L)) := by
  have hX0 : w0.heap.size ≤ w.heap.size := hE.bel.size
  obtain ⟨l1, l2, l3, l4⟩ := hE.lts
  have HXv : Hid (v.ownBlock ≠ some w.heap.size) := fun e => by have := (l4 _ e).2; omega
  have HI0 := Lib.hid (show AInv w0 I p q r w.heap.size L v (addC t S L) (size t) (w.alloc (.cells #[.int .i64 t.k, .int .i64 t.n, .slice A t.l.length cap] 24)) from
    ⟨t, A, cap, S, hE.grow ((Below.refl _ _).alloc (Nat.le_refl _) _), hl, hv, Nat.le_refl _, rfl, (heap_alloc w _).1⟩)
  have HM := Lib.hid hm
  have HT := Lib.hid ht
  obtain ⟨X, hX⟩ : ∃ X, X = w.heap.size := ⟨_, rfl⟩
  obtain ⟨R, hR⟩ : ∃ R, R = addC t S L := ⟨_, rfl⟩
  obtain ⟨sz, hsz⟩ : ∃ sz, sz = size t := ⟨_, rfl⟩
  rw [← hR, ← hsz] at HI0
  rw [← hR]
  rw [← hX] at HXv HI0 hX0 l1 l2 l3
  rw [← hsz] at hs
  have HX := Lib.hid hX
  clear hE hm ht hl hv l4 hR hsz hX
  go_enter Tryd.func59, Tryd.ntmps59
  go_wp2_with fail
  rw [← HX.out]
  go_loopg [5] sz (fun g u wr => AInv w0 I p q r X L v R g wr ∧ g ≤ 1000000)
  case atStart => exact ⟨HI0.out, hs⟩
  case round =>
    obtain ⟨⟨t, A, cap, S, hE, hl, hv, hs, hR, hbX⟩, hg⟩ := hrel
    have hXl := (Array.getElem?_eq_some_iff.1 hbX).1
    obtain ⟨b1, b2, b3, b4⟩ := hE.lts
    obtain ⟨c0, c1, c2, _⟩ := xcells hbX
    obtain ⟨d0, d1, d2, _⟩ := xcells ((heap_alloc wr (.cells #[.int .i64 0, .int .i64 0, .slice none 0 0] 24)).2 X hXl |>.trans hbX)
    have cp := hE.m.cell
    have dp := (hE.m.alloc (.cells #[.int .i64 0, .int .i64 0, .slice none 0 0] 24)).cell
    have hMr := HM.out.grow hE.bel
    have hTr := tab_below HT.out hE.bel
    obtain ⟨k1, n1, A1, len1, cap1, hq⟩ := hE.map.look2 hv
    have HTG := Lib.hid (textG t wr p _ _ _ (fun W hW => termText t I W A cap (hMr.grow hW) hl hv (by omega) (tab_below hTr hW)) hq cp)
    have HE := Lib.hid hE
    have HL := Lib.hid hl
    have HV := Lib.hid hv
    have HS := Lib.hid hs
    have HR := Lib.hid hR
    have HB := Lib.hid hbX
    have HMr := Lib.hid hMr
    have HTr := Lib.hid hTr
    have hc1 := hl.1
    have hc2 := hl.2.1
    clear hE hl hv hs hR hbX hMr hTr hq b4 b2 b3
    go_upto_region 1 with fail
    go_cut [5] (fun s5 wx => s5 = .bool (decide (t ∈ S)) ∧ Below wr.heap.size wr wx)
    case first =>
      go_region_with ((go_at_call 20; refine (HTG.out _ (by first | exact (Below.refl _ _).drew | exact ((Below.refl _ _).alloc (Nat.le_refl _) _).drew)).mono ?_; rintro e w6 ⟨rfl, hb6, hkp, hq1, hq2, hc0, hc1⟩; obtain ⟨hcc, hff⟩ := bcell hb6))
      all_goals (go_wp2_with fail; go_meet; first
        | exact ⟨rfl, hkp.alloc hkp.size _⟩
        | exact ⟨rfl, (((hkp.setCell (Nat.le_refl _) _).setCell (Nat.le_refl _) _).setCell (Nat.le_refl _) _)⟩)
    case rest =>
      obtain ⟨rfl, hb⟩ := hcut
      obtain ⟨wa, rfl⟩ : ∃ wa : World, wa = wc := ⟨_, rfl⟩
      clear c0 c1 c2 d0 d1 d2 cp dp HTG
      have E1 := HE.out.grow hb
      have hbX := (hb.block X hXl).trans HB.out
      by_cases hin : t ∈ S
      · have fin : Hid (R = (S, L)) := by rw [← HR.out]; exact addC_in' hin
        have HE1 := Lib.hid E1
        rw [decide_eq_true hin]
        clear hin hb E1 hbX
        go_wp2
        refine bodyPost_ret (results_none rfl _ _ _) rfl ?_
        exact ⟨rfl, v, by rw [fin.out]; exact HE1.out⟩
      have hXa := (Array.getElem?_eq_some_iff.1 hbX).1
      have hMa := HMr.out.grow hb
      have hTa := tab_below HTr.out hb
      have HTQ := Lib.hid (textQ t E1 X hMa HL.out HV.out (by have := HS.out; omega) hTa hbX)
      obtain ⟨c0, c1, c2, _⟩ := xcells hbX
      have cp := E1.m.cell
      have HN := Lib.hid hin
      have hXr : X ≠ r := by omega
      have HMa := Lib.hid hMa
      have HTa := Lib.hid hTa
      have HEa := Lib.hid E1
      have HBX := Lib.hid hbX
      rw [decide_eq_false hin]
      clear hin hb E1 hbX hMa hTa HE HB HMr HTr
      go_wp2_with fail
      go_cut [13] (fun s13 wx => AEnv w0 wx I p q r (Tm.addS S t) L v ∧ wa.grownBy wx (some r))
      case first =>
        go_region_with ((go_at_call 20; refine (HTQ.out _ (Below.refl _ _).drew).mono ?_; rintro e w6 ⟨rfl, ⟨hc0, z0, z1, z2⟩, w7, hu7, hE7, hg7⟩))
        all_goals (go_wp2_with fail; go_meet; exact ⟨hE7, hg7⟩)
      case rest =>
        obtain ⟨hE7, hg7⟩ := hcut
        obtain ⟨wb, rfl⟩ : ∃ wb : World, wb = wc := ⟨_, rfl⟩
        rw [addS_new HN.out] at hE7
        have hb7 := (hg7.block X hXa (fun e => hXr (by injection e))).trans HBX.out
        obtain ⟨e0, e1, e2, _⟩ := xcells hb7
        have HE7 := Lib.hid hE7
        have HB7 := Lib.hid hb7
        clear HTQ c0 c1 c2 cp hE7 hg7 hb7 HEa HMa HTa HBX hXl hXa b1
        go_upto_region 4 with fail
        go_cut [25] (fun s25 wx => s25 = .bool (lkB t) ∧ wb = wx)
        case first =>
          clear HE7 HB7
          by_cases h3 : t.k = 3
          · have h3b : (t.k != 3) = false := by simpa using h3
            have FK : Hid (lkB t = false) := by unfold Hid lkB Lock; simp [h3]
            clear h3
            go_wp2_with fail
            go_meet
            exact ⟨by rw [FK.out], rfl⟩
          have h3b : (t.k != 3) = true := by simpa using h3
          by_cases h4 : t.k = 4
          · have h4b : (t.k != 4) = false := by simpa using h4
            have FK : Hid (lkB t = false) := by unfold Hid lkB Lock; simp [h4]
            clear h3 h4
            go_wp2_with fail
            go_meet
            exact ⟨by rw [FK.out], rfl⟩
          have h4b : (t.k != 4) = true := by simpa using h4
          have FK : Hid (lkB t = true) := by unfold Hid lkB Lock; simp [h3, h4]
          clear h3 h4
          go_wp2_with fail
          go_meet
          exact ⟨by rw [FK.out], rfl⟩
        case rest =>
          obtain ⟨rfl, rfl⟩ := hcut
          by_cases hk : Lock t.k
          · obtain ⟨a, b, hab, hva, hvb, hsa, hsb⟩ := lock_shape HV.out hk
            rw [show lkB t = false by unfold lkB; simp [hk]]
            have HK := Lib.hid hk
            have HAB := Lib.hid hab
            have HVA := Lib.hid hva
            have HVB := Lib.hid hvb
            have hs0 := HS.out
            have hsa' : size a ≤ 1000000 := by omega
            have hsb' : size b < gk := by omega
            have hl0 : (0 : Int) < (t.l.length : Int) := by rw [hab]; simp
            have hl1 : (1 : Int) < (t.l.length : Int) := by rw [hab]; simp
            have hlen : 0 < t.l.length := by rw [hab]; simp
            have hM := HM.out.grow HE7.out.bel
            have hT := tab_below HT.out HE7.out.bel
            have hsl := HL.out
            rw [hab] at hsl
            have HSL := Lib.hid hsl
            obtain ⟨bb, o, Aa, ca, Ab, cb, rfl, ga, gb, m0, m1, m2, _⟩ := sl2 hM hsl
            have cp := HE7.out.m.cell
            obtain ⟨bv, hbv⟩ : ∃ bv, bv = built (S ++ [t]) a := ⟨_, rfl⟩
            have HC := Lib.hid (fun (W' : World) (hW' : Below wb.heap.size wb W') => termBuilt (S ++ [t]) a I W' Aa ca r (hM.grow hW') ga (HE7.out.map.grow hW') hva hsa' (tab_below hT hW'))
            rw [← hbv] at HC
            have HBV := Lib.hid hbv
            have L0 := fun (V : World) (hV : Below wb.heap.size wb V) => (hV.cell (p := ⟨p, 0, none⟩) (World.block_lt_of_cell? _ _ cp)).trans cp
            have L1 := fun (V : World) (hV : Below wb.heap.size wb V) => (hV.cell (p := ⟨X, 2, none⟩) (World.block_lt_of_cell? _ _ e2)).trans e2
            have M0 := fun (V : World) (hV : Below wb.heap.size wb V) => (hV.cell (p := ⟨bb, o, none⟩) (World.block_lt_of_cell? _ _ m0)).trans m0
            have M1 := fun (V : World) (hV : Below wb.heap.size wb V) => (hV.cell (p := ⟨bb, o + 1, none⟩) (World.block_lt_of_cell? _ _ m1)).trans m1
            have M2 := fun (V : World) (hV : Below wb.heap.size wb V) => (hV.cell (p := ⟨bb, o + 2, none⟩) (World.block_lt_of_cell? _ _ m2)).trans m2
            clear hk hab hva hvb hsa hsb hs0 hM hT hsl ga gb m0 m1 m2 cp hbv e0 e1 e2
            go_wp2_with fail
            go_cut [32] (fun s32 wx => s32 = .bool (!bv) ∧ Below wb.heap.size wb wx)
            case first =>
              go_region_held3 (fun V => Below wb.heap.size wb V) (first | exact (Below.refl _ _).drew | exact hkeep1 | assumption) ((go_at_call 50; refine (HC.out _ (by assumption)).mono ?_; rintro e w2 ⟨rfl, hl2⟩; have hkeep1 : Below wb.heap.size wb w2 := Below.trans (by assumption) (hl2.mono (Below.size (by assumption))); clear hl2))
              all_goals (go_wp2_with fail; go_meet; exact ⟨rfl, by assumption⟩)
            case rest =>
              obtain ⟨rfl, hb9⟩ := hcut
              obtain ⟨wd, rfl⟩ : ∃ wd : World, wd = wc := ⟨_, rfl⟩
              have E9 := HE7.out.grow hb9
              have hbX9 := (hb9.block X (Array.getElem?_eq_some_iff.1 HB7.out).1).trans HB7.out
              have hM9 := HM.out.grow E9.bel
              clear HC L0 L1 M0 M1 M2 HB7 HE7 hb9
              cases bv with
              | true =>
                have fin : Hid (addC b (S ++ [t]) L = R) := by rw [← HR.out]; exact (addC_open' HN.out HK.out HAB.out HBV.out.symm).symm
                obtain ⟨e0, e1, e2, ff0, ff1, ff2⟩ := xcells hbX9
                obtain ⟨bb', o', Aa', ca', Ab', cb', e, _, gb', _, _, _, m3, m4, m5⟩ := sl2 hM9 HSL.out
                cases e
                have hbl := HVB.out
                have HF := Lib.hid (setx hbX9 (.int .i64 b.k) (.int .i64 b.n) (.slice Ab' b.l.length cb'))
                have HG := Lib.hid gb'
                have HE9 := Lib.hid E9
                clear hbX9 hM9 gb' E9 hbl
                go_wp2_with fail
                go_roundg (size b)
                case measure => exact hsb'
                case rel =>
                  obtain ⟨_, _, b3, b4⟩ := HE9.out.lts
                  obtain ⟨F1, F2⟩ := HF.out
                  exact ⟨⟨b, Ab', cb', S ++ [t], HE9.out.kept F2 hX0 (by omega) (by omega) (by omega) HXv.out, HG.out, HVB.out, Nat.le_refl _, fin.out, F1⟩, by omega⟩
              | false =>
                have fin : Hid ((S ++ [t], L ++ [t]) = R) := by rw [← HR.out]; exact (addC_aside' HN.out HK.out HAB.out HBV.out.symm).symm
                obtain ⟨av, capv, rfl, hcv1, hcv2⟩ := E9.own.shape
                obtain ⟨xs, hrow, hrc⟩ := E9.own
                obtain ⟨e0, e1, e2, _⟩ := xcells hbX9
                have lX := (Array.getElem?_eq_some_iff.1 hbX9).1
                have hbXa := ((heap_alloc wd (.cells #[.int .i64 0, .int .i64 0, .slice none 0 0] 24)).2 X lX).trans hbX9
                obtain ⟨e0a, e1a, e2a, _⟩ := xcells hbXa
                have bV := E9.box
                have cV := bV.cell
                have cVa := (bV.alloc (.cells #[.int .i64 0, .int .i64 0, .slice none 0 0] 24)).cell
                have lB := bV.lt
                obtain ⟨i0, hi, hz0, hz1, hz2⟩ := info_parts Tryd.infoT
                have hTail := Lib.hid (tailG hrow bV)
                have HLeaf := Lib.hid (fun (g1 cap1 : Nat) (w1 : World) (ho : w1.ownsRow w0.heap.size 24 3 (.slice (some ⟨g1, 0, none⟩) (L.length + 1) cap1) (L.length + 1) (xs ++ [.int .i64 0, .int .i64 0, .slice none 0 0])) (hg1 : (wd.alloc zeroT).drew.grownBy w1 (Value.slice av L.length capv).ownBlock) (hor : (Value.slice av L.length capv).ownBlock = some g1 ∨ g1 = (wd.alloc zeroT).drew.heap.size) =>
                  (show AEnv w0 _ I p q r (S ++ [t]) (L ++ [t]) _ ∧ AEnv w0 _ I p q r (S ++ [t]) (L ++ [t]) _ from
                    ⟨E9.leaf hrc HL.out (leafG hrow bV g1 cap1 w1 ho hg1 hor (.int .i64 t.k) (.int .i64 t.n) (.slice (some ⟨bb, o, none⟩) t.l.length cap)).1, E9.leaf hrc HL.out (leafG hrow bV g1 cap1 w1 ho hg1 hor (.int .i64 t.k) (.int .i64 t.n) (.slice (some ⟨bb, o, none⟩) t.l.length cap)).2⟩))
                have hlt1 : (L.length : Int) < (L.length : Int) + 1 := by omega
                have hrowA : (wd.alloc (.cells #[.int .i64 0, .int .i64 0, .slice none 0 0] 24)).drew.ownsRow w0.heap.size 24 3 (.slice av L.length capv) L.length xs := hrow.alloc _
                have hszB : w0.heap.size ≤ (wd.alloc (.cells #[.int .i64 0, .int .i64 0, .slice none 0 0] 24)).drew.heap.size := by show w0.heap.size ≤ (wd.alloc (.cells #[.int .i64 0, .int .i64 0, .slice none 0 0] 24)).heap.size; have := E9.bel.size; simp; omega
                clear bV hrow E9 hbX9 hbXa hM9
                go_upto_region 6 with fail
                go_cut [32] (fun s32 wx => ∃ v', AEnv w0 wx I p q r (S ++ [t]) (L ++ [t]) v')
                case first =>
                  refine wp_region_any (by kernel_rfl) ?_
                  refine wpAny_ready (rs := [0, 1, 3]) (by kernel_rfl) (by simp) ?_
                  refine AllReady.cons rfl (fun K' hK' => ?_) ?_
                  · go_simp
                    refine hK' _ _ ?_
                    clear hK' K'
                    refine wpAny_ready (rs := [1, 2, 3]) (by kernel_rfl) (by simp) ?_
                    refine AllReady.cons rfl (fun K' hK' => ?_) ?_
                    · go_simp
                      refine hK' _ _ ?_
                      clear hK' K'
                      refine wpAny_ready (rs := [2, 3]) (by kernel_rfl) (by simp) ?_
                      refine AllReady.cons rfl (fun K' hK' => ?_) ?_
                      · go_simp
                        refine hK' _ _ ?_
                        clear hK' K'
                        refine wpAny_ready (rs := [3]) (by kernel_rfl) (by simp) ?_
                        refine AllReady.cons rfl (fun K' hK' => ?_) ?_
                        · go_simp
                          refine hK' _ _ ?_
                          clear hK' K'
                          refine wpAny_ready (rs := [4]) (by kernel_rfl) (by simp) ?_
                          refine AllReady.cons rfl (fun K' hK' => ?_) ?_
                          · refine step_append_lies _ rfl _ _ 22 rfl w0.heap.size 24 i0 _ 3 40 Tryd.underlying22 hi hz0 hz1 hz2 rfl (by decide) _ L.length _ rfl hrowA ⟨wd.heap.size, 0, none⟩ 1 1 [.int .i64 0, .int .i64 0, .slice none 0 0] rfl rfl newsZ oneZ (by omega) (by simp only [maxLen]; omega) (by omega) hszB _ rfl ?_; intro g1 cap1 w1 hown1 hg1 hor hgl; obtain ⟨f0, f1, f2, ff0, ff1, ff2, cB, fB, x0, x1, x2, x3, _⟩ := hTail.out g1 cap1 w1 hown1 hg1; have HLF := Lib.hid (HLeaf.out g1 cap1 w1 hown1 hg1 hor); clear hown1 hg1 hor
                            refine hK' _ _ ?_
                            clear hK' K'
                            refine wpAny_ready (rs := [5, 7]) (by kernel_rfl) (by simp) ?_
                            refine AllReady.cons rfl (fun K' hK' => ?_) ?_
                            · go_simp
                              refine hK' _ _ ?_
                              clear hK' K'
                              refine wpAny_ready (rs := [6, 7]) (by kernel_rfl) (by simp) ?_
                              refine AllReady.cons rfl (fun K' hK' => ?_) ?_
                              · go_simp
                                refine hK' _ _ ?_
                                clear hK' K'
                                refine wpAny_ready (rs := [7]) (by kernel_rfl) (by simp) ?_
                                refine AllReady.cons rfl (fun K' hK' => ?_) ?_
                                · go_simp
                                  refine hK' _ _ ?_
                                  clear hK' K'
                                  refine wpAny_done (by kernel_rfl) ?_ _
                                  (go_wp2_with fail; go_meet; first | exact ⟨_, HLF.out.1⟩ | exact ⟨_, HLF.out.2⟩)
                                exact AllReady.nil
                              refine AllReady.cons rfl (fun K' hK' => ?_) ?_
                              · go_simp
                                refine hK' _ _ ?_
                                clear hK' K'
                                refine wpAny_ready (rs := [6]) (by kernel_rfl) (by simp) ?_
                                refine AllReady.cons rfl (fun K' hK' => ?_) ?_
                                · go_simp
                                  refine hK' _ _ ?_
                                  clear hK' K'
                                  refine wpAny_done (by kernel_rfl) ?_ _
                                  (go_wp2_with fail; go_meet; first | exact ⟨_, HLF.out.1⟩ | exact ⟨_, HLF.out.2⟩)
                                exact AllReady.nil
                              exact AllReady.nil
                            refine AllReady.cons rfl (fun K' hK' => ?_) ?_
                            · go_simp
                              refine hK' _ _ ?_
                              clear hK' K'
                              refine wpAny_ready (rs := [5]) (by kernel_rfl) (by simp) ?_
                              refine AllReady.cons rfl (fun K' hK' => ?_) ?_
                              · go_simp
                                refine hK' _ _ ?_
                                clear hK' K'
                                refine wpAny_ready (rs := [6]) (by kernel_rfl) (by simp) ?_
                                refine AllReady.cons rfl (fun K' hK' => ?_) ?_
                                · go_simp
                                  refine hK' _ _ ?_
                                  clear hK' K'
                                  refine wpAny_done (by kernel_rfl) ?_ _
                                  (go_wp2_with fail; go_meet; first | exact ⟨_, HLF.out.1⟩ | exact ⟨_, HLF.out.2⟩)
                                exact AllReady.nil
                              exact AllReady.nil
                            exact AllReady.nil
                          exact AllReady.nil
                        exact AllReady.nil
                      refine AllReady.cons rfl (fun K' hK' => ?_) ?_
                      · go_simp
                        refine hK' _ _ ?_
                        clear hK' K'
                        refine wpAny_ready (rs := [2]) (by kernel_rfl) (by simp) ?_
                        refine AllReady.cons rfl (fun K' hK' => ?_) ?_
                        · go_simp
                          refine hK' _ _ ?_
                          clear hK' K'
                          refine wpAny_ready (rs := [4]) (by kernel_rfl) (by simp) ?_
                          refine AllReady.cons rfl (fun K' hK' => ?_) ?_
                          · refine step_append_lies _ rfl _ _ 22 rfl w0.heap.size 24 i0 _ 3 40 Tryd.underlying22 hi hz0 hz1 hz2 rfl (by decide) _ L.length _ rfl hrowA ⟨wd.heap.size, 0, none⟩ 1 1 [.int .i64 0, .int .i64 0, .slice none 0 0] rfl rfl newsZ oneZ (by omega) (by simp only [maxLen]; omega) (by omega) hszB _ rfl ?_; intro g1 cap1 w1 hown1 hg1 hor hgl; obtain ⟨f0, f1, f2, ff0, ff1, ff2, cB, fB, x0, x1, x2, x3, _⟩ := hTail.out g1 cap1 w1 hown1 hg1; have HLF := Lib.hid (HLeaf.out g1 cap1 w1 hown1 hg1 hor); clear hown1 hg1 hor
                            refine hK' _ _ ?_
                            clear hK' K'
                            refine wpAny_ready (rs := [5, 7]) (by kernel_rfl) (by simp) ?_
                            refine AllReady.cons rfl (fun K' hK' => ?_) ?_
                            · go_simp
                              refine hK' _ _ ?_
                              clear hK' K'
                              refine wpAny_ready (rs := [6, 7]) (by kernel_rfl) (by simp) ?_
                              refine AllReady.cons rfl (fun K' hK' => ?_) ?_
                              · go_simp
                                refine hK' _ _ ?_
                                clear hK' K'
                                refine wpAny_ready (rs := [7]) (by kernel_rfl) (by simp) ?_
                                refine AllReady.cons rfl (fun K' hK' => ?_) ?_
                                · go_simp
                                  refine hK' _ _ ?_
                                  clear hK' K'
                                  refine wpAny_done (by kernel_rfl) ?_ _
                                  (go_wp2_with fail; go_meet; first | exact ⟨_, HLF.out.1⟩ | exact ⟨_, HLF.out.2⟩)
                                exact AllReady.nil
                              refine AllReady.cons rfl (fun K' hK' => ?_) ?_
                              · go_simp
                                refine hK' _ _ ?_
                                clear hK' K'
                                refine wpAny_ready (rs := [6]) (by kernel_rfl) (by simp) ?_
                                refine AllReady.cons rfl (fun K' hK' => ?_) ?_
                                · go_simp
                                  refine hK' _ _ ?_
                                  clear hK' K'
                                  refine wpAny_done (by kernel_rfl) ?_ _
                                  (go_wp2_with fail; go_meet; first | exact ⟨_, HLF.out.1⟩ | exact ⟨_, HLF.out.2⟩)
                                exact AllReady.nil
                              exact AllReady.nil
                            refine AllReady.cons rfl (fun K' hK' => ?_) ?_
                            · go_simp
                              refine hK' _ _ ?_
                              clear hK' K'
                              refine wpAny_ready (rs := [5]) (by kernel_rfl) (by simp) ?_
                              refine AllReady.cons rfl (fun K' hK' => ?_) ?_
                              · go_simp
                                refine hK' _ _ ?_
                                clear hK' K'
                                refine wpAny_ready (rs := [6]) (by kernel_rfl) (by simp) ?_
                                refine AllReady.cons rfl (fun K' hK' => ?_) ?_
                                · go_simp
                                  refine hK' _ _ ?_
                                  clear hK' K'
                                  refine wpAny_done (by kernel_rfl) ?_ _
                                  (go_wp2_with fail; go_meet; first | exact ⟨_, HLF.out.1⟩ | exact ⟨_, HLF.out.2⟩)
                                exact AllReady.nil
                              exact AllReady.nil
                            exact AllReady.nil
                          exact AllReady.nil
                        exact AllReady.nil
                      exact AllReady.nil
                    refine AllReady.cons rfl (fun K' hK' => ?_) ?_
                    · go_simp
                      refine hK' _ _ ?_
                      clear hK' K'
                      refine wpAny_ready (rs := [1, 3]) (by kernel_rfl) (by simp) ?_
                      refine AllReady.cons rfl (fun K' hK' => ?_) ?_
                      · go_simp
                        refine hK' _ _ ?_
                        clear hK' K'
                        refine wpAny_ready (rs := [3]) (by kernel_rfl) (by simp) ?_
                        refine AllReady.cons rfl (fun K' hK' => ?_) ?_
                        · go_simp
                          refine hK' _ _ ?_
                          clear hK' K'
                          refine wpAny_ready (rs := [4]) (by kernel_rfl) (by simp) ?_
                          refine AllReady.cons rfl (fun K' hK' => ?_) ?_
                          · refine step_append_lies _ rfl _ _ 22 rfl w0.heap.size 24 i0 _ 3 40 Tryd.underlying22 hi hz0 hz1 hz2 rfl (by decide) _ L.length _ rfl hrowA ⟨wd.heap.size, 0, none⟩ 1 1 [.int .i64 0, .int .i64 0, .slice none 0 0] rfl rfl newsZ oneZ (by omega) (by simp only [maxLen]; omega) (by omega) hszB _ rfl ?_; intro g1 cap1 w1 hown1 hg1 hor hgl; obtain ⟨f0, f1, f2, ff0, ff1, ff2, cB, fB, x0, x1, x2, x3, _⟩ := hTail.out g1 cap1 w1 hown1 hg1; have HLF := Lib.hid (HLeaf.out g1 cap1 w1 hown1 hg1 hor); clear hown1 hg1 hor
                            refine hK' _ _ ?_
                            clear hK' K'
                            refine wpAny_ready (rs := [5, 7]) (by kernel_rfl) (by simp) ?_
                            refine AllReady.cons rfl (fun K' hK' => ?_) ?_
                            · go_simp
                              refine hK' _ _ ?_
                              clear hK' K'
                              refine wpAny_ready (rs := [6, 7]) (by kernel_rfl) (by simp) ?_
                              refine AllReady.cons rfl (fun K' hK' => ?_) ?_
                              · go_simp
                                refine hK' _ _ ?_
                                clear hK' K'
                                refine wpAny_ready (rs := [7]) (by kernel_rfl) (by simp) ?_
                                refine AllReady.cons rfl (fun K' hK' => ?_) ?_
                                · go_simp
                                  refine hK' _ _ ?_
                                  clear hK' K'
                                  refine wpAny_done (by kernel_rfl) ?_ _
                                  (go_wp2_with fail; go_meet; first | exact ⟨_, HLF.out.1⟩ | exact ⟨_, HLF.out.2⟩)
                                exact AllReady.nil
                              refine AllReady.cons rfl (fun K' hK' => ?_) ?_
                              · go_simp
                                refine hK' _ _ ?_
                                clear hK' K'
                                refine wpAny_ready (rs := [6]) (by kernel_rfl) (by simp) ?_
                                refine AllReady.cons rfl (fun K' hK' => ?_) ?_
                                · go_simp
                                  refine hK' _ _ ?_
                                  clear hK' K'
                                  refine wpAny_done (by kernel_rfl) ?_ _
                                  (go_wp2_with fail; go_meet; first | exact ⟨_, HLF.out.1⟩ | exact ⟨_, HLF.out.2⟩)
                                exact AllReady.nil
                              exact AllReady.nil
                            refine AllReady.cons rfl (fun K' hK' => ?_) ?_
                            · go_simp
                              refine hK' _ _ ?_
                              clear hK' K'
                              refine wpAny_ready (rs := [5]) (by kernel_rfl) (by simp) ?_
                              refine AllReady.cons rfl (fun K' hK' => ?_) ?_
                              · go_simp
                                refine hK' _ _ ?_
                                clear hK' K'
                                refine wpAny_ready (rs := [6]) (by kernel_rfl) (by simp) ?_
                                refine AllReady.cons rfl (fun K' hK' => ?_) ?_
                                · go_simp
                                  refine hK' _ _ ?_
                                  clear hK' K'
                                  refine wpAny_done (by kernel_rfl) ?_ _
                                  (go_wp2_with fail; go_meet; first | exact ⟨_, HLF.out.1⟩ | exact ⟨_, HLF.out.2⟩)
                                exact AllReady.nil
                              exact AllReady.nil
                            exact AllReady.nil
                          exact AllReady.nil
                        exact AllReady.nil
                      refine AllReady.cons rfl (fun K' hK' => ?_) ?_
                      · go_simp
                        refine hK' _ _ ?_
                        clear hK' K'
                        refine wpAny_ready (rs := [1]) (by kernel_rfl) (by simp) ?_
                        refine AllReady.cons rfl (fun K' hK' => ?_) ?_
                        · go_simp
                          refine hK' _ _ ?_
                          clear hK' K'
                          refine wpAny_ready (rs := [4]) (by kernel_rfl) (by simp) ?_
                          refine AllReady.cons rfl (fun K' hK' => ?_) ?_
                          · refine step_append_lies _ rfl _ _ 22 rfl w0.heap.size 24 i0 _ 3 40 Tryd.underlying22 hi hz0 hz1 hz2 rfl (by decide) _ L.length _ rfl hrowA ⟨wd.heap.size, 0, none⟩ 1 1 [.int .i64 0, .int .i64 0, .slice none 0 0] rfl rfl newsZ oneZ (by omega) (by simp only [maxLen]; omega) (by omega) hszB _ rfl ?_; intro g1 cap1 w1 hown1 hg1 hor hgl; obtain ⟨f0, f1, f2, ff0, ff1, ff2, cB, fB, x0, x1, x2, x3, _⟩ := hTail.out g1 cap1 w1 hown1 hg1; have HLF := Lib.hid (HLeaf.out g1 cap1 w1 hown1 hg1 hor); clear hown1 hg1 hor
                            refine hK' _ _ ?_
                            clear hK' K'
                            refine wpAny_ready (rs := [5, 7]) (by kernel_rfl) (by simp) ?_
                            refine AllReady.cons rfl (fun K' hK' => ?_) ?_
                            · go_simp
                              refine hK' _ _ ?_
                              clear hK' K'
                              refine wpAny_ready (rs := [6, 7]) (by kernel_rfl) (by simp) ?_
                              refine AllReady.cons rfl (fun K' hK' => ?_) ?_
                              · go_simp
                                refine hK' _ _ ?_
                                clear hK' K'
                                refine wpAny_ready (rs := [7]) (by kernel_rfl) (by simp) ?_
                                refine AllReady.cons rfl (fun K' hK' => ?_) ?_
                                · go_simp
                                  refine hK' _ _ ?_
                                  clear hK' K'
                                  refine wpAny_done (by kernel_rfl) ?_ _
                                  (go_wp2_with fail; go_meet; first | exact ⟨_, HLF.out.1⟩ | exact ⟨_, HLF.out.2⟩)
                                exact AllReady.nil
                              refine AllReady.cons rfl (fun K' hK' => ?_) ?_
                              · go_simp
                                refine hK' _ _ ?_
                                clear hK' K'
                                refine wpAny_ready (rs := [6]) (by kernel_rfl) (by simp) ?_
                                refine AllReady.cons rfl (fun K' hK' => ?_) ?_
                                · go_simp
                                  refine hK' _ _ ?_
                                  clear hK' K'
                                  refine wpAny_done (by kernel_rfl) ?_ _
                                  (go_wp2_with fail; go_meet; first | exact ⟨_, HLF.out.1⟩ | exact ⟨_, HLF.out.2⟩)
                                exact AllReady.nil
                              exact AllReady.nil
                            refine AllReady.cons rfl (fun K' hK' => ?_) ?_
                            · go_simp
                              refine hK' _ _ ?_
                              clear hK' K'
                              refine wpAny_ready (rs := [5]) (by kernel_rfl) (by simp) ?_
                              refine AllReady.cons rfl (fun K' hK' => ?_) ?_
                              · go_simp
                                refine hK' _ _ ?_
                                clear hK' K'
                                refine wpAny_ready (rs := [6]) (by kernel_rfl) (by simp) ?_
                                refine AllReady.cons rfl (fun K' hK' => ?_) ?_
                                · go_simp
                                  refine hK' _ _ ?_
                                  clear hK' K'
                                  refine wpAny_done (by kernel_rfl) ?_ _
                                  (go_wp2_with fail; go_meet; first | exact ⟨_, HLF.out.1⟩ | exact ⟨_, HLF.out.2⟩)
                                exact AllReady.nil
                              exact AllReady.nil
                            exact AllReady.nil
                          exact AllReady.nil
                        exact AllReady.nil
                      exact AllReady.nil
                    refine AllReady.cons rfl (fun K' hK' => ?_) ?_
                    · go_simp
                      refine hK' _ _ ?_
                      clear hK' K'
                      refine wpAny_ready (rs := [1, 2]) (by kernel_rfl) (by simp) ?_
                      refine AllReady.cons rfl (fun K' hK' => ?_) ?_
                      · go_simp
                        refine hK' _ _ ?_
                        clear hK' K'
                        refine wpAny_ready (rs := [2]) (by kernel_rfl) (by simp) ?_
                        refine AllReady.cons rfl (fun K' hK' => ?_) ?_
                        · go_simp
                          refine hK' _ _ ?_
                          clear hK' K'
                          refine wpAny_ready (rs := [4]) (by kernel_rfl) (by simp) ?_
                          refine AllReady.cons rfl (fun K' hK' => ?_) ?_
                          · refine step_append_lies _ rfl _ _ 22 rfl w0.heap.size 24 i0 _ 3 40 Tryd.underlying22 hi hz0 hz1 hz2 rfl (by decide) _ L.length _ rfl hrowA ⟨wd.heap.size, 0, none⟩ 1 1 [.int .i64 0, .int .i64 0, .slice none 0 0] rfl rfl newsZ oneZ (by omega) (by simp only [maxLen]; omega) (by omega) hszB _ rfl ?_; intro g1 cap1 w1 hown1 hg1 hor hgl; obtain ⟨f0, f1, f2, ff0, ff1, ff2, cB, fB, x0, x1, x2, x3, _⟩ := hTail.out g1 cap1 w1 hown1 hg1; have HLF := Lib.hid (HLeaf.out g1 cap1 w1 hown1 hg1 hor); clear hown1 hg1 hor
                            refine hK' _ _ ?_
                            clear hK' K'
                            refine wpAny_ready (rs := [5, 7]) (by kernel_rfl) (by simp) ?_
                            refine AllReady.cons rfl (fun K' hK' => ?_) ?_
                            · go_simp
                              refine hK' _ _ ?_
                              clear hK' K'
                              refine wpAny_ready (rs := [6, 7]) (by kernel_rfl) (by simp) ?_
                              refine AllReady.cons rfl (fun K' hK' => ?_) ?_
                              · go_simp
                                refine hK' _ _ ?_
                                clear hK' K'
                                refine wpAny_ready (rs := [7]) (by kernel_rfl) (by simp) ?_
                                refine AllReady.cons rfl (fun K' hK' => ?_) ?_
                                · go_simp
                                  refine hK' _ _ ?_
                                  clear hK' K'
                                  refine wpAny_done (by kernel_rfl) ?_ _
                                  (go_wp2_with fail; go_meet; first | exact ⟨_, HLF.out.1⟩ | exact ⟨_, HLF.out.2⟩)
                                exact AllReady.nil
                              refine AllReady.cons rfl (fun K' hK' => ?_) ?_
                              · go_simp
                                refine hK' _ _ ?_
                                clear hK' K'
                                refine wpAny_ready (rs := [6]) (by kernel_rfl) (by simp) ?_
                                refine AllReady.cons rfl (fun K' hK' => ?_) ?_
                                · go_simp
                                  refine hK' _ _ ?_
                                  clear hK' K'
                                  refine wpAny_done (by kernel_rfl) ?_ _
                                  (go_wp2_with fail; go_meet; first | exact ⟨_, HLF.out.1⟩ | exact ⟨_, HLF.out.2⟩)
                                exact AllReady.nil
                              exact AllReady.nil
                            refine AllReady.cons rfl (fun K' hK' => ?_) ?_
                            · go_simp
                              refine hK' _ _ ?_
                              clear hK' K'
                              refine wpAny_ready (rs := [5]) (by kernel_rfl) (by simp) ?_
                              refine AllReady.cons rfl (fun K' hK' => ?_) ?_
                              · go_simp
                                refine hK' _ _ ?_
                                clear hK' K'
                                refine wpAny_ready (rs := [6]) (by kernel_rfl) (by simp) ?_
                                refine AllReady.cons rfl (fun K' hK' => ?_) ?_
                                · go_simp
                                  refine hK' _ _ ?_
                                  clear hK' K'
                                  refine wpAny_done (by kernel_rfl) ?_ _
                                  (go_wp2_with fail; go_meet; first | exact ⟨_, HLF.out.1⟩ | exact ⟨_, HLF.out.2⟩)
                                exact AllReady.nil
                              exact AllReady.nil
                            exact AllReady.nil
                          exact AllReady.nil
                        exact AllReady.nil
                      refine AllReady.cons rfl (fun K' hK' => ?_) ?_
                      · go_simp
                        refine hK' _ _ ?_
                        clear hK' K'
                        refine wpAny_ready (rs := [1]) (by kernel_rfl) (by simp) ?_
                        refine AllReady.cons rfl (fun K' hK' => ?_) ?_
                        · go_simp
                          refine hK' _ _ ?_
                          clear hK' K'
                          refine wpAny_ready (rs := [4]) (by kernel_rfl) (by simp) ?_
                          refine AllReady.cons rfl (fun K' hK' => ?_) ?_
                          · refine step_append_lies _ rfl _ _ 22 rfl w0.heap.size 24 i0 _ 3 40 Tryd.underlying22 hi hz0 hz1 hz2 rfl (by decide) _ L.length _ rfl hrowA ⟨wd.heap.size, 0, none⟩ 1 1 [.int .i64 0, .int .i64 0, .slice none 0 0] rfl rfl newsZ oneZ (by omega) (by simp only [maxLen]; omega) (by omega) hszB _ rfl ?_; intro g1 cap1 w1 hown1 hg1 hor hgl; obtain ⟨f0, f1, f2, ff0, ff1, ff2, cB, fB, x0, x1, x2, x3, _⟩ := hTail.out g1 cap1 w1 hown1 hg1; have HLF := Lib.hid (HLeaf.out g1 cap1 w1 hown1 hg1 hor); clear hown1 hg1 hor
                            refine hK' _ _ ?_
                            clear hK' K'
                            refine wpAny_ready (rs := [5, 7]) (by kernel_rfl) (by simp) ?_
                            refine AllReady.cons rfl (fun K' hK' => ?_) ?_
                            · go_simp
                              refine hK' _ _ ?_
                              clear hK' K'
                              refine wpAny_ready (rs := [6, 7]) (by kernel_rfl) (by simp) ?_
                              refine AllReady.cons rfl (fun K' hK' => ?_) ?_
                              · go_simp
                                refine hK' _ _ ?_
                                clear hK' K'
                                refine wpAny_ready (rs := [7]) (by kernel_rfl) (by simp) ?_
                                refine AllReady.cons rfl (fun K' hK' => ?_) ?_
                                · go_simp
                                  refine hK' _ _ ?_
                                  clear hK' K'
                                  refine wpAny_done (by kernel_rfl) ?_ _
                                  (go_wp2_with fail; go_meet; first | exact ⟨_, HLF.out.1⟩ | exact ⟨_, HLF.out.2⟩)
                                exact AllReady.nil
                              refine AllReady.cons rfl (fun K' hK' => ?_) ?_
                              · go_simp
                                refine hK' _ _ ?_
                                clear hK' K'
                                refine wpAny_ready (rs := [6]) (by kernel_rfl) (by simp) ?_
                                refine AllReady.cons rfl (fun K' hK' => ?_) ?_
                                · go_simp
                                  refine hK' _ _ ?_
                                  clear hK' K'
                                  refine wpAny_done (by kernel_rfl) ?_ _
                                  (go_wp2_with fail; go_meet; first | exact ⟨_, HLF.out.1⟩ | exact ⟨_, HLF.out.2⟩)
                                exact AllReady.nil
                              exact AllReady.nil
                            refine AllReady.cons rfl (fun K' hK' => ?_) ?_
                            · go_simp
                              refine hK' _ _ ?_
                              clear hK' K'
                              refine wpAny_ready (rs := [5]) (by kernel_rfl) (by simp) ?_
                              refine AllReady.cons rfl (fun K' hK' => ?_) ?_
                              · go_simp
                                refine hK' _ _ ?_
                                clear hK' K'
                                refine wpAny_ready (rs := [6]) (by kernel_rfl) (by simp) ?_
                                refine AllReady.cons rfl (fun K' hK' => ?_) ?_
                                · go_simp
                                  refine hK' _ _ ?_
                                  clear hK' K'
                                  refine wpAny_done (by kernel_rfl) ?_ _
                                  (go_wp2_with fail; go_meet; first | exact ⟨_, HLF.out.1⟩ | exact ⟨_, HLF.out.2⟩)
                                exact AllReady.nil
                              exact AllReady.nil
                            exact AllReady.nil
                          exact AllReady.nil
                        exact AllReady.nil
                      exact AllReady.nil
                    exact AllReady.nil
                  refine AllReady.cons rfl (fun K' hK' => ?_) ?_
                  · go_simp
                    refine hK' _ _ ?_
                    clear hK' K'
                    refine wpAny_ready (rs := [0, 3]) (by kernel_rfl) (by simp) ?_
                    refine AllReady.cons rfl (fun K' hK' => ?_) ?_
                    · go_simp
                      refine hK' _ _ ?_
                      clear hK' K'
                      refine wpAny_ready (rs := [2, 3]) (by kernel_rfl) (by simp) ?_
                      refine AllReady.cons rfl (fun K' hK' => ?_) ?_
                      · go_simp
                        refine hK' _ _ ?_
                        clear hK' K'
                        refine wpAny_ready (rs := [3]) (by kernel_rfl) (by simp) ?_
                        refine AllReady.cons rfl (fun K' hK' => ?_) ?_
                        · go_simp
                          refine hK' _ _ ?_
                          clear hK' K'
                          refine wpAny_ready (rs := [4]) (by kernel_rfl) (by simp) ?_
                          refine AllReady.cons rfl (fun K' hK' => ?_) ?_
                          · refine step_append_lies _ rfl _ _ 22 rfl w0.heap.size 24 i0 _ 3 40 Tryd.underlying22 hi hz0 hz1 hz2 rfl (by decide) _ L.length _ rfl hrowA ⟨wd.heap.size, 0, none⟩ 1 1 [.int .i64 0, .int .i64 0, .slice none 0 0] rfl rfl newsZ oneZ (by omega) (by simp only [maxLen]; omega) (by omega) hszB _ rfl ?_; intro g1 cap1 w1 hown1 hg1 hor hgl; obtain ⟨f0, f1, f2, ff0, ff1, ff2, cB, fB, x0, x1, x2, x3, _⟩ := hTail.out g1 cap1 w1 hown1 hg1; have HLF := Lib.hid (HLeaf.out g1 cap1 w1 hown1 hg1 hor); clear hown1 hg1 hor
                            refine hK' _ _ ?_
                            clear hK' K'
                            refine wpAny_ready (rs := [5, 7]) (by kernel_rfl) (by simp) ?_
                            refine AllReady.cons rfl (fun K' hK' => ?_) ?_
                            · go_simp
                              refine hK' _ _ ?_
                              clear hK' K'
                              refine wpAny_ready (rs := [6, 7]) (by kernel_rfl) (by simp) ?_
                              refine AllReady.cons rfl (fun K' hK' => ?_) ?_
                              · go_simp
                                refine hK' _ _ ?_
                                clear hK' K'
                                refine wpAny_ready (rs := [7]) (by kernel_rfl) (by simp) ?_
                                refine AllReady.cons rfl (fun K' hK' => ?_) ?_
                                · go_simp
                                  refine hK' _ _ ?_
                                  clear hK' K'
                                  refine wpAny_done (by kernel_rfl) ?_ _
                                  (go_wp2_with fail; go_meet; first | exact ⟨_, HLF.out.1⟩ | exact ⟨_, HLF.out.2⟩)
                                exact AllReady.nil
                              refine AllReady.cons rfl (fun K' hK' => ?_) ?_
                              · go_simp
                                refine hK' _ _ ?_
                                clear hK' K'
                                refine wpAny_ready (rs := [6]) (by kernel_rfl) (by simp) ?_
                                refine AllReady.cons rfl (fun K' hK' => ?_) ?_
                                · go_simp
                                  refine hK' _ _ ?_
                                  clear hK' K'
                                  refine wpAny_done (by kernel_rfl) ?_ _
                                  (go_wp2_with fail; go_meet; first | exact ⟨_, HLF.out.1⟩ | exact ⟨_, HLF.out.2⟩)
                                exact AllReady.nil
                              exact AllReady.nil
                            refine AllReady.cons rfl (fun K' hK' => ?_) ?_
                            · go_simp
                              refine hK' _ _ ?_
                              clear hK' K'
                              refine wpAny_ready (rs := [5]) (by kernel_rfl) (by simp) ?_
                              refine AllReady.cons rfl (fun K' hK' => ?_) ?_
                              · go_simp
                                refine hK' _ _ ?_
                                clear hK' K'
                                refine wpAny_ready (rs := [6]) (by kernel_rfl) (by simp) ?_
                                refine AllReady.cons rfl (fun K' hK' => ?_) ?_
                                · go_simp
                                  refine hK' _ _ ?_
                                  clear hK' K'
                                  refine wpAny_done (by kernel_rfl) ?_ _
                                  (go_wp2_with fail; go_meet; first | exact ⟨_, HLF.out.1⟩ | exact ⟨_, HLF.out.2⟩)
                                exact AllReady.nil
                              exact AllReady.nil
                            exact AllReady.nil
                          exact AllReady.nil
                        exact AllReady.nil
                      refine AllReady.cons rfl (fun K' hK' => ?_) ?_
                      · go_simp
                        refine hK' _ _ ?_
                        clear hK' K'
                        refine wpAny_ready (rs := [2]) (by kernel_rfl) (by simp) ?_
                        refine AllReady.cons rfl (fun K' hK' => ?_) ?_
                        · go_simp
                          refine hK' _ _ ?_
                          clear hK' K'
                          refine wpAny_ready (rs := [4]) (by kernel_rfl) (by simp) ?_
                          refine AllReady.cons rfl (fun K' hK' => ?_) ?_
                          · refine step_append_lies _ rfl _ _ 22 rfl w0.heap.size 24 i0 _ 3 40 Tryd.underlying22 hi hz0 hz1 hz2 rfl (by decide) _ L.length _ rfl hrowA ⟨wd.heap.size, 0, none⟩ 1 1 [.int .i64 0, .int .i64 0, .slice none 0 0] rfl rfl newsZ oneZ (by omega) (by simp only [maxLen]; omega) (by omega) hszB _ rfl ?_; intro g1 cap1 w1 hown1 hg1 hor hgl; obtain ⟨f0, f1, f2, ff0, ff1, ff2, cB, fB, x0, x1, x2, x3, _⟩ := hTail.out g1 cap1 w1 hown1 hg1; have HLF := Lib.hid (HLeaf.out g1 cap1 w1 hown1 hg1 hor); clear hown1 hg1 hor
                            refine hK' _ _ ?_
                            clear hK' K'
                            refine wpAny_ready (rs := [5, 7]) (by kernel_rfl) (by simp) ?_
                            refine AllReady.cons rfl (fun K' hK' => ?_) ?_
                            · go_simp
                              refine hK' _ _ ?_
                              clear hK' K'
                              refine wpAny_ready (rs := [6, 7]) (by kernel_rfl) (by simp) ?_
                              refine AllReady.cons rfl (fun K' hK' => ?_) ?_
                              · go_simp
                                refine hK' _ _ ?_
                                clear hK' K'
                                refine wpAny_ready (rs := [7]) (by kernel_rfl) (by simp) ?_
                                refine AllReady.cons rfl (fun K' hK' => ?_) ?_
                                · go_simp
                                  refine hK' _ _ ?_
                                  clear hK' K'
                                  refine wpAny_done (by kernel_rfl) ?_ _
                                  (go_wp2_with fail; go_meet; first | exact ⟨_, HLF.out.1⟩ | exact ⟨_, HLF.out.2⟩)
                                exact AllReady.nil
                              refine AllReady.cons rfl (fun K' hK' => ?_) ?_
                              · go_simp
                                refine hK' _ _ ?_
                                clear hK' K'
                                refine wpAny_ready (rs := [6]) (by kernel_rfl) (by simp) ?_
                                refine AllReady.cons rfl (fun K' hK' => ?_) ?_
                                · go_simp
                                  refine hK' _ _ ?_
                                  clear hK' K'
                                  refine wpAny_done (by kernel_rfl) ?_ _
                                  (go_wp2_with fail; go_meet; first | exact ⟨_, HLF.out.1⟩ | exact ⟨_, HLF.out.2⟩)
                                exact AllReady.nil
                              exact AllReady.nil
                            refine AllReady.cons rfl (fun K' hK' => ?_) ?_
                            · go_simp
                              refine hK' _ _ ?_
                              clear hK' K'
                              refine wpAny_ready (rs := [5]) (by kernel_rfl) (by simp) ?_
                              refine AllReady.cons rfl (fun K' hK' => ?_) ?_
                              · go_simp
                                refine hK' _ _ ?_
                                clear hK' K'
                                refine wpAny_ready (rs := [6]) (by kernel_rfl) (by simp) ?_
                                refine AllReady.cons rfl (fun K' hK' => ?_) ?_
                                · go_simp
                                  refine hK' _ _ ?_
                                  clear hK' K'
                                  refine wpAny_done (by kernel_rfl) ?_ _
                                  (go_wp2_with fail; go_meet; first | exact ⟨_, HLF.out.1⟩ | exact ⟨_, HLF.out.2⟩)
                                exact AllReady.nil
                              exact AllReady.nil
                            exact AllReady.nil
                          exact AllReady.nil
                        exact AllReady.nil
                      exact AllReady.nil
                    refine AllReady.cons rfl (fun K' hK' => ?_) ?_
                    · go_simp
                      refine hK' _ _ ?_
                      clear hK' K'
                      refine wpAny_ready (rs := [0]) (by kernel_rfl) (by simp) ?_
                      refine AllReady.cons rfl (fun K' hK' => ?_) ?_
                      · go_simp
                        refine hK' _ _ ?_
                        clear hK' K'
                        refine wpAny_ready (rs := [2]) (by kernel_rfl) (by simp) ?_
                        refine AllReady.cons rfl (fun K' hK' => ?_) ?_
                        · go_simp
                          refine hK' _ _ ?_
                          clear hK' K'
                          refine wpAny_ready (rs := [4]) (by kernel_rfl) (by simp) ?_
                          refine AllReady.cons rfl (fun K' hK' => ?_) ?_
                          · refine step_append_lies _ rfl _ _ 22 rfl w0.heap.size 24 i0 _ 3 40 Tryd.underlying22 hi hz0 hz1 hz2 rfl (by decide) _ L.length _ rfl hrowA ⟨wd.heap.size, 0, none⟩ 1 1 [.int .i64 0, .int .i64 0, .slice none 0 0] rfl rfl newsZ oneZ (by omega) (by simp only [maxLen]; omega) (by omega) hszB _ rfl ?_; intro g1 cap1 w1 hown1 hg1 hor hgl; obtain ⟨f0, f1, f2, ff0, ff1, ff2, cB, fB, x0, x1, x2, x3, _⟩ := hTail.out g1 cap1 w1 hown1 hg1; have HLF := Lib.hid (HLeaf.out g1 cap1 w1 hown1 hg1 hor); clear hown1 hg1 hor
                            refine hK' _ _ ?_
                            clear hK' K'
                            refine wpAny_ready (rs := [5, 7]) (by kernel_rfl) (by simp) ?_
                            refine AllReady.cons rfl (fun K' hK' => ?_) ?_
                            · go_simp
                              refine hK' _ _ ?_
                              clear hK' K'
                              refine wpAny_ready (rs := [6, 7]) (by kernel_rfl) (by simp) ?_
                              refine AllReady.cons rfl (fun K' hK' => ?_) ?_
                              · go_simp
                                refine hK' _ _ ?_
                                clear hK' K'
                                refine wpAny_ready (rs := [7]) (by kernel_rfl) (by simp) ?_
                                refine AllReady.cons rfl (fun K' hK' => ?_) ?_
                                · go_simp
                                  refine hK' _ _ ?_
                                  clear hK' K'
                                  refine wpAny_done (by kernel_rfl) ?_ _
                                  (go_wp2_with fail; go_meet; first | exact ⟨_, HLF.out.1⟩ | exact ⟨_, HLF.out.2⟩)
                                exact AllReady.nil
                              refine AllReady.cons rfl (fun K' hK' => ?_) ?_
                              · go_simp
                                refine hK' _ _ ?_
                                clear hK' K'
                                refine wpAny_ready (rs := [6]) (by kernel_rfl) (by simp) ?_
                                refine AllReady.cons rfl (fun K' hK' => ?_) ?_
                                · go_simp
                                  refine hK' _ _ ?_
                                  clear hK' K'
                                  refine wpAny_done (by kernel_rfl) ?_ _
                                  (go_wp2_with fail; go_meet; first | exact ⟨_, HLF.out.1⟩ | exact ⟨_, HLF.out.2⟩)
                                exact AllReady.nil
                              exact AllReady.nil
                            refine AllReady.cons rfl (fun K' hK' => ?_) ?_
                            · go_simp
                              refine hK' _ _ ?_
                              clear hK' K'
                              refine wpAny_ready (rs := [5]) (by kernel_rfl) (by simp) ?_
                              refine AllReady.cons rfl (fun K' hK' => ?_) ?_
                              · go_simp
                                refine hK' _ _ ?_
                                clear hK' K'
                                refine wpAny_ready (rs := [6]) (by kernel_rfl) (by simp) ?_
                                refine AllReady.cons rfl (fun K' hK' => ?_) ?_
                                · go_simp
                                  refine hK' _ _ ?_
                                  clear hK' K'
                                  refine wpAny_done (by kernel_rfl) ?_ _
                                  (go_wp2_with fail; go_meet; first | exact ⟨_, HLF.out.1⟩ | exact ⟨_, HLF.out.2⟩)
                                exact AllReady.nil
                              exact AllReady.nil
                            exact AllReady.nil
                          exact AllReady.nil
                        exact AllReady.nil
                      exact AllReady.nil
                    exact AllReady.nil
                  refine AllReady.cons rfl (fun K' hK' => ?_) ?_
                  · go_simp
                    refine hK' _ _ ?_
                    clear hK' K'
                    refine wpAny_ready (rs := [0, 1]) (by kernel_rfl) (by simp) ?_
                    refine AllReady.cons rfl (fun K' hK' => ?_) ?_
                    · go_simp
                      refine hK' _ _ ?_
                      clear hK' K'
                      refine wpAny_ready (rs := [1, 2]) (by kernel_rfl) (by simp) ?_
                      refine AllReady.cons rfl (fun K' hK' => ?_) ?_
                      · go_simp
                        refine hK' _ _ ?_
                        clear hK' K'
                        refine wpAny_ready (rs := [2]) (by kernel_rfl) (by simp) ?_
                        refine AllReady.cons rfl (fun K' hK' => ?_) ?_
                        · go_simp
                          refine hK' _ _ ?_
                          clear hK' K'
                          refine wpAny_ready (rs := [4]) (by kernel_rfl) (by simp) ?_
                          refine AllReady.cons rfl (fun K' hK' => ?_) ?_
                          · refine step_append_lies _ rfl _ _ 22 rfl w0.heap.size 24 i0 _ 3 40 Tryd.underlying22 hi hz0 hz1 hz2 rfl (by decide) _ L.length _ rfl hrowA ⟨wd.heap.size, 0, none⟩ 1 1 [.int .i64 0, .int .i64 0, .slice none 0 0] rfl rfl newsZ oneZ (by omega) (by simp only [maxLen]; omega) (by omega) hszB _ rfl ?_; intro g1 cap1 w1 hown1 hg1 hor hgl; obtain ⟨f0, f1, f2, ff0, ff1, ff2, cB, fB, x0, x1, x2, x3, _⟩ := hTail.out g1 cap1 w1 hown1 hg1; have HLF := Lib.hid (HLeaf.out g1 cap1 w1 hown1 hg1 hor); clear hown1 hg1 hor
                            refine hK' _ _ ?_
                            clear hK' K'
                            refine wpAny_ready (rs := [5, 7]) (by kernel_rfl) (by simp) ?_
                            refine AllReady.cons rfl (fun K' hK' => ?_) ?_
                            · go_simp
                              refine hK' _ _ ?_
                              clear hK' K'
                              refine wpAny_ready (rs := [6, 7]) (by kernel_rfl) (by simp) ?_
                              refine AllReady.cons rfl (fun K' hK' => ?_) ?_
                              · go_simp
                                refine hK' _ _ ?_
                                clear hK' K'
                                refine wpAny_ready (rs := [7]) (by kernel_rfl) (by simp) ?_
                                refine AllReady.cons rfl (fun K' hK' => ?_) ?_
                                · go_simp
                                  refine hK' _ _ ?_
                                  clear hK' K'
                                  refine wpAny_done (by kernel_rfl) ?_ _
                                  (go_wp2_with fail; go_meet; first | exact ⟨_, HLF.out.1⟩ | exact ⟨_, HLF.out.2⟩)
                                exact AllReady.nil
                              refine AllReady.cons rfl (fun K' hK' => ?_) ?_
                              · go_simp
                                refine hK' _ _ ?_
                                clear hK' K'
                                refine wpAny_ready (rs := [6]) (by kernel_rfl) (by simp) ?_
                                refine AllReady.cons rfl (fun K' hK' => ?_) ?_
                                · go_simp
                                  refine hK' _ _ ?_
                                  clear hK' K'
                                  refine wpAny_done (by kernel_rfl) ?_ _
                                  (go_wp2_with fail; go_meet; first | exact ⟨_, HLF.out.1⟩ | exact ⟨_, HLF.out.2⟩)
                                exact AllReady.nil
                              exact AllReady.nil
                            refine AllReady.cons rfl (fun K' hK' => ?_) ?_
                            · go_simp
                              refine hK' _ _ ?_
                              clear hK' K'
                              refine wpAny_ready (rs := [5]) (by kernel_rfl) (by simp) ?_
                              refine AllReady.cons rfl (fun K' hK' => ?_) ?_
                              · go_simp
                                refine hK' _ _ ?_
                                clear hK' K'
                                refine wpAny_ready (rs := [6]) (by kernel_rfl) (by simp) ?_
                                refine AllReady.cons rfl (fun K' hK' => ?_) ?_
                                · go_simp
                                  refine hK' _ _ ?_
                                  clear hK' K'
                                  refine wpAny_done (by kernel_rfl) ?_ _
                                  (go_wp2_with fail; go_meet; first | exact ⟨_, HLF.out.1⟩ | exact ⟨_, HLF.out.2⟩)
                                exact AllReady.nil
                              exact AllReady.nil
                            exact AllReady.nil
                          exact AllReady.nil
                        exact AllReady.nil
                      refine AllReady.cons rfl (fun K' hK' => ?_) ?_
                      · go_simp
                        refine hK' _ _ ?_
                        clear hK' K'
                        refine wpAny_ready (rs := [1]) (by kernel_rfl) (by simp) ?_
                        refine AllReady.cons rfl (fun K' hK' => ?_) ?_
                        · go_simp
                          refine hK' _ _ ?_
                          clear hK' K'
                          refine wpAny_ready (rs := [4]) (by kernel_rfl) (by simp) ?_
                          refine AllReady.cons rfl (fun K' hK' => ?_) ?_
                          · refine step_append_lies _ rfl _ _ 22 rfl w0.heap.size 24 i0 _ 3 40 Tryd.underlying22 hi hz0 hz1 hz2 rfl (by decide) _ L.length _ rfl hrowA ⟨wd.heap.size, 0, none⟩ 1 1 [.int .i64 0, .int .i64 0, .slice none 0 0] rfl rfl newsZ oneZ (by omega) (by simp only [maxLen]; omega) (by omega) hszB _ rfl ?_; intro g1 cap1 w1 hown1 hg1 hor hgl; obtain ⟨f0, f1, f2, ff0, ff1, ff2, cB, fB, x0, x1, x2, x3, _⟩ := hTail.out g1 cap1 w1 hown1 hg1; have HLF := Lib.hid (HLeaf.out g1 cap1 w1 hown1 hg1 hor); clear hown1 hg1 hor
                            refine hK' _ _ ?_
                            clear hK' K'
                            refine wpAny_ready (rs := [5, 7]) (by kernel_rfl) (by simp) ?_
                            refine AllReady.cons rfl (fun K' hK' => ?_) ?_
                            · go_simp
                              refine hK' _ _ ?_
                              clear hK' K'
                              refine wpAny_ready (rs := [6, 7]) (by kernel_rfl) (by simp) ?_
                              refine AllReady.cons rfl (fun K' hK' => ?_) ?_
                              · go_simp
                                refine hK' _ _ ?_
                                clear hK' K'
                                refine wpAny_ready (rs := [7]) (by kernel_rfl) (by simp) ?_
                                refine AllReady.cons rfl (fun K' hK' => ?_) ?_
                                · go_simp
                                  refine hK' _ _ ?_
                                  clear hK' K'
                                  refine wpAny_done (by kernel_rfl) ?_ _
                                  (go_wp2_with fail; go_meet; first | exact ⟨_, HLF.out.1⟩ | exact ⟨_, HLF.out.2⟩)
                                exact AllReady.nil
                              refine AllReady.cons rfl (fun K' hK' => ?_) ?_
                              · go_simp
                                refine hK' _ _ ?_
                                clear hK' K'
                                refine wpAny_ready (rs := [6]) (by kernel_rfl) (by simp) ?_
                                refine AllReady.cons rfl (fun K' hK' => ?_) ?_
                                · go_simp
                                  refine hK' _ _ ?_
                                  clear hK' K'
                                  refine wpAny_done (by kernel_rfl) ?_ _
                                  (go_wp2_with fail; go_meet; first | exact ⟨_, HLF.out.1⟩ | exact ⟨_, HLF.out.2⟩)
                                exact AllReady.nil
                              exact AllReady.nil
                            refine AllReady.cons rfl (fun K' hK' => ?_) ?_
                            · go_simp
                              refine hK' _ _ ?_
                              clear hK' K'
                              refine wpAny_ready (rs := [5]) (by kernel_rfl) (by simp) ?_
                              refine AllReady.cons rfl (fun K' hK' => ?_) ?_
                              · go_simp
                                refine hK' _ _ ?_
                                clear hK' K'
                                refine wpAny_ready (rs := [6]) (by kernel_rfl) (by simp) ?_
                                refine AllReady.cons rfl (fun K' hK' => ?_) ?_
                                · go_simp
                                  refine hK' _ _ ?_
                                  clear hK' K'
                                  refine wpAny_done (by kernel_rfl) ?_ _
                                  (go_wp2_with fail; go_meet; first | exact ⟨_, HLF.out.1⟩ | exact ⟨_, HLF.out.2⟩)
                                exact AllReady.nil
                              exact AllReady.nil
                            exact AllReady.nil
                          exact AllReady.nil
                        exact AllReady.nil
                      exact AllReady.nil
                    refine AllReady.cons rfl (fun K' hK' => ?_) ?_
                    · go_simp
                      refine hK' _ _ ?_
                      clear hK' K'
                      refine wpAny_ready (rs := [0]) (by kernel_rfl) (by simp) ?_
                      refine AllReady.cons rfl (fun K' hK' => ?_) ?_
                      · go_simp
                        refine hK' _ _ ?_
                        clear hK' K'
                        refine wpAny_ready (rs := [2]) (by kernel_rfl) (by simp) ?_
                        refine AllReady.cons rfl (fun K' hK' => ?_) ?_
                        · go_simp
                          refine hK' _ _ ?_
                          clear hK' K'
                          refine wpAny_ready (rs := [4]) (by kernel_rfl) (by simp) ?_
                          refine AllReady.cons rfl (fun K' hK' => ?_) ?_
                          · refine step_append_lies _ rfl _ _ 22 rfl w0.heap.size 24 i0 _ 3 40 Tryd.underlying22 hi hz0 hz1 hz2 rfl (by decide) _ L.length _ rfl hrowA ⟨wd.heap.size, 0, none⟩ 1 1 [.int .i64 0, .int .i64 0, .slice none 0 0] rfl rfl newsZ oneZ (by omega) (by simp only [maxLen]; omega) (by omega) hszB _ rfl ?_; intro g1 cap1 w1 hown1 hg1 hor hgl; obtain ⟨f0, f1, f2, ff0, ff1, ff2, cB, fB, x0, x1, x2, x3, _⟩ := hTail.out g1 cap1 w1 hown1 hg1; have HLF := Lib.hid (HLeaf.out g1 cap1 w1 hown1 hg1 hor); clear hown1 hg1 hor
                            refine hK' _ _ ?_
                            clear hK' K'
                            refine wpAny_ready (rs := [5, 7]) (by kernel_rfl) (by simp) ?_
                            refine AllReady.cons rfl (fun K' hK' => ?_) ?_
                            · go_simp
                              refine hK' _ _ ?_
                              clear hK' K'
                              refine wpAny_ready (rs := [6, 7]) (by kernel_rfl) (by simp) ?_
                              refine AllReady.cons rfl (fun K' hK' => ?_) ?_
                              · go_simp
                                refine hK' _ _ ?_
                                clear hK' K'
                                refine wpAny_ready (rs := [7]) (by kernel_rfl) (by simp) ?_
                                refine AllReady.cons rfl (fun K' hK' => ?_) ?_
                                · go_simp
                                  refine hK' _ _ ?_
                                  clear hK' K'
                                  refine wpAny_done (by kernel_rfl) ?_ _
                                  (go_wp2_with fail; go_meet; first | exact ⟨_, HLF.out.1⟩ | exact ⟨_, HLF.out.2⟩)
                                exact AllReady.nil
                              refine AllReady.cons rfl (fun K' hK' => ?_) ?_
                              · go_simp
                                refine hK' _ _ ?_
                                clear hK' K'
                                refine wpAny_ready (rs := [6]) (by kernel_rfl) (by simp) ?_
                                refine AllReady.cons rfl (fun K' hK' => ?_) ?_
                                · go_simp
                                  refine hK' _ _ ?_
                                  clear hK' K'
                                  refine wpAny_done (by kernel_rfl) ?_ _
                                  (go_wp2_with fail; go_meet; first | exact ⟨_, HLF.out.1⟩ | exact ⟨_, HLF.out.2⟩)
                                exact AllReady.nil
                              exact AllReady.nil
                            refine AllReady.cons rfl (fun K' hK' => ?_) ?_
                            · go_simp
                              refine hK' _ _ ?_
                              clear hK' K'
                              refine wpAny_ready (rs := [5]) (by kernel_rfl) (by simp) ?_
                              refine AllReady.cons rfl (fun K' hK' => ?_) ?_
                              · go_simp
                                refine hK' _ _ ?_
                                clear hK' K'
                                refine wpAny_ready (rs := [6]) (by kernel_rfl) (by simp) ?_
                                refine AllReady.cons rfl (fun K' hK' => ?_) ?_
                                · go_simp
                                  refine hK' _ _ ?_
                                  clear hK' K'
                                  refine wpAny_done (by kernel_rfl) ?_ _
                                  (go_wp2_with fail; go_meet; first | exact ⟨_, HLF.out.1⟩ | exact ⟨_, HLF.out.2⟩)
                                exact AllReady.nil
                              exact AllReady.nil
                            exact AllReady.nil
                          exact AllReady.nil
                        exact AllReady.nil
                      exact AllReady.nil
                    exact AllReady.nil
                  exact AllReady.nil
                case rest =>
                  obtain ⟨v', hE10⟩ := hcut
                  have HE10 := Lib.hid hE10
                  clear hE10
                  go_wp2
                  refine bodyPost_ret (results_none rfl _ _ _) rfl ?_
                  exact ⟨rfl, v', by rw [← fin.out]; exact HE10.out⟩
          · have fin : Hid (R = (S ++ [t], L)) := by rw [← HR.out]; exact addC_free' HN.out hk
            rw [show lkB t = true by unfold lkB; simp [hk]]
            clear hk e0 e1 e2
            go_wp2
            refine bodyPost_ret (results_none rfl _ _ _) rfl ?_
            exact ⟨rfl, v, by rw [fin.out]; exact HE7.out⟩
end Go.Proofs.YthfcaiipcdibbaaDoor
