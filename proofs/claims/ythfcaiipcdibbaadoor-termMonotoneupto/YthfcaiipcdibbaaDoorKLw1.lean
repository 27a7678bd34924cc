/- The law TermMatchesSpec. -/
import Derived.Test.YthfcaiipcdibbaaDoorMQ
set_option linter.unusedSimpArgs false
set_option linter.unusedVariables false
namespace Go.Proofs.YthfcaiipcdibbaaDoor
open Go.RowKit Tm Go.Shelf Go.MapKept
/-- The call leaves a Bool, and nothing that lay in wq has turned. -/
def KB (wq : World) (v : Value) (e : Ending) (w' : World) : Prop := e = .returned v ∧ Below wq.heap.size wq w'
theorem KB.of {wq V : World} {f : FuncId} {args : Array Value} {v : Value} (hV : Below wq.heap.size wq V) (h : Calls Tryd.prog f args V fun e w' => e = .returned v ∧ Below V.heap.size V w') : Calls Tryd.prog f args V (KB wq v) :=
  h.mono fun e w' ⟨he, hb⟩ => ⟨he, hV.trans (hb.mono hV.size)⟩
theorem small_two {a b : T} (h : small [a, b] = true) : valid a = true ∧ valid b = true ∧ size a + size b ≤ 150 := by
  unfold small at h
  simp only [Bool.and_eq_true, decide_eq_true_eq] at h
  have h1 := valids_iff.1 h.1
  refine ⟨h1 a (by simp), h1 b (by simp), ?_⟩
  have := h.2
  simp only [sizes] at this
  omega
/-- Subterms, the specification's Subterms, Same. -/
theorem subChain {wq V : World} {a : T} {A : Option Addr} {c : Nat} (hV : Below wq.heap.size wq V) (hs : SWt V a.l A c) (ht : tab V) (hv : valid a = true) (hz : size a ≤ 1000000) :
    Calls Tryd.prog 23 #[.agg #[.int .i64 a.k, .int .i64 a.n, .slice A a.l.length c]] V fun e w1 => ∃ A1 n c1, e = .returned (.slice A1 n c1) ∧ Below wq.heap.size wq w1 ∧
      Hid (∀ V2, Below w1.heap.size w1 V2 → Calls Tryd.prog 24 #[.agg #[.int .i64 a.k, .int .i64 a.n, .slice A a.l.length c]] V2 fun e w2 => ∃ A2 n2 c2, e = .returned (.slice A2 n2 c2) ∧ Below wq.heap.size wq w2 ∧
        Hid (∀ V3, Below w2.heap.size w2 V3 → Calls Tryd.prog 22 #[.slice A1 n c1, .slice A2 n2 c2] V3 (KB wq (.bool true)))) := by
  refine (subK hs hv hz ht).mono ?_
  rintro e w1 ⟨A1, c1, rfl, h1, b1⟩
  have hb1 := hV.trans (b1.mono hV.size)
  refine ⟨A1, _, c1, rfl, hb1, fun V2 hV2 => ?_⟩
  have hb2 := hb1.trans (hV2.mono hb1.size)
  refine (refSubK ((hs.grow b1).grow hV2) hz).mono ?_
  rintro e w2 ⟨A2, c2, rfl, h2, b2⟩
  have hb3 := hb2.trans (b2.mono hb2.size)
  refine ⟨A2, _, c2, rfl, hb3, fun V3 hV3 => ?_⟩
  have hb4 := hb3.trans (hV3.mono hb3.size)
  refine (KB.of hb4 (sameK (((h1.grow hV2).grow b2).grow hV3) (h2.grow hV3))).mono ?_
  rintro e w' ⟨rfl, hb⟩
  exact ⟨by simp, hb⟩

set_option maxHeartbeats 4000000 in
set_option maxRecDepth 100000 in
theorem lawMatches (a b : T) (W : World) (A B : Option Addr) (ca cb : Nat) (ha : SWt W a.l A ca) (hb : SWt W b.l B cb) (hs : size a + size b ≤ 1048576) (ht : tab W) :
    Calls Tryd.prog 3 #[.agg #[.int .i64 a.k, .int .i64 a.n, .slice A a.l.length ca], .agg #[.int .i64 b.k, .int .i64 b.n, .slice B b.l.length cb]] W (KB W (.bool true)) := by
  have T1 := Lib.hid ((TB.make ha).grow ((Below.refl _ _).alloc (Nat.le_refl _) (.cells #[.int .i64 b.k, .int .i64 b.n, .slice B b.l.length cb] 24)))
  have T2 := Lib.hid (TB.make (h := hb.alloc (.cells #[.int .i64 a.k, .int .i64 a.n, .slice A a.l.length ca] 24)))
  rw [World.size_alloc] at T2
  have BQ := Lib.hid (((Below.refl W.heap.size W).alloc (Nat.le_refl _) (.cells #[.int .i64 a.k, .int .i64 a.n, .slice A a.l.length ca] 24)).alloc (by simp) (.cells #[.int .i64 b.k, .int .i64 b.n, .slice B b.l.length cb] 24))
  have HT := Lib.hid (tab_below ht BQ.out)
  clear ht ha hb
  go_enter Tryd.func3, Tryd.ntmps3
  go_wp2_with fail
  generalize (W.alloc (.cells #[.int .i64 a.k, .int .i64 a.n, .slice A a.l.length ca] 24)).alloc (.cells #[.int .i64 b.k, .int .i64 b.n, .slice B b.l.length cb] 24) = wq at T1 T2 BQ HT ⊢
  generalize W.heap.size + 1 = X2 at T2 ⊢
  have L10 := fun V hV => (T1.out.at V hV).1
  have L11 := fun V hV => (T1.out.at V hV).2.1
  have L12 := fun V hV => (T1.out.at V hV).2.2
  have L20 := fun V hV => (T2.out.at V hV).1
  have L21 := fun V hV => (T2.out.at V hV).2.1
  have L22 := fun V hV => (T2.out.at V hV).2.2
  have HA := Lib.hid (fun (V : World) (hV : Below wq.heap.size wq V) => KB.of hV (termValid a _ V A ca (mod_imOf V) (T1.out.s.grow hV)))
  have HA2 := Lib.hid (fun (V : World) (hV : Below wq.heap.size wq V) => KB.of hV (refValid a _ V A ca (mod_imOf V) (T1.out.s.grow hV)))
  have HB := Lib.hid (fun (V : World) (hV : Below wq.heap.size wq V) => KB.of hV (termValid b _ V B cb (mod_imOf V) (T2.out.s.grow hV)))
  have HB2 := Lib.hid (fun (V : World) (hV : Below wq.heap.size wq V) => KB.of hV (refValid b _ V B cb (mod_imOf V) (T2.out.s.grow hV)))
  go_cut [17] (fun s17 wx => s17 = .bool false ∧ Below wq.heap.size wq wx)
  case first =>
    have tok1 : True := trivial
    have tok2 : True := trivial
    generalize valid a = va at HA HA2
    generalize valid b = vb at HB HB2
    go_region_held3 (fun V => Below wq.heap.size wq V) (first | exact (Below.refl _ _).drew | exact k1 | exact k2 | exact k3 | exact k4 | assumption)
      ((first
      | (go_at_call 10; clear tok1; refine (HA.out _ (by assumption)).mono ?_; rintro e w1 ⟨rfl, k1⟩)
      | (go_at_call 10; refine (HB.out _ (by assumption)).mono ?_; rintro e w1 ⟨rfl, k2⟩)
      | (go_at_call 11; clear tok2; refine (HA2.out _ (by assumption)).mono ?_; rintro e w1 ⟨rfl, k3⟩)
      | (go_at_call 11; refine (HB2.out _ (by assumption)).mono ?_; rintro e w1 ⟨rfl, k4⟩)))
    all_goals (go_wp2_with fail; go_meet; exact ⟨rfl, by assumption⟩)
  case rest =>
  obtain ⟨rfl, hb⟩ := hcut
  obtain ⟨wp, rfl⟩ : ∃ wp : World, wp = wc := ⟨_, rfl⟩
  have hb2 := hb.alloc hb.size (.cells #[.int .i64 a.k, .int .i64 a.n, .slice A a.l.length ca] 24)
  have HF := Lib.hid (KB.of hb2 (fewK (l := [a]) (t := b) (sw_block (heap_alloc_new wp (.cells #[.int .i64 a.k, .int .i64 a.n, .slice A a.l.length ca] 24)) (repC_cons (t := a) (T1.out.s.grow hb2) repC_nil) (by simp)) (T2.out.s.grow hb2) (by simp [sizes]; omega)))
  simp only [List.length_cons, List.length_nil, Nat.zero_add, List.cons_append, List.nil_append] at HF
  clear HA HA2 HB HB2
  cases hsm : small [a, b] with
  | false =>
    rw [hsm] at HF
    clear hsm
    go_wp2_with (first
      | (go_at_call 12; refine HF.out.mono ?_; rintro e w3 ⟨rfl, h3⟩; have H3 := Lib.hid h3; clear h3)
      | (go_at_call 13; refine (sanityCall _ (tab_below HT.out H3.out)).mono ?_; rintro e w4 ⟨rfl, h4⟩))
    go_ret
    exact ⟨rfl, BQ.out.trans ((H3.out.trans (h4.mono H3.out.size)).mono BQ.out.size)⟩
  | true =>
    rw [hsm] at HF
    obtain ⟨hva, hvb, hz⟩ := small_two hsm
    have hza : size a ≤ 1000000 := by omega
    have hza2 : size a ≤ 1099511627776 := by omega
    clear hsm
    go_wp2_with (go_at_call 12; refine HF.out.mono ?_; rintro e w3 ⟨rfl, h3⟩)
    have HSN := Lib.hid (fun (V : World) (hV : Below wq.heap.size wq V) => KB.of hV (sanityCall V (tab_below HT.out hV)))
    have HZ1 := Lib.hid (fun (V : World) (hV : Below wq.heap.size wq V) => KB.of hV (termSize a _ V A ca (mod_imOf V) (T1.out.s.grow hV) hza2))
    have HZ2 := Lib.hid (fun (V : World) (hV : Below wq.heap.size wq V) => KB.of hV (refSize a _ V A ca (mod_imOf V) (T1.out.s.grow hV) hza2))
    have HC1 := Lib.hid (fun (V : World) (hV : Below wq.heap.size wq V) => KB.of hV (termCompare a b _ V A B ca cb (mod_imOf V) (T1.out.s.grow hV) (T2.out.s.grow hV)))
    have HC2 := Lib.hid (fun (V : World) (hV : Below wq.heap.size wq V) => KB.of hV (refCompare a b _ V A B ca cb (mod_imOf V) (T1.out.s.grow hV) (T2.out.s.grow hV)))
    have HI1 := Lib.hid (fun (V : World) (hV : Below wq.heap.size wq V) => KB.of hV (termIsKey a V A ca))
    have HI2 := Lib.hid (fun (V : World) (hV : Below wq.heap.size wq V) => KB.of hV (refIsKey a V A ca hva))
    have HX1 := Lib.hid (fun (V : World) (hV : Below wq.heap.size wq V) => KB.of hV (termText a _ V A ca (mod_imOf V) (T1.out.s.grow hV) hva hza (tab_below HT.out hV)))
    have HX2 := Lib.hid (fun (V : World) (hV : Below wq.heap.size wq V) => KB.of hV (refText a _ V A ca (mod_imOf V) (T1.out.s.grow hV) hva hza))
    have HSB := Lib.hid (fun (V : World) (hV : Below wq.heap.size wq V) => subChain hV (T1.out.s.grow hV) (tab_below HT.out hV) hva hza)
    generalize isKey a = ik at HI1 HI2
    generalize cmp a b = cm at HC1 HC2
    generalize bs (text a) = tx at HX1 HX2
    generalize (size a : Int) = sz at HZ1 HZ2
    have htx : (tx == tx) = true := (bytes_beq _ _).2 rfl
    clear HF T1 T2 HT hva hvb hz hza hza2
    go_region_held3 (fun V => Below wq.heap.size wq V) (first | exact Below.drew h3 | exact k1 | assumption)
      ((first
      | (go_at_call 13; refine (HSN.out _ (by assumption)).mono ?_; rintro e w4 ⟨rfl, k1⟩)
      | (go_at_call 14; refine (HZ1.out _ (by assumption)).mono ?_; rintro e w4 ⟨rfl, k1⟩)
      | (go_at_call 15; refine (HZ2.out _ (by assumption)).mono ?_; rintro e w4 ⟨rfl, k1⟩)
      | (go_at_call 16; refine (HC1.out _ (by assumption)).mono ?_; rintro e w4 ⟨rfl, k1⟩)
      | (go_at_call 17; refine (HC2.out _ (by assumption)).mono ?_; rintro e w4 ⟨rfl, k1⟩)
      | (go_at_call 18; refine (HI1.out _ (by assumption)).mono ?_; rintro e w4 ⟨rfl, k1⟩)
      | (go_at_call 19; refine (HI2.out _ (by assumption)).mono ?_; rintro e w4 ⟨rfl, k1⟩)
      | (go_at_call 20; refine (HX1.out _ (by assumption)).mono ?_; rintro e w4 ⟨rfl, k1⟩)
      | (go_at_call 21; refine (HX2.out _ (by assumption)).mono ?_; rintro e w4 ⟨rfl, k1⟩)
      | (go_at_call 23; refine (HSB.out _ (by assumption)).mono ?_; rintro e w4 ⟨A1, n1, c1, rfl, k1, HSB2⟩)
      | (go_at_call 24; refine (HSB2.out _ (Below.refl _ _)).mono ?_; rintro e w5 ⟨A2, n2, c2, rfl, k1, HSB3⟩)
      | (go_at_call 22; refine (HSB3.out _ (Below.refl _ _)).mono ?_; rintro e w6 ⟨rfl, k1⟩)))
    all_goals (go_wp2; go_ret; exact ⟨rfl, BQ.out.trans (Below.mono (by assumption) BQ.out.size)⟩)
end Go.Proofs.YthfcaiipcdibbaaDoor
