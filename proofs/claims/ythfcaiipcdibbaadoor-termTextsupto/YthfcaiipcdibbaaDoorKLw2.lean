/- The law TermTexts. -/
import Derived.Test.YthfcaiipcdibbaaDoorKLw1
import Derived.Lib.SlicesS
set_option linter.unusedSimpArgs false
set_option linter.unusedVariables false
namespace Go.Proofs.YthfcaiipcdibbaaDoor
open Go.RowKit Tm Go.Shelf Go.MapKept
/-- What the two texts and the two comparisons answer. -/
theorem two_cases {a b : T} (ha : valid a = true) (hb : valid b = true) : ∃ (c : Int), cmp b a = c ∧ cmp a b = -c ∧ ((bs (text a)).toList == (bs (text b)).toList) = decide (c = 0) ∧ (c = 0 ∨ c = 1 ∨ c = -1) := by
  refine ⟨cmp b a, rfl, cmp_neg a b, ?_, ?_⟩
  · by_cases h : a = b
    · subst h
      rw [cmp_self]
      simp only [decide_true]
      exact (Go.Lib.bytes_beq_iff _ _).2 rfl
    · have h1 : ¬ cmp b a = 0 := fun e => h (cmp_eq_zero.1 e).symm
      rw [decide_eq_false h1, Bool.eq_false_iff]
      intro e
      exact h (text_inj ha hb (bs_inj ((Go.Lib.bytes_beq_iff _ _).1 e)))
  · rcases cmp_range b a with h | h | h <;> simp [h]

set_option maxHeartbeats 4000000 in
set_option maxRecDepth 100000 in
theorem lawTexts (a b : T) (W : World) (A B : Option Addr) (ca cb : Nat) (ha : SWt W a.l A ca) (hb : SWt W b.l B cb) (hs : size a + size b ≤ 1048576) (ht : tab W) :
    Calls Tryd.prog 4 #[.agg #[.int .i64 a.k, .int .i64 a.n, .slice A a.l.length ca], .agg #[.int .i64 b.k, .int .i64 b.n, .slice B b.l.length cb]] W (KB W (.bool true)) := by
  have T1 := Lib.hid ((TB.make ha).grow ((Below.refl _ _).alloc (Nat.le_refl _) (.cells #[.int .i64 b.k, .int .i64 b.n, .slice B b.l.length cb] 24)))
  have T2 := Lib.hid (TB.make (h := hb.alloc (.cells #[.int .i64 a.k, .int .i64 a.n, .slice A a.l.length ca] 24)))
  rw [World.size_alloc] at T2
  have BQ := Lib.hid (((Below.refl W.heap.size W).alloc (Nat.le_refl _) (.cells #[.int .i64 a.k, .int .i64 a.n, .slice A a.l.length ca] 24)).alloc (by simp) (.cells #[.int .i64 b.k, .int .i64 b.n, .slice B b.l.length cb] 24))
  have HT := Lib.hid (tab_below ht BQ.out)
  clear ht ha hb
  go_enter Tryd.func4, Tryd.ntmps4
  go_upto_region 1 with fail
  generalize (W.alloc (.cells #[.int .i64 a.k, .int .i64 a.n, .slice A a.l.length ca] 24)).alloc (.cells #[.int .i64 b.k, .int .i64 b.n, .slice B b.l.length cb] 24) = wq at T1 T2 BQ HT ⊢
  generalize W.heap.size + 1 = X2 at T2 ⊢
  have L10 := fun V hV => (T1.out.at V hV).1
  have L11 := fun V hV => (T1.out.at V hV).2.1
  have L12 := fun V hV => (T1.out.at V hV).2.2
  have L20 := fun V hV => (T2.out.at V hV).1
  have L21 := fun V hV => (T2.out.at V hV).2.1
  have L22 := fun V hV => (T2.out.at V hV).2.2
  have hb0 := Below.refl wq.heap.size wq
  have hb2 := hb0.alloc hb0.size (.cells #[.int .i64 a.k, .int .i64 a.n, .slice A a.l.length ca] 24)
  have HF := Lib.hid (KB.of hb2 (fewK (l := [a]) (t := b) (sw_block (heap_alloc_new wq (.cells #[.int .i64 a.k, .int .i64 a.n, .slice A a.l.length ca] 24)) (repC_cons (t := a) (T1.out.s.grow hb2) repC_nil) (by simp)) (T2.out.s.grow hb2) (by simp [sizes]; omega)))
  simp only [List.length_cons, List.length_nil, Nat.zero_add, List.cons_append, List.nil_append] at HF
  cases hsm : small [a, b] with
  | false =>
    rw [hsm] at HF
    clear hsm
    go_wp2_with (first
      | (go_at_call 12; refine HF.out.mono ?_; rintro e w3 ⟨rfl, h3⟩; have H3 := Lib.hid h3; clear h3)
      | (go_at_call 13; refine (sanityCall _ (tab_below HT.out H3.out)).mono ?_; rintro e w4 ⟨rfl, h4⟩))
    go_ret
    exact ⟨rfl, BQ.out.trans ((H3.out.trans (h4.mono H3.out.size)).mono BQ.out.size)⟩
  | true =>
    rw [hsm] at HF
    obtain ⟨hva, hvb, hz⟩ := small_two hsm
    have hza : size a ≤ 1000000 := by omega
    have hzb : size b ≤ 1000000 := by omega
    clear hsm
    go_wp2_with (go_at_call 12; refine HF.out.mono ?_; rintro e w3 ⟨rfl, h3⟩)
    have HSN := Lib.hid (fun (V : World) (hV : Below wq.heap.size wq V) => KB.of hV (sanityCall V (tab_below HT.out hV)))
    have HC1 := Lib.hid (fun (V : World) (hV : Below wq.heap.size wq V) => KB.of hV (termCompare a b _ V A B ca cb (mod_imOf V) (T1.out.s.grow hV) (T2.out.s.grow hV)))
    have HC2 := Lib.hid (fun (V : World) (hV : Below wq.heap.size wq V) => KB.of hV (termCompare b a _ V B A cb ca (mod_imOf V) (T2.out.s.grow hV) (T1.out.s.grow hV)))
    have HX1 := Lib.hid (fun (V : World) (hV : Below wq.heap.size wq V) => KB.of hV (termText a _ V A ca (mod_imOf V) (T1.out.s.grow hV) hva hza (tab_below HT.out hV)))
    have HX2 := Lib.hid (fun (V : World) (hV : Below wq.heap.size wq V) => KB.of hV (termText b _ V B cb (mod_imOf V) (T2.out.s.grow hV) hvb hzb (tab_below HT.out hV)))
    obtain ⟨c, e1, e2, e3, hc⟩ := two_cases hva hvb
    rw [e1] at HC2
    rw [e2] at HC1
    have tokX : True := trivial
    have tokC : True := trivial
    have tokD : True := trivial
    generalize bs (text a) = tx at HX1 e3
    generalize bs (text b) = ty at HX2 e3
    clear HF T1 T2 HT hva hvb hz hza hzb hb0 hb2 e1 e2
    have hc' : (c = 0 ∧ Hid (-c = 0) ∧ Hid (decide (c = 0) = true)) ∨ (c = 1 ∧ Hid (-c = -1) ∧ Hid (decide (c = 0) = false)) ∨ (c = -1 ∧ Hid (-c = 1) ∧ Hid (decide (c = 0) = false)) := by
      rcases hc with rfl | rfl | rfl
      · exact .inl ⟨rfl, rfl, rfl⟩
      · exact .inr (.inl ⟨rfl, rfl, rfl⟩)
      · exact .inr (.inr ⟨rfl, rfl, rfl⟩)
    clear hc
    rcases hc' with ⟨ec, e4, e5⟩ | ⟨ec, e4, e5⟩ | ⟨ec, e4, e5⟩
    all_goals
      rw [e4.out] at HC1
      rw [e5.out] at e3
      rw [ec] at HC2
      clear e4 e5 ec
      go_region_held3 (fun V => Below wq.heap.size wq V) (first | exact Below.drew h3 | exact k1 | assumption)
        ((first
        | (go_at_call 13; refine (HSN.out _ (by assumption)).mono ?_; rintro e w4 ⟨rfl, k1⟩)
        | (go_at_call 20; clear tokX; refine (HX1.out _ (by assumption)).mono ?_; rintro e w4 ⟨rfl, k1⟩)
        | (go_at_call 20; refine (HX2.out _ (by assumption)).mono ?_; rintro e w4 ⟨rfl, k1⟩)
        | (go_at_call 16; clear tokC; refine (HC1.out _ (by assumption)).mono ?_; rintro e w4 ⟨rfl, k1⟩)
        | (go_at_call 16; clear tokD; refine (HC1.out _ (by assumption)).mono ?_; rintro e w4 ⟨rfl, k1⟩)
        | (go_at_call 16; refine (HC2.out _ (by assumption)).mono ?_; rintro e w4 ⟨rfl, k1⟩)))
      all_goals (go_wp2; go_ret; exact ⟨rfl, BQ.out.trans (Below.mono (by assumption) BQ.out.size)⟩)
end Go.Proofs.YthfcaiipcdibbaaDoor
