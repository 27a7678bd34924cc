/- The law TermClosesAsSpecified. -/
import Derived.Test.YthfcaiipcdibbaaDoorKLw2
set_option linter.unusedSimpArgs false
set_option linter.unusedVariables false
namespace Go.Proofs.YthfcaiipcdibbaaDoor
open Go.RowKit Tm Go.Shelf Go.MapKept
theorem small_snoc {l : List T} {t : T} (h : small (l ++ [t]) = true) : (∀ x ∈ l, valid x = true) ∧ valid t = true ∧ sizes l + size t ≤ 150 := by
  unfold small at h
  simp only [Bool.and_eq_true, decide_eq_true_eq] at h
  have h1 := valids_iff.1 h.1
  refine ⟨fun x hx => h1 x (by simp [hx]), h1 t (by simp), ?_⟩
  have := h.2
  rw [sizes_append] at this
  simp only [sizes] at this
  omega
/-- Close, the specification's Close, Same. -/
theorem closeChain {wq V : World} {l : List T} {A : Option Addr} {c : Nat} (hV : Below wq.heap.size wq V) (hs : SWt V l A c) (ht : tab V) (hv : ∀ x ∈ l, valid x = true) (hz : sizes l ≤ 1000000) :
    Calls Tryd.prog 25 #[.slice A l.length c] V fun e w1 => ∃ A1 n c1, e = .returned (.slice A1 n c1) ∧ Below wq.heap.size wq w1 ∧
      Hid (∀ V2, Below w1.heap.size w1 V2 → Calls Tryd.prog 26 #[.slice A l.length c] V2 fun e w2 => ∃ A2 n2 c2, e = .returned (.slice A2 n2 c2) ∧ Below wq.heap.size wq w2 ∧
        Hid (∀ V3, Below w2.heap.size w2 V3 → Calls Tryd.prog 22 #[.slice A1 n c1, .slice A2 n2 c2] V3 (KB wq (.bool true)))) := by
  refine (closeK hs hv hz ht).mono ?_
  rintro e w1 ⟨A1, c1, rfl, h1, b1⟩
  have hb1 := hV.trans (b1.mono hV.size)
  refine ⟨A1, _, c1, rfl, hb1, fun V2 hV2 => ?_⟩
  have hb2 := hb1.trans (hV2.mono hb1.size)
  refine (refCloseK ((hs.grow b1).grow hV2) hv hz).mono ?_
  rintro e w2 ⟨A2, c2, rfl, h2, b2⟩
  have hb3 := hb2.trans (b2.mono hb2.size)
  refine ⟨A2, _, c2, rfl, hb3, fun V3 hV3 => ?_⟩
  have hb4 := hb3.trans (hV3.mono hb3.size)
  refine (KB.of hb4 (sameK (((h1.grow hV2).grow b2).grow hV3) (h2.grow hV3))).mono ?_
  rintro e w' ⟨rfl, hb⟩
  exact ⟨by simp, hb⟩

set_option maxHeartbeats 4000000 in
set_option maxRecDepth 100000 in
theorem lawCloses (l : List T) (t : T) (W : World) (A B : Option Addr) (cl ct : Nat) (hl : SWt W l A cl) (hb : SWt W t.l B ct) (hs : sizes l + size t ≤ 1048576) (ht : tab W) :
    Calls Tryd.prog 5 #[.slice A l.length cl, .agg #[.int .i64 t.k, .int .i64 t.n, .slice B t.l.length ct]] W (KB W (.bool true)) := by
  have T1 := Lib.hid (TB.make hb)
  have BQ := Lib.hid ((Below.refl W.heap.size W).alloc (Nat.le_refl _) (.cells #[.int .i64 t.k, .int .i64 t.n, .slice B t.l.length ct] 24))
  have HT := Lib.hid (tab_below ht BQ.out)
  have HL := Lib.hid (hl.alloc (.cells #[.int .i64 t.k, .int .i64 t.n, .slice B t.l.length ct] 24))
  have hc1 := hl.1
  have hc2 := hl.2.1
  clear ht hl hb
  go_enter Tryd.func5, Tryd.ntmps5
  go_upto_region 1 with fail
  generalize W.alloc (.cells #[.int .i64 t.k, .int .i64 t.n, .slice B t.l.length ct] 24) = wq at T1 BQ HT HL ⊢
  have L10 := fun V hV => (T1.out.at V hV).1
  have L11 := fun V hV => (T1.out.at V hV).2.1
  have L12 := fun V hV => (T1.out.at V hV).2.2
  have hb0 := Below.refl wq.heap.size wq
  have HF := Lib.hid (KB.of hb0 (fewK HL.out T1.out.s (by omega)))
  cases hsm : small (l ++ [t]) with
  | false =>
    rw [hsm] at HF
    clear hsm
    go_wp2_with (first
      | (go_at_call 12; refine HF.out.mono ?_; rintro e w3 ⟨rfl, h3⟩; have H3 := Lib.hid h3; clear h3)
      | (go_at_call 13; refine (sanityCall _ (tab_below HT.out H3.out)).mono ?_; rintro e w4 ⟨rfl, h4⟩))
    go_ret
    exact ⟨rfl, BQ.out.trans ((H3.out.trans (h4.mono H3.out.size)).mono BQ.out.size)⟩
  | true =>
    rw [hsm] at HF
    obtain ⟨hvl, hvt, hz⟩ := small_snoc hsm
    have hzl : sizes l ≤ 1000000 := by omega
    have hzt : size t ≤ 1000000 := by omega
    clear hsm
    go_wp2_with (go_at_call 12; refine HF.out.mono ?_; rintro e w3 ⟨rfl, h3⟩)
    have HSN := Lib.hid (fun (V : World) (hV : Below wq.heap.size wq V) => KB.of hV (sanityCall V (tab_below HT.out hV)))
    have HCC := Lib.hid (fun (V : World) (hV : Below wq.heap.size wq V) => closeChain hV (HL.out.grow hV) (tab_below HT.out hV) hvl hzl)
    have HK1 := Lib.hid (fun (V : World) (hV : Below wq.heap.size wq V) => KB.of hV (knowsK (HL.out.grow hV) (T1.out.s.grow hV) hvl hzl hvt hzt (tab_below HT.out hV)))
    have HK2 := Lib.hid (fun (V : World) (hV : Below wq.heap.size wq V) => KB.of hV (refKnowsK (HL.out.grow hV) (T1.out.s.grow hV) hvl hzl))
    generalize knows l t = kn at HK1 HK2
    clear HF T1 HT HL hvl hvt hz hzl hzt hb0
    go_region_held3 (fun V => Below wq.heap.size wq V) (first | exact Below.drew h3 | exact k1 | assumption)
      ((first
      | (go_at_call 13; refine (HSN.out _ (by assumption)).mono ?_; rintro e w4 ⟨rfl, k1⟩)
      | (go_at_call 25; refine (HCC.out _ (by assumption)).mono ?_; rintro e w4 ⟨A1, n1, c1, rfl, k1, HC2⟩)
      | (go_at_call 26; refine (HC2.out _ (Below.refl _ _)).mono ?_; rintro e w5 ⟨A2, n2, c2, rfl, k1, HC3⟩)
      | (go_at_call 22; refine (HC3.out _ (Below.refl _ _)).mono ?_; rintro e w6 ⟨rfl, k1⟩)
      | (go_at_call 27; refine (HK1.out _ (by assumption)).mono ?_; rintro e w4 ⟨rfl, k1⟩)
      | (go_at_call 28; refine (HK2.out _ (by assumption)).mono ?_; rintro e w4 ⟨rfl, k1⟩)))
    all_goals (go_wp2; go_ret; exact ⟨rfl, BQ.out.trans (Below.mono (by assumption) BQ.out.size)⟩)
end Go.Proofs.YthfcaiipcdibbaaDoor
