/- The law TermCut. -/
import Derived.Test.YthfcaiipcdibbaaDoorKLw3
set_option linter.unusedSimpArgs false
set_option linter.unusedVariables false
namespace Go.Proofs.YthfcaiipcdibbaaDoor
open Go.RowKit Tm Go.Shelf Go.MapKept
/-- A slice that the law has appended to and will not touch again. -/
theorem own_sw {wq w : World} {v : Value} {l : List T} (h : OwnT w (imOf wq) wq.heap.size v l) (hb : Below wq.heap.size wq w) : ∃ A cap, v = .slice A l.length cap ∧ SWt w l A cap ∧ l.length ≤ cap ∧ cap ≤ 9223372036854775807 := by
  obtain ⟨J, A, cap, h1, h2, h3, h4, h5⟩ := h.done ((mod_imOf wq).grow hb) (fun b x hx => (mod_imOf wq).lt hx)
  exact ⟨A, cap, h3, SWt.of h2 h4, h4.1, h4.2.1⟩

set_option maxHeartbeats 4000000 in
set_option maxRecDepth 100000 in
theorem lawCut (l : List T) (t u : T) (W : World) (A B C : Option Addr) (cl ct cu : Nat) (hl : SWt W l A cl) (hb : SWt W t.l B ct) (hu : SWt W u.l C cu) (hs : sizes l + size t + size u ≤ 1048576) (ht : tab W) :
    Calls Tryd.prog 7 #[.slice A l.length cl, .agg #[.int .i64 t.k, .int .i64 t.n, .slice B t.l.length ct], .agg #[.int .i64 u.k, .int .i64 u.n, .slice C u.l.length cu]] W (KB W (.bool true)) := by
  have T1 := Lib.hid ((TB.make hb).grow ((Below.refl _ _).alloc (Nat.le_refl _) (.cells #[.int .i64 u.k, .int .i64 u.n, .slice C u.l.length cu] 24)))
  have T2 := Lib.hid (TB.make (h := hu.alloc (.cells #[.int .i64 t.k, .int .i64 t.n, .slice B t.l.length ct] 24)))
  rw [World.size_alloc] at T2
  have BQ := Lib.hid (((Below.refl W.heap.size W).alloc (Nat.le_refl _) (.cells #[.int .i64 t.k, .int .i64 t.n, .slice B t.l.length ct] 24)).alloc (by simp) (.cells #[.int .i64 u.k, .int .i64 u.n, .slice C u.l.length cu] 24))
  have HT := Lib.hid (tab_below ht BQ.out)
  have HL := Lib.hid (hl.grow BQ.out)
  have hc1 := hl.1
  have hc2 := hl.2.1
  have hll := length_le_sizes l
  have hln : l.length ≤ 1048576 := by omega
  clear ht hl hb hu
  go_enter Tryd.func7, Tryd.ntmps7
  go_upto_region 2 with fail
  generalize (W.alloc (.cells #[.int .i64 t.k, .int .i64 t.n, .slice B t.l.length ct] 24)).alloc (.cells #[.int .i64 u.k, .int .i64 u.n, .slice C u.l.length cu] 24) = wq at T1 T2 BQ HT HL ⊢
  generalize W.heap.size + 1 = X2 at T2 ⊢
  have L10 := fun V hV => (T1.out.at V hV).1
  have L11 := fun V hV => (T1.out.at V hV).2.1
  have L12 := fun V hV => (T1.out.at V hV).2.2
  have L20 := fun V hV => (T2.out.at V hV).1
  have L21 := fun V hV => (T2.out.at V hV).2.1
  have L22 := fun V hV => (T2.out.at V hV).2.2
  have tok1 : True := trivial
  go_cut [7] (fun s7 wx => ∃ v, s7 = v ∧ OwnT wx (imOf wq) wq.heap.size v l ∧ Below wq.heap.size wq wx)
  case first =>
    go_wp2_with (at_builtin; refine app_terms (I := imOf wq) (w0 := wq) wq.heap.size rfl _ _ rfl Tryd.underlying22 Tryd.infoT [] l A cl (mod_imOf wq) (OwnT.nil _ _ _) rfl rfl HL.out (Below.refl _ _) (Nat.le_refl _) (by simp; omega) ?_; intro v1 w1 ho1 hb1 hg1; have HO1 := Lib.hid ho1; have HB1 := Lib.hid hb1; clear ho1 hb1 hg1)
    go_meet
    exact ⟨_, rfl, HO1.out, HB1.out⟩
  case rest =>
  obtain ⟨v1, rfl, ho1, hb1⟩ := hcut
  obtain ⟨w1, rfl⟩ : ∃ w1 : World, w1 = wc := ⟨_, rfl⟩
  have HO1 := Lib.hid ho1
  have hbs := hb1.size
  clear ho1
  go_upto_region 3 with fail
  go_cut [7] (fun s7 wx => ∃ A3 c3, s7 = .slice A3 (l ++ [t]).length c3 ∧ SWt wx (l ++ [t]) A3 c3 ∧ Below wq.heap.size wq wx)
  case first =>
    go_wp2_with (at_builtin; refine app_term (I := imOf wq) (w0 := wq) wq.heap.size rfl _ _ rfl Tryd.underlying22 Tryd.infoT l t B ct HO1.out rfl rfl T1.out.s hb1 hbs (by omega) ?_; intro v2 w2 ho2 hb2 hg2 hs2 hat2; obtain ⟨A3, c3, e3, h3, _, _⟩ := own_sw ho2 hb2; have HS3 := Lib.hid h3; have HB2 := Lib.hid hb2; have E3 := Lib.hid e3; clear ho2 hb2 hg2 hs2 hat2 h3 e3)
    go_meet
    exact ⟨A3, c3, E3.out, HS3.out, HB2.out⟩
  case rest =>
  obtain ⟨A3, c3, rfl, h3, hb2⟩ := hcut
  obtain ⟨w2, rfl⟩ : ∃ w2 : World, w2 = wc := ⟨_, rfl⟩
  have HS3 := Lib.hid h3
  have T1b := Lib.hid (T1.out.grow hb2)
  have T2b := Lib.hid (T2.out.grow hb2)
  have BQb := Lib.hid (BQ.out.trans (hb2.mono BQ.out.size))
  have HTb := Lib.hid (tab_below HT.out hb2)
  have HLb := Lib.hid (HL.out.grow hb2)
  have hb0 := Below.refl w2.heap.size w2
  have HF := Lib.hid (KB.of hb0 (fewK h3 T2b.out.s (by rw [sizes_append]; simp only [sizes]; omega)))
  have M10 := fun V hV => (T1b.out.at V hV).1
  have M11 := fun V hV => (T1b.out.at V hV).2.1
  have M12 := fun V hV => (T1b.out.at V hV).2.2
  have M20 := fun V hV => (T2b.out.at V hV).1
  have M21 := fun V hV => (T2b.out.at V hV).2.1
  have M22 := fun V hV => (T2b.out.at V hV).2.2
  clear L10 L11 L12 L20 L21 L22 T1 T2 BQ HT HL hb1 hb2 HO1 hbs
  generalize hall : l ++ [t] = all at HS3 HF h3
  have HALL := Lib.hid hall
  clear h3 hall
  cases hsm : small (all ++ [u]) with
  | false =>
    rw [hsm] at HF
    clear hsm
    go_wp2_with (first
      | (go_at_call 12; refine HF.out.mono ?_; rintro e w3 ⟨rfl, h3⟩; have H3 := Lib.hid h3; clear h3)
      | (go_at_call 13; refine (sanityCall _ (tab_below HTb.out H3.out)).mono ?_; rintro e w4 ⟨rfl, h4⟩))
    go_ret
    exact ⟨rfl, BQb.out.trans ((H3.out.trans (h4.mono H3.out.size)).mono BQb.out.size)⟩
  | true =>
    rw [hsm] at HF
    obtain ⟨hva, hvu, hz⟩ := small_snoc hsm
    have hza : sizes all ≤ 1000000 := by omega
    have hzu : size u ≤ 1000000 := by omega
    have hvl : ∀ x ∈ l, valid x = true := fun x hx => hva x (by rw [← HALL.out]; simp [hx])
    have hvt : valid t = true := hva t (by rw [← HALL.out]; simp)
    have hzz : sizes l + size t ≤ 1000000 := by rw [← HALL.out, sizes_append] at hza; simp only [sizes] at hza; omega
    have hzl : sizes l ≤ 1000000 := by omega
    have hzt : size t ≤ 1000000 := by omega
    clear hsm
    have HSN := Lib.hid (fun (V : World) (hV : Below w2.heap.size w2 V) => KB.of hV (sanityCall V (tab_below HTb.out hV)))
    have HK0 := Lib.hid (fun (V : World) (hV : Below w2.heap.size w2 V) => KB.of hV (knowsK (HLb.out.grow hV) (T1b.out.s.grow hV) hvl hzl hvt hzt (tab_below HTb.out hV)))
    have HK2 := Lib.hid (fun (V : World) (hV : Below w2.heap.size w2 V) => KB.of hV (knowsK (HLb.out.grow hV) (T2b.out.s.grow hV) hvl hzl hvu hzu (tab_below HTb.out hV)))
    have HK1 := Lib.hid (fun (V : World) (hV : Below w2.heap.size w2 V) => KB.of hV (knowsK (HS3.out.grow hV) (T2b.out.s.grow hV) hva hza hvu hzu (tab_below HTb.out hV)))
    cases hkn : knows l t with
    | false =>
      rw [hkn] at HK0
      clear hkn hza hzu hvl hvt hzz hzl hzt hva hvu hz HK1 HK2
      go_wp2_with (first
        | (go_at_call 12; refine HF.out.mono ?_; rintro e w3 ⟨rfl, h3⟩)
        | (go_at_call 27; refine (HK0.out _ h3).mono ?_; rintro e w4 ⟨rfl, h4⟩)
        | (go_at_call 13; refine (HSN.out _ h4).mono ?_; rintro e w5 ⟨rfl, h5⟩))
      go_ret
      exact ⟨rfl, BQb.out.trans (h5.mono BQb.out.size)⟩
    | true =>
      rw [hkn] at HK0
      have hcut : knows all u = knows l u := by rw [← HALL.out]; exact knows_cut hvl hvt hkn u
      rw [hcut] at HK1
      generalize knows l u = kn at HK1 HK2
      clear hkn hcut hza hzu hvl hvt hzz hzl hzt hva hvu hz
      go_wp2_with (first
        | (go_at_call 12; refine HF.out.mono ?_; rintro e w3 ⟨rfl, h3⟩)
        | (go_at_call 27; refine (HK0.out _ h3).mono ?_; rintro e w4 ⟨rfl, h4⟩))
      clear HK0 HF h3
      have tokK : True := trivial
      go_region_held3 (fun V => Below w2.heap.size w2 V) (first | exact Below.drew h4 | exact k1 | assumption)
        ((first
        | (go_at_call 13; refine (HSN.out _ (by assumption)).mono ?_; rintro e w5 ⟨rfl, k1⟩)
        | (go_at_call 27; clear tokK; refine (HK1.out _ (by assumption)).mono ?_; rintro e w5 ⟨rfl, k1⟩)
        | (go_at_call 27; refine (HK2.out _ (by assumption)).mono ?_; rintro e w5 ⟨rfl, k1⟩)))
      all_goals (go_wp2; go_ret; exact ⟨rfl, BQb.out.trans (Below.mono (by assumption) BQb.out.size)⟩)
end Go.Proofs.YthfcaiipcdibbaaDoor
