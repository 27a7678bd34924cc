/- The law TermMonotone. -/
import Derived.Test.YthfcaiipcdibbaaDoorKLw5
set_option linter.unusedSimpArgs false
set_option linter.unusedVariables false
namespace Go.Proofs.YthfcaiipcdibbaaDoor
open Go.RowKit Tm Go.Shelf Go.MapKept

theorem sizes_le_mul {n : Nat} : ∀ {l : List T}, (∀ x ∈ l, size x ≤ n) → sizes l ≤ l.length * n
  | [], _ => by simp [sizes]
  | a :: l, h => by
    have h1 := h a (by simp)
    have h2 := sizes_le_mul (l := l) (fun x hx => h x (by simp [hx]))
    simp only [sizes, List.length_cons, Nat.succ_mul]
    omega
theorem close_sizes {l : List T} (hv : ∀ x ∈ l, valid x = true) (hz : sizes l ≤ 150) : sizes (close l) ≤ 1000000 := by
  have h1 := sizes_le_mul (n := sizes l) (l := close l) (fun x hx => size_subsL ((mem_close hv x).1 hx).subs)
  have h2 := (close_part hv).1.length
  have h3 : (close l).length * sizes l ≤ 150 * 150 := Nat.mul_le_mul (by omega) hz
  omega

set_option maxHeartbeats 4000000 in
set_option maxRecDepth 100000 in
theorem lawMonotone (l m : List T) (t : T) (W : World) (A B C : Option Addr) (cl cm ct : Nat) (hl : SWt W l A cl) (hm : SWt W m B cm) (hb : SWt W t.l C ct) (hs : sizes l + sizes m + size t ≤ 1048576) (ht : tab W) :
    Calls Tryd.prog 6 #[.slice A l.length cl, .slice B m.length cm, .agg #[.int .i64 t.k, .int .i64 t.n, .slice C t.l.length ct]] W (KB W (.bool true)) := by
  have T1 := Lib.hid (TB.make hb)
  have BQ := Lib.hid ((Below.refl W.heap.size W).alloc (Nat.le_refl _) (.cells #[.int .i64 t.k, .int .i64 t.n, .slice C t.l.length ct] 24))
  have HT := Lib.hid (tab_below ht BQ.out)
  have HL := Lib.hid (hl.grow BQ.out)
  have HM := Lib.hid (hm.grow BQ.out)
  have hc1 := hl.1
  have hc2 := hl.2.1
  have hc3 := hm.1
  have hc4 := hm.2.1
  have hll := length_le_sizes l
  have hln : l.length ≤ 1048576 := by omega
  have hmm := length_le_sizes m
  have hmn : m.length ≤ 1048576 := by omega
  clear ht hl hb hm
  go_enter Tryd.func6, Tryd.ntmps6
  go_upto_region 2 with fail
  generalize W.alloc (.cells #[.int .i64 t.k, .int .i64 t.n, .slice C t.l.length ct] 24) = wq at T1 BQ HT HL HM ⊢
  go_cut [7] (fun s7 wx => ∃ A2 n2 c2, s7 = .slice A2 n2 c2 ∧ OwnT wx (imOf wq) wq.heap.size (.slice A2 n2 c2) l ∧ Below wq.heap.size wq wx)
  case first =>
    go_wp2_with (at_builtin; refine app_terms (I := imOf wq) (w0 := wq) wq.heap.size rfl _ _ rfl Tryd.underlying22 Tryd.infoT [] l A cl (mod_imOf wq) (OwnT.nil _ _ _) rfl rfl HL.out (Below.refl _ _) (Nat.le_refl _) (by simp; omega) ?_; intro v1 w1 ho1 hb1 hg1; have HO1 := Lib.hid ho1; have HB1 := Lib.hid hb1; clear ho1 hb1 hg1)
    obtain ⟨A2, c2, e2, _, _⟩ := HO1.out.shape
    subst e2
    go_meet
    exact ⟨_, _, _, rfl, HO1.out, HB1.out⟩
  case rest =>
  obtain ⟨A2, n2, c2, rfl, ho1, hb1⟩ := hcut
  obtain ⟨w1, rfl⟩ : ∃ w1 : World, w1 = wc := ⟨_, rfl⟩
  have HO1 := Lib.hid ho1
  have hbs := hb1.size
  clear ho1
  go_upto_region 3 with fail
  go_cut [7] (fun s7 wx => ∃ A3 c3, s7 = .slice A3 (l ++ m).length c3 ∧ SWt wx (l ++ m) A3 c3 ∧ Below wq.heap.size wq wx)
  case first =>
    go_wp2_with (at_builtin; refine app_terms (I := imOf wq) (w0 := wq) wq.heap.size rfl _ _ rfl Tryd.underlying22 Tryd.infoT l m B cm ((mod_imOf wq).grow hb1) HO1.out rfl rfl HM.out hb1 hbs (by omega) ?_; intro v2 w2 ho2 hb2 hg2; obtain ⟨A3, c3, e3, h3, _, _⟩ := own_sw ho2 hb2; have HS3 := Lib.hid h3; have HB2 := Lib.hid hb2; have E3 := Lib.hid e3; clear ho2 hb2 hg2 h3 e3)
    go_meet
    exact ⟨A3, c3, E3.out, HS3.out, HB2.out⟩
  case rest =>
  obtain ⟨A3, c3, rfl, h3, hb2⟩ := hcut
  obtain ⟨w2, rfl⟩ : ∃ w2 : World, w2 = wc := ⟨_, rfl⟩
  have HS3 := Lib.hid h3
  have T1b := Lib.hid (T1.out.grow hb2)
  have BQb := Lib.hid (BQ.out.trans (hb2.mono BQ.out.size))
  have HTb := Lib.hid (tab_below HT.out hb2)
  have HLb := Lib.hid (HL.out.grow hb2)
  have hb0 := Below.refl w2.heap.size w2
  have HF := Lib.hid (KB.of hb0 (fewK h3 T1b.out.s (by rw [sizes_append]; omega)))
  have M10 := fun V hV => (T1b.out.at V hV).1
  have M11 := fun V hV => (T1b.out.at V hV).2.1
  have M12 := fun V hV => (T1b.out.at V hV).2.2
  have hq1 := h3.1
  have hq2 := h3.2.1
  clear T1 BQ HT HL HM hb1 hb2 HO1 hbs
  generalize hall : l ++ m = all at HS3 HF h3 hq1
  have HALL := Lib.hid hall
  clear h3 hall
  cases hsm : small (all ++ [t]) with
  | false =>
    rw [hsm] at HF
    clear hsm
    go_wp2_with (first
      | (go_at_call 12; refine HF.out.mono ?_; rintro e w3 ⟨rfl, h3⟩; have H3 := Lib.hid h3; clear h3)
      | (go_at_call 13; refine (sanityCall _ (tab_below HTb.out H3.out)).mono ?_; rintro e w4 ⟨rfl, h4⟩))
    go_ret
    exact ⟨rfl, BQb.out.trans ((H3.out.trans (h4.mono H3.out.size)).mono BQb.out.size)⟩
  | true =>
    rw [hsm] at HF
    obtain ⟨hva, hvt, hz⟩ := small_snoc hsm
    have hza : sizes all ≤ 150 := by omega
    have hzt : size t ≤ 1000000 := by omega
    have hvl : ∀ x ∈ l, valid x = true := fun x hx => hva x (by rw [← HALL.out]; simp [hx])
    have hsub : ∀ x ∈ l, x ∈ all := fun x hx => by rw [← HALL.out]; simp [hx]
    have hzl : sizes l ≤ 150 := by rw [← HALL.out, sizes_append] at hza; omega
    clear hsm
    have HC1 := Lib.hid (fun (V : World) (hV : Below w2.heap.size w2 V) => closeK (HLb.out.grow hV) hvl (by omega) (tab_below HTb.out hV))
    have HC2 := Lib.hid (fun (V : World) (hV : Below w2.heap.size w2 V) => closeK (HS3.out.grow hV) hva (by omega) (tab_below HTb.out hV))
    have HV := Lib.hid (And.intro hvl (And.intro hva (And.intro hvt (And.intro hsub (And.intro hzl (And.intro hza hzt))))))
    clear hza hzt hvl hsub hzl hva hvt hz
    have tokC : True := trivial
    go_wp2_with (first
      | (go_at_call 12; refine HF.out.mono ?_; rintro e w3 ⟨rfl, h3⟩)
      | (go_at_call 25; clear tokC; refine (HC1.out _ h3).mono ?_; rintro e w4 ⟨A4, c4, rfl, s4, h4⟩; have S4 := Lib.hid s4; have h4b := h3.trans (h4.mono h3.size); clear h4 s4)
      | (go_at_call 25; refine (HC2.out _ h4b).mono ?_; rintro e w5 ⟨A5, c5, rfl, s5, h5⟩))
    have hb5 := h4b.trans (h5.mono h4b.size)
    have S4b := Lib.hid (S4.out.grow h5)
    have S5 := Lib.hid s5
    have hd1 := S4b.out.1
    have hd2 := S4b.out.2.1
    have hd3 := s5.1
    have hd4 := s5.2.1
    have T5 := Lib.hid (T1b.out.grow hb5)
    have B5 := Lib.hid (BQb.out.trans (hb5.mono BQb.out.size))
    have HT5 := Lib.hid (tab_below HTb.out hb5)
    have HL5 := Lib.hid (HLb.out.grow hb5)
    have HA5 := Lib.hid (HS3.out.grow hb5)
    have HH1 := Lib.hid (fun (V : World) (hV : Below w5.heap.size w5 V) (j : Nat) (hj : j < l.length) (X : Option Addr) (cx : Nat) (hx : SWt V l[j].l X cx) => KB.of hV (hasK (S4b.out.grow hV) hx))
    have HH2 := Lib.hid (fun (V : World) (hV : Below w5.heap.size w5 V) (j : Nat) (hj : j < (close l).length) (X : Option Addr) (cx : Nat) (hx : SWt V (close l)[j].l X cx) => KB.of hV (hasK (S5.out.grow hV) hx))
    clear S4 s5 h5 h4b h3 T1b HTb HLb HS3 HF HC1 HC2 M10 M11 M12 hb0 BQb hb5
    go_loopw [11] (fun i wr => ∃ j : Nat, j ≤ l.length ∧ i = .int .i64 j ∧ Below w5.heap.size w5 wr) (fun i _ => l.length - (intOf i).toNat)
    case atStart => exact ⟨0, Nat.zero_le _, rfl, Below.refl _ _⟩
    case round =>
      obtain ⟨j, hj, rfl, hbr⟩ := hrel
      by_cases hlt : j < l.length
      · obtain ⟨b, o, A', cap', rfl, g3, d0, d1, d2⟩ := (HL5.out.grow hbr).cells (mod_imOf wr) hlt
        have hC := HH1.out wr hbr j hlt A' cap' g3
        rw [has_iff.2 (close_mem HV.out.1 (List.getElem_mem hlt))] at hC
        have HC := Lib.hid hC
        clear hC g3
        go_wp2_with (go_at_call 29; refine HC.out.mono ?_; rintro e w6 ⟨rfl, h6⟩; have H6 := Lib.hid h6; clear h6)
        go_roundw
        case rel => first | exact ⟨j + 1, by omega, by go_num, H6.out⟩ | ((repeat apply Exists.intro); exact ⟨⟨j + 1, by omega, by go_num, H6.out⟩, rfl⟩)
        case measure => simp [intOf]; omega
      · obtain rfl : j = l.length := by omega
        have HBR := Lib.hid hbr
        clear hbr hlt hj HH1
        obtain ⟨wp, rfl⟩ : ∃ wp : World, wp = wr := ⟨_, rfl⟩
        go_wp2_with fail
        go_loopw [13] (fun i wr => ∃ j : Nat, j ≤ (close l).length ∧ i = .int .i64 j ∧ Below w5.heap.size w5 wr) (fun i _ => (close l).length - (intOf i).toNat)
        case atStart => exact ⟨0, Nat.zero_le _, rfl, HBR.out⟩
        case round =>
          clear HBR
          obtain ⟨j, hj, rfl, hbr⟩ := hrel
          by_cases hlt : j < (close l).length
          · obtain ⟨b, o, A', cap', rfl, g3, d0, d1, d2⟩ := (S4b.out.grow hbr).cells (mod_imOf wr) hlt
            have hC := HH2.out wr hbr j hlt A' cap' g3
            rw [has_iff.2 (close_mono HV.out.1 HV.out.2.1 HV.out.2.2.2.1 (List.getElem_mem hlt))] at hC
            have HC := Lib.hid hC
            clear hC g3
            go_wp2_with (go_at_call 29; refine HC.out.mono ?_; rintro e w6 ⟨rfl, h6⟩; have H6 := Lib.hid h6; clear h6)
            go_roundw
            case rel => first | exact ⟨j + 1, by omega, by go_num, H6.out⟩ | ((repeat apply Exists.intro); exact ⟨⟨j + 1, by omega, by go_num, H6.out⟩, rfl⟩)
            case measure => simp [intOf]; omega
          · obtain rfl : j = (close l).length := by omega
            obtain ⟨wx, rfl⟩ : ∃ wx : World, wx = wr := ⟨_, rfl⟩
            have hcl : sizes (close l) ≤ 1000000 := close_sizes HV.out.1 (by have := HV.out.2.2.2.2.1; omega)
            have hC := closeK (S4b.out.grow hbr) (fun x hx => close_valid HV.out.1 hx) hcl (tab_below HT5.out hbr)
            rw [close_idem HV.out.1] at hC
            have HC := Lib.hid hC
            have HBR := Lib.hid hbr
            clear hC hcl hbr hlt hj HH2
            go_wp2_with (go_at_call 25; refine HC.out.mono ?_; rintro e w7 ⟨A7, c7, rfl, s7, h7⟩)
            have hb7 := HBR.out.trans (h7.mono HBR.out.size)
            have S7 := Lib.hid s7
            have S4c := Lib.hid (S4b.out.grow hb7)
            have T7 := Lib.hid (T5.out.grow hb7)
            have B7 := Lib.hid (B5.out.trans (hb7.mono B5.out.size))
            have HT7 := Lib.hid (tab_below HT5.out hb7)
            have HL7 := Lib.hid (HL5.out.grow hb7)
            have HA7 := Lib.hid (HA5.out.grow hb7)
            have hvl := HV.out.1
            have hva := HV.out.2.1
            have hvt := HV.out.2.2.1
            have hzl : sizes l ≤ 1000000 := by have := HV.out.2.2.2.2.1; omega
            have hza : sizes all ≤ 1000000 := by have := HV.out.2.2.2.2.2.1; omega
            have hzt : size t ≤ 1000000 := HV.out.2.2.2.2.2.2
            have HSN := Lib.hid (fun (V : World) (hV : Below w7.heap.size w7 V) => KB.of hV (sanityCall V (tab_below HT7.out hV)))
            have HSM := Lib.hid (fun (V : World) (hV : Below w7.heap.size w7 V) => KB.of hV (sameK (S7.out.grow hV) (S4c.out.grow hV)))
            have HK1 := Lib.hid (fun (V : World) (hV : Below w7.heap.size w7 V) => KB.of hV (knowsK (HL7.out.grow hV) (T7.out.s.grow hV) hvl hzl hvt hzt (tab_below HT7.out hV)))
            have HK2 := Lib.hid (fun (V : World) (hV : Below w7.heap.size w7 V) => KB.of hV (knowsK (HA7.out.grow hV) (T7.out.s.grow hV) hva hza hvt hzt (tab_below HT7.out hV)))
            have M10 := fun V hV => (T7.out.at V hV).1
            have M11 := fun V hV => (T7.out.at V hV).2.1
            have M12 := fun V hV => (T7.out.at V hV).2.2
            have himp : knows l t = true → knows all t = true := fun h => knows_mono hvl hva HV.out.2.2.2.1 h
            simp only [decide_true] at HSM
            clear s7 h7 hb7 T5 B5 HT5 HL5 HA5 S5
            cases hkn : knows l t with
            | true =>
              rw [hkn] at HK1
              rw [himp hkn] at HK2
              clear himp hkn hvl hva hvt hzl hza hzt
              have tokK : True := trivial
              go_wp2_with (first
                | (go_at_call 13; refine (HSN.out _ (Below.refl _ _)).mono ?_; rintro e w8 ⟨rfl, k1⟩)
                | (go_at_call 22; refine (HSM.out _ k1).mono ?_; rintro e w9 ⟨rfl, k2⟩)
                | (go_at_call 27; clear tokK; refine (HK1.out _ k2).mono ?_; rintro e w10 ⟨rfl, k3⟩)
                | (go_at_call 27; refine (HK2.out _ k3).mono ?_; rintro e w11 ⟨rfl, k4⟩))
              go_ret
              exact ⟨rfl, B7.out.trans (k4.mono B7.out.size)⟩
            | false =>
              rw [hkn] at HK1
              clear himp hkn hvl hva hvt hzl hza hzt HK2
              go_wp2_with (first
                | (go_at_call 13; refine (HSN.out _ (Below.refl _ _)).mono ?_; rintro e w8 ⟨rfl, k1⟩)
                | (go_at_call 22; refine (HSM.out _ k1).mono ?_; rintro e w9 ⟨rfl, k2⟩)
                | (go_at_call 27; refine (HK1.out _ k2).mono ?_; rintro e w10 ⟨rfl, k3⟩))
              go_ret
              exact ⟨rfl, B7.out.trans (k3.mono B7.out.size)⟩
end Go.Proofs.YthfcaiipcdibbaaDoor
