/- The law TermBuilds. -/
import Derived.Test.YthfcaiipcdibbaaDoorKLw6
set_option linter.unusedSimpArgs false
set_option linter.unusedVariables false
namespace Go.Proofs.YthfcaiipcdibbaaDoor
open Go.RowKit Tm Go.Shelf Go.MapKept
theorem mk_valid {k t : T} {n : Int} (hk : valid k = true) (ht : valid t = true) (h0 : 0 ≤ n) (h1 : n ≤ 1000) : valid (.mk 3 0 [k, t]) = true ∧ valid (.mk 4 n [k, t]) = true ∧ valid (.mk 6 0 [k, t]) = true ∧ valid (.mk 5 n [k]) = true := by
  refine ⟨?_, ?_, ?_, ?_⟩ <;> simp only [valid, valids, hk, ht, Bool.and_true, okHead, arity, Bool.and_eq_true, decide_eq_true_eq] <;> simp <;> omega
theorem mk_size (k t : T) (n : Int) : size (.mk 3 0 [k, t]) = 1 + (size k + size t) ∧ size (.mk 4 n [k, t]) = 1 + (size k + size t) ∧ size (.mk 6 0 [k, t]) = 1 + (size k + size t) ∧ size (.mk 5 n [k]) = 1 + size k := by
  simp [size, sizes]
/-- A variable with a term that the law has made. -/
def Var (w : World) (s : Value) (wx : World) (t : T) : Prop := ∃ X A c, s = .pointer (some ⟨X, 0, none⟩) ∧ TB wx X t A c ∧ Below w.heap.size w wx

set_option maxHeartbeats 4000000 in
set_option maxRecDepth 100000 in
theorem lawBuilds (l : List T) (k t : T) (n : Int) (W : World) (A B C : Option Addr) (cl ck ct : Nat) (hl : SWt W l A cl) (hb : SWt W k.l B ck) (hu : SWt W t.l C ct) (hs : sizes l + size k + size t ≤ 1048576) (ht : tab W) :
    Calls Tryd.prog 9 #[.slice A l.length cl, .agg #[.int .i64 k.k, .int .i64 k.n, .slice B k.l.length ck], .agg #[.int .i64 t.k, .int .i64 t.n, .slice C t.l.length ct], .int .i64 n] W (KB W (.bool true)) := by
  have T1 := Lib.hid ((TB.make hb).grow ((Below.refl _ _).alloc (Nat.le_refl _) (.cells #[.int .i64 t.k, .int .i64 t.n, .slice C t.l.length ct] 24)))
  have T2 := Lib.hid (TB.make (h := hu.alloc (.cells #[.int .i64 k.k, .int .i64 k.n, .slice B k.l.length ck] 24)))
  rw [World.size_alloc] at T2
  have BQ := Lib.hid (((Below.refl W.heap.size W).alloc (Nat.le_refl _) (.cells #[.int .i64 k.k, .int .i64 k.n, .slice B k.l.length ck] 24)).alloc (by simp) (.cells #[.int .i64 t.k, .int .i64 t.n, .slice C t.l.length ct] 24))
  have HT := Lib.hid (tab_below ht BQ.out)
  have HL := Lib.hid (hl.grow BQ.out)
  have hc1 := hl.1
  have hc2 := hl.2.1
  have hll := length_le_sizes l
  have hln : l.length ≤ 1048576 := by omega
  clear ht hl hb hu
  go_enter Tryd.func9, Tryd.ntmps9
  go_upto_region 2 with fail
  generalize (W.alloc (.cells #[.int .i64 k.k, .int .i64 k.n, .slice B k.l.length ck] 24)).alloc (.cells #[.int .i64 t.k, .int .i64 t.n, .slice C t.l.length ct] 24) = wq at T1 T2 BQ HT HL ⊢
  generalize W.heap.size + 1 = X2 at T2 ⊢
  have L10 := fun V hV => (T1.out.at V hV).1
  have L11 := fun V hV => (T1.out.at V hV).2.1
  have L12 := fun V hV => (T1.out.at V hV).2.2
  go_cut [9] (fun s7 wx => ∃ v, s7 = v ∧ OwnT wx (imOf wq) wq.heap.size v l ∧ Below wq.heap.size wq wx)
  case first =>
    go_wp2_with (at_builtin; refine app_terms (I := imOf wq) (w0 := wq) wq.heap.size rfl _ _ rfl Tryd.underlying22 Tryd.infoT [] l A cl (mod_imOf wq) (OwnT.nil _ _ _) rfl rfl HL.out (Below.refl _ _) (Nat.le_refl _) (by simp; omega) ?_; intro v1 w1 ho1 hb1 hg1; have HO1 := Lib.hid ho1; have HB1 := Lib.hid hb1; clear ho1 hb1 hg1)
    go_meet
    exact ⟨_, rfl, HO1.out, HB1.out⟩
  case rest =>
  obtain ⟨v1, rfl, ho1, hb1⟩ := hcut
  obtain ⟨w1, rfl⟩ : ∃ w1 : World, w1 = wc := ⟨_, rfl⟩
  have HO1 := Lib.hid ho1
  have hbs := hb1.size
  clear ho1
  go_upto_region 3 with fail
  go_cut [9] (fun s7 wx => ∃ A3 c3, s7 = .slice A3 (l ++ [k]).length c3 ∧ SWt wx (l ++ [k]) A3 c3 ∧ Below wq.heap.size wq wx)
  case first =>
    go_wp2_with (at_builtin; refine app_term (I := imOf wq) (w0 := wq) wq.heap.size rfl _ _ rfl Tryd.underlying22 Tryd.infoT l k B ck HO1.out rfl rfl T1.out.s hb1 hbs (by omega) ?_; intro v2 w2 ho2 hb2 hg2 hs2 hat2; obtain ⟨A3, c3, e3, h3, _, _⟩ := own_sw ho2 hb2; have HS3 := Lib.hid h3; have HB2 := Lib.hid hb2; have E3 := Lib.hid e3; clear ho2 hb2 hg2 hs2 hat2 h3 e3)
    go_meet
    exact ⟨A3, c3, E3.out, HS3.out, HB2.out⟩
  case rest =>
  obtain ⟨A3, c3, rfl, h3, hb2⟩ := hcut
  obtain ⟨w2, rfl⟩ : ∃ w2 : World, w2 = wc := ⟨_, rfl⟩
  have T1b := Lib.hid (T1.out.grow hb2)
  have T2b := Lib.hid (T2.out.grow hb2)
  have BQb := Lib.hid (BQ.out.trans (hb2.mono BQ.out.size))
  have HTb := Lib.hid (tab_below HT.out hb2)
  have HLb := Lib.hid (HL.out.grow hb2)
  have hb0 := Below.refl w2.heap.size w2
  have HF := Lib.hid (KB.of hb0 (fewK h3 T2b.out.s (by rw [sizes_append]; simp only [sizes]; omega)))
  have M10 := fun V hV => (T1b.out.at V hV).1
  have M11 := fun V hV => (T1b.out.at V hV).2.1
  have M12 := fun V hV => (T1b.out.at V hV).2.2
  have M20 := fun V hV => (T2b.out.at V hV).1
  have M21 := fun V hV => (T2b.out.at V hV).2.1
  have M22 := fun V hV => (T2b.out.at V hV).2.2
  clear L10 L11 L12 T1 T2 BQ HT HL hb1 hb2 HO1 hbs
  generalize hall : l ++ [k] = all at HF h3
  have HALL := Lib.hid hall
  clear h3 hall
  have HSN := Lib.hid (fun (V : World) (hV : Below w2.heap.size w2 V) => KB.of hV (sanityCall V (tab_below HTb.out hV)))
  cases hsm : small (all ++ [t]) with
  | false =>
    rw [hsm] at HF
    clear hsm
    go_wp2_with (first
      | (go_at_call 12; refine HF.out.mono ?_; rintro e w3 ⟨rfl, h3⟩)
      | (go_at_call 13; refine (HSN.out _ h3).mono ?_; rintro e w4 ⟨rfl, h4⟩))
    go_ret
    exact ⟨rfl, BQb.out.trans (h4.mono BQb.out.size)⟩
  | true =>
    rw [hsm] at HF
    obtain ⟨hva, hvt, hz⟩ := small_snoc hsm
    clear hsm
    by_cases hn0 : n < 0
    · have hd0 : decide (n < 0) = true := by simpa using hn0
      clear hn0
      go_wp2_with (first
        | (go_at_call 12; refine HF.out.mono ?_; rintro e w3 ⟨rfl, h3⟩)
        | (go_at_call 13; refine (HSN.out _ h3).mono ?_; rintro e w4 ⟨rfl, h4⟩))
      go_ret
      exact ⟨rfl, BQb.out.trans (h4.mono BQb.out.size)⟩
    have hd0 : decide (n < 0) = false := by simpa using hn0
    by_cases hn1 : 1000 < n
    · have hd1 : decide (1000 < n) = true := by simpa using hn1
      clear hn0 hn1
      go_wp2_with (first
        | (go_at_call 12; refine HF.out.mono ?_; rintro e w3 ⟨rfl, h3⟩)
        | (go_at_call 13; refine (HSN.out _ h3).mono ?_; rintro e w4 ⟨rfl, h4⟩))
      go_ret
      exact ⟨rfl, BQb.out.trans (h4.mono BQb.out.size)⟩
    have hd1 : decide (1000 < n) = false := by simpa using hn1
    have hnn : Hid (0 ≤ n ∧ n ≤ 1000) := ⟨by omega, by omega⟩
    have hzz : sizes l + size k + size t ≤ 150 := by rw [← HALL.out, sizes_append] at hz; simp only [sizes] at hz; omega
    have hvl : ∀ x ∈ l, valid x = true := fun x hx => hva x (by rw [← HALL.out]; simp [hx])
    have hvk : valid k = true := hva k (by rw [← HALL.out]; simp)
    have HV := Lib.hid (And.intro hvl (And.intro hvk (And.intro hvt hzz)))
    have HSL := Lib.hid (fun (V : World) (hV : Below w2.heap.size w2 V) => sealK (T1b.out.s.grow hV) (T2b.out.s.grow hV))
    clear hn0 hn1 hz hva hvl hvk hvt hzz
    go_wp2_with (go_at_call 12; refine HF.out.mono ?_; rintro e w3 ⟨rfl, h3⟩)
    clear HF hb0
    refine (HSL.out _ h3).mono ?_
    rintro e w4 ⟨C1, cc1, rfl, s4, h4⟩
    have hA := Lib.hid ((h3.trans (h4.mono h3.size)).alloc (h3.trans (h4.mono h3.size)).size (.cells #[.int .i64 3, .int .i64 0, .slice C1 2 cc1] 24))
    have T3 : Hid (TB (w4.alloc (.cells #[.int .i64 3, .int .i64 0, .slice C1 2 cc1] 24)) w4.heap.size (.mk 3 0 [k, t]) C1 cc1) := TB.make (t := .mk 3 0 [k, t]) s4
    clear h3 h4 s4 HSL
    go_upto_region 8 with fail
    generalize w4.heap.size = X3 at T3 ⊢
    generalize w4.alloc (.cells #[.int .i64 3, .int .i64 0, .slice C1 2 cc1] 24) = wA at T3 hA ⊢
    have kA := hA.out
    go_upto_region 9 with fail
    have S4 := Lib.hid (sw_build (w := wA) (ty := 24) (repC_cons (t := k) (T1b.out.s.grow kA) (repC_cons (t := t) (T2b.out.s.grow kA) repC_nil)) (by simp))
    have T4 : Hid (TB ((wA.alloc (.cells #[.int .i64 k.k, .int .i64 k.n, .slice B k.l.length ck, .int .i64 t.k, .int .i64 t.n, .slice C t.l.length ct] 24)).alloc (.cells #[.int .i64 4, .int .i64 n, .slice (some ⟨wA.heap.size, 0, none⟩) 2 2] 24)) (wA.alloc (.cells #[.int .i64 k.k, .int .i64 k.n, .slice B k.l.length ck, .int .i64 t.k, .int .i64 t.n, .slice C t.l.length ct] 24)).heap.size (.mk 4 n [k, t]) (some ⟨wA.heap.size, 0, none⟩) 2) := TB.make (t := .mk 4 n [k, t]) S4.out
    rw [World.size_alloc] at T4
    have gA := Lib.hid (((Below.refl wA.heap.size wA).alloc (Nat.le_refl _) (.cells #[.int .i64 k.k, .int .i64 k.n, .slice B k.l.length ck, .int .i64 t.k, .int .i64 t.n, .slice C t.l.length ct] 24)).alloc (by simp) (.cells #[.int .i64 4, .int .i64 n, .slice (some ⟨wA.heap.size, 0, none⟩) 2 2] 24))
    generalize (wA.alloc (.cells #[.int .i64 k.k, .int .i64 k.n, .slice B k.l.length ck, .int .i64 t.k, .int .i64 t.n, .slice C t.l.length ct] 24)).alloc (.cells #[.int .i64 4, .int .i64 n, .slice (some ⟨wA.heap.size, 0, none⟩) 2 2] 24) = wB at T4 gA ⊢
    generalize wA.heap.size + 1 = X4 at T4 ⊢
    have kB := kA.trans (gA.out.mono kA.size)
    have T3b := Lib.hid (T3.out.grow gA.out)
    clear S4 T3 gA hA kA
    generalize (some ⟨wA.heap.size, 0, none⟩ : Option Addr) = A4 at T4
    go_upto_region 10 with fail
    have S5 := Lib.hid (sw_build (w := wB) (ty := 24) (repC_cons (t := k) (T1b.out.s.grow kB) (repC_cons (t := t) (T2b.out.s.grow kB) repC_nil)) (by simp))
    have T5 : Hid (TB ((wB.alloc (.cells #[.int .i64 k.k, .int .i64 k.n, .slice B k.l.length ck, .int .i64 t.k, .int .i64 t.n, .slice C t.l.length ct] 24)).alloc (.cells #[.int .i64 6, .int .i64 0, .slice (some ⟨wB.heap.size, 0, none⟩) 2 2] 24)) (wB.alloc (.cells #[.int .i64 k.k, .int .i64 k.n, .slice B k.l.length ck, .int .i64 t.k, .int .i64 t.n, .slice C t.l.length ct] 24)).heap.size (.mk 6 0 [k, t]) (some ⟨wB.heap.size, 0, none⟩) 2) := TB.make (t := .mk 6 0 [k, t]) S5.out
    rw [World.size_alloc] at T5
    have gB := Lib.hid (((Below.refl wB.heap.size wB).alloc (Nat.le_refl _) (.cells #[.int .i64 k.k, .int .i64 k.n, .slice B k.l.length ck, .int .i64 t.k, .int .i64 t.n, .slice C t.l.length ct] 24)).alloc (by simp) (.cells #[.int .i64 6, .int .i64 0, .slice (some ⟨wB.heap.size, 0, none⟩) 2 2] 24))
    generalize (wB.alloc (.cells #[.int .i64 k.k, .int .i64 k.n, .slice B k.l.length ck, .int .i64 t.k, .int .i64 t.n, .slice C t.l.length ct] 24)).alloc (.cells #[.int .i64 6, .int .i64 0, .slice (some ⟨wB.heap.size, 0, none⟩) 2 2] 24) = wC at T5 gB ⊢
    generalize wB.heap.size + 1 = X5 at T5 ⊢
    have kC := kB.trans (gB.out.mono kB.size)
    have T3c := Lib.hid (T3b.out.grow gB.out)
    have T4c := Lib.hid (T4.out.grow gB.out)
    clear S5 T3b T4 gB kB
    generalize (some ⟨wB.heap.size, 0, none⟩ : Option Addr) = A5 at T5
    go_upto_region 11 with fail
    have S6 := Lib.hid (sw_build (w := wC) (ty := 24) (repC_cons (t := k) (T1b.out.s.grow kC) repC_nil) (by simp))
    have T6 : Hid (TB ((wC.alloc (.cells #[.int .i64 k.k, .int .i64 k.n, .slice B k.l.length ck] 24)).alloc (.cells #[.int .i64 5, .int .i64 n, .slice (some ⟨wC.heap.size, 0, none⟩) 1 1] 24)) (wC.alloc (.cells #[.int .i64 k.k, .int .i64 k.n, .slice B k.l.length ck] 24)).heap.size (.mk 5 n [k]) (some ⟨wC.heap.size, 0, none⟩) 1) := TB.make (t := .mk 5 n [k]) S6.out
    rw [World.size_alloc] at T6
    have gC := Lib.hid (((Below.refl wC.heap.size wC).alloc (Nat.le_refl _) (.cells #[.int .i64 k.k, .int .i64 k.n, .slice B k.l.length ck] 24)).alloc (by simp) (.cells #[.int .i64 5, .int .i64 n, .slice (some ⟨wC.heap.size, 0, none⟩) 1 1] 24))
    generalize (wC.alloc (.cells #[.int .i64 k.k, .int .i64 k.n, .slice B k.l.length ck] 24)).alloc (.cells #[.int .i64 5, .int .i64 n, .slice (some ⟨wC.heap.size, 0, none⟩) 1 1] 24) = wD at T6 gC ⊢
    generalize wC.heap.size + 1 = X6 at T6 ⊢
    have kD := kC.trans (gC.out.mono kC.size)
    have T3d := Lib.hid (T3c.out.grow gC.out)
    have T4d := Lib.hid (T4c.out.grow gC.out)
    have T5d := Lib.hid (T5.out.grow gC.out)
    clear S6 T3c T4c T5 gC kC
    generalize (some ⟨wC.heap.size, 0, none⟩ : Option Addr) = A6 at T6
    have U1 := Lib.hid (T1b.out.grow kD)
    have U2 := Lib.hid (T2b.out.grow kD)
    have BD := Lib.hid (BQb.out.trans (kD.mono BQb.out.size))
    have HTD := Lib.hid (tab_below HTb.out kD)
    have HLD := Lib.hid (HLb.out.grow kD)
    clear M10 M11 M12 M20 M21 M22 T1b T2b BQb HTb HLb HSN kD
    have hvl := HV.out.1
    have hvk := HV.out.2.1
    have hvt := HV.out.2.2.1
    have hzz := HV.out.2.2.2
    obtain ⟨v3, v4, v5, v6⟩ := mk_valid hvk hvt hnn.out.1 hnn.out.2
    obtain ⟨z3, z4, z5, z6⟩ := mk_size k t n
    have HSN := Lib.hid (fun (V : World) (hV : Below wD.heap.size wD V) => KB.of hV (sanityCall V (tab_below HTD.out hV)))
    have HKk := Lib.hid (fun (V : World) (hV : Below wD.heap.size wD V) => KB.of hV (knowsK (HLD.out.grow hV) (U1.out.s.grow hV) hvl (by omega) hvk (by omega) (tab_below HTD.out hV)))
    have HKt := Lib.hid (fun (V : World) (hV : Below wD.heap.size wD V) => KB.of hV (knowsK (HLD.out.grow hV) (U2.out.s.grow hV) hvl (by omega) hvt (by omega) (tab_below HTD.out hV)))
    have HK3 := Lib.hid (fun (V : World) (hV : Below wD.heap.size wD V) => KB.of hV (knowsK (HLD.out.grow hV) (T3d.out.s.grow hV) hvl (by omega) v3 (by omega) (tab_below HTD.out hV)))
    have HK4 := Lib.hid (fun (V : World) (hV : Below wD.heap.size wD V) => KB.of hV (knowsK (HLD.out.grow hV) (T4d.out.s.grow hV) hvl (by omega) v4 (by omega) (tab_below HTD.out hV)))
    have HK5 := Lib.hid (fun (V : World) (hV : Below wD.heap.size wD V) => KB.of hV (knowsK (HLD.out.grow hV) (T5d.out.s.grow hV) hvl (by omega) v5 (by omega) (tab_below HTD.out hV)))
    have HK6 := Lib.hid (fun (V : World) (hV : Below wD.heap.size wD V) => KB.of hV (knowsK (HLD.out.grow hV) (T6.out.s.grow hV) hvl (by omega) v6 (by omega) (tab_below HTD.out hV)))
    have HO1 := Lib.hid (fun (V : World) (b : Nat) (hV : Below wD.heap.size wD V) (hb : V.heap[b]? = some (.cells #[.int .i64 3, .int .i64 0, .slice C1 2 cc1, .int .i64 k.k, .int .i64 k.n, .slice B k.l.length ck] 24)) =>
      KB.of hV (knowsK (l := [.mk 3 0 [k, t], k]) (sw_block hb (repC_cons (t := .mk 3 0 [k, t]) (T3d.out.s.grow hV) (repC_cons (t := k) (U1.out.s.grow hV) repC_nil)) (by simp)) (U2.out.s.grow hV) (by simp only [List.mem_cons, List.not_mem_nil, or_false]; rintro x (rfl | rfl); exact v3; exact hvk) (by simp only [sizes]; omega) hvt (by omega) (tab_below HTD.out hV)))
    have HO2 := Lib.hid (fun (V : World) (b : Nat) (hV : Below wD.heap.size wD V) (hb : V.heap[b]? = some (.cells #[.int .i64 4, .int .i64 n, .slice A4 2 2, .int .i64 k.k, .int .i64 k.n, .slice B k.l.length ck] 24)) =>
      KB.of hV (knowsK (l := [.mk 4 n [k, t], k]) (sw_block hb (repC_cons (t := .mk 4 n [k, t]) (T4d.out.s.grow hV) (repC_cons (t := k) (U1.out.s.grow hV) repC_nil)) (by simp)) (U2.out.s.grow hV) (by simp only [List.mem_cons, List.not_mem_nil, or_false]; rintro x (rfl | rfl); exact v4; exact hvk) (by simp only [sizes]; omega) hvt (by omega) (tab_below HTD.out hV)))
    rw [knows_open (.inl rfl) v3 hvk] at HO1
    rw [knows_open (.inr rfl) v4 hvk] at HO2
    have M10 := fun V hV => (U1.out.at V hV).1
    have M11 := fun V hV => (U1.out.at V hV).2.1
    have M12 := fun V hV => (U1.out.at V hV).2.2
    have M20 := fun V hV => (U2.out.at V hV).1
    have M21 := fun V hV => (U2.out.at V hV).2.1
    have M22 := fun V hV => (U2.out.at V hV).2.2
    have M30 := fun V hV => (T3d.out.at V hV).1
    have M31 := fun V hV => (T3d.out.at V hV).2.1
    have M32 := fun V hV => (T3d.out.at V hV).2.2
    have M40 := fun V hV => (T4d.out.at V hV).1
    have M41 := fun V hV => (T4d.out.at V hV).2.1
    have M42 := fun V hV => (T4d.out.at V hV).2.2
    have M50 := fun V hV => (T5d.out.at V hV).1
    have M51 := fun V hV => (T5d.out.at V hV).2.1
    have M52 := fun V hV => (T5d.out.at V hV).2.2
    have M60 := fun V hV => (T6.out.at V hV).1
    have M61 := fun V hV => (T6.out.at V hV).2.1
    have M62 := fun V hV => (T6.out.at V hV).2.2
    simp only [T.k_mk, T.n_mk, T.l_mk, List.length_cons, List.length_nil, Nat.zero_add, Nat.reduceAdd] at M30 M31 M32 M40 M41 M42 M50 M51 M52 M60 M61 M62
    simp only [T.k_mk, T.n_mk, T.l_mk, List.length_cons, List.length_nil, Nat.zero_add, Nat.reduceAdd] at HK3 HK4 HK5 HK6
    have m3 := fun (h1 : knows l k = true) (h2 : knows l t = true) => knows_make (k := 3) (n := 0) (l := [k, t]) hvl (by decide) (by simp only [List.mem_cons, List.not_mem_nil, or_false]; rintro x (rfl | rfl); exact h1; exact h2)
    have m4 := fun (h1 : knows l k = true) (h2 : knows l t = true) => knows_make (k := 4) (n := n) (l := [k, t]) hvl (by decide) (by simp only [List.mem_cons, List.not_mem_nil, or_false]; rintro x (rfl | rfl); exact h1; exact h2)
    have m5 := fun (h1 : knows l k = true) (h2 : knows l t = true) => knows_make (k := 6) (n := 0) (l := [k, t]) hvl (by decide) (by simp only [List.mem_cons, List.not_mem_nil, or_false]; rintro x (rfl | rfl); exact h1; exact h2)
    have m6 := fun (h1 : knows l k = true) => knows_make (k := 5) (n := n) (l := [k]) hvl (by decide) (by simp only [List.mem_cons, List.not_mem_nil, or_false]; rintro x rfl; exact h1)
    have hD := Below.refl wD.heap.size wD
    have tokO : True := trivial
    have tok1 : True := trivial
    have tok2 : True := trivial
    clear v3 v4 v5 v6 z3 z4 z5 z6 hzz hvl hvk hvt U1 U2 T3d T4d T5d T6 HTD HLD
    cases hkk : knows l k with
    | false =>
      rw [hkk] at HKk
      generalize knows l t = d at HKt
      clear hkk m3 m4 m5 m6 HK3 HK4 HK5 HK6
      cases d
      all_goals
        go_wp2_with (first
          | (go_at_call 27; clear tok1; refine (HKk.out _ (by assumption)).mono ?_; rintro e w8 ⟨rfl, k1⟩)
          | (go_at_call 27; clear tok2; refine (HKt.out _ (by assumption)).mono ?_; rintro e w8 ⟨rfl, k2⟩)
          | (go_at_call 13; refine (HSN.out _ (by assumption)).mono ?_; rintro e w9 ⟨rfl, k9⟩; have k9b := k9.alloc k9.size (.cells #[.int .i64 3, .int .i64 0, .slice C1 2 cc1, .int .i64 k.k, .int .i64 k.n, .slice B k.l.length ck] 24))
          | (go_at_call 27; clear tokO; refine (HO1.out _ _ k9b (heap_alloc_new _ _)).mono ?_; rintro e w10 ⟨rfl, k10⟩; have k10b := k10.alloc k10.size (.cells #[.int .i64 4, .int .i64 n, .slice A4 2 2, .int .i64 k.k, .int .i64 k.n, .slice B k.l.length ck] 24))
          | (go_at_call 27; refine (HO2.out _ _ k10b (heap_alloc_new _ _)).mono ?_; rintro e w11 ⟨rfl, k11⟩))
        go_ret
        exact ⟨rfl, BD.out.trans (k11.mono BD.out.size)⟩
    | true =>
      rw [hkk] at HKk
      rw [m6 hkk] at HK6
      cases hkt : knows l t with
      | false =>
        rw [hkt] at HKt
        clear hkk hkt m3 m4 m5 m6 HK3 HK4 HK5
        have tok6 : True := trivial
        go_wp2_with (first
          | (go_at_call 27; clear tok1; refine (HKk.out _ (by assumption)).mono ?_; rintro e w8 ⟨rfl, k1⟩)
          | (go_at_call 27; clear tok2; refine (HKt.out _ (by assumption)).mono ?_; rintro e w8 ⟨rfl, k2⟩)
          | (go_at_call 27; clear tok6; refine (HK6.out _ (by assumption)).mono ?_; rintro e w8 ⟨rfl, k6⟩)
          | (go_at_call 13; refine (HSN.out _ (by assumption)).mono ?_; rintro e w9 ⟨rfl, k9⟩; have k9b := k9.alloc k9.size (.cells #[.int .i64 3, .int .i64 0, .slice C1 2 cc1, .int .i64 k.k, .int .i64 k.n, .slice B k.l.length ck] 24))
          | (go_at_call 27; clear tokO; refine (HO1.out _ _ k9b (heap_alloc_new _ _)).mono ?_; rintro e w10 ⟨rfl, k10⟩; have k10b := k10.alloc k10.size (.cells #[.int .i64 4, .int .i64 n, .slice A4 2 2, .int .i64 k.k, .int .i64 k.n, .slice B k.l.length ck] 24))
          | (go_at_call 27; refine (HO2.out _ _ k10b (heap_alloc_new _ _)).mono ?_; rintro e w11 ⟨rfl, k11⟩))
        go_ret
        exact ⟨rfl, BD.out.trans (k11.mono BD.out.size)⟩
      | true =>
        rw [hkt] at HKt
        rw [m3 hkk hkt] at HK3
        rw [m4 hkk hkt] at HK4
        rw [m5 hkk hkt] at HK5
        clear hkk hkt m3 m4 m5 m6
        have tok3 : True := trivial
        have tok4 : True := trivial
        have tok5 : True := trivial
        have tok6 : True := trivial
        go_wp2_with (first
          | (go_at_call 27; clear tok1; refine (HKk.out _ (by assumption)).mono ?_; rintro e w8 ⟨rfl, k1⟩)
          | (go_at_call 27; clear tok2; refine (HKt.out _ (by assumption)).mono ?_; rintro e w8 ⟨rfl, k2⟩)
          | (go_at_call 27; clear tok3; refine (HK3.out _ (by assumption)).mono ?_; rintro e w8 ⟨rfl, k3⟩)
          | (go_at_call 27; clear tok4; refine (HK4.out _ (by assumption)).mono ?_; rintro e w8 ⟨rfl, k4⟩)
          | (go_at_call 27; clear tok5; refine (HK5.out _ (by assumption)).mono ?_; rintro e w8 ⟨rfl, k5⟩)
          | (go_at_call 27; clear tok6; refine (HK6.out _ (by assumption)).mono ?_; rintro e w8 ⟨rfl, k6⟩)
          | (go_at_call 13; refine (HSN.out _ (by assumption)).mono ?_; rintro e w9 ⟨rfl, k9⟩; have k9b := k9.alloc k9.size (.cells #[.int .i64 3, .int .i64 0, .slice C1 2 cc1, .int .i64 k.k, .int .i64 k.n, .slice B k.l.length ck] 24))
          | (go_at_call 27; clear tokO; refine (HO1.out _ _ k9b (heap_alloc_new _ _)).mono ?_; rintro e w10 ⟨rfl, k10⟩; have k10b := k10.alloc k10.size (.cells #[.int .i64 4, .int .i64 n, .slice A4 2 2, .int .i64 k.k, .int .i64 k.n, .slice B k.l.length ck] 24))
          | (go_at_call 27; refine (HO2.out _ _ k10b (heap_alloc_new _ _)).mono ?_; rintro e w11 ⟨rfl, k11⟩))
        go_ret
        exact ⟨rfl, BD.out.trans (k11.mono BD.out.size)⟩
end Go.Proofs.YthfcaiipcdibbaaDoor
