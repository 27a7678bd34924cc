import Derived.Test.YthfcaiipcdibbaaDoorMC
import Derived.Deep.RegionHeld3
/- The specification's arity, Valid, Small. -/
set_option linter.unusedSimpArgs false
set_option linter.unusedVariables false
namespace Go.Proofs.YthfcaiipcdibbaaDoor
open Go.RowKit Tm

theorem box_later {w : World} {o : Array Value} {t : TypeId} (p : Later (w.alloc (.cells o t))) (j : Nat) : p.v.cell? ⟨w.heap.size, j, none⟩ = o[j]? := by
  rw [p.h.cell (p := ⟨w.heap.size, j, none⟩) (by simp)]
  exact World.cell?_alloc_new _ _ _ _
theorem later_same {P : Program} {f : FuncId} {args : Array Value} {w : World} {p : Later w} {v : Value}
    (h : Calls P f args p.v fun e w' => e = .returned v ∧ p.v = w') : Calls P f args p.v fun e w'' => e = .returned v ∧ ∃ q : Later w, w'' = q.v :=
  h.mono fun _ w' ⟨he, hb⟩ => ⟨he, p, hb.symm⟩

set_option maxHeartbeats 1000000 in
theorem refArity (k : Int) (w : World) : Calls Tryd.prog 37 #[.int .i64 k] w fun e w' => e = .returned (.int .i64 (arity k)) ∧ w = w' := by
  have key : ((k == 1) = true ∧ arity k = 0) ∨ ((k == 1) = false ∧ (k == 2) = true ∧ arity k = 0) ∨ ((k == 1) = false ∧ (k == 2) = false ∧ (k == 3) = true ∧ arity k = 2) ∨
      ((k == 1) = false ∧ (k == 2) = false ∧ (k == 3) = false ∧ (k == 4) = true ∧ arity k = 2) ∨ ((k == 1) = false ∧ (k == 2) = false ∧ (k == 3) = false ∧ (k == 4) = false ∧ (k == 6) = true ∧ arity k = 2) ∨
      ((k == 1) = false ∧ (k == 2) = false ∧ (k == 3) = false ∧ (k == 4) = false ∧ (k == 6) = false ∧ (k == 5) = true ∧ arity k = 1) ∨
      ((k == 1) = false ∧ (k == 2) = false ∧ (k == 3) = false ∧ (k == 4) = false ∧ (k == 6) = false ∧ (k == 5) = false ∧ arity k = -1) := by
    simp only [beq_iff_eq, beq_eq_false_iff_ne]
    unfold arity
    by_cases h1 : k = 1
    · simp [h1]
    by_cases h2 : k = 2
    · simp [h2]
    by_cases h3 : k = 3
    · simp [h3]
    by_cases h4 : k = 4
    · simp [h4]
    by_cases h6 : k = 6
    · simp [h6]
    by_cases h5 : k = 5
    · simp [h5]
    simp [h1, h2, h3, h4, h5, h6]
  rcases key with ⟨a1, h⟩ | ⟨a1, a2, h⟩ | ⟨a1, a2, a3, h⟩ | ⟨a1, a2, a3, a4, h⟩ | ⟨a1, a2, a3, a4, a6, h⟩ | ⟨a1, a2, a3, a4, a6, a5, h⟩ | ⟨a1, a2, a3, a4, a6, a5, h⟩
  all_goals
    rw [h]
    clear h
    go_enter Tryd.func37, Tryd.ntmps37
    go_wp2
    go_ret
    exact ⟨rfl, rfl⟩

/-- The head of a term: what the specification's test comes to, its cases. -/
theorem head_cases (k n : Int) (len : Nat) :
    (okHead k n len = false ∧ ((decide (n < 0) = true) ∨
      (decide (n < 0) = false ∧ decide (2147483647 < n) = true) ∨
      (decide (n < 0) = false ∧ decide (2147483647 < n) = false ∧ ((len : Int) != arity k) = true) ∨
      (decide (n < 0) = false ∧ decide (2147483647 < n) = false ∧ ((len : Int) != arity k) = false ∧ (k == 3) = true ∧ (n != 0) = true) ∨
      (decide (n < 0) = false ∧ decide (2147483647 < n) = false ∧ ((len : Int) != arity k) = false ∧ (k == 3) = false ∧ (k == 6) = true ∧ (n != 0) = true))) ∨
    (okHead k n len = true ∧ decide (n < 0) = false ∧ decide (2147483647 < n) = false ∧ ((len : Int) != arity k) = false ∧
      (((k == 3) = true ∧ (n != 0) = false) ∨ ((k == 3) = false ∧ (k == 6) = true ∧ (n != 0) = false) ∨ ((k == 3) = false ∧ (k == 6) = false))) := by
  unfold okHead
  by_cases h0 : n < 0
  · left; refine ⟨?_, .inl (by simpa using h0)⟩; simp; omega
  by_cases h1 : 2147483647 < n
  · left; refine ⟨?_, .inr (.inl ⟨by simpa using h0, by simpa using h1⟩)⟩; simp; omega
  by_cases h2 : (len : Int) = arity k
  · by_cases h3 : k = 3
    · by_cases h4 : n = 0
      · right; simp [h2, h3, h4]
      · left; simp [h2, h3, h4]; omega
    · by_cases h6 : k = 6
      · by_cases h4 : n = 0
        · right; simp [h2, h6, h4]
        · left; simp [h2, h6, h4]; omega
      · right; simp [h2, h3, h6]; omega
  · left; refine ⟨?_, .inr (.inr (.inl ⟨by simpa using h0, by simpa using h1, by simpa using h2⟩))⟩; simp [h2]

set_option maxHeartbeats 4000000 in
set_option maxRecDepth 100000 in
theorem refValid (t : T) : ∀ (I : Im) (w : World) (A : Option Addr) (cap : Nat), Tm.Mod w I → SL I t.l A cap →
    Calls Tryd.prog 11 #[.agg #[.int .i64 t.k, .int .i64 t.n, .slice A t.l.length cap]] w fun e w' => e = .returned (.bool (valid t)) ∧ Below w.heap.size w w' := by
  induction t using T.ind with
  | h k n l ih =>
    intro I w A cap hm hl
    have hc1 := hl.1
    have hc2 := hl.2.1
    simp only [T.k_mk, T.n_mk, T.l_mk] at *
    have IH := Lib.hid ih
    have HM := Lib.hid hm
    have HL := Lib.hid hl
    clear ih hm hl
    have K0 := fun p : Later (w.alloc (.cells #[.int .i64 k, .int .i64 n, .slice A l.length cap] 24)) => box_later p 0
    have K1 := fun p : Later (w.alloc (.cells #[.int .i64 k, .int .i64 n, .slice A l.length cap] 24)) => box_later p 1
    have K2 := fun p : Later (w.alloc (.cells #[.int .i64 k, .int .i64 n, .slice A l.length cap] 24)) => box_later p 2
    rcases head_cases k n l.length with ⟨hok, h⟩ | ⟨hok, a0, a1, a2, h⟩
    · have fin : Hid (valid (.mk k n l) = false) := by unfold Hid; simp [valid, hok]
      clear hok
      rcases h with a0 | ⟨a0, a1⟩ | ⟨a0, a1, a2⟩ | ⟨a0, a1, a2, a3, a4⟩ | ⟨a0, a1, a2, a3, a5, a4⟩
      all_goals
        go_enter Tryd.func11, Tryd.ntmps11
        go_wp2_with fail
        refine wp_region_later (by kernel_rfl) (by kernel_rfl) ?_
        repeat (go_big_quiet_step ((go_at_call 37; exact later_same (refArity _ _))))
        refine wpQuiet_nil ?_
        rintro w2 ⟨⟨_, hl2⟩, rfl⟩
        go_wp2
        go_ret
        exact ⟨by rw [fin.out]; rfl, ((Below.refl _ _).alloc (Nat.le_refl _) _).trans (hl2.mono (by simp))⟩
    · have fin : Hid (valid (.mk k n l) = valids l) := by unfold Hid; simp [valid, hok]
      clear hok
      rcases h with ⟨a3, a4⟩ | ⟨a3, a5, a4⟩ | ⟨a3, a5⟩
      all_goals
        go_enter Tryd.func11, Tryd.ntmps11
        go_wp2_with fail
        refine wp_region_later (by kernel_rfl) (by kernel_rfl) ?_
        repeat (go_big_quiet_step ((go_at_call 37; exact later_same (refArity _ _))))
        refine wpQuiet_nil ?_
        rintro w2 ⟨⟨_, hl2⟩, rfl⟩
        have hl3 : Below (w.heap.size + 1) (w.alloc (.cells #[.int .i64 k, .int .i64 n, .slice A l.length cap] 24)) w2 := hl2.mono (by simp)
        have HL3 := Lib.hid hl3
        clear hl2 hl3 K0 K1 K2
        go_wp2_with fail
        go_loopw [3] (fun i wr => ∃ j : Nat, j ≤ l.length ∧ i = .int .i64 j ∧ Hid (valids (l.take j) = true) ∧ Below (w.heap.size + 1) (w.alloc (.cells #[.int .i64 k, .int .i64 n, .slice A l.length cap] 24)) wr) (fun i _ => l.length - (intOf i).toNat)
        case atStart => exact ⟨0, Nat.zero_le _, rfl, rfl, HL3.out⟩
        case round =>
          obtain ⟨j, hj, rfl, hh, hb⟩ := hrel
          have HH := Lib.hid hh.out
          clear hh
          have c2 : wr.cell? ⟨w.heap.size, 2, none⟩ = some (.slice A l.length cap) := newcell hb 2
          by_cases hlt : j < l.length
          · obtain ⟨b, o, A', cap', rfl, g3, d0, d1, d2⟩ := HL.out.cells (HM.out.grow (under1 hb)) hlt
            have HC := Lib.hid (IH.out l[j] (List.getElem_mem hlt) I wr A' cap' (HM.out.grow (under1 hb)) g3)
            have HBB := Lib.hid hb
            clear hb g3
            cases hbt : valid l[j] with
            | true =>
              have ok := Lib.hid (valids_take_succ hlt HH.out hbt)
              rw [hbt] at HC
              clear hbt
              go_wp2_with (go_at_call 11; refine HC.out.mono ?_; rintro e w' ⟨rfl, hb'⟩)
              go_roundw
              case rel => exact ⟨j + 1, by omega, by go_num, ok.out, HBB.out.trans (hb'.mono (size_of_below1 HBB.out))⟩
              case measure => simp [intOf]; omega
            | false =>
              have ok := Lib.hid (valids_false hlt hbt)
              rw [hbt] at HC
              clear hbt
              go_wp2_with (go_at_call 11; refine HC.out.mono ?_; rintro e w' ⟨rfl, hb'⟩)
              go_ret
              exact ⟨by rw [fin.out, ok.out]; rfl, under1 (HBB.out.trans (hb'.mono (size_of_below1 HBB.out)))⟩
          · have HBB := Lib.hid hb
            clear hb
            obtain rfl : j = l.length := by omega
            go_wp2
            go_ret
            exact ⟨by rw [fin.out, ← HH.out, List.take_length]; rfl, under1 HBB.out⟩
end Go.Proofs.YthfcaiipcdibbaaDoor

/- The specification's Subterms, Close, Knows. -/
set_option linter.unusedSimpArgs false
set_option linter.unusedVariables false
namespace Go.Proofs.YthfcaiipcdibbaaDoor
open Go.RowKit Tm

theorem one_slice {I : Im} {w : World} {t : T} {A : Option Addr} {cap : Nat} (hm : Tm.Mod w I) (h : SL I t.l A cap) (hI : I w.heap.size = none) :
    ∃ J, Ext I w J ∧ Tm.Mod (w.alloc (.cells #[.int .i64 t.k, .int .i64 t.n, .slice A t.l.length cap] 24)) J ∧ SL J [t] (some ⟨w.heap.size, 0, none⟩) 1 := by
  refine ⟨I.add w.heap.size #[.int .i64 t.k, .int .i64 t.n, .slice A t.l.length cap] 24, ⟨Im.le_add hI _ _, fun b x hb => ?_⟩, (hm.alloc _).add (heap_alloc_new w _), by simp, by omega, ?_⟩
  · unfold Im.add at hb
    split at hb
    · rename_i e; subst e; exact .inr (Nat.le_refl _)
    · exact .inl hb
  · simp only [RepL]
    refine ⟨w.heap.size, 0, rfl, ⟨_, (h.mono (Im.le_add hI _ _)).rep, fun i v hi => ?_⟩, trivial⟩
    rw [Nat.zero_add, Im.add_at]
    simpa using hi

set_option maxHeartbeats 2000000 in
set_option maxRecDepth 100000 in
theorem refSubterms (t : T) : ∀ (I : Im) (w : World) (A : Option Addr) (cap : Nat), Tm.Mod w I → SL I t.l A cap → size t ≤ 1000000 →
    Calls Tryd.prog 24 #[.agg #[.int .i64 t.k, .int .i64 t.n, .slice A t.l.length cap]] w (RetL I w (subterms t)) := by
  induction t using T.ind with
  | h k n l ih =>
    intro I w A cap hm hl hs
    have hc1 := hl.1
    have hc2 := hl.2.1
    obtain ⟨J0, hx0, hm0, hs0⟩ := one_slice (w := w.alloc (.cells #[.int .i64 k, .int .i64 n, .slice A l.length cap] 24)) (t := .mk k n l) (hm.alloc _) hl (hm.none_of_size (by simp))
    simp only [World.size_alloc] at hs0
    have hl0 := hl.mono hx0.le
    simp only [T.k_mk, T.n_mk, T.l_mk] at *
    simp only [size] at hs
    have fin : Hid (subterms (.mk k n l) = subAt (.mk k n l) l) := subterms_cons k n l
    have IH := Lib.hid ih
    have HM := Lib.hid hm
    have HL := Lib.hid hl0
    have HX0 : Hid (Ext I w J0) := hx0.from (by simp)
    have HM0 := Lib.hid hm0
    have HS0 := Lib.hid hs0
    clear ih hm hl hl0 hx0 hm0 hs0
    go_enter Tryd.func24, Tryd.ntmps24
    go_wp2
    go_loopw [3, 4, 5, 6] (fun ov i _ _ wr => ∃ (j : Nat) (J : Im) (A3 : Option Addr) (cap3 : Nat), j ≤ l.length ∧ i = .int .i64 j ∧ ov = .slice A3 (subAt (.mk k n l) (l.take j)).length cap3 ∧ Hid (Ext I w J) ∧ Hid (J0.le J) ∧ Hid (Tm.Mod wr J) ∧ Hid (SL J (subAt (.mk k n l) (l.take j)) A3 cap3) ∧ Below (w.heap.size + 1) (w.alloc (.cells #[.int .i64 k, .int .i64 n, .slice A l.length cap] 24)) wr) (fun _ i _ _ _ => l.length - (intOf i).toNat)
    case atStart => exact ⟨0, J0, some ⟨w.heap.size + 1, 0, none⟩, 1, Nat.zero_le _, rfl, rfl, HX0.out, Im.le.refl _, HM0.out, HS0.out, (Below.refl _ _).alloc (by simp) _⟩
    case round =>
      obtain ⟨j, J, A3, cap3, hj, rfl, rfl, hx, hle, hm, hsl, hb⟩ := hrel
      have HX := Lib.hid hx.out
      have HLE := Lib.hid hle.out
      have HMR := Lib.hid hm.out
      have HSL := Lib.hid hsl.out
      clear hx hle hm hsl
      have c2 : wr.cell? ⟨w.heap.size, 2, none⟩ = some (.slice A l.length cap) := newcell hb 2
      by_cases hlt : j < l.length
      · have hszj := size_le_sizes (List.getElem_mem hlt)
        obtain ⟨b, o, A', cap', rfl, g3, d0, d1, d2⟩ := (HL.out.mono HLE.out).cells HMR.out hlt
        have HC := Lib.hid (IH.out l[j] (List.getElem_mem hlt) J wr A' cap' HMR.out g3 (by omega))
        have HBB := Lib.hid hb
        clear hb g3
        have hlen1 := subterms_length l[j]
        have hlen2 : (subAt (.mk k n l) (l.take j)).length ≤ 1 + sizes l := by
          have h1 := subAt_length (.mk k n l) (l.take j)
          have h2 := sizes_take_le l j
          omega
        go_wp2_with (go_at_call 24; refine HC.out.mono ?_; rintro e w1 ⟨J1, A1, cap1, hx1, hm1, rfl, hs1, hb1⟩; have HX1 := Lib.hid hx1; have HM1 := Lib.hid hm1; have HS1 := Lib.hid hs1; have hc11 := hs1.1; have hc12 := hs1.2.1; have HB1 : Hid (Below (w.heap.size + 1) (w.alloc (.cells #[.int .i64 k, .int .i64 n, .slice (some ⟨b, o, none⟩) l.length cap] 24)) w1) := HBB.out.trans (hb1.mono (size_of_below1 HBB.out)); have hsw : wr.heap.size ≤ w1.heap.size := hb1.size; clear hx1 hm1 hs1 hb1)
        have hswr := size_of_below1 HBB.out
        obtain ⟨so, hso⟩ : ∃ so, subAt (.mk k n l) (l.take j) = so := ⟨_, rfl⟩
        have hnext : Hid (subAt (.mk k n l) (l.take (j + 1)) = putAll so (subterms l[j])) := by unfold Hid; rw [subAt_take_succ hlt, hso]
        rw [hso] at HSL hlen2
        simp only [hso]
        obtain ⟨ss, hss⟩ : ∃ ss, subterms l[j] = ss := ⟨_, rfl⟩
        rw [hss] at HS1 hlen1 hnext hc11
        simp only [hss]
        have HSO := Lib.hid hso
        clear hso hss
        obtain ⟨wo, rfl⟩ : ∃ wo : World, wo = wr := ⟨_, rfl⟩
        go_loopw [3, 6] (fun ov i wi => ∃ (m : Nat) (J2 : Im) (A4 : Option Addr) (cap4 : Nat), m ≤ ss.length ∧ i = .int .i64 m ∧ ov = .slice A4 (putAll so (ss.take m)).length cap4 ∧ Hid (Ext I w J2) ∧ Hid (J1.le J2) ∧ Hid (Tm.Mod wi J2) ∧ Hid (SL J2 (putAll so (ss.take m)) A4 cap4) ∧ Below (w.heap.size + 1) (w.alloc (.cells #[.int .i64 k, .int .i64 n, .slice (some ⟨b, o, none⟩) l.length cap] 24)) wi) (fun _ i _ => ss.length - (intOf i).toNat)
        case atStart => exact ⟨0, J1, A3, cap3, Nat.zero_le _, rfl, rfl, HX.out.trans HX1.out (by omega), Im.le.refl _, HM1.out, HSL.out.mono HX1.out.le, HB1.out⟩
        case round =>
          obtain ⟨m, J2, A4, cap4, hm, rfl, rfl, hx2, hle2, hm2, hsl2, hb2⟩ := hrel
          have HX2 := Lib.hid hx2.out
          have HLE2 := Lib.hid hle2.out
          have HM2 := Lib.hid hm2.out
          have HSL2 := Lib.hid hsl2.out
          clear hx2 hle2 hm2 hsl2
          have hszi := size_of_below1 hb2
          by_cases hmt : m < ss.length
          · obtain ⟨b5, o5, A5, cap5, rfl, g5, e0, e1, e2⟩ := (HS1.out.mono HLE2.out).cells HM2.out hmt
            have hlen3 : (putAll so (ss.take m)).length ≤ 1000000000 := by
              have h1 := (putAll_length_le (ss.take m) so).2
              have h2 : (ss.take m).length ≤ ss.length := by simp; omega
              omega
            have HP := Lib.hid (refPut (putAll so (ss.take m)) ss[m] J2 wr A4 A5 cap4 cap5 HM2.out HSL2.out g5 hlen3)
            have HBI := Lib.hid hb2
            have hn := Lib.hid (putAll_take_succ (o := so) hmt)
            clear hb2 g5
            go_wp2_with (go_at_call 31; refine HP.out.mono ?_; rintro e w6 ⟨J6, A6, cap6, hx6, hm6, rfl, hs6, hb6⟩; have HX6 := Lib.hid hx6; have HM6 := Lib.hid hm6; have HS6 := Lib.hid hs6; have HB6 := Lib.hid hb6; clear hx6 hm6 hs6 hb6)
            go_roundw
            case rel => exact ⟨m + 1, J6, A6, cap6, by omega, by go_num, by rw [hn.out], HX2.out.trans HX6.out (by omega), HLE2.out.trans HX6.out.le, HM6.out, by rw [hn.out]; exact HS6.out, HBI.out.trans (HB6.out.mono hszi)⟩
            case measure => simp [intOf]; omega
          · have HBI := Lib.hid hb2
            clear hb2
            obtain rfl : m = ss.length := by omega
            have hfull : Hid (putAll so (ss.take ss.length) = subAt (.mk k n l) (l.take (j + 1))) := by unfold Hid; rw [List.take_length, hnext.out]
            go_wp2
            go_roundw
            case rel => exact ⟨j + 1, J2, A4, cap4, by omega, by go_num, by rw [hfull.out], HX2.out, HLE.out.trans (HX1.out.le.trans HLE2.out), HM2.out, by rw [← hfull.out]; exact HSL2.out, HBI.out⟩
            case measure => simp [intOf]; omega
      · have HBB := Lib.hid hb
        clear hb
        obtain rfl : j = l.length := by omega
        have hfull : Hid (subAt (.mk k n l) (l.take l.length) = subterms (.mk k n l)) := by unfold Hid; rw [List.take_length, fin.out]
        go_wp2
        go_ret
        exact ⟨J, A3, cap3, HX.out, HMR.out, by rw [← hfull.out]; rfl, by rw [← hfull.out]; exact HSL.out, under1 HBB.out⟩
end Go.Proofs.YthfcaiipcdibbaaDoor

/- The specification's Close, Knows. -/
set_option linter.unusedSimpArgs false
set_option linter.unusedVariables false
namespace Go.Proofs.YthfcaiipcdibbaaDoor
open Go.RowKit Tm

def lenOf : Value → Nat | .slice _ n _ => n | _ => 0
theorem putAll_step (S : List T) : putAll S (opens S (S.take S.length)) = Tm.step S := by rw [List.take_length]; rfl

set_option maxHeartbeats 4000000 in
set_option maxRecDepth 100000 in
theorem refClose (L : List T) (I : Im) (w : World) (A : Option Addr) (cap : Nat) (hm : Tm.Mod w I) (hl : SL I L A cap) (hv : ∀ x ∈ L, valid x = true) (hs : sizes L ≤ 1000000) :
    Calls Tryd.prog 26 #[.slice A L.length cap] w (RetL I w (close L)) := by
  have hc1 := hl.1
  have hc2 := hl.2.1
  have hll := length_le_sizes L
  have HV := Lib.hid hv
  have HM := Lib.hid hm
  have HL := Lib.hid hl
  clear hv hm hl
  go_enter Tryd.func26, Tryd.ntmps26
  go_wp2
  go_loopw [3, 4] (fun ov i wr => ∃ (j : Nat) (J : Im) (A3 : Option Addr) (cap3 : Nat), j ≤ L.length ∧ i = .int .i64 j ∧ ov = .slice A3 (putAll [] (L.take j)).length cap3 ∧ Hid (Ext I w J) ∧ Hid (Tm.Mod wr J) ∧ Hid (SL J (putAll [] (L.take j)) A3 cap3) ∧ Below w.heap.size w wr) (fun _ i _ => L.length - (intOf i).toNat)
  case atStart => exact ⟨0, I, none, 0, Nat.zero_le _, rfl, rfl, Ext.refl _ _, HM.out, SL.nil I, Below.refl _ _⟩
  case round =>
    obtain ⟨j, J, A3, cap3, hj, rfl, rfl, hx, hm, hsl, hb⟩ := hrel
    have HX := Lib.hid hx.out
    have HMR := Lib.hid hm.out
    have HSL := Lib.hid hsl.out
    clear hx hm hsl
    have hsz : w.heap.size ≤ wr.heap.size := hb.size
    by_cases hlt : j < L.length
    · obtain ⟨b, o, A', cap', rfl, g3, d0, d1, d2⟩ := (HL.out.mono HX.out.le).cells HMR.out hlt
      have hlen3 : (putAll [] (L.take j)).length ≤ 1000000000 := by
        have h1 := (putAll_length_le (L.take j) []).2
        have h2 : (L.take j).length ≤ L.length := by simp; omega
        simp only [List.length_nil] at h1
        omega
      have HP := Lib.hid (refPut (putAll [] (L.take j)) L[j] J wr A3 A' cap3 cap' HMR.out HSL.out g3 hlen3)
      have HBB := Lib.hid hb
      have hn := Lib.hid (putAll_take_succ (o := []) hlt)
      clear hb g3
      go_wp2_with (go_at_call 31; refine HP.out.mono ?_; rintro e w6 ⟨J6, A6, cap6, hx6, hm6, rfl, hs6, hb6⟩; have HX6 := Lib.hid hx6; have HM6 := Lib.hid hm6; have HS6 := Lib.hid hs6; have HB6 := Lib.hid hb6; clear hx6 hm6 hs6 hb6)
      go_roundw
      case rel => exact ⟨j + 1, J6, A6, cap6, by omega, by go_num, by rw [hn.out], HX.out.trans HX6.out hsz, HM6.out, by rw [hn.out]; exact HS6.out, HBB.out.trans (HB6.out.mono hsz)⟩
      case measure => simp [intOf]; omega
    · obtain rfl : j = L.length := by omega
      have HPart : Hid (Part L (sortU L)) := Part.start L
      have hso : putAll [] (L.take L.length) = sortU L := by rw [List.take_length]; rfl
      rw [hso] at HSL
      simp only [hso]
      clear hso
      have HBB := Lib.hid hb
      clear hb
      obtain ⟨w0, hw0⟩ : ∃ w0 : World, w0 = wr := ⟨_, rfl⟩
      subst hw0
      go_wp2_with fail
      go_loopw [3, 5, 6, 7] (fun ov _ _ _ wr => ∃ (S : List T) (J2 : Im) (A4 : Option Addr) (cap4 : Nat), ov = .slice A4 S.length cap4 ∧ Hid (Part L S) ∧ Hid (Ext I w J2) ∧ Hid (Tm.Mod wr J2) ∧ Hid (SL J2 S A4 cap4) ∧ Below w.heap.size w wr) (fun ov _ _ _ _ => sizes L - lenOf ov)
      case atStart => exact ⟨sortU L, J, A3, cap3, rfl, HPart.out, HX.out, HMR.out, HSL.out, HBB.out⟩
      case round =>
        obtain ⟨S, J2, A4, cap4, rfl, hp, hx2, hm2, hsl2, hb2⟩ := hrel
        have HP2 := Lib.hid hp.out
        have HX2 := Lib.hid hx2.out
        have HM2 := Lib.hid hm2.out
        have HSL2 := Lib.hid hsl2.out
        have hSl : S.length ≤ sizes L := hp.out.length
        have hd1 := hsl2.out.1
        have hd2 := hsl2.out.2.1
        clear hp hx2 hm2 hsl2
        have HB2 := Lib.hid hb2
        clear hb2
        obtain ⟨wo, hwo⟩ : ∃ wo : World, wo = wr := ⟨_, rfl⟩
        subst hwo
        go_wp2_with fail
        go_loopw [5, 6, 7] (fun nv i _ wr => ∃ (m : Nat) (J5 : Im) (A5 : Option Addr) (cap5 : Nat), m ≤ S.length ∧ i = .int .i64 m ∧ nv = .slice A5 (putAll S (opens S (S.take m))).length cap5 ∧ Hid (Ext I w J5) ∧ Hid (J2.le J5) ∧ Hid (Tm.Mod wr J5) ∧ Hid (SL J5 (putAll S (opens S (S.take m))) A5 cap5) ∧ Below w.heap.size w wr) (fun _ i _ _ => S.length - (intOf i).toNat)
        case atStart => exact ⟨0, J2, A4, cap4, Nat.zero_le _, rfl, rfl, HX2.out, Im.le.refl _, HM2.out, HSL2.out, HB2.out⟩
        case round =>
          obtain ⟨m, J5, A5, cap5, hm, rfl, rfl, hx5, hle5, hm5, hsl5, hb5⟩ := hrel
          have HX5 := Lib.hid hx5.out
          have HLE5 := Lib.hid hle5.out
          have HM5 := Lib.hid hm5.out
          have HSL5 := Lib.hid hsl5.out
          have hd51 := hsl5.out.1
          have hd52 := hsl5.out.2.1
          clear hx5 hle5 hm5 hsl5
          have hsz5 : w.heap.size ≤ wr.heap.size := hb5.size
          by_cases hmt : m < S.length
          · have hvS : valid S[m] = true := valid_subsL HV.out (HP2.out.subs _ (List.getElem_mem hmt))
            obtain ⟨b5, o5, A6, cap6, rfl, g5, e0, e1, e2⟩ := (HSL2.out.mono HLE5.out).cells HM5.out hmt
            have hlen5 : (putAll S (opens S (S.take m))).length ≤ 1000000000 := by
              have h1 := (putAll_length_le (opens S (S.take m)) S).2
              have h2 := opens_length S (S.take m)
              have h3 : (S.take m).length ≤ S.length := by simp; omega
              omega
            have htk := opens_take_succ hmt
            have HBI := Lib.hid hb5
            clear hb5
            rcases opens_one (S := S) hvS with ⟨x, y, hxy, hk, hop⟩ | ⟨hk, hop⟩
            · -- a seal or a box
              have g6 := g5
              rw [hxy] at g6
              obtain ⟨b7, o7, A7, cap7, e7, g7, f0, f1, f2⟩ := g6.cells HM5.out (i := 0) (by simp)
              obtain ⟨b8, o8, A8, cap8, e8, g8, h0, h1, h2⟩ := g6.cells HM5.out (i := 1) (by simp)
              subst e7
              cases e8
              simp only [List.getElem_cons_zero, List.getElem_cons_succ, Nat.zero_mul, Nat.one_mul, Nat.add_zero] at f0 f1 f2 h0 h1 h2 g7 g8
              have hl2 : S[m].l.length = 2 := by rw [hxy]; rfl
              rw [hl2] at e2
              have HBu := Lib.hid (fun (W : World) (hW : Below wr.heap.size wr W) => refBuilt S (some ⟨b5, o5, none⟩) cap4 x J5 W A7 cap7 (HM5.out.grow hW) (HSL2.out.mono HLE5.out) g7)
              clear hl2 g5 g6 g7
              cases hbt : built S x with
              | true =>
                rw [hbt] at HBu hop
                simp only [if_true] at hop
                have hn : Hid (putAll S (opens S (S.take (m + 1))) = put (putAll S (opens S (S.take m))) y) := by unfold Hid; rw [htk, hop, putAll_snoc]
                have HPu := Lib.hid (fun (W : World) (hW : Below wr.heap.size wr W) => refPut (putAll S (opens S (S.take m))) y J5 W A5 A8 cap5 cap8 (HM5.out.grow hW) HSL5.out g8 hlen5)
                have G8 := Lib.hid g8
                clear htk hop hbt g8
                rcases hk with hk | hk
                · have hkb : (S[m].k == 3) = true := by simpa using hk
                  clear hk
                  go_wp2_with (first
                    | (go_at_call 49; refine (HBu.out _ (Below.refl _ _)).mono ?_; rintro e w6 ⟨rfl, hb6⟩; have HB6 := Lib.hid hb6; have e0' := (hb6.cell (p := ⟨b5, o5 + m * 3, none⟩) (World.block_lt_of_cell? _ _ e0)).trans e0; have e2' := (hb6.cell (p := ⟨b5, o5 + m * 3 + 2, none⟩) (World.block_lt_of_cell? _ _ e2)).trans e2; have h0' := (hb6.cell (p := ⟨b7, o7 + 3, none⟩) (World.block_lt_of_cell? _ _ h0)).trans h0; have h1' := (hb6.cell (p := ⟨b7, o7 + 3 + 1, none⟩) (World.block_lt_of_cell? _ _ h1)).trans h1; have h2' := (hb6.cell (p := ⟨b7, o7 + 3 + 2, none⟩) (World.block_lt_of_cell? _ _ h2)).trans h2; clear hb6)
                    | (go_at_call 31; refine (HPu.out _ HB6.out).mono ?_; rintro e w9 ⟨J9, A9, cap9, hx9, hm9, rfl, hs9, hb9⟩; have HX9 := Lib.hid hx9; have HM9 := Lib.hid hm9; have HS9 := Lib.hid hs9; have HB9 := Lib.hid hb9; clear hx9 hm9 hs9 hb9))
                  go_roundw
                  case rel => exact ⟨m + 1, J9, A9, cap9, by omega, by go_num, by rw [hn.out], HX5.out.trans (HX9.out.from HB6.out.size) hsz5, HLE5.out.trans HX9.out.le, HM9.out, by rw [hn.out]; exact HS9.out, HBI.out.trans ((HB6.out.trans (HB9.out.mono HB6.out.size)).mono hsz5)⟩
                  case measure => simp [intOf]; omega
                · have hkb : (S[m].k == 3) = false := by simp; omega
                  have hkb2 : (S[m].k == 4) = true := by simpa using hk
                  clear hk
                  go_wp2_with (first
                    | (go_at_call 49; refine (HBu.out _ (Below.refl _ _)).mono ?_; rintro e w6 ⟨rfl, hb6⟩; have HB6 := Lib.hid hb6; have e0' := (hb6.cell (p := ⟨b5, o5 + m * 3, none⟩) (World.block_lt_of_cell? _ _ e0)).trans e0; have e2' := (hb6.cell (p := ⟨b5, o5 + m * 3 + 2, none⟩) (World.block_lt_of_cell? _ _ e2)).trans e2; have h0' := (hb6.cell (p := ⟨b7, o7 + 3, none⟩) (World.block_lt_of_cell? _ _ h0)).trans h0; have h1' := (hb6.cell (p := ⟨b7, o7 + 3 + 1, none⟩) (World.block_lt_of_cell? _ _ h1)).trans h1; have h2' := (hb6.cell (p := ⟨b7, o7 + 3 + 2, none⟩) (World.block_lt_of_cell? _ _ h2)).trans h2; clear hb6)
                    | (go_at_call 31; refine (HPu.out _ HB6.out).mono ?_; rintro e w9 ⟨J9, A9, cap9, hx9, hm9, rfl, hs9, hb9⟩; have HX9 := Lib.hid hx9; have HM9 := Lib.hid hm9; have HS9 := Lib.hid hs9; have HB9 := Lib.hid hb9; clear hx9 hm9 hs9 hb9))
                  go_roundw
                  case rel => exact ⟨m + 1, J9, A9, cap9, by omega, by go_num, by rw [hn.out], HX5.out.trans (HX9.out.from HB6.out.size) hsz5, HLE5.out.trans HX9.out.le, HM9.out, by rw [hn.out]; exact HS9.out, HBI.out.trans ((HB6.out.trans (HB9.out.mono HB6.out.size)).mono hsz5)⟩
                  case measure => simp [intOf]; omega
              | false =>
                rw [hbt] at HBu hop
                simp only [Bool.false_eq_true, if_false] at hop
                have hn : Hid (putAll S (opens S (S.take (m + 1))) = putAll S (opens S (S.take m))) := by unfold Hid; rw [htk, hop, List.append_nil]
                clear htk hop hbt g8
                rcases hk with hk | hk
                · have hkb : (S[m].k == 3) = true := by simpa using hk
                  clear hk
                  go_wp2_with (go_at_call 49; refine (HBu.out _ (Below.refl _ _)).mono ?_; rintro e w6 ⟨rfl, hb6⟩; have HB6 := Lib.hid hb6; clear hb6)
                  go_roundw
                  case rel => exact ⟨m + 1, J5, A5, cap5, by omega, by go_num, by rw [hn.out], HX5.out, HLE5.out, HM5.out.grow HB6.out, by rw [hn.out]; exact HSL5.out, HBI.out.trans (HB6.out.mono hsz5)⟩
                  case measure => simp [intOf]; omega
                · have hkb : (S[m].k == 3) = false := by simp; omega
                  have hkb2 : (S[m].k == 4) = true := by simpa using hk
                  clear hk
                  go_wp2_with (go_at_call 49; refine (HBu.out _ (Below.refl _ _)).mono ?_; rintro e w6 ⟨rfl, hb6⟩; have HB6 := Lib.hid hb6; clear hb6)
                  go_roundw
                  case rel => exact ⟨m + 1, J5, A5, cap5, by omega, by go_num, by rw [hn.out], HX5.out, HLE5.out, HM5.out.grow HB6.out, by rw [hn.out]; exact HSL5.out, HBI.out.trans (HB6.out.mono hsz5)⟩
                  case measure => simp [intOf]; omega
            · have hn : Hid (putAll S (opens S (S.take (m + 1))) = putAll S (opens S (S.take m))) := by unfold Hid; rw [htk, hop, List.append_nil]
              have hkb : (S[m].k == 3) = false := by simp; exact fun e => hk (.inl e)
              have hkb2 : (S[m].k == 4) = false := by simp; exact fun e => hk (.inr e)
              clear hk htk hop g5
              go_wp2
              go_roundw
              case rel => exact ⟨m + 1, J5, A5, cap5, by omega, by go_num, by rw [hn.out], HX5.out, HLE5.out, HM5.out, by rw [hn.out]; exact HSL5.out, HBI.out⟩
              case measure => simp [intOf]; omega
          · have HBI := Lib.hid hb5
            clear hb5
            obtain rfl : m = S.length := by omega
            have hst := putAll_step S
            rw [hst] at HSL5 hd51
            simp only [hst]
            clear hst
            by_cases hfix : (Tm.step S).length = S.length
            · have fin : Hid (S = close L) := closeN_round HV.out HP2.out hfix
              have hlb : (((Tm.step S).length : Int) == (S.length : Int)) = true := by simp; omega
              have hlb2 : ((Tm.step S).length == S.length) = true := by simpa using hfix
              clear hfix
              go_wp2
              go_ret
              exact ⟨J5, A4, cap4, HX5.out, HM5.out, by rw [← fin.out]; rfl, by rw [← fin.out]; exact HSL2.out.mono HLE5.out, HBI.out⟩
            · have hgt : S.length < (Tm.step S).length := by have := (putAll_length_le (opens S S) S).1; unfold Tm.step at hfix ⊢; omega
              have hlb : (((Tm.step S).length : Int) == (S.length : Int)) = false := by simp; omega
              have hlb2 : ((Tm.step S).length == S.length) = false := by simpa using hfix
              have hPs : Hid (Part L (Tm.step S)) := HP2.out.step HV.out
              have hPl : (Tm.step S).length ≤ sizes L := hPs.out.length
              clear hfix
              go_wp2
              go_roundw
              case rel => exact ⟨Tm.step S, J5, A5, cap5, rfl, hPs.out, HX5.out, HM5.out, HSL5.out, HBI.out⟩
              case measure => simp [lenOf]; omega
end Go.Proofs.YthfcaiipcdibbaaDoor

/- The specification's Knows; Small, few. -/
set_option linter.unusedSimpArgs false
set_option linter.unusedVariables false
namespace Go.Proofs.YthfcaiipcdibbaaDoor
open Go.RowKit Tm

set_option maxHeartbeats 2000000 in
set_option maxRecDepth 100000 in
theorem refKnows (L : List T) (t : T) (I : Im) (w : World) (A B : Option Addr) (cap cb : Nat) (hm : Tm.Mod w I) (hl : SL I L A cap) (ht : SL I t.l B cb) (hv : ∀ x ∈ L, valid x = true) (hs : sizes L ≤ 1000000) :
    Calls Tryd.prog 28 #[.slice A L.length cap, .agg #[.int .i64 t.k, .int .i64 t.n, .slice B t.l.length cb]] w fun e w' => e = .returned (.bool (knows L t)) ∧ Below w.heap.size w w' := by
  have HC := Lib.hid (fun (W : World) (hW : Below (w.heap.size + 1) (w.alloc (.cells #[.int .i64 t.k, .int .i64 t.n, .slice B t.l.length cb] 24)) W) => refClose L I W A cap (hm.grow (under1 hW)) hl hv hs)
  have HT := Lib.hid ht
  clear hm hl ht
  have L0 := fun (W : World) (hW : Below (w.heap.size + 1) (w.alloc (.cells #[.int .i64 t.k, .int .i64 t.n, .slice B t.l.length cb] 24)) W) => newcell hW 0
  have L1 := fun (W : World) (hW : Below (w.heap.size + 1) (w.alloc (.cells #[.int .i64 t.k, .int .i64 t.n, .slice B t.l.length cb] 24)) W) => newcell hW 1
  have L2 := fun (W : World) (hW : Below (w.heap.size + 1) (w.alloc (.cells #[.int .i64 t.k, .int .i64 t.n, .slice B t.l.length cb] 24)) W) => newcell hW 2
  go_enter Tryd.func28, Tryd.ntmps28
  go_wp2_with fail
  go_region_held3 (fun w' => Below (w.heap.size + 1) (w.alloc (.cells #[.int .i64 t.k, .int .i64 t.n, .slice B t.l.length cb] 24)) w') (first | exact (Below.refl _ _).drew | exact hkeep2 | exact hkeep1) (first
    | (go_at_call 26; refine (HC.out _ (by assumption)).mono ?_; rintro e w1 ⟨J1, A1, cap1, hx1, hm1, rfl, hs1, hb1⟩; have hkeep1 : Below (w.heap.size + 1) (w.alloc (.cells #[.int .i64 t.k, .int .i64 t.n, .slice B t.l.length cb] 24)) w1 := Below.trans (by assumption) (hb1.mono (size_of_below1 (by assumption))); have HX1 := Lib.hid hx1; have HM1 := Lib.hid hm1; have HS1 := Lib.hid hs1; clear hx1 hm1 hs1 hb1)
    | (go_at_call 49; refine (refBuilt (close L) _ _ t _ _ _ _ HM1.out HS1.out (HT.out.mono HX1.out.le)).mono ?_; rintro e w2 ⟨rfl, hb2⟩; have hkeep2 : Below (w.heap.size + 1) (w.alloc (.cells #[.int .i64 t.k, .int .i64 t.n, .slice B t.l.length cb] 24)) w2 := Below.trans hkeep1 (hb2.mono (size_of_below1 hkeep1)); clear hb2))
  go_wp2
  go_ret
  exact ⟨rfl, under1 (by assumption)⟩
end Go.Proofs.YthfcaiipcdibbaaDoor
