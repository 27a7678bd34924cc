/- The law TermLocal. -/
import Derived.Test.YthfcaiipcdibbaaDoorKLw4
set_option linter.unusedSimpArgs false
set_option linter.unusedVariables false
namespace Go.Proofs.YthfcaiipcdibbaaDoor
open Go.RowKit Tm Go.Shelf Go.MapKept

theorem subsL_append (l m : List T) : subsL (l ++ m) = subsL l ++ subsL m := by
  induction l with
  | nil => rfl
  | cons a l ih => simp only [List.cons_append, subsL, ih, List.append_assoc]
theorem subsL_take_succ {l : List T} {j : Nat} (h : j < l.length) (x : T) : x ∈ subsL (l.take (j + 1)) ↔ x ∈ subsL (l.take j) ∨ x ∈ subs l[j] := by
  rw [List.take_add_one, List.getElem?_eq_getElem h, subsL_append]
  simp [subsL]
theorem key_valid {n : Int} (h0 : 0 ≤ n) (h1 : n ≤ 1000) : valid (kt n) = true := by
  unfold kt
  simp only [valid, valids, Bool.and_true, okHead, arity, Bool.and_eq_true, decide_eq_true_eq]
  simp
  omega

set_option maxHeartbeats 4000000 in
set_option maxRecDepth 100000 in
theorem lawLocal (l : List T) (n : Int) (W : World) (A : Option Addr) (cl : Nat) (hl : SWt W l A cl) (hs : sizes l ≤ 1048576) (ht : tab W) :
    Calls Tryd.prog 8 #[.slice A l.length cl, .int .i64 n] W (KB W (.bool true)) := by
  have HT := Lib.hid ht
  have HL := Lib.hid hl
  have hc1 := hl.1
  have hc2 := hl.2.1
  have hb0 := Below.refl W.heap.size W
  clear ht hl
  go_enter Tryd.func8, Tryd.ntmps8
  go_wp2_with fail
  obtain ⟨mm, hmm⟩ : ∃ mm, mm = max 0 (min n 1000) := ⟨_, rfl⟩
  have HMM := Lib.hid (fun (h0 : 0 ≤ n) (h1 : n ≤ 1000) => (show mm = n by rw [hmm]; omega))
  rw [← hmm]
  clear hmm
  refine (keyCall _ _).mono ?_
  rintro e w1 ⟨rfl, h1⟩
  have HF := Lib.hid (KB.of h1 (fewK (t := kt mm) (HL.out.grow h1) (SWt.nil _) (by simp [kt, size, sizes]; omega)))
  have HSN := Lib.hid (fun (V : World) (hV : Below W.heap.size W V) => KB.of hV (sanityCall V (tab_below HT.out hV)))
  cases hsm : small (l ++ [kt mm]) with
  | false =>
    rw [hsm] at HF
    clear hsm
    go_wp2_with (first
      | (go_at_call 12; refine HF.out.mono ?_; rintro e w3 ⟨rfl, h3⟩)
      | (go_at_call 13; refine (HSN.out _ h3).mono ?_; rintro e w4 ⟨rfl, h4⟩))
    go_ret
    exact ⟨rfl, h4⟩
  | true =>
    rw [hsm] at HF
    obtain ⟨hvl, _, hz⟩ := small_snoc hsm
    clear hsm
    by_cases hn0 : n < 0
    · have hd0 : decide (n < 0) = true := by simpa using hn0
      clear hn0
      go_wp2_with (first
        | (go_at_call 12; refine HF.out.mono ?_; rintro e w3 ⟨rfl, h3⟩)
        | (go_at_call 13; refine (HSN.out _ h3).mono ?_; rintro e w4 ⟨rfl, h4⟩))
      go_ret
      exact ⟨rfl, h4⟩
    have hd0 : decide (n < 0) = false := by simpa using hn0
    by_cases hn1 : 1000 < n
    · have hd1 : decide (1000 < n) = true := by simpa using hn1
      clear hn0 hn1
      go_wp2_with (first
        | (go_at_call 12; refine HF.out.mono ?_; rintro e w3 ⟨rfl, h3⟩)
        | (go_at_call 13; refine (HSN.out _ h3).mono ?_; rintro e w4 ⟨rfl, h4⟩))
      go_ret
      exact ⟨rfl, h4⟩
    have hd1 : decide (1000 < n) = false := by simpa using hn1
    have hnn : Hid (0 ≤ n ∧ n ≤ 1000) := ⟨by omega, by omega⟩
    have hzl : sizes l ≤ 150 := by omega
    have HV := Lib.hid hvl
    clear hn0 hn1 hz hvl
    go_wp2_with (go_at_call 12; refine HF.out.mono ?_; rintro e w3 ⟨rfl, h3⟩)
    have H3 := Lib.hid h3
    clear HF h3 h1
    go_loopw [6, 7] (fun a i wr => ∃ (j : Nat) (X : List T) (A6 : Option Addr) (c6 : Nat), j ≤ l.length ∧ i = .int .i64 j ∧ a = .slice A6 X.length c6 ∧ Hid (∀ x, x ∈ X ↔ x ∈ subsL (l.take j)) ∧ X.length ≤ sizes (l.take j) ∧ SWt wr X A6 c6 ∧ Below W.heap.size W wr) (fun _ i _ => l.length - (intOf i).toNat)
    case atStart => exact ⟨0, [], none, 0, Nat.zero_le _, rfl, rfl, (fun x => by simp [subsL]), by simp, SWt.nil _, H3.out⟩
    case round =>
      clear H3
      obtain ⟨j, X, A6, c6, hj, rfl, rfl, hX, hXl, hXs, hbr⟩ := hrel
      by_cases hlt : j < l.length
      · obtain ⟨b, o, A', cap', rfl, g3, d0, d1, d2⟩ := (HL.out.grow hbr).cells (mod_imOf wr) hlt
        have hvj := HV.out l[j] (List.getElem_mem hlt)
        have hszj := size_le_sizes (List.getElem_mem hlt)
        have hst := sizes_take_succ hlt
        have hsj := sizes_take_le l j
        have HC := Lib.hid (subK g3 hvj (by omega) (tab_below HT.out hbr))
        have hslen := subterms_length l[j]
        have HX := Lib.hid hX.out
        have HST := Lib.hid hst
        have HBR := Lib.hid hbr
        have HXS := Lib.hid hXs
        have hX150 : X.length ≤ 150 := by omega
        have hS150 : (subterms l[j]).length ≤ 150 := by omega
        have HXL := Lib.hid hXl
        have HSL := Lib.hid hslen
        have HXM := Lib.hid (subsL_take_succ hlt)
        generalize hS : subterms l[j] = S at HC hslen hS150 HSL
        have HSE := Lib.hid hS
        clear hX hXs hbr hst hsj g3 hvj hszj hslen hXl hS
        obtain ⟨wo, rfl⟩ : ∃ wo : World, wo = wr := ⟨_, rfl⟩
        go_wp2_with (go_at_call 23; refine HC.out.mono ?_; rintro e w5 ⟨A8, c8, rfl, s8, h8⟩)
        have S8 := Lib.hid s8
        have hs1 := s8.1
        have hs2 := s8.2.1
        have HXS5 := Lib.hid (HXS.out.grow h8)
        have HB5 := Lib.hid (HBR.out.trans (h8.mono HBR.out.size))
        clear s8 h8 HXS HBR
        go_loopw [6, 9] (fun a i wi => ∃ (k : Nat) (Y : List T) (A9 : Option Addr) (c9 : Nat), k ≤ S.length ∧ i = .int .i64 k ∧ a = .slice A9 Y.length c9 ∧ Hid (∀ x, x ∈ Y ↔ x ∈ X ∨ x ∈ S.take k) ∧ Y.length ≤ X.length + k ∧ SWt wi Y A9 c9 ∧ Below w5.heap.size w5 wi) (fun _ i _ => S.length - (intOf i).toNat)
        case atStart => exact ⟨0, X, A6, c6, Nat.zero_le _, rfl, rfl, (fun x => by simp), by omega, HXS5.out, Below.refl _ _⟩
        case round =>
          obtain ⟨k, Y, A9, c9, hk, rfl, rfl, hY, hYl, hYs, hbi⟩ := hrel
          have HY := Lib.hid hY.out
          clear hY
          by_cases hlk : k < S.length
          · obtain ⟨b2, o2, A10, c10, rfl, g4, f0, f1, f2⟩ := (S8.out.grow hbi).cells (mod_imOf wr) hlk
            have hPl := put_length_le Y S[k]
            have HP := Lib.hid (putK hYs g4 (by omega))
            have HBI := Lib.hid hbi
            have hz2 : (put Y S[k]).length ≤ X.length + (k + 1) := by omega
            have HM2 := Lib.hid (fun x => (show x ∈ put Y S[k] ↔ x ∈ X ∨ x ∈ S.take (k + 1) by
              rw [mem_put, HY.out x, List.take_add_one, List.getElem?_eq_getElem hlk, List.mem_append]
              simp only [Option.toList_some, List.mem_singleton]
              constructor
              · rintro (h | h | h)
                · exact .inr (.inr h)
                · exact .inl h
                · exact .inr (.inl h)
              · rintro (h | h | h)
                · exact .inr (.inl h)
                · exact .inr (.inr h)
                · exact .inl h))
            clear hPl hYs g4 hbi HY
            go_wp2_with (go_at_call 31; refine HP.out.mono ?_; rintro e w6 ⟨A11, c11, rfl, s11, h11⟩; have S11 := Lib.hid s11; have H11 := Lib.hid (HBI.out.trans (h11.mono HBI.out.size)); clear s11 h11)
            go_roundw
            case rel => first | exact ⟨k + 1, put Y S[k], A11, c11, by omega, by go_num, rfl, HM2.out, hz2, S11.out, H11.out⟩ | ((repeat apply Exists.intro); exact ⟨⟨k + 1, put Y S[k], A11, c11, by omega, by go_num, rfl, HM2.out, hz2, S11.out, H11.out⟩, rfl⟩)
            case measure => simp [intOf]; omega
          · obtain rfl : k = S.length := by omega
            have HYS := Lib.hid hYs
            have HBI := Lib.hid (HB5.out.trans (hbi.mono HB5.out.size))
            have HYX := Lib.hid (fun x => (show x ∈ Y ↔ x ∈ subsL (l.take (j + 1)) by
              rw [HY.out x, List.take_length, HXM.out x, HX.out x, ← HSE.out]
              unfold subterms
              rw [mem_sortU]))
            have hYz : Y.length ≤ sizes (l.take (j + 1)) := by have := HST.out; have := HXL.out; have := HSL.out; omega
            clear hYs hbi hYl hlk hk
            go_wp2_with fail
            go_roundw
            case rel => first | exact ⟨j + 1, Y, A9, c9, by omega, by go_num, rfl, HYX.out, hYz, HYS.out, HBI.out⟩ | ((repeat apply Exists.intro); exact ⟨⟨j + 1, Y, A9, c9, by omega, by go_num, rfl, HYX.out, hYz, HYS.out, HBI.out⟩, rfl⟩)
            case measure => simp [intOf]; omega
      · obtain rfl : j = l.length := by omega
        obtain ⟨wo, rfl⟩ : ∃ wo : World, wo = wr := ⟨_, rfl⟩
        have hX' := hX.out
        rw [List.take_length] at hX' hXl
        have HX := Lib.hid hX'
        have hC := closeK (HL.out.grow hbr) HV.out (by omega) (tab_below HT.out hbr)
        have HC := Lib.hid hC
        have HXS := Lib.hid hXs
        have HBR := Lib.hid hbr
        clear hX hX' hXl hXs hbr hlt hj hC
        go_wp2_with (go_at_call 25; refine HC.out.mono ?_; rintro e w5 ⟨A8, c8, rfl, s8, h8⟩)
        have S8 := Lib.hid s8
        have hs1 := s8.1
        have hs2 := s8.2.1
        have HXS5 := Lib.hid (HXS.out.grow h8)
        have HB5 := Lib.hid (HBR.out.trans (h8.mono HBR.out.size))
        clear s8 h8 HXS HBR
        have HH := Lib.hid (fun (V : World) (hV : Below w5.heap.size w5 V) (t : T) (Y : Option Addr) (cy : Nat) (hy : SWt V t.l Y cy) => KB.of hV (hasK (HXS5.out.grow hV) hy))
        go_loopw [11] (fun i wi => ∃ k : Nat, k ≤ (close l).length ∧ i = .int .i64 k ∧ Below w5.heap.size w5 wi) (fun i _ => (close l).length - (intOf i).toNat)
        case atStart => exact ⟨0, Nat.zero_le _, rfl, Below.refl _ _⟩
        case round =>
          obtain ⟨k, hk, rfl, hbi⟩ := hrel
          by_cases hlk : k < (close l).length
          · obtain ⟨b2, o2, A10, c10, rfl, g4, f0, f1, f2⟩ := (S8.out.grow hbi).cells (mod_imOf wr) hlk
            have hC := HH.out wr hbi (close l)[k] A10 c10 g4
            rw [has_iff.2 ((HX.out _).2 ((mem_close HV.out _).1 (List.getElem_mem hlk)).subs)] at hC
            have HC2 := Lib.hid hC
            clear hC g4 hbi
            go_wp2_with (go_at_call 29; refine HC2.out.mono ?_; rintro e w6 ⟨rfl, h6⟩; have H6 := Lib.hid h6; clear h6)
            go_roundw
            case rel => first | exact ⟨k + 1, by omega, by go_num, H6.out⟩ | ((repeat apply Exists.intro); exact ⟨⟨k + 1, by omega, by go_num, H6.out⟩, rfl⟩)
            case measure => simp [intOf]; omega
          · obtain rfl : k = (close l).length := by omega
            obtain ⟨wx, rfl⟩ : ∃ wx : World, wx = wr := ⟨_, rfl⟩
            have HBI := Lib.hid hbi
            have hkey : valid (kt n) = true := key_valid hnn.out.1 hnn.out.2
            have HHK := Lib.hid (fun (V : World) (hV : Below w5.heap.size w5 V) => HH.out V hV (kt n) none 0 (SWt.nil _))
            have HKN := Lib.hid (fun (V : World) (hV : Below w5.heap.size w5 V) => KB.of hV (knowsK (t := kt n) ((HL.out.grow HB5.out).grow hV) (SWt.nil _) HV.out (by omega) hkey (by simp [kt, size, sizes]) (tab_below (tab_below HT.out HB5.out) hV)))
            have HSN5 := Lib.hid (fun (V : World) (hV : Below w5.heap.size w5 V) => KB.of hV (sanityCall V (tab_below (tab_below HT.out HB5.out) hV)))
            clear hbi hlk hk HH hkey HSN
            cases hth : has X (kt n) with
            | true =>
              rw [hth] at HHK
              clear hth HKN
              go_wp2_with (first
                | (go_at_call 30; refine (keyCall _ _).mono ?_; rintro e w7 ⟨rfl, h7⟩; have k7 := HBI.out.trans (h7.mono HBI.out.size))
                | (go_at_call 29; refine (HHK.out _ k7).mono ?_; rintro e w8 ⟨rfl, k8⟩)
                | (go_at_call 13; refine (HSN5.out _ k8).mono ?_; rintro e w9 ⟨rfl, k9⟩))
              go_ret
              exact ⟨rfl, HB5.out.trans (k9.mono HB5.out.size)⟩
            | false =>
              rw [hth] at HHK
              have hkf : knows l (kt n) = false := not_knows_key HV.out (fun h => by
                have h2 := has_iff.2 ((HX.out (kt n)).2 h)
                rw [hth] at h2; cases h2)
              rw [hkf] at HKN
              clear hth hkf
              have tokK : True := trivial
              go_wp2_with (first
                | (go_at_call 30; clear tokK; refine (keyCall _ _).mono ?_; rintro e w7 ⟨rfl, h7⟩; have k7 := HBI.out.trans (h7.mono HBI.out.size))
                | (go_at_call 29; refine (HHK.out _ k7).mono ?_; rintro e w8 ⟨rfl, k8⟩)
                | (go_at_call 13; refine (HSN5.out _ k8).mono ?_; rintro e w9 ⟨rfl, k9⟩)
                | (go_at_call 30; refine (keyCall _ _).mono ?_; rintro e w10 ⟨rfl, h10⟩; have k10 := k9.trans (h10.mono k9.size))
                | (go_at_call 27; refine (HKN.out _ k10).mono ?_; rintro e w11 ⟨rfl, k11⟩))
              go_ret
              exact ⟨rfl, HB5.out.trans (k11.mono HB5.out.size)⟩
end Go.Proofs.YthfcaiipcdibbaaDoor
