import Derived.Test.YthfcaiipcdibbaaDoorMD
import Derived.Test.YthfcaiipcdibbaaDoorMB
/- The specification's digits. -/
set_option linter.unusedSimpArgs false
set_option linter.unusedVariables false
namespace Go.Proofs.YthfcaiipcdibbaaDoor
open Go.RowKit Tm

/-- The string of a list of bytes. -/
def bs (l : List UInt8) : ByteArray := ⟨l.toArray⟩
theorem bs_append (a b : List UInt8) : bs a ++ bs b = bs (a ++ b) := by
  unfold bs
  apply ByteArray.ext
  rw [ByteArray.data_append]
  simp
theorem bs_size (l : List UInt8) : (bs l).size = l.length := by unfold bs; simp [ByteArray.size]
/-- The byte of a number. -/
def chr (c : Int) : UInt8 := UInt8.ofNat c.toNat
theorem conv_one (W : World) (c : Int) : (convert 65 9 (.slice (some ⟨W.heap.size, 0, none⟩) 1 1)).run Tryd.prog (W.alloc (.cells #[.int .u8 c] 5)) = .ok (.string (bs [chr c])) (W.alloc (.cells #[.int .u8 c] 5)) := by
  rw [run_convert_bytes_arg (W.alloc (.cells #[.int .u8 c] 5)) 65 5 Tryd.underlying65 Tryd.underlying5 W.heap.size 0 1 1 [c] rfl (fun i hi => by
    obtain rfl : i = 0 := by omega
    rw [World.cell?_alloc_new]; rfl) 9 Tryd.underlying9]
  rfl
theorem dec_step {n : Nat} : Go.Lib.decDigits n = (if n > 9 then Go.Lib.decDigits (n / 10) else []) ++ [chr (48 + (n : Int) % 10)] := by
  have e : chr (48 + (n : Int) % 10) = UInt8.ofNat (48 + n % 10) := by unfold chr; congr 1
  rw [e]
  conv => lhs; rw [Go.Lib.decDigits]
  by_cases h : n < 10
  · rw [dif_pos h, if_neg (by omega), Nat.mod_eq_of_lt h]; rfl
  · rw [dif_neg h, if_pos (by omega)]

set_option maxHeartbeats 2000000 in
set_option maxRecDepth 100000 in
theorem refDigits (n : Nat) (w : World) (hn : n ≤ 2147483647) :
    Calls Tryd.prog 45 #[.int .i64 n] w fun e w' => e = .returned (.string (bs (Go.Lib.decDigits n))) ∧ Below w.heap.size w w' := by
  have h1 : 0 ≤ (n : Int) % 10 := by omega
  have h2 : (n : Int) % 10 ≤ 9 := by omega
  have hcv := conv_one
  have hbs := bs_size
  have hba := bs_append
  go_enter Tryd.func45, Tryd.ntmps45
  go_wp2
  go_loopw [0, 3] (fun nv sv wr => ∃ (m : Nat) (s : List UInt8), m ≤ n ∧ nv = .int .i64 m ∧ sv = .string (bs s) ∧ Hid (Go.Lib.decDigits n = (if m > 9 then Go.Lib.decDigits (m / 10) else []) ++ s) ∧ s.length + m ≤ 2147483648 ∧ Below w.heap.size w wr) (fun nv _ _ => (intOf nv).toNat)
  case atStart =>
    refine ⟨n, [chr (48 + (n : Int) % 10)], Nat.le_refl _, rfl, rfl, dec_step, by simp; omega, (Below.refl _ _).alloc (Nat.le_refl _) _⟩
  case round =>
    obtain ⟨m, s, hm, rfl, rfl, hd, hl, hb⟩ := hrel
    have HB := Lib.hid hb
    have HD := Lib.hid hd.out
    have hsz : w.heap.size ≤ wr.heap.size := hb.size
    clear hb hd
    have k1 : 0 ≤ (m : Int) / 10 := by omega
    have k2 : 0 ≤ (m : Int) / 10 % 10 := by omega
    have k3 : (m : Int) / 10 % 10 ≤ 9 := by omega
    by_cases h9 : 9 < m
    · have HD2 : Hid (Go.Lib.decDigits n = (if m / 10 > 9 then Go.Lib.decDigits (m / 10 / 10) else []) ++ ([chr (48 + ((m / 10 : Nat) : Int) % 10)] ++ s)) := by
        unfold Hid
        rw [HD.out, if_pos h9, dec_step (n := m / 10), List.append_assoc]
      clear HD
      go_wp2
      go_roundw
      case rel => exact ⟨m / 10, [chr (48 + ((m / 10 : Nat) : Int) % 10)] ++ s, by omega, by go_num, rfl, HD2.out, by simp; omega, HB.out.alloc hsz _⟩
      case measure => simp [intOf]; omega
    · go_wp2
      go_ret
      refine ⟨?_, HB.out⟩
      have := HD.out
      rw [if_neg (by omega), List.nil_append] at this
      rw [this]; rfl
end Go.Proofs.YthfcaiipcdibbaaDoor

/- The specification's Text. -/
set_option linter.unusedSimpArgs false
set_option linter.unusedVariables false
namespace Go.Proofs.YthfcaiipcdibbaaDoor
open Go.RowKit Tm

theorem lit_bs (l : List UInt8) : (⟨l.toArray⟩ : ByteArray) = bs l := rfl
theorem str_eq {a b : List UInt8} (h : a = b) : Value.string (bs a) = Value.string (bs b) := by rw [h]

set_option maxHeartbeats 4000000 in
set_option maxRecDepth 100000 in
theorem refText (t : T) : ∀ (I : Im) (w : World) (A : Option Addr) (cap : Nat), Tm.Mod w I → SL I t.l A cap → valid t = true → size t ≤ 1000000 →
    Calls Tryd.prog 21 #[.agg #[.int .i64 t.k, .int .i64 t.n, .slice A t.l.length cap]] w fun e w' => e = .returned (.string (bs (text t))) ∧ Below w.heap.size w w' := by
  induction t using T.ind with
  | h k n l ih =>
    intro I w A cap hm hl hv hs
    have hc1 := hl.1
    have hc2 := hl.2.1
    have hlen := text_length hv
    simp only [T.k_mk, T.n_mk, T.l_mk] at *
    have hn : 0 ≤ n ∧ n ≤ 2147483647 ∧ l.length ≤ 2 ∧ valids l = true ∧ (k = 1 ∨ k = 2 ∨ k = 3 ∨ k = 4 ∨ k = 5 ∨ k = 6) := by
      have hvl : valids l = true := by simp only [valid, Bool.and_eq_true] at hv; exact hv.2
      cases shape_of hv <;> exact ⟨by omega, by omega, by simp, hvl, by omega⟩
    obtain ⟨h0, h1, hl2, hvl, hk⟩ := hn
    obtain ⟨m, rfl⟩ := Int.eq_ofNat_of_zero_le h0
    have hdl := dig_length h1
    have hdig : dig (m : Int) = Go.Lib.decDigits m := by unfold dig; rw [Int.toNat_natCast]
    rw [hdig] at hdl
    have hml : m ≤ 2147483647 := by omega
    have HD := Lib.hid hdig
    have IH := Lib.hid ih
    have HM := Lib.hid hm
    have HL := Lib.hid hl
    have HVL := Lib.hid hvl
    have HLEN := Lib.hid hlen
    have hsl : sizes l ≤ 1000000 := by simp only [size] at hs; omega
    clear ih hm hl hdig hvl hlen hv h0 h1 hs
    have hbs := bs_size
    have hba := bs_append
    have e1 := lit_bs [100]
    have e2 := lit_bs [107]
    have e3 := lit_bs [115, 101, 97, 108]
    have e4 := lit_bs [98, 111, 120]
    have e5 := lit_bs [107, 100, 102]
    have e6 := lit_bs [109, 97, 99]
    have e7 := lit_bs [40]
    have e8 := lit_bs [41]
    have e9 := lit_bs [44]
    rcases hk with rfl | rfl | hk
    · go_enter Tryd.func21, Tryd.ntmps21
      go_wp2_with (go_at_call 45; refine (refDigits m _ hml).mono ?_; rintro e w' ⟨rfl, hb'⟩)
      go_ret
      refine ⟨congrArg Ending.returned (str_eq ?_), ((Below.refl _ _).alloc (Nat.le_refl _) _).trans (hb'.mono (by simp))⟩
      simp [text, headText, name, counted, HD.out]
    · go_enter Tryd.func21, Tryd.ntmps21
      go_wp2_with (go_at_call 45; refine (refDigits m _ hml).mono ?_; rintro e w' ⟨rfl, hb'⟩)
      go_ret
      refine ⟨congrArg Ending.returned (str_eq ?_), ((Below.refl _ _).alloc (Nat.le_refl _) _).trans (hb'.mono (by simp))⟩
      simp [text, headText, name, counted, HD.out]
    · have hk12 : ¬ (k = 1 ∨ k = 2) := by omega
      have fin : Hid (text (.mk k m l) = headText k m ++ 40 :: (joins l ++ [41])) := by unfold Hid; simp only [text]; rw [if_neg hk12]
      have hh14 := headText_length (k := k) (n := (m : Int)) (by omega)
      have hJ : ∀ j, (joins (l.take j)).length ≤ 20 * 1000000 + 2 := by
        intro j
        have h1 := joins_length (l.take j) fun x hx => text_length (valids_iff.1 HVL.out x (List.mem_of_mem_take hx))
        have h2 := sizes_take_le l j
        have h3 : (l.take j).length ≤ l.length := by simp; omega
        omega
      have HJ := Lib.hid hJ
      clear hk12 hJ
      have hcase : ((k == 1) = false ∧ (k == 2) = false ∧ (k == 3) = true ∧ Hid (headText k m = [115, 101, 97, 108])) ∨ ((k == 1) = false ∧ (k == 2) = false ∧ (k == 3) = false ∧ (k == 4) = true ∧ Hid (headText k m = [98, 111, 120] ++ Go.Lib.decDigits m)) ∨
          ((k == 1) = false ∧ (k == 2) = false ∧ (k == 3) = false ∧ (k == 4) = false ∧ (k == 5) = true ∧ Hid (headText k m = [107, 100, 102] ++ Go.Lib.decDigits m)) ∨
          ((k == 1) = false ∧ (k == 2) = false ∧ (k == 3) = false ∧ (k == 4) = false ∧ (k == 5) = false ∧ (k == 6) = true ∧ Hid (headText k m = [109, 97, 99])) := by
        unfold Hid
        have hD := HD.out
        rcases hk with rfl | rfl | rfl | rfl <;> simp [headText, name, counted, hD]
      clear hk
      rcases hcase with ⟨b1, b2, b3, HH⟩ | ⟨b1, b2, b3, b4, HH⟩ | ⟨b1, b2, b3, b4, b5, HH⟩ | ⟨b1, b2, b3, b4, b5, b6, HH⟩
      all_goals
        go_enter Tryd.func21, Tryd.ntmps21
        go_wp2_with (go_at_call 45; refine (refDigits m _ hml).mono ?_; rintro e w' ⟨rfl, hb'⟩; have HBD := Lib.hid hb'; have c2 := newcell (hb'.mono (by simp)) 2; clear hb')
        go_loopw [3, 4] (fun sv i wr => ∃ (j : Nat) (s : List UInt8), j ≤ l.length ∧ i = .int .i64 j ∧ sv = .string (bs s) ∧ Hid (s = headText k m ++ 40 :: joins (l.take j)) ∧ s.length ≤ 20 * 1000000 + 100 ∧ Below (w.heap.size + 1) (w.alloc (.cells #[.int .i64 k, .int .i64 m, .slice A l.length cap] 24)) wr) (fun _ i _ => l.length - (intOf i).toNat)
        case atStart =>
          refine ⟨0, _, Nat.zero_le _, rfl, rfl, by unfold Hid; rw [HH.out]; simp [joins], ?_, ?_⟩
          · simp; try omega
          · first | exact Below.refl _ _ | exact HBD.out.mono (by simp)
        case round =>
          obtain ⟨j, s, hj, rfl, rfl, hs, hsl2, hb⟩ := hrel
          have HS := Lib.hid hs.out
          clear hs
          have c2 : wr.cell? ⟨w.heap.size, 2, none⟩ = some (.slice A l.length cap) := newcell hb 2
          by_cases hlt : j < l.length
          · obtain ⟨b, o, A', cap', rfl, g3, d0, d1, d2⟩ := HL.out.cells (HM.out.grow (under1 hb)) hlt
            have hszj := size_le_sizes (List.getElem_mem hlt)
            have hvj := valids_iff.1 HVL.out l[j] (List.getElem_mem hlt)
            have HC := Lib.hid (IH.out l[j] (List.getElem_mem hlt) I wr A' cap' (HM.out.grow (under1 hb)) g3 hvj (by omega))
            have htj := text_length hvj
            have HBB := Lib.hid hb
            have HT2 := Lib.hid (joins_take_succ hlt)
            have hJ1 := HJ.out (j + 1)
            have hJ2 : (joins (l.take (j + 1))).length = if j = 0 then (text l[j]).length else (joins (l.take j)).length + 1 + (text l[j]).length := by
              rw [HT2.out]; split
              · rfl
              · simp; omega
            have hs3 : s.length = (headText k (m : Int)).length + 1 + (joins (l.take j)).length := by rw [HS.out]; simp; omega
            have HS3 := Lib.hid hs3
            have HJ2 := Lib.hid hJ2
            clear hb g3 hvj hs3 hJ2
            have hbound : s.length + 1 + (text l[j]).length ≤ 20 * 1000000 + 100 := by
              have h1 := HS3.out
              have h2 := HJ2.out
              by_cases hj0 : j = 0
              · subst hj0; simp [joins] at h1; rw [if_pos rfl] at h2; omega
              · rw [if_neg hj0] at h2; omega
            by_cases hj0 : j = 0
            · subst hj0
              simp only [Nat.zero_mul, Nat.add_zero] at d0 d1 d2
              have hz : decide ((0 : Int) < ((0 : Nat) : Int)) = false := by simp
              go_wp2_with (go_at_call 21; refine HC.out.mono ?_; rintro e w6 ⟨rfl, hb6⟩; have HB6 := Lib.hid hb6; clear hb6)
              go_roundw
              case rel => first | exact ⟨1, s ++ text l[0], by omega, by go_num, rfl, by unfold Hid; rw [HS.out, HT2.out]; simp [joins], by simp; omega, HBB.out.trans (HB6.out.mono (size_of_below1 HBB.out))⟩ | ((repeat apply Exists.intro); exact ⟨⟨1, s ++ text l[0], by omega, by go_num, rfl, by unfold Hid; rw [HS.out, HT2.out]; simp [joins], by simp; omega, HBB.out.trans (HB6.out.mono (size_of_below1 HBB.out))⟩, rfl⟩)
              case measure => simp [intOf]; omega
            · have hz : (0 : Int) < (j : Int) := by omega
              go_wp2_with (go_at_call 21; refine HC.out.mono ?_; rintro e w6 ⟨rfl, hb6⟩; have HB6 := Lib.hid hb6; clear hb6)
              go_roundw
              case rel => first | exact ⟨j + 1, s ++ [44] ++ text l[j], by omega, by go_num, by simp, by unfold Hid; rw [HS.out, HT2.out, if_neg hj0]; simp, by simp; omega, HBB.out.trans (HB6.out.mono (size_of_below1 HBB.out))⟩ | ((repeat apply Exists.intro); exact ⟨⟨j + 1, s ++ [44] ++ text l[j], by omega, by go_num, by simp, by unfold Hid; rw [HS.out, HT2.out, if_neg hj0]; simp, by simp; omega, HBB.out.trans (HB6.out.mono (size_of_below1 HBB.out))⟩, rfl⟩)
              case measure => simp [intOf]; omega
          · have HBB := Lib.hid hb
            clear hb
            obtain rfl : j = l.length := by omega
            go_wp2
            go_ret
            refine ⟨congrArg Ending.returned (str_eq ?_), under1 HBB.out⟩
            rw [fin.out, HS.out, List.take_length]; simp
end Go.Proofs.YthfcaiipcdibbaaDoor

/- The specification's Small; few; key, data, seal; IsKey. -/
set_option linter.unusedSimpArgs false
set_option linter.unusedVariables false
namespace Go.Proofs.YthfcaiipcdibbaaDoor
open Go.RowKit Tm

theorem refIsKey (t : T) (w : World) (A : Option Addr) (cap : Nat) (hv : valid t = true) :
    Calls Tryd.prog 19 #[.agg #[.int .i64 t.k, .int .i64 t.n, .slice A t.l.length cap]] w fun e w' => e = .returned (.bool (isKey t)) ∧ Below w.heap.size w w' := by
  have hk : ((t.k == 1) = true ∧ isKey t = true) ∨ ((t.k == 1) = false ∧ (t.k == 2) = true ∧ isKey t = true) ∨ ((t.k == 1) = false ∧ (t.k == 2) = false ∧ (t.k == 5) = true ∧ isKey t = true) ∨ ((t.k == 1) = false ∧ (t.k == 2) = false ∧ (t.k == 5) = false ∧ (t.k == 6) = true ∧ isKey t = true) ∨ ((t.k == 1) = false ∧ (t.k == 2) = false ∧ (t.k == 5) = false ∧ (t.k == 6) = false ∧ isKey t = false) := by
    cases shape_of hv <;> simp [T.k, isKey]
  generalize t.k = k at hk ⊢
  generalize t.n = n
  generalize t.l.length = len
  rcases hk with ⟨a1, h⟩ | ⟨a1, a2, h⟩ | ⟨a1, a2, a3, h⟩ | ⟨a1, a2, a3, a4, h⟩ | ⟨a1, a2, a3, a4, h⟩
  all_goals
    rw [h]
    clear h
    go_enter Tryd.func19, Tryd.ntmps19
    go_wp2
    go_ret
    exact ⟨rfl, (Below.refl _ _).alloc (Nat.le_refl _) _⟩

theorem termIsKey (t : T) (w : World) (A : Option Addr) (cap : Nat) :
    Calls Tryd.prog 18 #[.agg #[.int .i64 t.k, .int .i64 t.n, .slice A t.l.length cap]] w fun e w' => e = .returned (.bool (isKey t)) ∧ Below w.heap.size w w' := by
  have hk : ((t.k != 3) = false ∧ isKey t = false) ∨ ((t.k != 3) = true ∧ (t.k != 4) = false ∧ isKey t = false) ∨ ((t.k != 3) = true ∧ (t.k != 4) = true ∧ isKey t = true) := by
    unfold isKey
    by_cases h3 : t.k = 3
    · simp [h3]
    · by_cases h4 : t.k = 4
      · simp [h4]
      · simp [h3, h4]
  generalize t.k = k at hk ⊢
  generalize t.n = n
  generalize t.l.length = len
  rcases hk with ⟨a1, h⟩ | ⟨a1, a2, h⟩ | ⟨a1, a2, h⟩
  all_goals
    rw [h]
    clear h
    go_enter Tryd.func18, Tryd.ntmps18
    go_wp2
    go_ret
    exact ⟨rfl, (Below.refl _ _).alloc (Nat.le_refl _) _⟩

def small (l : List T) : Bool := valids l && decide (sizes l ≤ 150)

set_option maxHeartbeats 1000000 in
theorem refSmall (l : List T) (I : Im) (w : World) (A : Option Addr) (cap : Nat) (hm : Tm.Mod w I) (hl : SL I l A cap) (hs : sizes l ≤ 1099511627776) :
    Calls Tryd.prog 38 #[.slice A l.length cap] w fun e w' => e = .returned (.bool (small l)) ∧ Below w.heap.size w w' := by
  have hc1 := hl.1
  have hc2 := hl.2.1
  have HM := Lib.hid hm
  have HL := Lib.hid hl
  clear hm hl
  go_enter Tryd.func38, Tryd.ntmps38
  go_wp2
  go_loopw [3, 4] (fun nv i wr => ∃ j : Nat, j ≤ l.length ∧ i = .int .i64 j ∧ nv = .int .i64 (sizes (l.take j) : Int) ∧ Hid (valids (l.take j) = true) ∧ Below w.heap.size w wr) (fun _ i _ => l.length - (intOf i).toNat)
  case atStart => exact ⟨0, Nat.zero_le _, rfl, rfl, rfl, Below.refl _ _⟩
  case round =>
    obtain ⟨j, hj, rfl, rfl, hh, hb⟩ := hrel
    have HH := Lib.hid hh.out
    have hsz : w.heap.size ≤ wr.heap.size := hb.size
    clear hh
    have hle := sizes_take_le l j
    by_cases hlt : j < l.length
    · have hle2 := sizes_take_le l (j + 1)
      have hsz2 : sizes (l.take j) + size l[j] ≤ sizes l := by rw [← sizes_take_succ hlt]; exact hle2
      obtain ⟨b, o, A', cap', rfl, g3, d0, d1, d2⟩ := HL.out.cells (HM.out.grow hb) hlt
      have HV := Lib.hid (refValid l[j] I wr A' cap' (HM.out.grow hb) g3)
      have HC := Lib.hid (fun (W : World) (hW : Below wr.heap.size wr W) => refSize l[j] I W A' cap' ((HM.out.grow hb).grow hW) g3 (by omega))
      have HBB := Lib.hid hb
      have HN := Lib.hid (sizes_take_succ hlt)
      clear hb g3 hle2
      cases hbt : valid l[j] with
      | true =>
        have ok := Lib.hid (valids_take_succ hlt HH.out hbt)
        rw [hbt] at HV
        clear hbt
        go_wp2_with (first
          | (go_at_call 11; refine HV.out.mono ?_; rintro e w1 ⟨rfl, hb1⟩; have HB1 := Lib.hid hb1; have d0' := (hb1.cell (p := ⟨b, o + j * 3, none⟩) (World.block_lt_of_cell? _ _ d0)).trans d0; have d1' := (hb1.cell (p := ⟨b, o + j * 3 + 1, none⟩) (World.block_lt_of_cell? _ _ d1)).trans d1; have d2' := (hb1.cell (p := ⟨b, o + j * 3 + 2, none⟩) (World.block_lt_of_cell? _ _ d2)).trans d2; clear hb1)
          | (go_at_call 15; refine (HC.out _ HB1.out).mono ?_; rintro e w2 ⟨rfl, hb2⟩; have HB2 := Lib.hid hb2; clear hb2))
        go_roundw
        case rel => exact ⟨j + 1, by omega, by go_num, by rw [HN.out]; go_num, ok.out, HBB.out.trans ((HB1.out.trans (HB2.out.mono HB1.out.size)).mono hsz)⟩
        case measure => simp [intOf]; omega
      | false =>
        have fin : Hid (small l = false) := by unfold Hid small; rw [valids_false hlt hbt]; rfl
        rw [hbt] at HV
        clear hbt
        go_wp2_with (go_at_call 11; refine HV.out.mono ?_; rintro e w1 ⟨rfl, hb1⟩; have HB1 := Lib.hid hb1; clear hb1)
        go_ret
        exact ⟨by rw [fin.out]; rfl, HBB.out.trans (HB1.out.mono hsz)⟩
    · have HBB := Lib.hid hb
      clear hb
      obtain rfl : j = l.length := by omega
      have HV2 : Hid (valids l = true) := by have := HH.out; rwa [List.take_length] at this
      have HS2 : Hid (sizes (l.take l.length) = sizes l) := by unfold Hid; rw [List.take_length]
      go_wp2
      all_goals go_ret
      all_goals
        refine ⟨congrArg Ending.returned ?_, HBB.out⟩
        unfold small
        rw [HV2.out, Bool.true_and]
        show Value.bool (decide ((sizes l : Int) ≤ 150)) = Value.bool (decide (sizes l ≤ 150))
        exact congrArg Value.bool (decide_eq_decide.2 (by omega))
end Go.Proofs.YthfcaiipcdibbaaDoor

/- The law's helpers: key, data, seal, few. -/
set_option linter.unusedSimpArgs false
set_option linter.unusedVariables false
namespace Go.Proofs.YthfcaiipcdibbaaDoor
open Go.RowKit Tm

theorem keyCall (n : Int) (w : World) : Calls Tryd.prog 30 #[.int .i64 n] w fun e w' => e = .returned (.agg #[.int .i64 2, .int .i64 n, .slice none 0 0]) ∧ Below w.heap.size w w' := by
  go_enter Tryd.func30, Tryd.ntmps30
  go_wp2
  exact bodyPost_ret (v := .agg #[.int .i64 2, .int .i64 n, .slice none 0 0]) (by simp [results, Tryd.results30, go_sem]) rfl ⟨rfl, (Below.refl _ _).alloc (Nat.le_refl _) _⟩
theorem dataCall (n : Int) (w : World) : Calls Tryd.prog 39 #[.int .i64 n] w fun e w' => e = .returned (.agg #[.int .i64 1, .int .i64 n, .slice none 0 0]) ∧ Below w.heap.size w w' := by
  go_enter Tryd.func39, Tryd.ntmps39
  go_wp2
  exact bodyPost_ret (v := .agg #[.int .i64 1, .int .i64 n, .slice none 0 0]) (by simp [results, Tryd.results39, go_sem]) rfl ⟨rfl, (Below.refl _ _).alloc (Nat.le_refl _) _⟩

/-- A call hands back a term. -/
def RetT (I : Im) (w : World) (t : T) (e : Ending) (w' : World) : Prop :=
  ∃ J A cap, Ext I w J ∧ Tm.Mod w' J ∧ e = .returned (.agg #[.int .i64 t.k, .int .i64 t.n, .slice A t.l.length cap]) ∧ SL J t.l A cap ∧ Below w.heap.size w w'

theorem two_slice {I : Im} {w : World} {a b : T} {A B : Option Addr} {ca cb : Nat} (hm : Tm.Mod w I) (ha : SL I a.l A ca) (hb : SL I b.l B cb) :
    ∃ J, Ext I w J ∧ Tm.Mod (w.alloc (.cells #[.int .i64 a.k, .int .i64 a.n, .slice A a.l.length ca, .int .i64 b.k, .int .i64 b.n, .slice B b.l.length cb] 24)) J ∧ SL J [a, b] (some ⟨w.heap.size, 0, none⟩) 2 := by
  have hI := hm.none_of_size (Nat.le_refl w.heap.size)
  refine ⟨I.add w.heap.size #[.int .i64 a.k, .int .i64 a.n, .slice A a.l.length ca, .int .i64 b.k, .int .i64 b.n, .slice B b.l.length cb] 24, ⟨Im.le_add hI _ _, fun b x hb => ?_⟩, (hm.alloc _).add (heap_alloc_new w _), by simp, by omega, ?_⟩
  · unfold Im.add at hb
    split at hb
    · rename_i e; subst e; exact .inr (Nat.le_refl _)
    · exact .inl hb
  · simp only [RepL]
    refine ⟨w.heap.size, 0, rfl, ⟨_, (ha.mono (Im.le_add hI _ _)).rep, fun i v hi => ?_⟩, w.heap.size, 3, rfl, ⟨_, (hb.mono (Im.le_add hI _ _)).rep, fun i v hi => ?_⟩, trivial⟩
    · rw [Nat.zero_add, Im.add_at]
      match i, hi with
      | 0, hi => simpa using hi
      | 1, hi => simpa using hi
      | 2, hi => simpa using hi
      | i + 3, hi => simp at hi
    · rw [Im.add_at]
      match i, hi with
      | 0, hi => simpa using hi
      | 1, hi => simpa using hi
      | 2, hi => simpa using hi
      | i + 3, hi => simp at hi

theorem sealCall (a b : T) (I : Im) (w : World) (A B : Option Addr) (ca cb : Nat) (hm : Tm.Mod w I) (ha : SL I a.l A ca) (hb : SL I b.l B cb) :
    Calls Tryd.prog 32 #[.agg #[.int .i64 a.k, .int .i64 a.n, .slice A a.l.length ca], .agg #[.int .i64 b.k, .int .i64 b.n, .slice B b.l.length cb]] w (RetT I w (.mk 3 0 [a, b])) := by
  have HM := Lib.hid hm
  have HA := Lib.hid ha
  have HB := Lib.hid hb
  clear hm ha hb
  go_enter Tryd.func32, Tryd.ntmps32
  go_wp2
  refine bodyPost_ret (v := .agg #[.int .i64 3, .int .i64 0, .slice (some ⟨w.heap.size + 1 + 1 + 1, 0, none⟩) 2 2]) (by simp [results, Tryd.results32, go_sem]) rfl ?_
  obtain ⟨J, h1, h2, h3⟩ := two_slice (((HM.out.alloc (.cells #[.int .i64 a.k, .int .i64 a.n, .slice A a.l.length ca] 24)).alloc (.cells #[.int .i64 b.k, .int .i64 b.n, .slice B b.l.length cb] 24)).alloc (.cells #[.int .i64 3, .int .i64 0, .slice (some ⟨w.heap.size + 1 + 1 + 1, 0, none⟩) 2 2] 24)) HA.out HB.out
  simp only [World.size_alloc] at h3
  exact ⟨J, _, 2, h1.from (by simp; omega), h2, rfl, h3, (((((Below.refl _ _).alloc (Nat.le_refl _) _).alloc (by simp) _).alloc (by simp; omega) _).alloc (by simp; omega) _)⟩

set_option maxHeartbeats 1000000 in
theorem fewCall (l : List T) (t : T) (I : Im) (w : World) (A B : Option Addr) (cap cb : Nat) (hm : Tm.Mod w I) (hl : SL I l A cap) (ht : SL I t.l B cb) (hs : sizes l + size t ≤ 1099511627776) :
    Calls Tryd.prog 12 #[.slice A l.length cap, .agg #[.int .i64 t.k, .int .i64 t.n, .slice B t.l.length cb]] w fun e w' => e = .returned (.bool (small (l ++ [t]))) ∧ Below w.heap.size w w' := by
  have hI : ∀ b x, I b = some x → b < w.heap.size + 1 := fun b x h => by have := hm.lt h; omega
  have hc1 := hl.1
  have hc2 := hl.2.1
  have hll := length_le_sizes l
  have HI := Lib.hid hI
  have HM := Lib.hid hm
  have HL := Lib.hid hl
  have HT := Lib.hid ht
  clear hm hl ht hI
  have tok1 : True := trivial
  have tok2 : True := trivial
  go_enter Tryd.func12, Tryd.ntmps12
  go_wp2_with (first
    | (at_builtin; have _t := tok1; refine app_terms (I := I) (w0 := w.alloc (.cells #[.int .i64 t.k, .int .i64 t.n, .slice B t.l.length cb] 24)) (w.heap.size + 1) rfl _ _ rfl Tryd.underlying22 Tryd.infoT [] l A cap (HM.out.alloc _) (OwnT.nil _ _ _) rfl rfl HL.out (Below.refl _ _) (by simp) (by simp; omega) ?_; intro v1 w1 ho1 hb1 hg1; have HO1 := Lib.hid ho1; have HB1 := Lib.hid hb1; have c0 := newcell hb1 0; have c1 := newcell hb1 1; have c2 := newcell hb1 2; have hsz1 := size_of_below1 hb1; clear tok1 ho1 hb1 hg1)
    | (at_builtin; have _t := tok2; refine app_term (I := I) (w0 := w.alloc (.cells #[.int .i64 t.k, .int .i64 t.n, .slice B t.l.length cb] 24)) (w.heap.size + 1) rfl _ _ rfl Tryd.underlying22 Tryd.infoT ([] ++ l) t B cb HO1.out rfl rfl HT.out HB1.out hsz1 (by simp; omega) ?_; intro v2 w2 ho2 hb2 hg2 hs2 _; have HB2 := Lib.hid hb2; obtain ⟨al, hal⟩ : ∃ al, ([] ++ l) ++ [t] = al := ⟨_, rfl⟩; rw [hal] at ho2; have HAL := Lib.hid hal; clear hal; obtain ⟨J, A3, cap3, h1, h2, h3, h4, h5⟩ := ho2.done (HM.out.grow (under1 hb2)) HI.out; subst h3; have HM2 := Lib.hid h2; have HS2 := Lib.hid h4; clear tok2 ho2 hb2 hg2 h1 h2 h4 h5)
    | (go_at_call 38; refine (refSmall _ _ _ _ _ HM2.out HS2.out (by rw [← HAL.out, sizes_append, sizes_append]; simp [sizes]; omega)).mono ?_; rintro e w3 ⟨rfl, hb3⟩; have HB3 := Lib.hid hb3; clear hb3))
  go_ret
  have hsz2 := size_of_below1 HB2.out
  have h3 := HB3.out.mono hsz2
  have h4 := HB2.out.trans h3
  refine ⟨?_, under1 h4⟩
  have e : al = l ++ [t] := by rw [← HAL.out]; rfl
  rw [← e]; rfl
end Go.Proofs.YthfcaiipcdibbaaDoor
