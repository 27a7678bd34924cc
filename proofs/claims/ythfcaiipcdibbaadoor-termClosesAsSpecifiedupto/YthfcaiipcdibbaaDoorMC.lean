import Derived.Test.YthfcaiipcdibbaaDoorMB
import Derived.Test.YthfcaiipcdibbaaDoorChecked
import Derived.Deep.LoopGhost
import Derived.Deep.QuietTactic
import Derived.BigQuiet
import Derived.Outline
set_option linter.unusedSimpArgs false
set_option linter.unusedVariables false
namespace Go.Proofs.YthfcaiipcdibbaaDoor
open Go.RowKit Tm

theorem sizes_take_succ {l : List T} {j : Nat} (h : j < l.length) : sizes (l.take (j + 1)) = sizes (l.take j) + size l[j] := by
  rw [List.take_succ_eq_append_getElem h, sizes_append]; simp [sizes]
theorem sizes_take_le (l : List T) (j : Nat) : sizes (l.take j) ≤ sizes l := by
  have : sizes l = sizes (l.take j) + sizes (l.drop j) := by rw [← sizes_append, List.take_append_drop]
  omega
/-- The cells of a new block. -/
theorem newcell {w wr : World} {o : Array Value} {t : TypeId} (h : Below (w.heap.size + 1) (w.alloc (.cells o t)) wr) (j : Nat) : wr.cell? ⟨w.heap.size, j, none⟩ = o[j]? := by
  rw [h.cell (p := ⟨w.heap.size, j, none⟩) (by simp)]
  exact World.cell?_alloc_new _ _ _ _
theorem under1 {w wr : World} {o : Obj} (h : Below (w.heap.size + 1) (w.alloc o) wr) : Below w.heap.size w wr :=
  ((Below.refl _ _).alloc (Nat.le_refl _) o).trans (h.mono (by omega))
theorem size_of_below1 {w wr : World} {o : Obj} (h : Below (w.heap.size + 1) (w.alloc o) wr) : w.heap.size + 1 ≤ wr.heap.size := by
  have := h.size; simp at this; omega

set_option maxHeartbeats 1000000 in
theorem refSize (t : T) : ∀ (I : Im) (w : World) (A : Option Addr) (cap : Nat), Tm.Mod w I → SL I t.l A cap → size t ≤ 1099511627776 →
    Calls Tryd.prog 15 #[.agg #[.int .i64 t.k, .int .i64 t.n, .slice A t.l.length cap]] w fun e w' => e = .returned (.int .i64 (size t)) ∧ Below w.heap.size w w' := by
  induction t using T.ind with
  | h k n l ih =>
    intro I w A cap hm hl hs
    have hc1 := hl.1
    have hc2 := hl.2.1
    simp only [T.k_mk, T.n_mk, T.l_mk] at *
    simp only [size] at hs ⊢
    have IH := Lib.hid ih
    clear ih
    have HM := Lib.hid hm
    clear hm
    have HL := Lib.hid hl
    clear hl
    go_enter Tryd.func15, Tryd.ntmps15
    go_wp2
    go_loopw [3, 4] (fun n' i wr => ∃ j : Nat, j ≤ l.length ∧ i = .int .i64 j ∧ n' = .int .i64 (1 + (sizes (l.take j) : Int)) ∧ Below (w.heap.size + 1) (w.alloc (.cells #[.int .i64 k, .int .i64 n, .slice A l.length cap] 24)) wr) (fun _ i _ => l.length - (intOf i).toNat)
    case atStart => exact ⟨0, Nat.zero_le _, rfl, rfl, Below.refl _ _⟩
    case round =>
      obtain ⟨j, hj, rfl, rfl, hb⟩ := hrel
      have c2 : wr.cell? ⟨w.heap.size, 2, none⟩ = some (.slice A l.length cap) := newcell hb 2
      have hle := sizes_take_le l j
      by_cases hlt : j < l.length
      · have hle2 := sizes_take_le l (j + 1)
        have hsz : sizes (l.take j) + size l[j] ≤ sizes l := by rw [← sizes_take_succ hlt]; exact hle2
        obtain ⟨b, o, A', cap', rfl, g3, d0, d1, d2⟩ := HL.out.cells (HM.out.grow (under1 hb)) hlt
        have HC := Lib.hid (IH.out l[j] (List.getElem_mem hlt) I wr A' cap' (HM.out.grow (under1 hb)) g3 (by omega))
        have HB := Lib.hid hb
        have HN := Lib.hid (sizes_take_succ hlt)
        clear hb g3 hle2
        go_wp2_with (go_at_call 15; refine HC.out.mono ?_; rintro e w' ⟨rfl, hb'⟩)
        go_roundw
        case rel => exact ⟨j + 1, by omega, by go_num, by rw [HN.out]; go_num, HB.out.trans (hb'.mono (size_of_below1 HB.out))⟩
        case measure => simp [intOf]; omega
      · have HB := Lib.hid hb
        clear hb
        obtain rfl : j = l.length := by omega
        go_wp2
        go_ret
        exact ⟨by simp, under1 HB.out⟩

/-- Two new blocks. -/
theorem newcell2 {w wr : World} {o o2 : Array Value} {t t2 : TypeId} (h : Below (w.heap.size + 2) ((w.alloc (.cells o t)).alloc (.cells o2 t2)) wr) (j : Nat) :
    wr.cell? ⟨w.heap.size, j, none⟩ = o[j]? ∧ wr.cell? ⟨w.heap.size + 1, j, none⟩ = o2[j]? := by
  rw [h.cell (p := ⟨w.heap.size, j, none⟩) (by simp), h.cell (p := ⟨w.heap.size + 1, j, none⟩) (by simp)]
  refine ⟨?_, ?_⟩
  · have e : ((w.alloc (.cells o t)).alloc (.cells o2 t2)).heap[w.heap.size]? = (w.alloc (.cells o t)).heap[w.heap.size]? := Below.heap_alloc _ _ _ (by simp)
    rw [World.cell?_of_block (w := w.alloc (.cells o t)) e]
    exact World.cell?_alloc_new _ _ _ _
  · have := World.cell?_alloc_new (w.alloc (.cells o t)) o2 t2 j
    simp at this ⊢
theorem under2 {w wr : World} {o o2 : Obj} (h : Below (w.heap.size + 2) ((w.alloc o).alloc o2) wr) : Below w.heap.size w wr :=
  (((Below.refl _ _).alloc (Nat.le_refl _) o).alloc (by simp) o2).trans (h.mono (by omega))
theorem size_of_below2 {w wr : World} {o o2 : Obj} (h : Below (w.heap.size + 2) ((w.alloc o).alloc o2) wr) : w.heap.size + 2 ≤ wr.heap.size := by
  have := h.size; simp at this; omega

set_option maxHeartbeats 2000000 in
set_option maxRecDepth 100000 in
theorem refCompare (a : T) : ∀ (b : T) (I : Im) (w : World) (A B : Option Addr) (ca cb : Nat), Tm.Mod w I → SL I a.l A ca → SL I b.l B cb →
    Calls Tryd.prog 17 #[.agg #[.int .i64 a.k, .int .i64 a.n, .slice A a.l.length ca], .agg #[.int .i64 b.k, .int .i64 b.n, .slice B b.l.length cb]] w fun e w' => e = .returned (.int .i64 (cmp a b)) ∧ Below w.heap.size w w' := by
  induction a using T.ind with
  | h k n l ih =>
    rintro ⟨k', n', m⟩ I w A B ca cb hm hA hB
    have hc1 := hA.1
    have hc2 := hA.2.1
    have hd1 := hB.1
    have hd2 := hB.2.1
    simp only [T.k_mk, T.n_mk, T.l_mk] at *
    have IH := Lib.hid ih
    have HM := Lib.hid hm
    have HA := Lib.hid hA
    have HB := Lib.hid hB
    clear ih hm hA hB
    by_cases hk : k = k'
    case neg =>
      have hkb : (k != k') = true := by simpa using hk
      by_cases hlt : k < k'
      · have fin : cmp (.mk k n l) (.mk k' n' m) = -1 := by simp only [cmp]; rw [if_neg hk, if_pos hlt]
        rw [fin]
        go_enter Tryd.func17, Tryd.ntmps17
        go_wp2
        go_ret
        exact ⟨rfl, ((Below.refl _ _).alloc (Nat.le_refl _) _).alloc (by simp) _⟩
      · have fin : cmp (.mk k n l) (.mk k' n' m) = 1 := by simp only [cmp]; rw [if_neg hk, if_neg hlt]
        rw [fin]
        go_enter Tryd.func17, Tryd.ntmps17
        go_wp2
        go_ret
        exact ⟨rfl, ((Below.refl _ _).alloc (Nat.le_refl _) _).alloc (by simp) _⟩
    subst hk
    have hkb : (k != k) = false := by simp
    by_cases hn : n = n'
    case neg =>
      have hnb : (n != n') = true := by simpa using hn
      by_cases hlt : n < n'
      · have fin : cmp (.mk k n l) (.mk k n' m) = -1 := by simp only [cmp, if_true]; rw [if_neg hn, if_pos hlt]
        rw [fin]
        go_enter Tryd.func17, Tryd.ntmps17
        go_wp2
        go_ret
        exact ⟨rfl, ((Below.refl _ _).alloc (Nat.le_refl _) _).alloc (by simp) _⟩
      · have fin : cmp (.mk k n l) (.mk k n' m) = 1 := by simp only [cmp, if_true]; rw [if_neg hn, if_neg hlt]
        rw [fin]
        go_enter Tryd.func17, Tryd.ntmps17
        go_wp2
        go_ret
        exact ⟨rfl, ((Below.refl _ _).alloc (Nat.le_refl _) _).alloc (by simp) _⟩
    subst hn
    have hnb : (n != n) = false := by simp
    have fin : cmp (.mk k n l) (.mk k n m) = cmps l m := by simp only [cmp, if_true]
    rw [fin]
    clear fin
    go_enter Tryd.func17, Tryd.ntmps17
    go_wp2
    go_loopw [5] (fun i wr => ∃ j : Nat, j ≤ l.length ∧ j ≤ m.length ∧ i = .int .i64 j ∧ Hid (l.take j = m.take j) ∧ Below (w.heap.size + 2) ((w.alloc (.cells #[.int .i64 k, .int .i64 n, .slice A l.length ca] 24)).alloc (.cells #[.int .i64 k, .int .i64 n, .slice B m.length cb] 24)) wr) (fun i _ => l.length - (intOf i).toNat)
    case atStart => exact ⟨0, Nat.zero_le _, Nat.zero_le _, rfl, rfl, Below.refl _ _⟩
    case round =>
      obtain ⟨j, hj, hj2, rfl, ht, hb⟩ := hrel
      have c1 : wr.cell? ⟨w.heap.size, 2, none⟩ = some (.slice A l.length ca) := (newcell2 hb 2).1
      have c2 : wr.cell? ⟨w.heap.size + 1, 2, none⟩ = some (.slice B m.length cb) := (newcell2 hb 2).2
      by_cases hlt : j < l.length
      · by_cases hlt2 : j < m.length
        · obtain ⟨b, o, A', cap', rfl, g3, d0, d1, d2⟩ := HA.out.cells (HM.out.grow (under2 hb)) hlt
          obtain ⟨b2, o2, B', cap2, rfl, f3, e0, e1, e2⟩ := HB.out.cells (HM.out.grow (under2 hb)) hlt2
          have HC := Lib.hid (fun (W : World) (hW : Below wr.heap.size wr W) => IH.out l[j] (List.getElem_mem hlt) m[j] I W A' B' cap' cap2 ((HM.out.grow (under2 hb)).grow hW) g3 f3)
          have HBB := Lib.hid hb
          have HT := Lib.hid ht.out
          clear hb g3 f3 ht
          have L1 := fun p : Later wr => p.cell c1
          have L2 := fun p : Later wr => p.cell c2
          have M0 := fun p : Later wr => p.cell d0
          have M1 := fun p : Later wr => p.cell d1
          have M2 := fun p : Later wr => p.cell d2
          have N0 := fun p : Later wr => p.cell e0
          have N1 := fun p : Later wr => p.cell e1
          have N2 := fun p : Later wr => p.cell e2
          go_wp2_with fail
          refine wp_region_later (by kernel_rfl) (by kernel_rfl) ?_
          repeat (go_big_quiet_step ((go_at_call 17; exact later_of (HC.out _ (Later.h _)))))
          refine wpQuiet_nil ?_
          rintro _ ⟨⟨wr2, hl2⟩, rfl⟩
          clear L1 L2 M0 M1 M2 N0 N1 N2
          by_cases hc : cmp l[j] m[j] = 0
          · have hcb : (cmp l[j] m[j] != 0) = false := by simpa using hc
            have HC0 := Lib.hid hc
            clear hc
            have HL2 := Lib.hid hl2
            clear hl2
            go_wp2
            go_roundw
            case rel => exact ⟨j + 1, by omega, by omega, by go_num, take_succ_eq hlt hlt2 HT.out HC0.out, HBB.out.trans (HL2.out.mono (size_of_below2 HBB.out))⟩
            case measure => simp [intOf]; omega
          · have hcb : (cmp l[j] m[j] != 0) = true := by simpa using hc
            have fin := Lib.hid (cmps_at j hlt hlt2 HT.out hc)
            clear hc
            have HL2 := Lib.hid hl2
            clear hl2
            go_wp2
            go_ret
            exact ⟨by rw [fin.out]; rfl, under2 (HBB.out.trans (HL2.out.mono (size_of_below2 HBB.out)))⟩
        · have fin := Lib.hid (cmps_end j ht.out (.inr (by omega)))
          have HBB := Lib.hid hb
          clear hb ht
          have hz : m.length < l.length := by omega
          have hz2 : ¬ l.length < m.length := by omega
          go_wp2
          all_goals go_ret
          all_goals exact ⟨by rw [fin.out, if_neg (by omega), if_pos (by omega)]; rfl, under2 HBB.out⟩
      · have fin := Lib.hid (cmps_end j ht.out (.inl (by omega)))
        have HBB := Lib.hid hb
        clear hb ht
        obtain rfl : j = l.length := by omega
        by_cases h1 : l.length < m.length
        · go_wp2
          all_goals go_ret
          all_goals exact ⟨by rw [fin.out, if_pos h1]; rfl, under2 HBB.out⟩
        · have h2 : ¬ m.length < l.length := by omega
          go_wp2
          all_goals go_ret
          all_goals exact ⟨by rw [fin.out, if_neg h1, if_neg h2]; rfl, under2 HBB.out⟩
end Go.Proofs.YthfcaiipcdibbaaDoor

/- The specification's list functions: Has, Same, Put, built. -/
set_option linter.unusedSimpArgs false
set_option linter.unusedVariables false
namespace Go.Proofs.YthfcaiipcdibbaaDoor
open Go.RowKit Tm

theorem Tryd.infoT : (Tryd.prog.info? 24).map (fun i => (i.zero, i.size, i.bytes)) = some (some (.agg #[.int .i64 0, .int .i64 0, .slice none 0 0]), 3, 40) := by kernel_rfl

set_option maxHeartbeats 1000000 in
theorem refHas (l : List T) (t : T) (I : Im) (w : World) (A B : Option Addr) (cap cb : Nat) (hm : Tm.Mod w I) (hl : SL I l A cap) (ht : SL I t.l B cb) :
    Calls Tryd.prog 29 #[.slice A l.length cap, .agg #[.int .i64 t.k, .int .i64 t.n, .slice B t.l.length cb]] w fun e w' => e = .returned (.bool (has l t)) ∧ Below w.heap.size w w' := by
  have hc1 := hl.1
  have hc2 := hl.2.1
  have HM := Lib.hid hm
  have HL := Lib.hid hl
  have HT := Lib.hid ht
  clear hm hl ht
  go_enter Tryd.func29, Tryd.ntmps29
  go_wp2
  go_loopw [5] (fun i wr => ∃ j : Nat, j ≤ l.length ∧ i = .int .i64 j ∧ Hid (has (l.take j) t = false) ∧ Below (w.heap.size + 1) (w.alloc (.cells #[.int .i64 t.k, .int .i64 t.n, .slice B t.l.length cb] 24)) wr) (fun i _ => l.length - (intOf i).toNat)
  case atStart => exact ⟨0, Nat.zero_le _, rfl, rfl, Below.refl _ _⟩
  case round =>
    obtain ⟨j, hj, rfl, hh, hb⟩ := hrel
    have HH := Lib.hid hh.out
    clear hh
    by_cases hlt : j < l.length
    · obtain ⟨b, o, A', cap', rfl, g3, d0, d1, d2⟩ := HL.out.cells (HM.out.grow (under1 hb)) hlt
      have HC := Lib.hid (fun (W : World) (hW : Below wr.heap.size wr W) => refCompare l[j] t I W A' B cap' cb ((HM.out.grow (under1 hb)).grow hW) g3 HT.out)
      have L0 := fun p : Later wr => p.cell (newcell hb 0)
      have L1 := fun p : Later wr => p.cell (newcell hb 1)
      have L2 := fun p : Later wr => p.cell (newcell hb 2)
      have M0 := fun p : Later wr => p.cell d0
      have M1 := fun p : Later wr => p.cell d1
      have M2 := fun p : Later wr => p.cell d2
      have HBB := Lib.hid hb
      clear hb g3
      go_wp2_with fail
      refine wp_region_later (by kernel_rfl) (by kernel_rfl) ?_
      repeat (go_big_quiet_step ((go_at_call 17; exact later_of (HC.out _ (Later.h _)))))
      refine wpQuiet_nil ?_
      rintro _ ⟨⟨wr2, hl2⟩, rfl⟩
      clear L0 L1 L2 M0 M1 M2
      by_cases hc : cmp l[j] t = 0
      · have hcb : (cmp l[j] t == 0) = true := by simpa using hc
        have fin := Lib.hid (has_of hlt hc)
        clear hc
        have HL2 := Lib.hid hl2
        clear hl2
        go_wp2
        go_ret
        exact ⟨by rw [fin.out]; rfl, under1 (HBB.out.trans (HL2.out.mono (size_of_below1 HBB.out)))⟩
      · have hcb : (cmp l[j] t == 0) = false := by simpa using hc
        have fin := Lib.hid (has_take_succ hlt HH.out hc)
        clear hc
        have HL2 := Lib.hid hl2
        clear hl2
        go_wp2
        go_roundw
        case rel => exact ⟨j + 1, by omega, by go_num, fin.out, HBB.out.trans (HL2.out.mono (size_of_below1 HBB.out))⟩
        case measure => simp [intOf]; omega
    · have HBB := Lib.hid hb
      clear hb
      obtain rfl : j = l.length := by omega
      go_wp2
      go_ret
      exact ⟨by rw [← HH.out, List.take_length]; rfl, under1 HBB.out⟩

set_option maxHeartbeats 1000000 in
theorem refSame (l m : List T) (I : Im) (w : World) (A B : Option Addr) (cap cb : Nat) (hm : Tm.Mod w I) (hl : SL I l A cap) (ht : SL I m B cb) :
    Calls Tryd.prog 22 #[.slice A l.length cap, .slice B m.length cb] w fun e w' => e = .returned (.bool (decide (l = m))) ∧ Below w.heap.size w w' := by
  have hc1 := hl.1
  have hc2 := hl.2.1
  have hd1 := ht.1
  have hd2 := ht.2.1
  have HM := Lib.hid hm
  have HL := Lib.hid hl
  have HT := Lib.hid ht
  clear hm hl ht
  by_cases hlen : l.length = m.length
  · have hlb : ((l.length : Int) != (m.length : Int)) = false := by simp; omega
    have hlb2 : (l.length != m.length) = false := by simpa using hlen
    have HLEN := Lib.hid hlen
    clear hlen
    go_enter Tryd.func22, Tryd.ntmps22
    go_wp2
    go_loopw [5] (fun i wr => ∃ j : Nat, j ≤ l.length ∧ i = .int .i64 j ∧ Hid (l.take j = m.take j) ∧ Below w.heap.size w wr) (fun i _ => l.length - (intOf i).toNat)
    case atStart => exact ⟨0, Nat.zero_le _, rfl, rfl, Below.refl _ _⟩
    case round =>
      obtain ⟨j, hj, rfl, hh, hb⟩ := hrel
      have HH := Lib.hid hh.out
      clear hh
      by_cases hlt : j < l.length
      · have hlt2 : j < m.length := by have := HLEN.out; omega
        obtain ⟨b, o, A', cap', rfl, g3, d0, d1, d2⟩ := HL.out.cells (HM.out.grow hb) hlt
        obtain ⟨b2, o2, B', cap2, rfl, f3, e0, e1, e2⟩ := HT.out.cells (HM.out.grow hb) hlt2
        have HC := Lib.hid (fun (W : World) (hW : Below wr.heap.size wr W) => refCompare l[j] m[j] I W A' B' cap' cap2 ((HM.out.grow hb).grow hW) g3 f3)
        have M0 := fun p : Later wr => p.cell d0
        have M1 := fun p : Later wr => p.cell d1
        have M2 := fun p : Later wr => p.cell d2
        have N0 := fun p : Later wr => p.cell e0
        have N1 := fun p : Later wr => p.cell e1
        have N2 := fun p : Later wr => p.cell e2
        have HBB := Lib.hid hb
        clear hb g3 f3
        go_wp2_with fail
        refine wp_region_later (by kernel_rfl) (by kernel_rfl) ?_
        repeat (go_big_quiet_step ((go_at_call 17; exact later_of (HC.out _ (Later.h _)))))
        refine wpQuiet_nil ?_
        rintro _ ⟨⟨wr2, hl2⟩, rfl⟩
        clear M0 M1 M2 N0 N1 N2
        by_cases hc : cmp l[j] m[j] = 0
        · have hcb : (cmp l[j] m[j] != 0) = false := by simpa using hc
          have fin := Lib.hid (take_succ_eq hlt hlt2 HH.out hc)
          clear hc
          have HL2 := Lib.hid hl2
          clear hl2
          go_wp2
          go_roundw
          case rel => exact ⟨j + 1, by omega, by go_num, fin.out, HBB.out.trans (HL2.out.mono HBB.out.size)⟩
          case measure => simp [intOf]; omega
        · have hcb : (cmp l[j] m[j] != 0) = true := by simpa using hc
          have fin : Hid (decide (l = m) = false) := decide_eq_false (fun e => hc (by subst e; exact cmp_self _))
          clear hc
          have HL2 := Lib.hid hl2
          clear hl2
          go_wp2
          go_ret
          exact ⟨by rw [fin.out]; rfl, HBB.out.trans (HL2.out.mono HBB.out.size)⟩
      · have fin : Hid (decide (l = m) = true) := decide_eq_true (by
          have h1 := HH.out
          have h2 := HLEN.out
          rwa [List.take_of_length_le (by omega), List.take_of_length_le (by omega)] at h1)
        have HBB := Lib.hid hb
        clear hb
        obtain rfl : j = l.length := by omega
        go_wp2
        go_ret
        exact ⟨by rw [fin.out]; rfl, HBB.out⟩
  · have hlb : ((l.length : Int) != (m.length : Int)) = true := by simp; omega
    have hlb2 : (l.length != m.length) = true := by simpa using hlen
    have fin : Hid (decide (l = m) = false) := decide_eq_false (fun e => hlen (by rw [e]))
    clear hlen
    go_enter Tryd.func22, Tryd.ntmps22
    go_wp2
    go_ret
    exact ⟨by rw [fin.out]; rfl, Below.refl _ _⟩
end Go.Proofs.YthfcaiipcdibbaaDoor

/- The specification's Put. -/
set_option linter.unusedSimpArgs false
set_option linter.unusedVariables false
namespace Go.Proofs.YthfcaiipcdibbaaDoor
open Go.RowKit Tm

set_option maxHeartbeats 4000000 in
set_option maxRecDepth 100000 in
theorem refPut (l : List T) (t : T) (I : Im) (w : World) (A B : Option Addr) (cap cb : Nat) (hm : Tm.Mod w I) (hl : SL I l A cap) (ht : SL I t.l B cb) (hlen : l.length ≤ 1000000000) :
    Calls Tryd.prog 31 #[.slice A l.length cap, .agg #[.int .i64 t.k, .int .i64 t.n, .slice B t.l.length cb]] w (RetL I w (put l t)) := by
  have hI : ∀ b x, I b = some x → b < w.heap.size + 1 := fun b x h => by have := hm.lt h; omega
  have hc1 := hl.1
  have hc2 := hl.2.1
  have HI := Lib.hid hI
  have HM := Lib.hid hm
  have HL := Lib.hid hl
  have HT := Lib.hid ht
  clear hm hl ht hI
  go_enter Tryd.func31, Tryd.ntmps31
  go_wp2
  go_loopw [5, 6, 7] (fun ov pv i wr => ∃ (j : Nat) (p : Bool) (out : List T), j ≤ l.length ∧ i = .int .i64 j ∧ pv = .bool p ∧ Hid (PutAt t (l.take j) p out) ∧ OwnT wr I (w.heap.size + 1) ov out ∧ Below (w.heap.size + 1) (w.alloc (.cells #[.int .i64 t.k, .int .i64 t.n, .slice B t.l.length cb] 24)) wr) (fun _ _ i _ => l.length - (intOf i).toNat)
  case atStart => exact ⟨0, false, [], Nat.zero_le _, rfl, rfl, PutAt.nil t, OwnT.nil _ _ _, Below.refl _ _⟩
  case round =>
    obtain ⟨j, p, out, hj, rfl, rfl, hp, ho, hb⟩ := hrel
    have HP := Lib.hid hp.out
    clear hp
    have hol : out.length ≤ l.length + 1 := by
      have := HP.out.length
      have h2 : (l.take j).length ≤ l.length := by simp; omega
      omega
    by_cases hlt : j < l.length
    · obtain ⟨b, o, A', cap', rfl, g3, d0, d1, d2⟩ := HL.out.cells (HM.out.grow (under1 hb)) hlt
      have HC := Lib.hid (fun (W : World) (hW : Below wr.heap.size wr W) => refCompare t l[j] I W B A' cb cap' ((HM.out.grow (under1 hb)).grow hW) HT.out g3)
      have L0 := fun p : Later wr => p.cell (newcell hb 0)
      have L1 := fun p : Later wr => p.cell (newcell hb 1)
      have L2 := fun p : Later wr => p.cell (newcell hb 2)
      have M0 := fun p : Later wr => p.cell d0
      have M1 := fun p : Later wr => p.cell d1
      have M2 := fun p : Later wr => p.cell d2
      have HBB := Lib.hid hb
      have HO := Lib.hid ho
      have G3 := Lib.hid g3
      clear hb g3 ho
      go_wp2_with fail
      refine wp_region_later (by kernel_rfl) (by kernel_rfl) ?_
      repeat (go_big_quiet_step ((go_at_call 17; exact later_of (HC.out _ (Later.h _)))))
      refine wpQuiet_nil ?_
      rintro _ ⟨⟨wr2, hl2⟩, rfl⟩
      clear L0 L1 L2 M0 M1 M2
      have hb2 := HBB.out.trans (hl2.mono (size_of_below1 HBB.out))
      have HB2 := Lib.hid hb2
      have HO2 := Lib.hid (HO.out.grow hl2)
      have hsz := size_of_below1 hb2
      clear hl2 hb2 HO HC d0 d1 d2
      by_cases hc : cmp t l[j] = 0
      · have hcb : (cmp t l[j] == 0) = true := by simpa using hc
        have fin := Lib.hid (put_same hlt hc)
        clear hc
        go_wp2
        go_ret
        refine ⟨I, _, cap, Ext.refl _ _, HM.out.grow (under1 HB2.out), by rw [fin.out]; rfl, by rw [fin.out]; exact HL.out, under1 HB2.out⟩
      · have hcb : (cmp t l[j] == 0) = false := by simpa using hc
        have HCN := Lib.hid hc
        clear hc
        have tok1 : True := trivial
        have c0 := newcell HB2.out 0
        have c1 := newcell HB2.out 1
        have c2 := newcell HB2.out 2
        obtain ⟨b', o', A'', cap'', e', g4, d0, d1, d2⟩ := HL.out.cells (HM.out.grow (under1 HB2.out)) hlt
        cases e'
        have G4 := Lib.hid g4
        clear g4
        have Hts := Lib.hid (List.take_succ_eq_append_getElem hlt)
        by_cases hlo : cmp t l[j] < 0 ∧ p = false
        · obtain ⟨hlo, rfl⟩ := hlo
          have fin := Lib.hid (HP.out.place hlo)
          go_wp2_with (first
            | (at_builtin; have _t := tok1; refine app_term (I := I) (w0 := w.alloc (.cells #[.int .i64 t.k, .int .i64 t.n, .slice B t.l.length cb] 24)) (w.heap.size + 1) rfl _ _ rfl Tryd.underlying22 Tryd.infoT out t B cb HO2.out rfl rfl HT.out HB2.out hsz (by omega) ?_; intro v1 w1 ho1 hb1 hg1 hs1 _; have HO3 := Lib.hid ho1; have HB3 := Lib.hid hb1; have hsz3 := size_of_below1 hb1; obtain ⟨b', o', A3, cap3, e', g5, d0, d1, d2⟩ := HL.out.cells (HM.out.grow (under1 hb1)) hlt; cases e'; have G5 := Lib.hid g5; clear tok1 ho1 hb1 hg1 g5)
            | (at_builtin; refine app_term (I := I) (w0 := w.alloc (.cells #[.int .i64 t.k, .int .i64 t.n, .slice B t.l.length cb] 24)) (w.heap.size + 1) rfl _ _ rfl Tryd.underlying22 Tryd.infoT (out ++ [t]) l[j] _ _ HO3.out rfl rfl G5.out HB3.out hsz3 (by simp; omega) ?_; intro v1 w1 ho1 hb1 hg1 hs1 _; have HO4 := Lib.hid ho1; have HB4 := Lib.hid hb1; clear ho1 hb1 hg1))
          go_roundw
          case rel => exact ⟨j + 1, true, _, by omega, by go_num, rfl, by rw [Hts.out]; exact fin.out, HO4.out, HB4.out⟩
          case measure => simp [intOf]; omega
        · have fin : Hid (PutAt t (l.take j ++ [l[j]]) p (out ++ [l[j]])) := HP.out.go HCN.out (by
            cases p with
            | true => exact .inl rfl
            | false => exact .inr (fun h => hlo ⟨h, rfl⟩))
          have hlo2 : p = true ∨ ¬ cmp t l[j] < 0 := by
            cases p with
            | true => exact .inl rfl
            | false => exact .inr (fun h => hlo ⟨h, rfl⟩)
          clear hlo
          by_cases hneg : cmp t l[j] < 0
          · obtain rfl : p = true := hlo2.resolve_right (fun h => h hneg)
            clear hlo2
            go_wp2_with (at_builtin; refine app_term (I := I) (w0 := w.alloc (.cells #[.int .i64 t.k, .int .i64 t.n, .slice B t.l.length cb] 24)) (w.heap.size + 1) rfl _ _ rfl Tryd.underlying22 Tryd.infoT out l[j] _ _ HO2.out rfl rfl G4.out HB2.out hsz (by omega) ?_; intro v1 w1 ho1 hb1 hg1 hs1 _; have HO4 := Lib.hid ho1; have HB4 := Lib.hid hb1; clear ho1 hb1 hg1)
            go_roundw
            case rel => exact ⟨j + 1, true, _, by omega, by go_num, rfl, by rw [Hts.out]; exact fin.out, HO4.out, HB4.out⟩
            case measure => simp [intOf]; omega
          · clear hlo2
            go_wp2_with (at_builtin; refine app_term (I := I) (w0 := w.alloc (.cells #[.int .i64 t.k, .int .i64 t.n, .slice B t.l.length cb] 24)) (w.heap.size + 1) rfl _ _ rfl Tryd.underlying22 Tryd.infoT out l[j] _ _ HO2.out rfl rfl G4.out HB2.out hsz (by omega) ?_; intro v1 w1 ho1 hb1 hg1 hs1 _; have HO4 := Lib.hid ho1; have HB4 := Lib.hid hb1; clear ho1 hb1 hg1)
            go_roundw
            case rel => exact ⟨j + 1, p, _, by omega, by go_num, rfl, by rw [Hts.out]; exact fin.out, HO4.out, HB4.out⟩
            case measure => simp [intOf]; omega
    · have HBB := Lib.hid hb
      have HO := Lib.hid ho
      have hsz := size_of_below1 hb
      have c0 := newcell hb 0
      have c1 := newcell hb 1
      have c2 := newcell hb 2
      clear hb ho
      obtain rfl : j = l.length := by omega
      have HP2 : Hid (PutAt t l p out) := by have := HP.out; rwa [List.take_length] at this
      clear HP
      cases p with
      | true =>
        go_wp2
        go_ret
        obtain ⟨J, A3, cap3, h1, h2, h3, h4, h5⟩ := HO.out.done (HM.out.grow (under1 HBB.out)) HI.out
        refine ⟨J, A3, cap3, ⟨h1, fun b x h => (h5 b x h).imp id (fun h => by omega)⟩, h2, ?_, ?_, under1 HBB.out⟩
        · rw [← HP2.out.done]; exact congrArg Ending.returned h3
        · rw [← HP2.out.done]; exact h4
      | false =>
        go_wp2_with (at_builtin; refine app_term (I := I) (w0 := w.alloc (.cells #[.int .i64 t.k, .int .i64 t.n, .slice B t.l.length cb] 24)) (w.heap.size + 1) rfl _ _ rfl Tryd.underlying22 Tryd.infoT out t B cb HO.out rfl rfl HT.out HBB.out hsz (by omega) ?_; intro v1 w1 ho1 hb1 hg1 hs1 _; have HO4 := Lib.hid ho1; have HB4 := Lib.hid hb1; clear ho1 hb1 hg1)
        go_ret
        obtain ⟨J, A3, cap3, h1, h2, h3, h4, h5⟩ := HO4.out.done (HM.out.grow (under1 HB4.out)) HI.out
        refine ⟨J, A3, cap3, ⟨h1, fun b x h => (h5 b x h).imp id (fun h => by omega)⟩, h2, ?_, ?_, under1 HB4.out⟩
        · rw [← HP2.out.last]; exact congrArg Ending.returned h3
        · rw [← HP2.out.last]; exact h4
end Go.Proofs.YthfcaiipcdibbaaDoor

/- The specification's built, Valid, Small; term.Size. -/
set_option linter.unusedSimpArgs false
set_option linter.unusedVariables false
namespace Go.Proofs.YthfcaiipcdibbaaDoor
open Go.RowKit Tm

set_option maxHeartbeats 2000000 in
set_option maxRecDepth 100000 in
theorem refBuilt (S : List T) (A : Option Addr) (cap : Nat) (t : T) : ∀ (I : Im) (w : World) (B : Option Addr) (cb : Nat), Tm.Mod w I → SL I S A cap → SL I t.l B cb →
    Calls Tryd.prog 49 #[.slice A S.length cap, .agg #[.int .i64 t.k, .int .i64 t.n, .slice B t.l.length cb]] w fun e w' => e = .returned (.bool (built S t)) ∧ Below w.heap.size w w' := by
  induction t using T.ind with
  | h k n l ih =>
    intro I w B cb hm hS hl
    have HHas := Lib.hid (fun (W : World) (hW : Below w.heap.size w W) => refHas S (.mk k n l) I W A B cap cb (hm.grow hW) hS hl)
    simp only [T.k_mk, T.n_mk, T.l_mk] at *
    have hc1 := hl.1
    have hc2 := hl.2.1
    have IH := Lib.hid ih
    have HM := Lib.hid hm
    have HL := Lib.hid hl
    have HS := Lib.hid hS
    clear ih hm hl hS
    by_cases hk : k = 1
    · have hkb : (k == 1) = true := by simpa using hk
      have fin : Hid (built S (.mk k n l) = true) := by unfold Hid; simp [built, hk]
      clear hk
      go_enter Tryd.func49, Tryd.ntmps49
      go_wp2
      go_ret
      exact ⟨by rw [fin.out]; rfl, (Below.refl _ _).alloc (Nat.le_refl _) _⟩
    have hkb : (k == 1) = false := by simpa using hk
    cases hh : has S (.mk k n l) with
    | true =>
      have fin : Hid (built S (.mk k n l) = true) := by unfold Hid; simp [built, hh]
      rw [hh] at HHas
      clear hk hh
      go_enter Tryd.func49, Tryd.ntmps49
      go_wp2_with (go_at_call 29; refine (HHas.out _ ((Below.refl _ _).alloc (Nat.le_refl _) _)).mono ?_; rintro e w' ⟨rfl, hb'⟩)
      go_ret
      exact ⟨by rw [fin.out]; rfl, ((Below.refl _ _).alloc (Nat.le_refl _) _).trans (hb'.mono (by simp))⟩
    | false =>
      by_cases hk2 : k = 2
      · have hkb2 : (k == 2) = true := by simpa using hk2
        have fin : Hid (built S (.mk k n l) = false) := by unfold Hid; subst hk2; simp [built, hh]
        rw [hh] at HHas
        clear hk hh hk2
        go_enter Tryd.func49, Tryd.ntmps49
        go_wp2_with (go_at_call 29; refine (HHas.out _ ((Below.refl _ _).alloc (Nat.le_refl _) _)).mono ?_; rintro e w' ⟨rfl, hb'⟩; have c0 := newcell (hb'.mono (by simp)) 0)
        go_ret
        exact ⟨by rw [fin.out]; rfl, ((Below.refl _ _).alloc (Nat.le_refl _) _).trans (hb'.mono (by simp))⟩
      · have hkb2 : (k == 2) = false := by simpa using hk2
        have fin : Hid (built S (.mk k n l) = builts S l) := by unfold Hid; simp [built, hh, hk2, hk]
        rw [hh] at HHas
        clear hk hh hk2
        go_enter Tryd.func49, Tryd.ntmps49
        go_wp2_with (go_at_call 29; refine (HHas.out _ ((Below.refl _ _).alloc (Nat.le_refl _) _)).mono ?_; rintro e w1 ⟨rfl, hb'⟩; have hb1 : Below (w.heap.size + 1) (w.alloc (.cells #[.int .i64 k, .int .i64 n, .slice B l.length cb] 24)) w1 := hb'.mono (by simp); have c0 := newcell hb1 0; have HB1 := Lib.hid hb1; clear hb1 hb')
        go_loopw [5] (fun i wr => ∃ j : Nat, j ≤ l.length ∧ i = .int .i64 j ∧ Hid (builts S (l.take j) = true) ∧ Below (w.heap.size + 1) (w.alloc (.cells #[.int .i64 k, .int .i64 n, .slice B l.length cb] 24)) wr) (fun i _ => l.length - (intOf i).toNat)
        case atStart => exact ⟨0, Nat.zero_le _, rfl, rfl, HB1.out⟩
        case round =>
          obtain ⟨j, hj, rfl, hh, hb⟩ := hrel
          have HH := Lib.hid hh.out
          clear hh
          have c2 : wr.cell? ⟨w.heap.size, 2, none⟩ = some (.slice B l.length cb) := newcell hb 2
          by_cases hlt : j < l.length
          · obtain ⟨b, o, A', cap', rfl, g3, d0, d1, d2⟩ := HL.out.cells (HM.out.grow (under1 hb)) hlt
            have HC := Lib.hid (IH.out l[j] (List.getElem_mem hlt) I wr A' cap' (HM.out.grow (under1 hb)) HS.out g3)
            have HBB := Lib.hid hb
            clear hb g3
            cases hbt : built S l[j] with
            | true =>
              have ok := Lib.hid (builts_take_succ hlt HH.out hbt)
              rw [hbt] at HC
              clear hbt
              go_wp2_with (go_at_call 49; refine HC.out.mono ?_; rintro e w' ⟨rfl, hb'⟩)
              go_roundw
              case rel => exact ⟨j + 1, by omega, by go_num, ok.out, HBB.out.trans (hb'.mono (size_of_below1 HBB.out))⟩
              case measure => simp [intOf]; omega
            | false =>
              have ok := Lib.hid (builts_false hlt hbt)
              rw [hbt] at HC
              clear hbt
              go_wp2_with (go_at_call 49; refine HC.out.mono ?_; rintro e w' ⟨rfl, hb'⟩)
              go_ret
              exact ⟨by rw [fin.out, ok.out]; rfl, under1 (HBB.out.trans (hb'.mono (size_of_below1 HBB.out)))⟩
          · have HBB := Lib.hid hb
            clear hb
            obtain rfl : j = l.length := by omega
            go_wp2
            go_ret
            exact ⟨by rw [fin.out, ← HH.out, List.take_length]; rfl, under1 HBB.out⟩

set_option maxHeartbeats 1000000 in
theorem termSize (t : T) : ∀ (I : Im) (w : World) (A : Option Addr) (cap : Nat), Tm.Mod w I → SL I t.l A cap → size t ≤ 1099511627776 →
    Calls Tryd.prog 14 #[.agg #[.int .i64 t.k, .int .i64 t.n, .slice A t.l.length cap]] w fun e w' => e = .returned (.int .i64 (size t)) ∧ Below w.heap.size w w' := by
  induction t using T.ind with
  | h k n l ih =>
    intro I w A cap hm hl hs
    have hc1 := hl.1
    have hc2 := hl.2.1
    simp only [T.k_mk, T.n_mk, T.l_mk] at *
    simp only [size] at hs ⊢
    have IH := Lib.hid ih
    have HM := Lib.hid hm
    have HL := Lib.hid hl
    clear ih hm hl
    go_enter Tryd.func14, Tryd.ntmps14
    go_wp2
    go_loopw [3, 9] (fun n' i wr => ∃ j : Nat, j ≤ l.length ∧ i = .int .i64 j ∧ n' = .int .i64 (1 + (sizes (l.take j) : Int)) ∧ Below (w.heap.size + 1) (w.alloc (.cells #[.int .i64 k, .int .i64 n, .slice A l.length cap] 24)) wr) (fun _ i _ => l.length - (intOf i).toNat)
    case atStart => exact ⟨0, Nat.zero_le _, rfl, rfl, Below.refl _ _⟩
    case round =>
      obtain ⟨j, hj, rfl, rfl, hb⟩ := hrel
      have hle := sizes_take_le l j
      by_cases hlt : j < l.length
      · have hle2 := sizes_take_le l (j + 1)
        have hsz : sizes (l.take j) + size l[j] ≤ sizes l := by rw [← sizes_take_succ hlt]; exact hle2
        obtain ⟨b, o, A', cap', rfl, g3, d0, d1, d2⟩ := HL.out.cells (HM.out.grow (under1 hb)) hlt
        have HC := Lib.hid (fun (W : World) (hW : Below wr.heap.size wr W) => IH.out l[j] (List.getElem_mem hlt) I W A' cap' ((HM.out.grow (under1 hb)).grow hW) g3 (by omega))
        have HB := Lib.hid hb
        have HN := Lib.hid (sizes_take_succ hlt)
        clear hb g3 hle2
        go_wp2_with (go_at_call 14; refine (HC.out _ ((Below.refl _ _).alloc (Nat.le_refl _) _)).mono ?_; rintro e w' ⟨rfl, hb'⟩)
        go_roundw
        case rel => exact ⟨j + 1, by omega, by go_num, by rw [HN.out]; go_num, (HB.out.alloc (size_of_below1 HB.out) _).trans (hb'.mono (by have := size_of_below1 HB.out; simp; omega))⟩
        case measure => simp [intOf]; omega
      · have HB := Lib.hid hb
        clear hb
        obtain rfl : j = l.length := by omega
        go_wp2
        go_ret
        exact ⟨by simp, under1 HB.out⟩
end Go.Proofs.YthfcaiipcdibbaaDoor
