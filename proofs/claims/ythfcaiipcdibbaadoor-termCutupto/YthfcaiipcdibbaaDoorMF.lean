import Derived.Test.YthfcaiipcdibbaaDoorME
/- The program's Compare. -/
set_option linter.unusedSimpArgs false
set_option linter.unusedVariables false
namespace Go.Proofs.YthfcaiipcdibbaaDoor
open Go.RowKit Tm

def cmpI (x y : Int) : Int := if x < y then -1 else if y < x then 1 else 0
theorem cmpCompare (x y : Int) (w : World) : Calls Tryd.prog 41 #[.int .i64 x, .int .i64 y] w fun e w' => e = .returned (.int .i64 (cmpI x y)) ∧ w = w' := by
  have hx : (x != x) = false := by simp
  have hy : (y != y) = false := by simp
  unfold cmpI
  by_cases h1 : x < y
  · rw [if_pos h1]
    go_enter Tryd.func41, Tryd.ntmps41
    go_wp2
    go_ret
    exact ⟨rfl, rfl⟩
  · rw [if_neg h1]
    by_cases h2 : y < x
    · rw [if_pos h2]
      go_enter Tryd.func41, Tryd.ntmps41
      go_wp2
      go_ret
      exact ⟨rfl, rfl⟩
    · rw [if_neg h2]
      go_enter Tryd.func41, Tryd.ntmps41
      go_wp2
      go_ret
      exact ⟨rfl, rfl⟩
def or3 (a b c : Int) : Int := if a ≠ 0 then a else if b ≠ 0 then b else c

set_option maxHeartbeats 1000000 in
theorem cmpOr (x y z : Int) (g : Nat) (w : World) (h0 : w.cell? ⟨g, 0, none⟩ = some (.int .i64 x)) (h1 : w.cell? ⟨g, 1, none⟩ = some (.int .i64 y)) (h2 : w.cell? ⟨g, 2, none⟩ = some (.int .i64 z)) :
    Calls Tryd.prog 40 #[.slice (some ⟨g, 0, none⟩) 3 3] w fun e w' => e = .returned (.int .i64 (or3 x y z)) ∧ w = w' := by
  have hcell : ∀ j : Nat, j < 3 → w.cell? ⟨g, j, none⟩ = some (.int .i64 ([x, y, z].getD j 0)) := by
    intro j hj
    match j, hj with
    | 0, _ => exact h0
    | 1, _ => exact h1
    | 2, _ => exact h2
  have HCELL := Lib.hid hcell
  clear hcell h0 h1 h2
  go_enter Tryd.func40, Tryd.ntmps40
  go_wp2
  go_loop [5, 8] (fun _ i => ∃ j : Nat, j ≤ 3 ∧ i = .int .i64 j ∧ Hid (∀ k, k < j → [x, y, z].getD k 0 = 0)) (fun _ i => 3 - (intOf i).toNat)
  case atStart => exact ⟨0, by omega, rfl, fun k hk => by omega⟩
  case round =>
    obtain ⟨j, hj, rfl, hh⟩ := hrel
    have HH := Lib.hid hh.out
    clear hh
    by_cases hlt : j < 3
    · have hc := HCELL.out j hlt
      generalize hv : [x, y, z].getD j 0 = v at hc
      have HV := Lib.hid hv
      clear hv
      by_cases hz : v = 0
      · have hzb : (v != 0) = false := by simpa using hz
        have HZ := Lib.hid hz
        clear hz
        go_wp2
        go_round
        case rel => exact ⟨j + 1, by omega, by go_num, fun k hk => by
          by_cases e : k = j
          · subst e; rw [HV.out, HZ.out]
          · exact HH.out k (by omega)⟩
        case measure => simp [intOf]; omega
      · have hzb : (v != 0) = true := by simpa using hz
        have fin : Hid (or3 x y z = v) := by
          unfold Hid or3
          have hH := HH.out
          have hv := HV.out
          match j, hlt with
          | 0, _ => simp at hv; subst hv; rw [if_pos hz]
          | 1, _ =>
            have := hH 0 (by omega)
            simp at this hv; subst hv; rw [if_neg (by omega), if_pos hz]
          | 2, _ =>
            have a := hH 0 (by omega)
            have b := hH 1 (by omega)
            simp at a b hv; subst hv; rw [if_neg (by omega), if_neg (by omega)]
        clear hz
        go_wp2
        go_ret
        exact ⟨by rw [fin.out]; rfl, rfl⟩
    · have fin : Hid (or3 x y z = 0) := by
        unfold Hid or3
        have a := HH.out 0 (by omega)
        have b := HH.out 1 (by omega)
        have c := HH.out 2 (by omega)
        simp at a b c
        rw [if_neg (by omega), if_neg (by omega), c]
      obtain rfl : j = 3 := by omega
      go_wp2
      go_ret
      exact ⟨by rw [fin.out]; rfl, rfl⟩
end Go.Proofs.YthfcaiipcdibbaaDoor

/- The program's Compare, with slices.CompareFunc. -/
set_option linter.unusedSimpArgs false
set_option linter.unusedVariables false
namespace Go.Proofs.YthfcaiipcdibbaaDoor
open Go.RowKit Tm

def CmpHyp (x : T) : Prop := ∀ (b : T) (I : Im) (w : World) (A B : Option Addr) (ca cb : Nat), Tm.Mod w I → SL I x.l A ca → SL I b.l B cb →
    Calls Tryd.prog 16 #[.agg #[.int .i64 x.k, .int .i64 x.n, .slice A x.l.length ca], .agg #[.int .i64 b.k, .int .i64 b.n, .slice B b.l.length cb]] w fun e w' => e = .returned (.int .i64 (cmp x b)) ∧ Below w.heap.size w w'

set_option maxHeartbeats 2000000 in
set_option maxRecDepth 100000 in
theorem compareFunc (l m : List T) (ih : ∀ x ∈ l, CmpHyp x) (I : Im) (w : World) (A B : Option Addr) (ca cb : Nat) (hm : Tm.Mod w I) (hA : SL I l A ca) (hB : SL I m B cb) :
    Calls Tryd.prog 42 #[.slice A l.length ca, .slice B m.length cb, .func (.func 16) #[] #[]] w fun e w' => e = .returned (.int .i64 (cmps l m)) ∧ Below w.heap.size w w' := by
  have hc1 := hA.1
  have hc2 := hA.2.1
  have hd1 := hB.1
  have hd2 := hB.2.1
  have IH := Lib.hid ih
  have HM := Lib.hid hm
  have HA := Lib.hid hA
  have HB := Lib.hid hB
  clear ih hm hA hB
  go_enter Tryd.func42, Tryd.ntmps42
  go_wp2
  go_loopw [13] (fun i wr => ∃ j : Nat, j ≤ l.length ∧ j ≤ m.length ∧ i = .int .i64 j ∧ Hid (l.take j = m.take j) ∧ Below w.heap.size w wr) (fun i _ => l.length - (intOf i).toNat)
  case atStart => exact ⟨0, Nat.zero_le _, Nat.zero_le _, rfl, rfl, Below.refl _ _⟩
  case round =>
    obtain ⟨j, hj, hj2, rfl, ht, hb⟩ := hrel
    have HT := Lib.hid ht.out
    have hsz : w.heap.size ≤ wr.heap.size := hb.size
    clear ht
    by_cases hlt : j < l.length
    · obtain ⟨b, o, A', cap', rfl, g3, d0, d1, d2⟩ := HA.out.cells (HM.out.grow hb) hlt
      by_cases hlt2 : j < m.length
      · obtain ⟨b2, o2, B', cap2, rfl, f3, e0, e1, e2⟩ := HB.out.cells (HM.out.grow hb) hlt2
        have HC := Lib.hid (fun (W : World) (hW : Below wr.heap.size wr W) => IH.out l[j] (List.getElem_mem hlt) m[j] I W A' B' cap' cap2 ((HM.out.grow hb).grow hW) g3 f3)
        have HBB := Lib.hid hb
        have e0' := fun O => (World.cell?_alloc_lt wr O _ (World.block_lt_of_cell? _ _ e0)).trans e0
        have e1' := fun O => (World.cell?_alloc_lt wr O _ (World.block_lt_of_cell? _ _ e1)).trans e1
        have e2' := fun O => (World.cell?_alloc_lt wr O _ (World.block_lt_of_cell? _ _ e2)).trans e2
        clear hb g3 f3
        by_cases hc : cmp l[j] m[j] = 0
        · have fin := Lib.hid (take_succ_eq hlt hlt2 HT.out hc)
          rw [hc] at HC
          clear hc
          go_wp2_with (go_at_call 16; refine (HC.out _ (((Below.refl _ _).alloc (Nat.le_refl _) _).alloc (by simp) _)).mono ?_; rintro e w' ⟨rfl, hb'⟩; have HB' := Lib.hid hb'; clear hb')
          go_roundw
          case rel => exact ⟨j + 1, by omega, by omega, by go_num, fin.out, HBB.out.trans (((((Below.refl _ _).alloc (Nat.le_refl _) _).alloc (by simp) _).trans (HB'.out.mono (by simp; omega))).mono hsz)⟩
          case measure => simp [intOf]; omega
        · have hcb : (cmp l[j] m[j] != 0) = true := by simpa using hc
          have fin := Lib.hid (cmps_at j hlt hlt2 HT.out hc)
          clear hc
          go_wp2_with (go_at_call 16; refine (HC.out _ (((Below.refl _ _).alloc (Nat.le_refl _) _).alloc (by simp) _)).mono ?_; rintro e w' ⟨rfl, hb'⟩; have HB' := Lib.hid hb'; clear hb')
          go_ret
          exact ⟨by rw [fin.out]; rfl, HBB.out.trans (((((Below.refl _ _).alloc (Nat.le_refl _) _).alloc (by simp) _).trans (HB'.out.mono (by simp; omega))).mono hsz)⟩
      · have fin := Lib.hid (cmps_end j HT.out (.inr (by omega)))
        have HBB := Lib.hid hb
        clear hb
        have hz : m.length ≤ j := by omega
        go_wp2
        go_ret
        exact ⟨by rw [fin.out, if_neg (by omega), if_pos (by omega)]; rfl, (HBB.out.alloc hsz _)⟩
    · have fin := Lib.hid (cmps_end j HT.out (.inl (by omega)))
      have HBB := Lib.hid hb
      clear hb
      obtain rfl : j = l.length := by omega
      by_cases h1 : l.length < m.length
      · go_wp2
        go_ret
        exact ⟨by rw [fin.out, if_pos h1]; rfl, HBB.out⟩
      · go_wp2
        go_ret
        exact ⟨by rw [fin.out, if_neg h1, if_neg (by omega)]; rfl, HBB.out⟩

theorem cmp_or (k n k' n' : Int) (l m : List T) : cmp (.mk k n l) (.mk k' n' m) = or3 (cmpI k k') (cmpI n n') (cmps l m) := by
  unfold or3 cmpI
  simp only [cmp]
  rcases Int.lt_trichotomy k k' with h | rfl | h
  · have : ¬ k = k' := by omega
    simp [h, this]
  · rcases Int.lt_trichotomy n n' with h | rfl | h
    · have : ¬ n = n' := by omega
      simp [h, this]
    · simp
    · have h1 : ¬ n = n' := by omega
      have h2 : ¬ n < n' := by omega
      simp [h, h1, h2]
  · have h1 : ¬ k = k' := by omega
    have h2 : ¬ k < k' := by omega
    simp [h, h1, h2]

set_option maxHeartbeats 4000000 in
set_option maxRecDepth 100000 in
theorem termCompare (a : T) : CmpHyp a := by
  induction a using T.ind with
  | h k n l ih =>
    rintro ⟨k', n', m⟩ I w A B ca cb hm hA hB
    simp only [T.k_mk, T.n_mk, T.l_mk] at *
    have HCF := Lib.hid (fun (W : World) (hW : Below (w.heap.size + 2) ((w.alloc (.cells #[.int .i64 k, .int .i64 n, .slice A l.length ca] 24)).alloc (.cells #[.int .i64 k', .int .i64 n', .slice B m.length cb] 24)) W) => compareFunc l m ih I W A B ca cb (hm.grow (under2 hW)) hA hB)
    clear ih hm hA hB
    have L0 := fun (W : World) (hW : Below (w.heap.size + 2) ((w.alloc (.cells #[.int .i64 k, .int .i64 n, .slice A l.length ca] 24)).alloc (.cells #[.int .i64 k', .int .i64 n', .slice B m.length cb] 24)) W) => (newcell2 hW 0).1
    have L1 := fun (W : World) (hW : Below (w.heap.size + 2) ((w.alloc (.cells #[.int .i64 k, .int .i64 n, .slice A l.length ca] 24)).alloc (.cells #[.int .i64 k', .int .i64 n', .slice B m.length cb] 24)) W) => (newcell2 hW 1).1
    have L2 := fun (W : World) (hW : Below (w.heap.size + 2) ((w.alloc (.cells #[.int .i64 k, .int .i64 n, .slice A l.length ca] 24)).alloc (.cells #[.int .i64 k', .int .i64 n', .slice B m.length cb] 24)) W) => (newcell2 hW 2).1
    have M0 := fun (W : World) (hW : Below (w.heap.size + 2) ((w.alloc (.cells #[.int .i64 k, .int .i64 n, .slice A l.length ca] 24)).alloc (.cells #[.int .i64 k', .int .i64 n', .slice B m.length cb] 24)) W) => (newcell2 hW 0).2
    have M1 := fun (W : World) (hW : Below (w.heap.size + 2) ((w.alloc (.cells #[.int .i64 k, .int .i64 n, .slice A l.length ca] 24)).alloc (.cells #[.int .i64 k', .int .i64 n', .slice B m.length cb] 24)) W) => (newcell2 hW 1).2
    have M2 := fun (W : World) (hW : Below (w.heap.size + 2) ((w.alloc (.cells #[.int .i64 k, .int .i64 n, .slice A l.length ca] 24)).alloc (.cells #[.int .i64 k', .int .i64 n', .slice B m.length cb] 24)) W) => (newcell2 hW 2).2
    have fin := Lib.hid (cmp_or k n k' n' l m)
    go_enter Tryd.func16, Tryd.ntmps16
    go_wp2_with fail
    go_region_held3 (fun w' => Below (w.heap.size + 2) ((w.alloc (.cells #[.int .i64 k, .int .i64 n, .slice A l.length ca] 24)).alloc (.cells #[.int .i64 k', .int .i64 n', .slice B m.length cb] 24)) w') (first | exact (Below.refl _ _).drew | exact hkeep1 | assumption | exact Below.alloc (by assumption) (size_of_below2 (by assumption)) _) (first
      | (go_at_call 41; refine (cmpCompare _ _ _).mono ?_; rintro e w1 ⟨rfl, rfl⟩)
      | (go_at_call 42; refine (HCF.out _ (by assumption)).mono ?_; rintro e w1 ⟨rfl, hb1⟩; have hkeep1 : Below (w.heap.size + 2) ((w.alloc (.cells #[.int .i64 k, .int .i64 n, .slice A l.length ca] 24)).alloc (.cells #[.int .i64 k', .int .i64 n', .slice B m.length cb] 24)) w1 := Below.trans (by assumption) (hb1.mono (size_of_below2 (by assumption))); clear hb1)
      | (go_at_call 40; refine (cmpOr (cmpI k k') (cmpI n n') (cmps l m) _ _ (World.cell?_alloc_new _ _ _ _) (World.cell?_alloc_new _ _ _ _) (World.cell?_alloc_new _ _ _ _)).mono ?_; rintro e w2 ⟨rfl, rfl⟩))
    go_wp2
    go_ret
    exact ⟨by rw [fin.out]; rfl, under2 (by assumption)⟩
end Go.Proofs.YthfcaiipcdibbaaDoor

/- The same, and the count of draws does not fall (slices.SortFunc's contract wants it). -/
set_option linter.unusedSimpArgs false
set_option linter.unusedVariables false
namespace Go.Proofs.YthfcaiipcdibbaaDoor
open Go.RowKit Tm

def CmpHypD (x : T) : Prop := ∀ (b : T) (I : Im) (w : World) (A B : Option Addr) (ca cb : Nat), Tm.Mod w I → SL I x.l A ca → SL I b.l B cb →
    Calls Tryd.prog 16 #[.agg #[.int .i64 x.k, .int .i64 x.n, .slice A x.l.length ca], .agg #[.int .i64 b.k, .int .i64 b.n, .slice B b.l.length cb]] w fun e w' => e = .returned (.int .i64 (cmp x b)) ∧ Below w.heap.size w w' ∧ w.drawn ≤ w'.drawn

set_option maxHeartbeats 2000000 in
set_option maxRecDepth 100000 in
theorem compareFuncD (l m : List T) (ih : ∀ x ∈ l, CmpHypD x) (I : Im) (w : World) (A B : Option Addr) (ca cb : Nat) (hm : Tm.Mod w I) (hA : SL I l A ca) (hB : SL I m B cb) :
    Calls Tryd.prog 42 #[.slice A l.length ca, .slice B m.length cb, .func (.func 16) #[] #[]] w fun e w' => e = .returned (.int .i64 (cmps l m)) ∧ Below w.heap.size w w' ∧ w.drawn ≤ w'.drawn := by
  have hc1 := hA.1
  have hc2 := hA.2.1
  have hd1 := hB.1
  have hd2 := hB.2.1
  have IH := Lib.hid ih
  have HM := Lib.hid hm
  have HA := Lib.hid hA
  have HB := Lib.hid hB
  clear ih hm hA hB
  go_enter Tryd.func42, Tryd.ntmps42
  go_wp2
  go_loopw [13] (fun i wr => ∃ j : Nat, j ≤ l.length ∧ j ≤ m.length ∧ i = .int .i64 j ∧ Hid (l.take j = m.take j) ∧ Below w.heap.size w wr ∧ w.drawn ≤ wr.drawn) (fun i _ => l.length - (intOf i).toNat)
  case atStart => exact ⟨0, Nat.zero_le _, Nat.zero_le _, rfl, rfl, Below.refl _ _, Nat.le_refl _⟩
  case round =>
    obtain ⟨j, hj, hj2, rfl, ht, hb, hdr⟩ := hrel
    have HDR := Lib.hid hdr
    clear hdr
    have HT := Lib.hid ht.out
    have hsz : w.heap.size ≤ wr.heap.size := hb.size
    clear ht
    by_cases hlt : j < l.length
    · obtain ⟨b, o, A', cap', rfl, g3, d0, d1, d2⟩ := HA.out.cells (HM.out.grow hb) hlt
      by_cases hlt2 : j < m.length
      · obtain ⟨b2, o2, B', cap2, rfl, f3, e0, e1, e2⟩ := HB.out.cells (HM.out.grow hb) hlt2
        have HC := Lib.hid (fun (W : World) (hW : Below wr.heap.size wr W) => IH.out l[j] (List.getElem_mem hlt) m[j] I W A' B' cap' cap2 ((HM.out.grow hb).grow hW) g3 f3)
        have HBB := Lib.hid hb
        have e0' := fun O => (World.cell?_alloc_lt wr O _ (World.block_lt_of_cell? _ _ e0)).trans e0
        have e1' := fun O => (World.cell?_alloc_lt wr O _ (World.block_lt_of_cell? _ _ e1)).trans e1
        have e2' := fun O => (World.cell?_alloc_lt wr O _ (World.block_lt_of_cell? _ _ e2)).trans e2
        clear hb g3 f3
        by_cases hc : cmp l[j] m[j] = 0
        · have fin := Lib.hid (take_succ_eq hlt hlt2 HT.out hc)
          rw [hc] at HC
          clear hc
          go_wp2_with (go_at_call 16; refine (HC.out _ (((Below.refl _ _).alloc (Nat.le_refl _) _).alloc (by simp) _)).mono ?_; rintro e w' ⟨rfl, hb', hd'⟩; have HB' := Lib.hid hb'; have HD' := Lib.hid hd'; clear hb' hd')
          go_roundw
          case rel => exact ⟨j + 1, by omega, by omega, by go_num, fin.out, HBB.out.trans (((((Below.refl _ _).alloc (Nat.le_refl _) _).alloc (by simp) _).trans (HB'.out.mono (by simp; omega))).mono hsz), Nat.le_trans HDR.out HD'.out⟩
          case measure => simp [intOf]; omega
        · have hcb : (cmp l[j] m[j] != 0) = true := by simpa using hc
          have fin := Lib.hid (cmps_at j hlt hlt2 HT.out hc)
          clear hc
          go_wp2_with (go_at_call 16; refine (HC.out _ (((Below.refl _ _).alloc (Nat.le_refl _) _).alloc (by simp) _)).mono ?_; rintro e w' ⟨rfl, hb', hd'⟩; have HB' := Lib.hid hb'; have HD' := Lib.hid hd'; clear hb' hd')
          go_ret
          exact ⟨by rw [fin.out]; rfl, HBB.out.trans (((((Below.refl _ _).alloc (Nat.le_refl _) _).alloc (by simp) _).trans (HB'.out.mono (by simp; omega))).mono hsz), Nat.le_trans HDR.out HD'.out⟩
      · have fin := Lib.hid (cmps_end j HT.out (.inr (by omega)))
        have HBB := Lib.hid hb
        clear hb
        have hz : m.length ≤ j := by omega
        go_wp2
        go_ret
        exact ⟨by rw [fin.out, if_neg (by omega), if_pos (by omega)]; rfl, (HBB.out.alloc hsz _), HDR.out⟩
    · have fin := Lib.hid (cmps_end j HT.out (.inl (by omega)))
      have HBB := Lib.hid hb
      clear hb
      obtain rfl : j = l.length := by omega
      by_cases h1 : l.length < m.length
      · go_wp2
        go_ret
        exact ⟨by rw [fin.out, if_pos h1]; rfl, HBB.out, HDR.out⟩
      · go_wp2
        go_ret
        exact ⟨by rw [fin.out, if_neg h1, if_neg (by omega)]; rfl, HBB.out, HDR.out⟩

theorem keepAlloc {w W : World} {o o2 : Array Value} {t t2 : TypeId} (h : Below (w.heap.size + 2) ((w.alloc (.cells o t)).alloc (.cells o2 t2)) W ∧ w.drawn ≤ W.drawn) (x : Obj) : Below (w.heap.size + 2) ((w.alloc (.cells o t)).alloc (.cells o2 t2)) (W.alloc x) ∧ w.drawn ≤ (W.alloc x).drawn :=
  ⟨Below.alloc h.1 (size_of_below2 h.1) _, h.2⟩
theorem keepTrans {w W W' : World} {o o2 : Array Value} {t t2 : TypeId} (h : Below (w.heap.size + 2) ((w.alloc (.cells o t)).alloc (.cells o2 t2)) W ∧ w.drawn ≤ W.drawn) (hb : Below W.heap.size W W') (hd : W.drawn ≤ W'.drawn) : Below (w.heap.size + 2) ((w.alloc (.cells o t)).alloc (.cells o2 t2)) W' ∧ w.drawn ≤ W'.drawn :=
  ⟨h.1.trans (hb.mono (size_of_below2 h.1)), Nat.le_trans h.2 hd⟩
theorem keepEnd {w W : World} {o o2 : Array Value} {t t2 : TypeId} {p : Prop} (h : Below (w.heap.size + 2) ((w.alloc (.cells o t)).alloc (.cells o2 t2)) W ∧ w.drawn ≤ W.drawn) (hp : p) : p ∧ Below w.heap.size w W ∧ w.drawn ≤ W.drawn := ⟨hp, under2 h.1, h.2⟩

set_option maxHeartbeats 4000000 in
set_option maxRecDepth 100000 in
theorem termCompareD (a : T) : CmpHypD a := by
  induction a using T.ind with
  | h k n l ih =>
    rintro ⟨k', n', m⟩ I w A B ca cb hm hA hB
    simp only [T.k_mk, T.n_mk, T.l_mk] at *
    have HCF := Lib.hid (fun (W : World) (hW : Below (w.heap.size + 2) ((w.alloc (.cells #[.int .i64 k, .int .i64 n, .slice A l.length ca] 24)).alloc (.cells #[.int .i64 k', .int .i64 n', .slice B m.length cb] 24)) W ∧ w.drawn ≤ W.drawn) => compareFuncD l m ih I W A B ca cb (hm.grow (under2 hW.1)) hA hB)
    clear ih hm hA hB
    have L0 := fun (W : World) (hW : Below (w.heap.size + 2) ((w.alloc (.cells #[.int .i64 k, .int .i64 n, .slice A l.length ca] 24)).alloc (.cells #[.int .i64 k', .int .i64 n', .slice B m.length cb] 24)) W ∧ w.drawn ≤ W.drawn) => (newcell2 hW.1 0).1
    have L1 := fun (W : World) (hW : Below (w.heap.size + 2) ((w.alloc (.cells #[.int .i64 k, .int .i64 n, .slice A l.length ca] 24)).alloc (.cells #[.int .i64 k', .int .i64 n', .slice B m.length cb] 24)) W ∧ w.drawn ≤ W.drawn) => (newcell2 hW.1 1).1
    have L2 := fun (W : World) (hW : Below (w.heap.size + 2) ((w.alloc (.cells #[.int .i64 k, .int .i64 n, .slice A l.length ca] 24)).alloc (.cells #[.int .i64 k', .int .i64 n', .slice B m.length cb] 24)) W ∧ w.drawn ≤ W.drawn) => (newcell2 hW.1 2).1
    have M0 := fun (W : World) (hW : Below (w.heap.size + 2) ((w.alloc (.cells #[.int .i64 k, .int .i64 n, .slice A l.length ca] 24)).alloc (.cells #[.int .i64 k', .int .i64 n', .slice B m.length cb] 24)) W ∧ w.drawn ≤ W.drawn) => (newcell2 hW.1 0).2
    have M1 := fun (W : World) (hW : Below (w.heap.size + 2) ((w.alloc (.cells #[.int .i64 k, .int .i64 n, .slice A l.length ca] 24)).alloc (.cells #[.int .i64 k', .int .i64 n', .slice B m.length cb] 24)) W ∧ w.drawn ≤ W.drawn) => (newcell2 hW.1 1).2
    have M2 := fun (W : World) (hW : Below (w.heap.size + 2) ((w.alloc (.cells #[.int .i64 k, .int .i64 n, .slice A l.length ca] 24)).alloc (.cells #[.int .i64 k', .int .i64 n', .slice B m.length cb] 24)) W ∧ w.drawn ≤ W.drawn) => (newcell2 hW.1 2).2
    have fin := Lib.hid (cmp_or k n k' n' l m)
    go_enter Tryd.func16, Tryd.ntmps16
    go_wp2_with fail
    go_region_held3 (fun w' => Below (w.heap.size + 2) ((w.alloc (.cells #[.int .i64 k, .int .i64 n, .slice A l.length ca] 24)).alloc (.cells #[.int .i64 k', .int .i64 n', .slice B m.length cb] 24)) w' ∧ w.drawn ≤ w'.drawn) (first | exact ⟨(Below.refl _ _).drew, Nat.le_succ _⟩ | exact hkeep1 | assumption | (rename_i hS; exact ⟨Below.alloc hS.1 (size_of_below2 hS.1) _, hS.2⟩) | exact keepAlloc (by assumption) _) (first
      | (go_at_call 41; refine (cmpCompare _ _ _).mono ?_; rintro e w1 ⟨rfl, rfl⟩)
      | (go_at_call 42; refine (HCF.out _ (by assumption)).mono ?_; rintro e w1 ⟨rfl, hb1, hd1⟩; have hkeep1 : Below (w.heap.size + 2) ((w.alloc (.cells #[.int .i64 k, .int .i64 n, .slice A l.length ca] 24)).alloc (.cells #[.int .i64 k', .int .i64 n', .slice B m.length cb] 24)) w1 ∧ w.drawn ≤ w1.drawn := keepTrans (by assumption) hb1 hd1; clear hb1 hd1)
      | (go_at_call 40; refine (cmpOr (cmpI k k') (cmpI n n') (cmps l m) _ _ (World.cell?_alloc_new _ _ _ _) (World.cell?_alloc_new _ _ _ _) (World.cell?_alloc_new _ _ _ _)).mono ?_; rintro e w2 ⟨rfl, rfl⟩))
    go_wp2
    go_ret
    exact keepEnd (by assumption) (by rw [fin.out]; rfl)
end Go.Proofs.YthfcaiipcdibbaaDoor
