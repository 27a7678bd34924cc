import Derived.Test.YthfcaiipcdibbaaDoorMG
import Derived.Shelf.Abstract
import Derived.Laws.EntriesVeiled
/- slices.IndexFunc and slices.ContainsFunc over terms, for any predicate that a func value holds. -/
set_option linter.unusedSimpArgs false
set_option linter.unusedVariables false
namespace Tm
open Go Go.RowKit
def idx (p : T → Bool) (l : List T) : Int := if l.any p = true then (l.findIdx p : Int) else -1
theorem idx_hit {p : T → Bool} {l : List T} {j : Nat} (h : j < l.length) (hp : p l[j] = true) (hb : ∀ x ∈ l.take j, p x = false) : idx p l = j := by
  have ha : l.any p = true := List.any_eq_true.2 ⟨l[j], List.getElem_mem h, hp⟩
  unfold idx
  rw [if_pos ha]
  congr 1
  refine (List.findIdx_eq h).2 ⟨hp, fun i hi => hb _ ?_⟩
  rw [List.mem_take_iff_getElem]
  exact ⟨i, by omega, rfl⟩
theorem idx_miss {p : T → Bool} {l : List T} (hb : ∀ x ∈ l, p x = false) : idx p l = -1 := by
  unfold idx
  rw [if_neg]
  simp only [List.any_eq_true, not_exists, not_and, Bool.not_eq_true]
  exact hb
theorem idx_ge (p : T → Bool) (l : List T) : decide (0 ≤ idx p l) = l.any p := by
  unfold idx
  split
  · rename_i h; rw [h]; simp
  · rename_i h; simp only [Bool.not_eq_true] at h; rw [h]; decide
theorem take_succ_all {p : T → Bool} {l : List T} {j : Nat} (h : j < l.length) (hb : ∀ x ∈ l.take j, p x = false) (hp : p l[j] = false) : ∀ x ∈ l.take (j + 1), p x = false := by
  intro x hx
  rw [List.take_add_one, List.getElem?_eq_getElem h] at hx
  rcases List.mem_append.1 hx with hx | hx
  · exact hb x hx
  · simp at hx; subst hx; exact hp
end Tm
namespace Go.Proofs.YthfcaiipcdibbaaDoor
open Go.RowKit Tm Go.Shelf

def PredT (g : Nat) (lb : Array Value) (p : T → Bool) (I : Im) (w : World) (x : T) : Prop :=
  ∀ (B : Option Addr) (cb : Nat) (W : World), SL I x.l B cb → Below w.heap.size w W → Calls Tryd.prog g (#[.agg #[.int .i64 x.k, .int .i64 x.n, .slice B x.l.length cb]] ++ lb) W fun e w' => e = .returned (.bool (p x)) ∧ Below W.heap.size W w'

set_option maxHeartbeats 2000000 in
set_option maxRecDepth 100000 in
theorem indexFunc (g : Nat) (lb : Array Value) (p : T → Bool) (eg : ∀ args w, (callFunc g args).run Tryd.prog w = .ok (.enter g args) w) (l : List T) (I : Im) (w : World) (A : Option Addr) (cap : Nat) (hm : Tm.Mod w I) (hl : SL I l A cap)
    (hp : ∀ x ∈ l, PredT g lb p I w x) :
    Calls Tryd.prog 51 #[.slice A l.length cap, .func (.func g) #[] lb] w fun e w' => e = .returned (.int .i64 (idx p l)) ∧ Below w.heap.size w w' := by
  have hc1 := hl.1
  have hc2 := hl.2.1
  have HM := Lib.hid hm
  have HL := Lib.hid hl
  have HP := Lib.hid hp
  clear hm hl hp
  go_enter Tryd.func51, Tryd.ntmps51
  go_wp2
  go_loopw [5, 8] (fun _ i wr => ∃ j : Nat, j ≤ l.length ∧ i = .int .i64 j ∧ Hid (∀ x ∈ l.take j, p x = false) ∧ Below w.heap.size w wr) (fun _ i _ => l.length - (intOf i).toNat)
  case atStart => exact ⟨0, Nat.zero_le _, rfl, (fun x hx => by simp at hx), Below.refl _ _⟩
  case round =>
    obtain ⟨j, hj, rfl, ht, hb⟩ := hrel
    have HT := Lib.hid ht.out
    clear ht
    have HBB := Lib.hid hb
    by_cases hlt : j < l.length
    · obtain ⟨b, o, A', cap', rfl, g3, d0, d1, d2⟩ := HL.out.cells (HM.out.grow hb) hlt
      have hC := HP.out l[j] (List.getElem_mem hlt) A' cap' wr g3 hb
      have hsz := hb.size
      clear hb g3
      cases hq : p l[j] with
      | true =>
        rw [hq] at hC
        have HC := Lib.hid hC
        have fin := Lib.hid (idx_hit hlt hq HT.out)
        clear hC hq
        go_wp2_with (go_at_fn g; refine HC.out.mono ?_; rintro e w' ⟨rfl, hb'⟩)
        go_ret
        exact ⟨by rw [fin.out]; rfl, HBB.out.trans (hb'.mono hsz)⟩
      | false =>
        rw [hq] at hC
        have HC := Lib.hid hC
        have HT2 := Lib.hid (take_succ_all hlt HT.out hq)
        clear hC hq
        go_wp2_with (go_at_fn g; refine HC.out.mono ?_; rintro e w' ⟨rfl, hb'⟩)
        go_roundw
        case rel => first | exact ⟨j + 1, by omega, by go_num, HT2.out, HBB.out.trans (hb'.mono hsz)⟩ | ((repeat apply Exists.intro); exact ⟨⟨j + 1, by omega, by go_num, HT2.out, HBB.out.trans (hb'.mono hsz)⟩, rfl⟩)
        case measure => simp [intOf]; omega
    · obtain rfl : j = l.length := by omega
      have fin := Lib.hid (idx_miss (by simpa using HT.out))
      clear hb
      go_wp2
      go_ret
      exact ⟨by rw [fin.out]; rfl, HBB.out⟩

set_option maxHeartbeats 2000000 in
theorem containsFunc (g : Nat) (lb : Array Value) (p : T → Bool) (eg : ∀ args w, (callFunc g args).run Tryd.prog w = .ok (.enter g args) w) (l : List T) (I : Im) (w : World) (A : Option Addr) (cap : Nat) (hm : Tm.Mod w I) (hl : SL I l A cap)
    (hp : ∀ x ∈ l, PredT g lb p I w x) :
    Calls Tryd.prog 35 #[.slice A l.length cap, .func (.func g) #[] lb] w fun e w' => e = .returned (.bool (l.any p)) ∧ Below w.heap.size w w' := by
  have HC := Lib.hid (indexFunc g lb p eg l I w A cap hm hl hp)
  rw [← idx_ge p l]
  clear hm hl hp
  go_enter Tryd.func35, Tryd.ntmps35
  go_wp2_with (go_at_call 51; refine HC.out.mono ?_; rintro e w' ⟨rfl, hb'⟩)
  go_ret
  exact ⟨rfl, hb'⟩
end Go.Proofs.YthfcaiipcdibbaaDoor

/- The program's Valid. -/
set_option linter.unusedSimpArgs false
set_option linter.unusedVariables false
namespace Go.Proofs.YthfcaiipcdibbaaDoor
open Go.RowKit Tm Go.Shelf

structure VEnv (w : World) (p q r : Nat) : Prop where
  m : w.cell? ⟨p, 0, none⟩ = some (.map (some r))
  f : w.cell? ⟨q, 0, none⟩ = some (.func (.func 34) #[] #[.pointer (some ⟨p, 0, none⟩), .pointer (some ⟨q, 0, none⟩)])
  s : w.heap[r]? = some (.map shapeE 6)
theorem VEnv.grow {w w' : World} {p q r : Nat} (h : VEnv w p q r) (hb : Below w.heap.size w w') : VEnv w' p q r := {
  m := (hb.cell (p := ⟨p, 0, none⟩) (World.block_lt_of_cell? _ _ h.m)).trans h.m
  f := (hb.cell (p := ⟨q, 0, none⟩) (World.block_lt_of_cell? _ _ h.f)).trans h.f
  s := (hb.block r (Array.getElem?_eq_some_iff.1 h.s).1).trans h.s }

theorem e36 : ∀ args w, (callFunc 36 args).run Tryd.prog w = .ok (.enter 36 args) w := enters_of (f := 36) Tryd.func36 (by kernel_rfl) rfl

def VHyp (t : T) : Prop := ∀ (I : Im) (w : World) (A : Option Addr) (cap p q r : Nat), Tm.Mod w I → SL I t.l A cap → VEnv w p q r →
    Calls Tryd.prog 34 #[.agg #[.int .i64 t.k, .int .i64 t.n, .slice A t.l.length cap], .pointer (some ⟨p, 0, none⟩), .pointer (some ⟨q, 0, none⟩)] w fun e w' => e = .returned (.bool (valid t)) ∧ Below w.heap.size w w'

theorem valid11 (x : T) (ih : VHyp x) (I : Im) (w : World) (p q r : Nat) (hm : Tm.Mod w I) (he : VEnv w p q r) : PredT 36 #[.pointer (some ⟨q, 0, none⟩)] (fun x => !valid x) I w x := by
  intro B cb W hB hW
  have hE := he.grow hW
  have hMW := hm.grow hW
  have f1 := (World.cell?_alloc_lt W (.cells #[.int .i64 x.k, .int .i64 x.n, .slice B x.l.length cb] 24) _ (World.block_lt_of_cell? _ _ hE.f)).trans hE.f
  have HC := Lib.hid (fun (W' : World) (hW' : Below W.heap.size W W') => ih I W' B cb p q r (hMW.grow hW') hB (hE.grow hW'))
  clear ih hm he hB hE hMW
  show Calls Tryd.prog 36 #[.agg #[.int .i64 x.k, .int .i64 x.n, .slice B x.l.length cb], .pointer (some ⟨q, 0, none⟩)] W _
  go_enter Tryd.func36, Tryd.ntmps36
  go_wp2_with (go_at_call 34; refine (HC.out _ ((Below.refl _ _).alloc (Nat.le_refl _) _)).mono ?_; rintro e w' ⟨rfl, hb'⟩)
  go_ret
  exact ⟨rfl, ((Below.refl _ _).alloc (Nat.le_refl _) _).trans (hb'.mono (by simp))⟩

theorem any_not_valid (l : List T) : l.any (fun x => !valid x) = !valids l := by
  induction l with
  | nil => simp [valids]
  | cons a l ih => simp [valids, ih]

set_option maxHeartbeats 4000000 in
set_option maxRecDepth 100000 in
theorem valid1 (t : T) : VHyp t := by
  induction t using T.ind with
  | h k n l ih =>
    intro I w A cap p q r hm hl he
    have hc1 := hl.1
    have hc2 := hl.2.1
    simp only [T.k_mk, T.n_mk, T.l_mk] at *
    have hm' : Tryd.prog.underlying 42 = some (.map 3 45) := Tryd.underlying42
    have hd : Tryd.prog.underlying 3 = some (.int .i64) := Tryd.underlying3
    have hE := he.grow ((Below.refl _ _).alloc (Nat.le_refl _) (.cells #[.int .i64 k, .int .i64 n, .slice A l.length cap] 24))
    have g1 := hE.m
    have HC := Lib.hid (fun (W : World) (hW : Below w.heap.size w W) => containsFunc 36 #[.pointer (some ⟨q, 0, none⟩)] (fun x => !valid x) e36 l I W A cap (hm.grow hW) hl (fun x hx => valid11 x (ih x hx) I W p q r (hm.grow hW) (he.grow hW)))
    have hgood : ∀ nm ln cn i, Instr.findNow (.int .i64) (.int .i64 k) shapeE.toList 0 = some (some (i, shapeV nm ln cn)) → valid (.mk k n l) = (decide (0 ≤ n) && decide (n ≤ 2147483647) && (cn || (n == 0)) && ((l.length : Int) == ln) && valids l) → Calls Tryd.prog 34 #[.agg #[.int .i64 k, .int .i64 n, .slice A l.length cap], .pointer (some ⟨p, 0, none⟩), .pointer (some ⟨q, 0, none⟩)] w fun e w' => e = .returned (.bool (valid (.mk k n l))) ∧ Below w.heap.size w w' := by
      intro nm ln cn i hf hv
      have hq : (Instr.lookup 42 (.map (some r)) (.int .i64 k) true).run Tryd.prog (w.alloc (.cells #[.int .i64 k, .int .i64 n, .slice A l.length cap] 24)) = .ok (.tuple #[.agg #[.string (bs nm), .int .i64 ln, .bool cn], .bool true]) (w.alloc (.cells #[.int .i64 k, .int .i64 n, .slice A l.length cap] 24)) := look_hit hm' hd hE.s (key := .int .i64 k) rfl hf true
      rw [hv]
      clear hv hf hE he hm hl ih hm' hd
      by_cases n0 : n < 0
      · have b1 : decide (0 ≤ n) = false := by simp; omega
        simp only [b1, Bool.false_and]
        clear b1
        go_enter Tryd.func34, Tryd.ntmps34
        go_wp2
        go_ret
        exact ⟨rfl, ((Below.refl _ _).alloc (Nat.le_refl _) _).alloc (by simp) _⟩
      by_cases n1 : n > 2147483647
      · have b1 : decide (n ≤ 2147483647) = false := by simp; omega
        simp only [b1, Bool.and_false, Bool.false_and]
        clear b1
        go_enter Tryd.func34, Tryd.ntmps34
        go_wp2
        go_ret
        exact ⟨rfl, ((Below.refl _ _).alloc (Nat.le_refl _) _).alloc (by simp) _⟩
      have b1 : decide (0 ≤ n) = true := by simp; omega
      have b2 : decide (n ≤ 2147483647) = true := by simp; omega
      simp only [b1, b2, Bool.true_and]
      clear b1 b2
      by_cases h3 : (cn || (n == 0)) = true
      · simp only [h3, Bool.true_and]
        by_cases h4 : ((l.length : Int) == ln) = true
        · simp only [h4, Bool.true_and]
          have h5 : ((l.length : Int) != ln) = false := by simpa using h4
          rw [show valids l = !(l.any fun x => !valid x) by rw [any_not_valid]; simp]
          clear h4
          cases cn with
          | true =>
            clear h3
            go_enter Tryd.func34, Tryd.ntmps34
            go_wp2_with (go_at_call 35; refine (HC.out _ (((Below.refl _ _).alloc (Nat.le_refl _) _).alloc (by simp) _)).mono ?_; rintro e w' ⟨rfl, hb'⟩)
            go_ret
            exact ⟨rfl, (((Below.refl _ _).alloc (Nat.le_refl _) _).alloc (by simp) _).trans (hb'.mono (by simp; omega))⟩
          | false =>
            have h6 : (n != 0) = false := by simpa using h3
            clear h3
            go_enter Tryd.func34, Tryd.ntmps34
            go_wp2_with (go_at_call 35; refine (HC.out _ (((Below.refl _ _).alloc (Nat.le_refl _) _).alloc (by simp) _)).mono ?_; rintro e w' ⟨rfl, hb'⟩)
            go_ret
            exact ⟨rfl, (((Below.refl _ _).alloc (Nat.le_refl _) _).alloc (by simp) _).trans (hb'.mono (by simp; omega))⟩
        · simp only [Bool.not_eq_true] at h4
          simp only [h4, Bool.false_and]
          have h5 : ((l.length : Int) != ln) = true := by simpa using h4
          clear h4
          cases cn with
          | true =>
            clear h3
            go_enter Tryd.func34, Tryd.ntmps34
            go_wp2
            go_ret
            exact ⟨rfl, ((Below.refl _ _).alloc (Nat.le_refl _) _).alloc (by simp) _⟩
          | false =>
            have h6 : (n != 0) = false := by simpa using h3
            clear h3
            go_enter Tryd.func34, Tryd.ntmps34
            go_wp2
            go_ret
            exact ⟨rfl, ((Below.refl _ _).alloc (Nat.le_refl _) _).alloc (by simp) _⟩
      · simp only [Bool.not_eq_true] at h3
        simp only [h3, Bool.false_and]
        have hcn : cn = false := by cases cn with
          | true => simp at h3
          | false => rfl
        subst hcn
        have h6 : (n != 0) = true := by simpa using h3
        clear h3
        go_enter Tryd.func34, Tryd.ntmps34
        go_wp2
        go_ret
        exact ⟨rfl, ((Below.refl _ _).alloc (Nat.le_refl _) _).alloc (by simp) _⟩
    rcases shape_find k with ⟨rfl, h⟩ | ⟨rfl, h⟩ | ⟨rfl, h⟩ | ⟨rfl, h⟩ | ⟨rfl, h⟩ | ⟨rfl, h⟩ | ⟨n1, n2, n3, n4, n5, n6, h⟩
    · refine hgood _ _ _ _ h ?_; rw [Bool.eq_iff_iff]; simp [valid, okHead, arity, and_assoc]; try (intro _ _; constructor <;> (rintro ⟨a, b, c⟩; exact ⟨b, a, c⟩))
    · refine hgood _ _ _ _ h ?_; rw [Bool.eq_iff_iff]; simp [valid, okHead, arity, and_assoc]; try (intro _ _; constructor <;> (rintro ⟨a, b, c⟩; exact ⟨b, a, c⟩))
    · refine hgood _ _ _ _ h ?_; rw [Bool.eq_iff_iff]; simp [valid, okHead, arity, and_assoc]; try (intro _ _; constructor <;> (rintro ⟨a, b, c⟩; exact ⟨b, a, c⟩))
    · refine hgood _ _ _ _ h ?_; rw [Bool.eq_iff_iff]; simp [valid, okHead, arity, and_assoc]; try (intro _ _; constructor <;> (rintro ⟨a, b, c⟩; exact ⟨b, a, c⟩))
    · refine hgood _ _ _ _ h ?_; rw [Bool.eq_iff_iff]; simp [valid, okHead, arity, and_assoc]; try (intro _ _; constructor <;> (rintro ⟨a, b, c⟩; exact ⟨b, a, c⟩))
    · refine hgood _ _ _ _ h ?_; rw [Bool.eq_iff_iff]; simp [valid, okHead, arity, and_assoc]; try (intro _ _; constructor <;> (rintro ⟨a, b, c⟩; exact ⟨b, a, c⟩))
    · have hq : (Instr.lookup 42 (.map (some r)) (.int .i64 k) true).run Tryd.prog (w.alloc (.cells #[.int .i64 k, .int .i64 n, .slice A l.length cap] 24)) = .ok (.tuple #[.agg #[.string ⟨#[]⟩, .int .i64 0, .bool false], .bool false]) (w.alloc (.cells #[.int .i64 k, .int .i64 n, .slice A l.length cap] 24)) := look_miss hm' hd hE.s (key := .int .i64 k) rfl (Tryd.zeroValue45 _) h true
      have hv : valid (.mk k n l) = false := by simp [valid, okHead, arity, n1, n2, n3, n4, n5, n6]
      rw [hv]
      clear hv h hE he hm hl ih hm' hd hgood
      go_enter Tryd.func34, Tryd.ntmps34
      go_wp2
      go_ret
      exact ⟨rfl, ((Below.refl _ _).alloc (Nat.le_refl _) _).alloc (by simp) _⟩
end Go.Proofs.YthfcaiipcdibbaaDoor

/- The program's Valid: the outer function. -/
set_option linter.unusedSimpArgs false
set_option linter.unusedVariables false
namespace Go.Proofs.YthfcaiipcdibbaaDoor
open Go.RowKit Tm Go.Shelf
def venvW (w : World) (box : Array Value) : World := (((w.alloc (.cells box 24)).alloc (.map shapeE 6)).alloc (.cells #[.map (some (w.heap.size + 1))] 42)).alloc (.cells #[.func (.func 34) #[] #[.pointer (some ⟨w.heap.size + 1 + 1, 0, none⟩), .pointer (some ⟨w.heap.size + 1 + 1 + 1, 0, none⟩)]] 25)
theorem venv (w : World) (box : Array Value) : VEnv (venvW w box) (w.heap.size + 1 + 1) (w.heap.size + 1 + 1 + 1) (w.heap.size + 1) := by
  have h1 : ((w.alloc (.cells box 24))).heap.size = w.heap.size + 1 := by simp
  have h2 : ((w.alloc (.cells box 24)).alloc (.map shapeE 6)).heap.size = w.heap.size + 1 + 1 := by simp
  have h3 : (((w.alloc (.cells box 24)).alloc (.map shapeE 6)).alloc (.cells #[.map (some (w.heap.size + 1))] 42)).heap.size = w.heap.size + 1 + 1 + 1 := by simp
  refine ⟨?_, ?_, ?_⟩
  · unfold venvW
    rw [← h2]
    rw [World.cell?_alloc_lt _ _ _ (by simp)]
    exact World.cell?_alloc_new _ _ _ _
  · have e := World.cell?_alloc_new (((w.alloc (.cells box 24)).alloc (.map shapeE 6)).alloc (.cells #[.map (some (w.heap.size + 1))] 42)) #[.func (.func 34) #[] #[.pointer (some ⟨w.heap.size + 1 + 1, 0, none⟩), .pointer (some ⟨w.heap.size + 1 + 1 + 1, 0, none⟩)]] 25 0
    rw [h3] at e
    exact e
  · unfold venvW
    rw [(MapKept.heap_alloc _ _).2 _ (by simp), (MapKept.heap_alloc _ _).2 _ (by simp)]
    have e := (MapKept.heap_alloc (w.alloc (.cells box 24)) (.map shapeE 6)).1
    rw [h1] at e
    exact e

set_option maxHeartbeats 1000000 in
theorem termValid (t : T) (I : Im) (w : World) (A : Option Addr) (cap : Nat) (hm : Tm.Mod w I) (hl : SL I t.l A cap) :
    Calls Tryd.prog 10 #[.agg #[.int .i64 t.k, .int .i64 t.n, .slice A t.l.length cap]] w fun e w' => e = .returned (.bool (valid t)) ∧ Below w.heap.size w w' := by
  have hb : Below w.heap.size w (venvW w #[.int .i64 t.k, .int .i64 t.n, .slice A t.l.length cap]) := ((((Below.refl _ _).alloc (Nat.le_refl _) _).alloc (by simp) _).alloc (by simp; omega) _).alloc (by simp; omega) _
  have hsz := hb.size
  have HC := Lib.hid (valid1 t I (venvW w #[.int .i64 t.k, .int .i64 t.n, .slice A t.l.length cap]) A cap _ _ _ (hm.grow hb) hl (venv w _))
  clear hm hl
  have HB := Lib.hid hb
  clear hb
  go_enter Tryd.func10, Tryd.ntmps10
  go_wp2_with (first
    | (go_at_call 33; refine (shapesCall _).mono ?_; rintro e w' ⟨rfl, rfl⟩)
    | (go_at_call 34; refine HC.out.mono ?_; rintro e w' ⟨rfl, hb'⟩))
  go_ret
  exact ⟨rfl, HB.out.trans (hb'.mono hsz)⟩
end Go.Proofs.YthfcaiipcdibbaaDoor

/- A set of terms in memory. -/
set_option linter.unusedSimpArgs false
set_option linter.unusedVariables false
namespace Go.Proofs.YthfcaiipcdibbaaDoor
open Go.RowKit Tm Go.MapKept

theorem bs_inj {a b : List UInt8} (h : bs a = bs b) : a = b := by
  have h2 : a.toArray = b.toArray := congrArg ByteArray.data h
  simpa using h2

/-- A map's entries are those terms. -/
def Ents (I : Im) : List MapEntry → List T → Prop
  | [], [] => True
  | e :: es, t :: S => (e.key = .string (bs (text t)) ∧ ∃ A cap, e.val = .agg #[.int .i64 t.k, .int .i64 t.n, .slice A t.l.length cap] ∧ SL I t.l A cap) ∧ Ents I es S
  | _, _ => False
theorem Ents.mono {I J : Im} (h : I.le J) : ∀ {es : List MapEntry} {S : List T}, Ents I es S → Ents J es S
  | [], [], _ => trivial
  | e :: es, t :: S, ⟨⟨h1, A, cap, h2, h3⟩, h4⟩ => ⟨⟨h1, A, cap, h2, h3.mono h⟩, Ents.mono h h4⟩
theorem Ents.length {I : Im} : ∀ {es : List MapEntry} {S : List T}, Ents I es S → es.length = S.length
  | [], [], _ => rfl
  | e :: es, t :: S, ⟨_, h4⟩ => by simp [Ents.length h4]
theorem Ents.snoc {I : Im} {e : MapEntry} {t : T} (he : e.key = .string (bs (text t)) ∧ ∃ A cap, e.val = .agg #[.int .i64 t.k, .int .i64 t.n, .slice A t.l.length cap] ∧ SL I t.l A cap) : ∀ {es : List MapEntry} {S : List T}, Ents I es S → Ents I (es ++ [e]) (S ++ [t])
  | [], [], _ => ⟨he, trivial⟩
  | e :: es, t :: S, ⟨h1, h4⟩ => ⟨h1, Ents.snoc he h4⟩
theorem Ents.keys {I : Im} : ∀ {es : List MapEntry} {S : List T}, Ents I es S → ∀ x ∈ es, MapKept.IsKey .string x.key
  | [], [], _, x, hx => by cases hx
  | e :: es, t :: S, ⟨⟨h1, _⟩, h4⟩, x, hx => by
    cases hx with
    | head => rw [h1]; trivial
    | tail _ hx => exact Ents.keys h4 x hx
theorem Ents.find_miss {I : Im} {t : T} (ht : valid t = true) : ∀ {es : List MapEntry} {S : List T} (i : Nat), Ents I es S → (∀ x ∈ S, valid x = true) → t ∉ S → Instr.findNow .string (.string (bs (text t))) es i = some none
  | [], [], _, _, _, _ => rfl
  | e :: es, s :: S, i, ⟨⟨h1, _⟩, h4⟩, hv, hn => by
    have hne : (bs (text t) == bs (text s)) = false := by
      rw [Bool.eq_false_iff]
      intro h
      have h5 := text_inj ht (hv s (by simp)) (bs_inj ((bytes_beq _ _).1 h))
      exact hn (by simp [h5])
    unfold Instr.findNow
    rw [h1]
    simp only [Instr.sameNow, hne]
    exact Ents.find_miss ht (i + 1) h4 (fun x hx => hv x (by simp [hx])) (fun h => hn (by simp [h]))
theorem Ents.find_hit {I : Im} {t : T} (ht : valid t = true) : ∀ {es : List MapEntry} {S : List T} (i : Nat), Ents I es S → (∀ x ∈ S, valid x = true) → t ∈ S → ∃ j e A cap, Instr.findNow .string (.string (bs (text t))) es i = some (some (i + j, e.val)) ∧ es[j]? = some e ∧ e.key = .string (bs (text t)) ∧ e.val = .agg #[.int .i64 t.k, .int .i64 t.n, .slice A t.l.length cap] ∧ SL I t.l A cap
  | [], [], _, _, _, h => by cases h
  | e :: es, s :: S, i, ⟨⟨h1, A, cap, h2, h3⟩, h4⟩, hv, hn => by
    by_cases hs : t = s
    · subst hs
      refine ⟨0, e, A, cap, ?_, rfl, h1, h2, h3⟩
      unfold Instr.findNow
      rw [h1]
      have : (bs (text t) == bs (text t)) = true := (bytes_beq _ _).2 rfl
      simp only [Instr.sameNow, this]
      rfl
    · have hne : (bs (text t) == bs (text s)) = false := by
        rw [Bool.eq_false_iff]
        intro h
        exact hs (text_inj ht (hv s (by simp)) (bs_inj ((bytes_beq _ _).1 h)))
      have hin : t ∈ S := by
        rcases List.mem_cons.1 hn with h | h
        · exact absurd h hs
        · exact h
      obtain ⟨j, e', A', cap', g1, g2, g3, g4, g5⟩ := Ents.find_hit ht (i + 1) h4 (fun x hx => hv x (by simp [hx])) hin
      refine ⟨j + 1, e', A', cap', ?_, by simpa using g2, g3, g4, g5⟩
      unfold Instr.findNow
      rw [h1]
      simp only [Instr.sameNow, hne, g1]
      congr 3; omega

theorem Ents.fresh {I : Im} {t : T} (ht : valid t = true) : ∀ {es : List MapEntry} {S : List T}, Ents I es S → (∀ x ∈ S, valid x = true) → t ∉ S → ∀ x ∈ es, x.key ≠ .string (bs (text t))
  | [], [], _, _, _, x, hx => by cases hx
  | e :: es, s :: S, ⟨⟨h1, _⟩, h4⟩, hv, hn, x, hx => by
    cases hx with
    | head =>
      rw [h1]
      intro h
      injection h with h
      have h5 := text_inj ht (hv s (by simp)) (bs_inj h.symm)
      exact hn (by simp [h5])
    | tail _ hx => exact Ents.fresh ht h4 (fun x hx => hv x (by simp [hx])) (fun h => hn (by simp [h])) x hx
theorem Ents.modify {I : Im} {t : T} (ht : valid t = true) {A : Option Addr} {cap : Nat} (hl : SL I t.l A cap) : ∀ {es : List MapEntry} {S : List T} (j : Nat), Ents I es S → (∀ x ∈ S, valid x = true) → (∀ e, es[j]? = some e → e.key = .string (bs (text t))) →
    Ents I (es.modify j fun e => { e with key := .string (bs (text t)), val := .agg #[.int .i64 t.k, .int .i64 t.n, .slice A t.l.length cap] }) S
  | [], [], j, _, _, _ => by simp [Ents]
  | e :: es, s :: S, 0, ⟨⟨h1, _⟩, h4⟩, hv, hk => by
    have h := hk e rfl
    rw [h1] at h
    injection h with h
    have hs := text_inj (hv s (by simp)) ht (bs_inj h)
    subst hs
    simp only [List.modify_zero_cons]
    exact ⟨⟨rfl, A, cap, rfl, hl⟩, h4⟩
  | e :: es, s :: S, j + 1, ⟨h1, h4⟩, hv, hk => by
    simp only [List.modify_succ_cons]
    exact ⟨h1, Ents.modify ht hl j h4 (fun x hx => hv x (by simp [hx])) (fun e he => hk e (by simpa using he))⟩

/-- Block r of w is a map that holds those terms. -/
def MapT (w : World) (I : Im) (r : Nat) (S : List T) : Prop := (∃ es clock, w.heap[r]? = some (.map es clock) ∧ Ents I es.toList S ∧ Stamped es clock) ∧ ∀ x ∈ S, valid x = true
theorem MapT.lt {w : World} {I : Im} {r : Nat} {S : List T} (h : MapT w I r S) : r < w.heap.size := by
  obtain ⟨⟨es, c, h1, _⟩, _⟩ := h
  exact (Array.getElem?_eq_some_iff.1 h1).1
theorem MapT.grow {w w' : World} {I : Im} {r : Nat} {S : List T} (h : MapT w I r S) (hb : Below w.heap.size w w') : MapT w' I r S := by
  have hl := h.lt
  obtain ⟨⟨es, c, h1, h2⟩, h3⟩ := h
  exact ⟨⟨es, c, (hb.block r hl).trans h1, h2⟩, h3⟩
theorem MapT.mono {w : World} {I J : Im} {r : Nat} {S : List T} (h : MapT w I r S) (hI : I.le J) : MapT w J r S := by
  obtain ⟨⟨es, c, h1, h2, h4⟩, h3⟩ := h
  exact ⟨⟨es, c, h1, h2.mono hI, h4⟩, h3⟩
theorem MapT.look {w : World} {I : Im} {r : Nat} {S : List T} (h : MapT w I r S) {t : T} (ht : valid t = true) : ∃ k n A len cap, (Instr.lookup 57 (.map (some r)) (.string (bs (text t))) true).run Tryd.prog w = .ok (.tuple #[.agg #[.int .i64 k, .int .i64 n, .slice A len cap], .bool (decide (t ∈ S))]) w := by
  obtain ⟨⟨es, c, h1, h2, h4⟩, h3⟩ := h
  have hm' : Tryd.prog.underlying 57 = some (.map 9 24) := Tryd.underlying57
  have hd : Tryd.prog.underlying 9 = some .string := Tryd.underlying9
  by_cases hs : t ∈ S
  · obtain ⟨j, e, A, cap, g1, g2, g3, g4, g5⟩ := h2.find_hit ht 0 h3 hs
    refine ⟨t.k, t.n, A, t.l.length, cap, ?_⟩
    rw [decide_eq_true hs, ← g4]
    exact look_hit hm' hd h1 (by trivial) g1 true
  · refine ⟨0, 0, none, 0, 0, ?_⟩
    rw [decide_eq_false hs]
    exact look_miss hm' hd h1 (by trivial) (Tryd.zeroValue24 _) (h2.find_miss ht 0 h3 hs) true
theorem MapT.made (w : World) (I : Im) : MapT (w.alloc (.map #[] 0)) I w.heap.size [] :=
  ⟨⟨#[], 0, (heap_alloc w _).1, trivial, stamped_empty 0⟩, fun x hx => by cases hx⟩
/-- s[Text(t)] = t. -/
theorem MapT.put {w : World} {I : Im} {r : Nat} {S : List T} (h : MapT w I r S) {t : T} (ht : valid t = true) {A : Option Addr} {cap : Nat} (hl : SL I t.l A cap) :
    ∃ w', (Instr.mapUpdate 57 (.map (some r)) (.string (bs (text t))) (.agg #[.int .i64 t.k, .int .i64 t.n, .slice A t.l.length cap])).run Tryd.prog w = .ok () w' ∧ MapT w' I r (if t ∈ S then S else S ++ [t]) ∧ w.grownBy w' (some r) := by
  obtain ⟨⟨es, c, h1, h2, h4⟩, h3⟩ := h
  have hm' : Tryd.prog.underlying 57 = some (.map 9 24) := Tryd.underlying57
  have hd : Tryd.prog.underlying 9 = some .string := Tryd.underlying9
  have hg : ∀ o, w.grownBy { w with heap := w.heap.setIfInBounds r o } (some r) := fun o =>
    ⟨rfl, rfl, rfl, by simp, fun k hk hne => by
      have : r ≠ k := fun e => hne (by rw [e])
      simp [this]⟩
  by_cases hs : t ∈ S
  · obtain ⟨j, e, A', cap', g1, g2, g3, g4, g5⟩ := h2.find_hit ht 0 h3 hs
    have hj : es[j]? = some e := by simpa using g2
    rw [Nat.zero_add] at g1
    have hkey : ∀ e', es[j]? = some e' → ({ e' with key := .string (bs (text t)), val := .agg #[.int .i64 t.k, .int .i64 t.n, .slice A t.l.length cap] } : MapEntry).key = e'.key := fun e' he' => by rw [hj] at he'; cases he'; exact g3.symm
    refine ⟨{ w with heap := w.heap.setIfInBounds r (.map (es.modify j fun e => { e with key := .string (bs (text t)), val := .agg #[.int .i64 t.k, .int .i64 t.n, .slice A t.l.length cap] }) c) }, ?_, ?_, hg _⟩
    · simp only [Instr.mapUpdate, Sem.run_bind, run_underlying hm', MapKept.run_getObj_map h1, run_checkKey hd (show MapKept.IsKey .string (.string (bs (text t))) from trivial), run_findKey hd g1, Result.andThen, hj, Option.map_some, Option.getD_some, g3, run_keyThatStays (show MapKept.IsKey .string (.string (bs (text t))) from trivial), MapKept.run_setObj_map _ h1]
    · rw [if_pos hs]
      refine ⟨⟨_, c, (heap_set h1).1, ?_, stamped_modify h4 _ _ (fun _ _ => rfl) (fun e' _ he' => hkey e' he')⟩, h3⟩
      rw [Array.toList_modify]
      exact h2.modify ht hl j h3 (fun e' he' => by rw [g2] at he'; cases he'; exact g3)
  · have g1 := h2.find_miss ht 0 h3 hs
    refine ⟨{ w with heap := w.heap.setIfInBounds r (.map (es.push { key := .string (bs (text t)), val := .agg #[.int .i64 t.k, .int .i64 t.n, .slice A t.l.length cap], born := c }) (c + 1)) }, ?_, ?_, hg _⟩
    · simp only [Instr.mapUpdate, Sem.run_bind, run_underlying hm', MapKept.run_getObj_map h1, run_checkKey hd (show MapKept.IsKey .string (.string (bs (text t))) from trivial), run_findKey hd g1, Result.andThen, MapKept.run_setObj_map _ h1]
    · rw [if_neg hs]
      refine ⟨⟨_, c + 1, (heap_set h1).1, ?_, stamped_push h4 (h2.fresh ht h3 hs)⟩, fun x hx => ?_⟩
      · rw [Array.toList_push]
        exact h2.snoc ⟨rfl, A, cap, rfl, hl⟩
      · rcases List.mem_append.1 hx with hx | hx
        · exact h3 x hx
        · simp at hx; subst hx; exact ht
end Go.Proofs.YthfcaiipcdibbaaDoor
