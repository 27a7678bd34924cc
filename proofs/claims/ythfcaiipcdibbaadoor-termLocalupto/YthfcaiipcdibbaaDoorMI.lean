import Derived.Test.YthfcaiipcdibbaaDoorMH
/- built. -/
set_option linter.unusedSimpArgs false
set_option linter.unusedVariables false
namespace Go.Proofs.YthfcaiipcdibbaaDoor
open Go.RowKit Tm Go.Shelf

theorem MapT.look2 {w : World} {I : Im} {r : Nat} {S : List T} (h : MapT w I r S) {t : T} (ht : valid t = true) : ∃ k n A len cap, ∀ W, Below w.heap.size w W → (Instr.lookup 57 (.map (some r)) (.string (bs (text t))) true).run Tryd.prog W = .ok (.tuple #[.agg #[.int .i64 k, .int .i64 n, .slice A len cap], .bool (decide (t ∈ S))]) W := by
  have hlt := h.lt
  obtain ⟨⟨es, c, h1, h2, h4⟩, h3⟩ := h
  have hm' : Tryd.prog.underlying 57 = some (.map 9 24) := Tryd.underlying57
  have hd : Tryd.prog.underlying 9 = some .string := Tryd.underlying9
  by_cases hs : t ∈ S
  · obtain ⟨j, e, A, cap, g1, g2, g3, g4, g5⟩ := h2.find_hit ht 0 h3 hs
    refine ⟨t.k, t.n, A, t.l.length, cap, fun W hW => ?_⟩
    rw [decide_eq_true hs, ← g4]
    exact look_hit hm' hd ((hW.block r hlt).trans h1) (by trivial) g1 true
  · refine ⟨0, 0, none, 0, 0, fun W hW => ?_⟩
    rw [decide_eq_false hs]
    exact look_miss hm' hd ((hW.block r hlt).trans h1) (by trivial) (Tryd.zeroValue24 _) (h2.find_miss ht 0 h3 hs) true

theorem zcell {X w6 : World} {u0 u1 u2 : Value} {t : TypeId} {g : Nat} (hb : Below (X.alloc (.cells #[u0, u1, u2] t)).drew.heap.size (X.alloc (.cells #[u0, u1, u2] t)).drew w6) (hX : X.heap.size = g) :
    w6.cell? ⟨g, 0, none⟩ = some u0 ∧ w6.cell? ⟨g, 1, none⟩ = some u1 ∧ w6.cell? ⟨g, 2, none⟩ = some u2 ∧ w6.frozen? ⟨g, 0, none⟩ = false ∧ w6.frozen? ⟨g, 1, none⟩ = false ∧ w6.frozen? ⟨g, 2, none⟩ = false := by
  subst hX
  have e : w6.heap[X.heap.size]? = (X.alloc (.cells #[u0, u1, u2] t)).heap[X.heap.size]? := hb.block _ (by show X.heap.size < (X.alloc (.cells #[u0, u1, u2] t)).heap.size; simp)
  have hc : ∀ i, w6.cell? ⟨X.heap.size, i, none⟩ = (X.alloc (.cells #[u0, u1, u2] t)).cell? ⟨X.heap.size, i, none⟩ := fun i => World.cell?_of_block (a := ⟨X.heap.size, i, none⟩) e
  have hf : ∀ i, w6.frozen? ⟨X.heap.size, i, none⟩ = (X.alloc (.cells #[u0, u1, u2] t)).frozen? ⟨X.heap.size, i, none⟩ := fun i => World.frozen?_of_block (a := ⟨X.heap.size, i, none⟩) e
  simp only [hc, hf]
  exact ⟨World.cell?_alloc_new _ _ _ _, World.cell?_alloc_new _ _ _ _, World.cell?_alloc_new _ _ _ _, World.frozen?_alloc_new _ _ _ _, World.frozen?_alloc_new _ _ _ _, World.frozen?_alloc_new _ _ _ _⟩

/-- The call of Text within a statement that looks its result up in the set. -/
theorem textC (t : T) (w W0 : World) (h0 : Below w.heap.size w W0) (B : Nat) (hB : w.heap.size + 1 ≤ B ∧ B ≤ W0.heap.size) (v res : Value) (mr : Option Nat) {A : Option Addr} {cap : Nat}
    (hT : ∀ W, Below w.heap.size w W → Calls Tryd.prog 20 #[.agg #[.int .i64 t.k, .int .i64 t.n, .slice A t.l.length cap]] W fun e w' => e = .returned (.string (bs (text t))) ∧ Below W.heap.size W w')
    (hL : ∀ W, Below w.heap.size w W → (Instr.lookup 57 (.map mr) (.string (bs (text t))) true).run Tryd.prog W = .ok res W)
    (hc : W0.cell? ⟨w.heap.size, 0, none⟩ = some v) (W : World) (hW : Below B W0 W) :
    Calls Tryd.prog 20 #[.agg #[.int .i64 t.k, .int .i64 t.n, .slice A t.l.length cap]] W fun e w' => e = .returned (.string (bs (text t))) ∧ Below W.heap.size W w' ∧ Below B W0 w' ∧
      (Instr.lookup 57 (.map mr) (.string (bs (text t))) true).run Tryd.prog w' = .ok res w' ∧ (∀ o, (Instr.lookup 57 (.map mr) (.string (bs (text t))) true).run Tryd.prog (w'.alloc o) = .ok res (w'.alloc o)) ∧ w'.cell? ⟨w.heap.size, 0, none⟩ = some v ∧ (∀ o, (w'.alloc o).cell? ⟨w.heap.size, 0, none⟩ = some v) := by
  have hs := hW.size
  have h1 : Below w.heap.size w W := h0.trans (hW.mono (by omega))
  refine (hT W h1).mono ?_
  rintro e w' ⟨rfl, hb⟩
  have h2 : Below B W0 w' := hW.trans (hb.mono (by omega))
  have h3 : Below w.heap.size w w' := h0.trans (h2.mono (by omega))
  have h4 := (h2.cell (p := ⟨w.heap.size, 0, none⟩) (by simp; omega)).trans hc
  exact ⟨rfl, hb, h2, hL _ h3, fun o => hL _ (h3.alloc h3.size o), h4, fun o => (World.cell?_alloc_lt _ _ _ (World.block_lt_of_cell? _ _ h4)).trans h4⟩

theorem e62 : ∀ args w, (callFunc 62 args).run Tryd.prog w = .ok (.enter 62 args) w := enters_of (f := 62) Tryd.func62 (by kernel_rfl) rfl

def BHyp (S : List T) (t : T) : Prop := ∀ (I : Im) (w : World) (A : Option Addr) (cap r : Nat), Tm.Mod w I → SL I t.l A cap → MapT w I r S → valid t = true → size t ≤ 1000000 → tab w →
    Calls Tryd.prog 50 #[.map (some r), .agg #[.int .i64 t.k, .int .i64 t.n, .slice A t.l.length cap]] w fun e w' => e = .returned (.bool (built S t)) ∧ Below w.heap.size w w'

theorem built11 (S : List T) (x : T) (ih : BHyp S x) (I : Im) (w : World) (p r : Nat) (hm : Tm.Mod w I) (hS : MapT w I r S) (hp : w.cell? ⟨p, 0, none⟩ = some (.map (some r))) (hv : valid x = true) (hs : size x ≤ 1000000) (ht : tab w) : PredT 62 #[.pointer (some ⟨p, 0, none⟩)] (fun x => !built S x) I w x := by
  intro B cb W hB hW
  have hp' := (hW.cell (p := ⟨p, 0, none⟩) (World.block_lt_of_cell? _ _ hp)).trans hp
  have f1 := (World.cell?_alloc_lt W (.cells #[.int .i64 x.k, .int .i64 x.n, .slice B x.l.length cb] 24) _ (World.block_lt_of_cell? _ _ hp')).trans hp'
  have HC := Lib.hid (fun (W' : World) (hW' : Below W.heap.size W W') => ih I W' B cb r ((hm.grow hW).grow hW') hB ((hS.grow hW).grow hW') hv hs (tab_below (tab_below ht hW) hW'))
  clear ih hm hS hB hp hp' hv hs ht
  show Calls Tryd.prog 62 #[.agg #[.int .i64 x.k, .int .i64 x.n, .slice B x.l.length cb], .pointer (some ⟨p, 0, none⟩)] W _
  go_enter Tryd.func62, Tryd.ntmps62
  go_wp2_with (go_at_call 50; refine (HC.out _ ((Below.refl _ _).alloc (Nat.le_refl _) _)).mono ?_; rintro e w' ⟨rfl, hb'⟩)
  go_ret
  exact ⟨rfl, ((Below.refl _ _).alloc (Nat.le_refl _) _).trans (hb'.mono (by simp))⟩

theorem any_not_built (S l : List T) : l.any (fun x => !built S x) = !builts S l := by
  induction l with
  | nil => simp [builts]
  | cons a l ih => simp [builts, ih]

set_option maxHeartbeats 4000000 in
set_option maxRecDepth 100000 in
theorem termBuilt (S : List T) (t : T) : BHyp S t := by
  induction t using T.ind with
  | h k n l ih =>
  intro I w A cap r hm hl hS hv hs ht
  have hTX := Lib.hid (fun (W : World) (hW : Below w.heap.size w W) => termText (.mk k n l) I W A cap (hm.grow hW) hl hv hs (tab_below ht hW))
  obtain ⟨k1, n1, A1, len1, cap1, hq⟩ := hS.look2 hv
  have HLK := Lib.hid hq
  have hTC := Lib.hid (textC (.mk k n l) w ((w.alloc (.cells #[.map (some r)] 57)).alloc (.cells #[.int .i64 k, .int .i64 n, .slice A l.length cap] 24)) (((Below.refl _ _).alloc (Nat.le_refl _) _).alloc (by simp) _) (w.heap.size + 2) (by simp) (.map (some r)) _ _ hTX.out HLK.out (newcell2 (Below.refl _ _) 0).1)
  simp only [T.k_mk, T.n_mk, T.l_mk] at *
  have hc1 := hl.1
  have hc2 := hl.2.1
  have hvl : valids l = true := by simp only [valid, Bool.and_eq_true] at hv; exact hv.2
  have hsl : sizes l ≤ 1000000 := by simp only [size] at hs; omega
  have HP := Lib.hid (fun (W : World) (hW : Below w.heap.size w W) (p : Nat) (hp : W.cell? ⟨p, 0, none⟩ = some (.map (some r))) => containsFunc 62 #[.pointer (some ⟨p, 0, none⟩)] (fun x => !built S x) e62 l I W A cap (hm.grow hW) hl
    (fun x hx => built11 S x (ih x hx) I W p r (hm.grow hW) (hS.grow hW) hp (valids_iff.1 hvl x hx) (by have := size_le_sizes hx; omega) (tab_below ht hW)))
  clear hm hl hS hs ht hq hTX HLK ih hvl hsl
  go_enter Tryd.func50, Tryd.ntmps50
  go_upto_region 1 with fail
  go_cut [6] (fun s6 wx => s6 = .bool (decide (T.mk k n l ∈ S)) ∧ Below (w.heap.size + 2) ((w.alloc (.cells #[.map (some r)] 57)).alloc (.cells #[.int .i64 k, .int .i64 n, .slice A l.length cap] 24)) wx)
  case first =>
    clear HP
    have hd0 : (((w.alloc (.cells #[.map (some r)] 57)).alloc (.cells #[.int .i64 k, .int .i64 n, .slice A l.length cap] 24)).alloc (.cells #[.int .i64 0, .int .i64 0, .slice none 0 0] 24)).cell? ⟨w.heap.size, 0, none⟩ = some (.map (some r)) := (World.cell?_alloc_lt _ _ _ (by simp; omega)).trans (newcell2 (Below.refl _ _) 0).1
    go_region_with ((go_at_call 20; refine (hTC.out _ (by first | exact (Below.refl _ _).drew | exact ((Below.refl _ _).alloc (by simp) _).drew)).mono ?_; rintro e w6 ⟨rfl, hb6, hkp, hq1, hq2, hc0, hc1⟩; obtain ⟨z0, z1, z2, y0, y1, y2⟩ := zcell hb6 rfl; simp at z0 z1 z2 y0 y1 y2))
    all_goals (go_wp2_with fail; go_meet; first
      | exact ⟨rfl, hkp.alloc (size_of_below2 hkp) _⟩
      | exact ⟨rfl, (((hkp.setCell (Nat.le_refl _) _).setCell (Nat.le_refl _) _).setCell (Nat.le_refl _) _)⟩)
  case rest =>
    obtain ⟨rfl, hb⟩ := hcut
    have c0 := (newcell2 hb 0).1
    have d0 := (newcell2 hb 0).2
    have d2 := (newcell2 hb 2).2
    have hu := under2 hb
    have hPC := HP.out wc hu _ c0
    rw [any_not_built] at hPC
    have HC := Lib.hid hPC
    have HU := Lib.hid hu
    clear hTC HP hb hPC hu
    by_cases hin : T.mk k n l ∈ S
    · have fin : Hid (built S (.mk k n l) = true) := by unfold Hid; simp [built, has_iff.2 hin]
      rw [decide_eq_true hin]
      clear hin
      go_wp2
      go_ret
      exact ⟨by rw [fin.out]; rfl, HU.out⟩
    have hh : has S (.mk k n l) = false := by
      rw [Bool.eq_false_iff]; intro h; exact hin (has_iff.1 h)
    rw [decide_eq_false hin]
    clear hin
    by_cases hk : k = 1
    · have hkb : (k == 1) = true := by simpa using hk
      have fin : Hid (built S (.mk k n l) = true) := by unfold Hid; simp [built, hk]
      clear hk hh
      go_wp2
      go_ret
      exact ⟨by rw [fin.out]; rfl, HU.out⟩
    have hkb : (k == 1) = false := by simpa using hk
    by_cases hk2 : k = 2
    · have hkb2 : (k != 2) = false := by simpa using hk2
      have fin : Hid (built S (.mk k n l) = false) := by unfold Hid; subst hk2; simp [built, hh]
      clear hk hh hk2
      go_wp2
      go_ret
      exact ⟨by rw [fin.out]; rfl, HU.out⟩
    · have hkb2 : (k != 2) = true := by simpa using hk2
      have fin : Hid (built S (.mk k n l) = builts S l) := by unfold Hid; simp [built, hh, hk2, hk]
      clear hk hh hk2
      have hsz := HU.out.size
      go_wp2_with (go_at_call 35; refine HC.out.mono ?_; rintro e w' ⟨rfl, hb'⟩)
      go_ret
      exact ⟨by rw [fin.out]; rfl, HU.out.trans (hb'.mono hsz)⟩
end Go.Proofs.YthfcaiipcdibbaaDoor
