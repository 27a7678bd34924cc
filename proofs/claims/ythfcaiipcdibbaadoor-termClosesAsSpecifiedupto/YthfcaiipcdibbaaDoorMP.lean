import Derived.Test.YthfcaiipcdibbaaDoorMO
import Derived.Test.YthfcaiipcdibbaaDoorME
/- Terms and slices in a world that only grows: no ghost list of blocks. -/
set_option linter.unusedSimpArgs false
set_option linter.unusedVariables false
namespace Tm
open Go Go.RowKit
/-- All blocks of cells of the world. -/
def imOf (w : World) : Im := fun b => match w.heap[b]? with | some (.cells c t _) => some (c, t) | _ => none
theorem mod_imOf (w : World) : Mod w (imOf w) := by
  intro b c t h
  unfold imOf at h
  split at h
  · rename_i c' t' fr hh; cases h; exact ⟨fr, hh⟩
  · cases h
theorem le_imOf {w : World} {I : Im} (h : Mod w I) : I.le (imOf w) := by
  rintro b ⟨c, t⟩ hb
  obtain ⟨fr, hf⟩ := h b c t hb
  unfold imOf; rw [hf]
theorem imOf_le {w w' : World} (h : Below w.heap.size w w') : (imOf w).le (imOf w') := le_imOf ((mod_imOf w).grow h)
def SWt (w : World) (l : List T) (A : Option Addr) (cap : Nat) : Prop := SL (imOf w) l A cap
theorem SWt.grow {w w' : World} {l : List T} {A : Option Addr} {cap : Nat} (h : SWt w l A cap) (hb : Below w.heap.size w w') : SWt w' l A cap := SL.mono (imOf_le hb) h
theorem SWt.alloc {w : World} {l : List T} {A : Option Addr} {cap : Nat} (h : SWt w l A cap) (o : Obj) : SWt (w.alloc o) l A cap := h.grow ((Below.refl _ _).alloc (Nat.le_refl _) o)
theorem SWt.drew {w : World} {l : List T} {A : Option Addr} {cap : Nat} (h : SWt w l A cap) : SWt w.drew l A cap := h.grow (Below.refl _ _).drew
theorem SWt.nil (w : World) : SWt w [] none 0 := SL.nil _
theorem SWt.of {w : World} {I : Im} {l : List T} {A : Option Addr} {cap : Nat} (hm : Mod w I) (h : SL I l A cap) : SWt w l A cap := SL.mono (le_imOf hm) h
theorem sw_build {w : World} {l : List T} {xs : List Value} {ty : TypeId} (h : RepC (imOf w) l xs) (hn : l.length ≤ 9223372036854775807) : SWt (w.alloc (.cells xs.toArray ty)) l (some ⟨w.heap.size, 0, none⟩) l.length := by
  refine ⟨Nat.le_refl _, hn, h.repL (imOf_le ((Below.refl _ _).alloc (Nat.le_refl _) _)) fun i v hi => ?_⟩
  have e := heap_alloc_new w (.cells xs.toArray ty)
  unfold Im.at imOf
  rw [e]
  simpa using hi
/-- The cells of a list, one term more in front. -/
theorem repC_cons {w : World} {t : T} {A : Option Addr} {cap : Nat} {l : List T} {xs : List Value} (h : SWt w t.l A cap) (hl : RepC (imOf w) l xs) : RepC (imOf w) (t :: l) (.int .i64 t.k :: .int .i64 t.n :: .slice A t.l.length cap :: xs) := ⟨_, xs, rfl, SL.rep h, hl⟩
theorem repC_nil {w : World} : RepC (imOf w) [] [] := rfl
theorem RetL.sw {I : Im} {w w' : World} {r : List T} {e : Ending} (h : RetL I w r e w') : ∃ A cap, e = .returned (.slice A r.length cap) ∧ SWt w' r A cap ∧ Below w.heap.size w w' := by
  obtain ⟨J, A, cap, h1, h2, h3, h4, h5⟩ := h
  exact ⟨A, cap, h3, SWt.of h2 h4, h5⟩
end Tm
namespace Go.Proofs.YthfcaiipcdibbaaDoor
open Go.RowKit Tm Go.Shelf Go.MapKept
def RL (w : World) (r : List T) (e : Ending) (w' : World) : Prop := ∃ A cap, e = .returned (.slice A r.length cap) ∧ SWt w' r A cap ∧ Below w.heap.size w w'
theorem closeK {l : List T} {w : World} {A : Option Addr} {cap : Nat} (hl : SWt w l A cap) (hv : ∀ x ∈ l, valid x = true) (hs : sizes l ≤ 1000000) (ht : tab w) : Calls Tryd.prog 25 #[.slice A l.length cap] w (RL w (close l)) :=
  (termClose l _ w A cap (mod_imOf w) hl hv hs ht).mono fun _ _ h => h.sw
theorem refCloseK {l : List T} {w : World} {A : Option Addr} {cap : Nat} (hl : SWt w l A cap) (hv : ∀ x ∈ l, valid x = true) (hs : sizes l ≤ 1000000) : Calls Tryd.prog 26 #[.slice A l.length cap] w (RL w (close l)) :=
  (refClose l _ w A cap (mod_imOf w) hl hv hs).mono fun _ _ h => h.sw
theorem subK {t : T} {w : World} {A : Option Addr} {cap : Nat} (hl : SWt w t.l A cap) (hv : valid t = true) (hs : size t ≤ 1000000) (ht : tab w) : Calls Tryd.prog 23 #[.agg #[.int .i64 t.k, .int .i64 t.n, .slice A t.l.length cap]] w (RL w (subterms t)) :=
  (termSubterms t _ w A cap (mod_imOf w) hl hv hs ht).mono fun _ _ h => h.sw
theorem refSubK {t : T} {w : World} {A : Option Addr} {cap : Nat} (hl : SWt w t.l A cap) (hs : size t ≤ 1000000) : Calls Tryd.prog 24 #[.agg #[.int .i64 t.k, .int .i64 t.n, .slice A t.l.length cap]] w (RL w (subterms t)) :=
  (refSubterms t _ w A cap (mod_imOf w) hl hs).mono fun _ _ h => h.sw
theorem knowsK {l : List T} {t : T} {w : World} {A B : Option Addr} {cap cb : Nat} (hl : SWt w l A cap) (hb : SWt w t.l B cb) (hv : ∀ x ∈ l, valid x = true) (hs : sizes l ≤ 1000000) (hvt : valid t = true) (hst : size t ≤ 1000000) (ht : tab w) :
    Calls Tryd.prog 27 #[.slice A l.length cap, .agg #[.int .i64 t.k, .int .i64 t.n, .slice B t.l.length cb]] w fun e w' => e = .returned (.bool (knows l t)) ∧ Below w.heap.size w w' :=
  termKnows l t _ w A B cap cb (mod_imOf w) hl hb hv hs hvt hst ht
theorem refKnowsK {l : List T} {t : T} {w : World} {A B : Option Addr} {cap cb : Nat} (hl : SWt w l A cap) (hb : SWt w t.l B cb) (hv : ∀ x ∈ l, valid x = true) (hs : sizes l ≤ 1000000) :
    Calls Tryd.prog 28 #[.slice A l.length cap, .agg #[.int .i64 t.k, .int .i64 t.n, .slice B t.l.length cb]] w fun e w' => e = .returned (.bool (knows l t)) ∧ Below w.heap.size w w' :=
  refKnows l t _ w A B cap cb (mod_imOf w) hl hb hv hs
theorem sameK {l m : List T} {w : World} {A B : Option Addr} {cap cb : Nat} (hl : SWt w l A cap) (hb : SWt w m B cb) :
    Calls Tryd.prog 22 #[.slice A l.length cap, .slice B m.length cb] w fun e w' => e = .returned (.bool (decide (l = m))) ∧ Below w.heap.size w w' :=
  refSame l m _ w A B cap cb (mod_imOf w) hl hb
theorem hasK {l : List T} {t : T} {w : World} {A B : Option Addr} {cap cb : Nat} (hl : SWt w l A cap) (hb : SWt w t.l B cb) :
    Calls Tryd.prog 29 #[.slice A l.length cap, .agg #[.int .i64 t.k, .int .i64 t.n, .slice B t.l.length cb]] w fun e w' => e = .returned (.bool (has l t)) ∧ Below w.heap.size w w' :=
  refHas l t _ w A B cap cb (mod_imOf w) hl hb
theorem putK {l : List T} {t : T} {w : World} {A B : Option Addr} {cap cb : Nat} (hl : SWt w l A cap) (hb : SWt w t.l B cb) (hlen : l.length ≤ 1000000000) :
    Calls Tryd.prog 31 #[.slice A l.length cap, .agg #[.int .i64 t.k, .int .i64 t.n, .slice B t.l.length cb]] w (RL w (put l t)) :=
  (refPut l t _ w A B cap cb (mod_imOf w) hl hb hlen).mono fun _ _ h => h.sw
theorem sealK {a b : T} {w : World} {A B : Option Addr} {ca cb : Nat} (ha : SWt w a.l A ca) (hb : SWt w b.l B cb) :
    Calls Tryd.prog 32 #[.agg #[.int .i64 a.k, .int .i64 a.n, .slice A a.l.length ca], .agg #[.int .i64 b.k, .int .i64 b.n, .slice B b.l.length cb]] w fun e w' => ∃ C cc, e = .returned (.agg #[.int .i64 3, .int .i64 0, .slice C 2 cc]) ∧ SWt w' [a, b] C cc ∧ Below w.heap.size w w' := by
  refine (sealCall a b _ w A B ca cb (mod_imOf w) ha hb).mono ?_
  rintro e w' ⟨J, C, cc, h1, h2, rfl, h4, h5⟩
  exact ⟨C, cc, rfl, SWt.of h2 h4, h5⟩
theorem fewK {l : List T} {t : T} {w : World} {A B : Option Addr} {cap cb : Nat} (hl : SWt w l A cap) (hb : SWt w t.l B cb) (hs : sizes l + size t ≤ 1099511627776) :
    Calls Tryd.prog 12 #[.slice A l.length cap, .agg #[.int .i64 t.k, .int .i64 t.n, .slice B t.l.length cb]] w fun e w' => e = .returned (.bool (small (l ++ [t]))) ∧ Below w.heap.size w w' :=
  fewCall l t _ w A B cap cb (mod_imOf w) hl hb hs
/-- The terms of the examples. -/
def kt (n : Int) : T := .mk 2 n []
def dt : T := .mk 1 0 []
def sa : T := .mk 3 0 [kt 1, kt 2]
def sb : T := .mk 3 0 [kt 2, dt]
def sc : T := .mk 5 2 [kt 1]
def sx : T := .mk 4 3 [kt 1, dt]
def ss : T := .mk 3 0 [sc, kt 2]
theorem san1 : close [sa, sb] = [sa, sb] := by decide
theorem san2 : close [sa, sb, kt 1] = [dt, kt 1, kt 2, sa, sb] := by decide
theorem san3 : knows [kt 1] sc = true := by decide
theorem san4 : knows [kt 1] (kt 2) = false := by decide
theorem san5 : knows [ss, kt 1] (kt 2) = true := by decide
theorem san6 : text sx = [98, 111, 120, 51, 40, 107, 49, 44, 100, 48, 41] := by
  have h3 : dig 3 = [51] := by unfold dig; rw [show ((3 : Int).toNat) = 3 from rfl, Go.Lib.decDigits]; rfl
  have h1 : dig 1 = [49] := by unfold dig; rw [show ((1 : Int).toNat) = 1 from rfl, Go.Lib.decDigits]; rfl
  have h0 : dig 0 = [48] := by unfold dig; rw [show ((0 : Int).toNat) = 0 from rfl, Go.Lib.decDigits]; rfl
  unfold sx kt dt
  rw [text_box, text_key, text_data, h3, h1, h0]; rfl
theorem san7 : size sx = 3 := by decide
theorem san8 : valid sx = true := by decide
theorem san9 : cmp sa sb = -1 := by decide
theorem san10 : (subterms sa).length = 3 := by decide
end Go.Proofs.YthfcaiipcdibbaaDoor

/- The examples: sanity. -/
set_option linter.unusedSimpArgs false
set_option linter.unusedVariables false
namespace Go.Proofs.YthfcaiipcdibbaaDoor
open Go.RowKit Tm Go.Shelf Go.MapKept

/-- A variable's block holds a term. -/
structure TB (w : World) (X : Nat) (t : T) (A : Option Addr) (cap : Nat) : Prop where
  b : w.heap[X]? = some (.cells #[.int .i64 t.k, .int .i64 t.n, .slice A t.l.length cap] 24 (0, 0))
  s : SWt w t.l A cap
theorem TB.grow {w w' : World} {X : Nat} {t : T} {A : Option Addr} {cap : Nat} (h : TB w X t A cap) (hb : Below w.heap.size w w') : TB w' X t A cap := ⟨(hb.block X (Array.getElem?_eq_some_iff.1 h.b).1).trans h.b, h.s.grow hb⟩
theorem TB.make {w : World} {t : T} {A : Option Addr} {cap : Nat} (h : SWt w t.l A cap) : TB (w.alloc (.cells #[.int .i64 t.k, .int .i64 t.n, .slice A t.l.length cap] 24)) w.heap.size t A cap := ⟨heap_alloc_new w _, h.alloc _⟩
theorem TB.cells {w : World} {X : Nat} {t : T} {A : Option Addr} {cap : Nat} (h : TB w X t A cap) : w.cell? ⟨X, 0, none⟩ = some (.int .i64 t.k) ∧ w.cell? ⟨X, 1, none⟩ = some (.int .i64 t.n) ∧ w.cell? ⟨X, 2, none⟩ = some (.slice A t.l.length cap) := by
  obtain ⟨h0, h1, h2, _⟩ := xcells h.b
  exact ⟨h0, h1, h2⟩
theorem TB.at {w : World} {X : Nat} {t : T} {A : Option Addr} {cap : Nat} (h : TB w X t A cap) (V : World) (hV : Below w.heap.size w V) : V.cell? ⟨X, 0, none⟩ = some (.int .i64 t.k) ∧ V.cell? ⟨X, 1, none⟩ = some (.int .i64 t.n) ∧ V.cell? ⟨X, 2, none⟩ = some (.slice A t.l.length cap) := (h.grow hV).cells
theorem bk1 (W : World) : SWt (W.alloc (.cells #[.int .i64 2, .int .i64 1, .slice none 0 0] 24)) [kt 1] (some ⟨W.heap.size, 0, none⟩) 1 := sw_build (repC_cons (t := kt 1) (SWt.nil _) repC_nil) (by decide)
theorem bkd (W : World) : SWt (W.alloc (.cells #[.int .i64 2, .int .i64 1, .slice none 0 0, .int .i64 1, .int .i64 0, .slice none 0 0] 24)) [kt 1, dt] (some ⟨W.heap.size, 0, none⟩) 2 := sw_build (repC_cons (t := kt 1) (SWt.nil _) (repC_cons (t := dt) (SWt.nil _) repC_nil)) (by decide)
theorem bab {W : World} {A1 A2 : Option Addr} {c1 c2 : Nat} (h1 : SWt W sa.l A1 c1) (h2 : SWt W sb.l A2 c2) : SWt (W.alloc (.cells #[.int .i64 3, .int .i64 0, .slice A1 2 c1, .int .i64 3, .int .i64 0, .slice A2 2 c2] 24)) [sa, sb] (some ⟨W.heap.size, 0, none⟩) 2 := sw_build (repC_cons (t := sa) h1 (repC_cons (t := sb) h2 repC_nil)) (by decide)
theorem babk {W : World} {A1 A2 : Option Addr} {c1 c2 : Nat} (h1 : SWt W sa.l A1 c1) (h2 : SWt W sb.l A2 c2) : SWt (W.alloc (.cells #[.int .i64 3, .int .i64 0, .slice A1 2 c1, .int .i64 3, .int .i64 0, .slice A2 2 c2, .int .i64 2, .int .i64 1, .slice none 0 0] 24)) [sa, sb, kt 1] (some ⟨W.heap.size, 0, none⟩) 3 := sw_build (repC_cons (t := sa) h1 (repC_cons (t := sb) h2 (repC_cons (t := kt 1) (SWt.nil _) repC_nil))) (by decide)
theorem b5 {W : World} {A1 A2 : Option Addr} {c1 c2 : Nat} (h1 : SWt W sa.l A1 c1) (h2 : SWt W sb.l A2 c2) : SWt (W.alloc (.cells #[.int .i64 1, .int .i64 0, .slice none 0 0, .int .i64 2, .int .i64 1, .slice none 0 0, .int .i64 2, .int .i64 2, .slice none 0 0, .int .i64 3, .int .i64 0, .slice A1 2 c1, .int .i64 3, .int .i64 0, .slice A2 2 c2] 24)) [dt, kt 1, kt 2, sa, sb] (some ⟨W.heap.size, 0, none⟩) 5 :=
  sw_build (repC_cons (t := dt) (SWt.nil _) (repC_cons (t := kt 1) (SWt.nil _) (repC_cons (t := kt 2) (SWt.nil _) (repC_cons (t := sa) h1 (repC_cons (t := sb) h2 repC_nil))))) (by decide)
theorem bsk {W : World} {C : Option Addr} {cc : Nat} (h1 : SWt W ss.l C cc) : SWt (W.alloc (.cells #[.int .i64 3, .int .i64 0, .slice C 2 cc, .int .i64 2, .int .i64 1, .slice none 0 0] 24)) [ss, kt 1] (some ⟨W.heap.size, 0, none⟩) 2 := sw_build (repC_cons (t := ss) h1 (repC_cons (t := kt 1) (SWt.nil _) repC_nil)) (by decide)
theorem close2 {w : World} {A : Option Addr} {cap : Nat} (hl : SWt w [sa, sb] A cap) (ht : tab w) : Calls Tryd.prog 25 #[.slice A 2 cap] w fun e w' => ∃ A' c', e = .returned (.slice A' 2 c') ∧ SWt w' [sa, sb] A' c' ∧ Below w.heap.size w w' := by
  refine (closeK hl (by decide) (by decide) ht).mono ?_
  rintro e w' ⟨A', c', rfl, h1, h2⟩
  rw [san1] at h1 ⊢
  exact ⟨A', c', rfl, h1, h2⟩
theorem close3 {w : World} {A : Option Addr} {cap : Nat} (hl : SWt w [sa, sb, kt 1] A cap) (ht : tab w) : Calls Tryd.prog 25 #[.slice A 3 cap] w fun e w' => ∃ A' c', e = .returned (.slice A' 5 c') ∧ SWt w' [dt, kt 1, kt 2, sa, sb] A' c' ∧ Below w.heap.size w w' := by
  refine (closeK hl (by decide) (by decide) ht).mono ?_
  rintro e w' ⟨A', c', rfl, h1, h2⟩
  rw [san2] at h1 ⊢
  exact ⟨A', c', rfl, h1, h2⟩

theorem sw_block {w : World} {b : Nat} {l : List T} {xs : List Value} {ty : TypeId} {fr : Nat × Nat} (hb : w.heap[b]? = some (.cells xs.toArray ty fr)) (h : RepC (imOf w) l xs) (hn : l.length ≤ 9223372036854775807) : SWt w l (some ⟨b, 0, none⟩) l.length := by
  refine ⟨Nat.le_refl _, hn, h.repL (Im.le.refl _) fun i v hi => ?_⟩
  unfold Im.at imOf
  rw [hb]
  simpa using hi
section
variable {wq V : World} {A1 A2 A3 A4 B : Option Addr} {c1 c2 c3 c4 cb : Nat}
theorem sanS1 {b : Nat} (hs : SWt V [sa, sb] B cb) (h1 : SWt V sa.l A1 c1) (h2 : SWt V sb.l A2 c2) (hV : Below wq.heap.size wq V) (hb : V.heap[b]? = some (.cells #[.int .i64 3, .int .i64 0, .slice A1 2 c1, .int .i64 3, .int .i64 0, .slice A2 2 c2] 24)) : Calls Tryd.prog 22 #[.slice B 2 cb, .slice (some ⟨b, 0, none⟩) 2 2] V fun e w' => e = .returned (.bool true) ∧ Below wq.heap.size wq w' := by
  refine (sameK hs (sw_block hb (repC_cons (t := sa) h1 (repC_cons (t := sb) h2 repC_nil)) (by decide))).mono ?_
  rintro e w' ⟨rfl, hb⟩
  exact ⟨rfl, hV.trans (hb.mono hV.size)⟩
theorem sanS2 {b : Nat} (hs : SWt V [dt, kt 1, kt 2, sa, sb] B cb) (h1 : SWt V sa.l A1 c1) (h2 : SWt V sb.l A2 c2) (hV : Below wq.heap.size wq V) (hb : V.heap[b]? = some (.cells #[.int .i64 1, .int .i64 0, .slice none 0 0, .int .i64 2, .int .i64 1, .slice none 0 0, .int .i64 2, .int .i64 2, .slice none 0 0, .int .i64 3, .int .i64 0, .slice A1 2 c1, .int .i64 3, .int .i64 0, .slice A2 2 c2] 24)) : Calls Tryd.prog 22 #[.slice B 5 cb, .slice (some ⟨b, 0, none⟩) 5 5] V fun e w' => e = .returned (.bool true) ∧ Below wq.heap.size wq w' := by
  refine (sameK hs (sw_block hb (repC_cons (t := dt) (SWt.nil _) (repC_cons (t := kt 1) (SWt.nil _) (repC_cons (t := kt 2) (SWt.nil _) (repC_cons (t := sa) h1 (repC_cons (t := sb) h2 repC_nil))))) (by decide))).mono ?_
  rintro e w' ⟨rfl, hb⟩
  exact ⟨rfl, hV.trans (hb.mono hV.size)⟩
def SanM (w : World) (s6 : Value) (wx : World) : Prop := ∃ A c, s6 = .slice A 5 c ∧ SWt wx [dt, kt 1, kt 2, sa, sb] A c ∧ Below w.heap.size w wx
theorem sanClose3 {b : Nat} (h1 : SWt V sa.l A1 c1) (h2 : SWt V sb.l A2 c2) (ht : tab V) (hV : Below wq.heap.size wq V) (hb : V.heap[b]? = some (.cells #[.int .i64 3, .int .i64 0, .slice A1 2 c1, .int .i64 3, .int .i64 0, .slice A2 2 c2, .int .i64 2, .int .i64 1, .slice none 0 0] 24)) : Calls Tryd.prog 25 #[.slice (some ⟨b, 0, none⟩) 3 3] V fun e w' => ∃ A c, e = .returned (.slice A 5 c) ∧ SWt w' [dt, kt 1, kt 2, sa, sb] A c ∧ Below wq.heap.size wq w' := by
  refine (close3 (sw_block hb (repC_cons (t := sa) h1 (repC_cons (t := sb) h2 (repC_cons (t := kt 1) (SWt.nil _) repC_nil))) (by decide)) ht).mono ?_
  rintro e w' ⟨A, c, rfl, hs, hb⟩
  exact ⟨A, c, rfl, hs, hV.trans (hb.mono hV.size)⟩
theorem sanK1 {b : Nat} (h3 : SWt V sc.l A3 c3) (ht : tab V) (hV : Below wq.heap.size wq V) (hb : V.heap[b]? = some (.cells #[.int .i64 2, .int .i64 1, .slice none 0 0] 24)) : Calls Tryd.prog 27 #[.slice (some ⟨b, 0, none⟩) 1 1, .agg #[.int .i64 5, .int .i64 2, .slice A3 1 c3]] V fun e w' => e = .returned (.bool true) ∧ Below wq.heap.size wq w' := by
  refine (knowsK (t := sc) (sw_block hb (repC_cons (t := kt 1) (SWt.nil _) repC_nil) (by decide)) h3 (by decide) (by decide) (by decide) (by decide) ht).mono ?_
  rintro e w' ⟨rfl, hb⟩
  exact ⟨by rw [san3], hV.trans (hb.mono hV.size)⟩
theorem sanK2 {b : Nat} (ht : tab V) (hV : Below wq.heap.size wq V) (hb : V.heap[b]? = some (.cells #[.int .i64 2, .int .i64 1, .slice none 0 0] 24)) : Calls Tryd.prog 27 #[.slice (some ⟨b, 0, none⟩) 1 1, .agg #[.int .i64 2, .int .i64 2, .slice none 0 0]] V fun e w' => e = .returned (.bool false) ∧ Below wq.heap.size wq w' := by
  refine (knowsK (t := kt 2) (sw_block hb (repC_cons (t := kt 1) (SWt.nil _) repC_nil) (by decide)) (SWt.nil _) (by decide) (by decide) (by decide) (by decide) ht).mono ?_
  rintro e w' ⟨rfl, hb⟩
  exact ⟨by rw [san4], hV.trans (hb.mono hV.size)⟩
theorem sanK3 {b : Nat} (ht : tab V) (hV : Below wq.heap.size wq V) (h : SWt V ss.l A1 c1) (hb : V.heap[b]? = some (.cells #[.int .i64 3, .int .i64 0, .slice A1 2 c1, .int .i64 2, .int .i64 1, .slice none 0 0] 24)) : Calls Tryd.prog 27 #[.slice (some ⟨b, 0, none⟩) 2 2, .agg #[.int .i64 2, .int .i64 2, .slice none 0 0]] V fun e w' => e = .returned (.bool true) ∧ Below wq.heap.size wq w' := by
  refine (knowsK (t := kt 2) (sw_block hb (repC_cons (t := ss) h (repC_cons (t := kt 1) (SWt.nil _) repC_nil)) (by decide)) (SWt.nil _) (by decide) (by decide) (by decide) (by decide) ht).mono ?_
  rintro e w' ⟨rfl, hb⟩
  exact ⟨by rw [san5], hV.trans (hb.mono hV.size)⟩
theorem sanSeal (h3 : SWt V sc.l A3 c3) (hV : Below wq.heap.size wq V) : Calls Tryd.prog 32 #[.agg #[.int .i64 5, .int .i64 2, .slice A3 1 c3], .agg #[.int .i64 2, .int .i64 2, .slice none 0 0]] V fun e w' => ∃ C cc, e = .returned (.agg #[.int .i64 3, .int .i64 0, .slice C 2 cc]) ∧ SWt w' ss.l C cc ∧ Below wq.heap.size wq w' := by
  refine (sealK (a := sc) (b := kt 2) h3 (SWt.nil _)).mono ?_
  rintro e w' ⟨C, cc, rfl, hs, hb⟩
  exact ⟨C, cc, rfl, hs, hV.trans (hb.mono hV.size)⟩
theorem sanText (h4 : SWt V sx.l A4 c4) (ht : tab V) (hV : Below wq.heap.size wq V) : Calls Tryd.prog 20 #[.agg #[.int .i64 4, .int .i64 3, .slice A4 2 c4]] V fun e w' => e = .returned (.string ⟨#[98, 111, 120, 51, 40, 107, 49, 44, 100, 48, 41]⟩) ∧ Below wq.heap.size wq w' := by
  refine (termText sx _ V A4 c4 (mod_imOf V) h4 (by decide) (by decide) ht).mono ?_
  rintro e w' ⟨rfl, hb⟩
  exact ⟨by rw [san6]; rfl, hV.trans (hb.mono hV.size)⟩
theorem sanSize (h4 : SWt V sx.l A4 c4) (hV : Below wq.heap.size wq V) : Calls Tryd.prog 14 #[.agg #[.int .i64 4, .int .i64 3, .slice A4 2 c4]] V fun e w' => e = .returned (.int .i64 3) ∧ Below wq.heap.size wq w' := by
  refine (termSize sx _ V A4 c4 (mod_imOf V) h4 (by decide)).mono ?_
  rintro e w' ⟨rfl, hb⟩
  exact ⟨rfl, hV.trans (hb.mono hV.size)⟩
theorem sanValid (h4 : SWt V sx.l A4 c4) (hV : Below wq.heap.size wq V) : Calls Tryd.prog 10 #[.agg #[.int .i64 4, .int .i64 3, .slice A4 2 c4]] V fun e w' => e = .returned (.bool true) ∧ Below wq.heap.size wq w' := by
  refine (termValid sx _ V A4 c4 (mod_imOf V) h4).mono ?_
  rintro e w' ⟨rfl, hb⟩
  exact ⟨by rw [san8], hV.trans (hb.mono hV.size)⟩
theorem sanIs3 (hV : Below wq.heap.size wq V) : Calls Tryd.prog 18 #[.agg #[.int .i64 5, .int .i64 2, .slice A3 1 c3]] V fun e w' => e = .returned (.bool true) ∧ Below wq.heap.size wq w' := by
  refine (termIsKey sc V A3 c3).mono ?_
  rintro e w' ⟨rfl, hb⟩
  exact ⟨rfl, hV.trans (hb.mono hV.size)⟩
theorem sanIs4 (hV : Below wq.heap.size wq V) : Calls Tryd.prog 18 #[.agg #[.int .i64 4, .int .i64 3, .slice A4 2 c4]] V fun e w' => e = .returned (.bool false) ∧ Below wq.heap.size wq w' := by
  refine (termIsKey sx V A4 c4).mono ?_
  rintro e w' ⟨rfl, hb⟩
  exact ⟨rfl, hV.trans (hb.mono hV.size)⟩
theorem sanCmp (h1 : SWt V sa.l A1 c1) (h2 : SWt V sb.l A2 c2) (hV : Below wq.heap.size wq V) : Calls Tryd.prog 16 #[.agg #[.int .i64 3, .int .i64 0, .slice A1 2 c1], .agg #[.int .i64 3, .int .i64 0, .slice A2 2 c2]] V fun e w' => e = .returned (.int .i64 (-1)) ∧ Below wq.heap.size wq w' := by
  refine (termCompare sa sb _ V A1 A2 c1 c2 (mod_imOf V) h1 h2).mono ?_
  rintro e w' ⟨rfl, hb⟩
  exact ⟨by rw [san9], hV.trans (hb.mono hV.size)⟩
theorem sanSub (h1 : SWt V sa.l A1 c1) (ht : tab V) (hV : Below wq.heap.size wq V) : Calls Tryd.prog 23 #[.agg #[.int .i64 3, .int .i64 0, .slice A1 2 c1]] V fun e w' => ∃ A c, e = .returned (.slice A 3 c) ∧ Below wq.heap.size wq w' := by
  refine (subK (t := sa) h1 (by decide) (by decide) ht).mono ?_
  rintro e w' ⟨A, c, rfl, _, hb⟩
  rw [san10]
  exact ⟨A, c, rfl, hV.trans (hb.mono hV.size)⟩
end
end Go.Proofs.YthfcaiipcdibbaaDoor
