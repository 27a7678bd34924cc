import Derived.WalkKit
import Derived.Lib.Hide
import Derived.Deep.Draws
import Derived.Deep.Quiet
import Derived.Test.YthfcaiipcdibbaaDoorMA
import Derived.Maps.AppendAt
/- How terms lie in memory: a ghost list of blocks that nobody writes any more ('Im'), and what a value leads to there. -/
set_option linter.unusedSimpArgs false
set_option linter.unusedVariables false
namespace Tm
open Go Go.RowKit

/-- Blocks of cells that stay as they are: their cells and their elements' type. -/
abbrev Im := Nat → Option (Array Value × TypeId)
def Im.le (I J : Im) : Prop := ∀ b x, I b = some x → J b = some x
theorem Im.le.refl (I : Im) : I.le I := fun _ _ h => h
theorem Im.le.trans {I J K : Im} (h : I.le J) (k : J.le K) : I.le K := fun b x hb => k b x (h b x hb)
/-- The world holds them. -/
def Mod (w : World) (I : Im) : Prop := ∀ b c t, I b = some (c, t) → ∃ fr, w.heap[b]? = some (.cells c t fr)
def Im.at (I : Im) (b o : Nat) : Option Value := (I b).bind fun x => x.1[o]?
theorem Im.le.at {I J : Im} (h : I.le J) {b o : Nat} {v : Value} (hv : I.at b o = some v) : J.at b o = some v := by
  unfold Im.at at *
  cases hb : I b with
  | none => rw [hb] at hv; cases hv
  | some x => rw [h b x hb]; rw [hb] at hv; exact hv
theorem Mod.lt {w : World} {I : Im} (h : Mod w I) {b : Nat} {x : Array Value × TypeId} (hb : I b = some x) : b < w.heap.size := by
  obtain ⟨fr, hf⟩ := h b x.1 x.2 hb
  exact (Array.getElem?_eq_some_iff.1 hf).1
theorem Mod.cell {w : World} {I : Im} (h : Mod w I) {b o : Nat} {v : Value} (hv : I.at b o = some v) : w.cell? ⟨b, o, none⟩ = some v := by
  unfold Im.at at hv
  cases hb : I b with
  | none => rw [hb] at hv; cases hv
  | some x =>
    rw [hb] at hv
    obtain ⟨fr, hf⟩ := h b x.1 x.2 hb
    unfold World.cell?
    simp only [hf]
    exact hv
/-- What leaves those blocks alone. -/
theorem Mod.keep {w w' : World} {I : Im} (h : Mod w I) (hk : ∀ b x, I b = some x → w'.heap[b]? = w.heap[b]?) : Mod w' I := fun b c t hb => by
  rw [hk b _ hb]; exact h b c t hb
theorem Mod.below {w w' : World} {I : Im} (h : Mod w I) {B : Nat} (hb : Below B w w') (hB : ∀ b x, I b = some x → b < B) : Mod w' I :=
  h.keep fun b x hx => hb.block b (hB b x hx)
theorem Mod.grow {w w' : World} {I : Im} (h : Mod w I) (hb : Below w.heap.size w w') : Mod w' I := h.below hb fun _ _ hx => h.lt hx
theorem Mod.alloc {w : World} {I : Im} (h : Mod w I) (o : Obj) : Mod (w.alloc o) I := h.grow ((Below.refl _ _).alloc (Nat.le_refl _) o)
theorem Mod.drewN {w : World} {I : Im} (h : Mod w I) (n : Nat) : Mod (w.drewN n) I := h.keep fun _ _ _ => rfl
theorem Mod.drew {w : World} {I : Im} (h : Mod w I) : Mod w.drew I := h.keep fun _ _ _ => rfl
theorem Mod.setCell {w : World} {I : Im} (h : Mod w I) {p : Addr} (hp : I p.block = none) (v : Value) : Mod (w.setCell p v) I :=
  h.keep fun b x hx => Below.heap_setCell _ _ _ _ (fun e => by rw [e, hp] at hx; cases hx)
/-- One block more. -/
def Im.add (I : Im) (b : Nat) (c : Array Value) (t : TypeId) : Im := fun k => if k = b then some (c, t) else I k
theorem Im.le_add {I : Im} {b : Nat} (h : I b = none) (c : Array Value) (t : TypeId) : I.le (I.add b c t) := fun k x hx => by
  unfold Im.add
  rw [if_neg (fun e => by rw [e, h] at hx; cases hx)]; exact hx
theorem Mod.none_of_size {w : World} {I : Im} (h : Mod w I) {b : Nat} (hb : w.heap.size ≤ b) : I b = none := by
  cases hi : I b with
  | none => rfl
  | some x => have := h.lt hi; omega
theorem Mod.add {w : World} {I : Im} (h : Mod w I) {b : Nat} {c : Array Value} {t : TypeId} {fr : Nat × Nat} (hb : w.heap[b]? = some (.cells c t fr)) : Mod w (I.add b c t) := fun k c' t' hk => by
  unfold Im.add at hk
  split at hk
  · rename_i e; subst e; cases hk; exact ⟨fr, hb⟩
  · exact h k c' t' hk
theorem Im.add_at (I : Im) (b : Nat) (c : Array Value) (t : TypeId) (o : Nat) : (I.add b c t).at b o = c[o]? := by simp [Im.at, Im.add]

/-- A run of cells. -/
def Im.run (I : Im) (b o : Nat) (cs : List Value) : Prop := ∀ i v, cs[i]? = some v → I.at b (o + i) = some v
theorem Im.le.run {I J : Im} (h : I.le J) {b o : Nat} {cs : List Value} (hr : I.run b o cs) : J.run b o cs := fun i v hi => h.at (hr i v hi)

mutual
/-- The three cells of a term. -/
def RepT (I : Im) : T → List Value → Prop
  | .mk k n l, cs => ∃ A cap, cs = [.int .i64 k, .int .i64 n, .slice A l.length cap] ∧ l.length ≤ cap ∧ cap ≤ 9223372036854775807 ∧ RepL I l A
/-- The elements of a slice of terms. -/
def RepL (I : Im) : List T → Option Addr → Prop
  | [], _ => True
  | a :: l, A => ∃ b o, A = some ⟨b, o, none⟩ ∧ (∃ cs, RepT I a cs ∧ I.run b o cs) ∧ RepL I l (some ⟨b, o + 3, none⟩)
end
theorem RepT.length {I : Im} {t : T} {cs : List Value} (h : RepT I t cs) : cs.length = 3 := by
  obtain ⟨k, n, l⟩ := t
  simp only [RepT] at h
  obtain ⟨A, cap, rfl, _⟩ := h
  rfl
mutual
theorem RepT.mono {I J : Im} (h : I.le J) : ∀ {t : T} {cs : List Value}, RepT I t cs → RepT J t cs
  | .mk k n l, cs, hr => by
    simp only [RepT] at hr ⊢
    obtain ⟨A, cap, e, h1, h2, h3⟩ := hr
    exact ⟨A, cap, e, h1, h2, RepL.mono h h3⟩
theorem RepL.mono {I J : Im} (h : I.le J) : ∀ {l : List T} {A : Option Addr}, RepL I l A → RepL J l A
  | [], _, _ => by simp [RepL]
  | a :: l, A, hr => by
    simp only [RepL] at hr ⊢
    obtain ⟨b, o, e, ⟨cs, h1, h2⟩, h3⟩ := hr
    exact ⟨b, o, e, ⟨cs, RepT.mono h h1, h.run h2⟩, RepL.mono h h3⟩
end
/-- A slice of terms, as a value. -/
def RepS (I : Im) (l : List T) (v : Value) : Prop := ∃ A cap, v = .slice A l.length cap ∧ l.length ≤ cap ∧ cap ≤ 9223372036854775807 ∧ RepL I l A
theorem RepS.mono {I J : Im} (h : I.le J) {l : List T} {v : Value} (hr : RepS I l v) : RepS J l v := by
  obtain ⟨A, cap, e, h1, h2, h3⟩ := hr
  exact ⟨A, cap, e, h1, h2, h3.mono h⟩
/-- Element i of a slice of terms. -/
theorem RepL.elem {I : Im} : ∀ {l : List T} {A : Option Addr} (i : Nat) (hi : i < l.length), RepL I l A → ∃ b o, A = some ⟨b, o, none⟩ ∧ ∃ cs, RepT I l[i] cs ∧ I.run b (o + 3 * i) cs
  | a :: l, A, 0, _, h => by
    simp only [RepL] at h
    obtain ⟨b, o, e, ⟨cs, h1, h2⟩, _⟩ := h
    exact ⟨b, o, e, cs, h1, h2⟩
  | a :: l, A, i + 1, hi, h => by
    simp only [RepL] at h
    obtain ⟨b, o, e, _, h3⟩ := h
    obtain ⟨b', o', e', cs, h1, h2⟩ := RepL.elem i (by simpa using hi) h3
    cases e'
    exact ⟨b, o, e, cs, h1, by rw [show o + 3 * (i + 1) = o + 3 + 3 * i by omega]; exact h2⟩
/-- The cells of element i, as the walk asks for them. -/
theorem RepL.cells {w : World} {I : Im} (hm : Mod w I) {l : List T} {A : Option Addr} (h : RepL I l A) {i : Nat} (hi : i < l.length) :
    ∃ b o k n A' cap', A = some ⟨b, o, none⟩ ∧ l[i].l.length ≤ cap' ∧ cap' ≤ 9223372036854775807 ∧ RepT I l[i] [.int .i64 k, .int .i64 n, .slice A' l[i].l.length cap'] ∧ k = l[i].k ∧ n = l[i].n ∧ RepL I l[i].l A' ∧
      w.cell? ⟨b, o + i * 3, none⟩ = some (.int .i64 k) ∧ w.cell? ⟨b, o + i * 3 + 1, none⟩ = some (.int .i64 n) ∧ w.cell? ⟨b, o + i * 3 + 2, none⟩ = some (.slice A' l[i].l.length cap') := by
  obtain ⟨b, o, e, cs, h1, h2⟩ := h.elem i hi
  generalize ht : l[i] = t at h1 ⊢
  obtain ⟨k, n, m⟩ := t
  have h1' := h1
  simp only [RepT] at h1
  obtain ⟨A', cap', rfl, h3, h4, h5⟩ := h1
  refine ⟨b, o, k, n, A', cap', e, h3, h4, h1', rfl, rfl, h5, ?_, ?_, ?_⟩
  · rw [Nat.mul_comm]; exact hm.cell (h2 0 _ rfl)
  · rw [Nat.mul_comm]; exact hm.cell (h2 1 _ rfl)
  · rw [Nat.mul_comm]; exact hm.cell (h2 2 _ rfl)
theorem RepT.open {I : Im} {t : T} {cs : List Value} (h : RepT I t cs) : ∃ A cap, cs = [.int .i64 t.k, .int .i64 t.n, .slice A t.l.length cap] ∧ t.l.length ≤ cap ∧ cap ≤ 9223372036854775807 ∧ RepL I t.l A := by
  obtain ⟨k, n, l⟩ := t
  simp only [RepT] at h
  exact h
end Tm
namespace Tm
open Go Go.RowKit
/-- A later world: all that lay in w lies there as it did. -/
structure Later (w : World) where
  v : World
  h : Below w.heap.size w v
instance (w : World) : Inhabited (Later w) := ⟨⟨w, Below.refl _ _⟩⟩
theorem Later.cell {w : World} {b o : Nat} {x : Value} (h : w.cell? ⟨b, o, none⟩ = some x) (p : Later w) : p.v.cell? ⟨b, o, none⟩ = some x := by
  rw [p.h.cell (p := ⟨b, o, none⟩) (World.block_lt_of_cell? w _ h)]; exact h
theorem wp_region_later {P : Program} {id : Nat} {Q : Exit → Act → World → Prop} {a : Act} {w : World} {l : List Oper} (hm : P.follows .mixedOrders = true) (hB : Region.lexB .any l.toArray = true)
    (h : wpQuiet P l.toArray (fun w' => ∃ p : Later w, w' = p.v) (fun a' => ∀ w', (∃ p : Later w, w' = p.v) → Q .normal a' w') l a) : (Code.region id l.toArray true).wp P Q a w :=
  wp_region_quiet (C := fun w' => ∃ p : Later w, w' = p.v) hm hB ⟨⟨w.drew, (Below.refl _ _).drew⟩, rfl⟩ (by simpa using h)
theorem later_of {P : Program} {f : FuncId} {args : Array Value} {w : World} {p : Later w} {v : Value}
    (h : Calls P f args p.v fun e w' => e = .returned v ∧ Below p.v.heap.size p.v w') : Calls P f args p.v fun e w'' => e = .returned v ∧ ∃ q : Later w, w'' = q.v :=
  h.mono fun _ w' ⟨he, hb⟩ => ⟨he, ⟨w', p.h.trans (hb.mono p.h.size)⟩, rfl⟩
end Tm
namespace Tm
open Go Go.RowKit
/-- A slice of terms, by its parts. -/
def SL (I : Im) (l : List T) (A : Option Addr) (cap : Nat) : Prop := l.length ≤ cap ∧ cap ≤ 9223372036854775807 ∧ RepL I l A
theorem SL.mono {I J : Im} (h : I.le J) {l : List T} {A : Option Addr} {cap : Nat} (hs : SL I l A cap) : SL J l A cap := ⟨hs.1, hs.2.1, hs.2.2.mono h⟩
theorem SL.len {I : Im} {l : List T} {A : Option Addr} {cap : Nat} (hs : SL I l A cap) : l.length ≤ 9223372036854775807 := by have := hs.1; have := hs.2.1; omega
theorem SL.nil (I : Im) : SL I [] none 0 := ⟨by simp, by omega, by simp [RepL]⟩
/-- The value of a term. -/
def tv (t : T) (A : Option Addr) (cap : Nat) : Value := .agg #[.int .i64 t.k, .int .i64 t.n, .slice A t.l.length cap]
theorem RepT.sl {I : Im} {t : T} {cs : List Value} (h : RepT I t cs) : ∃ A cap, cs = [.int .i64 t.k, .int .i64 t.n, .slice A t.l.length cap] ∧ SL I t.l A cap := by
  obtain ⟨A, cap, e, h1, h2, h3⟩ := h.open
  exact ⟨A, cap, e, h1, h2, h3⟩
theorem SL.rep {I : Im} {t : T} {A : Option Addr} {cap : Nat} (h : SL I t.l A cap) : RepT I t [.int .i64 t.k, .int .i64 t.n, .slice A t.l.length cap] := by
  obtain ⟨k, n, l⟩ := t
  simp only [RepT]
  exact ⟨A, cap, rfl, h.1, h.2.1, h.2.2⟩
theorem SL.cells {w : World} {I : Im} (hm : Mod w I) {l : List T} {A : Option Addr} {cap : Nat} (h : SL I l A cap) {i : Nat} (hi : i < l.length) :
    ∃ b o A' cap', A = some ⟨b, o, none⟩ ∧ SL I l[i].l A' cap' ∧ w.cell? ⟨b, o + i * 3, none⟩ = some (.int .i64 l[i].k) ∧ w.cell? ⟨b, o + i * 3 + 1, none⟩ = some (.int .i64 l[i].n) ∧ w.cell? ⟨b, o + i * 3 + 2, none⟩ = some (.slice A' l[i].l.length cap') := by
  obtain ⟨b, o, e, cs, h1, h2⟩ := h.2.2.elem i hi
  obtain ⟨A', cap', rfl, h3⟩ := h1.sl
  rw [Nat.mul_comm] at h2
  exact ⟨b, o, A', cap', e, h3, hm.cell (h2 0 _ rfl), hm.cell (h2 1 _ rfl), hm.cell (h2 2 _ rfl)⟩
/-- Slices are put together, element by element. -/
theorem RepL.mk {I : Im} : ∀ {l : List T} {b o : Nat}, (∀ i (hi : i < l.length), ∃ cs, RepT I l[i] cs ∧ I.run b (o + 3 * i) cs) → RepL I l (some ⟨b, o, none⟩)
  | [], _, _, _ => by simp [RepL]
  | a :: l, b, o, h => by
    simp only [RepL]
    refine ⟨b, o, rfl, h 0 (by simp), RepL.mk fun i hi => ?_⟩
    obtain ⟨cs, h1, h2⟩ := h (i + 1) (by simpa using hi)
    exact ⟨cs, h1, by rw [show o + 3 + 3 * i = o + 3 * (i + 1) by omega]; exact h2⟩
/-- The first elements. -/
theorem RepL.take {I : Im} : ∀ {l : List T} {A : Option Addr} (j : Nat), RepL I l A → RepL I (l.take j) A
  | _, _, 0, _ => by simp [RepL]
  | [], _, _ + 1, _ => by simp [RepL]
  | a :: l, A, j + 1, h => by
    simp only [RepL, List.take_succ_cons] at h ⊢
    obtain ⟨b, o, e, h1, h2⟩ := h
    exact ⟨b, o, e, h1, RepL.take j h2⟩
end Tm

/- A slice of terms that a call makes for itself: appended to, then left as it is. -/
set_option linter.unusedSimpArgs false
set_option linter.unusedVariables false
namespace Tm
open Go Go.RowKit

/-- The cells of a list of terms, one behind the other. -/
def RepC (I : Im) : List T → List Value → Prop
  | [], xs => xs = []
  | a :: l, xs => ∃ cs r, xs = cs ++ r ∧ RepT I a cs ∧ RepC I l r
theorem RepC.mono {I J : Im} (h : I.le J) : ∀ {l : List T} {xs : List Value}, RepC I l xs → RepC J l xs
  | [], _, hr => hr
  | a :: l, xs, hr => by
    obtain ⟨cs, r, e, h1, h2⟩ := hr
    exact ⟨cs, r, e, h1.mono h, RepC.mono h h2⟩
theorem RepC.snoc {I : Im} : ∀ {l : List T} {xs : List Value} {a : T} {cs : List Value}, RepC I l xs → RepT I a cs → RepC I (l ++ [a]) (xs ++ cs)
  | [], xs, a, cs, h, ha => by
    have : xs = [] := h
    subst this
    exact ⟨cs, [], by simp, ha, rfl⟩
  | b :: l, xs, a, cs, h, ha => by
    obtain ⟨c, r, rfl, h1, h2⟩ := h
    exact ⟨c, r ++ cs, by simp, h1, RepC.snoc h2 ha⟩
theorem RepC.length {I : Im} : ∀ {l : List T} {xs : List Value}, RepC I l xs → xs.length = 3 * l.length
  | [], _, h => by
    have e : _ = [] := h
    rw [e]; rfl
  | a :: l, _, h => by
    obtain ⟨cs, r, rfl, h1, h2⟩ := h
    have := RepC.length h2
    have := h1.length
    simp only [List.length_append, List.length_cons]; omega
theorem RepC.repL {I J : Im} (hIJ : I.le J) : ∀ {l : List T} {xs : List Value} {b o : Nat}, RepC I l xs → (∀ i v, xs[i]? = some v → J.at b (o + i) = some v) → RepL J l (some ⟨b, o, none⟩)
  | [], _, _, _, _, _ => by simp [RepL]
  | a :: l, _, b, o, h, hat => by
    obtain ⟨cs, r, rfl, h1, h2⟩ := h
    have h3 := h1.length
    simp only [RepL]
    refine ⟨b, o, rfl, ⟨cs, h1.mono hIJ, fun i v hi => hat i v ?_⟩, RepC.repL hIJ h2 fun i v hi => ?_⟩
    · have : i < cs.length := (List.getElem?_eq_some_iff.1 hi).1
      rw [List.getElem?_append_left this]; exact hi
    · rw [show o + 3 + i = o + (3 + i) by omega]
      refine hat (3 + i) v ?_
      rw [List.getElem?_append_right (by omega), show 3 + i - cs.length = i by omega]; exact hi
theorem RepC.one {I : Im} {l : List T} {xs : List Value} (h : RepC I l xs) : ∀ u ∈ xs, u.oneCell' = true := by
  induction l generalizing xs with
  | nil =>
    have e : xs = [] := h
    rw [e]; intro u hu; cases hu
  | cons a l ih =>
    obtain ⟨cs, r, rfl, h1, h2⟩ := h
    obtain ⟨A, cap, rfl, _⟩ := h1.sl
    intro u hu
    rcases List.mem_append.1 hu with hu | hu
    · simp only [List.mem_cons, List.not_mem_nil, or_false] at hu
      rcases hu with rfl | rfl | rfl <;> rfl
    · exact ih h2 u hu

/-- v is the call's own slice, from block 'base' on, and holds l. -/
def OwnT (w : World) (I : Im) (base : Nat) (v : Value) (l : List T) : Prop := ∃ xs, w.ownsRow base 24 3 v l.length xs ∧ RepC I l xs
theorem OwnT.nil (w : World) (I : Im) (base : Nat) : OwnT w I base (.slice none 0 0) [] := ⟨[], World.ownsRow_nil w base _ 3, rfl⟩
theorem OwnT.mono {w : World} {I J : Im} {base : Nat} {v : Value} {l : List T} (h : OwnT w I base v l) (hIJ : I.le J) : OwnT w J base v l := by
  obtain ⟨xs, h1, h2⟩ := h
  exact ⟨xs, h1, h2.mono hIJ⟩
theorem OwnT.grow {w w' : World} {I : Im} {base : Nat} {v : Value} {l : List T} (h : OwnT w I base v l) (hb : Below w.heap.size w w') : OwnT w' I base v l := by
  obtain ⟨xs, h1, h2⟩ := h
  refine ⟨xs, h1.kept (row := none) ⟨hb.os, hb.tape, hb.output, hb.size, fun k hk _ => hb.block k hk⟩ ?_, h2⟩
  cases v.ownBlock <;> simp
theorem OwnT.shape {w : World} {I : Im} {base : Nat} {v : Value} {l : List T} (h : OwnT w I base v l) : ∃ A cap, v = .slice A l.length cap ∧ l.length ≤ cap ∧ cap ≤ 9223372036854775807 := by
  obtain ⟨xs, h1, h2⟩ := h
  rcases h1.2 with ⟨rfl, h0⟩ | ⟨g, cap, cur, rfl, _, _, h3, h4, _⟩
  · exact ⟨none, 0, by rw [h0], by omega, by omega⟩
  · exact ⟨_, cap, rfl, h3, by simpa [maxLen] using h4⟩
theorem OwnT.base {w : World} {I : Im} {base : Nat} {v : Value} {l : List T} (h : OwnT w I base v l) (k : Nat) (hk : v.ownBlock = some k) : base ≤ k := by
  obtain ⟨xs, h1, h2⟩ := h
  exact (h1.lt k hk).1
/-- Left as it is: one block more that nobody writes. -/
theorem OwnT.done {w : World} {I : Im} {base : Nat} {v : Value} {l : List T} (h : OwnT w I base v l) (hm : Mod w I) (hI : ∀ b x, I b = some x → b < base) :
    ∃ J A cap, I.le J ∧ Mod w J ∧ v = .slice A l.length cap ∧ SL J l A cap ∧ (∀ b x, J b = some x → I b = some x ∨ base ≤ b) := by
  obtain ⟨A, cap, e, hc1, hc2⟩ := h.shape
  obtain ⟨xs, h1, h2⟩ := h
  rcases h1.2 with ⟨e2, h0⟩ | ⟨g, cap', cur, e2, hg, hh, h3, h4, h5, h6⟩
  · have hl : l = [] := List.eq_nil_of_length_eq_zero h0
    subst hl
    refine ⟨I, A, cap, Im.le.refl I, hm, e, ⟨hc1, hc2, by simp [RepL]⟩, fun b x h => .inl h⟩
  · have hn : I g = none := by
      cases hi : I g with
      | none => rfl
      | some x => have := hI g x hi; omega
    rw [e2] at e
    injection e with e3 e4 e5
    subst e5
    subst e3
    refine ⟨I.add g cur _, _, cap', Im.le_add hn _ _, hm.add hh, e2, ⟨hc1, hc2, h2.repL (Im.le_add hn _ _) fun i v hi => ?_⟩, fun b x hb => ?_⟩
    · rw [Nat.zero_add, Im.add_at]
      rw [← h6] at hi
      have hlt : i < l.length * 3 := by
        have := (List.getElem?_eq_some_iff.1 hi).1
        simp at this; omega
      rw [List.getElem?_take_of_lt hlt] at hi
      simpa using hi
    · unfold Im.add at hb
      split at hb
      · rename_i e; subst e; exact .inr hg
      · exact .inl hb

section
variable {P : Program} {ops : Array Oper} {rest : List Oper} {o : Oper} {a : Act} {Q : Exit → Act → World → Prop}
/-- 'v = append(v, x)': one element of 'size' cells; the goal's world is W with the variadic's own block behind it. -/
theorem app_one {w0 W : World} (base : Nat) (hgd : o.guard = none) (s x : Operand) (t e : TypeId) (z : Value) (size bytes : Nat)
    (ho : o.op = .call { callee := .builtin .append, args := #[s, x], argTypes := #[t, t] })
    (ht : P.underlying t = some (.slice e)) (hinfo : (P.info? e).map (fun i => (i.zero, i.size, i.bytes)) = some (some z, size, bytes)) (hzs : z.cells.size = size) (hsz : 0 < size) (hb0 : 0 < bytes)
    (v : Value) (n : Nat) (xs ys : List Value) (hs : a.eval s = v) (hx : a.eval x = .slice (some ⟨W.heap.size, 0, none⟩) 1 1) (hy : ys.length = size) (h1 : ∀ u ∈ ys, u.oneCell' = true)
    (HO : W.ownsRow base e size v n xs) (HB : Below base w0 W) (hbase : base ≤ W.heap.size) (hl : (n + 1) * bytes ≤ 140737488355328)
    (h : ∀ v1 w1, w1.ownsRow base e size v1 (n + 1) (xs ++ ys) → Below base w0 w1 → W.grownBy w1 v.ownBlock → W.heap.size < w1.heap.size → (v1.ownBlock = v.ownBlock ∨ ∃ b, v1.ownBlock = some b ∧ W.heap.size ≤ b) → wpList P ops Q rest (a.put o.dst v1) w1) :
    wpList P ops Q (o :: rest) a (W.alloc (.cells ys.toArray e)) := by
  obtain ⟨i0, hi, hzz⟩ := Option.map_eq_some_iff.1 hinfo
  simp only [Prod.mk.injEq] at hzz
  obtain ⟨hz0, hz1, hz2⟩ := hzz
  have hlen : n + 1 ≤ 140737488355328 := Nat.le_trans (Nat.le_mul_of_pos_right _ hb0) hl
  refine wpList_append_own_at (W.alloc (.cells ys.toArray e)) hgd s x t ho base e i0 z size bytes ht hi hz0 hz1 hz2 hzs hsz v n xs hs (HO.alloc _) ⟨W.heap.size, 0, none⟩ 1 1 ys hx (by omega)
    (fun j u hu => ?_) h1 (by simp only [maxLen]; omega) hl (by simp; omega) ?_
  · have e2 : (⟨W.heap.size, 0, none⟩ : Addr).add j = ⟨W.heap.size, j, none⟩ := by
      unfold Addr.add; split <;> simp_all
    rw [e2, World.cell?_alloc_new]; simpa using hu
  intro v1 w1 hown hg _ hat
  have hg2 := World.grownBy.trans (World.grownBy_alloc W (.cells ys.toArray e) _) hg
  have hsz2 : W.heap.size < w1.heap.size := by have := hg.size; simp at this; omega
  refine h v1 w1 hown (HB.grown hg2 hbase (fun k hk => (HO.lt k hk).1)) hg2 hsz2 ?_
  rcases hat with hat | hat
  · exact .inl hat
  · exact .inr ⟨_, hat, by simp⟩
/-- The same for a slice of terms. -/
theorem app_term {w0 W : World} {I : Im} (base : Nat) (hgd : o.guard = none) (s x : Operand)
    (ho : o.op = .call { callee := .builtin .append, args := #[s, x], argTypes := #[22, 22] })
    (ht : P.underlying 22 = some (.slice 24)) (hinfo : (P.info? 24).map (fun i => (i.zero, i.size, i.bytes)) = some (some (.agg #[.int .i64 0, .int .i64 0, .slice none 0 0]), 3, 40))
    {v : Value} (l : List T) (t : T) (A : Option Addr) (cap : Nat) (HO : OwnT W I base v l) (hs : a.eval s = v) (hx : a.eval x = .slice (some ⟨W.heap.size, 0, none⟩) 1 1)
    (hsl : SL I t.l A cap) (HB : Below base w0 W) (hbase : base ≤ W.heap.size) (hl : l.length ≤ 1099511627776)
    (h : ∀ v1 w1, OwnT w1 I base v1 (l ++ [t]) → Below base w0 w1 → W.grownBy w1 v.ownBlock → W.heap.size < w1.heap.size → (v1.ownBlock = v.ownBlock ∨ ∃ b, v1.ownBlock = some b ∧ W.heap.size ≤ b) → wpList P ops Q rest (a.put o.dst v1) w1) :
    wpList P ops Q (o :: rest) a (W.alloc (.cells #[.int .i64 t.k, .int .i64 t.n, .slice A t.l.length cap] 24)) := by
  obtain ⟨xs, h1, h2⟩ := HO
  refine app_one (w0 := w0) base hgd s x _ _ _ 3 40 ho ht hinfo rfl (by omega) (by omega) v l.length xs [.int .i64 t.k, .int .i64 t.n, .slice A t.l.length cap] hs hx rfl ?_ h1 HB hbase (by omega) ?_
  · intro u hu
    simp only [List.mem_cons, List.not_mem_nil, or_false] at hu
    rcases hu with rfl | rfl | rfl <;> rfl
  · intro v1 w1 ho hb hg hs hat
    exact h v1 w1 ⟨_, by simpa using ho, h2.snoc hsl.rep⟩ hb hg hs hat
end
end Tm
namespace Tm
open Go Go.RowKit
/-- J lists what I lists, and blocks that are not in w yet. -/
structure Ext (I : Im) (w : World) (J : Im) : Prop where
  le : I.le J
  fresh : ∀ b x, J b = some x → I b = some x ∨ w.heap.size ≤ b
theorem Ext.refl (I : Im) (w : World) : Ext I w I := ⟨Im.le.refl I, fun _ _ h => .inl h⟩
theorem Ext.trans {I J K : Im} {w w1 : World} (h : Ext I w J) (k : Ext J w1 K) (hs : w.heap.size ≤ w1.heap.size) : Ext I w K :=
  ⟨h.le.trans k.le, fun b x hb => by
    rcases k.fresh b x hb with h1 | h1
    · exact h.fresh b x h1
    · exact .inr (Nat.le_trans hs h1)⟩
theorem Ext.from {I J : Im} {w w0 : World} (h : Ext I w J) (hs : w0.heap.size ≤ w.heap.size) : Ext I w0 J :=
  ⟨h.le, fun b x hb => (h.fresh b x hb).imp id (Nat.le_trans hs)⟩
/-- A call hands back a slice of terms. -/
def RetL (I : Im) (w : World) (r : List T) (e : Ending) (w' : World) : Prop :=
  ∃ J A cap, Ext I w J ∧ Mod w' J ∧ e = .returned (.slice A r.length cap) ∧ SL J r A cap ∧ Below w.heap.size w w'
end Tm

/- append(v, m...) for slices of terms. -/
set_option linter.unusedSimpArgs false
set_option linter.unusedVariables false
namespace Tm
open Go Go.RowKit
theorem addr_add (b o j : Nat) : (⟨b, o, none⟩ : Addr).add j = ⟨b, o + j, none⟩ := by
  unfold Addr.add
  split
  · rename_i h; subst h; rfl
  · rfl
theorem RepL.repC {I : Im} : ∀ {l : List T} {b o : Nat}, RepL I l (some ⟨b, o, none⟩) → ∃ xs, RepC I l xs ∧ ∀ j u, xs[j]? = some u → I.at b (o + j) = some u
  | [], _, _, _ => ⟨[], rfl, fun j u h => by simp at h⟩
  | a :: l, b, o, h => by
    simp only [RepL] at h
    obtain ⟨b', o', e, ⟨cs, h1, h2⟩, h3⟩ := h
    cases e
    obtain ⟨xs, h4, h5⟩ := RepL.repC h3
    refine ⟨cs ++ xs, ⟨cs, xs, rfl, h1, h4⟩, fun j u hu => ?_⟩
    rcases Nat.lt_or_ge j cs.length with hj | hj
    · rw [List.getElem?_append_left hj] at hu; exact h2 j u hu
    · rw [List.getElem?_append_right hj] at hu
      have h6 := h1.length
      have := h5 _ u hu
      rwa [h6, show o + 3 + (j - 3) = o + j by omega] at this
theorem RepC.append {I : Im} : ∀ {l m : List T} {xs ys : List Value}, RepC I l xs → RepC I m ys → RepC I (l ++ m) (xs ++ ys)
  | [], m, xs, ys, h, hm => by
    have e : xs = [] := h
    subst e
    exact hm
  | a :: l, m, _, ys, h, hm => by
    obtain ⟨cs, r, rfl, h1, h2⟩ := h
    exact ⟨cs, r ++ ys, by simp, h1, RepC.append h2 hm⟩
section
variable {P : Program} {ops : Array Oper} {rest : List Oper} {o : Oper} {a : Act} {Q : Exit → Act → World → Prop}
/-- 'v = append(v, m...)'. -/
theorem app_terms {w0 W : World} {I : Im} (base : Nat) (hgd : o.guard = none) (s x : Operand)
    (ho : o.op = .call { callee := .builtin .append, args := #[s, x], argTypes := #[22, 22] })
    (ht : P.underlying 22 = some (.slice 24)) (hinfo : (P.info? 24).map (fun i => (i.zero, i.size, i.bytes)) = some (some (.agg #[.int .i64 0, .int .i64 0, .slice none 0 0]), 3, 40))
    {v : Value} (l m : List T) (A : Option Addr) (cap : Nat) (hm : Mod W I) (HO : OwnT W I base v l) (hs : a.eval s = v) (hx : a.eval x = .slice A m.length cap)
    (hsl : SL I m A cap) (HB : Below base w0 W) (hbase : base ≤ W.heap.size) (hl : l.length + m.length ≤ 1099511627776)
    (h : ∀ v1 w1, OwnT w1 I base v1 (l ++ m) → Below base w0 w1 → W.grownBy w1 v.ownBlock → wpList P ops Q rest (a.put o.dst v1) w1) :
    wpList P ops Q (o :: rest) a W := by
  obtain ⟨i0, hi, hzz⟩ := Option.map_eq_some_iff.1 hinfo
  simp only [Prod.mk.injEq] at hzz
  obtain ⟨hz0, hz1, hz2⟩ := hzz
  obtain ⟨xs, h1, h2⟩ := HO
  have hrun : ∃ v1 w1, (Builtin.append_ #[22, 22] o.type #[v, .slice A m.length cap]).run P W = .ok v1 w1 ∧ OwnT w1 I base v1 (l ++ m) ∧ W.grownBy w1 v.ownBlock := by
    rcases A with _ | ad
    · have hm0 : m = [] := by
        cases m with
        | nil => rfl
        | cons b m =>
          have := hsl.2.2
          simp only [RepL] at this
          obtain ⟨_, _, e, _⟩ := this
          cases e
      subst hm0
      refine ⟨v, W, ?_, ⟨xs, by simpa using h1, by simpa using h2⟩, World.grownBy.refl W _⟩
      rcases h1.2 with ⟨rfl, hn⟩ | ⟨g, cap', cur, rfl, _, _, hnc, _⟩
      · simp [Builtin.append_, run_underlying ht, Go.sizeOf, typeInfo, hi, Builtin.lenOf, Builtin.firstCells]
      · simp [Builtin.append_, run_underlying ht, Go.sizeOf, typeInfo, hi, Builtin.lenOf, Builtin.firstCells, hnc, storeCells]
    · have hnews : ∃ ys, RepC I m ys ∧ ∀ j u, ys[j]? = some u → W.cell? (ad.add j) = some u := by
        cases m with
        | nil => exact ⟨[], rfl, fun j u h => by simp at h⟩
        | cons b m =>
          have h3 := hsl.2.2
          have h4 := h3
          simp only [RepL] at h4
          obtain ⟨b', o', e, _⟩ := h4
          cases e
          obtain ⟨ys, h5, h6⟩ := h3.repC
          exact ⟨ys, h5, fun j u hu => by rw [addr_add]; exact hm.cell (h6 j u hu)⟩
      obtain ⟨ys, h3, h4⟩ := hnews
      obtain ⟨v1, w1, hr, h5, h6, _, _⟩ := run_append_own_at (P := P) W base 22 o.type 24 i0 _ 3 40 ht hi hz0 hz1 hz2 rfl (by omega) v l.length xs h1 ad m.length cap ys (by have := h3.length; omega) h4 h3.one
        (by simp only [maxLen]; omega) (by omega) hbase
      exact ⟨v1, w1, hr, ⟨_, by simpa using h5, h2.append h3⟩, h6⟩
  obtain ⟨v1, w1, hr, hown, hg⟩ := hrun
  refine wpList_plain hgd fun K hK => ?_
  unfold Oper.wp execOp
  simp only [ho, resolve, invoke, builtin, Sem.run_bind, Sem.run_pure, Result.andThen_ok, List.map_toArray, List.map_cons, List.map_nil, hs, hx, hr]
  exact hK _ _ (h v1 w1 hown (HB.grown hg hbase (fun k hk => (h1.lt k hk).1)) hg)
end
end Tm
