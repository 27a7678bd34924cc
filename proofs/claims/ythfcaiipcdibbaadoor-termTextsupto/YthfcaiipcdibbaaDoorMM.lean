import Derived.Test.YthfcaiipcdibbaaDoorML
import Derived.Test.YthfcaiipcdibbaaDoorMA
import Derived.Test.YthfcaiipcdibbaaDoorMB
import Derived.Laws.IdiomCopy
import Derived.Deep.RegionLaw
import Derived.Test.YthfcaiipcdibbaaDoorChecked
import Derived.Lib.Hide
/- closure: the function that asks whether a locked term's key is built. -/
set_option linter.unusedSimpArgs false
set_option linter.unusedVariables false
namespace Go.Proofs.YthfcaiipcdibbaaDoor
open Go.RowKit Tm Go.Shelf Go.MapKept
def openS (S : List T) (x : T) : Bool := match x.l with | [] => false | a :: _ => built S a
theorem e60 : ∀ args w, (callFunc 60 args).run Tryd.prog w = .ok (.enter 60 args) w := enters_of (f := 60) Tryd.func60 (by kernel_rfl) rfl

set_option maxHeartbeats 2000000 in
theorem clos2 (S : List T) (x a : T) (rest : List T) (hx : x.l = a :: rest) (I : Im) (w : World) (p r : Nat) (hm : Tm.Mod w I) (hS : MapT w I r S) (hp : w.cell? ⟨p, 0, none⟩ = some (.map (some r))) (hv : valid a = true) (hs : size a ≤ 1000000) (ht : tab w) : PredT 60 #[.pointer (some ⟨p, 0, none⟩)] (openS S) I w x := by
  intro B cb W hB hW
  have hval : openS S x = built S a := by unfold openS; rw [hx]
  rw [hval]
  have hp' := (hW.cell (p := ⟨p, 0, none⟩) (World.block_lt_of_cell? _ _ hp)).trans hp
  have f1 := (World.cell?_alloc_lt W (.cells #[.int .i64 x.k, .int .i64 x.n, .slice B x.l.length cb] 24) _ (World.block_lt_of_cell? _ _ hp')).trans hp'
  have hlen : 0 < x.l.length := by rw [hx]; simp
  have hbx := (Below.refl W.heap.size W).alloc (Nat.le_refl _) (.cells #[.int .i64 x.k, .int .i64 x.n, .slice B x.l.length cb] 24)
  have hM1 := (hm.grow hW).grow hbx
  obtain ⟨b, o, A', cap', rfl, g3, d0, d1, d2⟩ := hB.cells hM1 hlen
  have h0 : x.l[0] = a := by simp [hx]
  rw [h0] at g3 d0 d1 d2
  simp only [Nat.zero_mul, Nat.add_zero] at d0 d1 d2
  have hl1 : (0 : Int) < (x.l.length : Int) := by omega
  have HC := Lib.hid (fun (W' : World) (hW' : Below (W.alloc (.cells #[.int .i64 x.k, .int .i64 x.n, .slice (some ⟨b, o, none⟩) x.l.length cb] 24)).heap.size (W.alloc (.cells #[.int .i64 x.k, .int .i64 x.n, .slice (some ⟨b, o, none⟩) x.l.length cb] 24)) W') => termBuilt S a I W' A' cap' r (hM1.grow hW') g3 (((hS.grow hW).grow hbx).grow hW') hv hs (tab_below (tab_below (tab_below ht hW) hbx) hW'))
  have HBW := Lib.hid ((Below.refl W.heap.size W).alloc (Nat.le_refl _) (.cells #[.int .i64 x.k, .int .i64 x.n, .slice (some ⟨b, o, none⟩) x.l.length cb] 24))
  have n2 : (W.alloc (.cells #[.int .i64 x.k, .int .i64 x.n, .slice (some ⟨b, o, none⟩) x.l.length cb] 24)).cell? ⟨W.heap.size, 2, none⟩ = some (.slice (some ⟨b, o, none⟩) x.l.length cb) := newcell (Below.refl _ _) 2
  clear hm hS hp hp' hv hs ht hB hM1 g3 hbx hval h0 hx
  show Calls Tryd.prog 60 #[.agg #[.int .i64 x.k, .int .i64 x.n, .slice (some ⟨b, o, none⟩) x.l.length cb], .pointer (some ⟨p, 0, none⟩)] W _
  go_enter Tryd.func60, Tryd.ntmps60
  go_wp2_with fail
  generalize (W.alloc (.cells #[.int .i64 x.k, .int .i64 x.n, .slice (some ⟨b, o, none⟩) x.l.length cb] 24)) = wq at HC f1 d0 d1 d2 n2 HBW ⊢
  have L0 := fun (V : World) (hV : Below wq.heap.size wq V) => (hV.cell (p := ⟨p, 0, none⟩) (World.block_lt_of_cell? _ _ f1)).trans f1
  have L1 := fun (V : World) (hV : Below wq.heap.size wq V) => (hV.cell (p := ⟨W.heap.size, 2, none⟩) (World.block_lt_of_cell? _ _ n2)).trans n2
  have M0 := fun (V : World) (hV : Below wq.heap.size wq V) => (hV.cell (p := ⟨b, o, none⟩) (World.block_lt_of_cell? _ _ d0)).trans d0
  have M1 := fun (V : World) (hV : Below wq.heap.size wq V) => (hV.cell (p := ⟨b, o + 1, none⟩) (World.block_lt_of_cell? _ _ d1)).trans d1
  have M2 := fun (V : World) (hV : Below wq.heap.size wq V) => (hV.cell (p := ⟨b, o + 2, none⟩) (World.block_lt_of_cell? _ _ d2)).trans d2
  clear f1 d0 d1 d2 n2
  go_region_held3 (fun V => Below wq.heap.size wq V) (first | exact (Below.refl _ _).drew | exact hkeep1 | assumption) ((go_at_call 50; refine (HC.out _ (by assumption)).mono ?_; rintro e w2 ⟨rfl, hl2⟩; have hkeep1 : Below wq.heap.size wq w2 := Below.trans (by assumption) (hl2.mono (Below.size (by assumption))); clear hl2))
  all_goals (go_wp2; go_ret; exact ⟨rfl, HBW.out.trans (Below.mono (by assumption) HBW.out.size)⟩)
end Go.Proofs.YthfcaiipcdibbaaDoor

/- The program's closure as plain functions. -/
set_option linter.unusedVariables false
namespace Tm
/-- 'add': t goes into the set; a seal or box whose key is not built yet is put aside. -/
def addC : T → List T → List T → List T × List T
  | .mk k n l, S, L => if .mk k n l ∈ S then (S, L) else
    match l with
    | a :: b :: r => if Lock k then (if built (S ++ [.mk k n (a :: b :: r)]) a = true then addC b (S ++ [.mk k n (a :: b :: r)]) L else (S ++ [.mk k n (a :: b :: r)], L ++ [.mk k n (a :: b :: r)])) else (S ++ [.mk k n (a :: b :: r)], L)
    | l => (S ++ [.mk k n l], L)
/-- Every seal and box of S is put aside, or its content lies in S, or its content is p. -/
def Seen (S L : List T) (p : T → Prop) : Prop := ∀ k n a b r, Lock k → T.mk k n (a :: b :: r) ∈ S → T.mk k n (a :: b :: r) ∈ L ∨ b ∈ S ∨ p b
theorem addC_in {k n : Int} {l : List T} {S L : List T} (h : T.mk k n l ∈ S) : addC (.mk k n l) S L = (S, L) := by
  unfold addC; rw [if_pos h]
theorem addC_free {k n : Int} {l : List T} {S L : List T} (h : T.mk k n l ∉ S) (hk : ¬ Lock k) : addC (.mk k n l) S L = (S ++ [.mk k n l], L) := by
  unfold addC; rw [if_neg h]
  split
  · rw [if_neg hk]
  · rfl
theorem addC_aside {k n : Int} {a b : T} {r S L : List T} (h : T.mk k n (a :: b :: r) ∉ S) (hk : Lock k) (hb : built (S ++ [.mk k n (a :: b :: r)]) a = false) : addC (.mk k n (a :: b :: r)) S L = (S ++ [.mk k n (a :: b :: r)], L ++ [.mk k n (a :: b :: r)]) := by
  unfold addC; rw [if_neg h]
  try simp only
  rw [if_pos hk, if_neg (by simp [hb])]
theorem addC_open {k n : Int} {a b : T} {r S L : List T} (h : T.mk k n (a :: b :: r) ∉ S) (hk : Lock k) (hb : built (S ++ [.mk k n (a :: b :: r)]) a = true) : addC (.mk k n (a :: b :: r)) S L = addC b (S ++ [.mk k n (a :: b :: r)]) L := by
  rw [addC.eq_def]
  dsimp only
  rw [if_neg h]
  try dsimp only
  rw [if_pos hk, if_pos hb]
structure AddSpec (I : List T) (t : T) (S L : List T) (R : List T × List T) : Prop where
  cl : ∀ x ∈ R.1, Cl I x
  seen : Seen R.1 R.2 fun _ => False
  sub : ∀ x ∈ S, x ∈ R.1
  mem : t ∈ R.1
  lsub : ∀ x ∈ L, x ∈ R.2
  lnew : ∀ x ∈ R.2, x ∈ L ∨ ∃ k n a b, x = .mk k n [a, b] ∧ Lock k ∧ x ∈ R.1
  nodup : S.Nodup → R.1.Nodup
  valid : (∀ x ∈ S, valid x = true) → ∀ x ∈ R.1, valid x = true
theorem addC_spec (I : List T) (t : T) : ∀ S L, Tm.valid t = true → Cl I t → (∀ x ∈ S, Cl I x) → Seen S L (fun b => b = t) → AddSpec I t S L (addC t S L) := by
  induction t using T.ind with
  | h k n l ih =>
    intro S L hv hc hS hs
    by_cases h : T.mk k n l ∈ S
    · rw [addC_in h]
      exact ⟨hS, fun k n a b r hk hm => by
        rcases hs k n a b r hk hm with h1 | h1 | h1
        · exact .inl h1
        · exact .inr (.inl h1)
        · subst h1; exact .inr (.inl h), fun _ h => h, h, fun _ h => h, fun _ h => .inl h, fun h => h, fun h => h⟩
    have hS' : ∀ x ∈ S ++ [T.mk k n l], Cl I x := fun x hx => by
      rcases List.mem_append.1 hx with hx | hx
      · exact hS x hx
      · simp at hx; subst hx; exact hc
    have hnd : S.Nodup → (S ++ [T.mk k n l]).Nodup := fun hn => by
      rw [List.nodup_append]
      exact ⟨hn, by simp, fun a ha b hb e => h (by simp at hb; rw [← hb, ← e]; exact ha)⟩
    have hvd : (∀ x ∈ S, Tm.valid x = true) → ∀ x ∈ S ++ [T.mk k n l], Tm.valid x = true := fun h x hx => by
      rcases List.mem_append.1 hx with hx | hx
      · exact h x hx
      · simp at hx; subst hx; exact hv
    by_cases hk : Lock k
    · obtain ⟨a, b, rfl, hvb⟩ : ∃ a b, l = [a, b] ∧ Tm.valid b = true := by
        cases shape_of hv with
        | data => exact absurd hk (by unfold Lock; omega)
        | key => exact absurd hk (by unfold Lock; omega)
        | seal_ ha hb => exact ⟨_, _, rfl, hb⟩
        | box_ h0 h1 ha hb => exact ⟨_, _, rfl, hb⟩
        | kdf => exact absurd hk (by unfold Lock; omega)
        | mac => exact absurd hk (by unfold Lock; omega)
      have hseen : Seen (S ++ [T.mk k n [a, b]]) L (fun c => c = b) := fun k' n' a' b' r' hk' hm => by
        rcases List.mem_append.1 hm with hm | hm
        · rcases hs k' n' a' b' r' hk' hm with h1 | h1 | h1
          · exact .inl h1
          · exact .inr (.inl (by simp [h1]))
          · exact .inr (.inl (by simp [h1]))
        · simp only [List.mem_singleton, T.mk.injEq, List.cons.injEq] at hm
          exact .inr (.inr hm.2.2.2.1)
      cases hb : built (S ++ [T.mk k n [a, b]]) a with
      | true =>
        rw [addC_open h hk hb]
        have hcb : Cl I b := Cl.closed I k n a b hk hc ((built_iff.1 hb).mono fun x hx => hS' x hx)
        have R := ih b (by simp) (S ++ [T.mk k n [a, b]]) L hvb hcb hS' hseen
        exact ⟨R.cl, R.seen, fun x hx => R.sub x (by simp [hx]), R.sub _ (by simp), R.lsub, R.lnew, fun hn => R.nodup (hnd hn), fun h => R.valid (hvd h)⟩
      | false =>
        rw [addC_aside h hk hb]
        refine ⟨hS', fun k' n' a' b' r' hk' hm => ?_, fun x hx => by simp [hx], by simp, fun x hx => by simp [hx], fun x hx => ?_, hnd, hvd⟩
        · rcases List.mem_append.1 hm with hm | hm
          · rcases hs k' n' a' b' r' hk' hm with h1 | h1 | h1
            · exact .inl (by simp [h1])
            · exact .inr (.inl (by simp [h1]))
            · exact .inr (.inl (by simp [h1]))
          · exact .inl (by simp at hm ⊢; exact .inr hm)
        · rcases List.mem_append.1 hx with hx | hx
          · exact .inl hx
          · simp at hx; exact .inr ⟨k, n, a, b, hx, hk, by simp [hx]⟩
    · rw [addC_free h hk]
      refine ⟨hS', fun k' n' a' b' r' hk' hm => ?_, fun x hx => by simp [hx], by simp, fun _ h => h, fun _ h => .inl h, hnd, hvd⟩
      rcases List.mem_append.1 hm with hm | hm
      · rcases hs k' n' a' b' r' hk' hm with h1 | h1 | h1
        · exact .inl h1
        · exact .inr (.inl (by simp [h1]))
        · exact .inr (.inl (by simp [h1]))
      · simp only [List.mem_singleton, T.mk.injEq] at hm
        rw [← hm.1] at hk; exact absurd hk' hk
end Tm

/- The program's closure as plain functions: its rounds. -/
set_option linter.unusedVariables false
namespace Tm
def openT (S : List T) (x : T) : Bool := match x.l with | [] => false | a :: _ => built S a
theorem addC_sizes (t : T) : ∀ S L, sizes (addC t S L).2 ≤ sizes L + size t := by
  induction t using T.ind with
  | h k n l ih =>
    intro S L
    by_cases h : T.mk k n l ∈ S
    · rw [addC_in h]; show sizes L ≤ _; omega
    by_cases hk : Lock k
    · match l, ih, h with
      | a :: b :: r, ih, h =>
        cases hb : built (S ++ [T.mk k n (a :: b :: r)]) a with
        | true =>
          rw [addC_open h hk hb]
          have := ih b (by simp) (S ++ [T.mk k n (a :: b :: r)]) L
          simp only [size, sizes] at *
          omega
        | false =>
          rw [addC_aside h hk hb]
          show sizes (L ++ [_]) ≤ _
          rw [sizes_append]; simp [sizes]
      | [], ih, h => unfold addC; rw [if_neg h]; show sizes L ≤ _; omega
      | [a], ih, h => unfold addC; rw [if_neg h]; show sizes L ≤ _; omega
    · rw [addC_free h hk]; show sizes L ≤ _; omega
/-- Between two rounds. -/
structure Inv (I : List T) (done : List T) (S L : List T) : Prop where
  cl : ∀ x ∈ S, Cl I x
  seen : Seen S L fun _ => False
  has : ∀ x ∈ done, x ∈ S
  lock : ∀ x ∈ L, ∃ k n a b, x = .mk k n [a, b] ∧ Lock k ∧ x ∈ S
  nodup : S.Nodup
  val : ∀ x ∈ S, Tm.valid x = true
theorem Inv.start (I : List T) : Inv I [] [] [] := ⟨by simp, fun _ _ _ _ _ _ h => (by cases h), by simp, by simp, List.nodup_nil, by simp⟩
theorem Inv.add {I done S L : List T} (h : Inv I done S L) {t : T} (hv : Tm.valid t = true) (hc : Cl I t) : Inv I (done ++ [t]) (addC t S L).1 (addC t S L).2 := by
  have R := addC_spec I t S L hv hc h.cl (fun k n a b r hk hm => by
    rcases h.seen k n a b r hk hm with h1 | h1 | h1
    · exact .inl h1
    · exact .inr (.inl h1)
    · exact h1.elim)
  refine ⟨R.cl, R.seen, fun x hx => ?_, fun x hx => ?_, R.nodup h.nodup, R.valid h.val⟩
  · rcases List.mem_append.1 hx with hx | hx
    · exact R.sub x (h.has x hx)
    · simp at hx; subst hx; exact R.mem
  · rcases R.lnew x hx with h1 | h1
    · obtain ⟨k, n, a, b, e, hk, hm⟩ := h.lock x h1
      exact ⟨k, n, a, b, e, hk, R.sub x hm⟩
    · exact h1
theorem Inv.done_iff {I S L : List T} (h : Inv I I S L) (ho : ∀ x ∈ L, openT S x = false) (x : T) : x ∈ S ↔ Cl I x := by
  refine ⟨h.cl x, fun hc => hc (· ∈ S) h.has fun k n a b hk hm hb => ?_⟩
  rcases h.seen k n a b [] hk hm with h1 | h1 | h1
  · have := ho _ h1
    unfold openT at this
    simp only [T.l_mk] at this
    rw [built_iff.2 hb] at this; cases this
  · exact h1
  · exact h1.elim
theorem sizes_eraseIdx : ∀ (L : List T) (i : Nat) (hi : i < L.length), sizes L = sizes (L.eraseIdx i) + size L[i]
  | [], _, hi => by cases hi
  | c :: L, 0, _ => by simp [sizes]; omega
  | c :: L, i + 1, hi => by
    have := sizes_eraseIdx L i (by simpa using hi)
    simp only [List.eraseIdx_cons_succ, sizes, List.getElem_cons_succ]
    omega
/-- One of those put aside is opened. -/
theorem Inv.open {I done S L : List T} (h : Inv I done S L) {i : Nat} (hi : i < L.length) {k n : Int} {a b : T} (he : L[i] = .mk k n [a, b]) (ho : openT S L[i] = true) :
    Inv I done (addC b S (L.eraseIdx i)).1 (addC b S (L.eraseIdx i)).2 ∧ sizes (addC b S (L.eraseIdx i)).2 < sizes L ∧ Tm.valid b = true := by
  have hmem : L[i] ∈ L := List.getElem_mem hi
  obtain ⟨k', n', a', b', e', hk, hmS⟩ := h.lock _ hmem
  have e2 := he.symm.trans e'
  injection e2 with e3 e4 e5
  subst e3; subst e4
  simp only [List.cons.injEq, and_true] at e5
  obtain ⟨rfl, rfl⟩ := e5
  rw [he] at hmS ho
  have hba : built S a = true := by unfold openT at ho; exact ho
  have hv := h.val _ hmS
  have hvb : Tm.valid b = true := by
    simp only [Tm.valid, Bool.and_eq_true] at hv
    exact valids_iff.1 hv.2 b (by simp)
  have hcb : Cl I b := Cl.closed I k n a b hk (h.cl _ hmS) ((built_iff.1 hba).mono fun x hx => h.cl x hx)
  have hsplit : ∀ y ∈ L, y ∈ L.eraseIdx i ∨ y = L[i] := fun y hy => by
    obtain ⟨j, hj, rfl⟩ := List.mem_iff_getElem.1 hy
    by_cases hji : j = i
    · subst hji; exact .inr rfl
    · exact .inl (List.mem_eraseIdx_iff_getElem.2 ⟨j, hj, hji, rfl⟩)
  have R := addC_spec I b S (L.eraseIdx i) hvb hcb h.cl (fun k2 n2 a2 b2 r2 hk2 hm2 => by
    rcases h.seen k2 n2 a2 b2 r2 hk2 hm2 with h1 | h1 | h1
    · rcases hsplit _ h1 with h2 | h2
      · exact .inl h2
      · rw [he] at h2
        simp only [T.mk.injEq, List.cons.injEq] at h2
        exact .inr (.inr h2.2.2.2.1)
    · exact .inr (.inl h1)
    · exact h1.elim)
  have hsz := sizes_eraseIdx L i hi
  refine ⟨⟨R.cl, R.seen, fun x hx => R.sub x (h.has x hx), fun x hx => ?_, R.nodup h.nodup, R.valid h.val⟩, ?_, hvb⟩
  · rcases R.lnew x hx with h1 | h1
    · obtain ⟨k, n, a, b, e, hk, hm⟩ := h.lock x (List.mem_of_mem_eraseIdx h1)
      exact ⟨k, n, a, b, e, hk, R.sub x hm⟩
    · exact h1
  · have := addC_sizes b S (L.eraseIdx i)
    rw [hsz, he]
    simp only [size, sizes]
    omega
end Tm

/- 's = append(s, v)' with a zero element first: what lies there behind the append, and behind the two late stores; for any box q and any base. -/
set_option linter.unusedSimpArgs false
set_option linter.unusedVariables false
namespace Go.Proofs.YthfcaiipcdibbaaDoor
open Go.RowKit Tm Go.Shelf Go.MapKept
def zeroT : Obj := .cells #[.int .i64 0, .int .i64 0, .slice none 0 0] 24
theorem box_row {W : World} {base q n capv : Nat} {av : Option Addr} {xs : List Value} (hrow : W.ownsRow base 24 3 (.slice av n capv) n xs) (bV : Boxed W q 22 (.slice av n capv)) : some q ≠ (Value.slice av n capv).ownBlock := by
  intro e
  rcases hrow.2 with ⟨h, _⟩ | ⟨g', cap', cur', h, hb, hh, _⟩
  · injection h with h _ _
    subst h
    simp [Value.ownBlock] at e
  · injection h with h _ _
    subst h
    simp only [Value.ownBlock, Option.some.injEq] at e
    subst e
    have := bV.symm.trans hh
    simp at this
theorem tailG {W : World} {base q n capv : Nat} {av : Option Addr} {xs : List Value} (hrow : W.ownsRow base 24 3 (.slice av n capv) n xs) (bV : Boxed W q 22 (.slice av n capv)) (g1 cap1 : Nat) (w1 : World)
    (hown1 : w1.ownsRow base 24 3 (.slice (some ⟨g1, 0, none⟩) (n + 1) cap1) (n + 1) (xs ++ [.int .i64 0, .int .i64 0, .slice none 0 0])) (hg1 : (W.alloc zeroT).drew.grownBy w1 (Value.slice av n capv).ownBlock) :
    w1.cell? ⟨g1, n * 3, none⟩ = some (.int .i64 0) ∧ w1.cell? ⟨g1, n * 3 + 1, none⟩ = some (.int .i64 0) ∧ w1.cell? ⟨g1, n * 3 + 2, none⟩ = some (.slice none 0 0) ∧ w1.frozen? ⟨g1, n * 3, none⟩ = false ∧ w1.frozen? ⟨g1, n * 3 + 1, none⟩ = false ∧ w1.frozen? ⟨g1, n * 3 + 2, none⟩ = false ∧
      w1.cell? ⟨q, 0, none⟩ = some (.slice av n capv) ∧ w1.frozen? ⟨q, 0, none⟩ = false ∧
      (∀ u, (w1.setCell ⟨g1, n * 3, none⟩ u).cell? ⟨q, 0, none⟩ = some (.slice av n capv)) ∧ (∀ u, (w1.setCell ⟨q, 0, none⟩ u).cell? ⟨g1, n * 3, none⟩ = some (.int .i64 0)) ∧ (∀ u, (w1.setCell ⟨q, 0, none⟩ u).cell? ⟨g1, n * 3 + 1, none⟩ = some (.int .i64 0)) ∧ (∀ u, (w1.setCell ⟨q, 0, none⟩ u).cell? ⟨g1, n * 3 + 2, none⟩ = some (.slice none 0 0)) ∧
      (Boxed w1 q 22 (.slice av n capv) ∧ q ≠ g1 ∧ base ≤ g1) := by
  have hl : xs.length = n * 3 := hrow.1
  have h0 := hown1.cellAt (n * 3) (by omega)
  have h1 := hown1.cellAt (n * 3 + 1) (by omega)
  have h2 := hown1.cellAt (n * 3 + 2) (by omega)
  rw [List.getElem?_append_right (by omega), hl] at h0 h1 h2
  have bB : Boxed w1 q 22 (.slice av n capv) := (show Boxed (W.alloc zeroT).drew q 22 (.slice av n capv) from bV.alloc _).kept hg1 (box_row hrow bV)
  have hgg : q ≠ g1 ∧ base ≤ g1 := by
    rcases hown1.2 with ⟨h, _⟩ | ⟨g', cap', cur', h, hb, hh, _⟩
    · simp at h
    · injection h with h _ _
      simp only [Option.some.injEq, Addr.mk.injEq, and_true] at h
      subst h
      refine ⟨fun e => ?_, hb⟩
      rw [← e] at hh
      have := bB.symm.trans hh
      simp at this
  have hn1 : ∀ o, (⟨g1, o, none⟩ : Addr) ≠ ⟨q, 0, none⟩ := fun o e => hgg.1 (by injection e with e _ _; exact e.symm)
  have k0 : w1.cell? ⟨g1, n * 3, none⟩ = some (.int .i64 0) := by simpa using h0
  have k1 : w1.cell? ⟨g1, n * 3 + 1, none⟩ = some (.int .i64 0) := by simpa using h1
  have k2 : w1.cell? ⟨g1, n * 3 + 2, none⟩ = some (.slice none 0 0) := by simpa using h2
  exact ⟨k0, k1, k2, hown1.frozenAt _, hown1.frozenAt _, hown1.frozenAt _, bB.cell, bB.frozen,
    fun u => (World.cell?_setCell_other w1 _ _ _ (hn1 _)).trans bB.cell, fun u => (World.cell?_setCell_other w1 _ _ _ (hn1 _).symm).trans k0, fun u => (World.cell?_setCell_other w1 _ _ _ (hn1 _).symm).trans k1, fun u => (World.cell?_setCell_other w1 _ _ _ (hn1 _).symm).trans k2, bB, hgg.1, hgg.2⟩
end Go.Proofs.YthfcaiipcdibbaaDoor

/- .. and behind the two late stores. -/
set_option linter.unusedSimpArgs false
set_option linter.unusedVariables false
namespace Go.Proofs.YthfcaiipcdibbaaDoor
open Go.RowKit Tm Go.Shelf Go.MapKept
/-- The row has grown by one term, the box holds it; all else that lay in W lies there, but for the row's old block. -/
structure LeafG (base q : Nat) (W F : World) (vo v : Value) (n : Nat) (xs : List Value) : Prop where
  row : F.ownsRow base 24 3 v n xs
  box : Boxed F q 22 v
  os : F.os = W.os
  tape : F.tape = W.tape
  output : F.output = W.output
  size : W.heap.size ≤ F.heap.size
  block : ∀ k, k < W.heap.size → k ≠ q → some k ≠ vo.ownBlock → F.heap[k]? = W.heap[k]?
theorem leafG {W : World} {base q n capv : Nat} {av : Option Addr} {xs : List Value} (hrow : W.ownsRow base 24 3 (.slice av n capv) n xs) (bV : Boxed W q 22 (.slice av n capv)) (g1 cap1 : Nat) (w1 : World)
    (hown1 : w1.ownsRow base 24 3 (.slice (some ⟨g1, 0, none⟩) (n + 1) cap1) (n + 1) (xs ++ [.int .i64 0, .int .i64 0, .slice none 0 0])) (hg1 : (W.alloc zeroT).drew.grownBy w1 (Value.slice av n capv).ownBlock) (hor : (Value.slice av n capv).ownBlock = some g1 ∨ g1 = (W.alloc zeroT).drew.heap.size) (u0 u1 u2 : Value) :
    LeafG base q W ((((w1.setCell ⟨g1, n * 3, none⟩ u0).setCell ⟨g1, n * 3 + 1, none⟩ u1).setCell ⟨g1, n * 3 + 2, none⟩ u2).setCell ⟨q, 0, none⟩ (.slice (some ⟨g1, 0, none⟩) (n + 1) cap1)) (.slice av n capv) (.slice (some ⟨g1, 0, none⟩) (n + 1) cap1) (n + 1) (xs ++ [u0, u1, u2]) ∧
    LeafG base q W ((((w1.setCell ⟨q, 0, none⟩ (.slice (some ⟨g1, 0, none⟩) (n + 1) cap1)).setCell ⟨g1, n * 3, none⟩ u0).setCell ⟨g1, n * 3 + 1, none⟩ u1).setCell ⟨g1, n * 3 + 2, none⟩ u2) (.slice av n capv) (.slice (some ⟨g1, 0, none⟩) (n + 1) cap1) (n + 1) (xs ++ [u0, u1, u2]) := by
  obtain ⟨_, _, _, _, _, _, _, _, _, _, _, _, bB, hgne, hgle⟩ := tailG hrow bV g1 cap1 w1 hown1 hg1
  have hl : xs.length = n * 3 := hrow.1
  have hob : (Value.slice (some ⟨g1, 0, none⟩) (n + 1) cap1).ownBlock ≠ some q := by simp only [Value.ownBlock, ne_eq, Option.some.injEq]; exact fun e => hgne e.symm
  have hsn : some q ≠ some g1 := fun e => hgne (by injection e)
  have hs1 := hown1.stored (n * 3) u0
  have hs2 := hs1.1.stored (n * 3 + 1) u1
  have hs3 := hs2.1.stored (n * 3 + 2) u2
  have h0 := ownsRow_setCell_other (a := ⟨q, 0, none⟩) hown1 hob (.slice (some ⟨g1, 0, none⟩) (n + 1) cap1)
  have ht1 := h0.stored (n * 3) u0
  have ht2 := ht1.1.stored (n * 3 + 1) u1
  have ht3 := ht2.1.stored (n * 3 + 2) u2
  have hsz : W.heap.size ≤ w1.heap.size := Nat.le_trans (by show W.heap.size ≤ (W.alloc zeroT).heap.size; simp) hg1.size
  have hbk : ∀ k, k < W.heap.size → some k ≠ (Value.slice av n capv).ownBlock → w1.heap[k]? = W.heap[k]? := fun k hk hne =>
    (hg1.block k (by show k < (W.alloc zeroT).heap.size; simp; omega) hne).trans (Below.heap_alloc W zeroT k hk)
  have hkg : ∀ k, k < W.heap.size → some k ≠ (Value.slice av n capv).ownBlock → k ≠ g1 := fun k hk hne e => by
    rcases hor with h | h
    · exact hne (by rw [h, e])
    · have : (W.alloc zeroT).drew.heap.size = W.heap.size + 1 := by show (W.alloc zeroT).heap.size = _; simp
      omega
  have h3 := hs3.1
  rw [set3 hl] at h3
  have h4 := ht3.1
  rw [set3 hl] at h4
  refine ⟨⟨ownsRow_setCell_other h3 hob _, Boxed.set _ (((bB.kept hs1.2 hsn).kept hs2.2 hsn).kept hs3.2 hsn), ?_, ?_, ?_, ?_, ?_⟩, ⟨h4, (((Boxed.set _ bB).kept ht1.2 hsn).kept ht2.2 hsn).kept ht3.2 hsn, ?_, ?_, ?_, ?_, ?_⟩⟩
  · exact hg1.os
  · exact hg1.tape
  · exact hg1.output
  · have := hs1.2.size; have := hs2.2.size; have := hs3.2.size
    have h9 := (KeepsOthers.setCell (((w1.setCell ⟨g1, n * 3, none⟩ u0).setCell ⟨g1, n * 3 + 1, none⟩ u1).setCell ⟨g1, n * 3 + 2, none⟩ u2) ⟨q, 0, none⟩ (.slice (some ⟨g1, 0, none⟩) (n + 1) cap1)).size
    omega
  · intro k hk hkq hne
    have hg := hkg k hk hne
    rw [Below.heap_setCell _ _ _ _ hkq, Below.heap_setCell _ _ _ _ hg, Below.heap_setCell _ _ _ _ hg, Below.heap_setCell _ _ _ _ hg]
    exact hbk k hk hne
  · exact hg1.os
  · exact hg1.tape
  · exact hg1.output
  · have h9 := (KeepsOthers.setCell w1 ⟨q, 0, none⟩ (.slice (some ⟨g1, 0, none⟩) (n + 1) cap1)).size
    have := ht1.2.size; have := ht2.2.size; have := ht3.2.size
    omega
  · intro k hk hkq hne
    have hg := hkg k hk hne
    rw [Below.heap_setCell _ _ _ _ hg, Below.heap_setCell _ _ _ _ hg, Below.heap_setCell _ _ _ _ hg, Below.heap_setCell _ _ _ _ hkq]
    exact hbk k hk hne
end Go.Proofs.YthfcaiipcdibbaaDoor

/- slices.Delete at terms: what the row holds behind it; the builtin clear. -/
set_option linter.unusedSimpArgs false
set_option linter.unusedVariables false
namespace Tm
open Go Go.RowKit
def setL : List Value → Nat → List Value → List Value
  | xs, _, [] => xs
  | xs, o, v :: r => setL (xs.set o v) (o + 1) r
theorem setL_eq : ∀ (vs xs : List Value) (o : Nat), o + vs.length ≤ xs.length → setL xs o vs = xs.take o ++ vs ++ xs.drop (o + vs.length)
  | [], xs, o, _ => by simp [setL]
  | v :: r, xs, o, h => by
    simp only [List.length_cons] at h
    have h2 : o < xs.length := by omega
    rw [setL, setL_eq r (xs.set o v) (o + 1) (by simp; omega), List.drop_set_of_lt (by omega), List.take_add_one, List.take_set_of_le (Nat.le_refl _)]
    simp only [List.getElem?_set_self h2, Option.toList_some, List.append_assoc, List.singleton_append, List.nil_append, List.length_cons, List.cons_append]
    rw [show o + 1 + r.length = o + (r.length + 1) by omega]
theorem ownsRow_setCells {base : Nat} {e : TypeId} {size g n cap : Nat} : ∀ (vs xs : List Value) (o : Nat) (w : World), w.ownsRow base e size (.slice (some ⟨g, 0, none⟩) n cap) n xs →
    (w.setCells g o vs).ownsRow base e size (.slice (some ⟨g, 0, none⟩) n cap) n (setL xs o vs) ∧ w.grownBy (w.setCells g o vs) (some g)
  | [], xs, o, w, h => ⟨h, World.grownBy.refl _ _⟩
  | v :: r, xs, o, w, h => by
    obtain ⟨h1, h2⟩ := h.stored o v
    obtain ⟨h3, h4⟩ := ownsRow_setCells r _ (o + 1) _ h1
    exact ⟨h3, World.grownBy.trans h2 h4⟩
theorem ownsRow_shrink {w : World} {base : Nat} {e : TypeId} {size g n cap m : Nat} {xs : List Value} (h : w.ownsRow base e size (.slice (some ⟨g, 0, none⟩) n cap) n xs) (hm : m ≤ n) :
    w.ownsRow base e size (.slice (some ⟨g, 0, none⟩) m cap) m (xs.take (m * size)) := by
  have hms : m * size ≤ n * size := Nat.mul_le_mul_right _ hm
  refine ⟨by rw [List.length_take, h.1]; omega, ?_⟩
  rcases h.2 with ⟨h', _⟩ | ⟨g', cap', cur, h', hb, hg, hnc, hcm, hcs, htake⟩
  · simp at h'
  · simp only [Value.slice.injEq, Option.some.injEq, Addr.mk.injEq, and_true, true_and] at h'
    obtain ⟨rfl, rfl⟩ := h'
    exact .inr ⟨g, cap, cur, rfl, hb, hg, by omega, hcm, hcs, by rw [← htake, List.take_take, Nat.min_eq_left hms]⟩
theorem RepC.erase {I : Im} : ∀ {L : List T} {xs : List Value} (i : Nat) (hi : i < L.length), RepC I L xs → RepC I (L.eraseIdx i) (xs.take (3 * i) ++ xs.drop (3 * i + 3))
  | a :: L, _, 0, _, h => by
    obtain ⟨cs, r, rfl, h1, h2⟩ := h
    have := h1.length
    simpa [List.drop_append, this] using h2
  | a :: L, _, i + 1, hi, h => by
    obtain ⟨cs, r, rfl, h1, h2⟩ := h
    have h3 := h1.length
    refine ⟨cs, r.take (3 * i) ++ r.drop (3 * i + 3), ?_, h1, h2.erase i (by simpa using hi)⟩
    rw [List.take_append, List.drop_append, h3, List.take_of_length_le (by omega), List.drop_of_length_le (by omega), List.nil_append, List.append_assoc,
      show 3 * (i + 1) - 3 = 3 * i by omega, show 3 * (i + 1) + 3 - 3 = 3 * i + 3 by omega]
/-- 'clear' of a slice of one term. -/
theorem run_clear_term {P : Program} (w : World) (t e ty : TypeId) (ht : P.underlying t = some (.slice e)) (hv : ∀ w, (zeroValue e).run P w = .ok (.agg #[.int .i64 0, .int .i64 0, .slice none 0 0]) w) (b o c : Nat)
    (hc : ∀ j, j < 3 → (w.cell? ⟨b, o + j, none⟩).isSome = true) (hf : ∀ j, j < 3 → w.frozen? ⟨b, o + j, none⟩ = false) :
    (Builtin.clear_ #[t] ty #[.slice (some ⟨b, o, none⟩) 1 c]).run P w = .ok (.tuple #[]) (w.setCells b o [.int .i64 0, .int .i64 0, .slice none 0 0]) := by
  have hst := run_storeCells_cells (P := P) b o [.int .i64 0, .int .i64 0, .slice none 0 0] 0 w (by simpa using hc) (by simpa using hf) (by intro v hv'; simp at hv'; rcases hv' with rfl | rfl | rfl <;> rfl)
  simp only [Nat.add_zero] at hst
  have hz : (Builtin.zeroCells (Value.agg #[.int .i64 0, .int .i64 0, .slice none 0 0]).cells 1).toList = [.int .i64 0, .int .i64 0, .slice none 0 0] := by
    have h : (Value.agg #[.int .i64 0, .int .i64 0, .slice none 0 0]).cells = #[.int .i64 0, .int .i64 0, .slice none 0 0] := by simp [Value.cells]
    rw [h]
    have hr : Array.range 3 = #[0, 1, 2] := by decide
    simp [Builtin.zeroCells, hr]
  simp [Builtin.clear_, run_underlying ht, hv, hz, hst]
/-- The row behind the append onto its own front and the clearing of its last element. -/
theorem ownT_erase {w : World} {I : Im} {base g cap : Nat} {L : List T} {xs : List Value} {i : Nat} (hi : i < L.length) (ho : w.ownsRow base 24 3 (.slice (some ⟨g, 0, none⟩) L.length cap) L.length xs) (hr : RepC I L xs) (zs : List Value) (hz : zs.length = 3) :
    OwnT ((w.setCells g (i * 3) (xs.drop (i * 3 + 3))).setCells g ((L.length - 1) * 3) zs) I base (.slice (some ⟨g, 0, none⟩) (L.length - 1) cap) (L.eraseIdx i) ∧ w.grownBy ((w.setCells g (i * 3) (xs.drop (i * 3 + 3))).setCells g ((L.length - 1) * 3) zs) (some g) := by
  obtain ⟨h1, h2⟩ := ownsRow_setCells (xs.drop (i * 3 + 3)) xs (i * 3) w ho
  obtain ⟨h3, h4⟩ := ownsRow_setCells zs _ ((L.length - 1) * 3) _ h1
  have hl : xs.length = L.length * 3 := ho.1
  have h5 := ownsRow_shrink h3 (m := L.length - 1) (by omega)
  have hlen : (L.eraseIdx i).length = L.length - 1 := by rw [List.length_eraseIdx, if_pos hi]
  have hs1 : setL xs (i * 3) (xs.drop (i * 3 + 3)) = xs.take (i * 3) ++ xs.drop (i * 3 + 3) ++ xs.drop ((L.length - 1) * 3) := by
    rw [setL_eq _ _ _ (by simp; omega)]
    congr 2
    simp; omega
  have hll : (xs.take (i * 3) ++ xs.drop (i * 3 + 3)).length = (L.length - 1) * 3 := by simp; omega
  have hs2 : (setL (setL xs (i * 3) (xs.drop (i * 3 + 3))) ((L.length - 1) * 3) zs).take ((L.length - 1) * 3) = xs.take (i * 3) ++ xs.drop (i * 3 + 3) := by
    rw [hs1, setL_eq _ _ _ (by simp; omega), List.append_assoc (List.take _ _), List.take_append_of_le_length (by rw [List.length_take, List.length_append, hll]; omega), List.take_take, Nat.min_self, List.take_append_of_le_length (by omega), ← hll, List.take_length]
  rw [hs2] at h5
  refine ⟨⟨_, by rw [hlen]; exact h5, ?_⟩, World.grownBy.trans h2 h4⟩
  rw [Nat.mul_comm]
  exact hr.erase i hi
end Tm

/- slices.Delete at terms. -/
set_option linter.unusedSimpArgs false
set_option linter.unusedVariables false
namespace Go.Proofs.YthfcaiipcdibbaaDoor
open Go.RowKit Tm

set_option maxHeartbeats 4000000 in
set_option maxRecDepth 100000 in
theorem deleteT {I : Im} {base : Nat} {v : Value} {L : List T} (i : Nat) (hi : i < L.length) (w : World) (HO : OwnT w I base v L) :
    Calls Tryd.prog 61 #[v, .int .i64 i, .int .i64 (i + 1)] w fun e w' => ∃ v', e = .returned v' ∧ OwnT w' I base v' (L.eraseIdx i) ∧ v'.ownBlock = v.ownBlock ∧ w.grownBy w' v.ownBlock := by
  obtain ⟨xs, ho, hr⟩ := HO
  rcases ho.2 with ⟨h', h0⟩ | ⟨g, cap, cur, rfl, hb, hg, hnc, hcm, hcs, htake⟩
  · omega
  have hxl : xs.length = L.length * 3 := ho.1
  obtain ⟨n, hn⟩ : ∃ n, n = L.length := ⟨_, rfl⟩
  have hER := Lib.hid (fun (zs : List Value) (hz : zs.length = 3) => ownT_erase hi ho.drew hr zs hz)
  rw [← hn] at hER ho hnc hi hxl ⊢
  obtain ⟨A, hA, hsrc⟩ : ∃ A : Addr, (if cap = i + 1 then some (⟨g, 0, none⟩ : Addr) else some ⟨g, (i + 1) * 3, none⟩) = some A ∧ Hid (∀ t u, (xs.drop (i * 3 + 3))[t]? = some u → w.drew.cell? (A.add t) = some u) := by
    by_cases hci : cap = i + 1
    · refine ⟨⟨g, 0, none⟩, by simp [hci], fun t u hu => ?_⟩
      have := (List.getElem?_eq_some_iff.1 hu).1
      simp at this; omega
    refine ⟨⟨g, (i + 1) * 3, none⟩, by simp [hci], fun t u hu => ?_⟩
    have hlt : t < n * 3 - (i * 3 + 3) := by
      have := (List.getElem?_eq_some_iff.1 hu).1
      simp at this; omega
    rw [List.getElem?_drop] at hu
    rw [addr_add, show (i + 1) * 3 + t = i * 3 + 3 + t by omega]
    exact (ho.cellAt _ (by omega)).trans hu
  have s1 : Hid ((xs.drop (i * 3 + 3)).length = (n - (i + 1)) * 3) := by show _ = _; rw [List.length_drop, hxl]; omega
  have s2 : Hid (∀ u ∈ xs.drop (i * 3 + 3), u.oneCell' = true) := fun u hu => hr.one u (List.mem_of_mem_drop hu)
  have s3 : Hid (∀ t, t < (xs.drop (i * 3 + 3)).length → (w.drew.cell? ⟨g, 0 + i * 3 + t, none⟩).isSome = true ∧ w.drew.frozen? ⟨g, 0 + i * 3 + t, none⟩ = false) := by
    intro t ht
    rw [s1.out] at ht
    rw [Nat.zero_add]
    exact ⟨by rw [show w.drew.cell? _ = w.cell? _ from rfl, ho.cellAt _ (by omega), List.getElem?_eq_getElem (by omega)]; rfl, ho.drew.frozenAt _⟩
  obtain ⟨t22, hi⟩ : Tryd.prog.underlying 22 = some (.slice 24) ∧ ∃ i0, Tryd.prog.info? 24 = some i0 ∧ i0.size = 3 := ⟨Tryd.underlying22, _, rfl, rfl⟩
  obtain ⟨i0, hi0, hz1⟩ := hi
  obtain ⟨W1, hW1⟩ : ∃ W1, W1 = w.drew.setCells g (0 + i * 3) (xs.drop (i * 3 + 3)) := ⟨_, rfl⟩
  have hown1 := (ownsRow_setCells (xs.drop (i * 3 + 3)) xs (0 + i * 3) w.drew ho.drew).1
  rw [← hW1] at hown1
  have hl1 := hown1.1
  have hcl : ∀ ty, (Builtin.clear_ #[22] ty #[.slice (some ⟨g, (i + (n - (i + 1))) * 3, none⟩) (n - (i + (n - (i + 1)))) (cap - (i + (n - (i + 1))))]).run Tryd.prog W1 = .ok (.tuple #[]) (W1.setCells g ((n - 1) * 3) [.int .i64 0, .int .i64 0, .slice none 0 0]) := fun ty => by
    rw [show i + (n - (i + 1)) = n - 1 by omega, show n - (n - 1) = 1 by omega]
    refine run_clear_term W1 _ _ ty t22 Tryd.zeroValue24 g ((n - 1) * 3) _ (fun j hj => ?_) (fun j hj => hown1.frozenAt _)
    rw [hown1.cellAt _ (by omega), List.getElem?_eq_getElem (by omega)]; rfl
  have hcm' : cap ≤ 9223372036854775807 := by simpa [maxLen] using hcm
  have hic : i ≤ cap := by omega
  have hic1 : i + 1 ≤ cap := by omega
  have hin : i + 1 ≤ n := by omega
  have q1 : (0 : Int) ≤ (i : Int) + 1 := by omega
  have q2 : (i : Int) + 1 ≤ (n : Int) := by omega
  have hW : Hid (W1 = w.drew.setCells g (0 + i * 3) (xs.drop (i * 3 + 3))) := hW1
  obtain ⟨news, hnews⟩ : ∃ news, news = xs.drop (i * 3 + 3) := ⟨_, rfl⟩
  have HN := Lib.hid (show i + (n - (i + 1)) = n - 1 by omega)
  have HD := Lib.hid hnews
  rw [← hnews] at s1 s2 s3 hW hsrc
  have HF := Lib.hid hER.out
  clear hg hcs htake hcm hxl ho hr hn hW1 hnews hown1 hl1 hER
  go_enter Tryd.func61, Tryd.ntmps61
  go_wp2_with fail
  go_region_law (refine step_append_room rfl (.tmp 22) (.tmp 25) 22 rfl 24 i0 3 t22 hi0 hz1 g 0 i cap (by simp [Act.eval, Act.put]) A (n - (i + 1)) (cap - (i + 1)) news (by simp [Act.eval, Act.put]) s1.out hsrc.out s2.out (by omega) s3.out ?_; rw [← hW.out])
  go_wp2
  go_ret
  obtain ⟨F1, F2⟩ := HF.out [.int .i64 0, .int .i64 0, .slice none 0 0] rfl
  have e1 : w.drew.setCells g (i * 3) (xs.drop (i * 3 + 3)) = W1 := by rw [hW.out, HD.out, Nat.zero_add]
  rw [e1] at F1 F2
  refine ⟨_, rfl, ?_, rfl, ?_⟩
  · rw [HN.out]; exact F1
  · exact ⟨F2.os, F2.tape, F2.output, F2.size, F2.block⟩
end Go.Proofs.YthfcaiipcdibbaaDoor

/- closure: what lies in memory between two steps. -/
set_option linter.unusedSimpArgs false
set_option linter.unusedVariables false
namespace Go.Proofs.YthfcaiipcdibbaaDoor
open Go.RowKit Tm Go.Shelf Go.MapKept

/-- The set s (block r, its variable p), the slice 'locked' (its variable q) that this call made; behind world w0 nothing else has turned. -/
structure AEnv (w0 w : World) (I : Im) (p q r : Nat) (S L : List T) (v : Value) : Prop where
  bel : Below w0.heap.size w0 w
  hq : w0.heap.size ≤ q
  hr : w0.heap.size ≤ r
  m : Boxed w p 57 (.map (some r))
  map : MapT w I r S
  box : Boxed w q 22 v
  own : OwnT w I w0.heap.size v L
theorem boxed_grow {w w' : World} {p : Nat} {t : TypeId} {v : Value} (h : Boxed w p t v) (hb : Below w.heap.size w w') : Boxed w' p t v := (hb.block p h.lt).trans h
theorem AEnv.grow {w0 w w' : World} {I : Im} {p q r : Nat} {S L : List T} {v : Value} (h : AEnv w0 w I p q r S L v) (hb : Below w.heap.size w w') : AEnv w0 w' I p q r S L v :=
  ⟨h.bel.trans (hb.mono h.bel.size), h.hq, h.hr, boxed_grow h.m hb, h.map.grow hb, boxed_grow h.box hb, h.own.grow hb⟩
/-- The four blocks are apart. -/
theorem AEnv.apart {w0 w : World} {I : Im} {p q r : Nat} {S L : List T} {v : Value} (h : AEnv w0 w I p q r S L v) : p ≠ q ∧ p ≠ r ∧ q ≠ r ∧ v.ownBlock ≠ some p ∧ v.ownBlock ≠ some q ∧ v.ownBlock ≠ some r := by
  obtain ⟨⟨es, c, h1, _⟩, _⟩ := h.map
  obtain ⟨xs, ho, _⟩ := h.own
  have hm : w.heap[p]? = _ := h.m
  have hb : w.heap[q]? = _ := h.box
  have hv : ∀ k, v.ownBlock = some k → ∃ cur, w.heap[k]? = some (.cells cur 24 (0, 0)) := fun k hk => by
    rcases ho.2 with ⟨rfl, _⟩ | ⟨g, cap, cur, rfl, _, hg, _⟩
    · simp [Value.ownBlock] at hk
    · simp only [Value.ownBlock, Option.some.injEq] at hk
      subst hk
      exact ⟨cur, hg⟩
  refine ⟨fun e => ?_, fun e => ?_, fun e => ?_, fun e => ?_, fun e => ?_, fun e => ?_⟩
  · subst e; rw [hm] at hb; simp at hb
  · subst e; rw [hm] at h1; simp at h1
  · subst e; rw [hb] at h1; simp at h1
  · obtain ⟨cur, hg⟩ := hv _ e; rw [hm] at hg; simp at hg
  · obtain ⟨cur, hg⟩ := hv _ e; rw [hb] at hg; simp at hg
  · obtain ⟨cur, hg⟩ := hv _ e; rw [h1] at hg; simp at hg
theorem AEnv.lts {w0 w : World} {I : Im} {p q r : Nat} {S L : List T} {v : Value} (h : AEnv w0 w I p q r S L v) : p < w.heap.size ∧ q < w.heap.size ∧ r < w.heap.size ∧ ∀ k, v.ownBlock = some k → w0.heap.size ≤ k ∧ k < w.heap.size := by
  obtain ⟨xs, ho, _⟩ := h.own
  exact ⟨h.m.lt, h.box.lt, h.map.lt, fun k hk => ho.lt k hk⟩
theorem AEnv.kept {w0 w w' : World} {I : Im} {p q r : Nat} {S L : List T} {v : Value} (h : AEnv w0 w I p q r S L v) {X : Nat} (hg : w.grownBy w' (some X)) (hX : w0.heap.size ≤ X) (hp : X ≠ p) (hq : X ≠ q) (hr : X ≠ r) (hv : v.ownBlock ≠ some X) : AEnv w0 w' I p q r S L v := by
  have hs : ∀ k, k ≠ X → some k ≠ some X := fun k hk e => hk (by injection e)
  refine ⟨h.bel.grown hg h.bel.size (fun k e => by cases e; exact hX), h.hq, h.hr, h.m.kept hg (hs _ (Ne.symm hp)), ?_, h.box.kept hg (hs _ (Ne.symm hq)), ?_⟩
  · have hl := h.map.lt
    obtain ⟨⟨es, c, h1, h2⟩, h3⟩ := h.map
    exact ⟨⟨es, c, (hg.block r hl (hs _ (Ne.symm hr))).trans h1, h2⟩, h3⟩
  · obtain ⟨xs, ho, h2⟩ := h.own
    exact ⟨xs, ho.kept hg (.inr hv), h2⟩
theorem AEnv.put {w0 w : World} {I : Im} {p q r : Nat} {S L : List T} {v : Value} (h : AEnv w0 w I p q r S L v) {t : T} (ht : valid t = true) {A : Option Addr} {cap : Nat} (hl : SL I t.l A cap) :
    ∃ w', (Instr.mapUpdate 57 (.map (some r)) (.string (bs (text t))) (.agg #[.int .i64 t.k, .int .i64 t.n, .slice A t.l.length cap])).run Tryd.prog w = .ok () w' ∧ AEnv w0 w' I p q r (Tm.addS S t) L v ∧ w.grownBy w' (some r) := by
  obtain ⟨w', h1, h2, h3⟩ := h.map.addS ht hl
  obtain ⟨a1, a2, a3, a4, a5, a6⟩ := h.apart
  have hs : ∀ k, k ≠ r → some k ≠ some r := fun k hk e => hk (by injection e)
  obtain ⟨xs, ho, hx⟩ := h.own
  exact ⟨w', h1, ⟨h.bel.grown h3 h.bel.size (fun k e => by cases e; exact h.hr), h.hq, h.hr, h.m.kept h3 (hs _ a2), h2, h.box.kept h3 (hs _ a3), xs, ho.kept h3 (.inr a6), hx⟩, h3⟩
theorem AEnv.leaf {w0 W F : World} {I : Im} {p q r : Nat} {S L : List T} {v v' : Value} (h : AEnv w0 W I p q r S L v) {xs : List Value} {t : T} {A : Option Addr} {cap : Nat} (hr : RepC I L xs) (hl : SL I t.l A cap)
    (hL : LeafG w0.heap.size q W F v v' (L.length + 1) (xs ++ [.int .i64 t.k, .int .i64 t.n, .slice A t.l.length cap])) : AEnv w0 F I p q r S (L ++ [t]) v' := by
  obtain ⟨a1, a2, a3, a4, a5, a6⟩ := h.apart
  obtain ⟨l1, l2, l3, l4⟩ := h.lts
  refine ⟨⟨hL.os.trans h.bel.os, hL.tape.trans h.bel.tape, hL.output.trans h.bel.output, Nat.le_trans h.bel.size hL.size, fun k hk => ?_⟩, h.hq, h.hr, ?_, ?_, hL.box, ?_⟩
  · have := h.hq
    refine (hL.block k (Nat.lt_of_lt_of_le hk h.bel.size) (by omega) (fun e => ?_)).trans (h.bel.block k hk)
    have := (l4 k e.symm).1; omega
  · exact (hL.block p l1 a1 (fun e => a4 e.symm)).trans h.m
  · obtain ⟨⟨es, c, h1, h2⟩, h3⟩ := h.map
    exact ⟨⟨es, c, (hL.block r l3 (Ne.symm a3) (fun e => a6 e.symm)).trans h1, h2⟩, h3⟩
  · exact ⟨_, by simpa using hL.row, hr.snoc hl.rep⟩
/-- The call of Text within '_, ok := s[Text(t)]', wherever the set's variable lies. -/
theorem textG (t : T) (w : World) (p : Nat) (v res : Value) (mr : Option Nat) {A : Option Addr} {cap : Nat}
    (hT : ∀ W, Below w.heap.size w W → Calls Tryd.prog 20 #[.agg #[.int .i64 t.k, .int .i64 t.n, .slice A t.l.length cap]] W fun e w' => e = .returned (.string (bs (text t))) ∧ Below W.heap.size W w')
    (hL : ∀ W, Below w.heap.size w W → (Instr.lookup 57 (.map mr) (.string (bs (text t))) true).run Tryd.prog W = .ok res W)
    (hc : w.cell? ⟨p, 0, none⟩ = some v) (W : World) (hW : Below w.heap.size w W) :
    Calls Tryd.prog 20 #[.agg #[.int .i64 t.k, .int .i64 t.n, .slice A t.l.length cap]] W fun e w' => e = .returned (.string (bs (text t))) ∧ Below W.heap.size W w' ∧ Below w.heap.size w w' ∧
      (Instr.lookup 57 (.map mr) (.string (bs (text t))) true).run Tryd.prog w' = .ok res w' ∧ (∀ o, (Instr.lookup 57 (.map mr) (.string (bs (text t))) true).run Tryd.prog (w'.alloc o) = .ok res (w'.alloc o)) ∧ w'.cell? ⟨p, 0, none⟩ = some v ∧ (∀ o, (w'.alloc o).cell? ⟨p, 0, none⟩ = some v) := by
  have hlt := World.block_lt_of_cell? _ _ hc
  refine (hT W hW).mono ?_
  rintro e w' ⟨rfl, hb⟩
  have h2 : Below w.heap.size w w' := hW.trans (hb.mono hW.size)
  have h4 := (h2.cell (p := ⟨p, 0, none⟩) hlt).trans hc
  exact ⟨rfl, hb, h2, hL _ h2, fun o => hL _ (h2.alloc h2.size o), h4, fun o => (World.cell?_alloc_lt _ _ _ (World.block_lt_of_cell? _ _ h4)).trans h4⟩
/-- .. and within 's[Text(t)] = t'. -/
theorem textQ (t : T) {w0 w : World} {I : Im} {p q r : Nat} {S L : List T} {v : Value} (h : AEnv w0 w I p q r S L v) (X : Nat) {A : Option Addr} {cap : Nat} (hm : Tm.Mod w I) (hl : SL I t.l A cap) (hv : valid t = true) (hs : size t ≤ 1000000) (ht : tab w)
    (hX : w.heap[X]? = some (.cells #[.int .i64 t.k, .int .i64 t.n, .slice A t.l.length cap] 24 (0, 0))) (W : World) (hW : Below w.heap.size w W) :
    Calls Tryd.prog 20 #[.agg #[.int .i64 t.k, .int .i64 t.n, .slice A t.l.length cap]] W fun e w' => e = .returned (.string (bs (text t))) ∧ (w'.cell? ⟨p, 0, none⟩ = some (.map (some r)) ∧ w'.cell? ⟨X, 0, none⟩ = some (.int .i64 t.k) ∧ w'.cell? ⟨X, 1, none⟩ = some (.int .i64 t.n) ∧ w'.cell? ⟨X, 2, none⟩ = some (.slice A t.l.length cap)) ∧
      ∃ w7, (Instr.mapUpdate 57 (.map (some r)) (.string (bs (text t))) (.agg #[.int .i64 t.k, .int .i64 t.n, .slice A t.l.length cap])).run Tryd.prog w' = .ok () w7 ∧ AEnv w0 w7 I p q r (Tm.addS S t) L v ∧ w.grownBy w7 (some r) := by
  refine (termText t I W A cap (hm.grow hW) hl hv hs (tab_below ht hW)).mono ?_
  rintro e w' ⟨rfl, hb⟩
  have h3 : Below w.heap.size w w' := hW.trans (hb.mono hW.size)
  obtain ⟨w7, g1, g2, g3⟩ := (h.grow h3).put hv hl
  have hlt := (Array.getElem?_eq_some_iff.1 hX).1
  have hX' := (h3.block X hlt).trans hX
  exact ⟨rfl, ⟨(boxed_grow h.m h3).cell, by simp [World.cell?, hX'], by simp [World.cell?, hX'], by simp [World.cell?, hX']⟩, w7, g1, g2, World.grownBy.trans (Below.but h3 _) g3⟩
end Go.Proofs.YthfcaiipcdibbaaDoor
