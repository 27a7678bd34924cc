import Derived.Test.YthfcaiipcdibbaaDoorMP
import Derived.Test.YthfcaiipcdibbaaDoorRows
import Derived.Deep.Slices
import Derived.Deep.Fields
import Derived.ChangeSame
import Derived.Test.YthfcaiipcdibbaaDoorCards
import Derived.Test.YthfcaiipcdibbaaDoorTie
import Derived.ProofKit
import Derived.OpenShut
import Derived.Deep.DeepHandedRow
import Derived.Lib.LaidTab
import Derived.Carry
import Derived.OpenVars
/- An argument that reads as data is a term, or a list of terms. -/
set_option linter.unusedSimpArgs false
set_option linter.unusedVariables false
namespace Go.Proofs.YthfcaiipcdibbaaDoor
open Go.RowKit Tm Go.ChangeShapes Go.WideShapes Go.Deep
theorem bulk_part {H : Type} {d : DataW H} {l : List (DataW H)} (h : d ∈ l) : Rows.uptoBulk d ≤ Rows.uptoBulkAll l := by
  induction l with
  | nil => cases h
  | cons x r ih =>
    simp only [Rows.uptoBulkAll]
    cases List.mem_cons.1 h with
    | inl e => subst e; omega
    | inr e => have := ih e; omega
theorem bulk_sum {H : Type} : ∀ (l : List T) (D : List (DataW H)), l.length ≤ D.length → (∀ i (h1 : i < l.length) (h2 : i < D.length), size l[i] ≤ Rows.uptoBulk D[i]) → sizes l ≤ Rows.uptoBulkAll D
  | [], _, _, _ => by simp [sizes]
  | a :: l, [], h, _ => by simp at h
  | a :: l, d :: D, h, hi => by
    simp only [sizes, Rows.uptoBulkAll]
    have h0 := hi 0 (by simp) (by simp)
    have h1 := bulk_sum l D (by simpa using h) (fun i h1 h2 => hi (i + 1) (by simpa using h1) (by simpa using h2))
    simp only [List.getElem_cons_zero] at h0
    omega
theorem spot_none {w : World} {a : Addr} {v : Value} (h : w.cell? a = some v) : a = ⟨a.block, a.off, none⟩ := by
  obtain ⟨b, o, s⟩ := a
  unfold World.cell? at h
  split at h
  · cases s with
    | none => rfl
    | some s => simp at h
  · cases h
theorem three_of {α : Type} : ∀ {l : List α}, l.length = 3 → ∃ a b c, l = [a, b, c]
  | [a, b, c], _ => ⟨a, b, c, rfl⟩
theorem list_of {n : Nat} {P : ∀ i, i < n → T → Prop} (h : ∀ i (hi : i < n), ∃ t, P i hi t) : ∃ l : List T, l.length = n ∧ ∀ i (h1 : i < n) (h2 : i < l.length), P i h1 l[i] := by
  have hf : ∃ f : Nat → T, ∀ i (hi : i < n), P i hi (f i) := by
    refine ⟨fun i => if hi : i < n then Classical.choose (h i hi) else .mk 0 0 [], fun i hi => ?_⟩
    show P i hi (if hi : i < n then Classical.choose (h i hi) else .mk 0 0 [])
    rw [dif_pos hi]
    exact Classical.choose_spec (h i hi)
  obtain ⟨f, hf⟩ := hf
  refine ⟨(List.range n).map f, by simp, fun i h1 h2 => ?_⟩
  have e : ((List.range n).map f)[i] = f i := by simp
  rw [e]
  exact hf i h1
section
variable {H : Type} {enc : TypeId × Value → H} {W : World} {base : Nat} {sp : Nat → Bool} {held : Bool}
theorem cell_at {w : World} {b o : Nat} {v : Value} (h : w.cell? ⟨b, o, none⟩ = some v) : (imOf w).at b o = some v := by
  unfold World.cell? at h
  unfold Im.at imOf
  split at h
  · rename_i c t fr hb
    simp only [hb]
    simpa using h
  · cases h
/-- What trod reads of a slice of terms, where each element is a term. -/
theorem read_slice (fuel : Nat) (ih : ∀ f, f < fuel → ∀ (cs : List Value) (x : DataW H × List MemPlace), DataW.trod enc Tryd.prog W base sp held f 24 cs = some x → ∃ t, RepT (imOf W) t cs ∧ size t ≤ Rows.uptoBulk x.1)
    {cs : List Value} {x : DataW H × List MemPlace} (h : DataW.trod enc Tryd.prog W base sp held fuel 22 cs = some x) :
    ∃ (l : List T) (A : Option Addr) (cap : Nat), cs = [.slice A l.length cap] ∧ SL (imOf W) l A cap ∧ sizes l + 1 ≤ Rows.uptoBulk x.1 + 1 := by
  have ht : Tryd.prog.underlying 22 = some (.slice 24) := Tryd.underlying22
  have hc3 : Tryd.prog.cellsOf 24 = 3 := by kernel_rfl
  rcases DataW.trod_slice ht h with ⟨rfl, rfl⟩ | ⟨a, len, cap, elems, rest, n, hn, rfl, rfl, hb, hl, hm, hlen, hel, _, _⟩
  · exact ⟨[], none, 0, rfl, SL.nil _, by simp [sizes]⟩
  have hcm : cap ≤ 9223372036854775807 := by simpa [maxLen] using hm
  rw [hc3] at hel
  have hE : ∀ i (hi : i < len), ∃ t : T, (∃ cs, RepT (imOf W) t cs ∧ ∀ j v, cs[j]? = some v → W.cell? ((a.add (i * 3)).add j) = some v) ∧ size t ≤ Rows.uptoBulk (elems[i]'(by omega)).1 := by
    intro i hi
    have h1 := hel i hi
    rw [List.getElem?_eq_getElem (by omega)] at h1
    obtain ⟨cs, h2, h3⟩ := Option.bind_eq_some_iff.1 h1
    obtain ⟨_, hlc, hat⟩ := World.cells?_some h2
    obtain ⟨t, h4, h5⟩ := ih n (by omega) cs _ h3
    refine ⟨t, ⟨cs, h4, fun j v hj => ?_⟩, h5⟩
    have : j < cs.length := (List.getElem?_eq_some_iff.1 hj).1
    rw [hat j (by omega)]; exact hj
  obtain ⟨l, hll, hP⟩ := list_of hE
  have hbulk : sizes l ≤ Rows.uptoBulkAll (elems.map (·.1)) := by
    refine bulk_sum l _ (by simp; omega) fun i h1 h2 => ?_
    have := (hP i (by omega) h1).2
    simpa using this
  refine ⟨l, some a, cap, by rw [hll], ⟨by omega, hcm, ?_⟩, by simp only [Rows.uptoBulk]; omega⟩
  cases l with
  | nil => simp [RepL]
  | cons t0 l0 =>
    have h0 := (hP 0 (by simp at hll; omega) (by simp)).1
    obtain ⟨cs0, h1, h2⟩ := h0
    have h3 := h1.length
    have hsp := spot_none (h2 0 (cs0[0]'(by omega)) (List.getElem?_eq_getElem (by omega)))
    have hz : (a.add (0 * 3)).add 0 = a := by simp [Addr.add]
    rw [hz] at hsp
    rw [hsp]
    refine RepL.mk fun i hi => ?_
    obtain ⟨cs, h4, h5⟩ := (hP i (by omega) hi).1
    refine ⟨cs, h4, fun j v hj => ?_⟩
    have h6 := h5 j v hj
    rw [hsp, addr_add, addr_add] at h6
    rw [show a.off + 3 * i + j = a.off + i * 3 + j by omega]
    exact cell_at h6
set_option maxRecDepth 100000 in
/-- A value that reads as data of type Term is a term. -/
theorem read_term : ∀ (fuel : Nat) (cs : List Value) (x : DataW H × List MemPlace), DataW.trod enc Tryd.prog W base sp held fuel 24 cs = some x → ∃ t, RepT (imOf W) t cs ∧ size t ≤ Rows.uptoBulk x.1 := by
  intro fuel
  induction fuel using Nat.strongRecOn with
  | _ fuel ih =>
    intro cs x h
    obtain ⟨xs, n, hn, rfl, hlen, hxl, hf⟩ := DataW.trod_struct Tryd.underlying24 h
    have hc3 : Tryd.prog.cellsOf 24 = 3 := by kernel_rfl
    have hci : Tryd.prog.cellsOf 3 = 1 := by kernel_rfl
    have hcs : Tryd.prog.cellsOf 22 = 1 := by kernel_rfl
    rw [hc3] at hlen
    obtain ⟨v0, v1, v2, rfl⟩ := three_of hlen
    obtain ⟨y0, y1, y2, rfl⟩ := three_of (show xs.length = 3 from hxl)
    have h0 := hf 0 _ rfl
    have h1 := hf 1 _ rfl
    have h2 := hf 2 _ rfl
    simp only [hci, hcs, List.drop_zero, List.drop_succ_cons, List.take_succ_cons, List.take_zero, List.getElem?_cons_zero, List.getElem?_cons_succ] at h0 h1 h2
    obtain ⟨k, e0, _⟩ := DataW.trod_int Tryd.underlying3 h0
    obtain ⟨n', e1, _⟩ := DataW.trod_int Tryd.underlying3 h1
    cases e0
    cases e1
    obtain ⟨l, A, cap, e2, h3, h4⟩ := read_slice (H := H) (enc := enc) (W := W) (base := base) (sp := sp) (held := held) n (fun f hf => ih f (by omega)) h2
    cases e2
    refine ⟨.mk k n' l, SL.rep (t := .mk k n' l) h3, ?_⟩
    simp only [size, List.map_cons, List.map_nil, Rows.uptoBulk, Rows.uptoBulkAll]
    omega
theorem read_list {fuel : Nat} {cs : List Value} {x : DataW H × List MemPlace} (h : DataW.trod enc Tryd.prog W base sp held fuel 22 cs = some x) :
    ∃ (l : List T) (A : Option Addr) (cap : Nat), cs = [.slice A l.length cap] ∧ SWt W l A cap ∧ sizes l ≤ Rows.uptoBulk x.1 := by
  obtain ⟨l, A, cap, h1, h2, h3⟩ := read_slice fuel (fun f _ => read_term f) h
  exact ⟨l, A, cap, h1, h2, by omega⟩
end
end Go.Proofs.YthfcaiipcdibbaaDoor

/- What every law's card wants: the tables, the arguments, the frame behind the call. -/
set_option linter.unusedSimpArgs false
set_option linter.unusedVariables false
set_option maxRecDepth 100000
namespace Go.Proofs.YthfcaiipcdibbaaDoor
open Go.RowKit Tm Go.ChangeShapes Go.WideShapes Go.ChangeAt
theorem own : ownKnob Tryd.prog.godebug = none := by kernel_rfl
theorem gP : Tryd.prog.globalNamed "internal/strconv.uint64pow10" = some 0 := by kernel_rfl
theorem gPType : (Tryd.prog.globals[0]?).map (·.type) = some 98 := by kernel_rfl
theorem cellsP : Tryd.prog.cellsOf 98 = 20 := by kernel_rfl
theorem cellsE : Tryd.prog.cellsOf 85 = 1 := by kernel_rfl
/-- What the row's list gives: the powers of ten. -/
theorem tab_of_laid {W : World} (h : laidMet Tryd.prog Rows.termMatchesSpecRow.laid W) : tab W := by
  obtain ⟨ps, ⟨_, _, _, _, _, q, _, _, _, _, ⟨_, _, _, _, _, q2, _, _, _, _, ⟨g', t', cs, fuel, p, q3, hg', ht', hvar, hd, _, _⟩, _⟩, _⟩, _⟩ := h
  obtain rfl := Option.some.inj (gP.symm.trans hg')
  obtain rfl := Option.some.inj (gPType.symm.trans ht')
  unfold tab Lib.TabIs
  rw [hvar, ← Lib.cells_of_tab (k := .u64) (zs := Lib.pow10Tab) Tryd.underlying98 Tryd.underlying85 cellsE cellsP hd]
/-- A world in which the tables hold what their initialisers lay. -/
def fillWith (c : Array Value) : Obj → Obj
  | .cells _ t frozen => .cells c t frozen
  | o => o
noncomputable def laidWorld (os : Os) : World :=
  { World.holding Tryd.prog os ⟨#[], #[], []⟩ with heap := (((World.holding Tryd.prog os ⟨#[], #[], []⟩).heap.modify 0 (fillWith #[.int .u64 1, .int .u64 10, .int .u64 100, .int .u64 1000, .int .u64 10000, .int .u64 100000, .int .u64 1000000, .int .u64 10000000, .int .u64 100000000, .int .u64 1000000000, .int .u64 10000000000, .int .u64 100000000000, .int .u64 1000000000000, .int .u64 10000000000000, .int .u64 100000000000000, .int .u64 1000000000000000, .int .u64 10000000000000000, .int .u64 100000000000000000, .int .u64 1000000000000000000, .int .u64 10000000000000000000])).modify 2 (fillWith #[.int .u8 0, .int .u8 1, .int .u8 28, .int .u8 2, .int .u8 29, .int .u8 14, .int .u8 24, .int .u8 3, .int .u8 30, .int .u8 22, .int .u8 20, .int .u8 15, .int .u8 25, .int .u8 17, .int .u8 4, .int .u8 8, .int .u8 31, .int .u8 27, .int .u8 13, .int .u8 23, .int .u8 21, .int .u8 19, .int .u8 16, .int .u8 7, .int .u8 26, .int .u8 12, .int .u8 18, .int .u8 6, .int .u8 11, .int .u8 5, .int .u8 10, .int .u8 9])).modify 3 (fillWith #[.int .u8 0, .int .u8 1, .int .u8 56, .int .u8 2, .int .u8 57, .int .u8 49, .int .u8 28, .int .u8 3, .int .u8 61, .int .u8 58, .int .u8 42, .int .u8 50, .int .u8 38, .int .u8 29, .int .u8 17, .int .u8 4, .int .u8 62, .int .u8 47, .int .u8 59, .int .u8 36, .int .u8 45, .int .u8 43, .int .u8 51, .int .u8 22, .int .u8 53, .int .u8 39, .int .u8 33, .int .u8 30, .int .u8 24, .int .u8 18, .int .u8 12, .int .u8 5, .int .u8 63, .int .u8 55, .int .u8 48, .int .u8 27, .int .u8 60, .int .u8 41, .int .u8 37, .int .u8 16, .int .u8 46, .int .u8 35, .int .u8 44, .int .u8 21, .int .u8 52, .int .u8 32, .int .u8 23, .int .u8 11, .int .u8 54, .int .u8 26, .int .u8 40, .int .u8 15, .int .u8 34, .int .u8 20, .int .u8 31, .int .u8 10, .int .u8 25, .int .u8 14, .int .u8 19, .int .u8 9, .int .u8 13, .int .u8 8, .int .u8 7, .int .u8 6]) }
section
variable {H : Type} {enc : TypeId × Value → H} {P : Program}
theorem post_of_below {f : Func} {s : ChangeSpec} {apart fresh handsOn again : Bool} {W W' : World} {args : Array Value} {v : Value} {ds gs : List (DataW H)} {before pa pv : List MemPlace}
    (hW : DataW.Whole enc P f.params.toList s.vars apart W args.toList ds gs before)
    (hres : ∀ (b : Nat) (sp : Nat → Bool) (hd : Bool), DataW.TrodAll enc P W' b sp hd f.resultTypes.toList (v.resultList f.resultTypes.size) (s.fn H (ds ++ gs)).results [])
    (hargs : ∀ sp : Nat → Bool, (∀ p ∈ before, sp p.block = true) → DataW.TrodAll enc P W' 0 sp true f.params.toList args.toList (s.fn H (ds ++ gs)).args pa)
    (hvars : ∀ sp : Nat → Bool, (∀ p ∈ before, sp p.block = true) → DataW.TrodVars enc P W' sp s.vars (s.fn H (ds ++ gs)).vars pv)
    (hps : before = pa ++ pv) (hb : Below W.heap.size W W')
    (hok : ∀ (j : Nat) (t : TypeId) (r : Value), f.resultTypes[j]? = some t → (v.resultList f.resultTypes.size)[j]? = some r → Value.okWide P W' .any 0 t r) :
    s.post enc P f apart fresh handsOn again W args v W' := by
  have hlt : ∀ p ∈ before, p.block < W.heap.size := fun p hp => hW.lt p hp
  have hold : ∀ p ∈ before, (fun b => decide (b < W.heap.size)) p.block = true := fun p hp => by simpa using hlt p hp
  refine ⟨ds, gs, before, [], pa, pv, hW, hres _ _ _, hargs _ hold, hvars _ hold, World.keptBut_mono (fun p hp => ⟨hp, ?_⟩) (hb.frame (· ∈ before)), fun _ => ?_⟩
  · rw [hps, List.mem_append] at hp
    exact Or.inr hp
  · obtain ⟨_, _, _, _, _, hz, hn⟩ := hW
    refine ⟨hok, _, _, ([] ++ pa) ++ pv, ⟨[] ++ pa, pv, trodAll_append (hargs _ (fun _ _ => rfl)) (hres _ _ _), hvars _ (fun _ _ => rfl), rfl, ?_, ?_⟩, ?_⟩
    · intro b off hp
      have hin : MemPlace.cell b off ∈ before := by rw [hps]; simpa using hp
      rw [hb.frozen (hlt _ hin)]
      exact hz b off hin
    · intro ha
      have := hn ha
      rw [hps] at this
      simpa using this
    · intro p hp _
      rw [hps]
      simpa using hp
end
section
variable {H : Type} {enc : TypeId × Value → H} {W W' : World}
theorem lay : laidOutB Tryd.prog = true := by kernel_rfl
theorem rrT : Tryd.prog.readableRec 24 = true := by kernel_rfl
theorem rrS : Tryd.prog.readableRec 22 = true := by kernel_rfl
theorem rrI : Tryd.prog.readableRec 3 = true := by kernel_rfl
theorem rowT : 24 < Tryd.prog.types.size := of_decide_eq_true (by kernel_rfl)
theorem rowS : 22 < Tryd.prog.types.size := of_decide_eq_true (by kernel_rfl)
theorem rowI : 3 < Tryd.prog.types.size := of_decide_eq_true (by kernel_rfl)
/-- A parameter of type Term. -/
theorem arg_term {r : Reach} {b0 : Nat} {v : Value} {d : DataW H} {p : List MemPlace} (hv : Value.okWide Tryd.prog W r b0 24 v) (h : DataW.Trod enc Tryd.prog W 0 (fun _ => true) true 24 v d p) :
    ∃ (t : T) (A : Option Addr) (cap : Nat), v = .agg #[.int .i64 t.k, .int .i64 t.n, .slice A t.l.length cap] ∧ SWt W t.l A cap ∧ size t ≤ Rows.uptoBulk d := by
  obtain ⟨cs, rfl, hsz⟩ := okWide_struct Tryd.underlying24 hv
  obtain ⟨fuel, hf⟩ := h
  have e : (Value.agg cs).cells = cs := by simp [Value.cells]
  rw [e] at hf
  obtain ⟨t, h1, h2⟩ := read_term fuel _ _ hf
  obtain ⟨A, cap, h3, h4⟩ := h1.sl
  refine ⟨t, A, cap, ?_, h4, h2⟩
  obtain ⟨l⟩ := cs
  have h3 : l = _ := h3
  rw [h3]
/-- A parameter of type []Term. -/
theorem arg_list {r : Reach} {b0 : Nat} {v : Value} {d : DataW H} {p : List MemPlace} (hv : Value.okWide Tryd.prog W r b0 22 v) (h : DataW.Trod enc Tryd.prog W 0 (fun _ => true) true 22 v d p) :
    ∃ (l : List T) (A : Option Addr) (cap : Nat), v = .slice A l.length cap ∧ SWt W l A cap ∧ sizes l ≤ Rows.uptoBulk d := by
  obtain ⟨A0, len, cap0, rfl⟩ := okWide_slice Tryd.underlying22 hv
  obtain ⟨fuel, hf⟩ := h
  obtain ⟨l, A, cap, h1, h2, h3⟩ := read_list hf
  have e : (Value.slice A0 len cap0).cells = #[.slice A0 len cap0] := by simp [Value.cells]
  rw [e] at h1
  refine ⟨l, A, cap, ?_, h2, h3⟩
  simpa using h1
/-- An argument reads behind the call as it did. -/
theorem arg_stays {t : TypeId} {v : Value} {d : DataW H} {p : List MemPlace} (hr : Tryd.prog.readableRec t = true) (hrow : t < Tryd.prog.types.size) (h : DataW.Trod enc Tryd.prog W 0 (fun _ => true) true t v d p) (hg : Below W.heap.size W W') (hlt : ∀ x ∈ p, x.block < W.heap.size) {sp : Nat → Bool} (hsp : ∀ x ∈ p, sp x.block = true) :
    DataW.Trod enc Tryd.prog W' 0 sp true t v d p := WideElems.Trod_stays lay hr hrow h (fun x hx => hg.same (hlt x hx)) hsp
end
end Go.Proofs.YthfcaiipcdibbaaDoor
