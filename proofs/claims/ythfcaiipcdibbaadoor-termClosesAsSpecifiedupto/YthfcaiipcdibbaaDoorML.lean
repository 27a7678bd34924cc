import Derived.Test.YthfcaiipcdibbaaDoorMK
import Derived.Test.YthfcaiipcdibbaaDoorMF
import Derived.Shelf.SlSortCmp.NoneTotal
import Derived.Ground.SlsfProg
import Derived.Shelf.Lay
/- slices.SortFunc at this program. -/
set_option linter.unusedSimpArgs false
set_option linter.unusedVariables false
namespace Go.Proofs
open Go.Shelf Go.RowKit
def Tryd.sortT_ren : Go.Shelf.Ren := ⟨fun | 6 => 67 | 15 => 77 | 14 => 76 | 28 => 91 | 29 => 79 | 20 => 83 | 21 => 84 | 22 => 85 | 23 => 86 | 24 => 87 | 25 => 88 | 26 => 89 | 27 => 90 | 46 => 94 | 47 => 95 | 48 => 96 | 49 => 97 | 50 => 98 | 57 => 99 | n => n, fun | 22 => 22 | 24 => 24 | 25 => 29 | 3 => 3 | 39 => 96 | 0 => 0 | 53 => 99 | 55 => 85 | 4 => 4 | 46 => 103 | 45 => 102 | 50 => 107 | 5 => 5 | 9 => 9 | 66 => 110 | 70 => 114 | 76 => 118 | 77 => 119 | n => n, fun | n => n⟩
theorem Tryd.sortT : Go.Proofs.SlLaysF0.n6 Tryd.prog Tryd.sortT_ren := {
  mixed := by kernel_rfl
  f6 := ⟨Tryd.f67.name, by decide, Tryd.func67.trans (congrArg some (by kernel_rfl))⟩
  f14 := ⟨Tryd.f76.name, by decide, Tryd.func76.trans (congrArg some (by kernel_rfl))⟩
  f15 := Tryd.func77.trans (congrArg some (by kernel_rfl))
  f20 := ⟨Tryd.f83.name, by decide, Tryd.func83.trans (congrArg some (by kernel_rfl))⟩
  f21 := ⟨Tryd.f84.name, by decide, Tryd.func84.trans (congrArg some (by kernel_rfl))⟩
  f22 := ⟨Tryd.f85.name, by decide, Tryd.func85.trans (congrArg some (by kernel_rfl))⟩
  f23 := ⟨Tryd.f86.name, by decide, Tryd.func86.trans (congrArg some (by kernel_rfl))⟩
  f24 := ⟨Tryd.f87.name, by decide, Tryd.func87.trans (congrArg some (by kernel_rfl))⟩
  f25 := ⟨Tryd.f88.name, by decide, Tryd.func88.trans (congrArg some (by kernel_rfl))⟩
  f26 := ⟨Tryd.f89.name, by decide, Tryd.func89.trans (congrArg some (by kernel_rfl))⟩
  f27 := ⟨Tryd.f90.name, by decide, Tryd.func90.trans (congrArg some (by kernel_rfl))⟩
  f28 := Tryd.func91.trans (congrArg some (by kernel_rfl))
  f29 := Tryd.func79.trans (congrArg some (by kernel_rfl))
  f46 := ⟨Tryd.f94.name, by decide, Tryd.func94.trans (congrArg some (by kernel_rfl))⟩
  f47 := Tryd.func95.trans (congrArg some (by kernel_rfl))
  f48 := Tryd.func96.trans (congrArg some (by kernel_rfl))
  f49 := ⟨Tryd.f97.name, by decide, Tryd.func97.trans (congrArg some (by kernel_rfl))⟩
  f50 := ⟨Tryd.f98.name, by decide, Tryd.func98.trans (congrArg some (by kernel_rfl))⟩
  f57 := ⟨Tryd.f99.name, by decide, Tryd.func99.trans (congrArg some (by kernel_rfl))⟩
  t0 := Tryd.underlying0
  a0 := Tryd.isAgg0
  z0 := Tryd.sizeOf0
  v0 := Tryd.zeroValue0
  t3 := Tryd.underlying3
  a3 := Tryd.isAgg3
  z3 := Tryd.sizeOf3
  v3 := Tryd.zeroValue3
  t4 := Tryd.underlying4
  a4 := Tryd.isAgg4
  z4 := Tryd.sizeOf4
  v4 := Tryd.zeroValue4
  t5 := Tryd.underlying5
  a5 := Tryd.isAgg5
  z5 := Tryd.sizeOf5
  v5 := Tryd.zeroValue5
  t9 := Tryd.underlying9
  a9 := Tryd.isAgg9
  z9 := Tryd.sizeOf9
  v9 := Tryd.zeroValue9
  t22 := Tryd.underlying22
  a22 := Tryd.isAgg22
  z22 := Tryd.sizeOf22
  v22 := Tryd.zeroValue22
  t25 := Tryd.underlying29
  a25 := Tryd.isAgg29
  z25 := Tryd.sizeOf29
  v25 := Tryd.zeroValue29
  t39 := Tryd.underlying96
  a39 := Tryd.isAgg96
  z39 := Tryd.sizeOf96
  v39 := Tryd.zeroValue96
  t45 := Tryd.underlying102
  a45 := Tryd.isAgg102
  z45 := Tryd.sizeOf102
  v45 := Tryd.zeroValue102
  t46 := Tryd.underlying103
  a46 := Tryd.isAgg103
  z46 := Tryd.sizeOf103
  v46 := Tryd.zeroValue103
  t50 := Tryd.underlying107
  a50 := Tryd.isAgg107
  z50 := Tryd.sizeOf107
  v50 := Tryd.zeroValue107
  t53 := Tryd.underlying99
  a53 := Tryd.isAgg99
  z53 := Tryd.sizeOf99
  v53 := Tryd.zeroValue99
  t55 := Tryd.underlying85
  a55 := Tryd.isAgg85
  z55 := Tryd.sizeOf85
  v55 := Tryd.zeroValue85
  t66 := Tryd.underlying110
  a66 := Tryd.isAgg110
  z66 := Tryd.sizeOf110
  v66 := Tryd.zeroValue110
  t70 := Tryd.underlying114
  a70 := Tryd.isAgg114
  z70 := Tryd.sizeOf114
  v70 := Tryd.zeroValue114
  t76 := Tryd.underlying118
  a76 := Tryd.isAgg118
  z76 := Tryd.sizeOf118
  v76 := Tryd.zeroValue118
  t77 := Tryd.underlying119
  a77 := Tryd.isAgg119
  z77 := Tryd.sizeOf119
  v77 := Tryd.zeroValue119 }
end Go.Proofs

/- slices.SortFunc over the entries of a set of terms. -/
set_option linter.unusedSimpArgs false
set_option linter.unusedVariables false
namespace Go.Proofs.YthfcaiipcdibbaaDoor
open Go.RowKit Tm Go.Shelf Go.MapKept

theorem gr_of_below {w w' : World} (h : Below w.heap.size w w') (hd : w.drawn ≤ w'.drawn) : ∃ q os, w' = Sort.grow (w.drewN q) os := by
  refine ⟨w'.drawn - w.drawn, w'.heap.extract w.heap.size w'.heap.size, ?_⟩
  have hh : w'.heap = w.heap ++ w'.heap.extract w.heap.size w'.heap.size := by
    apply Array.ext_getElem?
    intro i
    rw [Array.getElem?_append]
    split
    · rename_i hi; exact h.block i hi
    · rename_i hi
      have := h.size
      rw [Array.getElem?_extract]
      split
      · congr 1; omega
      · rename_i h2
        rw [Array.getElem?_eq_none]
        omega
  have e : w'.drawn = w.drawn + (w'.drawn - w.drawn) := by omega
  cases w' with
  | mk heap tape drawn os output =>
    have h1 := h.os; have h2 := h.tape; have h3 := h.output
    simp only at h1 h2 h3 hh e
    unfold Sort.grow World.drewN
    simp only [h1, h2, h3]
    congr 1

theorem eq_of_key : ∀ {l : List MapEntry}, l.Pairwise (fun x y => x.key ≠ y.key) → ∀ {x y : MapEntry}, x ∈ l → y ∈ l → x.key = y.key → x = y
  | [], _, _, _, hx, _, _ => by cases hx
  | a :: l, h, x, y, hx, hy, e => by
    rw [List.pairwise_cons] at h
    rcases List.mem_cons.1 hx with rfl | hx'
    · rcases List.mem_cons.1 hy with rfl | hy'
      · rfl
      · exact absurd e (h.1 y hy')
    · rcases List.mem_cons.1 hy with rfl | hy'
      · exact absurd e.symm (h.1 x hx')
      · exact eq_of_key h.2 hx' hy' e
theorem Ents.get {I : Im} : ∀ {es : List MapEntry} {S : List T}, Ents I es S → ∀ e ∈ es, ∃ t, t ∈ S ∧ e.key = .string (bs (text t)) ∧ ∃ A cap, e.val = .agg #[.int .i64 t.k, .int .i64 t.n, .slice A t.l.length cap] ∧ SL I t.l A cap
  | [], [], _, e, h => by cases h
  | e0 :: es, t :: S, ⟨⟨h1, A, cap, h2, h3⟩, h4⟩, e, h => by
    rcases List.mem_cons.1 h with rfl | h
    · exact ⟨t, by simp, h1, A, cap, h2, h3⟩
    · obtain ⟨t', g1, g2⟩ := Ents.get h4 e h
      exact ⟨t', by simp [g1], g2⟩
noncomputable def tmOf {I : Im} {es : Array MapEntry} {S : List T} (h : Ents I es.toList S) (x : En es) : T := (h.get x.1 x.2).choose
theorem tmOf_spec {I : Im} {es : Array MapEntry} {S : List T} (h : Ents I es.toList S) (x : En es) : tmOf h x ∈ S ∧ x.1.key = .string (bs (text (tmOf h x))) ∧ ∃ A cap, x.1.val = .agg #[.int .i64 (tmOf h x).k, .int .i64 (tmOf h x).n, .slice A (tmOf h x).l.length cap] ∧ SL I (tmOf h x).l A cap := (h.get x.1 x.2).choose_spec
theorem tmOf_inj {I : Im} {es : Array MapEntry} {S : List T} {clock : Nat} (h : Ents I es.toList S) (hst : Stamped es clock) {x y : En es} (e : tmOf h x = tmOf h y) : x = y := by
  have h1 := (tmOf_spec h x).2.1
  have h2 := (tmOf_spec h y).2.1
  rw [e, ← h2] at h1
  have hnd := List.pairwise_map.1 hst.2.2
  refine Subtype.ext (eq_of_key hnd x.2 y.2 h1)
theorem flat3 {α β : Type} (f : α → List β) : ∀ (l : List α), (∀ x ∈ l, (f x).length = 3) → ∀ (i k : Nat) (hi : i < l.length), k < 3 → (l.flatMap f)[i * 3 + k]? = (f l[i])[k]?
  | [], _, i, _, hi, _ => by simp at hi
  | a :: l, h, 0, k, hi, hk => by
    have := h a (by simp)
    rw [List.flatMap_cons, List.getElem?_append_left (by omega)]
    simp
  | a :: l, h, i + 1, k, hi, hk => by
    have h3 := h a (by simp)
    rw [List.flatMap_cons, List.getElem?_append_right (by omega), h3, show (i + 1) * 3 + k - 3 = i * 3 + k by omega]
    simpa using flat3 f l (fun x hx => h x (by simp [hx])) i k (by simpa using hi) hk
theorem cells3 {I : Im} {es : Array MapEntry} {S : List T} (h : Ents I es.toList S) (x : En es) : (cellsOf x.1).length = 3 ∧ (∀ v ∈ cellsOf x.1, v.oneCell' = true) ∧ Value.agg (cellsOf x.1).toArray = x.1.val := by
  obtain ⟨_, _, A, cap, hv, _⟩ := tmOf_spec h x
  rw [cellsOf_eq hv, hv]
  refine ⟨rfl, ?_, rfl⟩
  intro v hm
  simp only [List.mem_cons, List.not_mem_nil, or_false] at hm
  rcases hm with rfl | rfl | rfl <;> rfl
end Go.Proofs.YthfcaiipcdibbaaDoor

/- What slices.SortFunc leaves in memory. -/
set_option linter.unusedSimpArgs false
set_option linter.unusedVariables false
namespace Go.Proofs.YthfcaiipcdibbaaDoor
open Go.RowKit Tm Go.Shelf Go.MapKept

theorem flatK_toList {α : Type} [Inhabited α] (enc : α → List Value) (h : ∀ x, (enc x).length = 3) (d : Array α) : (Sort.flatK enc 3 d).toList = d.toList.flatMap enc := by
  apply List.ext_getElem?
  intro t
  rcases Nat.lt_or_ge t (d.size * 3) with ht | ht
  · have hi : t / 3 < d.toList.length := by simp; omega
    have h1 := flat3 enc d.toList (fun x _ => h x) (t / 3) (t % 3) hi (Nat.mod_lt _ (by omega))
    rw [show t / 3 * 3 + t % 3 = t by omega] at h1
    rw [h1]
    have h2 : t < (Sort.flatK enc 3 d).size := by simp; exact ht
    have h3 := Sort.get_flatK enc 3 d t ht
    have hd : t / 3 < d.size := by simpa using hi
    rw [getElem!_pos _ t h2] at h3
    rw [Array.getElem?_toList, Array.getElem?_eq_getElem h2, h3, getElem!_pos d (t / 3) hd]
    have h4 : t % 3 < (enc d[t / 3]).length := by rw [h]; exact Nat.mod_lt _ (by omega)
    rw [getElem!_pos (enc d[t / 3]) (t % 3) h4]
    simp [h4]
  · rw [List.getElem?_eq_none (by simp; exact ht), List.getElem?_eq_none]
    have : ∀ l : List α, (l.flatMap enc).length = l.length * 3 := by
      intro l
      induction l with
      | nil => simp
      | cons a l ih => rw [List.flatMap_cons, List.length_append, ih, h]; simp; omega
    rw [this]; simpa using ht

theorem sortW_other {α : Type} [Inhabited α] (enc : α → List Value) (w : World) (blk m : Nat) (d : Array α) (os : Array Obj) (k : Nat) (hk : k < w.heap.size) (hne : k ≠ blk) : (sortWorldK enc 3 w blk 0 m d os).heap[k]? = w.heap[k]? := by
  unfold sortWorldK Sort.grow Sort.putRowK Sort.putRow Sort.mapBlock Sort.ahead
  simp only
  rw [Array.getElem?_append_left (by simpa using hk), Array.getElem?_modify]
  rw [if_neg (fun e => hne e.symm)]
theorem sortW_below {α : Type} [Inhabited α] (enc : α → List Value) (w : World) (blk m : Nat) (d : Array α) (os : Array Obj) (B : Nat) (hB : B ≤ blk) (hs : B ≤ w.heap.size) : Below B w (sortWorldK enc 3 w blk 0 m d os) := by
  refine ⟨rfl, rfl, rfl, ?_, fun k hk => sortW_other enc w blk m d os k (by omega) (by omega)⟩
  unfold sortWorldK Sort.grow Sort.putRowK Sort.putRow Sort.mapBlock Sort.ahead
  simp
theorem sortW_row {α : Type} [Inhabited α] (enc : α → List Value) (h : ∀ x, (enc x).length = 3) (w : World) (base blk m cap : Nat) (d d' : Array α) (os : Array Obj) (hd : d'.size = d.size) (hrow : w.ownsRow base 24 3 (.slice (some ⟨blk, 0, none⟩) d.size cap) d.size (d.toList.flatMap enc)) :
    (sortWorldK enc 3 w blk 0 m d' os).ownsRow base 24 3 (.slice (some ⟨blk, 0, none⟩) d.size cap) d.size (d'.toList.flatMap enc) := by
  have hlen : (d'.toList.flatMap enc).length = d.size * 3 := by rw [← flatK_toList enc h]; simp [hd]
  refine ⟨hlen, .inr ?_⟩
  rcases hrow.2 with ⟨h', _⟩ | ⟨g', cap', cur, h', hb, hh, hn, hcm, hcs, htk⟩
  · simp at h'
  · injection h' with h1 h2 h3
    simp only [Option.some.injEq, Addr.mk.injEq, and_true] at h1
    subst h1; subst h3
    have hlt := (Array.getElem?_eq_some_iff.1 hh).1
    refine ⟨blk, cap, Sort.putCells id 0 (Sort.flatK enc 3 d') cur, rfl, hb, ?_, hn, hcm, ?_, ?_⟩
    · unfold sortWorldK Sort.grow Sort.putRowK Sort.putRow Sort.mapBlock Sort.ahead
      simp only
      rw [Array.getElem?_append_left (by simpa using hlt), Array.getElem?_modify]
      simp [hh, Sort.onCells]
    · unfold Sort.putCells; simpa using hcs
    · rw [← flatK_toList enc h]
      apply List.ext_getElem?
      intro t
      have hsz : (Sort.flatK enc 3 d').size = d.size * 3 := by simp [hd]
      rcases Nat.lt_or_ge t (d.size * 3) with ht | ht
      · have hc : t < cur.size := by rw [hcs]; have := Nat.mul_le_mul_right 3 hn; omega
        rw [List.getElem?_take_of_lt ht, Array.getElem?_toList, Array.getElem?_toList]
        unfold Sort.putCells
        rw [Array.getElem?_mapIdx, Array.getElem?_eq_getElem hc]
        have h5 : t < (Sort.flatK enc 3 d').size := by omega
        simp [h5, hsz, ht]
        try (rw [getElem!_pos _ t h5])
      · rw [List.getElem?_eq_none (by simp; omega), List.getElem?_eq_none (by simp; omega)]
end Go.Proofs.YthfcaiipcdibbaaDoor

/- slices.SortFunc over the entries of a set of terms. -/
set_option linter.unusedSimpArgs false
set_option linter.unusedVariables false
namespace Go.Proofs.YthfcaiipcdibbaaDoor
open Go.RowKit Tm Go.Shelf Go.MapKept

theorem e16 : ∀ args w, (callFunc 16 args).run Tryd.prog w = .ok (.enter 16 args) w := enters_of (f := 16) Tryd.func16 (by kernel_rfl) rfl

theorem swoT {I : Im} {es : Array MapEntry} {S : List T} (h : Ents I es.toList S) : Sort.SWO (ltOf fun x y : En es => cmp (tmOf h x) (tmOf h y)) := {
  irrefl x := by unfold ltOf; simp [cmp_self]
  trans x y z h1 h2 := by
    unfold ltOf at *
    simp only [decide_eq_true_eq] at *
    have := lt_trans (lt_of_neg h1) (lt_of_neg h2)
    unfold lt at this; omega
  ntrans x y z h1 h2 := by
    unfold ltOf at *
    simp only [decide_eq_false_iff_not] at *
    intro h3
    rcases lt_tri (tmOf h x) (tmOf h y) with a | a | a
    · unfold lt at a; omega
    · rw [a] at h3; exact h2 h3
    · have := lt_trans a (lt_of_neg h3)
      unfold lt at this; omega }

/-- The entries of a list, in increasing order of their terms. -/
noncomputable def sortE {I : Im} {es : Array MapEntry} {S : List T} (h : Ents I es.toList S) (xs : List (En es)) : List (En es) := xs.mergeSort fun x y => !(ltOf fun x y : En es => cmp (tmOf h x) (tmOf h y)) y x

set_option maxHeartbeats 1000000 in
theorem sortT {I : Im} {es : Array MapEntry} {S : List T} {clock : Nat} (hE : Ents I es.toList S) (hst : Stamped es clock) (xs : List (En es)) (hlen : xs.length ≤ 1000000000) (w : World) (base : Nat) (v : Value) (hm : Tm.Mod w I) (hI : ∀ b x, I b = some x → b < base) (hbase : base ≤ w.heap.size)
    (hrow : w.ownsRow base 24 3 v xs.length (xs.flatMap fun x => cellsOf x.1)) :
    Calls Tryd.prog 67 #[v, .func (.func 16) #[] #[]] w fun e w' => e = .returned (.tuple #[]) ∧ w'.ownsRow base 24 3 v xs.length ((sortE hE xs).flatMap fun x => cellsOf x.1) ∧ Below base w w' := by
  rcases hrow.2 with ⟨rfl, h0⟩ | ⟨blk, cap, cur, rfl, hb, hh, hn, hcm, hcs, htk⟩
  · have hx : xs = [] := List.eq_nil_of_length_eq_zero h0
    subst hx
    refine (AnyF.slices_SortFunc_none Tryd.sortT none 0 _ w).mono ?_
    rintro e w' ⟨rfl, rfl⟩
    exact ⟨rfl, by simpa [sortE] using hrow, Below.refl _ _⟩
  · by_cases hx : xs = []
    · subst hx
      refine (AnyF.slices_SortFunc_none Tryd.sortT _ cap _ w).mono ?_
      rintro e w' ⟨rfl, rfl⟩
      exact ⟨rfl, by simpa [sortE] using hrow, Below.refl _ _⟩
    · haveI : Inhabited (En es) := ⟨xs.head hx⟩
      have h3 : ∀ x : En es, (cellsOf x.1).length = 3 := fun x => (cells3 hE x).1
      have hblk := (Array.getElem?_eq_some_iff.1 hh).1
      have hd : xs.toArray.size = xs.length := by simp
      have hrow' : w.ownsRow base 24 3 (.slice (some ⟨blk, 0, none⟩) xs.toArray.size cap) xs.toArray.size (xs.toArray.toList.flatMap fun x => cellsOf x.1) := by simpa using hrow
      have hH : Sort.HoldsK (fun x : En es => cellsOf x.1) 3 w blk 0 xs.toArray := by
        intro j hj
        have hj' : j < xs.length * 3 := by simpa using hj
        have h1 := hrow.cellAt j hj'
        rw [Nat.zero_add, h1, ← show (Sort.flatK (fun x : En es => cellsOf x.1) 3 xs.toArray).toList = xs.flatMap (fun x => cellsOf x.1) from by rw [flatK_toList _ h3], Array.getElem?_toList, Array.getElem?_eq_getElem hj, getElem!_pos _ j hj]
        exact ⟨rfl, hrow.frozenAt j⟩
      have hC := AnyQ.slices_SortFunc_total Tryd.sortT 3 Tryd.isAgg24 Tryd.sizeOf24 (fun x : En es => cellsOf x.1) h3 (fun x => (cells3 hE x).2.1) (fun x y : En es => cmp (tmOf hE x) (tmOf hE y)) (swoT hE) 16 #[] blk 0 cap xs.toArray w e16
        (fun m os dk hdk x y => by
          obtain ⟨_, _, A1, c1, v1, s1⟩ := tmOf_spec hE x
          obtain ⟨_, _, A2, c2, v2, s2⟩ := tmOf_spec hE y
          have hb2 := sortW_below (fun x : En es => cellsOf x.1) w blk m dk os base hb hbase
          rw [(cells3 hE x).2.2, (cells3 hE y).2.2, v1, v2]
          refine (termCompareD (tmOf hE x) (tmOf hE y) I _ A1 A2 c1 c2 (hm.below hb2 hI) s1 s2).mono ?_
          rintro e w' ⟨rfl, h1, h2⟩
          exact ⟨rfl, gr_of_below h1 h2⟩)
        hH hblk (by simp; omega) (fun x y h1 h2 => by
          unfold ltOf at h1 h2
          simp only [decide_eq_false_iff_not] at h1 h2
          refine tmOf_inj hE hst ?_
          rcases lt_tri (tmOf hE x) (tmOf hE y) with a | a | a
          · unfold lt at a; omega
          · exact a
          · unfold lt at a; omega)
      rw [hd] at hC
      refine hC.mono ?_
      rintro e w' ⟨rfl, n, os, rfl⟩
      have hr := sortW_row (fun x : En es => cellsOf x.1) h3 w base blk n cap xs.toArray (xs.toArray.toList.mergeSort fun x y => !(ltOf fun x y : En es => cmp (tmOf hE x) (tmOf hE y)) y x).toArray os (by simp) hrow'
      refine ⟨rfl, by simpa [sortE] using hr, sortW_below _ w blk n _ os base hb hbase⟩
end Go.Proofs.YthfcaiipcdibbaaDoor

/- maps.Values, slices.Collect, slices.SortedFunc at a set of terms. -/
set_option linter.unusedSimpArgs false
set_option linter.unusedVariables false
namespace Go.Proofs.YthfcaiipcdibbaaDoor
open Go.RowKit Tm Go.Shelf Go.MapKept

theorem valuesCall (mb : Option Nat) (w : World) : Calls Tryd.prog 58 #[.map mb] w fun e w' => e = .returned (.func (.func 68) #[] #[.pointer (some ⟨w.heap.size, 0, none⟩)]) ∧ w' = w.alloc (.cells #[.map mb] 57) := by
  go_enter Tryd.func58, Tryd.ntmps58
  go_wp2
  go_ret
  exact ⟨rfl, rfl⟩

theorem collectT (Bm b : Nat) (es : Array MapEntry) (clock : Nat) (w : World) (hm : w.cell? ⟨Bm, 0, none⟩ = some (.map (some b))) (hb : w.heap[b]? = some (.map es clock)) (hst : Stamped es clock)
    (hsh : ∀ e ∈ es.toList, ∃ k n A len cap, e.val = .agg #[.int .i64 k, .int .i64 n, .slice A len cap]) (hsz : es.size ≤ 1000000000) :
    Calls Tryd.prog 66 #[.func (.func 68) #[] #[.pointer (some ⟨Bm, 0, none⟩)]] w fun e w' => ∃ v, ∃ xs : List (En es), e = .returned v ∧ (xs.map (·.1)).Perm es.toList ∧ w'.ownsRow w.heap.size 24 3 v xs.length (xs.flatMap fun x => cellsOf x.1) ∧ Below w.heap.size w w' := by
  have HC := Lib.hid (callsIn_wide.1 (appendSeqT 4 (by omega) Bm b es clock w hm hb hst hsh hsz))
  clear hm hb hst hsh hsz
  go_enter Tryd.func66, Tryd.ntmps66
  go_wp2_with (go_at_call 75; refine HC.out.mono ?_; rintro e w' ⟨v, xs, rfl, hp, hr, hb⟩)
  go_ret
  exact ⟨v, xs, rfl, hp, hr, hb⟩

theorem Ents.shape {I : Im} {es : Array MapEntry} {S : List T} (h : Ents I es.toList S) : ∀ e ∈ es.toList, ∃ k n A len cap, e.val = .agg #[.int .i64 k, .int .i64 n, .slice A len cap] := fun e he => by
  obtain ⟨t, _, _, A, cap, hv, _⟩ := h.get e he
  exact ⟨_, _, _, _, _, hv⟩
theorem repC_entries {I : Im} {es : Array MapEntry} {S : List T} (h : Ents I es.toList S) : ∀ xs : List (En es), RepC I (xs.map (tmOf h)) (xs.flatMap fun x => cellsOf x.1)
  | [] => rfl
  | x :: xs => by
    obtain ⟨_, _, A, cap, hv, hs⟩ := tmOf_spec h x
    refine ⟨cellsOf x.1, _, List.flatMap_cons, ?_, repC_entries h xs⟩
    rw [cellsOf_eq hv]
    exact hs.rep
theorem Ents.mem {I : Im} : ∀ {es : List MapEntry} {S : List T}, Ents I es S → ∀ t ∈ S, ∃ e ∈ es, e.key = .string (bs (text t))
  | [], [], _, t, h => by cases h
  | e0 :: es, s :: S, ⟨⟨h1, _⟩, h4⟩, t, h => by
    rcases List.mem_cons.1 h with rfl | h
    · exact ⟨e0, by simp, h1⟩
    · obtain ⟨e, he, hk⟩ := Ents.mem h4 t h
      exact ⟨e, by simp [he], hk⟩
theorem sortE_eq {I : Im} {es : Array MapEntry} {S : List T} {clock : Nat} (h : Ents I es.toList S) (hst : Stamped es clock) (hv : ∀ x ∈ S, valid x = true) (xs : List (En es)) (hp : (xs.map (·.1)).Perm es.toList) : (sortE h xs).map (tmOf h) = sortU S := by
  have hperm : (sortE h xs).Perm xs := List.mergeSort_perm xs _
  have hnd : xs.Nodup := by
    have h1 : (xs.map (·.1)).Nodup := hp.nodup_iff.2 (nodup_of_stamped hst)
    exact (List.pairwise_map.1 h1).imp fun {a b} hab e => hab (by rw [e])
  have hsw := swoT h
  refine sortU_of_mem ?_ fun t => ?_
  · have h1 : (sortE h xs).Pairwise (fun x y => (!(ltOf fun x y : En es => cmp (tmOf h x) (tmOf h y)) y x) = true) := by
      refine List.pairwise_mergeSort ?_ ?_ xs
      · intro a b c hab hbc
        simp only [Bool.not_eq_true'] at *
        exact hsw.ntrans c b a hbc hab
      · intro a b
        simp only [Bool.or_eq_true, Bool.not_eq_true']
        unfold ltOf
        simp only [decide_eq_false_iff_not]
        have := cmp_neg (tmOf h a) (tmOf h b)
        omega
    have h2 : (sortE h xs).Nodup := hperm.nodup_iff.2 hnd
    unfold Sorted
    rw [List.pairwise_map]
    have h3 := List.Pairwise.and h1 h2
    refine h3.imp fun {a b} hab => ?_
    obtain ⟨ha, hne⟩ := hab
    simp only [Bool.not_eq_true'] at ha
    unfold ltOf at ha
    simp only [decide_eq_false_iff_not] at ha
    rcases lt_tri (tmOf h a) (tmOf h b) with c | c | c
    · exact c
    · exact absurd (tmOf_inj h hst c) hne
    · unfold lt at c; omega
  · rw [List.mem_map]
    constructor
    · rintro ⟨x, _, rfl⟩
      exact (tmOf_spec h x).1
    · intro ht
      obtain ⟨e, he, hk⟩ := h.mem t ht
      have hx : e ∈ xs.map (·.1) := hp.mem_iff.2 he
      obtain ⟨x, hx2, rfl⟩ := List.mem_map.1 hx
      refine ⟨x, hperm.mem_iff.2 hx2, ?_⟩
      have h4 := tmOf_spec h x
      have h5 := h4.2.1
      rw [hk] at h5
      injection h5 with h5
      exact (text_inj (hv t ht) (hv _ h4.1) (bs_inj h5)).symm
end Go.Proofs.YthfcaiipcdibbaaDoor

/- slices.SortedFunc, set.list. -/
set_option linter.unusedSimpArgs false
set_option linter.unusedVariables false
namespace Go.Proofs.YthfcaiipcdibbaaDoor
open Go.RowKit Tm Go.Shelf Go.MapKept

theorem sortedT {I : Im} {S : List T} (Bm b : Nat) (es : Array MapEntry) (clock : Nat) (w : World) (hE : Ents I es.toList S) (hv : ∀ x ∈ S, valid x = true) (hM : Tm.Mod w I) (hm : w.cell? ⟨Bm, 0, none⟩ = some (.map (some b))) (hb : w.heap[b]? = some (.map es clock)) (hst : Stamped es clock) (hsz : es.size ≤ 1000000000) :
    Calls Tryd.prog 57 #[.func (.func 68) #[] #[.pointer (some ⟨Bm, 0, none⟩)], .func (.func 16) #[] #[]] w fun e w' => ∃ v, e = .returned v ∧ OwnT w' I w.heap.size v (sortU S) ∧ Below w.heap.size w w' := by
  have HC := Lib.hid (collectT Bm b es clock w hm hb hst hE.shape hsz)
  have HS := Lib.hid (fun (xs : List (En es)) (hp : (xs.map (·.1)).Perm es.toList) (v : Value) (w1 : World) (hr : w1.ownsRow w.heap.size 24 3 v xs.length (xs.flatMap fun x => cellsOf x.1)) (hb1 : Below w.heap.size w w1) =>
    sortT hE hst xs (by have := hp.length_eq; simp at this; omega) w1 w.heap.size v (hM.grow hb1) (fun b x hx => hM.lt hx) hb1.size hr)
  have HQ := Lib.hid (fun (xs : List (En es)) (hp : (xs.map (·.1)).Perm es.toList) => sortE_eq hE hst hv xs hp)
  have HR := Lib.hid (repC_entries hE)
  have HL := Lib.hid (fun (xs : List (En es)) => (List.mergeSort_perm xs (fun x y => !(ltOf fun x y : En es => cmp (tmOf hE x) (tmOf hE y)) y x)).length_eq)
  clear hm hb hst hsz hM hv
  go_enter Tryd.func57, Tryd.ntmps57
  go_wp2_with (first
    | (go_at_call 66; refine HC.out.mono ?_; rintro e w1 ⟨v, xs, rfl, hp, hr, hb1⟩; have HP := Lib.hid hp; have HB1 := Lib.hid hb1; have HS2 := Lib.hid (HS.out xs hp v w1 hr hb1); clear hp hb1 hr)
    | (go_at_call 67; refine HS2.out.mono ?_; rintro e w2 ⟨rfl, hr2, hb2⟩))
  go_ret
  refine ⟨v, rfl, ⟨(sortE hE xs).flatMap fun x => cellsOf x.1, ?_, ?_⟩, HB1.out.trans hb2⟩
  · have e := congrArg List.length (HQ.out xs HP.out)
    have e2 := HL.out xs
    rw [List.length_map] at e
    have e3 : (sortU S).length = xs.length := by rw [← e]; exact e2
    rw [e3]; exact hr2
  · rw [← HQ.out xs HP.out]; exact HR.out _

theorem termList {I : Im} {S : List T} (r : Nat) (w : World) (hM : Tm.Mod w I) (hS : MapT w I r S) (hsz : S.length ≤ 1000000000) :
    Calls Tryd.prog 47 #[.map (some r)] w (RetL I w (sortU S)) := by
  have hlt := hS.lt
  obtain ⟨⟨es, clock, hb, hE, hst⟩, hv⟩ := hS
  have hbx := (Below.refl w.heap.size w).alloc (Nat.le_refl _) (.cells #[.map (some r)] 57)
  have HC := Lib.hid (sortedT w.heap.size r es clock (w.alloc (.cells #[.map (some r)] 57)) hE hv (hM.grow hbx) (World.cell?_alloc_new _ _ _ _) ((hbx.block r hlt).trans hb) hst (by have := hE.length; simp at this; omega))
  have HV := Lib.hid (valuesCall (some r) w)
  have HM := Lib.hid hM
  clear hb hE hst hv hM hbx
  go_enter Tryd.func47, Tryd.ntmps47
  go_wp2_with (first
    | (go_at_call 58; refine HV.out.mono ?_; rintro e w1 ⟨rfl, rfl⟩)
    | (go_at_call 57; refine HC.out.mono ?_; rintro e w2 ⟨v, rfl, ho2, hb2⟩))
  go_ret
  have hbw : Below w.heap.size w w2 := ((Below.refl _ _).alloc (Nat.le_refl _) _).trans (hb2.mono (by simp))
  obtain ⟨J, A, cap, h1, h2, rfl, h4, h5⟩ := ho2.done (HM.out.grow hbw) (fun b x hx => by have := HM.out.lt hx; simp; omega)
  exact ⟨J, A, cap, ⟨h1, fun b x hx => (h5 b x hx).imp id (fun h => by simp at h; omega)⟩, h2, rfl, h4, hbw⟩
end Go.Proofs.YthfcaiipcdibbaaDoor

/- term.Subterms. -/
set_option linter.unusedSimpArgs false
set_option linter.unusedVariables false
namespace Tm
theorem mem_vis (t : T) : ∀ (S : List T) (x : T), x ∈ vis t S ↔ x ∈ S ∨ x ∈ subs t := by
  induction t using T.ind with
  | h k n l ih =>
    have hl : ∀ (l : List T), (∀ a ∈ l, ∀ (S : List T) (x : T), x ∈ vis a S ↔ x ∈ S ∨ x ∈ subs a) → ∀ (S : List T) (x : T), x ∈ viss l S ↔ x ∈ S ∨ x ∈ subsL l := by
      intro l
      induction l with
      | nil => intro _ S x; simp [viss, subsL]
      | cons a l ihl =>
        intro h S x
        simp only [viss, subsL, List.mem_append]
        rw [ihl (fun b hb => h b (by simp [hb])), h a (by simp), or_assoc]
    intro S x
    simp only [vis, subs, List.mem_cons]
    rw [hl l ih, mem_addS, or_assoc]
theorem length_vis (t : T) : ∀ (S : List T), (vis t S).length ≤ S.length + size t := by
  induction t using T.ind with
  | h k n l ih =>
    have hl : ∀ (l : List T), (∀ a ∈ l, ∀ (S : List T), (vis a S).length ≤ S.length + size a) → ∀ (S : List T), (viss l S).length ≤ S.length + sizes l := by
      intro l
      induction l with
      | nil => intro _ S; simp [viss, sizes]
      | cons a l ihl =>
        intro h S
        simp only [viss, sizes]
        have h1 := ihl (fun b hb => h b (by simp [hb])) (vis a S)
        have h2 := h a (by simp) S
        omega
    intro S
    simp only [vis, size]
    have h1 := hl l ih (addS S (.mk k n l))
    have h2 : (addS S (.mk k n l)).length ≤ S.length + 1 := by unfold addS; split <;> simp
    omega
theorem sortU_vis (t : T) : sortU (vis t []) = subterms t := sortU_of_mem (sorted_sortU _) fun x => by rw [mem_sortU, mem_vis]; simp
end Tm
namespace Go.Proofs.YthfcaiipcdibbaaDoor
open Go.RowKit Tm Go.Shelf Go.MapKept
def senvW (w : World) (box : Array Value) : World := (((w.alloc (.cells box 24)).alloc (.map #[] 0)).alloc (.cells #[.map (some (w.heap.size + 1))] 57)).alloc (.cells #[.func (.func 46) #[] #[.pointer (some ⟨w.heap.size + 1 + 1, 0, none⟩), .pointer (some ⟨w.heap.size + 1 + 1 + 1, 0, none⟩)]] 58)
theorem senv (w : World) (box : Array Value) : SEnv (senvW w box) (w.heap.size + 1 + 1) (w.heap.size + 1 + 1 + 1) (w.heap.size + 1) := by
  have h2 : ((w.alloc (.cells box 24)).alloc (.map #[] 0)).heap.size = w.heap.size + 1 + 1 := by simp
  have h3 : (((w.alloc (.cells box 24)).alloc (.map #[] 0)).alloc (.cells #[.map (some (w.heap.size + 1))] 57)).heap.size = w.heap.size + 1 + 1 + 1 := by simp
  refine ⟨?_, ?_⟩
  · unfold senvW
    rw [← h2]
    rw [World.cell?_alloc_lt _ _ _ (by simp)]
    exact World.cell?_alloc_new _ _ _ _
  · have e := World.cell?_alloc_new (((w.alloc (.cells box 24)).alloc (.map #[] 0)).alloc (.cells #[.map (some (w.heap.size + 1))] 57)) #[.func (.func 46) #[] #[.pointer (some ⟨w.heap.size + 1 + 1, 0, none⟩), .pointer (some ⟨w.heap.size + 1 + 1 + 1, 0, none⟩)]] 58 0
    rw [h3] at e
    exact e
theorem smap (w : World) (box : Array Value) (I : Im) : MapT (senvW w box) I (w.heap.size + 1) [] := by
  have h1 : ((w.alloc (.cells box 24))).heap.size = w.heap.size + 1 := by simp
  have h := MapT.made (w.alloc (.cells box 24)) I
  rw [h1] at h
  exact (h.grow ((Below.refl _ _).alloc (Nat.le_refl _) _)).grow ((Below.refl _ _).alloc (Nat.le_refl _) _)

set_option maxHeartbeats 2000000 in
theorem termSubterms (t : T) (I : Im) (w : World) (A : Option Addr) (cap : Nat) (hm : Tm.Mod w I) (hl : SL I t.l A cap) (hv : valid t = true) (hs : size t ≤ 1000000) (ht : tab w) :
    Calls Tryd.prog 23 #[.agg #[.int .i64 t.k, .int .i64 t.n, .slice A t.l.length cap]] w (RetL I w (subterms t)) := by
  have hb : Below w.heap.size w (senvW w #[.int .i64 t.k, .int .i64 t.n, .slice A t.l.length cap]) := ((((Below.refl _ _).alloc (Nat.le_refl _) _).alloc (by simp) _).alloc (by simp; omega) _).alloc (by simp; omega) _
  have hSE := senv w #[.int .i64 t.k, .int .i64 t.n, .slice A t.l.length cap]
  have hSM := smap w #[.int .i64 t.k, .int .i64 t.n, .slice A t.l.length cap] I
  have hm4 := hm.grow hb
  have HC := Lib.hid (visit t I (senvW w #[.int .i64 t.k, .int .i64 t.n, .slice A t.l.length cap]) A cap _ _ _ [] hm4 hl hSE hSM hv hs (tab_below ht hb))
  have HK := Lib.hid (fun (w6 : World) (hS6 : MapT w6 I (w.heap.size + 1) (vis t [])) (hg6 : (senvW w #[.int .i64 t.k, .int .i64 t.n, .slice A t.l.length cap]).grownBy w6 (some (w.heap.size + 1))) =>
    (show w6.cell? ⟨w.heap.size + 1 + 1, 0, none⟩ = some (.map (some (w.heap.size + 1))) ∧ Below w.heap.size w w6 ∧ Calls Tryd.prog 47 #[.map (some (w.heap.size + 1))] w6 (RetL I w6 (sortU (vis t []))) from
      ⟨(hSE.but hSM hg6).m, hb.grown hg6 hb.size (fun k e => by cases e; omega), termList _ w6 (mod_but hm4 (hSM.none hm4) hg6) hS6 (by have := length_vis t []; simp at this; omega)⟩))
  have hsu := Lib.hid (sortU_vis t)
  have hmm := @run_makeMap Tryd.prog
  clear hm hl hv hs ht hb hSE hSM hm4
  go_enter Tryd.func23, Tryd.ntmps23
  go_wp2_with (first
    | (go_at_call 46; refine HC.out.mono ?_; rintro e w6 ⟨rfl, hS6, hg6⟩; obtain ⟨c6, hb6, hL6⟩ := HK.out w6 hS6 hg6; have HB6 := Lib.hid hb6; have HL6 := Lib.hid hL6; clear hS6 hg6 hb6 hL6)
    | (go_at_call 47; refine HL6.out.mono ?_; rintro e w7 ⟨J, A7, cap7, h1, h2, rfl, h4, h5⟩))
  go_ret
  refine ⟨J, A7, cap7, h1.from HB6.out.size, h2, ?_, ?_, HB6.out.trans (h5.mono HB6.out.size)⟩
  · rw [← hsu.out]; rfl
  · rw [← hsu.out]; exact h4
end Go.Proofs.YthfcaiipcdibbaaDoor
