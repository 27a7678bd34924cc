import Derived.Test.YthfcaiipcdibbaaDoorMJ
import Derived.Deep.AppendLies
import Derived.RegionTactic
import Derived.OneCell
import Derived.RangeFuncWrites
import Derived.RangeFuncBox
import Derived.Maps.AppendAt
/- slices.AppendSeq over the values of a set of terms. -/
set_option linter.unusedSimpArgs false
set_option linter.unusedVariables false
namespace Go.Proofs.YthfcaiipcdibbaaDoor
open Go.RowKit Tm Go.Shelf Go.MapKept
attribute [local go_sem] Oper.semAt_some

def cellsOf (e : MapEntry) : List Value := match e.val with | .agg a => a.toList | _ => []
theorem cellsOf_eq {e : MapEntry} {a : Array Value} (h : e.val = .agg a) : cellsOf e = a.toList := by unfold cellsOf; rw [h]

theorem values_stops (F : Fence) (n : Nat) (hf : F.fn 68) (hro : F.round = none) (hn : 1 ≤ n) (Bm b : Nat) (es : Array MapEntry) (clock : Nat) (w : World) (hBm : Bm < w.heap.size) (hm : w.cell? ⟨Bm, 0, none⟩ = some (.map (some b))) (hb : w.heap[b]? = some (.map es clock)) (hst : Stamped es clock)
    (hsh : ∀ e ∈ es.toList, ∃ k n A len cap, e.val = .agg #[.int .i64 k, .int .i64 n, .slice A len cap]) :
    SeqStopsK F n Tryd.prog 68 #[.pointer (some ⟨Bm, 0, none⟩)] (fun x : En es => #[x.1.val]) KeepsWalks (fun xs => (xs.map (·.1)).Perm es.toList) (fun _ => True) es.size w := fun l J Jx W hW hJ _ hY h0 =>
  valuesIter F n hf hro hn l Bm b es clock J Jx hY W hJ ((hW.cell (p := ⟨Bm, 0, none⟩) hBm).trans hm) ((hW.block b (Array.getElem?_eq_some_iff.1 hb).1).trans hb) hst hsh h0

theorem newsZ {W : World} : ∀ j u, ([.int .i64 0, .int .i64 0, .slice none 0 0] : List Value)[j]? = some u → (W.alloc (.cells #[.int .i64 0, .int .i64 0, .slice none 0 0] 24)).drew.cell? ((⟨W.heap.size, 0, none⟩ : Addr).add j) = some u := fun j u hu => World.news_of_block (MapKept.heap_alloc W (.cells #[.int .i64 0, .int .i64 0, .slice none 0 0] 24)).1 j u hu
theorem oneZ : ∀ u ∈ ([.int .i64 0, .int .i64 0, .slice none 0 0] : List Value), u.oneCell' = true := by
  intro u hu
  simp only [List.mem_cons, List.not_mem_nil, or_false] at hu
  rcases hu with rfl | rfl | rfl <;> rfl
theorem tailFacts {w W : World} {Bx k n' len cap n capv : _} {A av : Option Addr} {xs : List Value} (hrow : W.ownsRow w.heap.size 24 3 (.slice av n capv) n xs) (bV : Boxed W w.heap.size 22 (.slice av n capv)) (bX : W.heap[Bx]? = some (.cells #[.int .i64 k, .int .i64 n', .slice A len cap] 24 (0, 0)))
    (hne : (Value.slice av n capv).ownBlock ≠ some Bx) (hBx : w.heap.size < Bx) (g1 cap1 : Nat) (w1 : World) (hown1 : w1.ownsRow w.heap.size 24 3 (.slice (some ⟨g1, 0, none⟩) (n + 1) cap1) (n + 1) (xs ++ [.int .i64 0, .int .i64 0, .slice none 0 0]))
    (hg1 : (W.alloc (.cells #[.int .i64 0, .int .i64 0, .slice none 0 0] 24)).drew.grownBy w1 (Value.slice av n capv).ownBlock) (hor : (Value.slice av n capv).ownBlock = some g1 ∨ g1 = (W.alloc (.cells #[.int .i64 0, .int .i64 0, .slice none 0 0] 24)).drew.heap.size) :
    w1.cell? ⟨g1, n * 3, none⟩ = some (.int .i64 0) ∧ w1.cell? ⟨g1, n * 3 + 1, none⟩ = some (.int .i64 0) ∧ w1.cell? ⟨g1, n * 3 + 2, none⟩ = some (.slice none 0 0) ∧ w1.frozen? ⟨g1, n * 3, none⟩ = false ∧ w1.frozen? ⟨g1, n * 3 + 1, none⟩ = false ∧ w1.frozen? ⟨g1, n * 3 + 2, none⟩ = false ∧
      w1.cell? ⟨w.heap.size, 0, none⟩ = some (.slice av n capv) ∧ w1.frozen? ⟨w.heap.size, 0, none⟩ = false ∧
      (∀ u, (w1.setCell ⟨g1, n * 3, none⟩ u).cell? ⟨w.heap.size, 0, none⟩ = some (.slice av n capv)) ∧ (∀ u, (w1.setCell ⟨w.heap.size, 0, none⟩ u).cell? ⟨g1, n * 3, none⟩ = some (.int .i64 0)) ∧ (∀ u, (w1.setCell ⟨w.heap.size, 0, none⟩ u).cell? ⟨g1, n * 3 + 1, none⟩ = some (.int .i64 0)) ∧ (∀ u, (w1.setCell ⟨w.heap.size, 0, none⟩ u).cell? ⟨g1, n * 3 + 2, none⟩ = some (.slice none 0 0)) ∧
      (Boxed w1 w.heap.size 22 (.slice av n capv) ∧ w.heap.size ≠ g1 ∧ w.heap.size ≤ g1) := by
  have hl : xs.length = n * 3 := hrow.1
  have h0 := hown1.cellAt (n * 3) (by omega)
  have h1 := hown1.cellAt (n * 3 + 1) (by omega)
  have h2 := hown1.cellAt (n * 3 + 2) (by omega)
  rw [List.getElem?_append_right (by omega), hl] at h0 h1 h2
  have hbn : some w.heap.size ≠ (Value.slice av n capv).ownBlock := by
    intro e
    rcases hrow.2 with ⟨h, _⟩ | ⟨g', cap', cur', h, hb, hh, _⟩
    · injection h with h _ _
      subst h
      simp [Value.ownBlock] at e
    · injection h with h _ _
      subst h
      simp only [Value.ownBlock, Option.some.injEq] at e
      subst e
      have := bV.symm.trans hh
      simp at this
  have bB : Boxed w1 w.heap.size 22 (.slice av n capv) := (show Boxed (W.alloc (.cells #[.int .i64 0, .int .i64 0, .slice none 0 0] 24)).drew w.heap.size 22 (.slice av n capv) from bV.alloc _).kept hg1 hbn
  have hgg : w.heap.size ≠ g1 ∧ w.heap.size ≤ g1 := by
    rcases hown1.2 with ⟨h, _⟩ | ⟨g', cap', cur', h, hb, hh, _⟩
    · simp at h
    · injection h with h _ _
      simp only [Option.some.injEq, Addr.mk.injEq, and_true] at h
      subst h
      refine ⟨fun e => ?_, hb⟩
      rw [← e] at hh
      have := bB.symm.trans hh
      simp at this
  have hn1 : ∀ o, (⟨g1, o, none⟩ : Addr) ≠ ⟨w.heap.size, 0, none⟩ := fun o e => hgg.1 (by injection e with e _ _; exact e.symm)
  have k0 : w1.cell? ⟨g1, n * 3, none⟩ = some (.int .i64 0) := by simpa using h0
  have k1 : w1.cell? ⟨g1, n * 3 + 1, none⟩ = some (.int .i64 0) := by simpa using h1
  have k2 : w1.cell? ⟨g1, n * 3 + 2, none⟩ = some (.slice none 0 0) := by simpa using h2
  exact ⟨k0, k1, k2, hown1.frozenAt _, hown1.frozenAt _, hown1.frozenAt _, bB.cell, bB.frozen,
    fun u => (World.cell?_setCell_other w1 _ _ _ (hn1 _)).trans bB.cell, fun u => (World.cell?_setCell_other w1 _ _ _ (hn1 _).symm).trans k0, fun u => (World.cell?_setCell_other w1 _ _ _ (hn1 _).symm).trans k1, fun u => (World.cell?_setCell_other w1 _ _ _ (hn1 _).symm).trans k2, bB, hgg.1, hgg.2⟩
theorem set3 {xs : List Value} {n : Nat} (h : xs.length = n) (a b c u v t : Value) : (((xs ++ [a, b, c]).set n u).set (n + 1) v).set (n + 2) t = xs ++ [u, v, t] := by
  subst h
  rw [List.set_append_right _ _ (Nat.le_refl _), List.set_append_right _ _ (by omega), List.set_append_right _ _ (by omega)]
  simp
def LeafP {es : Array MapEntry} (w W F : World) (pre : List (En es)) (x : En es) : Prop :=
  KeepsFrom (w.heap.size + 1) W F ∧ KeepsWalks W F ∧ (∃ v, Boxed F w.heap.size 22 v ∧ F.ownsRow w.heap.size 24 3 v (pre ++ [x]).length ((pre ++ [x]).flatMap fun x => cellsOf x.1)) ∧ Below w.heap.size w F
theorem leafFacts {es : Array MapEntry} {w W : World} {pre : List (En es)} {x : En es} {Bx : Nat} {k n' : Int} {len cap capv : Nat} {A av : Option Addr} (hrow : W.ownsRow w.heap.size 24 3 (.slice av pre.length capv) pre.length (pre.flatMap fun x => cellsOf x.1)) (bV : Boxed W w.heap.size 22 (.slice av pre.length capv)) (bX : W.heap[Bx]? = some (.cells #[.int .i64 k, .int .i64 n', .slice A len cap] 24 (0, 0)))
    (hne : (Value.slice av pre.length capv).ownBlock ≠ some Bx) (hBx : w.heap.size < Bx) (hB : Below w.heap.size w W) (hval : x.1.val = .agg #[.int .i64 k, .int .i64 n', .slice A len cap]) (g1 cap1 : Nat) (w1 : World) (hown1 : w1.ownsRow w.heap.size 24 3 (.slice (some ⟨g1, 0, none⟩) (pre.length + 1) cap1) (pre.length + 1) ((pre.flatMap fun x => cellsOf x.1) ++ [.int .i64 0, .int .i64 0, .slice none 0 0]))
    (hg1 : (W.alloc (.cells #[.int .i64 0, .int .i64 0, .slice none 0 0] 24)).drew.grownBy w1 (Value.slice av pre.length capv).ownBlock) (hor : (Value.slice av pre.length capv).ownBlock = some g1 ∨ g1 = (W.alloc (.cells #[.int .i64 0, .int .i64 0, .slice none 0 0] 24)).drew.heap.size) :
    LeafP w W ((((w1.setCell ⟨g1, pre.length * 3, none⟩ (.int .i64 k)).setCell ⟨g1, pre.length * 3 + 1, none⟩ (.int .i64 n')).setCell ⟨g1, pre.length * 3 + 2, none⟩ (.slice A len cap)).setCell ⟨w.heap.size, 0, none⟩ (.slice (some ⟨g1, 0, none⟩) (pre.length + 1) cap1)) pre x ∧
    LeafP w W ((((w1.setCell ⟨w.heap.size, 0, none⟩ (.slice (some ⟨g1, 0, none⟩) (pre.length + 1) cap1)).setCell ⟨g1, pre.length * 3, none⟩ (.int .i64 k)).setCell ⟨g1, pre.length * 3 + 1, none⟩ (.int .i64 n')).setCell ⟨g1, pre.length * 3 + 2, none⟩ (.slice A len cap)) pre x := by
  obtain ⟨_, _, _, _, _, _, _, _, _, _, _, _, bB, hgne, hgle⟩ := tailFacts hrow bV bX hne hBx g1 cap1 w1 hown1 hg1 hor
  have hl : (pre.flatMap fun x => cellsOf x.1).length = pre.length * 3 := hrow.1
  have hfm : (pre ++ [x]).flatMap (fun x => cellsOf x.1) = (pre.flatMap fun x => cellsOf x.1) ++ [.int .i64 k, .int .i64 n', .slice A len cap] := by
    rw [List.flatMap_append]
    simp [cellsOf_eq hval]
  have hK : KeepsOthers W w1 := ((KeepsOthers.alloc W (.cells #[.int .i64 0, .int .i64 0, .slice none 0 0] 24)).trans (KeepsOthers.drew _)).trans (KeepsOthers.of_grownBy hg1 fun j o e ho => by
    rcases hrow.2 with ⟨h, _⟩ | ⟨g', cap', cur', h, hb, hh, _⟩
    · injection h with h _ _; subst h; simp [Value.ownBlock] at e
    · injection h with h _ _
      subst h
      simp only [Value.ownBlock, Option.some.injEq] at e
      subst e
      have h2 : (W.alloc (.cells #[.int .i64 0, .int .i64 0, .slice none 0 0] 24)).heap[g']? = some (.cells cur' 24 (0, 0)) := ((MapKept.heap_alloc W (.cells #[.int .i64 0, .int .i64 0, .slice none 0 0] 24)).2 g' (Array.getElem?_eq_some_iff.1 hh).1).trans hh
      have h3 := h2.symm.trans ho
      injection h3 with h3; subst h3; rfl)
  have hBA : Below w.heap.size w w1 := ((hB.alloc hB.size (.cells #[.int .i64 0, .int .i64 0, .slice none 0 0] 24)).drew).grown hg1 (by show w.heap.size ≤ (W.alloc (.cells #[.int .i64 0, .int .i64 0, .slice none 0 0] 24)).heap.size; have := hB.size; simp; omega) (fun k e => (hrow.lt k e).1)
  have hob : (Value.slice (some ⟨g1, 0, none⟩) (pre.length + 1) cap1).ownBlock ≠ some w.heap.size := by simp only [Value.ownBlock, ne_eq, Option.some.injEq]; exact fun e => hgne e.symm
  have hks : ∀ {A : World} (a : Addr) (u : Value), KeepsOthers W A → KeepsOthers W (A.setCell a u) := fun a u h => h.trans (KeepsOthers.setCell _ a u)
  have k4 : ∀ (a b c d : Addr) (p q r t : Value), KeepsOthers W ((((w1.setCell a p).setCell b q).setCell c r).setCell d t) := fun a b c d p q r t => hks _ _ (hks _ _ (hks _ _ (hks _ _ hK)))
  have hsn : some w.heap.size ≠ some g1 := fun e => hgne (by injection e)
  have hs1 := hown1.stored (pre.length * 3) (.int .i64 k)
  have hs2 := hs1.1.stored (pre.length * 3 + 1) (.int .i64 n')
  have hs3 := hs2.1.stored (pre.length * 3 + 2) (.slice A len cap)
  have h0 := ownsRow_setCell_other (a := ⟨w.heap.size, 0, none⟩) hown1 hob (.slice (some ⟨g1, 0, none⟩) (pre.length + 1) cap1)
  have ht1 := h0.stored (pre.length * 3) (.int .i64 k)
  have ht2 := ht1.1.stored (pre.length * 3 + 1) (.int .i64 n')
  have ht3 := ht2.1.stored (pre.length * 3 + 2) (.slice A len cap)
  refine ⟨⟨(k4 _ _ _ _ _ _ _ _).from _, (k4 _ _ _ _ _ _ _ _).walks, ⟨.slice (some ⟨g1, 0, none⟩) (pre.length + 1) cap1, ?_, ?_⟩, ?_⟩, (k4 _ _ _ _ _ _ _ _).from _, (k4 _ _ _ _ _ _ _ _).walks, ⟨.slice (some ⟨g1, 0, none⟩) (pre.length + 1) cap1, ?_, ?_⟩, ?_⟩
  · exact Boxed.set _ (((bB.kept hs1.2 hsn).kept hs2.2 hsn).kept hs3.2 hsn)
  · have h := hs3.1
    rw [set3 hl] at h
    rw [hfm, List.length_append]
    exact ownsRow_setCell_other h hob _
  · exact (((hBA.setCell (p := ⟨g1, _, none⟩) hgle _).setCell (p := ⟨g1, _, none⟩) hgle _).setCell (p := ⟨g1, _, none⟩) hgle _).setCell (p := ⟨w.heap.size, _, none⟩) (Nat.le_refl _) _
  · exact (((Boxed.set _ bB).kept ht1.2 hsn).kept ht2.2 hsn).kept ht3.2 hsn
  · have h := ht3.1
    rw [set3 hl] at h
    rw [hfm, List.length_append]
    exact h
  · exact (((hBA.setCell (p := ⟨w.heap.size, _, none⟩) (Nat.le_refl _) _).setCell (p := ⟨g1, _, none⟩) hgle _).setCell (p := ⟨g1, _, none⟩) hgle _).setCell (p := ⟨g1, _, none⟩) hgle _

set_option maxHeartbeats 4000000 in
set_option maxRecDepth 100000 in
theorem appendSeqT (n : Nat) (hn : 4 ≤ n) (Bm b : Nat) (es : Array MapEntry) (clock : Nat) (w : World) (hm : w.cell? ⟨Bm, 0, none⟩ = some (.map (some b))) (hb : w.heap[b]? = some (.map es clock)) (hst : Stamped es clock)
    (hsh : ∀ e ∈ es.toList, ∃ k n A len cap, e.val = .agg #[.int .i64 k, .int .i64 n, .slice A len cap]) (hsz : es.size ≤ 1000000000) :
    CallsIn Fence.wide n Tryd.prog 75 #[.slice none 0 0, .func (.func 68) #[] #[.pointer (some ⟨Bm, 0, none⟩)]] w fun e w' => ∃ v, ∃ xs : List (En es), e = .returned v ∧ (xs.map (·.1)).Perm es.toList ∧ w'.ownsRow w.heap.size 24 3 v xs.length (xs.flatMap fun x => cellsOf x.1) ∧ Below w.heap.size w w' := by
  have h1 : 1 ≤ n := by omega
  have hBm := World.block_lt_of_cell? _ _ hm
  have hbl := (Array.getElem?_eq_some_iff.1 hb).1
  refine callsIn_of_wp_marks Tryd.func75 rfl trivial ?_ rfl
  simp only [Tryd.ntmps75, List.size_toArray, List.length_cons, List.length_nil, Nat.reduceAdd, Nat.reduceSub, Array.replicate_succ, Array.replicate_zero, List.push_toArray, List.append_toArray, List.nil_append, List.cons_append]
  gi_wp2
  have bS := Boxed.new w 22 (.slice none 0 0)
  have hB0 : Below w.heap.size w (w.alloc (.cells #[.slice none 0 0] 22)) := (Below.refl _ w).alloc (Nat.le_refl _) _
  have hsz0 : (w.alloc (.cells #[.slice none 0 0] 22)).heap.size = w.heap.size + 1 := by simp
  have hm0 := (World.cell?_alloc_lt w (.cells #[.slice none 0 0] 22) _ hBm).trans hm
  have hb0 : (w.alloc (.cells #[.slice none 0 0] 22)).heap[b]? = some (.map es clock) := ((heap_alloc w _).2 b hbl).trans hb
  obtain ⟨W0, hW0⟩ : ∃ W0, w.alloc (.cells #[.slice none 0 0] 22) = W0 := ⟨_, rfl⟩
  rw [hW0] at bS hB0 hsz0 hm0 hb0 ⊢
  clear hW0
  refine wpIn_rangeFunc_ownH rfl h1 (gf := 68) (lb := #[.pointer (some ⟨Bm, 0, none⟩)]) rfl trivial (enters_of Tryd.func68 (by kernel_rfl) rfl)
    (values_stops Fence.wide (n - 1) trivial rfl (by omega) Bm b es clock W0 (by omega) hm0 hb0 hst hsh) walksK_t walksK_b (Below.refl _ _) (fun _ => rfl)
    (fun pre W => (∃ v, Boxed W w.heap.size 22 v ∧ W.ownsRow w.heap.size 24 3 v pre.length (pre.flatMap fun x => cellsOf x.1)) ∧ Below w.heap.size w W)
    (fun _ _ _ => False)
    (OwnFrom.and (fun s X Y row hs hg hr => ?own) (ownFrom_below (Nat.le_refl _) (by omega)))
    (fun _ _ _ _ _ hs _ _ => hs)
    ⟨⟨_, bS, World.ownsRow_nil _ _ _ _⟩, hB0⟩
    (fun x a' W => ∃ Bx k n A len cap v, x.1.val = .agg #[.int .i64 k, .int .i64 n, .slice A len cap] ∧ w.heap.size < Bx ∧ W.heap[Bx]? = some (.cells #[.int .i64 k, .int .i64 n, .slice A len cap] 24 (0, 0)) ∧ Boxed W w.heap.size 22 v ∧ v.ownBlock ≠ some Bx ∧
      a' = { tmps := #[.slice none 0 0, .func (.func 68) #[] #[.pointer (some ⟨Bm, 0, none⟩)], .pointer (some ⟨w.heap.size, 0, none⟩), undef, .slice none 0 0, .pointer (some ⟨Bx, 0, none⟩), .func (.func 68) #[] #[.pointer (some ⟨Bm, 0, none⟩)], x.1.val, undef, undef, undef, undef, undef, undef, undef], defers := [] })
    (fun x a' _ X Y row hs hg hr => ?ax)
    ?assign ?body ?done ?stop
  case own =>
    obtain ⟨v, bv, hrow⟩ := hs
    have hne : ∀ r, row = some r → v.ownBlock ≠ some r ∧ w.heap.size ≠ r := fun r e => by
      obtain ⟨_, o, ho, hc⟩ := hr r e
      refine ⟨fun e2 => ?_, fun e2 => ?_⟩
      · rcases hrow.2 with ⟨h, _⟩ | ⟨g', cap', cur', h, hb', hh, _⟩
        · subst h; simp [Value.ownBlock] at e2
        · subst h
          simp only [Value.ownBlock, Option.some.injEq] at e2
          subst e2
          have h3 := hh.symm.trans ho
          injection h3 with h3; subst h3; cases hc
      · subst e2
        have h3 := (show X.heap[w.heap.size]? = _ from bv).symm.trans ho
        injection h3 with h3; subst h3; cases hc
    refine ⟨v, bv.kept hg (fun e => (hne _ e.symm).2 rfl), hrow.kept hg ?_⟩
    cases hv : v.ownBlock with
    | none => exact .inl rfl
    | some g => exact .inr (fun e => (hne g e.symm).1 hv)
  case ax =>
    obtain ⟨Bx, k, n', A, len, cap, v, h1', h2, h3, h4, h5, h6⟩ := hs
    refine ⟨Bx, k, n', A, len, cap, v, h1', h2, (hg.block Bx (Array.getElem?_eq_some_iff.1 h3).1 fun e => ?_).trans h3, h4.kept hg (fun e => ?_), h5, h6⟩
    · obtain ⟨_, o, ho, hc⟩ := hr Bx e.symm
      have h7 := h3.symm.trans ho
      injection h7 with h7; subst h7; cases hc
    · obtain ⟨_, o, ho, hc⟩ := hr _ e.symm
      have h7 := (show X.heap[w.heap.size]? = _ from h4).symm.trans ho
      injection h7 with h7; subst h7; cases hc
  case assign =>
    rintro l pre x W K ⟨⟨v, bV, hrow⟩, hB⟩ hK
    obtain ⟨k, n', A, len, cap, hval⟩ := hsh x.1 x.2
    rw [hval]
    have hlt := bV.lt
    gi_wp2
    refine hK _ _ ((KeepsOthers.alloc W _).from _) (KeepsWalks.alloc W _) ⟨⟨v, bV.alloc _, hrow.alloc _⟩, hB.alloc hB.size _⟩ ⟨W.heap.size, k, n', A, len, cap, v, hval, hlt, (heap_alloc W _).1, bV.alloc _, ?_, by rw [hval]⟩
    intro e
    exact Nat.lt_irrefl _ (hrow.lt _ e).2
  case body =>
    rintro l pre x a' W hl ⟨r, hr⟩ ⟨⟨v, bV, hrow⟩, hB⟩ ⟨Bx, k, n', A, len, cap, v', hval, hBx, bX, bV', hne, rfl⟩ hlt
    obtain rfl : v = v' := by
      have e := bV.symm.trans bV'
      injection e with e; injection e with e; injection e with e
      simpa using e
    obtain ⟨av, capv, rfl⟩ : ∃ A' cap', v = .slice A' pre.length cap' := by
      rcases hrow.2 with ⟨h, h0⟩ | ⟨g', cap', cur', h, _⟩
      · exact ⟨none, 0, by rw [h, h0]⟩
      · exact ⟨_, _, h⟩
    rw [hval]
    have cV := bV.cell
    have cVa := (bV.alloc (.cells #[.int .i64 0, .int .i64 0, .slice none 0 0] 24)).cell
    have lB := bV.lt
    have e0 : W.cell? ⟨Bx, 0, none⟩ = some (.int .i64 k) := by simp [World.cell?, bX]
    have e1 : W.cell? ⟨Bx, 1, none⟩ = some (.int .i64 n') := by simp [World.cell?, bX]
    have e2 : W.cell? ⟨Bx, 2, none⟩ = some (.slice A len cap) := by simp [World.cell?, bX]
    have lX := World.block_lt_of_cell? _ _ e0
    have e0a := (World.cell?_alloc_lt W (.cells #[.int .i64 0, .int .i64 0, .slice none 0 0] 24) ⟨Bx, 0, none⟩ lX).trans e0
    have e1a := (World.cell?_alloc_lt W (.cells #[.int .i64 0, .int .i64 0, .slice none 0 0] 24) ⟨Bx, 1, none⟩ lX).trans e1
    have e2a := (World.cell?_alloc_lt W (.cells #[.int .i64 0, .int .i64 0, .slice none 0 0] 24) ⟨Bx, 2, none⟩ lX).trans e2
    obtain ⟨i0, hi, hz0, hz1, hz2⟩ := info_parts Tryd.infoT
    have hTail := Lib.hid (tailFacts hrow bV bX hne hBx)
    have HLeaf := Lib.hid (leafFacts hrow bV bX hne hBx hB hval)
    have hpl : pre.length ≤ 1000000000 := by omega
    have hlt1 : (pre.length : Int) < (pre.length : Int) + 1 := by omega
    have hrowA : (W.alloc (.cells #[.int .i64 0, .int .i64 0, .slice none 0 0] 24)).drew.ownsRow w.heap.size 24 3 (.slice av pre.length capv) pre.length (pre.flatMap fun x => cellsOf x.1) := hrow.alloc _
    have hszB : w.heap.size ≤ (W.alloc (.cells #[.int .i64 0, .int .i64 0, .slice none 0 0] 24)).drew.heap.size := by show w.heap.size ≤ (W.alloc (.cells #[.int .i64 0, .int .i64 0, .slice none 0 0] 24)).heap.size; have := hB.size; simp; omega
    clear bX bV bV' hrow hne hr hval hb0 hm0 bS hB0
    gi_wp2
    refine region_round (by kernel_rfl) (by simp) (fun ⟨_, _, h⟩ => h) ?_
    refine wpAny_ready (rs := [0, 1, 3]) (by kernel_rfl) (by simp) ?_
    refine AllReady.cons rfl (fun K' hK' => ?_) ?_
    · go_simp
      refine hK' _ _ ?_
      clear hK' K'
      refine wpAny_ready (rs := [1, 2, 3]) (by kernel_rfl) (by simp) ?_
      refine AllReady.cons rfl (fun K' hK' => ?_) ?_
      · go_simp
        refine hK' _ _ ?_
        clear hK' K'
        refine wpAny_ready (rs := [2, 3]) (by kernel_rfl) (by simp) ?_
        refine AllReady.cons rfl (fun K' hK' => ?_) ?_
        · go_simp
          refine hK' _ _ ?_
          clear hK' K'
          refine wpAny_ready (rs := [3]) (by kernel_rfl) (by simp) ?_
          refine AllReady.cons rfl (fun K' hK' => ?_) ?_
          · go_simp
            refine hK' _ _ ?_
            clear hK' K'
            refine wpAny_ready (rs := [4]) (by kernel_rfl) (by simp) ?_
            refine AllReady.cons rfl (fun K' hK' => ?_) ?_
            · refine step_append_lies _ rfl _ _ 22 rfl w.heap.size 24 i0 _ 3 40 Tryd.underlying22 hi hz0 hz1 hz2 rfl (by decide) _ pre.length _ rfl hrowA ⟨W.heap.size, 0, none⟩ 1 1 [.int .i64 0, .int .i64 0, .slice none 0 0] rfl rfl newsZ oneZ (by omega) (by simp only [maxLen]; omega) (by omega) hszB _ rfl ?_; intro g1 cap1 w1 hown1 hg1 hor hgl; obtain ⟨f0, f1, f2, ff0, ff1, ff2, cB, fB, x0, x1, x2, x3, _⟩ := hTail.out g1 cap1 w1 hown1 hg1 hor; have HL := Lib.hid (HLeaf.out g1 cap1 w1 hown1 hg1 hor); clear hown1 hg1 hor
              refine hK' _ _ ?_
              clear hK' K'
              refine wpAny_ready (rs := [5, 7]) (by kernel_rfl) (by simp) ?_
              refine AllReady.cons rfl (fun K' hK' => ?_) ?_
              · go_simp
                refine hK' _ _ ?_
                clear hK' K'
                refine wpAny_ready (rs := [6, 7]) (by kernel_rfl) (by simp) ?_
                refine AllReady.cons rfl (fun K' hK' => ?_) ?_
                · go_simp
                  refine hK' _ _ ?_
                  clear hK' K'
                  refine wpAny_ready (rs := [7]) (by kernel_rfl) (by simp) ?_
                  refine AllReady.cons rfl (fun K' hK' => ?_) ?_
                  · go_simp
                    refine hK' _ _ ?_
                    clear hK' K'
                    refine wpAny_done (by kernel_rfl) ?_ _
                    first | (have h := HL.out.1; unfold LeafP at h; rw [← hsz0] at h; exact h) | (have h := HL.out.2; unfold LeafP at h; rw [← hsz0] at h; exact h)
                  exact AllReady.nil
                refine AllReady.cons rfl (fun K' hK' => ?_) ?_
                · go_simp
                  refine hK' _ _ ?_
                  clear hK' K'
                  refine wpAny_ready (rs := [6]) (by kernel_rfl) (by simp) ?_
                  refine AllReady.cons rfl (fun K' hK' => ?_) ?_
                  · go_simp
                    refine hK' _ _ ?_
                    clear hK' K'
                    refine wpAny_done (by kernel_rfl) ?_ _
                    first | (have h := HL.out.1; unfold LeafP at h; rw [← hsz0] at h; exact h) | (have h := HL.out.2; unfold LeafP at h; rw [← hsz0] at h; exact h)
                  exact AllReady.nil
                exact AllReady.nil
              refine AllReady.cons rfl (fun K' hK' => ?_) ?_
              · go_simp
                refine hK' _ _ ?_
                clear hK' K'
                refine wpAny_ready (rs := [5]) (by kernel_rfl) (by simp) ?_
                refine AllReady.cons rfl (fun K' hK' => ?_) ?_
                · go_simp
                  refine hK' _ _ ?_
                  clear hK' K'
                  refine wpAny_ready (rs := [6]) (by kernel_rfl) (by simp) ?_
                  refine AllReady.cons rfl (fun K' hK' => ?_) ?_
                  · go_simp
                    refine hK' _ _ ?_
                    clear hK' K'
                    refine wpAny_done (by kernel_rfl) ?_ _
                    first | (have h := HL.out.1; unfold LeafP at h; rw [← hsz0] at h; exact h) | (have h := HL.out.2; unfold LeafP at h; rw [← hsz0] at h; exact h)
                  exact AllReady.nil
                exact AllReady.nil
              exact AllReady.nil
            exact AllReady.nil
          exact AllReady.nil
        refine AllReady.cons rfl (fun K' hK' => ?_) ?_
        · go_simp
          refine hK' _ _ ?_
          clear hK' K'
          refine wpAny_ready (rs := [2]) (by kernel_rfl) (by simp) ?_
          refine AllReady.cons rfl (fun K' hK' => ?_) ?_
          · go_simp
            refine hK' _ _ ?_
            clear hK' K'
            refine wpAny_ready (rs := [4]) (by kernel_rfl) (by simp) ?_
            refine AllReady.cons rfl (fun K' hK' => ?_) ?_
            · refine step_append_lies _ rfl _ _ 22 rfl w.heap.size 24 i0 _ 3 40 Tryd.underlying22 hi hz0 hz1 hz2 rfl (by decide) _ pre.length _ rfl hrowA ⟨W.heap.size, 0, none⟩ 1 1 [.int .i64 0, .int .i64 0, .slice none 0 0] rfl rfl newsZ oneZ (by omega) (by simp only [maxLen]; omega) (by omega) hszB _ rfl ?_; intro g1 cap1 w1 hown1 hg1 hor hgl; obtain ⟨f0, f1, f2, ff0, ff1, ff2, cB, fB, x0, x1, x2, x3, _⟩ := hTail.out g1 cap1 w1 hown1 hg1 hor; have HL := Lib.hid (HLeaf.out g1 cap1 w1 hown1 hg1 hor); clear hown1 hg1 hor
              refine hK' _ _ ?_
              clear hK' K'
              refine wpAny_ready (rs := [5, 7]) (by kernel_rfl) (by simp) ?_
              refine AllReady.cons rfl (fun K' hK' => ?_) ?_
              · go_simp
                refine hK' _ _ ?_
                clear hK' K'
                refine wpAny_ready (rs := [6, 7]) (by kernel_rfl) (by simp) ?_
                refine AllReady.cons rfl (fun K' hK' => ?_) ?_
                · go_simp
                  refine hK' _ _ ?_
                  clear hK' K'
                  refine wpAny_ready (rs := [7]) (by kernel_rfl) (by simp) ?_
                  refine AllReady.cons rfl (fun K' hK' => ?_) ?_
                  · go_simp
                    refine hK' _ _ ?_
                    clear hK' K'
                    refine wpAny_done (by kernel_rfl) ?_ _
                    first | (have h := HL.out.1; unfold LeafP at h; rw [← hsz0] at h; exact h) | (have h := HL.out.2; unfold LeafP at h; rw [← hsz0] at h; exact h)
                  exact AllReady.nil
                refine AllReady.cons rfl (fun K' hK' => ?_) ?_
                · go_simp
                  refine hK' _ _ ?_
                  clear hK' K'
                  refine wpAny_ready (rs := [6]) (by kernel_rfl) (by simp) ?_
                  refine AllReady.cons rfl (fun K' hK' => ?_) ?_
                  · go_simp
                    refine hK' _ _ ?_
                    clear hK' K'
                    refine wpAny_done (by kernel_rfl) ?_ _
                    first | (have h := HL.out.1; unfold LeafP at h; rw [← hsz0] at h; exact h) | (have h := HL.out.2; unfold LeafP at h; rw [← hsz0] at h; exact h)
                  exact AllReady.nil
                exact AllReady.nil
              refine AllReady.cons rfl (fun K' hK' => ?_) ?_
              · go_simp
                refine hK' _ _ ?_
                clear hK' K'
                refine wpAny_ready (rs := [5]) (by kernel_rfl) (by simp) ?_
                refine AllReady.cons rfl (fun K' hK' => ?_) ?_
                · go_simp
                  refine hK' _ _ ?_
                  clear hK' K'
                  refine wpAny_ready (rs := [6]) (by kernel_rfl) (by simp) ?_
                  refine AllReady.cons rfl (fun K' hK' => ?_) ?_
                  · go_simp
                    refine hK' _ _ ?_
                    clear hK' K'
                    refine wpAny_done (by kernel_rfl) ?_ _
                    first | (have h := HL.out.1; unfold LeafP at h; rw [← hsz0] at h; exact h) | (have h := HL.out.2; unfold LeafP at h; rw [← hsz0] at h; exact h)
                  exact AllReady.nil
                exact AllReady.nil
              exact AllReady.nil
            exact AllReady.nil
          exact AllReady.nil
        exact AllReady.nil
      refine AllReady.cons rfl (fun K' hK' => ?_) ?_
      · go_simp
        refine hK' _ _ ?_
        clear hK' K'
        refine wpAny_ready (rs := [1, 3]) (by kernel_rfl) (by simp) ?_
        refine AllReady.cons rfl (fun K' hK' => ?_) ?_
        · go_simp
          refine hK' _ _ ?_
          clear hK' K'
          refine wpAny_ready (rs := [3]) (by kernel_rfl) (by simp) ?_
          refine AllReady.cons rfl (fun K' hK' => ?_) ?_
          · go_simp
            refine hK' _ _ ?_
            clear hK' K'
            refine wpAny_ready (rs := [4]) (by kernel_rfl) (by simp) ?_
            refine AllReady.cons rfl (fun K' hK' => ?_) ?_
            · refine step_append_lies _ rfl _ _ 22 rfl w.heap.size 24 i0 _ 3 40 Tryd.underlying22 hi hz0 hz1 hz2 rfl (by decide) _ pre.length _ rfl hrowA ⟨W.heap.size, 0, none⟩ 1 1 [.int .i64 0, .int .i64 0, .slice none 0 0] rfl rfl newsZ oneZ (by omega) (by simp only [maxLen]; omega) (by omega) hszB _ rfl ?_; intro g1 cap1 w1 hown1 hg1 hor hgl; obtain ⟨f0, f1, f2, ff0, ff1, ff2, cB, fB, x0, x1, x2, x3, _⟩ := hTail.out g1 cap1 w1 hown1 hg1 hor; have HL := Lib.hid (HLeaf.out g1 cap1 w1 hown1 hg1 hor); clear hown1 hg1 hor
              refine hK' _ _ ?_
              clear hK' K'
              refine wpAny_ready (rs := [5, 7]) (by kernel_rfl) (by simp) ?_
              refine AllReady.cons rfl (fun K' hK' => ?_) ?_
              · go_simp
                refine hK' _ _ ?_
                clear hK' K'
                refine wpAny_ready (rs := [6, 7]) (by kernel_rfl) (by simp) ?_
                refine AllReady.cons rfl (fun K' hK' => ?_) ?_
                · go_simp
                  refine hK' _ _ ?_
                  clear hK' K'
                  refine wpAny_ready (rs := [7]) (by kernel_rfl) (by simp) ?_
                  refine AllReady.cons rfl (fun K' hK' => ?_) ?_
                  · go_simp
                    refine hK' _ _ ?_
                    clear hK' K'
                    refine wpAny_done (by kernel_rfl) ?_ _
                    first | (have h := HL.out.1; unfold LeafP at h; rw [← hsz0] at h; exact h) | (have h := HL.out.2; unfold LeafP at h; rw [← hsz0] at h; exact h)
                  exact AllReady.nil
                refine AllReady.cons rfl (fun K' hK' => ?_) ?_
                · go_simp
                  refine hK' _ _ ?_
                  clear hK' K'
                  refine wpAny_ready (rs := [6]) (by kernel_rfl) (by simp) ?_
                  refine AllReady.cons rfl (fun K' hK' => ?_) ?_
                  · go_simp
                    refine hK' _ _ ?_
                    clear hK' K'
                    refine wpAny_done (by kernel_rfl) ?_ _
                    first | (have h := HL.out.1; unfold LeafP at h; rw [← hsz0] at h; exact h) | (have h := HL.out.2; unfold LeafP at h; rw [← hsz0] at h; exact h)
                  exact AllReady.nil
                exact AllReady.nil
              refine AllReady.cons rfl (fun K' hK' => ?_) ?_
              · go_simp
                refine hK' _ _ ?_
                clear hK' K'
                refine wpAny_ready (rs := [5]) (by kernel_rfl) (by simp) ?_
                refine AllReady.cons rfl (fun K' hK' => ?_) ?_
                · go_simp
                  refine hK' _ _ ?_
                  clear hK' K'
                  refine wpAny_ready (rs := [6]) (by kernel_rfl) (by simp) ?_
                  refine AllReady.cons rfl (fun K' hK' => ?_) ?_
                  · go_simp
                    refine hK' _ _ ?_
                    clear hK' K'
                    refine wpAny_done (by kernel_rfl) ?_ _
                    first | (have h := HL.out.1; unfold LeafP at h; rw [← hsz0] at h; exact h) | (have h := HL.out.2; unfold LeafP at h; rw [← hsz0] at h; exact h)
                  exact AllReady.nil
                exact AllReady.nil
              exact AllReady.nil
            exact AllReady.nil
          exact AllReady.nil
        refine AllReady.cons rfl (fun K' hK' => ?_) ?_
        · go_simp
          refine hK' _ _ ?_
          clear hK' K'
          refine wpAny_ready (rs := [1]) (by kernel_rfl) (by simp) ?_
          refine AllReady.cons rfl (fun K' hK' => ?_) ?_
          · go_simp
            refine hK' _ _ ?_
            clear hK' K'
            refine wpAny_ready (rs := [4]) (by kernel_rfl) (by simp) ?_
            refine AllReady.cons rfl (fun K' hK' => ?_) ?_
            · refine step_append_lies _ rfl _ _ 22 rfl w.heap.size 24 i0 _ 3 40 Tryd.underlying22 hi hz0 hz1 hz2 rfl (by decide) _ pre.length _ rfl hrowA ⟨W.heap.size, 0, none⟩ 1 1 [.int .i64 0, .int .i64 0, .slice none 0 0] rfl rfl newsZ oneZ (by omega) (by simp only [maxLen]; omega) (by omega) hszB _ rfl ?_; intro g1 cap1 w1 hown1 hg1 hor hgl; obtain ⟨f0, f1, f2, ff0, ff1, ff2, cB, fB, x0, x1, x2, x3, _⟩ := hTail.out g1 cap1 w1 hown1 hg1 hor; have HL := Lib.hid (HLeaf.out g1 cap1 w1 hown1 hg1 hor); clear hown1 hg1 hor
              refine hK' _ _ ?_
              clear hK' K'
              refine wpAny_ready (rs := [5, 7]) (by kernel_rfl) (by simp) ?_
              refine AllReady.cons rfl (fun K' hK' => ?_) ?_
              · go_simp
                refine hK' _ _ ?_
                clear hK' K'
                refine wpAny_ready (rs := [6, 7]) (by kernel_rfl) (by simp) ?_
                refine AllReady.cons rfl (fun K' hK' => ?_) ?_
                · go_simp
                  refine hK' _ _ ?_
                  clear hK' K'
                  refine wpAny_ready (rs := [7]) (by kernel_rfl) (by simp) ?_
                  refine AllReady.cons rfl (fun K' hK' => ?_) ?_
                  · go_simp
                    refine hK' _ _ ?_
                    clear hK' K'
                    refine wpAny_done (by kernel_rfl) ?_ _
                    first | (have h := HL.out.1; unfold LeafP at h; rw [← hsz0] at h; exact h) | (have h := HL.out.2; unfold LeafP at h; rw [← hsz0] at h; exact h)
                  exact AllReady.nil
                refine AllReady.cons rfl (fun K' hK' => ?_) ?_
                · go_simp
                  refine hK' _ _ ?_
                  clear hK' K'
                  refine wpAny_ready (rs := [6]) (by kernel_rfl) (by simp) ?_
                  refine AllReady.cons rfl (fun K' hK' => ?_) ?_
                  · go_simp
                    refine hK' _ _ ?_
                    clear hK' K'
                    refine wpAny_done (by kernel_rfl) ?_ _
                    first | (have h := HL.out.1; unfold LeafP at h; rw [← hsz0] at h; exact h) | (have h := HL.out.2; unfold LeafP at h; rw [← hsz0] at h; exact h)
                  exact AllReady.nil
                exact AllReady.nil
              refine AllReady.cons rfl (fun K' hK' => ?_) ?_
              · go_simp
                refine hK' _ _ ?_
                clear hK' K'
                refine wpAny_ready (rs := [5]) (by kernel_rfl) (by simp) ?_
                refine AllReady.cons rfl (fun K' hK' => ?_) ?_
                · go_simp
                  refine hK' _ _ ?_
                  clear hK' K'
                  refine wpAny_ready (rs := [6]) (by kernel_rfl) (by simp) ?_
                  refine AllReady.cons rfl (fun K' hK' => ?_) ?_
                  · go_simp
                    refine hK' _ _ ?_
                    clear hK' K'
                    refine wpAny_done (by kernel_rfl) ?_ _
                    first | (have h := HL.out.1; unfold LeafP at h; rw [← hsz0] at h; exact h) | (have h := HL.out.2; unfold LeafP at h; rw [← hsz0] at h; exact h)
                  exact AllReady.nil
                exact AllReady.nil
              exact AllReady.nil
            exact AllReady.nil
          exact AllReady.nil
        exact AllReady.nil
      refine AllReady.cons rfl (fun K' hK' => ?_) ?_
      · go_simp
        refine hK' _ _ ?_
        clear hK' K'
        refine wpAny_ready (rs := [1, 2]) (by kernel_rfl) (by simp) ?_
        refine AllReady.cons rfl (fun K' hK' => ?_) ?_
        · go_simp
          refine hK' _ _ ?_
          clear hK' K'
          refine wpAny_ready (rs := [2]) (by kernel_rfl) (by simp) ?_
          refine AllReady.cons rfl (fun K' hK' => ?_) ?_
          · go_simp
            refine hK' _ _ ?_
            clear hK' K'
            refine wpAny_ready (rs := [4]) (by kernel_rfl) (by simp) ?_
            refine AllReady.cons rfl (fun K' hK' => ?_) ?_
            · refine step_append_lies _ rfl _ _ 22 rfl w.heap.size 24 i0 _ 3 40 Tryd.underlying22 hi hz0 hz1 hz2 rfl (by decide) _ pre.length _ rfl hrowA ⟨W.heap.size, 0, none⟩ 1 1 [.int .i64 0, .int .i64 0, .slice none 0 0] rfl rfl newsZ oneZ (by omega) (by simp only [maxLen]; omega) (by omega) hszB _ rfl ?_; intro g1 cap1 w1 hown1 hg1 hor hgl; obtain ⟨f0, f1, f2, ff0, ff1, ff2, cB, fB, x0, x1, x2, x3, _⟩ := hTail.out g1 cap1 w1 hown1 hg1 hor; have HL := Lib.hid (HLeaf.out g1 cap1 w1 hown1 hg1 hor); clear hown1 hg1 hor
              refine hK' _ _ ?_
              clear hK' K'
              refine wpAny_ready (rs := [5, 7]) (by kernel_rfl) (by simp) ?_
              refine AllReady.cons rfl (fun K' hK' => ?_) ?_
              · go_simp
                refine hK' _ _ ?_
                clear hK' K'
                refine wpAny_ready (rs := [6, 7]) (by kernel_rfl) (by simp) ?_
                refine AllReady.cons rfl (fun K' hK' => ?_) ?_
                · go_simp
                  refine hK' _ _ ?_
                  clear hK' K'
                  refine wpAny_ready (rs := [7]) (by kernel_rfl) (by simp) ?_
                  refine AllReady.cons rfl (fun K' hK' => ?_) ?_
                  · go_simp
                    refine hK' _ _ ?_
                    clear hK' K'
                    refine wpAny_done (by kernel_rfl) ?_ _
                    first | (have h := HL.out.1; unfold LeafP at h; rw [← hsz0] at h; exact h) | (have h := HL.out.2; unfold LeafP at h; rw [← hsz0] at h; exact h)
                  exact AllReady.nil
                refine AllReady.cons rfl (fun K' hK' => ?_) ?_
                · go_simp
                  refine hK' _ _ ?_
                  clear hK' K'
                  refine wpAny_ready (rs := [6]) (by kernel_rfl) (by simp) ?_
                  refine AllReady.cons rfl (fun K' hK' => ?_) ?_
                  · go_simp
                    refine hK' _ _ ?_
                    clear hK' K'
                    refine wpAny_done (by kernel_rfl) ?_ _
                    first | (have h := HL.out.1; unfold LeafP at h; rw [← hsz0] at h; exact h) | (have h := HL.out.2; unfold LeafP at h; rw [← hsz0] at h; exact h)
                  exact AllReady.nil
                exact AllReady.nil
              refine AllReady.cons rfl (fun K' hK' => ?_) ?_
              · go_simp
                refine hK' _ _ ?_
                clear hK' K'
                refine wpAny_ready (rs := [5]) (by kernel_rfl) (by simp) ?_
                refine AllReady.cons rfl (fun K' hK' => ?_) ?_
                · go_simp
                  refine hK' _ _ ?_
                  clear hK' K'
                  refine wpAny_ready (rs := [6]) (by kernel_rfl) (by simp) ?_
                  refine AllReady.cons rfl (fun K' hK' => ?_) ?_
                  · go_simp
                    refine hK' _ _ ?_
                    clear hK' K'
                    refine wpAny_done (by kernel_rfl) ?_ _
                    first | (have h := HL.out.1; unfold LeafP at h; rw [← hsz0] at h; exact h) | (have h := HL.out.2; unfold LeafP at h; rw [← hsz0] at h; exact h)
                  exact AllReady.nil
                exact AllReady.nil
              exact AllReady.nil
            exact AllReady.nil
          exact AllReady.nil
        refine AllReady.cons rfl (fun K' hK' => ?_) ?_
        · go_simp
          refine hK' _ _ ?_
          clear hK' K'
          refine wpAny_ready (rs := [1]) (by kernel_rfl) (by simp) ?_
          refine AllReady.cons rfl (fun K' hK' => ?_) ?_
          · go_simp
            refine hK' _ _ ?_
            clear hK' K'
            refine wpAny_ready (rs := [4]) (by kernel_rfl) (by simp) ?_
            refine AllReady.cons rfl (fun K' hK' => ?_) ?_
            · refine step_append_lies _ rfl _ _ 22 rfl w.heap.size 24 i0 _ 3 40 Tryd.underlying22 hi hz0 hz1 hz2 rfl (by decide) _ pre.length _ rfl hrowA ⟨W.heap.size, 0, none⟩ 1 1 [.int .i64 0, .int .i64 0, .slice none 0 0] rfl rfl newsZ oneZ (by omega) (by simp only [maxLen]; omega) (by omega) hszB _ rfl ?_; intro g1 cap1 w1 hown1 hg1 hor hgl; obtain ⟨f0, f1, f2, ff0, ff1, ff2, cB, fB, x0, x1, x2, x3, _⟩ := hTail.out g1 cap1 w1 hown1 hg1 hor; have HL := Lib.hid (HLeaf.out g1 cap1 w1 hown1 hg1 hor); clear hown1 hg1 hor
              refine hK' _ _ ?_
              clear hK' K'
              refine wpAny_ready (rs := [5, 7]) (by kernel_rfl) (by simp) ?_
              refine AllReady.cons rfl (fun K' hK' => ?_) ?_
              · go_simp
                refine hK' _ _ ?_
                clear hK' K'
                refine wpAny_ready (rs := [6, 7]) (by kernel_rfl) (by simp) ?_
                refine AllReady.cons rfl (fun K' hK' => ?_) ?_
                · go_simp
                  refine hK' _ _ ?_
                  clear hK' K'
                  refine wpAny_ready (rs := [7]) (by kernel_rfl) (by simp) ?_
                  refine AllReady.cons rfl (fun K' hK' => ?_) ?_
                  · go_simp
                    refine hK' _ _ ?_
                    clear hK' K'
                    refine wpAny_done (by kernel_rfl) ?_ _
                    first | (have h := HL.out.1; unfold LeafP at h; rw [← hsz0] at h; exact h) | (have h := HL.out.2; unfold LeafP at h; rw [← hsz0] at h; exact h)
                  exact AllReady.nil
                refine AllReady.cons rfl (fun K' hK' => ?_) ?_
                · go_simp
                  refine hK' _ _ ?_
                  clear hK' K'
                  refine wpAny_ready (rs := [6]) (by kernel_rfl) (by simp) ?_
                  refine AllReady.cons rfl (fun K' hK' => ?_) ?_
                  · go_simp
                    refine hK' _ _ ?_
                    clear hK' K'
                    refine wpAny_done (by kernel_rfl) ?_ _
                    first | (have h := HL.out.1; unfold LeafP at h; rw [← hsz0] at h; exact h) | (have h := HL.out.2; unfold LeafP at h; rw [← hsz0] at h; exact h)
                  exact AllReady.nil
                exact AllReady.nil
              refine AllReady.cons rfl (fun K' hK' => ?_) ?_
              · go_simp
                refine hK' _ _ ?_
                clear hK' K'
                refine wpAny_ready (rs := [5]) (by kernel_rfl) (by simp) ?_
                refine AllReady.cons rfl (fun K' hK' => ?_) ?_
                · go_simp
                  refine hK' _ _ ?_
                  clear hK' K'
                  refine wpAny_ready (rs := [6]) (by kernel_rfl) (by simp) ?_
                  refine AllReady.cons rfl (fun K' hK' => ?_) ?_
                  · go_simp
                    refine hK' _ _ ?_
                    clear hK' K'
                    refine wpAny_done (by kernel_rfl) ?_ _
                    first | (have h := HL.out.1; unfold LeafP at h; rw [← hsz0] at h; exact h) | (have h := HL.out.2; unfold LeafP at h; rw [← hsz0] at h; exact h)
                  exact AllReady.nil
                exact AllReady.nil
              exact AllReady.nil
            exact AllReady.nil
          exact AllReady.nil
        exact AllReady.nil
      exact AllReady.nil
    refine AllReady.cons rfl (fun K' hK' => ?_) ?_
    · go_simp
      refine hK' _ _ ?_
      clear hK' K'
      refine wpAny_ready (rs := [0, 3]) (by kernel_rfl) (by simp) ?_
      refine AllReady.cons rfl (fun K' hK' => ?_) ?_
      · go_simp
        refine hK' _ _ ?_
        clear hK' K'
        refine wpAny_ready (rs := [2, 3]) (by kernel_rfl) (by simp) ?_
        refine AllReady.cons rfl (fun K' hK' => ?_) ?_
        · go_simp
          refine hK' _ _ ?_
          clear hK' K'
          refine wpAny_ready (rs := [3]) (by kernel_rfl) (by simp) ?_
          refine AllReady.cons rfl (fun K' hK' => ?_) ?_
          · go_simp
            refine hK' _ _ ?_
            clear hK' K'
            refine wpAny_ready (rs := [4]) (by kernel_rfl) (by simp) ?_
            refine AllReady.cons rfl (fun K' hK' => ?_) ?_
            · refine step_append_lies _ rfl _ _ 22 rfl w.heap.size 24 i0 _ 3 40 Tryd.underlying22 hi hz0 hz1 hz2 rfl (by decide) _ pre.length _ rfl hrowA ⟨W.heap.size, 0, none⟩ 1 1 [.int .i64 0, .int .i64 0, .slice none 0 0] rfl rfl newsZ oneZ (by omega) (by simp only [maxLen]; omega) (by omega) hszB _ rfl ?_; intro g1 cap1 w1 hown1 hg1 hor hgl; obtain ⟨f0, f1, f2, ff0, ff1, ff2, cB, fB, x0, x1, x2, x3, _⟩ := hTail.out g1 cap1 w1 hown1 hg1 hor; have HL := Lib.hid (HLeaf.out g1 cap1 w1 hown1 hg1 hor); clear hown1 hg1 hor
              refine hK' _ _ ?_
              clear hK' K'
              refine wpAny_ready (rs := [5, 7]) (by kernel_rfl) (by simp) ?_
              refine AllReady.cons rfl (fun K' hK' => ?_) ?_
              · go_simp
                refine hK' _ _ ?_
                clear hK' K'
                refine wpAny_ready (rs := [6, 7]) (by kernel_rfl) (by simp) ?_
                refine AllReady.cons rfl (fun K' hK' => ?_) ?_
                · go_simp
                  refine hK' _ _ ?_
                  clear hK' K'
                  refine wpAny_ready (rs := [7]) (by kernel_rfl) (by simp) ?_
                  refine AllReady.cons rfl (fun K' hK' => ?_) ?_
                  · go_simp
                    refine hK' _ _ ?_
                    clear hK' K'
                    refine wpAny_done (by kernel_rfl) ?_ _
                    first | (have h := HL.out.1; unfold LeafP at h; rw [← hsz0] at h; exact h) | (have h := HL.out.2; unfold LeafP at h; rw [← hsz0] at h; exact h)
                  exact AllReady.nil
                refine AllReady.cons rfl (fun K' hK' => ?_) ?_
                · go_simp
                  refine hK' _ _ ?_
                  clear hK' K'
                  refine wpAny_ready (rs := [6]) (by kernel_rfl) (by simp) ?_
                  refine AllReady.cons rfl (fun K' hK' => ?_) ?_
                  · go_simp
                    refine hK' _ _ ?_
                    clear hK' K'
                    refine wpAny_done (by kernel_rfl) ?_ _
                    first | (have h := HL.out.1; unfold LeafP at h; rw [← hsz0] at h; exact h) | (have h := HL.out.2; unfold LeafP at h; rw [← hsz0] at h; exact h)
                  exact AllReady.nil
                exact AllReady.nil
              refine AllReady.cons rfl (fun K' hK' => ?_) ?_
              · go_simp
                refine hK' _ _ ?_
                clear hK' K'
                refine wpAny_ready (rs := [5]) (by kernel_rfl) (by simp) ?_
                refine AllReady.cons rfl (fun K' hK' => ?_) ?_
                · go_simp
                  refine hK' _ _ ?_
                  clear hK' K'
                  refine wpAny_ready (rs := [6]) (by kernel_rfl) (by simp) ?_
                  refine AllReady.cons rfl (fun K' hK' => ?_) ?_
                  · go_simp
                    refine hK' _ _ ?_
                    clear hK' K'
                    refine wpAny_done (by kernel_rfl) ?_ _
                    first | (have h := HL.out.1; unfold LeafP at h; rw [← hsz0] at h; exact h) | (have h := HL.out.2; unfold LeafP at h; rw [← hsz0] at h; exact h)
                  exact AllReady.nil
                exact AllReady.nil
              exact AllReady.nil
            exact AllReady.nil
          exact AllReady.nil
        refine AllReady.cons rfl (fun K' hK' => ?_) ?_
        · go_simp
          refine hK' _ _ ?_
          clear hK' K'
          refine wpAny_ready (rs := [2]) (by kernel_rfl) (by simp) ?_
          refine AllReady.cons rfl (fun K' hK' => ?_) ?_
          · go_simp
            refine hK' _ _ ?_
            clear hK' K'
            refine wpAny_ready (rs := [4]) (by kernel_rfl) (by simp) ?_
            refine AllReady.cons rfl (fun K' hK' => ?_) ?_
            · refine step_append_lies _ rfl _ _ 22 rfl w.heap.size 24 i0 _ 3 40 Tryd.underlying22 hi hz0 hz1 hz2 rfl (by decide) _ pre.length _ rfl hrowA ⟨W.heap.size, 0, none⟩ 1 1 [.int .i64 0, .int .i64 0, .slice none 0 0] rfl rfl newsZ oneZ (by omega) (by simp only [maxLen]; omega) (by omega) hszB _ rfl ?_; intro g1 cap1 w1 hown1 hg1 hor hgl; obtain ⟨f0, f1, f2, ff0, ff1, ff2, cB, fB, x0, x1, x2, x3, _⟩ := hTail.out g1 cap1 w1 hown1 hg1 hor; have HL := Lib.hid (HLeaf.out g1 cap1 w1 hown1 hg1 hor); clear hown1 hg1 hor
              refine hK' _ _ ?_
              clear hK' K'
              refine wpAny_ready (rs := [5, 7]) (by kernel_rfl) (by simp) ?_
              refine AllReady.cons rfl (fun K' hK' => ?_) ?_
              · go_simp
                refine hK' _ _ ?_
                clear hK' K'
                refine wpAny_ready (rs := [6, 7]) (by kernel_rfl) (by simp) ?_
                refine AllReady.cons rfl (fun K' hK' => ?_) ?_
                · go_simp
                  refine hK' _ _ ?_
                  clear hK' K'
                  refine wpAny_ready (rs := [7]) (by kernel_rfl) (by simp) ?_
                  refine AllReady.cons rfl (fun K' hK' => ?_) ?_
                  · go_simp
                    refine hK' _ _ ?_
                    clear hK' K'
                    refine wpAny_done (by kernel_rfl) ?_ _
                    first | (have h := HL.out.1; unfold LeafP at h; rw [← hsz0] at h; exact h) | (have h := HL.out.2; unfold LeafP at h; rw [← hsz0] at h; exact h)
                  exact AllReady.nil
                refine AllReady.cons rfl (fun K' hK' => ?_) ?_
                · go_simp
                  refine hK' _ _ ?_
                  clear hK' K'
                  refine wpAny_ready (rs := [6]) (by kernel_rfl) (by simp) ?_
                  refine AllReady.cons rfl (fun K' hK' => ?_) ?_
                  · go_simp
                    refine hK' _ _ ?_
                    clear hK' K'
                    refine wpAny_done (by kernel_rfl) ?_ _
                    first | (have h := HL.out.1; unfold LeafP at h; rw [← hsz0] at h; exact h) | (have h := HL.out.2; unfold LeafP at h; rw [← hsz0] at h; exact h)
                  exact AllReady.nil
                exact AllReady.nil
              refine AllReady.cons rfl (fun K' hK' => ?_) ?_
              · go_simp
                refine hK' _ _ ?_
                clear hK' K'
                refine wpAny_ready (rs := [5]) (by kernel_rfl) (by simp) ?_
                refine AllReady.cons rfl (fun K' hK' => ?_) ?_
                · go_simp
                  refine hK' _ _ ?_
                  clear hK' K'
                  refine wpAny_ready (rs := [6]) (by kernel_rfl) (by simp) ?_
                  refine AllReady.cons rfl (fun K' hK' => ?_) ?_
                  · go_simp
                    refine hK' _ _ ?_
                    clear hK' K'
                    refine wpAny_done (by kernel_rfl) ?_ _
                    first | (have h := HL.out.1; unfold LeafP at h; rw [← hsz0] at h; exact h) | (have h := HL.out.2; unfold LeafP at h; rw [← hsz0] at h; exact h)
                  exact AllReady.nil
                exact AllReady.nil
              exact AllReady.nil
            exact AllReady.nil
          exact AllReady.nil
        exact AllReady.nil
      refine AllReady.cons rfl (fun K' hK' => ?_) ?_
      · go_simp
        refine hK' _ _ ?_
        clear hK' K'
        refine wpAny_ready (rs := [0]) (by kernel_rfl) (by simp) ?_
        refine AllReady.cons rfl (fun K' hK' => ?_) ?_
        · go_simp
          refine hK' _ _ ?_
          clear hK' K'
          refine wpAny_ready (rs := [2]) (by kernel_rfl) (by simp) ?_
          refine AllReady.cons rfl (fun K' hK' => ?_) ?_
          · go_simp
            refine hK' _ _ ?_
            clear hK' K'
            refine wpAny_ready (rs := [4]) (by kernel_rfl) (by simp) ?_
            refine AllReady.cons rfl (fun K' hK' => ?_) ?_
            · refine step_append_lies _ rfl _ _ 22 rfl w.heap.size 24 i0 _ 3 40 Tryd.underlying22 hi hz0 hz1 hz2 rfl (by decide) _ pre.length _ rfl hrowA ⟨W.heap.size, 0, none⟩ 1 1 [.int .i64 0, .int .i64 0, .slice none 0 0] rfl rfl newsZ oneZ (by omega) (by simp only [maxLen]; omega) (by omega) hszB _ rfl ?_; intro g1 cap1 w1 hown1 hg1 hor hgl; obtain ⟨f0, f1, f2, ff0, ff1, ff2, cB, fB, x0, x1, x2, x3, _⟩ := hTail.out g1 cap1 w1 hown1 hg1 hor; have HL := Lib.hid (HLeaf.out g1 cap1 w1 hown1 hg1 hor); clear hown1 hg1 hor
              refine hK' _ _ ?_
              clear hK' K'
              refine wpAny_ready (rs := [5, 7]) (by kernel_rfl) (by simp) ?_
              refine AllReady.cons rfl (fun K' hK' => ?_) ?_
              · go_simp
                refine hK' _ _ ?_
                clear hK' K'
                refine wpAny_ready (rs := [6, 7]) (by kernel_rfl) (by simp) ?_
                refine AllReady.cons rfl (fun K' hK' => ?_) ?_
                · go_simp
                  refine hK' _ _ ?_
                  clear hK' K'
                  refine wpAny_ready (rs := [7]) (by kernel_rfl) (by simp) ?_
                  refine AllReady.cons rfl (fun K' hK' => ?_) ?_
                  · go_simp
                    refine hK' _ _ ?_
                    clear hK' K'
                    refine wpAny_done (by kernel_rfl) ?_ _
                    first | (have h := HL.out.1; unfold LeafP at h; rw [← hsz0] at h; exact h) | (have h := HL.out.2; unfold LeafP at h; rw [← hsz0] at h; exact h)
                  exact AllReady.nil
                refine AllReady.cons rfl (fun K' hK' => ?_) ?_
                · go_simp
                  refine hK' _ _ ?_
                  clear hK' K'
                  refine wpAny_ready (rs := [6]) (by kernel_rfl) (by simp) ?_
                  refine AllReady.cons rfl (fun K' hK' => ?_) ?_
                  · go_simp
                    refine hK' _ _ ?_
                    clear hK' K'
                    refine wpAny_done (by kernel_rfl) ?_ _
                    first | (have h := HL.out.1; unfold LeafP at h; rw [← hsz0] at h; exact h) | (have h := HL.out.2; unfold LeafP at h; rw [← hsz0] at h; exact h)
                  exact AllReady.nil
                exact AllReady.nil
              refine AllReady.cons rfl (fun K' hK' => ?_) ?_
              · go_simp
                refine hK' _ _ ?_
                clear hK' K'
                refine wpAny_ready (rs := [5]) (by kernel_rfl) (by simp) ?_
                refine AllReady.cons rfl (fun K' hK' => ?_) ?_
                · go_simp
                  refine hK' _ _ ?_
                  clear hK' K'
                  refine wpAny_ready (rs := [6]) (by kernel_rfl) (by simp) ?_
                  refine AllReady.cons rfl (fun K' hK' => ?_) ?_
                  · go_simp
                    refine hK' _ _ ?_
                    clear hK' K'
                    refine wpAny_done (by kernel_rfl) ?_ _
                    first | (have h := HL.out.1; unfold LeafP at h; rw [← hsz0] at h; exact h) | (have h := HL.out.2; unfold LeafP at h; rw [← hsz0] at h; exact h)
                  exact AllReady.nil
                exact AllReady.nil
              exact AllReady.nil
            exact AllReady.nil
          exact AllReady.nil
        exact AllReady.nil
      exact AllReady.nil
    refine AllReady.cons rfl (fun K' hK' => ?_) ?_
    · go_simp
      refine hK' _ _ ?_
      clear hK' K'
      refine wpAny_ready (rs := [0, 1]) (by kernel_rfl) (by simp) ?_
      refine AllReady.cons rfl (fun K' hK' => ?_) ?_
      · go_simp
        refine hK' _ _ ?_
        clear hK' K'
        refine wpAny_ready (rs := [1, 2]) (by kernel_rfl) (by simp) ?_
        refine AllReady.cons rfl (fun K' hK' => ?_) ?_
        · go_simp
          refine hK' _ _ ?_
          clear hK' K'
          refine wpAny_ready (rs := [2]) (by kernel_rfl) (by simp) ?_
          refine AllReady.cons rfl (fun K' hK' => ?_) ?_
          · go_simp
            refine hK' _ _ ?_
            clear hK' K'
            refine wpAny_ready (rs := [4]) (by kernel_rfl) (by simp) ?_
            refine AllReady.cons rfl (fun K' hK' => ?_) ?_
            · refine step_append_lies _ rfl _ _ 22 rfl w.heap.size 24 i0 _ 3 40 Tryd.underlying22 hi hz0 hz1 hz2 rfl (by decide) _ pre.length _ rfl hrowA ⟨W.heap.size, 0, none⟩ 1 1 [.int .i64 0, .int .i64 0, .slice none 0 0] rfl rfl newsZ oneZ (by omega) (by simp only [maxLen]; omega) (by omega) hszB _ rfl ?_; intro g1 cap1 w1 hown1 hg1 hor hgl; obtain ⟨f0, f1, f2, ff0, ff1, ff2, cB, fB, x0, x1, x2, x3, _⟩ := hTail.out g1 cap1 w1 hown1 hg1 hor; have HL := Lib.hid (HLeaf.out g1 cap1 w1 hown1 hg1 hor); clear hown1 hg1 hor
              refine hK' _ _ ?_
              clear hK' K'
              refine wpAny_ready (rs := [5, 7]) (by kernel_rfl) (by simp) ?_
              refine AllReady.cons rfl (fun K' hK' => ?_) ?_
              · go_simp
                refine hK' _ _ ?_
                clear hK' K'
                refine wpAny_ready (rs := [6, 7]) (by kernel_rfl) (by simp) ?_
                refine AllReady.cons rfl (fun K' hK' => ?_) ?_
                · go_simp
                  refine hK' _ _ ?_
                  clear hK' K'
                  refine wpAny_ready (rs := [7]) (by kernel_rfl) (by simp) ?_
                  refine AllReady.cons rfl (fun K' hK' => ?_) ?_
                  · go_simp
                    refine hK' _ _ ?_
                    clear hK' K'
                    refine wpAny_done (by kernel_rfl) ?_ _
                    first | (have h := HL.out.1; unfold LeafP at h; rw [← hsz0] at h; exact h) | (have h := HL.out.2; unfold LeafP at h; rw [← hsz0] at h; exact h)
                  exact AllReady.nil
                refine AllReady.cons rfl (fun K' hK' => ?_) ?_
                · go_simp
                  refine hK' _ _ ?_
                  clear hK' K'
                  refine wpAny_ready (rs := [6]) (by kernel_rfl) (by simp) ?_
                  refine AllReady.cons rfl (fun K' hK' => ?_) ?_
                  · go_simp
                    refine hK' _ _ ?_
                    clear hK' K'
                    refine wpAny_done (by kernel_rfl) ?_ _
                    first | (have h := HL.out.1; unfold LeafP at h; rw [← hsz0] at h; exact h) | (have h := HL.out.2; unfold LeafP at h; rw [← hsz0] at h; exact h)
                  exact AllReady.nil
                exact AllReady.nil
              refine AllReady.cons rfl (fun K' hK' => ?_) ?_
              · go_simp
                refine hK' _ _ ?_
                clear hK' K'
                refine wpAny_ready (rs := [5]) (by kernel_rfl) (by simp) ?_
                refine AllReady.cons rfl (fun K' hK' => ?_) ?_
                · go_simp
                  refine hK' _ _ ?_
                  clear hK' K'
                  refine wpAny_ready (rs := [6]) (by kernel_rfl) (by simp) ?_
                  refine AllReady.cons rfl (fun K' hK' => ?_) ?_
                  · go_simp
                    refine hK' _ _ ?_
                    clear hK' K'
                    refine wpAny_done (by kernel_rfl) ?_ _
                    first | (have h := HL.out.1; unfold LeafP at h; rw [← hsz0] at h; exact h) | (have h := HL.out.2; unfold LeafP at h; rw [← hsz0] at h; exact h)
                  exact AllReady.nil
                exact AllReady.nil
              exact AllReady.nil
            exact AllReady.nil
          exact AllReady.nil
        refine AllReady.cons rfl (fun K' hK' => ?_) ?_
        · go_simp
          refine hK' _ _ ?_
          clear hK' K'
          refine wpAny_ready (rs := [1]) (by kernel_rfl) (by simp) ?_
          refine AllReady.cons rfl (fun K' hK' => ?_) ?_
          · go_simp
            refine hK' _ _ ?_
            clear hK' K'
            refine wpAny_ready (rs := [4]) (by kernel_rfl) (by simp) ?_
            refine AllReady.cons rfl (fun K' hK' => ?_) ?_
            · refine step_append_lies _ rfl _ _ 22 rfl w.heap.size 24 i0 _ 3 40 Tryd.underlying22 hi hz0 hz1 hz2 rfl (by decide) _ pre.length _ rfl hrowA ⟨W.heap.size, 0, none⟩ 1 1 [.int .i64 0, .int .i64 0, .slice none 0 0] rfl rfl newsZ oneZ (by omega) (by simp only [maxLen]; omega) (by omega) hszB _ rfl ?_; intro g1 cap1 w1 hown1 hg1 hor hgl; obtain ⟨f0, f1, f2, ff0, ff1, ff2, cB, fB, x0, x1, x2, x3, _⟩ := hTail.out g1 cap1 w1 hown1 hg1 hor; have HL := Lib.hid (HLeaf.out g1 cap1 w1 hown1 hg1 hor); clear hown1 hg1 hor
              refine hK' _ _ ?_
              clear hK' K'
              refine wpAny_ready (rs := [5, 7]) (by kernel_rfl) (by simp) ?_
              refine AllReady.cons rfl (fun K' hK' => ?_) ?_
              · go_simp
                refine hK' _ _ ?_
                clear hK' K'
                refine wpAny_ready (rs := [6, 7]) (by kernel_rfl) (by simp) ?_
                refine AllReady.cons rfl (fun K' hK' => ?_) ?_
                · go_simp
                  refine hK' _ _ ?_
                  clear hK' K'
                  refine wpAny_ready (rs := [7]) (by kernel_rfl) (by simp) ?_
                  refine AllReady.cons rfl (fun K' hK' => ?_) ?_
                  · go_simp
                    refine hK' _ _ ?_
                    clear hK' K'
                    refine wpAny_done (by kernel_rfl) ?_ _
                    first | (have h := HL.out.1; unfold LeafP at h; rw [← hsz0] at h; exact h) | (have h := HL.out.2; unfold LeafP at h; rw [← hsz0] at h; exact h)
                  exact AllReady.nil
                refine AllReady.cons rfl (fun K' hK' => ?_) ?_
                · go_simp
                  refine hK' _ _ ?_
                  clear hK' K'
                  refine wpAny_ready (rs := [6]) (by kernel_rfl) (by simp) ?_
                  refine AllReady.cons rfl (fun K' hK' => ?_) ?_
                  · go_simp
                    refine hK' _ _ ?_
                    clear hK' K'
                    refine wpAny_done (by kernel_rfl) ?_ _
                    first | (have h := HL.out.1; unfold LeafP at h; rw [← hsz0] at h; exact h) | (have h := HL.out.2; unfold LeafP at h; rw [← hsz0] at h; exact h)
                  exact AllReady.nil
                exact AllReady.nil
              refine AllReady.cons rfl (fun K' hK' => ?_) ?_
              · go_simp
                refine hK' _ _ ?_
                clear hK' K'
                refine wpAny_ready (rs := [5]) (by kernel_rfl) (by simp) ?_
                refine AllReady.cons rfl (fun K' hK' => ?_) ?_
                · go_simp
                  refine hK' _ _ ?_
                  clear hK' K'
                  refine wpAny_ready (rs := [6]) (by kernel_rfl) (by simp) ?_
                  refine AllReady.cons rfl (fun K' hK' => ?_) ?_
                  · go_simp
                    refine hK' _ _ ?_
                    clear hK' K'
                    refine wpAny_done (by kernel_rfl) ?_ _
                    first | (have h := HL.out.1; unfold LeafP at h; rw [← hsz0] at h; exact h) | (have h := HL.out.2; unfold LeafP at h; rw [← hsz0] at h; exact h)
                  exact AllReady.nil
                exact AllReady.nil
              exact AllReady.nil
            exact AllReady.nil
          exact AllReady.nil
        exact AllReady.nil
      refine AllReady.cons rfl (fun K' hK' => ?_) ?_
      · go_simp
        refine hK' _ _ ?_
        clear hK' K'
        refine wpAny_ready (rs := [0]) (by kernel_rfl) (by simp) ?_
        refine AllReady.cons rfl (fun K' hK' => ?_) ?_
        · go_simp
          refine hK' _ _ ?_
          clear hK' K'
          refine wpAny_ready (rs := [2]) (by kernel_rfl) (by simp) ?_
          refine AllReady.cons rfl (fun K' hK' => ?_) ?_
          · go_simp
            refine hK' _ _ ?_
            clear hK' K'
            refine wpAny_ready (rs := [4]) (by kernel_rfl) (by simp) ?_
            refine AllReady.cons rfl (fun K' hK' => ?_) ?_
            · refine step_append_lies _ rfl _ _ 22 rfl w.heap.size 24 i0 _ 3 40 Tryd.underlying22 hi hz0 hz1 hz2 rfl (by decide) _ pre.length _ rfl hrowA ⟨W.heap.size, 0, none⟩ 1 1 [.int .i64 0, .int .i64 0, .slice none 0 0] rfl rfl newsZ oneZ (by omega) (by simp only [maxLen]; omega) (by omega) hszB _ rfl ?_; intro g1 cap1 w1 hown1 hg1 hor hgl; obtain ⟨f0, f1, f2, ff0, ff1, ff2, cB, fB, x0, x1, x2, x3, _⟩ := hTail.out g1 cap1 w1 hown1 hg1 hor; have HL := Lib.hid (HLeaf.out g1 cap1 w1 hown1 hg1 hor); clear hown1 hg1 hor
              refine hK' _ _ ?_
              clear hK' K'
              refine wpAny_ready (rs := [5, 7]) (by kernel_rfl) (by simp) ?_
              refine AllReady.cons rfl (fun K' hK' => ?_) ?_
              · go_simp
                refine hK' _ _ ?_
                clear hK' K'
                refine wpAny_ready (rs := [6, 7]) (by kernel_rfl) (by simp) ?_
                refine AllReady.cons rfl (fun K' hK' => ?_) ?_
                · go_simp
                  refine hK' _ _ ?_
                  clear hK' K'
                  refine wpAny_ready (rs := [7]) (by kernel_rfl) (by simp) ?_
                  refine AllReady.cons rfl (fun K' hK' => ?_) ?_
                  · go_simp
                    refine hK' _ _ ?_
                    clear hK' K'
                    refine wpAny_done (by kernel_rfl) ?_ _
                    first | (have h := HL.out.1; unfold LeafP at h; rw [← hsz0] at h; exact h) | (have h := HL.out.2; unfold LeafP at h; rw [← hsz0] at h; exact h)
                  exact AllReady.nil
                refine AllReady.cons rfl (fun K' hK' => ?_) ?_
                · go_simp
                  refine hK' _ _ ?_
                  clear hK' K'
                  refine wpAny_ready (rs := [6]) (by kernel_rfl) (by simp) ?_
                  refine AllReady.cons rfl (fun K' hK' => ?_) ?_
                  · go_simp
                    refine hK' _ _ ?_
                    clear hK' K'
                    refine wpAny_done (by kernel_rfl) ?_ _
                    first | (have h := HL.out.1; unfold LeafP at h; rw [← hsz0] at h; exact h) | (have h := HL.out.2; unfold LeafP at h; rw [← hsz0] at h; exact h)
                  exact AllReady.nil
                exact AllReady.nil
              refine AllReady.cons rfl (fun K' hK' => ?_) ?_
              · go_simp
                refine hK' _ _ ?_
                clear hK' K'
                refine wpAny_ready (rs := [5]) (by kernel_rfl) (by simp) ?_
                refine AllReady.cons rfl (fun K' hK' => ?_) ?_
                · go_simp
                  refine hK' _ _ ?_
                  clear hK' K'
                  refine wpAny_ready (rs := [6]) (by kernel_rfl) (by simp) ?_
                  refine AllReady.cons rfl (fun K' hK' => ?_) ?_
                  · go_simp
                    refine hK' _ _ ?_
                    clear hK' K'
                    refine wpAny_done (by kernel_rfl) ?_ _
                    first | (have h := HL.out.1; unfold LeafP at h; rw [← hsz0] at h; exact h) | (have h := HL.out.2; unfold LeafP at h; rw [← hsz0] at h; exact h)
                  exact AllReady.nil
                exact AllReady.nil
              exact AllReady.nil
            exact AllReady.nil
          exact AllReady.nil
        exact AllReady.nil
      exact AllReady.nil
    exact AllReady.nil
  case done =>
    rintro D xs W hD hperm ⟨⟨v, bV, hrow⟩, hB⟩ hK
    have cV := bV.cell
    gi_wp2
    refine ⟨by simp, .inl ⟨_, _, rfl, run_takeDeferred hK, ?_⟩⟩
    exact ⟨_, results_tmp rfl _ _ _, v, xs, rfl, hperm, ownsRow_putObj hrow _ hK rfl, hB.trans (belowK_b (w := w) (Nat.le_refl _) W D _ _ (by omega) hK rfl rfl)⟩
  case stop =>
    rintro D c pre W _ _ h _
    exact h.elim
end Go.Proofs.YthfcaiipcdibbaaDoor
