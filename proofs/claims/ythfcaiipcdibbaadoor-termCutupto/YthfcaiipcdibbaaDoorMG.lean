import Derived.Test.YthfcaiipcdibbaaDoorMF
import Derived.MapKept
import Derived.ChangeMaps
import Derived.Carry
import Derived.Ground.NamesProg
import Derived.Shelf.Lay
import Derived.Shelf.Strings.OnBuilder
import Derived.Shelf.Strconv.Itoa3
import Derived.Lib.AppendIntMem
import Derived.Deep.DeepCutAuto
/- shapes, and the map operations it needs. -/
set_option linter.unusedSimpArgs false
set_option linter.unusedVariables false
namespace Tm
open Go Go.RowKit Go.MapKept
theorem set_alloc (w : World) (o o' : Obj) : ({ w.alloc o with heap := (w.alloc o).heap.setIfInBounds w.heap.size o' } : World) = w.alloc o' := by
  show ({ w with heap := (w.heap.push o).setIfInBounds w.heap.size o' } : World) = { w with heap := w.heap.push o' }
  congr 1
  apply Array.ext_getElem?
  intro i
  rw [Array.getElem?_setIfInBounds]
  by_cases h : w.heap.size = i
  · subst h; simp
  · rw [if_neg h]
    simp only [Array.getElem?_push, if_neg (Ne.symm h)]
theorem upd_new {P : Program} {mty kt et : TypeId} {d : TypeDesc} (hm : P.underlying mty = some (.map kt et)) (hd : P.underlying kt = some d) (w : World) (es : Array MapEntry) (c : Nat) (key val : Value) (hk : MapKept.IsKey d key)
    (hf : Instr.findNow d key es.toList 0 = some none) : (Instr.mapUpdate mty (.map (some w.heap.size)) key val).run P (w.alloc (.map es c)) = .ok () (w.alloc (.map (es.push { key, val, born := c }) (c + 1))) := by
  have hb : (w.alloc (.map es c)).heap[w.heap.size]? = some (.map es c) := (heap_alloc w _).1
  simp only [Instr.mapUpdate, Sem.run_bind, run_underlying hm, run_getObj_map hb, run_checkKey hd hk, run_findKey hd hf, Result.andThen]
  rw [run_setObj_map _ hb, set_alloc]
theorem look_hit {P : Program} {mty kt et : TypeId} {d : TypeDesc} (hm : P.underlying mty = some (.map kt et)) (hd : P.underlying kt = some d) {w : World} {r : Nat} {es : Array MapEntry} {c : Nat} (hb : w.heap[r]? = some (.map es c)) {key val : Value} {i : Nat} (hk : MapKept.IsKey d key)
    (hf : Instr.findNow d key es.toList 0 = some (some (i, val))) (ok : Bool) : (Instr.lookup mty (.map (some r)) key ok).run P w = .ok (if ok then .tuple #[val, .bool true] else val) w := by
  simp only [Instr.lookup, Sem.run_bind, run_underlying hm, run_getObj_map hb, run_checkKey hd hk, run_findKey hd hf, Result.andThen, Sem.run_pure]
theorem look_miss {P : Program} {mty kt et : TypeId} {d : TypeDesc} (hm : P.underlying mty = some (.map kt et)) (hd : P.underlying kt = some d) {w : World} {r : Nat} {es : Array MapEntry} {c : Nat} (hb : w.heap[r]? = some (.map es c)) {key z : Value} (hk : MapKept.IsKey d key)
    (hz : (zeroValue et).run P w = .ok z w) (hf : Instr.findNow d key es.toList 0 = some none) (ok : Bool) : (Instr.lookup mty (.map (some r)) key ok).run P w = .ok (if ok then .tuple #[z, .bool false] else z) w := by
  simp only [Instr.lookup, Sem.run_bind, run_underlying hm, run_getObj_map hb, run_checkKey hd hk, run_findKey hd hf, Result.andThen, Sem.run_pure, hz]
def shapeV (s : List UInt8) (n : Int) (c : Bool) : Value := .agg #[.string ⟨s.toArray⟩, .int .i64 n, .bool c]
def shapeE : Array MapEntry := #[⟨.int .i64 1, shapeV [100] 0 true, 0⟩, ⟨.int .i64 2, shapeV [107] 0 true, 1⟩, ⟨.int .i64 3, shapeV [115, 101, 97, 108] 2 false, 2⟩, ⟨.int .i64 4, shapeV [98, 111, 120] 2 true, 3⟩, ⟨.int .i64 5, shapeV [107, 100, 102] 1 true, 4⟩, ⟨.int .i64 6, shapeV [109, 97, 99] 2 false, 5⟩]
theorem shape_find (k : Int) : (k = 1 ∧ Instr.findNow (.int .i64) (.int .i64 k) shapeE.toList 0 = some (some (0, shapeV [100] 0 true))) ∨ (k = 2 ∧ Instr.findNow (.int .i64) (.int .i64 k) shapeE.toList 0 = some (some (1, shapeV [107] 0 true)))
    ∨ (k = 3 ∧ Instr.findNow (.int .i64) (.int .i64 k) shapeE.toList 0 = some (some (2, shapeV [115, 101, 97, 108] 2 false))) ∨ (k = 4 ∧ Instr.findNow (.int .i64) (.int .i64 k) shapeE.toList 0 = some (some (3, shapeV [98, 111, 120] 2 true)))
    ∨ (k = 5 ∧ Instr.findNow (.int .i64) (.int .i64 k) shapeE.toList 0 = some (some (4, shapeV [107, 100, 102] 1 true))) ∨ (k = 6 ∧ Instr.findNow (.int .i64) (.int .i64 k) shapeE.toList 0 = some (some (5, shapeV [109, 97, 99] 2 false)))
    ∨ (k ≠ 1 ∧ k ≠ 2 ∧ k ≠ 3 ∧ k ≠ 4 ∧ k ≠ 5 ∧ k ≠ 6 ∧ Instr.findNow (.int .i64) (.int .i64 k) shapeE.toList 0 = some none) := by
  by_cases h1 : k = 1; · subst h1; simp [shapeE, Instr.findNow, Instr.sameNow]
  by_cases h2 : k = 2; · subst h2; simp [shapeE, Instr.findNow, Instr.sameNow]
  by_cases h3 : k = 3; · subst h3; simp [shapeE, Instr.findNow, Instr.sameNow]
  by_cases h4 : k = 4; · subst h4; simp [shapeE, Instr.findNow, Instr.sameNow]
  by_cases h5 : k = 5; · subst h5; simp [shapeE, Instr.findNow, Instr.sameNow]
  by_cases h6 : k = 6; · subst h6; simp [shapeE, Instr.findNow, Instr.sameNow]
  have e1 : (k == 1) = false := by simpa using h1
  have e2 : (k == 2) = false := by simpa using h2
  have e3 : (k == 3) = false := by simpa using h3
  have e4 : (k == 4) = false := by simpa using h4
  have e5 : (k == 5) = false := by simpa using h5
  have e6 : (k == 6) = false := by simpa using h6
  simp [shapeE, Instr.findNow, Instr.sameNow, h1, h2, h3, h4, h5, h6, e1, e2, e3, e4, e5, e6]
end Tm
namespace Go.Proofs.YthfcaiipcdibbaaDoor
open Go.RowKit Tm
set_option maxHeartbeats 1000000 in
theorem shapesCall (w : World) : Calls Tryd.prog 33 #[] w fun e w' => e = .returned (.map (some w.heap.size)) ∧ w' = w.alloc (.map shapeE 6) := by
  have hm : Tryd.prog.underlying 42 = some (.map 3 45) := Tryd.underlying42
  have hd : Tryd.prog.underlying 3 = some (.int .i64) := Tryd.underlying3
  have hmm := @run_makeMap Tryd.prog
  have u1 := upd_new hm hd w #[] 0 (.int .i64 1) (shapeV [100] 0 true) rfl rfl
  have u2 := upd_new hm hd w (shapeE.extract 0 1) 1 (.int .i64 2) (shapeV [107] 0 true) rfl rfl
  have u3 := upd_new hm hd w (shapeE.extract 0 2) 2 (.int .i64 3) (shapeV [115, 101, 97, 108] 2 false) rfl rfl
  have u4 := upd_new hm hd w (shapeE.extract 0 3) 3 (.int .i64 4) (shapeV [98, 111, 120] 2 true) rfl rfl
  have u5 := upd_new hm hd w (shapeE.extract 0 4) 4 (.int .i64 5) (shapeV [107, 100, 102] 1 true) rfl rfl
  have u6 := upd_new hm hd w (shapeE.extract 0 5) 5 (.int .i64 6) (shapeV [109, 97, 99] 2 false) rfl rfl
  simp [shapeE, shapeV] at u1 u2 u3 u4 u5 u6
  go_enter Tryd.func33, Tryd.ntmps33
  go_wp2
  go_ret
  exact ⟨rfl, rfl⟩
end Go.Proofs.YthfcaiipcdibbaaDoor

/- strconv.Itoa and strings.Join at this program. -/
set_option linter.unusedSimpArgs false
set_option linter.unusedVariables false
namespace Go.Proofs
open Go.Shelf Go.RowKit
def Tryd.laysItoa_ren : Go.Shelf.Ren := ⟨fun | 171 => 43 | 243 => 53 | 246 => 63 | 283 => 69 | 284 => 70 | 285 => 71 | 286 => 72 | 129 => 79 | 317 => 78 | 318 => 80 | 319 => 81 | 320 => 82 | 337 => 92 | 338 => 93 | n => n, fun | 3 => 3 | 9 => 9 | 2 => 2 | 4 => 4 | 171 => 84 | 0 => 0 | 53 => 85 | 37 => 65 | 5 => 5 | 173 => 88 | 212 => 98 | 51 => 99 | 20 => 20 | 213 => 100 | 46 => 96 | 232 => 116 | 233 => 117 | n => n, fun | 17 => 0 | 18 => 2 | 19 => 3 | n => n⟩
theorem Tryd.laysItoa : Go.Proofs.LaysM.n171 Tryd.prog Tryd.laysItoa_ren := {
  mixed := by kernel_rfl
  f129 := Tryd.func79.trans (congrArg some (by kernel_rfl))
  f171 := Tryd.func43.trans (congrArg some (by kernel_rfl))
  f243 := Tryd.func53.trans (congrArg some (by kernel_rfl))
  f246 := Tryd.func63.trans (congrArg some (by kernel_rfl))
  f283 := Tryd.func69.trans (congrArg some (by kernel_rfl))
  f284 := Tryd.func70.trans (congrArg some (by kernel_rfl))
  f285 := Tryd.func71.trans (congrArg some (by kernel_rfl))
  f286 := Tryd.func72.trans (congrArg some (by kernel_rfl))
  f317 := Tryd.func78.trans (congrArg some (by kernel_rfl))
  f318 := Tryd.func80.trans (congrArg some (by kernel_rfl))
  f319 := Tryd.func81.trans (congrArg some (by kernel_rfl))
  f320 := Tryd.func82.trans (congrArg some (by kernel_rfl))
  f337 := Tryd.func92.trans (congrArg some (by kernel_rfl))
  f338 := Tryd.func93.trans (congrArg some (by kernel_rfl))
  t0 := Tryd.underlying0
  a0 := Tryd.isAgg0
  z0 := Tryd.sizeOf0
  v0 := Tryd.zeroValue0
  t2 := Tryd.underlying2
  a2 := Tryd.isAgg2
  z2 := Tryd.sizeOf2
  v2 := Tryd.zeroValue2
  t3 := Tryd.underlying3
  a3 := Tryd.isAgg3
  z3 := Tryd.sizeOf3
  v3 := Tryd.zeroValue3
  t4 := Tryd.underlying4
  a4 := Tryd.isAgg4
  z4 := Tryd.sizeOf4
  v4 := Tryd.zeroValue4
  t5 := Tryd.underlying5
  a5 := Tryd.isAgg5
  z5 := Tryd.sizeOf5
  v5 := Tryd.zeroValue5
  t9 := Tryd.underlying9
  a9 := Tryd.isAgg9
  z9 := Tryd.sizeOf9
  v9 := Tryd.zeroValue9
  t20 := Tryd.underlying20
  a20 := Tryd.isAgg20
  z20 := Tryd.sizeOf20
  v20 := Tryd.zeroValue20
  t37 := Tryd.underlying65
  a37 := Tryd.isAgg65
  z37 := Tryd.sizeOf65
  v37 := Tryd.zeroValue65
  t46 := Tryd.underlying96
  a46 := Tryd.isAgg96
  z46 := Tryd.sizeOf96
  v46 := Tryd.zeroValue96
  t51 := Tryd.underlying99
  a51 := Tryd.isAgg99
  z51 := Tryd.sizeOf99
  v51 := Tryd.zeroValue99
  t53 := Tryd.underlying85
  a53 := Tryd.isAgg85
  z53 := Tryd.sizeOf85
  v53 := Tryd.zeroValue85
  t171 := Tryd.underlying84
  a171 := Tryd.isAgg84
  z171 := Tryd.sizeOf84
  v171 := Tryd.zeroValue84
  t173 := Tryd.underlying88
  a173 := Tryd.isAgg88
  z173 := Tryd.sizeOf88
  v173 := Tryd.zeroValue88
  t212 := Tryd.underlying98
  a212 := Tryd.isAgg98
  z212 := Tryd.sizeOf98
  v212 := Tryd.zeroValue98
  t213 := Tryd.underlying100
  a213 := Tryd.isAgg100
  z213 := Tryd.sizeOf100
  t232 := Tryd.underlying116
  a232 := Tryd.isAgg116
  z232 := Tryd.sizeOf116
  v232 := Tryd.zeroValue116
  t233 := Tryd.underlying117
  a233 := Tryd.isAgg117
  z233 := Tryd.sizeOf117
  v233 := Tryd.zeroValue117
  g17 := by kernel_rfl
  g18 := by kernel_rfl
  g19 := by kernel_rfl
  i0 := by kernel_rfl
  i2 := by kernel_rfl
  i3 := by kernel_rfl
  i4 := by kernel_rfl
  i5 := by kernel_rfl
  i9 := by kernel_rfl
  i20 := by kernel_rfl
  i37 := by kernel_rfl
  i46 := by kernel_rfl
  i51 := by kernel_rfl
  i53 := by kernel_rfl
  i171 := by kernel_rfl
  i173 := by kernel_rfl
  i212 := by kernel_rfl
  i232 := by kernel_rfl
  i233 := by kernel_rfl
  m17 := by kernel_rfl
  m18 := by kernel_rfl
  m19 := by kernel_rfl }
def Tryd.laysJoin_ren : Go.Shelf.Ren := ⟨fun | 156 => 44 | 165 => 54 | 166 => 55 | 169 => 56 | 240 => 64 | 241 => 65 | 276 => 73 | 277 => 74 | n => n, fun | 31 => 54 | 9 => 9 | 3 => 3 | 4 => 4 | 0 => 0 | 20 => 20 | 72 => 67 | 76 => 71 | 70 => 64 | 37 => 65 | 75 => 70 | 127 => 81 | 164 => 90 | 5 => 5 | 80 => 73 | n => n, fun | n => n⟩
theorem Tryd.laysJoin : Go.Proofs.Lays.n156 Tryd.prog Tryd.laysJoin_ren := {
  mixed := by kernel_rfl
  f156 := Tryd.func44.trans (congrArg some (by kernel_rfl))
  f165 := Tryd.func54.trans (congrArg some (by kernel_rfl))
  f166 := Tryd.func55.trans (congrArg some (by kernel_rfl))
  f169 := Tryd.func56.trans (congrArg some (by kernel_rfl))
  f240 := Tryd.func64.trans (congrArg some (by kernel_rfl))
  f241 := Tryd.func65.trans (congrArg some (by kernel_rfl))
  f276 := Tryd.func73.trans (congrArg some (by kernel_rfl))
  f277 := Tryd.func74.trans (congrArg some (by kernel_rfl))
  t0 := Tryd.underlying0
  a0 := Tryd.isAgg0
  z0 := Tryd.sizeOf0
  v0 := Tryd.zeroValue0
  t3 := Tryd.underlying3
  a3 := Tryd.isAgg3
  z3 := Tryd.sizeOf3
  v3 := Tryd.zeroValue3
  t4 := Tryd.underlying4
  a4 := Tryd.isAgg4
  z4 := Tryd.sizeOf4
  v4 := Tryd.zeroValue4
  t9 := Tryd.underlying9
  a9 := Tryd.isAgg9
  z9 := Tryd.sizeOf9
  v9 := Tryd.zeroValue9
  t20 := Tryd.underlying20
  a20 := Tryd.isAgg20
  z20 := Tryd.sizeOf20
  v20 := Tryd.zeroValue20
  t31 := Tryd.underlying54
  a31 := Tryd.isAgg54
  z31 := Tryd.sizeOf54
  v31 := Tryd.zeroValue54
  t37 := Tryd.underlying65
  a37 := Tryd.isAgg65
  z37 := Tryd.sizeOf65
  v37 := Tryd.zeroValue65
  t70 := Tryd.underlying64
  a70 := Tryd.isAgg64
  z70 := Tryd.sizeOf64
  v70 := Tryd.zeroValue64
  t72 := Tryd.underlying67
  a72 := Tryd.isAgg67
  z72 := Tryd.sizeOf67
  v72 := Tryd.zeroValue67
  t75 := Tryd.underlying70
  a75 := Tryd.isAgg70
  z75 := Tryd.sizeOf70
  v75 := Tryd.zeroValue70
  t76 := Tryd.underlying71
  a76 := Tryd.isAgg71
  z76 := Tryd.sizeOf71
  v76 := Tryd.zeroValue71
  t127 := Tryd.underlying81
  a127 := Tryd.isAgg81
  z127 := Tryd.sizeOf81
  v127 := Tryd.zeroValue81
  t164 := Tryd.underlying90
  a164 := Tryd.isAgg90
  z164 := Tryd.sizeOf90
  v164 := Tryd.zeroValue90 }
theorem Tryd.extraJoin : Builder.Extra Tryd.prog Tryd.laysJoin_ren := {
  sizeBuilder := by kernel_rfl
  liesBuilder := by kernel_rfl
  t5 := Tryd.underlying5
  a5 := Tryd.isAgg5
  z5 := Tryd.sizeOf5
  v5 := Tryd.zeroValue5
  infoByte := by kernel_rfl
  cellsByte := by kernel_rfl
  sizeByte := by kernel_rfl
  neB5 := by decide }
end Go.Proofs

/- The program's Text. -/
set_option linter.unusedSimpArgs false
set_option linter.unusedVariables false
namespace Tm
open Go Go.RowKit
theorem joins1_eq : ∀ l : List T, joins1 l = Go.Lib.joinTail [44] (l.map text)
  | [] => by simp [joins1, Go.Lib.joinTail]
  | a :: l => by
    have := joins1_eq l
    simp only [joins1, this, Go.Lib.joinTail, List.map_cons, List.flatten_cons]
    rfl
theorem join_cons (x sep : List UInt8) (r : List (List UInt8)) : Go.Lib.join (x :: r) sep = x ++ Go.Lib.joinTail sep r := by
  induction r generalizing x with
  | nil => simp [Go.Lib.join_one, Go.Lib.joinTail]
  | cons y r ih =>
    have h2 := ih y
    unfold Go.Lib.join at h2 ⊢
    rw [List.intercalate_cons_cons, h2]
    simp [Go.Lib.joinTail]
theorem joins_eq (l : List T) : joins l = Go.Lib.join (l.map text) [44] := by
  cases l with
  | nil => simp [joins, Go.Lib.join, List.intercalate]
  | cons a l => rw [List.map_cons, join_cons, joins, joins1_eq]
theorem head_look {k n : Int} {l : List T} (hv : valid (.mk k n l) = true) : ∃ nm ln cn i, Instr.findNow (.int .i64) (.int .i64 k) shapeE.toList 0 = some (some (i, shapeV nm ln cn)) ∧ ln = (l.length : Int) ∧ cn = counted k ∧ nm = name k ∧ (l = [] ↔ (k = 1 ∨ k = 2)) := by
  cases shape_of hv <;> exact ⟨_, _, _, _, rfl, by simp, by simp [counted], by simp [name], by simp⟩
theorem tab_below {P : Program} {w w' : World} {n : String} {k : IntKind} {zs : List Int} (h : Lib.TabIs P w n k zs) (hb : Below w.heap.size w w') : Lib.TabIs P w' n k zs := Lib.tabBelow_of_tabIs h w' hb
end Tm
namespace Go.Proofs.YthfcaiipcdibbaaDoor
open Go.RowKit Tm
theorem shapesCall2 (w : World) : Calls Tryd.prog 33 #[] w fun e w' => ∃ r, e = .returned (.map (some r)) ∧ Below w.heap.size w w' ∧ w.heap.size ≤ r ∧ r < w'.heap.size ∧ ∀ W, Below w'.heap.size w' W → W.heap[r]? = some (.map shapeE 6) := by
  refine (shapesCall w).mono ?_
  rintro e w' ⟨rfl, rfl⟩
  exact ⟨_, rfl, (Below.refl _ _).alloc (Nat.le_refl _) _, Nat.le_refl _, by simp, fun W hW => by rw [hW.block _ (by simp)]; exact (MapKept.heap_alloc w _).1⟩
abbrev tab (w : World) : Prop := Lib.TabIs Tryd.prog w "internal/strconv.uint64pow10" .u64 Lib.pow10Tab
theorem itoaCall (m : Nat) (hm : m ≤ 2147483647) (w : World) (ht : tab w) : Calls Tryd.prog 43 #[.int .i64 m] w fun e w' => e = .returned (.string (bs (dig m))) ∧ Below w.heap.size w w' := by
  refine (Any.strconv_Itoa Tryd.laysItoa m (by omega) (by omega) w ht).mono ?_
  rintro e w' ⟨rfl, k, os, rfl⟩
  refine ⟨?_, ?_⟩
  · rw [Lib.itoa_nonneg]; simp [dig, bs]
  · exact Lib.below_grow _ _ (Nat.le_refl _) _ _
end Go.Proofs.YthfcaiipcdibbaaDoor

/- The program's Text. -/
set_option linter.unusedSimpArgs false
set_option linter.unusedVariables false
namespace Go.Proofs.YthfcaiipcdibbaaDoor
open Go.RowKit Tm

theorem infoS : (Tryd.prog.info? 9).map (fun i => (i.zero, i.size, i.bytes)) = some (some (.string ⟨#[]⟩), 1, 16) := by kernel_rfl

theorem heap_new {B : World} {r : Nat} (h : B.heap.size = r) (o : Obj) : (B.alloc o).drew.heap[r]? = some o := by subst h; exact (MapKept.heap_alloc B o).1
theorem cell_last {B : World} {x : Obj} {o : Array Value} {t : TypeId} {g : Nat} (h : (B.alloc x).heap.size = g) (j : Nat) : ((B.alloc x).alloc (.cells o t)).drew.cell? ⟨g, j, none⟩ = o[j]? := by
  subst h; exact World.cell?_alloc_new _ _ _ _
theorem cell_but {B : World} {x : Obj} {o : Array Value} {t : TypeId} {g : Nat} (h : B.heap.size = g) (j : Nat) : ((B.alloc (.cells o t)).alloc x).drew.cell? ⟨g, j, none⟩ = o[j]? := by
  subst h
  have e : ((B.alloc (.cells o t)).alloc x).heap[B.heap.size]? = (B.alloc (.cells o t)).heap[B.heap.size]? := Below.heap_alloc _ _ _ (by simp)
  show ((B.alloc (.cells o t)).alloc x).cell? _ = _
  rw [World.cell?_of_block (w := B.alloc (.cells o t)) e]
  exact World.cell?_alloc_new _ _ _ _

section
variable {ops : Array Oper} {rest : List Oper} {o : Oper} {a : Act} {Q : Exit → Act → World → Prop}
/-- 'v = append(v, s)' for a slice of strings. -/
theorem app_str {w0 W : World} (base : Nat) (hgd : o.guard = none) (s x : Operand)
    (ho : o.op = .call { callee := .builtin .append, args := #[s, x], argTypes := #[54, 54] })
    {v : Value} {xs : List Value} (n : Nat) (b : ByteArray) (HO : W.ownsRow base 9 1 v n xs) (hs : a.eval s = v) (hx : a.eval x = .slice (some ⟨W.heap.size, 0, none⟩) 1 1)
    (HB : Below base w0 W) (hbase : base ≤ W.heap.size) (hl : n ≤ 1099511627776)
    (h : ∀ v1 w1, w1.ownsRow base 9 1 v1 (n + 1) (xs ++ [.string b]) → Below base w0 w1 → wpList Tryd.prog ops Q rest (a.put o.dst v1) w1) :
    wpList Tryd.prog ops Q (o :: rest) a (W.alloc (.cells #[.string b] 9)) := by
  refine app_one (w0 := w0) base hgd s x _ _ _ 1 16 ho Tryd.underlying54 infoS rfl (by omega) (by omega) v n xs [.string b] hs hx rfl ?_ HO HB hbase (by omega) ?_
  · intro u hu
    simp only [List.mem_cons, List.not_mem_nil, or_false] at hu
    subst hu; rfl
  · intro v1 w1 ho hb hg hs hat
    exact h v1 w1 ho hb
end
def CutA (w : World) (box : Obj) (nm : List UInt8) (ln : Nat) (cn : Bool) (s3 : Value) (wx : World) : Prop := ∃ g : Nat, s3 = .pointer (some ⟨g, 0, none⟩) ∧ wx.cell? ⟨g, 0, none⟩ = some (.string (bs nm)) ∧ wx.cell? ⟨g, 1, none⟩ = some (.int .i64 ln) ∧ wx.cell? ⟨g, 2, none⟩ = some (.bool cn) ∧ Below (w.heap.size + 1) (w.alloc box) wx
theorem cutA1 (w : World) (box : Obj) (nm : List UInt8) (ln : Nat) (cn : Bool) : CutA w box nm ln cn (.pointer (some ⟨w.heap.size + 1 + 1, 0, none⟩)) (((w.alloc box).alloc (.map shapeE 6)).alloc (.cells #[.string (bs nm), .int .i64 ln, .bool cn] 45)).drew := by
  have h : ((w.alloc box).alloc (.map shapeE 6)).heap.size = w.heap.size + 1 + 1 := by simp
  exact ⟨_, rfl, cell_last h 0, cell_last h 1, cell_last h 2, (((Below.refl _ _).alloc (by simp) _).alloc (by simp) _).drew⟩
theorem cutA2 (w : World) (box : Obj) (nm : List UInt8) (ln : Nat) (cn : Bool) : CutA w box nm ln cn (.pointer (some ⟨w.heap.size + 1, 0, none⟩)) (((w.alloc box).alloc (.cells #[.string (bs nm), .int .i64 ln, .bool cn] 45)).alloc (.map shapeE 6)).drew := by
  have h : (w.alloc box).heap.size = w.heap.size + 1 := by simp
  exact ⟨_, rfl, cell_but h 0, cell_but h 1, cell_but h 2, (((Below.refl _ _).alloc (by simp) _).alloc (by simp) _).drew⟩

/-- The strings of a list of terms, as values. -/
def strs (l : List T) : List Value := l.map fun t => .string (bs (text t))
theorem strs_succ {l : List T} {j : Nat} (h : j < l.length) : strs (l.take (j + 1)) = strs (l.take j) ++ [.string (bs (text l[j]))] := by
  unfold strs
  rw [List.take_add_one, List.getElem?_eq_getElem h, List.map_append]; rfl
theorem ownsRow_grow {w w' : World} {base e size n : Nat} {v : Value} {xs : List Value} (h : w.ownsRow base e size v n xs) (hb : Below w.heap.size w w') : w'.ownsRow base e size v n xs := by
  refine h.kept (row := none) ⟨hb.os, hb.tape, hb.output, hb.size, fun k hk _ => hb.block k hk⟩ ?_
  cases v.ownBlock <;> simp

set_option maxHeartbeats 4000000 in
set_option maxRecDepth 100000 in
theorem termText (t : T) : ∀ (I : Im) (w : World) (A : Option Addr) (cap : Nat), Tm.Mod w I → SL I t.l A cap → valid t = true → size t ≤ 1000000 → tab w →
    Calls Tryd.prog 20 #[.agg #[.int .i64 t.k, .int .i64 t.n, .slice A t.l.length cap]] w fun e w' => e = .returned (.string (bs (text t))) ∧ Below w.heap.size w w' := by
  induction t using T.ind with
  | h k n l ih =>
    intro I w A cap hm hl hv hs htab
    have hc1 := hl.1
    have hc2 := hl.2.1
    have hlen := text_length hv
    simp only [T.k_mk, T.n_mk, T.l_mk] at *
    obtain ⟨nm, ln, cn, ix, hf, rfl, hcn, hnm, hnil⟩ := head_look hv
    have hn : 0 ≤ n ∧ n ≤ 2147483647 ∧ l.length ≤ 2 ∧ valids l = true := by
      have hvl : valids l = true := by simp only [valid, Bool.and_eq_true] at hv; exact hv.2
      cases shape_of hv <;> exact ⟨by omega, by omega, by simp, hvl⟩
    obtain ⟨h0, h1, hl2, hvl⟩ := hn
    have hdl := dig_length h1
    obtain ⟨m, rfl⟩ := Int.eq_ofNat_of_zero_le h0
    have hml : m ≤ 2147483647 := by omega
    have hnl : nm.length ≤ 4 := by rw [hnm]; unfold name; repeat' split
                                   all_goals simp
    have hm' : Tryd.prog.underlying 42 = some (.map 3 45) := Tryd.underlying42
    have hd : Tryd.prog.underlying 3 = some (.int .i64) := Tryd.underlying3
    have hlk : Hid (∀ (W : World) (r : Nat), W.heap[r]? = some (.map shapeE 6) → (Instr.lookup 42 (.map (some r)) (.int .i64 k) false).run Tryd.prog W = .ok (.agg #[.string (bs nm), .int .i64 l.length, .bool cn]) W) := Lib.hid (fun (W : World) (r : Nat) (hb : W.heap[r]? = some (.map shapeE 6)) => look_hit hm' hd hb (key := .int .i64 k) rfl hf false)
    have IH := Lib.hid ih
    have HM := Lib.hid hm
    have HL := Lib.hid hl
    have HV := Lib.hid hvl
    have HT := Lib.hid htab
    have HN := Lib.hid hnil
    have HH := Lib.hid (show headText k (m : Int) = nm ++ (if cn = true then dig (m : Int) else []) by rw [hcn, hnm]; rfl)
    have hsl : sizes l ≤ 1000000 := by simp only [size] at hs; omega
    clear ih hm hl hvl hlen hv h0 h1 hs htab hf hcn hnm hnil hm' hd
    go_enter Tryd.func20, Tryd.ntmps20
    go_upto_region 1 with fail
    go_cut [3] (fun s3 wx => CutA w (.cells #[.int .i64 k, .int .i64 m, .slice A l.length cap] 24) nm l.length cn s3 wx)
    case first =>
      have hq1 := hlk.out ((w.alloc (.cells #[.int .i64 k, .int .i64 m, .slice A l.length cap] 24)).alloc (.map shapeE 6)).drew (w.heap.size + 1) (heap_new (by simp) _)
      have hq2 := hlk.out (((w.alloc (.cells #[.int .i64 k, .int .i64 m, .slice A l.length cap] 24)).alloc (.map shapeE 6)).alloc (.cells #[.string ⟨#[]⟩, .int .i64 0, .bool false] 45)).drew (w.heap.size + 1) (by show (((w.alloc (.cells #[.int .i64 k, .int .i64 m, .slice A l.length cap] 24)).alloc (.map shapeE 6)).alloc (.cells #[.string ⟨#[]⟩, .int .i64 0, .bool false] 45)).heap[w.heap.size + 1]? = _; rw [(MapKept.heap_alloc ((w.alloc (.cells #[.int .i64 k, .int .i64 m, .slice A l.length cap] 24)).alloc (.map shapeE 6)) (.cells #[.string ⟨#[]⟩, .int .i64 0, .bool false] 45)).2 _ (by simp)]; simpa using (MapKept.heap_alloc (w.alloc (.cells #[.int .i64 k, .int .i64 m, .slice A l.length cap] 24)) (.map shapeE 6)).1)
      have hq3 := hlk.out (((w.alloc (.cells #[.int .i64 k, .int .i64 m, .slice A l.length cap] 24)).alloc (.cells #[.string ⟨#[]⟩, .int .i64 0, .bool false] 45)).alloc (.map shapeE 6)).drew (w.heap.size + 2) (heap_new (by simp) _)
      go_region_with ((go_at_call 33; refine (shapesCall _).mono ?_; rintro e w1 ⟨rfl, rfl⟩))
      all_goals (go_wp2_with fail; go_meet; first
        | exact cutA1 w (.cells #[.int .i64 k, .int .i64 m, .slice A l.length cap] 24) nm l.length cn
        | exact cutA2 w (.cells #[.int .i64 k, .int .i64 m, .slice A l.length cap] 24) nm l.length cn)
    case rest =>
      obtain ⟨g, rfl, c0, c1, c2, hbx⟩ := hcut
      have d1 := newcell hbx 1
      have d2 := newcell hbx 2
      have htc := Lib.hid (tab_below HT.out (under1 hbx))
      have hmc := Lib.hid (HM.out.grow (under1 hbx))
      have hux := Lib.hid (under1 hbx)
      have hlt0 := World.block_lt_of_cell? _ _ d1
      have hlt1 := World.block_lt_of_cell? _ _ c1
      clear hbx HT HM hlk
      have hbs := bs_size
      have hba := bs_append
      have e7 := lit_bs [40]
      have e8 := lit_bs [41]
      have e9 := lit_bs [44]
      obtain ⟨wo, rfl⟩ : ∃ wo : World, wo = wc := ⟨_, rfl⟩
      go_upto_if 15 with fail
      go_cut [4] (fun s4 wx => s4 = .string (bs (headText k m)) ∧ Below wo.heap.size wo wx)
      case first =>
        cases cn with
        | true =>
          go_wp2_with (go_at_call 43; refine (itoaCall m hml _ htc.out).mono ?_; rintro e w6 ⟨rfl, hb6⟩)
          go_meet
          exact ⟨str_eq (by rw [HH.out]; rfl), hb6⟩
        | false =>
          go_wp2
          go_meet
          exact ⟨str_eq (by rw [HH.out]; simp), Below.refl _ _⟩
      case rest =>
        obtain ⟨rfl, hb⟩ := hcut
        have c1' := (hb.cell (p := ⟨g, 1, none⟩) hlt1).trans c1
        have d2' := (hb.cell (p := ⟨w.heap.size, 2, none⟩) hlt0).trans d2
        have HM2 := Lib.hid (hmc.out.grow hb)
        have HT2 := Lib.hid (tab_below htc.out hb)
        have HB2 := Lib.hid (hux.out.trans (hb.mono hux.out.size))
        have hhl := headText_length (k := k) (n := (m : Int)) (by omega)
        clear c0 c1 c2 d1 d2 hlt0 hlt1 hb htc hmc hux HH
        obtain ⟨wq, rfl⟩ : ∃ wq : World, wq = wc := ⟨_, rfl⟩
        by_cases hl0 : l = []
        · have fin : Hid (text (.mk k m l) = headText k m) := by unfold Hid; simp only [text]; rw [if_pos (HN.out.1 hl0)]; simp
          have hz : ((l.length : Int) == 0) = true := by simp [hl0]
          clear hl0
          go_wp2
          go_ret
          exact ⟨by rw [fin.out]; rfl, HB2.out⟩
        · have fin : Hid (text (.mk k m l) = headText k m ++ 40 :: (joins l ++ [41])) := by unfold Hid; simp only [text]; rw [if_neg (fun h => hl0 (HN.out.2 h))]
          have hpos : 0 < l.length := List.length_pos_iff.2 hl0
          have hz : ((l.length : Int) == 0) = false := by simp; exact hl0
          have hJl : (joins l).length ≤ 20 * 1000000 + 2 := by
            have h1 := joins_length l fun x hx => text_length (valids_iff.1 HV.out x hx)
            omega
          clear hl0 HN
          go_wp2_with fail
          go_loopw [5, 28] (fun sv i wr => ∃ j : Nat, j ≤ l.length ∧ i = .int .i64 j ∧ wr.ownsRow wq.heap.size 9 1 sv j (strs (l.take j)) ∧ Below wq.heap.size wq wr) (fun _ i _ => l.length - (intOf i).toNat)
          case atStart => exact ⟨0, Nat.zero_le _, rfl, World.ownsRow_nil _ _ _ _, Below.refl _ _⟩
          case round =>
            obtain ⟨j, hj, rfl, ho, hb⟩ := hrel
            by_cases hlt : j < l.length
            · obtain ⟨b, o, A', cap', rfl, g3, d0, d1, d2⟩ := HL.out.cells (HM2.out.grow hb) hlt
              have hszj := size_le_sizes (List.getElem_mem hlt)
              have hvj := valids_iff.1 HV.out l[j] (List.getElem_mem hlt)
              have HC := Lib.hid (fun (W : World) (hW : Below wr.heap.size wr W) => IH.out l[j] (List.getElem_mem hlt) I W A' cap' (HM2.out.grow (hb.trans (hW.mono hb.size))) g3 hvj (by omega) (tab_below HT2.out (hb.trans (hW.mono hb.size))))
              have hsz := hb.size
              have HBB := Lib.hid hb
              have HO := Lib.hid ho
              have hgr := Lib.hid (strs_succ hlt)
              clear hb g3 hvj hszj ho
              go_wp2_with (first
                | (go_at_call 20; refine (HC.out _ ((Below.refl _ _).alloc (Nat.le_refl _) _)).mono ?_; rintro e w6 ⟨rfl, hb6⟩; have hb7 : Below wr.heap.size wr w6 := ((Below.refl _ _).alloc (Nat.le_refl _) _).trans (hb6.mono (by simp)); have HO6 := Lib.hid (ownsRow_grow HO.out hb7); have HB6 := Lib.hid (HBB.out.trans (hb7.mono hsz)); have hs6 := HB6.out.size; clear hb6 hb7)
                | (at_builtin; refine app_str (w0 := wq) wq.heap.size rfl _ _ rfl j (bs (text l[j])) HO6.out rfl rfl HB6.out hs6 (by omega) ?_; intro v1 w1 ho1 hb1; have HO7 := Lib.hid ho1; have HB7 := Lib.hid hb1; clear ho1 hb1))
              go_roundw
              case rel => exact ⟨j + 1, by omega, by go_num, by rw [hgr.out]; exact HO7.out, HB7.out⟩
              case measure => simp [intOf]; omega
            · obtain rfl : j = l.length := by omega
              have ho' := ho
              rcases ho'.2 with ⟨_, h0⟩ | ⟨g2, cap2, cur, rfl, hg2, hh2, hn2, hc2', _, _⟩
              · omega
              rw [List.take_length] at ho
              have hcells : ∀ (i : Nat) x, (l.map fun t => bs (text t))[i]? = some x → wr.cell? ⟨g2, 0 + i, none⟩ = some (.string x) := by
                intro i x hx
                have h := ho.cells (g := g2) rfl i (.string x) (by unfold strs; simp only [List.getElem?_map] at hx ⊢; cases hli : l[i]? with
                  | none => rw [hli] at hx; cases hx
                  | some y => rw [hli] at hx; cases hx; rfl)
                rwa [addr_add] at h
              have hmm : (l.map fun t => bs (text t)).map (·.data.toList) = l.map text := by simp [bs]
              have HJ := Any.strings_Join Tryd.laysJoin Tryd.extraJoin g2 0 cap2 (l.map fun t => bs (text t)) (bs [44]) wr hcells (Array.getElem?_eq_some_iff.1 hh2).1 (by simp; omega) (by simpa using hn2) (by rw [hmm]; show (Lib.join (l.map text) [44]).length ≤ _; rw [← joins_eq]; omega)
              rw [hmm, List.length_map] at HJ
              have hjj : (⟨(Lib.join (l.map text) (bs [44]).data.toList).toArray⟩ : ByteArray) = bs (joins l) := by rw [joins_eq]; rfl
              rw [hjj] at HJ
              have HJ' := Lib.hid HJ
              have HBB := Lib.hid hb
              clear HJ hjj hmm hcells ho ho' hb hh2
              go_wp2_with (go_at_call 44; refine HJ'.out.mono ?_; rintro e w6 ⟨rfl, hb6⟩)
              go_ret
              refine ⟨congrArg Ending.returned (str_eq ?_), HB2.out.trans ((HBB.out.trans (hb6.mono HBB.out.size)).mono HB2.out.size)⟩
              rw [fin.out]
end Go.Proofs.YthfcaiipcdibbaaDoor
