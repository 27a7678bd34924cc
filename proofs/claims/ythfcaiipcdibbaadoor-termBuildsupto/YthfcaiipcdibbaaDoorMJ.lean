import Derived.Test.YthfcaiipcdibbaaDoorMI
import Derived.RangeFuncNested
import Derived.RangeFuncBound
import Derived.RangeFuncCalls
import Derived.RangeFuncLeaves
import Derived.Shelf.Abstract
import Derived.Shelf.AbstractIn
import Derived.Shelf.RegionOpen
import Derived.OwnWalkIn
import Derived.TacticsInMore
import Derived.LoopNIn
import Derived.LoopIn
import Derived.RegionIn
import Derived.Maps.RangeRun
import Derived.Sort.MapsRangeIn
/- Subterms: the visit. -/
set_option linter.unusedSimpArgs false
set_option linter.unusedVariables false
namespace Tm
open Go Go.RowKit
def addS (S : List T) (t : T) : List T := if t ∈ S then S else S ++ [t]
mutual
def vis : T → List T → List T
  | .mk k n l, S => viss l (addS S (.mk k n l))
def viss : List T → List T → List T
  | [], S => S
  | a :: l, S => viss l (vis a S)
end
theorem viss_append (l m : List T) (S : List T) : viss (l ++ m) S = viss m (viss l S) := by
  induction l generalizing S with
  | nil => simp [viss]
  | cons a l ih => simp [viss, ih]
theorem viss_take_succ {l : List T} {j : Nat} (h : j < l.length) (S : List T) : viss (l.take (j + 1)) S = vis l[j] (viss (l.take j) S) := by
  rw [List.take_add_one, List.getElem?_eq_getElem h, viss_append]; simp [viss]
theorem mem_addS {S : List T} {t x : T} : x ∈ addS S t ↔ x ∈ S ∨ x = t := by
  unfold addS
  split
  · rename_i h
    exact ⟨.inl, fun h' => h'.elim id (fun e => e ▸ h)⟩
  · simp
theorem nodup_addS {S : List T} {t : T} (h : S.Nodup) : (addS S t).Nodup := by
  unfold addS
  split
  · exact h
  · rename_i hn
    rw [List.nodup_append]
    exact ⟨h, by simp, fun a ha b hb e => hn (by simp at hb; rw [← hb, ← e]; exact ha)⟩
end Tm
namespace Go.Proofs.YthfcaiipcdibbaaDoor
open Go.RowKit Tm Go.Shelf

theorem Below.but {w w' : World} (h : Below w.heap.size w w') (row : Option Nat) : w.grownBy w' row := ⟨h.os, h.tape, h.output, h.size, fun k hk _ => h.block k hk⟩
theorem MapT.none {w : World} {I : Im} {r : Nat} {S : List T} (h : MapT w I r S) (hm : Tm.Mod w I) : I r = none := by
  obtain ⟨⟨es, c, h1, _⟩, _⟩ := h
  cases hI : I r with
  | none => rfl
  | some x =>
    obtain ⟨fr, hf⟩ := hm r x.1 x.2 hI
    rw [h1] at hf; cases hf
theorem mod_but {w w' : World} {I : Im} {r : Nat} (hm : Tm.Mod w I) (hr : I r = none) (hg : w.grownBy w' (some r)) : Tm.Mod w' I :=
  hm.keep fun b x hx => hg.block b (hm.lt hx) (fun e => by injection e with e; subst e; rw [hr] at hx; cases hx)
theorem cell_keep {w w' : World} {I : Im} {r : Nat} {S : List T} (h : MapT w I r S) (hg : w.grownBy w' (some r)) {p o : Nat} {v : Value} (hc : w.cell? ⟨p, o, none⟩ = some v) : w'.cell? ⟨p, o, none⟩ = some v := by
  refine hg.cell hc fun e => ?_
  injection e with e
  have e : p = r := e
  subst e
  obtain ⟨⟨es, c, h1, _⟩, _⟩ := h
  unfold World.cell? at hc
  simp [h1] at hc
theorem tab_but {w w' : World} {I : Im} {r : Nat} {S : List T} (ht : tab w) (h : MapT w I r S) (hg : w.grownBy w' (some r)) : tab w' := by
  obtain ⟨⟨es, c, h1, _⟩, _⟩ := h
  unfold tab Lib.TabIs World.var? at *
  cases hgn : Tryd.prog.globalNamed "internal/strconv.uint64pow10" with
  | none => simp [hgn] at ht
  | some g =>
    simp only [hgn, Option.bind_some] at ht ⊢
    have hlt : g < w.heap.size := by
      rcases Nat.lt_or_ge g w.heap.size with h' | h'
      · exact h'
      · rw [Array.getElem?_eq_none h'] at ht; simp at ht
    have hne : some g ≠ some r := fun e => by
      injection e with e; subst e
      rw [h1] at ht; simp at ht
    rw [hg.block g hlt hne]
    exact ht
theorem MapT.addS {w : World} {I : Im} {r : Nat} {S : List T} (h : MapT w I r S) {t : T} (ht : valid t = true) {A : Option Addr} {cap : Nat} (hl : SL I t.l A cap) :
    ∃ w', (Instr.mapUpdate 57 (.map (some r)) (.string (bs (text t))) (.agg #[.int .i64 t.k, .int .i64 t.n, .slice A t.l.length cap])).run Tryd.prog w = .ok () w' ∧ MapT w' I r (Tm.addS S t) ∧ w.grownBy w' (some r) := h.put ht hl

structure SEnv (w : World) (p q r : Nat) : Prop where
  m : w.cell? ⟨p, 0, none⟩ = some (.map (some r))
  f : w.cell? ⟨q, 0, none⟩ = some (.func (.func 46) #[] #[.pointer (some ⟨p, 0, none⟩), .pointer (some ⟨q, 0, none⟩)])
theorem SEnv.but {w w' : World} {I : Im} {p q r : Nat} {S : List T} (h : SEnv w p q r) (hS : MapT w I r S) (hg : w.grownBy w' (some r)) : SEnv w' p q r := ⟨cell_keep hS hg h.m, cell_keep hS hg h.f⟩

/-- The call of Text within 's[Text(t)] = t'. -/
theorem textP (t : T) (w : World) (I : Im) (S : List T) (p r : Nat) {A : Option Addr} {cap : Nat} (hm : Tm.Mod w I) (hl : SL I t.l A cap) (hv : valid t = true) (hs : size t ≤ 1000000) (ht : tab w) (hS : MapT w I r S) (hp : w.cell? ⟨p, 0, none⟩ = some (.map (some r))) (W : World)
    (hW : Below (w.heap.size + 1) (w.alloc (.cells #[.int .i64 t.k, .int .i64 t.n, .slice A t.l.length cap] 24)) W) :
    Calls Tryd.prog 20 #[.agg #[.int .i64 t.k, .int .i64 t.n, .slice A t.l.length cap]] W fun e w' => e = .returned (.string (bs (text t))) ∧ (w'.cell? ⟨p, 0, none⟩ = some (.map (some r)) ∧ w'.cell? ⟨w.heap.size, 0, none⟩ = some (.int .i64 t.k) ∧ w'.cell? ⟨w.heap.size, 1, none⟩ = some (.int .i64 t.n) ∧ w'.cell? ⟨w.heap.size, 2, none⟩ = some (.slice A t.l.length cap)) ∧
      ∃ w7, (Instr.mapUpdate 57 (.map (some r)) (.string (bs (text t))) (.agg #[.int .i64 t.k, .int .i64 t.n, .slice A t.l.length cap])).run Tryd.prog w' = .ok () w7 ∧ MapT w7 I r (Tm.addS S t) ∧ (w.alloc (.cells #[.int .i64 t.k, .int .i64 t.n, .slice A t.l.length cap] 24)).grownBy w7 (some r) := by
  have h1 := under1 hW
  refine (termText t I W A cap (hm.grow h1) hl hv hs (tab_below ht h1)).mono ?_
  rintro e w' ⟨rfl, hb⟩
  have h2 : Below (w.heap.size + 1) (w.alloc (.cells #[.int .i64 t.k, .int .i64 t.n, .slice A t.l.length cap] 24)) w' := hW.trans (hb.mono (size_of_below1 hW))
  have h3 := under1 h2
  obtain ⟨w7, g1, g2, g3⟩ := (hS.grow h3).addS hv hl
  refine ⟨rfl, ⟨(h3.cell (p := ⟨p, 0, none⟩) (World.block_lt_of_cell? _ _ hp)).trans hp, newcell h2 0, newcell h2 1, newcell h2 2⟩, w7, g1, g2, World.grownBy.trans (Below.but (by simpa using h2) _) g3⟩

def VisHyp (t : T) : Prop := ∀ (I : Im) (w : World) (A : Option Addr) (cap p q r : Nat) (S : List T), Tm.Mod w I → SL I t.l A cap → SEnv w p q r → MapT w I r S → valid t = true → size t ≤ 1000000 → tab w →
    Calls Tryd.prog 46 #[.agg #[.int .i64 t.k, .int .i64 t.n, .slice A t.l.length cap], .pointer (some ⟨p, 0, none⟩), .pointer (some ⟨q, 0, none⟩)] w fun e w' => e = .returned (.tuple #[]) ∧ MapT w' I r (vis t S) ∧ w.grownBy w' (some r)

set_option maxHeartbeats 4000000 in
set_option maxRecDepth 100000 in
theorem visit (t : T) : VisHyp t := by
  induction t using T.ind with
  | h k n l ih =>
  intro I w A cap p q r S hm hl hE hS hv hs ht
  have hTP := Lib.hid (textP (.mk k n l) w I S p r hm hl hv hs ht hS hE.m)
  simp only [T.k_mk, T.n_mk, T.l_mk] at *
  have hc1 := hl.1
  have hc2 := hl.2.1
  have f0 := hE.m
  have hd0 : (w.alloc (.cells #[.int .i64 k, .int .i64 n, .slice A l.length cap] 24)).cell? ⟨p, 0, none⟩ = some (.map (some r)) := (World.cell?_alloc_lt _ _ _ (World.block_lt_of_cell? _ _ f0)).trans f0
  have hvl : valids l = true := by simp only [valid, Bool.and_eq_true] at hv; exact hv.2
  have hsl : sizes l ≤ 1000000 := by simp only [size] at hs; omega
  have hIr := hS.none hm
  have HM := Lib.hid hm
  have HL := Lib.hid hl
  have HE := Lib.hid hE
  have HS := Lib.hid hS
  have HT := Lib.hid ht
  have IH := Lib.hid ih
  have HVL := Lib.hid hvl
  clear hm hl hE hS hs ht ih hvl f0
  go_enter Tryd.func46, Tryd.ntmps46
  go_upto_region 1 with fail
  go_cut [6] (fun s6 wx => MapT wx I r (Tm.addS S (.mk k n l)) ∧ (w.alloc (.cells #[.int .i64 k, .int .i64 n, .slice A l.length cap] 24)).grownBy wx (some r))
  case first =>
    clear HM HL HE HS HT IH HVL
    go_region_with ((go_at_call 20; refine (hTP.out _ (Below.refl _ _).drew).mono ?_; rintro e w6 ⟨rfl, ⟨hc0, z0, z1, z2⟩, w7, hu7, hS7, hg7⟩))
    all_goals (go_wp2_with fail; go_meet; exact ⟨hS7, hg7⟩)
  case rest =>
    obtain ⟨hS1, hg1⟩ := hcut
    have hal := (Below.refl w.heap.size w).alloc (Nat.le_refl _) (.cells #[.int .i64 k, .int .i64 n, .slice A l.length cap] 24)
    have hSa := HS.out.grow hal
    have hrl := HS.out.lt
    have d2 : wc.cell? ⟨w.heap.size, 2, none⟩ = some (.slice A l.length cap) := hg1.cell (newcell (Below.refl _ _) 2) (fun e => by injection e with e; have e : w.heap.size = r := e; omega)
    have hE1 := Lib.hid ((HE.out.but HS.out (Below.but hal _)).but hSa hg1)
    have hM1 := Lib.hid (mod_but (HM.out.grow hal) hIr hg1)
    have hT1 := Lib.hid (tab_but (tab_below HT.out hal) hSa hg1)
    have hG1 := Lib.hid (World.grownBy.trans (Below.but hal (some r)) hg1)
    have HS1 := Lib.hid hS1
    clear hTP hd0 HM HE HT HS hS1 hg1 hSa hal
    obtain ⟨wo, rfl⟩ : ∃ wo : World, wo = wc := ⟨_, rfl⟩
    go_wp2_with fail
    go_loopw [13] (fun i wr => ∃ j : Nat, j ≤ l.length ∧ i = .int .i64 j ∧ MapT wr I r (viss (l.take j) (Tm.addS S (.mk k n l))) ∧ wo.grownBy wr (some r)) (fun i _ => l.length - (intOf i).toNat)
    case atStart => exact ⟨0, Nat.zero_le _, rfl, by simpa [viss] using HS1.out, World.grownBy.refl _ _⟩
    case round =>
      obtain ⟨j, hj, rfl, hSr, hgr⟩ := hrel
      by_cases hlt : j < l.length
      · have hMr := mod_but hM1.out hIr hgr
        have hEr := hE1.out.but HS1.out hgr
        have hTr := tab_but hT1.out HS1.out hgr
        obtain ⟨b, o, A', cap', rfl, g3, d0, d1, d2'⟩ := HL.out.cells hMr hlt
        have hal := (Below.refl wr.heap.size wr).alloc (Nat.le_refl _) (.cells #[.int .i64 l[j].k, .int .i64 l[j].n, .slice A' l[j].l.length cap'] 24)
        have hEa := hEr.but hSr (Below.but hal _)
        have fq := hEa.f
        have hszj := size_le_sizes (List.getElem_mem hlt)
        have HC := Lib.hid (IH.out l[j] (List.getElem_mem hlt) I (wr.alloc (.cells #[.int .i64 l[j].k, .int .i64 l[j].n, .slice A' l[j].l.length cap'] 24)) A' cap' p q r _ (hMr.grow hal) g3 hEa (hSr.grow hal) (valids_iff.1 HVL.out l[j] (List.getElem_mem hlt)) (by omega) (tab_below hTr hal))
        have HG := Lib.hid (World.grownBy.trans hgr (Below.but hal (some r)))
        have HV := Lib.hid (viss_take_succ hlt (Tm.addS S (.mk k n l)))
        clear hSr hgr hMr hEr hTr g3 hal hEa hszj
        go_wp2_with (go_at_call 46; refine HC.out.mono ?_; rintro e w6 ⟨rfl, hS6, hg6⟩)
        go_roundw
        case rel => first | exact ⟨j + 1, by omega, by go_num, by rw [HV.out]; exact hS6, World.grownBy.trans HG.out hg6⟩ | ((repeat apply Exists.intro); exact ⟨⟨j + 1, by omega, by go_num, by rw [HV.out]; exact hS6, World.grownBy.trans HG.out hg6⟩, rfl⟩)
        case measure => simp [intOf]; omega
      · obtain rfl : j = l.length := by omega
        rw [List.take_length] at hSr
        have fin : Hid (vis (.mk k n l) S = viss l (Tm.addS S (.mk k n l))) := by unfold Hid; simp [vis]
        have HSr := Lib.hid hSr
        have HG := Lib.hid (World.grownBy.trans hG1.out hgr)
        clear hSr hgr
        go_wp2
        go_end0
        exact ⟨rfl, by rw [fin.out]; exact HSr.out, HG.out⟩
end Go.Proofs.YthfcaiipcdibbaaDoor

/- maps.Values over a set of terms: the iterator. -/
set_option linter.unusedSimpArgs false
set_option linter.unusedVariables false
namespace Go.Proofs.YthfcaiipcdibbaaDoor
open Go.RowKit Tm Go.Shelf Go.MapKept
attribute [local go_sem] Oper.semAt_some

/-- An entry of the map. -/
abbrev En (es : Array MapEntry) := { e : MapEntry // e ∈ es.toList }

theorem rangeT {W : World} {b : Nat} {es : Array MapEntry} {clock : Nat} (hb : W.heap[b]? = some (.map es clock)) :
    (Instr.range 57 (.map (some b))).run Tryd.prog W = .ok (.pointer (some ⟨W.heap.size, 0, none⟩)) (W.alloc (.mapIter (some b) clock #[] clock)) := by
  have hm' : Tryd.prog.underlying 57 = some (.map 9 24) := Tryd.underlying57
  simp only [Instr.range, Sem.run_bind, run_underlying hm', MapKept.run_getObj_map hb, Result.andThen, Sem.run_pure]
  rfl
theorem nextT {wr : World} (ty : TypeId) {r b c0 : Nat} {seen : Array Nat} {es : Array MapEntry} {clock : Nat} (hne : r ≠ b) (hr : wr.heap[r]? = some (.mapIter (some b) clock seen c0)) (hb : wr.heap[b]? = some (.map es clock)) (hst : Stamped es clock) (hc : clock ≤ c0) :
    ((leftOf es seen).size = 0 ∧ (Instr.next (.pointer (some ⟨r, 0, none⟩)) false ty).run Tryd.prog wr = .ok (.tuple #[.bool false]) wr) ∨
    ∃ e ∈ (leftOf es seen).toList, ∃ w2 : World, (Instr.next (.pointer (some ⟨r, 0, none⟩)) false ty).run Tryd.prog wr = .ok (.tuple #[.bool true, e.key, e.val]) w2 ∧ w2.heap[r]? = some (.mapIter (some b) clock (seen.push e.born) clock) ∧
      w2.heap[b]? = some (.map es clock) ∧ wr.grownBy w2 (some r) ∧ (Instr.entry (.pointer (some ⟨r, 0, none⟩))).run Tryd.prog w2 = .ok (.tuple #[e.key, e.val]) w2 := by
  rcases run_next_at (P := Tryd.prog) wr ty r b clock c0 seen es clock hr hb hst.1 hc with h | ⟨e, he, w1, hw1, hrun⟩
  · exact .inl h
  · refine .inr ⟨e, he, _, hrun, ?_⟩
    have hlt : r < wr.heap.size := (Array.getElem?_eq_some_iff.1 hr).1
    have hh : w1.heap = wr.heap := by rcases hw1 with rfl | rfl <;> rfl
    have hr2 : (ChangeMaps.setBlock w1 r (.mapIter (some b) clock (seen.push e.born) clock)).heap[r]? = some (.mapIter (some b) clock (seen.push e.born) clock) := by
      show (w1.heap.setIfInBounds r _)[r]? = _
      rw [hh]; simp [hlt]
    have hb2 : (ChangeMaps.setBlock w1 r (.mapIter (some b) clock (seen.push e.born) clock)).heap[b]? = some (.map es clock) := by
      show (w1.heap.setIfInBounds r _)[b]? = _
      rw [hh]; simp [hne, hb]
    refine ⟨hr2, hb2, ?_, run_entry_at _ r b clock seen es clock e hr2 hb2 (mem_left he).1 hst.2.1⟩
    have hg : wr.grownBy (ChangeMaps.setBlock wr r (.mapIter (some b) clock (seen.push e.born) clock)) (some r) := ⟨rfl, rfl, rfl, by simp [ChangeMaps.setBlock], fun k hk hne' => by
      have : r ≠ k := fun e => hne' (by rw [e])
      simp [ChangeMaps.setBlock, this]⟩
    rcases hw1 with rfl | rfl
    · exact hg
    · exact ⟨hg.os, hg.tape, hg.output, hg.size, hg.block⟩

/-- How many are left, read off the world. -/
def leftW (b r : Nat) (w : World) : Nat :=
  match w.heap[b]?, w.heap[r]? with
  | some (.map es _), some (.mapIter _ _ seen _) => (leftOf es seen).size
  | _, _ => 0
theorem leftW_eq {b r : Nat} {w : World} {es : Array MapEntry} {clock : Nat} {m : Option Nat} {s : Nat} {seen : Array Nat} {c : Nat} (h1 : w.heap[b]? = some (.map es clock)) (h2 : w.heap[r]? = some (.mapIter m s seen c)) : leftW b r w = (leftOf es seen).size := by
  unfold leftW; rw [h1, h2]

theorem eq_of_born {l : List MapEntry} (h : (l.map (·.born)).Nodup) {x y : MapEntry} (hx : x ∈ l) (hy : y ∈ l) (e : x.born = y.born) : x = y := by
  induction l with
  | nil => cases hx
  | cons a l ih =>
    rw [List.map_cons, List.nodup_cons] at h
    rcases List.mem_cons.1 hx with rfl | hx'
    · rcases List.mem_cons.1 hy with rfl | hy'
      · rfl
      · exact absurd (List.mem_map.2 ⟨y, hy', e.symm⟩) h.1
    · rcases List.mem_cons.1 hy with rfl | hy'
      · exact absurd (List.mem_map.2 ⟨x, hx', e⟩) h.1
      · exact ih h.2 hx' hy'
theorem nodup_length_le {α : Type} {l m : List α} (h : l.Nodup) (hs : ∀ x ∈ l, x ∈ m) : l.length ≤ m.length := by
  classical
  induction l generalizing m with
  | nil => simp
  | cons a l ih =>
    rw [List.nodup_cons] at h
    have ha := hs a (by simp)
    have := ih (m := m.erase a) h.2 fun x hx => by
      have hne : x ≠ a := fun e => h.1 (e ▸ hx)
      exact (List.mem_erase_of_ne hne).2 (hs x (by simp [hx]))
    rw [List.length_erase_of_mem ha] at this
    have hp : 0 < m.length := List.length_pos_of_mem ha
    simp only [List.length_cons]; omega
/-- The entries that have been handed out. -/
structure Done (es : Array MapEntry) (ds : List (En es)) (seen : Array Nat) : Prop where
  seen : seen.toList = ds.map (·.1.born)
  nodup : (ds.map (·.1)).Nodup
theorem Done.nil (es : Array MapEntry) : Done es [] #[] := ⟨rfl, List.nodup_nil⟩
theorem Done.fresh {es : Array MapEntry} {ds : List (En es)} {seen : Array Nat} (h : Done es ds seen) {e : MapEntry} (he : e ∈ (leftOf es seen).toList) : e ∉ ds.map (·.1) := by
  intro hm
  have h2 := (mem_left he).2
  rw [Bool.eq_false_iff] at h2
  apply h2
  rw [Array.contains_iff_mem, ← Array.mem_toList_iff, h.seen]
  obtain ⟨x, hx, rfl⟩ := List.mem_map.1 hm
  exact List.mem_map.2 ⟨x, hx, rfl⟩
theorem Done.add {es : Array MapEntry} {ds : List (En es)} {seen : Array Nat} {clock : Nat} (h : Done es ds seen) (hst : Stamped es clock) {e : MapEntry} (he : e ∈ (leftOf es seen).toList) : Done es (ds ++ [⟨e, (mem_left he).1⟩]) (seen.push e.born) := by
  refine ⟨by simp [h.seen], ?_⟩
  rw [List.map_append, List.nodup_append]
  exact ⟨h.nodup, by simp, fun a ha b hb e' => h.fresh he (by simp at hb; rw [← hb, ← e']; exact ha)⟩
theorem nodup_of_stamped {es : Array MapEntry} {clock : Nat} (hst : Stamped es clock) : es.toList.Nodup :=
  (List.pairwise_map.1 hst.2.1).imp fun {a b} h e => h (by rw [e])
theorem Done.all {es : Array MapEntry} {ds : List (En es)} {seen : Array Nat} {clock : Nat} (h : Done es ds seen) (hst : Stamped es clock) (h0 : (leftOf es seen).size = 0) : (ds.map (·.1)).Perm es.toList := by
  refine (List.perm_ext_iff_of_nodup h.nodup (nodup_of_stamped hst)).2 fun x => ⟨fun hx => ?_, fun hx => ?_⟩
  · obtain ⟨y, _, rfl⟩ := List.mem_map.1 hx
    exact y.2
  · have h1 := all_seen es seen h0 x hx
    rw [Array.contains_iff_mem, ← Array.mem_toList_iff, h.seen] at h1
    obtain ⟨y, hy, e⟩ := List.mem_map.1 h1
    refine List.mem_map.2 ⟨y, hy, ?_⟩
    have hnd := hst.2.1
    exact eq_of_born hnd y.2 hx e
theorem Done.lt {es : Array MapEntry} {ds : List (En es)} {seen : Array Nat} {clock : Nat} (h : Done es ds seen) (hst : Stamped es clock) {e : MapEntry} (he : e ∈ (leftOf es seen).toList) : ds.length < es.size := by
  have h2 := (h.add hst he).nodup
  have h3 := nodup_length_le h2 (m := es.toList) (fun x hx => by obtain ⟨y, _, rfl⟩ := List.mem_map.1 hx; exact y.2)
  simp at h3
  omega

set_option maxHeartbeats 2000000 in
set_option maxRecDepth 100000 in
theorem valuesIter (F : Fence) (n : Nat) (hf : F.fn 68) (hro : F.round = none) (hn : 1 ≤ n) (l Bm b : Nat) (es : Array MapEntry) (clock : Nat) (J Jx : List (En es) → World → Prop)
    (hY : ∀ pre (x : En es) W, J pre W → pre.length < es.size → YieldAt F (n - 1) Tryd.prog l #[x.1.val] W fun e W' =>
      (e = .returned (.bool true) ∧ J (pre ++ [x]) W' ∧ KeepsWalks W W') ∨ (e = .returned (.bool false) ∧ Jx (pre ++ [x]) W'))
    (W : World) (hJ : AbidesFrom W.heap.size J) (hm : W.cell? ⟨Bm, 0, none⟩ = some (.map (some b))) (hb : W.heap[b]? = some (.map es clock)) (hst : Stamped es clock)
    (hsh : ∀ e ∈ es.toList, ∃ k n A len cap, e.val = .agg #[.int .i64 k, .int .i64 n, .slice A len cap]) (h0 : J [] W) :
    CallsIn F n Tryd.prog 68 #[.func (.yield l) #[] #[], .pointer (some ⟨Bm, 0, none⟩)] W fun e W' => (∃ v, e = .returned v) ∧
      ((∃ xs : List (En es), (xs.map (·.1)).Perm es.toList ∧ J xs W') ∨ (∃ pre, True ∧ Jx pre W')) := by
  have hrg := rangeT hb
  have hlt : b < W.heap.size := (Array.getElem?_eq_some_iff.1 hb).1
  refine callsIn_of_wp Tryd.func68 rfl hf ?_ hro
  simp only [Tryd.ntmps68, List.size_toArray, List.length_cons, List.length_nil, Nat.reduceAdd, Nat.reduceSub, Array.replicate_succ, Array.replicate_zero, List.push_toArray, List.append_toArray, List.nil_append, List.cons_append]
  gi_wp2
  gi_loopw [4] (fun _ wr => ∃ (ds : List (En es)) (seen : Array Nat) (c0 : Nat), wr.heap[b]? = some (.map es clock) ∧ wr.heap[W.heap.size]? = some (.mapIter (some b) clock seen c0) ∧ clock ≤ c0 ∧ Hid (Done es ds seen) ∧ J ds wr)
    (fun _ wr => leftW b W.heap.size wr)
  case atStart =>
    refine ⟨[], #[], clock, (heap_alloc W _).2 b hlt ▸ hb, (heap_alloc W _).1, Nat.le_refl _, Done.nil es, hJ [] W _ none h0 (World.grownBy_alloc W _ none) (fun r e => by cases e)⟩
  case round =>
    obtain ⟨ds, seen, c0, hbr, hir, hc0, hds, hJs⟩ := hrel
    have hDS := Lib.hid hds.out
    have hne : W.heap.size ≠ b := by omega
    have hl0 := leftW_eq hbr hir
    clear hds
    rcases nextT 0 hne hir hbr hst hc0 with ⟨h0', hnx⟩ | ⟨e, he, w2, hnx, hr2, hb2, hg2, hen⟩
    · have fin := Lib.hid (hDS.out.all hst h0')
      clear hbr hir
      gi_wp2
      go_end0
      exact ⟨⟨_, rfl⟩, .inl ⟨ds, fin.out, hJs⟩⟩
    · have hJ2 : J ds w2 := hJ _ _ w2 (some W.heap.size) hJs hg2 (fun r e => by cases e; exact ⟨Nat.le_refl _, _, hir, rfl⟩)
      have hmem := (mem_left he).1
      obtain ⟨k1, n1, A1, len1, cap1, hval⟩ := hsh e hmem
      have hJ3 : J ds (w2.alloc (.cells #[.int .i64 k1, .int .i64 n1, .slice A1 len1 cap1] 24)) := hJ _ _ _ none hJ2 (World.grownBy_alloc _ _ none) (fun r e => by cases e)
      have hNew := Lib.hid (hDS.out.add hst he)
      obtain ⟨fn, tmps, assign, body, hy, hR⟩ := hY ds ⟨e, hmem⟩ _ hJ3 (hDS.out.lt hst he)
      rw [hval] at hnx hen
      dsimp only at hy
      rw [hval] at hy
      clear hJs hJ2 hJ3 hbr hDS
      gi_wp2
      refine hR.mono ?_
      rintro e' W3 (⟨rfl, hJ3, hk3⟩ | ⟨rfl, hJx3⟩)
      · have hb3 := hk3.same b _ ((heap_alloc _ _).2 b (Array.getElem?_eq_some_iff.1 hb2).1 ▸ hb2) rfl
        have hr3 := hk3.same W.heap.size _ ((heap_alloc _ _).2 W.heap.size (Array.getElem?_eq_some_iff.1 hr2).1 ▸ hr2) rfl
        have hl3 := leftW_eq hb3 hr3
        gi_wp2
        go_roundw
        case rel => exact ⟨ds ++ [⟨e, hmem⟩], _, _, hb3, hr3, Nat.le_refl _, hNew, hJ3⟩
        case measure => rw [hl3, hl0]; exact left_shrinks es seen e he
      · gi_wp2
        refine bodyPost_ret (results_none rfl _ _ _) rfl ?_
        exact ⟨⟨_, rfl⟩, .inr ⟨_, trivial, hJx3⟩⟩
end Go.Proofs.YthfcaiipcdibbaaDoor

/- What a region's operations do outside a round they do in one. -/
set_option linter.unusedSimpArgs false
set_option linter.unusedVariables false
namespace Go.Proofs.YthfcaiipcdibbaaDoor
open Go.RowKit Go.Shelf
theorem opIn_of_op {P : Program} {l n : Nat} {o : Oper} {a : Act} {w : World} {K : Act → World → Prop} {Q : Exit → Act → World → Prop} (hd : ∀ c, o.op ≠ .defer c) (h : Oper.wp P o a w K Q) : Oper.wpIn (Fence.wide.inRound l) n P o a w K Q := by
  refine ⟨fun _ _ => trivial, ?_⟩
  rw [Oper.semAt_eq _ _ _ hd]
  unfold Oper.wp at h
  generalize (execOp a.eval o).run P w = r at h ⊢
  cases r with
  | ok x w' =>
    cases x with
    | value v => exact h
    | skip => exact h
    | defer d => exact h
    | enter f args => exact ⟨fun e => (by cases e), (callsIn_wide.2 h).inRound l⟩
    | row r args =>
      refine ⟨fun e => (by cases e), fun c cs _ => ?_⟩
      obtain ⟨v, w2, h1, h2⟩ := h c cs
      exact ⟨v, w2, h1, stepsIn_wide.2 h2⟩
    | _ => exact h.elim
  | halt x w' =>
    cases x with
    | panic v => exact h
    | _ => exact h.elim
theorem anyIn_of_any {P : Program} {l n : Nat} {md : Region.Mode} {ops : Array Oper} {Q : Exit → Act → World → Prop} (hd : ∀ o ∈ ops.toList, ∀ c, o.op ≠ .defer c) (hQ : ¬ LetsOut Q) : ∀ (fuel : Nat) (listed : Array Bool) (a : Act) (w : World),
    wpAny P md ops Q fuel listed a w → wpAnyIn (Fence.wide.inRound l) n P md ops Q fuel listed a w := by
  intro fuel
  induction fuel with
  | zero => intro listed a w h; exact h
  | succ fuel ih =>
    intro listed a w h
    refine ⟨h.1, fun i hi => ?_⟩
    have h2 := h.2 i hi
    unfold wpOp at h2
    unfold wpOpIn
    cases ho : ops[i]? with
    | none => rw [ho] at h2; exact ih _ _ _ h2
    | some o =>
      rw [ho] at h2
      simp only at h2 ⊢
      have hmem : o ∈ ops.toList := by
        have := Array.mem_of_getElem? ho
        simpa using this
      split
      · rename_i hw
        rw [if_pos hw] at h2
        rcases h2 with h2 | h2
        · exact opIn_of_op (hd o hmem) (Oper.wp_mono (fun a w => ih _ a w) h2)
        · exact absurd h2.2 hQ
      · rename_i hw
        rw [if_neg hw] at h2
        exact ⟨fun _ _ => trivial, ih _ _ _ h2⟩
theorem region_round {P : Program} {l n id : Nat} {ops : Array Oper} {Q : Exit → Act → World → Prop} {a : Act} {w : World} (hm : P.follows .mixedOrders = true) (hd : ∀ o ∈ ops.toList, ∀ c, o.op ≠ .defer c) (hQ : ¬ LetsOut Q)
    (h : wpAny P .any ops Q ops.size (Array.replicate ops.size false) a w.drew) : (Code.region id ops true).wpIn (Fence.wide.inRound l) n P Q a w :=
  wpIn_region_any hm (anyIn_of_any hd hQ _ _ _ _ h)
end Go.Proofs.YthfcaiipcdibbaaDoor
