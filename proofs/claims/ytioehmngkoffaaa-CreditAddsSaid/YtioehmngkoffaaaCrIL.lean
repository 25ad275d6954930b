/-
  A loop over a map by its entries, in the words of the fenced walk: range, next, entry; any type of keys. Over any program.
  maps.Keys at the map of loans: its iterator, for every loop body.
  slices.AppendSeq and slices.Collect at purses, against whatever iterator value.
  cmp.Compare at string; name.Compare; the order of texts.
  cmp.Or at two ints.
  cmp.Compare at string, name.Compare, cmp.Or at two ints: the world stands.
  credit.compare: what it answers, and the blocks that it lays.
  slices.SortFunc at structs, off the shelf, over a row of one's own: what it leaves. Over any program.
  slices.SortFunc at credit.purse, off the shelf.
  Positions' keys sorted by slices.SortFunc with pos.Before.
  The purses of all loans, in order: slices.SortedFunc(maps.Keys(m), compare).
-/
import Derived.RangeFuncNested
import Derived.RangeFuncBound
import Derived.RangeFuncCalls
import Derived.RangeFuncLeaves
import Derived.RangeFuncBox
import Derived.WalkKit
import Derived.OwnWalkIn
import Derived.TacticsInMore
import Derived.LoopNIn
import Derived.LoopIn
import Derived.Maps.AppendAt
import Derived.Sort.MapsRangeIn
import Derived.Test.YtioehmngkoffaaaMapAB
import Derived.Test.YtioehmngkoffaaaCrAP
import Derived.Shelf.Abstract
import Derived.Test.YtioehmngkoffaaaSimO
import Derived.Test.YtioehmngkoffaaaProg
import Derived.Test.YtioehmngkoffaaaFork
import Derived.Test.YtioehmngkoffaaaSimHN
import Derived.IntWalk
import Derived.Test.YtioehmngkoffaaaOrds
import Derived.Deep.CutBlock
import Derived.Deep.CutRange
import Derived.Sort.Grow
import Derived.Test.YtioehmngkoffaaaCmpO
import Derived.Shelf.SlSortCmp.NoneTotal
import Derived.Test.YtioehmngkoffaaaAppR
namespace Go.Proofs.Ytioehmngkoffaaa
section
open Go Go.RowKit
open Go.ChangeMaps (setBlock)
section
variable {P : Program} {K V : Type} {enc : K → Value} {encV : V → Value} {w : World}
/-- how many entries are still to come -/
def iterLeft (n it : Nat) (w : World) : Nat := match w.heap[it]? with
  | some (.mapIter _ _ seen _) => n - seen.size
  | _ => 0
theorem ItO.left {ρ : Nm} {rs : List Reg} {it : Nat} {m : Option Nat} {l dn : List (Ent K V)} {clock : Nat} (h : ItO ρ rs w it m l clock dn) (n : Nat) : iterLeft n it w = n - dn.length := by
  obtain ⟨seen, h1, h2⟩ := h.is
  unfold iterLeft
  rw [h1]
  show n - seen.size = _
  rw [← Array.length_toList, h2, List.length_map]
theorem ItO.dn_le {ρ : Nm} {rs : List Reg} {it : Nat} {m : Option Nat} {l dn : List (Ent K V)} {clock : Nat} (h : ItO ρ rs w it m l clock dn) : dn.length ≤ l.length :=
  (show dn.Nodup from (List.pairwise_map.1 h.nodup).imp fun h e => h (congrArg _ e)).length_le_of_subset h.sub
theorem ItO.perm_ {ρ : Nm} {rs : List Reg} {it : Nat} {m : Option Nat} {l dn : List (Ent K V)} {clock : Nat} (h : ItO ρ rs w it m l clock dn) (hf : Fine l clock) (hall : ∀ e ∈ l, e ∈ dn) : dn.Perm l :=
  (List.perm_ext_iff_of_nodup (show dn.Nodup from (List.pairwise_map.1 h.nodup).imp fun h e => h (congrArg _ e)) (show l.Nodup from (List.pairwise_map.1 hf.borns).imp fun h e => h (congrArg _ e))).2 fun e => ⟨h.sub e, hall e⟩
theorem noW0 {ρ : Nm} {g : Nat} : ¬ wrS ρ [] g := fun ⟨n, r, hn, _⟩ => by simp at hn
theorem ItO.walks {w' : World} {it : Nat} {m : Option Nat} {l dn : List (Ent K V)} {clock : Nat} (h : ItO ρ0 [] w it m l clock dn) (hk : KeepsWalks w w') : ItO ρ0 [] w' it m l clock dn := by
  obtain ⟨s, h1, h2⟩ := h.is
  exact ⟨⟨s, hk.same _ _ h1 rfl, h2⟩, h.far, h.sub, h.nodup⟩
theorem MpO.walks {w' : World} {m : Option Nat} {l : List (Ent K V)} {clock : Nat} (h : MpO enc encV ρ0 [] w m l clock) (hk : KeepsWalks w w') : MpO enc encV ρ0 [] w' m l clock :=
  ⟨fun g hg => ⟨⟨hk.same _ _ (h.is g hg).1.blk rfl, (h.is g hg).1.fine⟩, noW0⟩, h.nil⟩
theorem run_rangeE {kt et t : TypeId} (ht : P.underlying t = some (.map kt et)) {m : Option Nat} {l : List (Ent K V)} {clock : Nat} (hM : MpO enc encV ρ0 [] w m l clock) :
    (Instr.range t (.map m)).run P w = .ok (.pointer (some ⟨w.heap.size, 0, none⟩)) (w.alloc (.mapIter m clock #[] clock)) := by
  unfold Instr.range
  cases m with
  | none =>
    obtain ⟨_, rfl⟩ := hM.nil rfl
    simp [run_underlying ht, newObj, Sem.run, Result.andThen]
  | some g =>
    simp [run_underlying ht, MapKept.run_getObj_map (hM.is g rfl).1.blk, newObj, Sem.run, Result.andThen]
theorem grownBy_turnI {it : Nat} {w' : World} (h : TurnI it w w') : w.grownBy w' (some it) := ⟨h.kept.os, h.kept.tape, h.kept.output, h.kept.size, fun k hk hne => h.kept.block k hk (fun e => hne (by rw [e]))⟩
theorem run_nextE {it : Nat} {m : Option Nat} {l dn : List (Ent K V)} {clock : Nat} (hM : MpO enc encV ρ0 [] w m l clock) (hI : ItO ρ0 [] w it m l clock dn) (ty : TypeId) :
    ((∀ e ∈ l, e ∈ dn) ∧ (Instr.next (.pointer (some ⟨it, 0, none⟩)) false ty).run P w = .ok (.tuple #[.bool false]) w) ∨
    ∃ e w', e ∈ l ∧ e ∉ dn ∧ TurnI it w w' ∧ ItO ρ0 [] w' it m l clock (dn ++ [e]) ∧ (Instr.next (.pointer (some ⟨it, 0, none⟩)) false ty).run P w = .ok (.tuple #[.bool true, enc e.key, encV e.val]) w' ∧ w'.heap.size = w.heap.size ∧ (Instr.entry (.pointer (some ⟨it, 0, none⟩))).run P w' = .ok (.tuple #[enc e.key, encV e.val]) w' := by
  obtain ⟨seen, hi, hs⟩ := hI.is
  cases m with
  | none =>
    obtain ⟨rfl, rfl⟩ := hM.nil rfl
    refine .inl ⟨fun _ h => (by cases h), ?_⟩
    simp [Instr.next, getObj, Sem.run, hi, Result.andThen]
  | some g =>
    have hMp := (hM.is g rfl).1
    have hborn : ∀ y ∈ (l.map (toE enc encV)).toArray.toList, y.born < clock := fun y hy => by
      simp only [List.mem_map] at hy
      obtain ⟨e, he, rfl⟩ := hy
      exact hMp.fine.lt e he
    have hseen : ∀ e : Ent K V, e ∈ l → (seen.contains e.born = true ↔ e ∈ dn) := fun e he => by
      rw [Array.contains_iff_mem, ← Array.mem_toList_iff, hs, List.mem_map]
      constructor
      · rintro ⟨e', he', hb⟩
        have h2 := hI.sub e' he'
        rw [← nodup_inj hMp.fine.borns h2 he hb]
        exact he'
      · exact fun h => ⟨e, h, rfl⟩
    rcases run_next_at (P := P) w ty it g clock clock seen _ clock hi hMp.blk hborn (Nat.le_refl _) with ⟨h0, hr⟩ | ⟨e, he, w1, hw1, hr⟩
    · refine .inl ⟨fun e he => (hseen e he).1 ?_, hr⟩
      cases hc : seen.contains e.born with
      | true => rfl
      | false =>
        have hm2 : toE enc encV e ∈ leftOf (l.map (toE enc encV)).toArray seen := by
          unfold leftOf
          rw [Array.mem_filter]
          refine ⟨by simpa using ⟨e, he, rfl⟩, ?_⟩
          simp only [toE, hc, Bool.not_false]
        have := Array.size_pos_of_mem hm2
        omega
    · unfold leftOf at he
      have he2 := Array.mem_toList_iff.1 he
      rw [Array.mem_filter] at he2
      obtain ⟨h1, h2⟩ := he2
      simp only [List.mem_toArray, List.mem_map] at h1
      obtain ⟨e0, he0, rfl⟩ := h1
      have hnot : e0 ∉ dn := fun hd => by
        have := (hseen e0 he0).2 hd
        simp only [toE] at h2
        rw [this] at h2
        cases h2
      have hi1 : w1.heap[it]? = some (.mapIter (some g) clock seen clock) := by rcases hw1 with rfl | rfl <;> exact hi
      have hk1 : Kept (fun k => k = it) w w1 := by rcases hw1 with rfl | rfl; exact Kept.refl _ _; exact Kept.drew _ _
      have hz1 : w1.heap.size = w.heap.size := by rcases hw1 with rfl | rfl <;> rfl
      have hlt : it < w1.heap.size := by
        rcases Nat.lt_or_ge it w1.heap.size with h3 | h3
        · exact h3
        · rw [Array.getElem?_eq_none h3] at hi1; cases hi1
      have hn : (((l.map (toE enc encV)).toArray.toList).map (·.born)).Nodup := by
        show ((l.map (toE enc encV)).map (·.born)).Nodup
        rw [List.map_map]
        exact hMp.fine.borns
      have hne : g ≠ it := fun e => by
        rw [← e] at hi1
        have h4 : w1.heap[g]? = w.heap[g]? := by rcases hw1 with rfl | rfl <;> rfl
        rw [h4, hMp.blk] at hi1
        cases hi1
      have hnew : (setBlock w1 it (.mapIter (some g) clock (seen.push e0.born) clock)).heap[it]? = some (.mapIter (some g) clock (seen.push e0.born) clock) := by simp [setBlock, hlt]
      have hmap : (setBlock w1 it (.mapIter (some g) clock (seen.push e0.born) clock)).heap[g]? = some (.map (l.map (toE enc encV)).toArray clock) := by
        have h4 : w1.heap[g]? = w.heap[g]? := by rcases hw1 with rfl | rfl <;> rfl
        simp only [setBlock]
        rw [Array.getElem?_setIfInBounds_ne (fun e => hne e.symm), h4, hMp.blk]
      refine .inr ⟨e0, setBlock w1 it (.mapIter (some g) clock (seen.push e0.born) clock), he0, hnot, ⟨hk1.trans (Kept.setBlock w1 it _) (fun _ h => .inl h), _, _, _, _, hi⟩, ⟨⟨seen.push e0.born, hnew, by simp [hs]⟩, hI.far, ?_, ?_⟩, hr, by simp [setBlock, hz1], ?_⟩
      · intro y hy
        rcases List.mem_append.1 hy with hy | hy
        · exact hI.sub y hy
        · rw [List.mem_singleton.1 hy]; exact he0
      · rw [List.map_append, List.nodup_append]
        refine ⟨hI.nodup, by simp, fun a ha b hb hab => ?_⟩
        simp only [List.map_cons, List.map_nil, List.mem_singleton] at hb
        subst hb
        obtain ⟨y, hy, hyb⟩ := List.mem_map.1 ha
        exact hnot (by rw [← nodup_inj hMp.fine.borns (hI.sub y hy) he0 (hyb.trans hab)]; exact hy)
      · exact run_entry_at _ it g clock seen _ clock (toE enc encV e0) hnew hmap (by simpa using ⟨e0, he0, rfl⟩) hn
end
section
variable {F : Fence} {n : Nat} {P : Program} {K V : Type} {enc : K → Value} {encV : V → Value} (w : World) {ops : Array Oper} {rest : List Oper} {o : Oper} {a : Act} {Q : Exit → Act → World → Prop}
theorem wpListIn_rangeE (hg : o.guard = none) (x : Operand) (t : TypeId) (hop : o.op = Op.range t x) (kt et : TypeId) (ht : P.underlying t = some (.map kt et)) (m : Option Nat) (l : List (Ent K V)) (clock : Nat) (hm : a.eval x = .map m) (hM : MpO enc encV ρ0 [] w m l clock)
    (hK : wpListIn F n P ops Q rest (a.put o.dst (.pointer (some ⟨w.heap.size, 0, none⟩))) (w.alloc (.mapIter m clock #[] clock))) :
    wpListIn F n P ops Q (o :: rest) a w := by
  refine wpListIn_plain hg fun K' hK' => ?_
  have hrun := run_rangeE (P := P) ht hM
  unfold Oper.wpIn
  refine ⟨?_, ?_⟩
  · simp [Oper.about, hop]
  · rw [Oper.semAt_plain F _ _ (by rw [hop]; intro c hc'; cases hc')]
    simp [execOp, hop, hm, hrun, Result.andThen]
    exact hK' _ _ hK
theorem wpListIn_nextE (hg : o.guard = none) (x : Operand) (hop : o.op = Op.next x false) (m : Option Nat) (l dn : List (Ent K V)) (clock it : Nat) (hit : a.eval x = .pointer (some ⟨it, 0, none⟩)) (hM : MpO enc encV ρ0 [] w m l clock) (hI : ItO ρ0 [] w it m l clock dn)
    (hDone : (∀ e ∈ l, e ∈ dn) → wpListIn F n P ops Q rest (a.put o.dst (.tuple #[.bool false])) w)
    (hMore : ∀ (e : Ent K V) (w' : World), e ∈ l → e ∉ dn → TurnI it w w' → ItO ρ0 [] w' it m l clock (dn ++ [e]) → w'.heap.size = w.heap.size → (Instr.entry (.pointer (some ⟨it, 0, none⟩))).run P w' = .ok (.tuple #[enc e.key, encV e.val]) w' → wpListIn F n P ops Q rest (a.put o.dst (.tuple #[.bool true, enc e.key, encV e.val])) w') :
    wpListIn F n P ops Q (o :: rest) a w := by
  refine wpListIn_plain hg fun K' hK' => ?_
  unfold Oper.wpIn
  refine ⟨by simp [Oper.about, hop], ?_⟩
  rw [Oper.semAt_plain F _ _ (by rw [hop]; intro c hc'; cases hc')]
  rcases run_nextE (P := P) hM hI o.type with ⟨h0, hrun⟩ | ⟨e, w', h1, h2, h3, h4, hrun, h5, h6⟩
  · simp [execOp, hop, hit, hrun, Result.andThen]
    exact hK' _ _ (hDone h0)
  · simp [execOp, hop, hit, hrun, Result.andThen]
    exact hK' _ _ (hMore e w' h1 h2 h3 h4 h5 h6)
end
end

section
open Go Go.RowKit
open Go.ChangeMaps (setBlock)
attribute [local go_sem] Oper.semAt_some
attribute [local irreducible] run goO goN ordGoN eqlOf eqlOper eqlOfO cellL leaveK someK nextK nextT nextOT nextOD loopBody loopRest loopK fillJ tmplOf tmplJ mergeT At AtO drawOk ordOf gateOf callC callO topOp topO idxOf appOf storeOf clearOf sliceOf calleeOf calleeO topQ idxQ newRowOf resL stepOp seek

set_option maxRecDepth 100000 in
set_option maxHeartbeats 1000000 in
theorem keysP1_in {V : Type} {encV : V → Value} (F : Fence) (n : Nat) (hf : F.fn 32) (hro : F.round = none) (hn : 1 ≤ n) (l Bm : Nat) (m : Option Nat) (es : List (Ent Key V)) (clock : Nat) (J Jx : List Key → World → Prop)
    (hY : ∀ pre x W, J pre W → pre.length < es.length → YieldAt F (n - 1) Try.prog l #[encK x] W fun e W' => (e = .returned (.bool true) ∧ J (pre ++ [x]) W' ∧ KeepsWalks W W') ∨ (e = .returned (.bool false) ∧ Jx (pre ++ [x]) W'))
    (W : World) (hJ : AbidesFrom W.heap.size J) (hm : W.cell? ⟨Bm, 0, none⟩ = some (.map m)) (hM : MpO encK encV ρ0 [] W m es clock) (h0 : J [] W) :
    CallsIn F n Try.prog 32 #[.func (.yield l) #[] #[], .pointer (some ⟨Bm, 0, none⟩)] W fun e W' => (∃ v, e = .returned v) ∧
      ((∃ ks : List Key, ks.Perm (es.map (·.key)) ∧ J ks W') ∨ (∃ pre : List Key, True ∧ Jx pre W')) := by
  refine callsIn_of_wp Try.func32 rfl hf ?_ hro
  simp only [Try.ntmps32, List.size_toArray, List.length_cons, List.length_nil, Nat.reduceAdd, Nat.reduceSub, Array.replicate_succ, Array.replicate_zero, List.push_toArray, List.append_toArray, List.nil_append, List.cons_append]
  gi_wp2_with (first
    | (gi_at_range; refine wpListIn_rangeE _ rfl _ _ rfl _ _ ml_ty m es clock rfl hM ?_)
    | gi_in)
  go_frame
  gi_loopw [3] (fun _ wr => ∃ dn : List (Ent Key V), MpO encK encV ρ0 [] wr m es clock ∧ ItO ρ0 [] wr W.heap.size m es clock dn ∧ W.heap.size ≤ wr.heap.size ∧ J (dn.map (·.key)) wr)
    (fun _ wr => iterLeft es.length W.heap.size wr)
  case atStart =>
    refine ⟨[], ⟨fun g hg => ⟨(hM.is g hg).1.same (Below.heap_alloc _ _ _ (hM.is g hg).1.size), noW0⟩, hM.nil⟩, ⟨⟨#[], World.alloc_heap_new _ _, rfl⟩, noW0, (fun _ h => by cases h), List.nodup_nil⟩, by simp, hJ _ _ _ none h0 (World.grownBy_alloc _ _ none) (fun r e => by cases e)⟩
  case round =>
    obtain ⟨dn, hMr, hIr, hle, hJr⟩ := hrel
    gi_wp2_with (first
      | (gi_at_next; refine wpListIn_nextE _ rfl _ rfl m es dn clock W.heap.size rfl hMr hIr ?_ ?_)
      | gi_in)
    · intro hall
      gi_wp2
      go_end0
      exact ⟨⟨_, rfl⟩, .inl ⟨_, (hIr.perm_ hMr.fine hall).map _, hJr⟩⟩
    · intro e w2 he hnd ht hI2 hs2 hen
      obtain ⟨⟨k1, k2⟩, ev, eb⟩ := e
      have hJ2 : J (dn.map (·.key)) w2 := hJ _ _ _ _ hJr (grownBy_turnI ht) (fun r e => (by cases e; obtain ⟨_, _, _, _, h1⟩ := ht.was; exact ⟨Nat.le_refl _, _, h1, rfl⟩))
      have hJ3 : J (dn.map (·.key)) (w2.alloc (.cells #[.string k1, .string k2] 57)) := hJ _ _ _ _ hJ2 (World.grownBy_alloc _ _ none) (fun r e => by cases e)
      have hlt : dn.length + 1 ≤ es.length := by have := hI2.dn_le; rwa [List.length_append] at this
      obtain ⟨fn, tmps, assign, body, hy, hR⟩ := hY _ (k1, k2) _ hJ3 (by rw [List.length_map]; omega)
      simp only [encK] at hen hy ⊢
      gi_wp2
      refine hR.mono ?_
      rintro e W3 (⟨rfl, hJ4, hk3⟩ | ⟨rfl, hJx3⟩)
      · gi_wp2
        have hk4 : KeepsWalks w2 W3 := (KeepsWalks.alloc _ _).trans hk3
        have hI3 := hI2.walks hk4
        go_roundw
        case rel => exact ⟨_, (hMr.turnI ht).walks hk4, hI3, by have := hk4.size; omega, by simpa using hJ4⟩
        case measure =>
          rw [hI3.left, hIr.left, List.length_append]
          simp only [List.length_cons, List.length_nil]
          omega
      · gi_wp2
        refine bodyPost_ret (results_none rfl _ _ _) rfl ?_
        exact ⟨⟨_, rfl⟩, .inr ⟨_, trivial, hJx3⟩⟩
/-- maps.Keys at the map of loans hands back a value that gives the keys, each once -/
theorem keysP_stops {V : Type} {encV : V → Value} (F : Fence) (n : Nat) (hf : F.fn 32) (hro : F.round = none) (hn : 1 ≤ n) (Bm : Nat) (m : Option Nat) (es : List (Ent Key V)) (clock : Nat) (w : World) (hBm : Bm < w.heap.size)
    (hm : w.cell? ⟨Bm, 0, none⟩ = some (.map m)) (hM : MpO encK encV ρ0 [] w m es clock) :
    SeqStopsK F n Try.prog 32 #[.pointer (some ⟨Bm, 0, none⟩)] (fun x => #[encK x]) KeepsWalks (fun ks => ks.Perm (es.map (·.key))) (fun _ => True) es.length w := fun l J Jx W hW hJ _ hY h0 =>
  keysP1_in F n hf hro hn l Bm m es clock J Jx hY W hJ ((hW.cell (p := ⟨Bm, 0, none⟩) hBm).trans hm) (hM.below hW) h0
end

section
open Go Go.RowKit Go.Shelf
attribute [local go_sem] Oper.semAt_some
attribute [local irreducible] run goO goN ordGoN eqlOf eqlOper eqlOfO cellL leaveK someK nextK nextT nextOT nextOD loopBody loopRest loopK fillJ tmplOf tmplJ mergeT At AtO drawOk ordOf gateOf callC callO topOp topO idxOf appOf storeOf clearOf sliceOf calleeOf calleeO topQ idxQ newRowOf resL stepOp seek

theorem infoP : (Try.prog.info? 57).map (fun i => (i.zero, i.size, i.bytes)) = some (some (.agg #[.string ByteArray.empty, .string ByteArray.empty]), 2, 32) := by kernel_rfl
theorem cells_new2 (w : World) (x y : Value) (t : TypeId) : ∀ j u, [x, y][j]? = some u → (w.alloc (.cells #[x, y] t)).cell? ((⟨w.heap.size, 0, none⟩ : Addr).add j) = some u := by
  intro j u hj
  match j, hj with
  | 0, hj =>
    simp at hj
    subst hj
    simp [Addr.add]
  | 1, hj =>
    simp at hj
    subst hj
    simp [Addr.add]
theorem blk_own {β : Type} (B : Nat) (t : TypeId) (cs : Array Value) : Go.Own (fun (_ : β) W => W.heap[B]? = some (.cells cs t (0, 0))) := fun _ X Y row hs hg hrow =>
  (hg.block B (Array.getElem?_eq_some_iff.1 hs).1 (fun e' => by obtain ⟨o, ho, hc⟩ := hrow B e'.symm; rw [hs] at ho; cases ho; cases hc)).trans hs
/-- a variable of two cells that a round has laid -/
def Boxed2 (W : World) (B : Nat) (t : TypeId) (x y : Value) : Prop := W.heap[B]? = some (.cells #[x, y] t (0, 0))
theorem Boxed2.cell0 {W : World} {B : Nat} {t : TypeId} {x y : Value} (h : Boxed2 W B t x y) : W.cell? ⟨B, 0, none⟩ = some x := by simp [World.cell?, show W.heap[B]? = _ from h]
theorem Boxed2.cell1 {W : World} {B : Nat} {t : TypeId} {x y : Value} (h : Boxed2 W B t x y) : W.cell? ⟨B, 1, none⟩ = some y := by simp [World.cell?, show W.heap[B]? = _ from h]
theorem Boxed2.new (W : World) (t : TypeId) (x y : Value) : Boxed2 (W.alloc (.cells #[x, y] t)) W.heap.size t x y := World.alloc_heap_new W _
set_option maxRecDepth 100000 in
set_option maxHeartbeats 2000000 in
theorem appendSeqP_in (F : Fence) (n : Nat) (hf : F.fn 46) (hro : F.round = none) (hn : 2 ≤ n) (g : Nat) (lb : Array Value) (hFg : F.fn g) (eg : ∀ args w, (callFunc g args).run Try.prog w = .ok (.enter g args) w)
    (S Sp : List Key → Prop) (N : Nat) (hN : N ≤ maxLen) (hNb : N * 32 ≤ 140737488355328) (w : World) (hseq : SeqStopsK F (n - 1) Try.prog g lb (fun x => #[encK x]) KeepsWalks S Sp N w) :
    CallsIn F n Try.prog 46 #[.slice none 0 0, .func (.func g) #[] lb] w fun e w' => ∃ (v : Value) (ks : List Key), e = .returned v ∧ S ks ∧ w'.ownsRow w.heap.size 57 2 v ks.length (ks.flatMap encL) ∧ Below w.heap.size w w' := by
  have h1 : 1 ≤ n := by omega
  obtain ⟨i0, hi, hz0, hz1, hz2⟩ := info_parts infoP
  refine callsIn_of_wp_marks Try.func46 rfl hf ?_ hro
  simp only [Try.ntmps46, List.size_toArray, List.length_cons, List.length_nil, Nat.reduceAdd, Nat.reduceSub, Array.replicate_succ, Array.replicate_zero, List.push_toArray, List.append_toArray, List.nil_append, List.cons_append]
  gi_wp2
  have bO := Boxed.new w 54 (.slice none 0 0)
  have hB0 : Below w.heap.size w (w.alloc (.cells #[.slice none 0 0] 54)) := (Below.refl _ w).alloc (Nat.le_refl _) _
  refine wpIn_rangeFunc_ownH hro h1 (gf := g) (lb := lb) rfl hFg eg hseq (fun h k => walksK_t h k) (fun W l o o' h1 h2 h3 h4 => walksK_b (w := w) W l o o' (by simp at h1; omega) h2 h3 h4) hB0 (fun _ => rfl)
    (fun (pre : List Key) W => (∃ v, Boxed W w.heap.size 54 v ∧ W.ownsRow w.heap.size 57 2 v pre.length (pre.flatMap encL) ∧ True) ∧ Below w.heap.size w W)
    (fun _ _ _ => False)
    (OwnFrom.and (Go.Own.from (holdsRow_own w.heap.size w.heap.size 54 57 2 (fun pre : List Key => pre.length) (fun pre => pre.flatMap encL) (fun _ _ => True)) _) (ownFrom_below (Nat.le_refl _) (by simp)))
    (fun _ _ _ _ _ hs _ _ => hs)
    ⟨⟨_, bO, World.ownsRow_nil _ _ _ _, trivial⟩, hB0⟩
    (fun x a' W => ∃ Bx, w.heap.size + 1 ≤ Bx ∧ Boxed2 W Bx 57 (.string x.1) (.string x.2) ∧ a' = { tmps := #[.slice none 0 0, .func (.func g) #[] lb, .pointer (some ⟨w.heap.size, 0, none⟩), undef, .slice none 0 0, .pointer (some ⟨Bx, 0, none⟩), .func (.func g) #[] lb, encK x, undef, undef, undef, undef, undef], defers := [] })
    (fun x a' s A B row hs hg hr => by obtain ⟨Bx, h1, h2, h3⟩ := hs; exact ⟨Bx, h1, (Go.Own.from (blk_own Bx _ _) _) () A B row h2 hg hr, h3⟩) ?assign ?body ?done ?stop
  case assign =>
    rintro l pre ⟨x, y⟩ W K ⟨⟨v, hv, hrow, _⟩, hB⟩ hK
    simp only [encK]
    gi_wp2
    exact hK _ _ ((KeepsOthers.alloc _ _).from _) (KeepsWalks.alloc _ _) ⟨⟨v, hv.alloc _, hrow.alloc _, trivial⟩, hB.alloc hB.size _⟩ ⟨W.heap.size, by have := hv.lt; omega, Boxed2.new W _ _ _, rfl⟩
  case body =>
    rintro l pre ⟨x, y⟩ a' W hl hr ⟨⟨v, hv, hrow, _⟩, hB⟩ ⟨Bx, hBx, bX, rfl⟩ hlt
    have hc := hv.cell
    have hx := bX.cell0
    have hy := bX.cell1
    simp only [encK]
    gi_wp2_with (gi_at_builtin; refine wpListIn_append_own _ rfl _ _ 54 rfl w.heap.size 57 i0 (.agg #[.string ByteArray.empty, .string ByteArray.empty]) 2 32 Try.underlying54 hi hz0 hz1 hz2 rfl (by decide) _ _ _ rfl (hrow.alloc _) ⟨W.heap.size, 0, none⟩ 1 1 [.string x, .string y] rfl rfl (cells_new2 _ _ _ _) (by simp [Value.oneCell']) (by omega) (by omega) (by have := hB.size; simp; omega) ?_; intro v' w1 hown' hgrow _; obtain ⟨g', cap', rfl⟩ := ownsRow_succ hown'; obtain ⟨hv1, hv2, hr2, hk2, hb2⟩ := hv.appended (by decide) hrow hB.size (Nat.le_refl _) hown' hgrow; have hc1 := hv1.cell; have hf1 := hv1.frozen)
    exact ⟨hk2.from _, hk2.walks, ⟨_, hv2, by rw [List.length_append, List.flatMap_append]; exact hr2⟩, hB.trans hb2⟩
  case done =>
    rintro D ks W hD hS ⟨⟨v, hv, hrow, _⟩, hB⟩ hK
    have hc := hv.cell
    gi_wp2
    refine ⟨by simp, .inl ⟨_, _, rfl, run_takeDeferred hK, ?_⟩⟩
    exact ⟨_, results_tmp rfl _ _ _, v, ks, rfl, hS, ownsRow_putObj hrow _ hK rfl, hB.trans (belowK_b (w := w) (Nat.le_refl _) W D _ _ (by simp at hD; omega) hK rfl rfl)⟩
  case stop =>
    rintro D c pre W _ _ h _
    exact h.elim
set_option maxHeartbeats 1000000 in
theorem collectP_in (F : Fence) (n : Nat) (hc : F.fn 30) (hf : F.fn 46) (hro : F.round = none) (hn : 3 ≤ n) (g : Nat) (lb : Array Value) (hFg : F.fn g) (eg : ∀ args w, (callFunc g args).run Try.prog w = .ok (.enter g args) w)
    (S Sp : List Key → Prop) (N : Nat) (hN : N ≤ maxLen) (hNb : N * 32 ≤ 140737488355328) (w : World) (hseq : SeqStopsK F (n - 1 - 1) Try.prog g lb (fun x => #[encK x]) KeepsWalks S Sp N w) :
    CallsIn F n Try.prog 30 #[.func (.func g) #[] lb] w fun e w' => ∃ (v : Value) (ks : List Key), e = .returned v ∧ S ks ∧ w'.ownsRow w.heap.size 57 2 v ks.length (ks.flatMap encL) ∧ Below w.heap.size w w' := by
  have h1 : 1 ≤ n := by omega
  refine callsIn_of_wp Try.func30 rfl hc ?_ hro
  simp only [Try.ntmps30, List.size_toArray, List.length_cons, List.length_nil, Nat.reduceAdd, Nat.reduceSub, Array.replicate_succ, Array.replicate_zero, List.push_toArray, List.append_toArray, List.nil_append, List.cons_append]
  gi_wp2_with (gi_at_call 46; refine (appendSeqP_in F (n - 1) hf hro (by omega) g lb hFg eg S Sp N hN hNb _ hseq).mono ?_; rintro e w' ⟨v, ks, rfl, hS, hrow, hb⟩)
  go_ret
  exact ⟨v, ks, rfl, hS, hrow, hb⟩
/-- slices.Collect(maps.Keys(m)) at the map of loans -/
theorem collectP_any {V : Type} {encV : V → Value} (Bm : Nat) (m : Option Nat) (es : List (Ent Key V)) (clock : Nat) (w : World) (hm : w.cell? ⟨Bm, 0, none⟩ = some (.map m)) (hM : MpO encK encV ρ0 [] w m es clock) (hlen : es.length ≤ 1000000) :
    Calls Try.prog 30 #[.func (.func 32) #[] #[.pointer (some ⟨Bm, 0, none⟩)]] w fun e w' => ∃ (v : Value) (ks : List Key), e = .returned v ∧ ks.Perm (es.map (·.key)) ∧ w'.ownsRow w.heap.size 57 2 v ks.length (ks.flatMap encL) ∧ Below w.heap.size w w' := by
  have hBm : Bm < w.heap.size := World.block_lt_of_cell? _ _ hm
  refine (callsIn_wide (n := 4)).1 ?_
  exact collectP_in _ _ trivial trivial rfl (by omega) _ _ trivial (enters_of Try.func32 (by kernel_rfl) rfl) _ _ es.length (by unfold maxLen; omega) (by omega) w (keysP_stops _ _ trivial rfl (by omega) Bm m es clock w hBm hm hM)
end

section
section
open Go Go.RowKit
attribute [local irreducible] run goO goN ordGoN eqlOf eqlOper eqlOfO cellL leaveK someK nextK nextT nextOT nextOD loopBody loopRest loopK fillJ tmplOf tmplJ mergeT At AtO drawOk ordOf gateOf callC callO topOp topO idxOf appOf storeOf clearOf sliceOf calleeOf calleeO topQ idxQ newRowOf resL stepOp seek

def ltS (a b : ByteArray) : Bool := Op.bytesLess a.toList b.toList
def cmpS (a b : ByteArray) : Int := if ltS a b then -1 else if ltS b a then 1 else 0
theorem bl_irrefl : ∀ l : List UInt8, Op.bytesLess l l = false
  | [] => rfl
  | a :: l => by simp [Op.bytesLess, bl_irrefl l]
theorem bl_trans : ∀ {a b c : List UInt8}, Op.bytesLess a b = true → Op.bytesLess b c = true → Op.bytesLess a c = true
  | _, [], _, h, _ => by simp [Op.bytesLess] at h
  | _, _ :: _, [], _, h => by simp [Op.bytesLess] at h
  | [], _ :: _, _ :: _, _, _ => rfl
  | x :: a, y :: b, z :: c, h1, h2 => by
    simp only [Op.bytesLess, Bool.or_eq_true, Bool.and_eq_true, decide_eq_true_eq, beq_iff_eq] at *
    rcases h1 with h1 | ⟨rfl, h1⟩ <;> rcases h2 with h2 | ⟨rfl, h2⟩
    · exact .inl (UInt8.lt_trans h1 h2)
    · exact .inl h1
    · exact .inl h2
    · exact .inr ⟨rfl, bl_trans h1 h2⟩
theorem bl_total : ∀ {a b : List UInt8}, Op.bytesLess a b = false → Op.bytesLess b a = false → a = b
  | [], [], _, _ => rfl
  | [], _ :: _, h, _ => by simp [Op.bytesLess] at h
  | _ :: _, [], _, h => by simp [Op.bytesLess] at h
  | x :: a, y :: b, h1, h2 => by
    simp only [Op.bytesLess, Bool.or_eq_false_iff, Bool.and_eq_false_iff, decide_eq_false_iff_not, beq_eq_false_iff_ne] at *
    have e : x = y := UInt8.le_antisymm (UInt8.not_lt.1 h2.1) (UInt8.not_lt.1 h1.1)
    subst e
    rw [bl_total (h1.2.resolve_left (fun h => h rfl)) (h2.2.resolve_left (fun h => h rfl))]
theorem ltS_irrefl (a : ByteArray) : ltS a a = false := bl_irrefl _
theorem ltS_trans {a b c : ByteArray} (h : ltS a b = true) (h' : ltS b c = true) : ltS a c = true := bl_trans h h'
theorem ltS_total {a b : ByteArray} (h : ltS a b = false) (h' : ltS b a = false) : a = b := by
  have := bl_total h h'
  cases a; cases b; simp_all [ByteArray.toList_eq]
theorem gt_text (a b : ByteArray) : (!(Op.bytesLess a.toList b.toList || a.toList == b.toList)) = ltS b a := by
  cases h : ltS b a with
  | true =>
    have h1 : ltS a b = false := by
      cases hc : ltS a b with
      | false => rfl
      | true => have := ltS_trans h hc; rw [ltS_irrefl] at this; cases this
    unfold ltS at h1
    have h2 : (a.toList == b.toList) = false := by
      cases hc : (a.toList == b.toList) with
      | false => rfl
      | true =>
        have e := eq_of_beq hc
        unfold ltS at h
        rw [e, bl_irrefl] at h
        cases h
    rw [h1, h2]
    rfl
  | false =>
    cases h1 : ltS a b with
    | true =>
      unfold ltS at h1
      rw [h1]
      rfl
    | false =>
      have e := ltS_total h1 h
      subst e
      simp
set_option maxRecDepth 100000 in
theorem compareS_any (a b : ByteArray) (w : World) : Calls Try.prog 49 #[.string a, .string b] w fun e w' => e = .returned (.int .i64 (cmpS a b)) ∧ Below w.heap.size w w' := by
  refine sim_enter Try.func49 ρ0 [LS a, LS b] [] (by kernel_rfl) rfl ?_
  have hR := Rel.start [] w ρ0
  refine sim_run 7 [] (hR.cast (by kernel_rfl)) (by kernel_rfl) trivial (fun ρ100 w100 hm100 hR100 => ?_)
  refine sim_into Try.func64 [LS a] (by kernel_rfl) (by kernel_rfl) ?_
  have hag101 := hR100.ag_ 0 (by kernel_rfl)
  refine sim_run 11 [] (hR100.cast (by kernel_rfl)) (by kernel_rfl) trivial (fun ρ102 w102 hm102 hR102 => ?_)
  have hag101 := hag101.moved (hm102.castL (by kernel_rfl))
  refine sim_out 0 (LB (!a.toList == a.toList)) hR102 (by kernel_rfl) (by kernel_rfl) hag101.ag (by kernel_rfl) ?_
  refine sim_run 5 [] (hR102.cast (by kernel_rfl)) (by kernel_rfl) trivial (fun ρ103 w103 hm103 hR103 => ?_)
  have hag101 := hag101.moved (hm103.castL (by kernel_rfl))
  refine sim_into Try.func64 [LS b] (by kernel_rfl) (by kernel_rfl) ?_
  have hag104 := hR103.ag_ 0 (by kernel_rfl)
  refine sim_run 11 [] (hR103.cast (by kernel_rfl)) (by kernel_rfl) trivial (fun ρ105 w105 hm105 hR105 => ?_)
  have hag101 := hag101.moved (hm105.castL (by kernel_rfl))
  have hag104 := hag104.moved (hm105.castL (by kernel_rfl))
  refine sim_out 0 (LB (!b.toList == b.toList)) hR105 (by kernel_rfl) (by kernel_rfl) hag104.ag (by kernel_rfl) ?_
  refine sim_run 7 [] (hR105.cast (by kernel_rfl)) (by kernel_rfl) trivial (fun ρ106 w106 hm106 hR106 => ?_)
  have hag101 := hag101.moved (hm106.castL (by kernel_rfl))
  have hag104 := hag104.moved (hm106.castL (by kernel_rfl))
  refine sim_know 11 (!a.toList == a.toList) false (by kernel_rfl) (by simp) ?_
  refine sim_run 7 [] (hR106.cast (by kernel_rfl)) (by kernel_rfl) trivial (fun ρ107 w107 hm107 hR107 => ?_)
  have hag101 := hag101.moved (hm107.castL (by kernel_rfl))
  have hag104 := hag104.moved (hm107.castL (by kernel_rfl))
  refine sim_know 13 (!b.toList == b.toList) false (by kernel_rfl) (by simp) ?_
  refine sim_run 9 [] (hR107.cast (by kernel_rfl)) (by kernel_rfl) trivial (fun ρ108 w108 hm108 hR108 => ?_)
  have hag101 := hag101.moved (hm108.castL (by kernel_rfl))
  have hag104 := hag104.moved (hm108.castL (by kernel_rfl))
  refine sim_fork 16 (Op.bytesLess a.toList b.toList) (by kernel_rfl) (fun hq109 => ?_) (fun hq109 => ?_)
  refine sim_run 5 [] (hR108.cast (by kernel_rfl)) (by kernel_rfl) trivial (fun ρ110 w110 hm110 hR110 => ?_)
  have hag101 := hag101.moved (hm110.castL (by kernel_rfl))
  have hag104 := hag104.moved (hm110.castL (by kernel_rfl))
  refine sim_ret (LI (-1)) hR110 (by kernel_rfl) (by kernel_rfl) ?_
  rotate_left
  refine sim_run 9 [] (hR108.cast (by kernel_rfl)) (by kernel_rfl) trivial (fun ρ111 w111 hm111 hR111 => ?_)
  have hag101 := hag101.moved (hm111.castL (by kernel_rfl))
  have hag104 := hag104.moved (hm111.castL (by kernel_rfl))
  refine sim_fork 19 (!(Op.bytesLess a.toList b.toList || a.toList == b.toList)) (by kernel_rfl) (fun hq112 => ?_) (fun hq112 => ?_)
  have hq112 := nb_t hq112
  refine sim_run 5 [] (hR111.cast (by kernel_rfl)) (by kernel_rfl) trivial (fun ρ113 w113 hm113 hR113 => ?_)
  have hag101 := hag101.moved (hm113.castL (by kernel_rfl))
  have hag104 := hag104.moved (hm113.castL (by kernel_rfl))
  refine sim_ret (LI 1) hR113 (by kernel_rfl) (by kernel_rfl) ?_
  rotate_left
  have hq112 := nb_f hq112
  refine sim_run 6 [] (hR111.cast (by kernel_rfl)) (by kernel_rfl) trivial (fun ρ114 w114 hm114 hR114 => ?_)
  have hag101 := hag101.moved (hm114.castL (by kernel_rfl))
  have hag104 := hag104.moved (hm114.castL (by kernel_rfl))
  refine sim_ret (LI 0) hR114 (by kernel_rfl) (by kernel_rfl) ?_
  rotate_left
  
  · rw [show cmpS a b = -1 from if_pos hq109]
    exact ⟨rfl, ((by assumption : Rel _ _ _ _ _)).toBelow⟩
  · have h1 : ltS b a = true := by rw [← gt_text, hq112]; rfl
    rw [show cmpS a b = 1 from by unfold cmpS; rw [if_neg (by unfold ltS; rw [hq109]; simp), if_pos h1]]
    exact ⟨rfl, ((by assumption : Rel _ _ _ _ _)).toBelow⟩
  · have h1 : ltS b a = false := by rw [← gt_text, hq112]; rfl
    rw [show cmpS a b = 0 from by unfold cmpS; rw [if_neg (by unfold ltS; rw [hq109]; simp), if_neg (by rw [h1]; simp)]]
    exact ⟨rfl, ((by assumption : Rel _ _ _ _ _)).toBelow⟩
set_option maxRecDepth 100000 in
theorem nameCompare_any (a b : ByteArray) (w : World) : Calls Try.prog 34 #[.string a, .string b] w fun e w' => e = .returned (.int .i64 (cmpS a b)) ∧ Below w.heap.size w w' := by
  refine sim_enter Try.func34 ρ0 [LS a, LS b] [] (by kernel_rfl) rfl ?_
  have hR := Rel.start [] w ρ0
  refine sim_run 8 [] (hR.cast (by kernel_rfl)) (by kernel_rfl) trivial (fun ρ200 w200 hm200 hR200 => ?_)
  refine sim_call 49 [LS a, LS b] (by kernel_rfl) ?_
  refine Calls.mono (compareS_any _ _ _) ?_
  rintro e201 w201 ⟨rfl, hb201⟩
  have hR201 := hR200.below hb201
  refine Back.of (LI (cmpS a b)) hR201 rfl ?_
  refine sim_run 2 [] (hR201.cast (by kernel_rfl)) (by kernel_rfl) trivial (fun ρ202 w202 hm202 hR202 => ?_)
  refine sim_ret (LI (cmpS a b)) hR202 (by kernel_rfl) (by kernel_rfl) ?_
  exact ⟨rfl, hR202.toBelow⟩
  
end


section
open Go Go.RowKit

theorem isNaNS_x (a : ByteArray) (w : World) : Calls Try.prog 64 #[.string a] w fun e w' => e = .returned (.bool false) ∧ w = w' := by
  have HE := Lib.hid (show (!(a.toList == a.toList)) = false by simp)
  go_enter Try.func64, Try.ntmps64
  go_wp2_with (first | rw [HE.out])
  go_ret
  exact ⟨ret_bool (by simp), rfl⟩
set_option maxRecDepth 100000 in
theorem compareS_x (a b : ByteArray) (w : World) : Calls Try.prog 49 #[.string a, .string b] w fun e w' => e = .returned (.int .i64 (cmpS a b)) ∧ w = w' := by
  have ha := fun w => isNaNS_x a w
  have hb := fun w => isNaNS_x b w
  go_enter Try.func49, Try.ntmps49
  go_wp2_with (go_at_call 64; first | (refine (ha _).mono ?_; rintro e w' ⟨rfl, rfl⟩) | (refine (hb _).mono ?_; rintro e w' ⟨rfl, rfl⟩))
  · rename_i h1
    go_ret
    exact ⟨ret_int (show cmpS a b = -1 from if_pos h1).symm, rfl⟩
  · rename_i h1 _ _ h2
    have hg : ltS b a = true := by rw [← gt_text, h1]; simpa using h2
    go_ret
    exact ⟨ret_int (show cmpS a b = 1 by unfold cmpS; rw [if_neg (by unfold ltS; rw [h1]; simp), if_pos hg]).symm, rfl⟩
  · rename_i h1 h2
    have hg : ltS b a = false := by rw [← gt_text, h1]; simpa using h2
    go_ret
    exact ⟨ret_int (show cmpS a b = 0 by unfold cmpS; rw [if_neg (by unfold ltS; rw [h1]; simp), if_neg (by rw [hg]; simp)]).symm, rfl⟩
set_option maxRecDepth 100000 in
theorem nameCompare_x (a b : ByteArray) (w : World) : Calls Try.prog 34 #[.string a, .string b] w fun e w' => e = .returned (.int .i64 (cmpS a b)) ∧ w = w' := by
  have ha := fun w => compareS_x a b w
  go_enter Try.func34, Try.ntmps34
  go_wp2_with (go_at_call 49; refine (ha _).mono ?_; rintro e w' ⟨rfl, rfl⟩)
  go_ret
  exact ⟨rfl, rfl⟩
end

section
open Go Go.RowKit

/-- the first of two ints that is not 0 -/
theorem or_x (a b : Int) (g : Nat) (w : World) (h0 : w.cell? ⟨g, 0, none⟩ = some (.int .i64 a)) (h1 : w.cell? ⟨g, 1, none⟩ = some (.int .i64 b)) : Calls Try.prog 33 #[.slice (some ⟨g, 0, none⟩) 2 2] w fun e w' => e = .returned (.int .i64 (orZ a b)) ∧ w = w' := by
  have H0 := Lib.hid h0
  have H1 := Lib.hid h1
  clear h0 h1
  by_cases ha : a = 0
  · subst ha
    by_cases hb : b = 0
    · subst hb
      go_enter Try.func33, Try.ntmps33
      go_wp2
      refine wp_loop_rounds 3 ?_
      rw [rounds_succ]
      go_wp2_with (first | rw [H0.out] | rw [H1.out])
      rw [rounds_succ]
      go_wp2_with (first | rw [H0.out] | rw [H1.out])
      rw [rounds_succ]
      go_wp2_with (first | rw [H0.out] | rw [H1.out])
      go_ret
      exact ⟨rfl, rfl⟩
    · have HB := Lib.hid hb
      clear hb
      go_enter Try.func33, Try.ntmps33
      go_wp2
      refine wp_loop_rounds 3 ?_
      rw [rounds_succ]
      go_wp2_with (first | rw [H0.out] | rw [H1.out])
      rw [rounds_succ]
      go_wp2_with (first | rw [H0.out] | rw [H1.out])
      · go_ret
        exact ⟨ret_int (by unfold orZ; rw [if_pos rfl]), rfl⟩
      · rename_i h
        exact absurd (by simpa using h) HB.out
  · have HA := Lib.hid ha
    clear ha
    go_enter Try.func33, Try.ntmps33
    go_wp2
    refine wp_loop_rounds 3 ?_
    rw [rounds_succ]
    go_wp2_with (first | rw [H0.out] | rw [H1.out])
    · go_ret
      exact ⟨ret_int (by unfold orZ; rw [if_neg HA.out]), rfl⟩
    · rename_i h
      exact absurd (by simpa using h) HA.out
open Go.Sort
theorem grow3 (w : World) (a b c : Obj) : (((w.alloc a).alloc b).alloc c).drew = grow (w.drewN 1) #[a, b, c] := by
  have e : ((w.heap.push a).push b).push c = w.heap ++ #[a, b, c] := by apply Array.ext'; simp
  show ({ w with heap := ((w.heap.push a).push b).push c, drawn := w.drawn + 1 } : World) = { w with heap := w.heap ++ #[a, b, c], drawn := w.drawn + 1 }
  rw [e]
abbrev cmpK (a b : Key) : Int := orZ (cmpS a.1 b.1) (cmpS a.2 b.2)
set_option maxRecDepth 100000 in
set_option maxHeartbeats 4000000 in
theorem before_x (x y : Key) (w : World) : Calls Try.prog 19 #[.agg #[.string x.1, .string x.2], .agg #[.string y.1, .string y.2]] w fun e w' => e = .returned (.int .i64 (cmpK x y)) ∧ ∃ q os', w' = grow (w.drewN q) os' := by
  obtain ⟨a, c⟩ := x
  obtain ⟨b, d⟩ := y
  dsimp only
  have h1 := fun w => nameCompare_x a b w
  have h2 := fun w => nameCompare_x c d w
  go_enter Try.func19, Try.ntmps19
  go_wp2
  refine wp_region_ord ((0, false) :: (1, false) :: (2, false) :: (3, false) :: (5, false) :: (6, false) :: (7, false) :: (8, false) :: (4, true) :: (9, true) :: (10, true) :: (11, true) :: (12, false) :: []) (fun w' => ((w'.cell? ⟨w.heap.size, 0, none⟩ = some (.string a) ∧ w'.cell? ⟨w.heap.size, 1, none⟩ = some (.string c)) ∧ (w'.cell? ⟨w.heap.size + 1, 0, none⟩ = some (.string b) ∧ w'.cell? ⟨w.heap.size + 1, 1, none⟩ = some (.string d)))) (by kernel_rfl) (by kernel_rfl) (by kernel_rfl) (by kernel_rfl) (fun _ _ d _ _ h => by cases d <;> exact h) ?_ (fun hHeld => ?_)
  · refine ⟨⟨?_, ?_⟩, ?_, ?_⟩ <;> go_simp
  iterate 8 (first | (refine wpOrd_skip (by simp only [List.getElem?_toArray, List.getElem?_cons_succ, List.getElem?_cons_zero]; rfl) (by rfl) ?_; (simp only [Act.put, List.setIfInBounds_toArray, List.set_cons_zero, List.set_cons_succ])) | (refine wpOrd_take (v := ?_) (by simp only [List.getElem?_toArray, List.getElem?_cons_succ, List.getElem?_cons_zero]; rfl) (by rfl) ?_ ?_; rotate_left; (· (intro w hSw; (try dsimp only at hSw); go_simp; try with_reducible rfl)); (simp only [Act.put, List.setIfInBounds_toArray, List.set_cons_zero, List.set_cons_succ])))
  refine wpOrd_alone (by simp only [List.getElem?_toArray, List.getElem?_cons_succ, List.getElem?_cons_zero]; rfl) (fun K hK => ?_)
  go_simp
  (go_at_call 34; refine (h1 _).mono ?_; rintro e w' ⟨rfl, rfl⟩)
  refine hK.out _ _ hHeld (fun hHeld => ?_)
  clear hK K
  refine wpOrd_alone (by simp only [List.getElem?_toArray, List.getElem?_cons_succ, List.getElem?_cons_zero]; rfl) (fun K hK => ?_)
  go_simp
  (go_at_call 34; refine (h2 _).mono ?_; rintro e w' ⟨rfl, rfl⟩)
  refine hK.out _ _ hHeld (fun hHeld => ?_)
  clear hK K
  refine wpOrd_alone (by simp only [List.getElem?_toArray, List.getElem?_cons_succ, List.getElem?_cons_zero]; rfl) (fun K hK => ?_)
  go_simp
  refine hK.out _ _ (by refine ⟨⟨?_, ?_⟩, ?_, ?_⟩ <;> go_simp) (fun hHeld => ?_)
  clear hK K
  refine wpOrd_alone (by simp only [List.getElem?_toArray, List.getElem?_cons_succ, List.getElem?_cons_zero]; rfl) (fun K hK => ?_)
  go_simp
  (go_at_call 33; refine (or_x (cmpS a b) (cmpS c d) (w.heap.size + 1 + 1) _ (by go_simp) (by go_simp)).mono ?_; rintro e w' ⟨rfl, rfl⟩)
  refine hK.out _ _ hHeld (fun hHeld => ?_)
  clear hK K
  iterate 1 (first | (refine wpOrd_skip (by simp only [List.getElem?_toArray, List.getElem?_cons_succ, List.getElem?_cons_zero]; rfl) (by rfl) ?_; (simp only [Act.put, List.setIfInBounds_toArray, List.set_cons_zero, List.set_cons_succ])) | (refine wpOrd_take (v := ?_) (by simp only [List.getElem?_toArray, List.getElem?_cons_succ, List.getElem?_cons_zero]; rfl) (by rfl) ?_ ?_; rotate_left; (· (intro w hSw; (try dsimp only at hSw); go_simp; try with_reducible rfl)); (simp only [Act.put, List.setIfInBounds_toArray, List.set_cons_zero, List.set_cons_succ])))
  refine wpOrd_done ?_
  go_wp2_with fail
  go_ret
  exact ⟨rfl, 1, #[.cells #[.string a, .string c] 57, .cells #[.string b, .string d] 57, .cells #[.int .i64 (cmpS a b), .int .i64 (cmpS c d)] 3], grow3 ..⟩
end
end

section
section
section
open Go Go.RowKit Go.Sort

/-- only blocks of A's turned -/
def inA (A : Option Addr) (x : Nat) : Prop := ∃ a, A = some a ∧ a.block = x
section
variable {α : Type} [Inhabited α] {enc : α → List Value} {k : Nat}
omit [Inhabited α] in
theorem flatMap_len (hk : ∀ x, (enc x).length = k) : ∀ xs : List α, (xs.flatMap enc).length = xs.length * k
  | [] => by simp
  | x :: xs => by rw [List.flatMap_cons, List.length_append, flatMap_len hk xs, hk, List.length_cons, Nat.succ_mul]; omega
omit [Inhabited α] in
theorem flatMap_get (hk : ∀ x, (enc x).length = k) {xs : List α} {i : Nat} {x : α} (hx : xs[i]? = some x) {j : Nat} {v : Value} (hv : (enc x)[j]? = some v) : (xs.flatMap enc)[i * k + j]? = some v := by
  rw [List.flatMap_def]
  refine flat_get (xs.map enc) i (enc x) (fun y hy => ?_) (by rw [List.getElem?_map, hx]; rfl) j v hv
  obtain ⟨z, _, rfl⟩ := List.mem_map.1 hy
  exact hk z
theorem flatK_eq (hk : ∀ x, (enc x).length = k) (xs : List α) : flatK enc k xs.toArray = (xs.flatMap enc).toArray := by
  apply ext_get!
  · rw [size_flatK]
    simp [flatMap_len hk]
  · intro t ht
    rw [size_flatK] at ht
    rw [get_flatK _ _ _ _ ht]
    have ht' : t < xs.length * k := by simpa using ht
    have hk0 : 0 < k := by
      rcases Nat.eq_zero_or_pos k with h | h
      · rw [h] at ht'; omega
      · exact h
    have h1 : t / k < xs.length := Nat.div_lt_of_lt_mul (by rw [Nat.mul_comm]; exact ht')
    have h2 : t % k < k := Nat.mod_lt _ hk0
    have hx : xs[t / k]? = some xs[t / k] := List.getElem?_eq_getElem h1
    have hv : (enc xs[t / k])[t % k]? = some ((enc xs[t / k])[t % k]'(by rw [hk]; exact h2)) := List.getElem?_eq_getElem (by rw [hk]; exact h2)
    have h3 := flatMap_get hk hx hv
    have e : t / k * k + t % k = t := Nat.div_add_mod' t k
    rw [e] at h3
    have e1 : xs.toArray[t / k]! = xs[t / k] := by simp [h1]
    rw [e1, getElem!_pos (enc xs[t / k]) (t % k) (by rw [hk]; exact h2)]
    simp [h3]
theorem holdsK_own (hk : ∀ x, (enc x).length = k) {w : World} {base g n cap : Nat} {e : TypeId} {xs : List α} (hl : xs.length = n) (h : w.ownsRow base e k (.slice (some ⟨g, 0, none⟩) n cap) n (xs.flatMap enc)) : HoldsK enc k w g 0 xs.toArray := by
  rcases h.2 with ⟨h0, _⟩ | ⟨g', cap', cur, h0, _, hb, h3, _, h5, h6⟩
  · cases h0
  · injection h0 with h0 h0' h0''
    injection h0 with h0
    injection h0 with h0
    subst h0
    intro j hj
    rw [size_flatK] at hj
    have hj' : j < n * k := by rw [← hl]; simpa using hj
    have hc : j < cur.size := by rw [h5]; exact Nat.lt_of_lt_of_le hj' (Nat.mul_le_mul_right k h3)
    refine ⟨?_, ?_⟩
    · rw [flatK_eq hk]
      unfold World.cell?
      simp only [Nat.zero_add, hb]
      have h7 : (xs.flatMap enc)[j]? = cur.toList[j]? := by rw [← h6, List.getElem?_take, if_pos hj']
      have h8 : cur[j]? = some cur[j] := Array.getElem?_eq_getElem hc
      have h9 : (xs.flatMap enc)[j]? = some cur[j] := by rw [h7, Array.getElem?_toList, h8]
      simp [h9]
    · simp [World.frozen?, hb]
theorem own_sortWorld (hk : ∀ x, (enc x).length = k) {w : World} {base g n cap : Nat} {e : TypeId} {xs ys : List α} (_ : xs.length = n) (hy : ys.length = n) (h : w.ownsRow base e k (.slice (some ⟨g, 0, none⟩) n cap) n (xs.flatMap enc)) (m : Nat) (os : Array Obj) :
    (sortWorldK enc k w g 0 m ys.toArray os).ownsRow base e k (.slice (some ⟨g, 0, none⟩) n cap) n (ys.flatMap enc) ∧ Kept (fun x => x = g) w (sortWorldK enc k w g 0 m ys.toArray os) := by
  rcases h.2 with ⟨h0, _⟩ | ⟨g', cap', cur, h0, h1, hb, h3, h4, h5, h6⟩
  · cases h0
  · injection h0 with h0 h0' h0''
    injection h0 with h0
    injection h0 with h0
    subst h0
    subst h0''
    have hlt : g < w.heap.size := by
      rcases Nat.lt_or_ge g w.heap.size with h7 | h7
      · exact h7
      · rw [Array.getElem?_eq_none h7] at hb; cases hb
    have hfl : (ys.flatMap enc).length = n * k := by rw [flatMap_len hk, hy]
    have heap : ∀ i, i < w.heap.size → (sortWorldK enc k w g 0 m ys.toArray os).heap[i]? = if i = g then some (.cells (putCells id 0 (ys.flatMap enc).toArray cur) e (0, 0)) else w.heap[i]? := by
      intro i hi
      unfold sortWorldK putRowK putRow
      rw [heap_grow_old _ _ (by simpa [mapBlock, ahead] using hi), flatK_eq hk]
      simp only [mapBlock, Array.getElem?_modify]
      by_cases hig : g = i
      · subst hig
        simp [hb, onCells]
      · rw [if_neg hig, if_neg (fun e => hig e.symm)]
        rfl
    refine ⟨⟨hfl, .inr ⟨g, cap, putCells id 0 (ys.flatMap enc).toArray cur, rfl, h1, ?_, h3, h4, ?_, ?_⟩⟩, ⟨rfl, rfl, rfl, ?_, fun i hi hne => ?_⟩⟩
    · rw [heap g hlt, if_pos rfl]
    · simp [putCells, h5]
    · apply List.ext_getElem?
      intro i
      rw [List.getElem?_take]
      by_cases hi : i < n * k
      · have hi2 : i < cur.size := by rw [h5]; exact Nat.lt_of_lt_of_le hi (Nat.mul_le_mul_right k h3)
        rw [if_pos hi]
        simp only [putCells, Array.toList_mapIdx, List.getElem?_mapIdx, Array.getElem?_toList, Array.getElem?_eq_getElem hi2, Option.map_some, Nat.zero_le, true_and, List.size_toArray, hfl, Nat.zero_add, if_pos hi, Nat.sub_zero, id]
        rw [List.getElem?_eq_getElem (by rw [hfl]; exact hi)]
        simp [hfl, hi]
      · rw [if_neg hi, List.getElem?_eq_none (by rw [hfl]; omega)]
    · simp [sortWorldK, putRowK]
    · rw [heap i hi, if_neg hne]
end
end
end

section
open Go Go.Shelf Go.RowKit
attribute [local irreducible] run goO goN ordGoN eqlOf eqlOper eqlOfO cellL leaveK someK nextK nextT nextOT nextOD loopBody loopRest loopK fillJ tmplOf tmplJ mergeT At AtO drawOk ordOf gateOf callC callO topOp topO idxOf appOf storeOf clearOf sliceOf calleeOf calleeO topQ idxQ newRowOf resL stepOp seek

def renFKey : Nat → Nat
  | 6 => 31
  | 14 => 47
  | 15 => 48
  | 20 => 54
  | 21 => 55
  | 22 => 56
  | 23 => 57
  | 24 => 58
  | 25 => 59
  | 26 => 60
  | 27 => 61
  | 28 => 62
  | 29 => 63
  | 46 => 67
  | 47 => 68
  | 48 => 69
  | 49 => 70
  | 50 => 71
  | 57 => 81
  | k => k
def renTKey : Nat → Nat
  | 0 => 0
  | 3 => 3
  | 4 => 4
  | 5 => 5
  | 9 => 9
  | 22 => 54
  | 24 => 57
  | 25 => 61
  | 39 => 86
  | 45 => 107
  | 46 => 108
  | 50 => 112
  | 53 => 115
  | 55 => 85
  | 66 => 119
  | 70 => 123
  | 76 => 131
  | 77 => 132
  | k => k
def renSKey : Ren := ⟨renFKey, renTKey, fun k => k⟩
set_option maxRecDepth 100000 in
theorem laysSKey : SlLaysF0.n6 Try.prog renSKey where
  mixed := by kernel_rfl
  f6 := Exists.intro "slices.SortFunc[[]compline/credit.purse,compline/credit.purse]" ⟨by kernel_rfl, by kernel_rfl⟩
  f14 := Exists.intro "slices.pdqsortCmpFunc[compline/credit.purse]" ⟨by kernel_rfl, by kernel_rfl⟩
  f15 := by kernel_rfl
  f20 := Exists.intro "slices.insertionSortCmpFunc[compline/credit.purse]" ⟨by kernel_rfl, by kernel_rfl⟩
  f21 := Exists.intro "slices.heapSortCmpFunc[compline/credit.purse]" ⟨by kernel_rfl, by kernel_rfl⟩
  f22 := Exists.intro "slices.breakPatternsCmpFunc[compline/credit.purse]" ⟨by kernel_rfl, by kernel_rfl⟩
  f23 := Exists.intro "slices.choosePivotCmpFunc[compline/credit.purse]" ⟨by kernel_rfl, by kernel_rfl⟩
  f24 := Exists.intro "slices.reverseRangeCmpFunc[compline/credit.purse]" ⟨by kernel_rfl, by kernel_rfl⟩
  f25 := Exists.intro "slices.partialInsertionSortCmpFunc[compline/credit.purse]" ⟨by kernel_rfl, by kernel_rfl⟩
  f26 := Exists.intro "slices.partitionEqualCmpFunc[compline/credit.purse]" ⟨by kernel_rfl, by kernel_rfl⟩
  f27 := Exists.intro "slices.partitionCmpFunc[compline/credit.purse]" ⟨by kernel_rfl, by kernel_rfl⟩
  f28 := by kernel_rfl
  f29 := by kernel_rfl
  f46 := Exists.intro "slices.siftDownCmpFunc[compline/credit.purse]" ⟨by kernel_rfl, by kernel_rfl⟩
  f47 := by kernel_rfl
  f48 := by kernel_rfl
  f49 := Exists.intro "slices.medianAdjacentCmpFunc[compline/credit.purse]" ⟨by kernel_rfl, by kernel_rfl⟩
  f50 := Exists.intro "slices.medianCmpFunc[compline/credit.purse]" ⟨by kernel_rfl, by kernel_rfl⟩
  f57 := Exists.intro "slices.order2CmpFunc[compline/credit.purse]" ⟨by kernel_rfl, by kernel_rfl⟩
  t0 := by kernel_rfl
  a0 := fun _ => by kernel_rfl
  z0 := fun _ => by kernel_rfl
  v0 := fun _ => by kernel_rfl
  t3 := by kernel_rfl
  a3 := fun _ => by kernel_rfl
  z3 := fun _ => by kernel_rfl
  v3 := fun _ => by kernel_rfl
  t4 := by kernel_rfl
  a4 := fun _ => by kernel_rfl
  z4 := fun _ => by kernel_rfl
  v4 := fun _ => by kernel_rfl
  t5 := by kernel_rfl
  a5 := fun _ => by kernel_rfl
  z5 := fun _ => by kernel_rfl
  v5 := fun _ => by kernel_rfl
  t9 := by kernel_rfl
  a9 := fun _ => by kernel_rfl
  z9 := fun _ => by kernel_rfl
  v9 := fun _ => by kernel_rfl
  t22 := by kernel_rfl
  a22 := fun _ => by kernel_rfl
  z22 := fun _ => by kernel_rfl
  v22 := fun _ => by kernel_rfl
  t25 := by kernel_rfl
  a25 := fun _ => by kernel_rfl
  z25 := fun _ => by kernel_rfl
  v25 := fun _ => by kernel_rfl
  t39 := by kernel_rfl
  a39 := fun _ => by kernel_rfl
  z39 := fun _ => by kernel_rfl
  v39 := fun _ => by kernel_rfl
  t45 := by kernel_rfl
  a45 := fun _ => by kernel_rfl
  z45 := fun _ => by kernel_rfl
  v45 := fun _ => by kernel_rfl
  t46 := by kernel_rfl
  a46 := fun _ => by kernel_rfl
  z46 := fun _ => by kernel_rfl
  v46 := fun _ => by kernel_rfl
  t50 := by kernel_rfl
  a50 := fun _ => by kernel_rfl
  z50 := fun _ => by kernel_rfl
  v50 := fun _ => by kernel_rfl
  t53 := by kernel_rfl
  a53 := fun _ => by kernel_rfl
  z53 := fun _ => by kernel_rfl
  v53 := fun _ => by kernel_rfl
  t55 := by kernel_rfl
  a55 := fun _ => by kernel_rfl
  z55 := fun _ => by kernel_rfl
  v55 := fun _ => by kernel_rfl
  t66 := by kernel_rfl
  a66 := fun _ => by kernel_rfl
  z66 := fun _ => by kernel_rfl
  v66 := fun _ => by kernel_rfl
  t70 := by kernel_rfl
  a70 := fun _ => by kernel_rfl
  z70 := fun _ => by kernel_rfl
  v70 := fun _ => by kernel_rfl
  t76 := by kernel_rfl
  a76 := fun _ => by kernel_rfl
  z76 := fun _ => by kernel_rfl
  v76 := fun _ => by kernel_rfl
  t77 := by kernel_rfl
  a77 := fun _ => by kernel_rfl
  z77 := fun _ => by kernel_rfl
  v77 := fun _ => by kernel_rfl
end

section
open Go Go.RowKit Go.Sort

def ltK (x y : Key) : Bool := ltS x.1 y.1 || (decide (x.1 = y.1) && ltS x.2 y.2)
theorem cmpS_lt (a b : ByteArray) : (cmpS a b < 0 ↔ ltS a b = true) ∧ (cmpS a b = 0 ↔ a = b) := by
  unfold cmpS
  cases h : ltS a b with
  | true =>
    simp only [if_true]
    refine ⟨by simp, by simp, ?_⟩
    rintro rfl
    rw [ltS_irrefl] at h
    cases h
  | false =>
    cases h2 : ltS b a with
    | true =>
      simp only [Bool.false_eq_true, if_false, if_true]
      refine ⟨by simp, by simp, ?_⟩
      rintro rfl
      rw [ltS_irrefl] at h2
      cases h2
    | false =>
      simp only [Bool.false_eq_true, if_false]
      exact ⟨by simp, by simp [ltS_total h h2]⟩
theorem ltOf_cmpK (x y : Key) : ltOf cmpK x y = ltK x y := by
  obtain ⟨a, b⟩ := x
  obtain ⟨c, d⟩ := y
  unfold ltOf cmpK ltK orZ
  dsimp only
  by_cases e : a = c
  · subst e
    have h0 := (cmpS_lt a a).2.2 rfl
    rw [h0, if_pos rfl, ltS_irrefl]
    simp only [decide_true, Bool.true_and, Bool.false_or]
    rw [Bool.eq_iff_iff, decide_eq_true_iff]
    exact (cmpS_lt b d).1
  · have h0 : cmpS a c ≠ 0 := fun h => e ((cmpS_lt a c).2.1 h)
    rw [if_neg h0, decide_eq_false e, Bool.false_and, Bool.or_false, Bool.eq_iff_iff, decide_eq_true_iff]
    exact (cmpS_lt a c).1
theorem ltK_irrefl (x : Key) : ltK x x = false := by simp [ltK, ltS_irrefl]
theorem ltK_trans {x y z : Key} (h : ltK x y = true) (h' : ltK y z = true) : ltK x z = true := by
  obtain ⟨a, b⟩ := x
  obtain ⟨c, d⟩ := y
  obtain ⟨e, f⟩ := z
  simp only [ltK, Bool.or_eq_true, Bool.and_eq_true, decide_eq_true_eq] at *
  rcases h with h | ⟨rfl, h⟩ <;> rcases h' with h' | ⟨rfl, h'⟩
  · exact .inl (ltS_trans h h')
  · exact .inl h
  · exact .inl h'
  · exact .inr ⟨rfl, ltS_trans h h'⟩
theorem ltK_total {x y : Key} (h : ltK x y = false) (h' : ltK y x = false) : x = y := by
  obtain ⟨a, b⟩ := x
  obtain ⟨c, d⟩ := y
  simp only [ltK, Bool.or_eq_false_iff, Bool.and_eq_false_iff, decide_eq_false_iff_not] at *
  obtain ⟨h1, h2⟩ := h
  obtain ⟨h3, h4⟩ := h'
  have e := ltS_total h1 h3
  subst e
  rw [ltS_total (h2.resolve_left (fun h => h rfl)) (h4.resolve_left (fun h => h rfl))]
theorem swoK : SWO (ltOf cmpK) where
  irrefl x := by rw [ltOf_cmpK]; exact ltK_irrefl x
  trans x y z h1 h2 := by rw [ltOf_cmpK] at *; exact ltK_trans h1 h2
  ntrans x y z h1 h2 := by
    rw [ltOf_cmpK] at *
    cases h : ltK x z with
    | false => rfl
    | true =>
      cases h3 : ltK y x with
      | true => rw [ltK_trans h3 h] at h2; cases h2
      | false =>
        have e := ltK_total h1 h3
        subst e
        rw [h] at h2
        cases h2
def leK (x y : Key) : Bool := !ltK y x
def sortKs (ks : List Key) : List Key := ks.mergeSort leK
theorem sortKs_len (ks : List Key) : (sortKs ks).length = ks.length := List.length_mergeSort ..
theorem sortKeys_any (base n cp : Nat) (A : Option Addr) (ks : List Key) (w : World) (h : w.ownsRow base 57 2 (.slice A n cp) n (ks.flatMap encL)) (hl : ks.length = n) (hn : n < 4611686018427387904) :
    Calls Try.prog 31 #[.slice A n cp, .func (.func 19) #[] #[]] w fun e w' => e = .returned (.tuple #[]) ∧ w'.ownsRow base 57 2 (.slice A n cp) n ((sortKs ks).flatMap encL) ∧ Kept (inA A) w w' := by
  have hs : (fun x y => !(ltOf cmpK) y x) = leK := by funext x y; rw [ltOf_cmpK]; rfl
  cases A with
  | none =>
    have h0 : n = 0 := by
      rcases h.2 with ⟨_, h0⟩ | ⟨g, cap, cur, e, _⟩
      · exact h0
      · cases e
    subst h0
    have hk : ks = [] := List.eq_nil_of_length_eq_zero hl
    subst hk
    refine (AnyF.slices_SortFunc_none laysSKey none cp (.func (.func 19) #[] #[]) w).mono ?_
    rintro e w' ⟨he, rfl⟩
    rw [show sortKs [] = [] from List.mergeSort_nil ..]
    exact ⟨he, h, Kept.refl _ _⟩
  | some a =>
    obtain ⟨g, rfl⟩ : ∃ g, a = ⟨g, 0, none⟩ := by
      rcases h.2 with ⟨e, _⟩ | ⟨g, cap, cur, e, _⟩
      · cases e
      · injection e with e; injection e with e; exact ⟨g, e⟩
    have hg : g < w.heap.size := own_lt h rfl
    subst hl
    have hc := AnyQ.slices_SortFunc_total (P := Try.prog) laysSKey 2 (fun _ => by kernel_rfl) (fun _ => by kernel_rfl) encL (fun _ => rfl) (fun x v hv => by simp [encL] at hv; rcases hv with rfl | rfl <;> rfl) cmpK swoK 19 #[] g 0 cp ks.toArray w
      (enters_of Try.func19 (by kernel_rfl) rfl) (fun m os dk _ x y => before_x x y _) (holdsK_own (enc := encL) (k := 2) (fun _ => rfl) rfl h) hg (by simpa using hn) (fun x y h1 h2 => by rw [ltOf_cmpK] at *; exact ltK_total h1 h2)
    rw [hs, show renSKey.f 6 = 31 from rfl] at hc
    refine Calls.mono (by simpa using hc) ?_
    rintro e w' ⟨he, m, os, rfl⟩
    obtain ⟨h1, h2⟩ := own_sortWorld (enc := encL) (fun _ => rfl) rfl (sortKs_len ks) h m os
    exact ⟨he, h1, h2.mono (fun x hx => .inl ⟨_, rfl, hx.symm⟩)⟩
end
end

section
open Go Go.RowKit Go.Shelf
attribute [local irreducible] run goO goN ordGoN eqlOf eqlOper eqlOfO cellL leaveK someK nextK nextT nextOT nextOD loopBody loopRest loopK fillJ tmplOf tmplJ mergeT At AtO drawOk ordOf gateOf callC callO topOp topO idxOf appOf storeOf clearOf sliceOf calleeOf calleeO topQ idxQ newRowOf resL stepOp seek
theorem sortKs_perm {xs ys : List Key} (h : xs.Perm ys) : sortKs xs = sortKs ys := by
  have tr : ∀ a b c : Key, leK a b = true → leK b c = true → leK a c = true := by
    intro a b c h1 h2
    unfold leK at *
    rw [Bool.not_eq_true'] at *
    cases hc : ltK c a with
    | false => rfl
    | true =>
      rcases Decidable.em (ltK a b = true) with h3 | h3
      · rw [ltK_trans hc h3] at h2; cases h2
      · have := ltK_total (Bool.eq_false_iff.2 h3) h1
        subst this
        rw [hc] at h2; cases h2
  have tot : ∀ a b : Key, (leK a b || leK b a) = true := by
    intro a b
    unfold leK
    cases h1 : ltK b a with
    | false => rfl
    | true =>
      cases h2 : ltK a b with
      | false => rfl
      | true => have := ltK_trans h1 h2; rw [ltK_irrefl] at this; cases this
  refine List.Perm.eq_of_pairwise (le := fun a b => leK a b = true) ?_ (List.pairwise_mergeSort tr tot xs) (List.pairwise_mergeSort tr tot ys) (((List.mergeSort_perm xs leK).trans h).trans (List.mergeSort_perm ys leK).symm)
  intro a b _ _ h1 h2
  unfold leK at h1 h2
  rw [Bool.not_eq_true'] at h1 h2
  exact ltK_total h2 h1
set_option maxRecDepth 100000 in
set_option maxHeartbeats 4000000 in
theorem keysP_any (m : Option Nat) (w : World) : Calls Try.prog 18 #[.map m] w fun e w' => ∃ g, e = .returned (.func (.func 32) #[] #[.pointer (some ⟨g, 0, none⟩)]) ∧ w'.cell? ⟨g, 0, none⟩ = some (.map m) ∧ w.heap.size ≤ g ∧ Below w.heap.size w w' := by
  refine (callsIn_wide (n := 2)).1 ?_
  refine callsIn_of_wp Try.func18 rfl trivial ?_ rfl
  simp only [Try.ntmps18, List.size_toArray, List.length_cons, List.length_nil, Nat.reduceAdd, Nat.reduceSub, Array.replicate_succ, Array.replicate_zero, List.push_toArray, List.append_toArray, List.nil_append, List.cons_append]
  gi_wp2
  go_ret
  exact ⟨w.heap.size, rfl, (cell_one_new w (.map m) _) 0 _ rfl, Nat.le_refl _, (Below.refl _ w).alloc (Nat.le_refl _) _⟩
set_option maxRecDepth 100000 in
set_option maxHeartbeats 4000000 in
theorem sortedP_any {V : Type} {encV : V → Value} (Bm : Nat) (m : Option Nat) (es : List (Ent Key V)) (clock : Nat) (w : World) (hm : w.cell? ⟨Bm, 0, none⟩ = some (.map m)) (hM : MpO encK encV ρ0 [] w m es clock) (hlen : es.length ≤ 1000000) :
    Calls Try.prog 17 #[.func (.func 32) #[] #[.pointer (some ⟨Bm, 0, none⟩)], .func (.func 19) #[] #[]] w fun e w' => ∃ A cp, e = .returned (.slice A es.length cp) ∧ w'.ownsRow w.heap.size 57 2 (.slice A es.length cp) es.length ((sortKs (es.map (·.key))).flatMap encL) ∧ Below w.heap.size w w' := by
  refine sim_enter Try.func17 ρ0 [.v (.func (.func 32) #[] #[.pointer (some ⟨Bm, 0, none⟩)]), .v (.func (.func 19) #[] #[])] [] (by kernel_rfl) rfl ?_
  have hR := Rel.start [] w ρ0
  refine sim_run 7 [] (hR.cast (by kernel_rfl)) (by kernel_rfl) trivial (fun ρ100 w100 hm100 hR100 => ?_)
  have hM := hM.moved (hm100.castL (by kernel_rfl))
  
  refine sim_call 30 [.v (.func (.func 32) #[] #[.pointer (some ⟨Bm, 0, none⟩)])] (by kernel_rfl) ?_
  have hb0 := hR100.toBelow
  refine (collectP_any Bm m es clock _ ((hb0.cell (World.block_lt_of_cell? _ _ hm)).trans hm) ⟨fun g hg => ⟨(hM.is g hg).1, noW0⟩, hM.nil⟩ hlen).mono ?_
  rintro e w5 ⟨v, ks, rfl, hp, ho, hb5⟩
  have hR5 := hR100.below hb5
  have hl : ks.length = es.length := by rw [hp.length_eq, List.length_map]
  obtain ⟨A, cp, rfl⟩ := own_row ho
  have ho := own_base ho hR100.keeps.size
  refine Back.of (.v (.slice A ks.length cp)) hR5 rfl ?_
  refine sim_run 6 [] (hR5.cast (by kernel_rfl)) (by kernel_rfl) trivial (fun ρ200 w200 hm200 hR200 => ?_)
  
  refine sim_call 31 [.v (.slice A ks.length cp), .v (.func (.func 19) #[] #[])] (by kernel_rfl) ?_
  have hvo : Own ρ100 [] w5 w.heap.size 57 2 (.slice A ks.length cp) ks.length (ks.flatMap encL) := Own.ro (Rel.cast (rs' := []) hR5 (by kernel_rfl)) ho (by kernel_rfl)
  have hvo := hvo.moved (hm200.castL (by kernel_rfl))
  refine (sortKeys_any w.heap.size ks.length cp A ks _ hvo.own rfl (by omega)).mono ?_
  rintro e6 w6 ⟨rfl, ho6, hk6⟩
  have hR6 := (Rel.cast (rs' := []) hR200 (by kernel_rfl)).kept hk6 (fun n' r hn' _ hs => by simp at hn') (fun x hx => .inr (by
    obtain ⟨a, rfl, rfl⟩ := hx
    have h1 := own_ge (g := a.block) hvo.own rfl
    omega))
  have hv6 : Own ρ200 [] w6 w.heap.size 57 2 (.slice A ks.length cp) ks.length ((sortKs ks).flatMap encL) := Own.ro hR6 ho6 (by kernel_rfl)
  refine Back.of (.tup []) hR6 rfl ?_
  refine sim_run 6 [] (hR6.cast (by kernel_rfl)) (by kernel_rfl) trivial (fun ρ300 w300 hm300 hR300 => ?_)
  have hv6 := hv6.moved (hm300.castL (by kernel_rfl))
  refine sim_ret (.v (Value.slice A ks.length cp)) hR300 (by kernel_rfl) (by kernel_rfl) ?_
  
  rw [← hl, ← sortKs_perm hp]
  exact ⟨A, cp, rfl, hv6.own, ((by assumption : Rel _ _ _ _ _)).toBelow⟩
end
end Go.Proofs.Ytioehmngkoffaaa
