/-
  maps.Keys at a map whose keys are texts and whose values are rows of numbers; slices.Collect.
  The keys of a map whose keys are texts, in order: slices.Sorted(maps.Keys(m)).
-/
import Derived.Test.YtioehmngkoffaaaCrIL
import Derived.Test.YtioehmngkoffaaaCrN
import Derived.Test.YtioehmngkoffaaaAppR
import Derived.Test.YtioehmngkoffaaaShelf
import Derived.Sort.OwnSorted
import Derived.Sort.EncStr
namespace Go.Proofs.Ytioehmngkoffaaa
section
open Go Go.RowKit Go.Shelf
open Go.ChangeMaps (setBlock)
attribute [local go_sem] Oper.semAt_some
attribute [local irreducible] run goO leaveK someK nextK nextT nextOT nextOD loopBody loopRest loopK fillJ tmplOf tmplJ mergeT At AtO drawOk ordOf gateOf callC callO topOp topO idxOf appOf storeOf clearOf sliceOf calleeOf calleeO topQ idxQ newRowOf resL stepOp seek

theorem infoS : (Try.prog.info? 9).map (fun i => (i.zero, i.size, i.bytes)) = some (some (.string ByteArray.empty), 1, 16) := by kernel_rfl
set_option maxRecDepth 100000 in
set_option maxHeartbeats 1000000 in
theorem keysS1_in {V : Type} {encV : V → Value} (F : Fence) (n : Nat) (hf : F.fn 53) (hro : F.round = none) (hn : 1 ≤ n) (l Bm : Nat) (m : Option Nat) (es : List (Ent ByteArray V)) (clock : Nat) (J Jx : List ByteArray → World → Prop)
    (hY : ∀ pre x W, J pre W → pre.length < es.length → YieldAt F (n - 1) Try.prog l #[encS x] W fun e W' => (e = .returned (.bool true) ∧ J (pre ++ [x]) W' ∧ KeepsWalks W W') ∨ (e = .returned (.bool false) ∧ Jx (pre ++ [x]) W'))
    (W : World) (hJ : AbidesFrom W.heap.size J) (hm : W.cell? ⟨Bm, 0, none⟩ = some (.map m)) (hM : MpO encS encV ρ0 [] W m es clock) (h0 : J [] W) :
    CallsIn F n Try.prog 53 #[.func (.yield l) #[] #[], .pointer (some ⟨Bm, 0, none⟩)] W fun e W' => (∃ v, e = .returned v) ∧
      ((∃ ks : List ByteArray, ks.Perm (es.map (·.key)) ∧ J ks W') ∨ (∃ pre : List ByteArray, True ∧ Jx pre W')) := by
  refine callsIn_of_wp Try.func53 rfl hf ?_ hro
  simp only [Try.ntmps53, List.size_toArray, List.length_cons, List.length_nil, Nat.reduceAdd, Nat.reduceSub, Array.replicate_succ, Array.replicate_zero, List.push_toArray, List.append_toArray, List.nil_append, List.cons_append]
  gi_wp2_with (first
    | (gi_at_range; refine wpListIn_rangeE _ rfl _ _ rfl _ _ mi_ty m es clock rfl hM ?_)
    | gi_in)
  go_frame
  gi_loopw [3] (fun _ wr => ∃ dn : List (Ent ByteArray V), MpO encS encV ρ0 [] wr m es clock ∧ ItO ρ0 [] wr W.heap.size m es clock dn ∧ W.heap.size ≤ wr.heap.size ∧ J (dn.map (·.key)) wr)
    (fun _ wr => iterLeft es.length W.heap.size wr)
  case atStart =>
    refine ⟨[], ⟨fun g hg => ⟨(hM.is g hg).1.same (Below.heap_alloc _ _ _ (hM.is g hg).1.size), noW0⟩, hM.nil⟩, ⟨⟨#[], World.alloc_heap_new _ _, rfl⟩, noW0, (fun _ h => by cases h), List.nodup_nil⟩, by simp, hJ _ _ _ none h0 (World.grownBy_alloc _ _ none) (fun r e => by cases e)⟩
  case round =>
    obtain ⟨dn, hMr, hIr, hle, hJr⟩ := hrel
    gi_wp2_with (first
      | (gi_at_next; refine wpListIn_nextE _ rfl _ rfl m es dn clock W.heap.size rfl hMr hIr ?_ ?_)
      | gi_in)
    · intro hall
      gi_wp2
      go_end0
      exact ⟨⟨_, rfl⟩, .inl ⟨_, (hIr.perm_ hMr.fine hall).map _, hJr⟩⟩
    · intro e w2 he hnd ht hI2 hs2 hen
      obtain ⟨k1, ev, eb⟩ := e
      have hJ2 : J (dn.map (·.key)) w2 := hJ _ _ _ _ hJr (grownBy_turnI ht) (fun r e => (by cases e; obtain ⟨_, _, _, _, h1⟩ := ht.was; exact ⟨Nat.le_refl _, _, h1, rfl⟩))
      have hJ3 := hJ2
      have hlt : dn.length + 1 ≤ es.length := by have := hI2.dn_le; rwa [List.length_append] at this
      obtain ⟨fn, tmps, assign, body, hy, hR⟩ := hY _ k1 _ hJ3 (by rw [List.length_map]; omega)
      simp only [encS] at hen hy ⊢
      gi_wp2
      refine hR.mono ?_
      rintro e W3 (⟨rfl, hJ4, hk3⟩ | ⟨rfl, hJx3⟩)
      · gi_wp2
        have hk4 : KeepsWalks w2 W3 := hk3
        have hI3 := hI2.walks hk4
        go_roundw
        case rel => exact ⟨_, (hMr.turnI ht).walks hk4, hI3, by have := hk4.size; omega, by simpa using hJ4⟩
        case measure =>
          rw [hI3.left, hIr.left, List.length_append]
          simp only [List.length_cons, List.length_nil]
          omega
      · gi_wp2
        refine bodyPost_ret (results_none rfl _ _ _) rfl ?_
        exact ⟨⟨_, rfl⟩, .inr ⟨_, trivial, hJx3⟩⟩
/-- maps.Keys at a map whose keys are texts hands back a value that gives the keys, each once -/
theorem keysS_stops {V : Type} {encV : V → Value} (F : Fence) (n : Nat) (hf : F.fn 53) (hro : F.round = none) (hn : 1 ≤ n) (Bm : Nat) (m : Option Nat) (es : List (Ent ByteArray V)) (clock : Nat) (w : World) (hBm : Bm < w.heap.size)
    (hm : w.cell? ⟨Bm, 0, none⟩ = some (.map m)) (hM : MpO encS encV ρ0 [] w m es clock) :
    SeqStopsK F n Try.prog 53 #[.pointer (some ⟨Bm, 0, none⟩)] (fun x => #[encS x]) KeepsWalks (fun ks => ks.Perm (es.map (·.key))) (fun _ => True) es.length w := fun l J Jx W hW hJ _ hY h0 =>
  keysS1_in F n hf hro hn l Bm m es clock J Jx hY W hJ ((hW.cell (p := ⟨Bm, 0, none⟩) hBm).trans hm) (hM.below hW) h0
set_option maxRecDepth 100000 in
set_option maxHeartbeats 2000000 in
theorem appendSeqS_in (F : Fence) (n : Nat) (hf : F.fn 65) (hro : F.round = none) (hn : 2 ≤ n) (g : Nat) (lb : Array Value) (hFg : F.fn g) (eg : ∀ args w, (callFunc g args).run Try.prog w = .ok (.enter g args) w)
    (S Sp : List ByteArray → Prop) (N : Nat) (hN : N ≤ maxLen) (hNb : N * 16 ≤ 140737488355328) (w : World) (hseq : SeqStopsK F (n - 1) Try.prog g lb (fun x => #[encS x]) KeepsWalks S Sp N w) :
    CallsIn F n Try.prog 65 #[.slice none 0 0, .func (.func g) #[] lb] w fun e w' => ∃ (v : Value) (ks : List ByteArray), e = .returned v ∧ S ks ∧ w'.ownsRow w.heap.size 9 1 v ks.length (ks.map encS) ∧ Below w.heap.size w w' := by
  have h1 : 1 ≤ n := by omega
  obtain ⟨i0, hi, hz0, hz1, hz2⟩ := info_parts infoS
  refine callsIn_of_wp_marks Try.func65 rfl hf ?_ hro
  simp only [Try.ntmps65, List.size_toArray, List.length_cons, List.length_nil, Nat.reduceAdd, Nat.reduceSub, Array.replicate_succ, Array.replicate_zero, List.push_toArray, List.append_toArray, List.nil_append, List.cons_append]
  gi_wp2
  have bO := Boxed.new w 53 (.slice none 0 0)
  have hB0 : Below w.heap.size w (w.alloc (.cells #[.slice none 0 0] 53)) := (Below.refl _ w).alloc (Nat.le_refl _) _
  refine wpIn_rangeFunc_ownH hro h1 (gf := g) (lb := lb) rfl hFg eg hseq (fun h k => walksK_t h k) (fun W l o o' h1 h2 h3 h4 => walksK_b (w := w) W l o o' (by simp at h1; omega) h2 h3 h4) hB0 (fun _ => rfl)
    (fun (pre : List ByteArray) W => (∃ v, Boxed W w.heap.size 53 v ∧ W.ownsRow w.heap.size 9 1 v pre.length (pre.map encS) ∧ True) ∧ Below w.heap.size w W)
    (fun _ _ _ => False)
    (OwnFrom.and (Go.Own.from (holdsRow_own w.heap.size w.heap.size 53 9 1 (fun pre : List ByteArray => pre.length) (fun pre => pre.map encS) (fun _ _ => True)) _) (ownFrom_below (Nat.le_refl _) (by simp)))
    (fun _ _ _ _ _ hs _ _ => hs)
    ⟨⟨_, bO, World.ownsRow_nil _ _ _ _, trivial⟩, hB0⟩
    (fun x a' W => a' = { tmps := #[.slice none 0 0, .func (.func g) #[] lb, .pointer (some ⟨w.heap.size, 0, none⟩), undef, .slice none 0 0, encS x, .func (.func g) #[] lb, encS x, undef, undef, undef, undef, undef], defers := [] })
    (fun x a' s A B row hs hg hr => hs) ?assign ?body ?done ?stop
  case assign =>
    rintro l pre x W K ⟨⟨v, hv, hrow, _⟩, hB⟩ hK
    simp only [encS]
    gi_wp2
    exact hK _ _ ((KeepsOthers.refl _).from _) (KeepsWalks.refl _) ⟨⟨v, hv, hrow, trivial⟩, hB⟩ rfl
  case body =>
    rintro l pre x a' W hl hr ⟨⟨v, hv, hrow, _⟩, hB⟩ rfl hlt
    have hc := hv.cell
    simp only [encS]
    gi_wp2_with (gi_at_builtin; refine wpListIn_append_own _ rfl _ _ 53 rfl w.heap.size 9 i0 (.string ByteArray.empty) 1 16 Try.underlying53 hi hz0 hz1 hz2 rfl (by decide) _ _ _ rfl (hrow.alloc _) ⟨W.heap.size, 0, none⟩ 1 1 [.string x] rfl rfl (cell_one_new _ _ _) (by simp [Value.oneCell']) (by omega) (by omega) (by have := hB.size; simp; omega) ?_; intro v' w1 hown' hgrow _; obtain ⟨g', cap', rfl⟩ := ownsRow_succ hown'; obtain ⟨hv1, hv2, hr2, hk2, hb2⟩ := hv.appended (by decide) hrow hB.size (Nat.le_refl _) hown' hgrow; have hc1 := hv1.cell; have hf1 := hv1.frozen)
    exact ⟨hk2.from _, hk2.walks, ⟨_, hv2, by rw [List.length_append, List.map_append]; exact hr2, trivial⟩, hB.trans hb2⟩
  case done =>
    rintro D ks W hD hS ⟨⟨v, hv, hrow, _⟩, hB⟩ hK
    have hc := hv.cell
    gi_wp2
    refine ⟨by simp, .inl ⟨_, _, rfl, run_takeDeferred hK, ?_⟩⟩
    exact ⟨_, results_tmp rfl _ _ _, v, ks, rfl, hS, ownsRow_putObj hrow _ hK rfl, hB.trans (belowK_b (w := w) (Nat.le_refl _) W D _ _ (by simp at hD; omega) hK rfl rfl)⟩
  case stop =>
    rintro D c pre W _ _ h _
    exact h.elim
set_option maxHeartbeats 1000000 in
theorem collectS_in (F : Fence) (n : Nat) (hc : F.fn 51) (hf : F.fn 65) (hro : F.round = none) (hn : 3 ≤ n) (g : Nat) (lb : Array Value) (hFg : F.fn g) (eg : ∀ args w, (callFunc g args).run Try.prog w = .ok (.enter g args) w)
    (S Sp : List ByteArray → Prop) (N : Nat) (hN : N ≤ maxLen) (hNb : N * 16 ≤ 140737488355328) (w : World) (hseq : SeqStopsK F (n - 1 - 1) Try.prog g lb (fun x => #[encS x]) KeepsWalks S Sp N w) :
    CallsIn F n Try.prog 51 #[.func (.func g) #[] lb] w fun e w' => ∃ (v : Value) (ks : List ByteArray), e = .returned v ∧ S ks ∧ w'.ownsRow w.heap.size 9 1 v ks.length (ks.map encS) ∧ Below w.heap.size w w' := by
  have h1 : 1 ≤ n := by omega
  refine callsIn_of_wp Try.func51 rfl hc ?_ hro
  simp only [Try.ntmps51, List.size_toArray, List.length_cons, List.length_nil, Nat.reduceAdd, Nat.reduceSub, Array.replicate_succ, Array.replicate_zero, List.push_toArray, List.append_toArray, List.nil_append, List.cons_append]
  gi_wp2_with (gi_at_call 65; refine (appendSeqS_in F (n - 1) hf hro (by omega) g lb hFg eg S Sp N hN hNb _ hseq).mono ?_; rintro e w' ⟨v, ks, rfl, hS, hrow, hb⟩)
  go_ret
  exact ⟨v, ks, rfl, hS, hrow, hb⟩
/-- slices.Collect(maps.Keys(m)) at the map of loans -/
theorem collectS_any {V : Type} {encV : V → Value} (Bm : Nat) (m : Option Nat) (es : List (Ent ByteArray V)) (clock : Nat) (w : World) (hm : w.cell? ⟨Bm, 0, none⟩ = some (.map m)) (hM : MpO encS encV ρ0 [] w m es clock) (hlen : es.length ≤ 1000000) :
    Calls Try.prog 51 #[.func (.func 53) #[] #[.pointer (some ⟨Bm, 0, none⟩)]] w fun e w' => ∃ (v : Value) (ks : List ByteArray), e = .returned v ∧ ks.Perm (es.map (·.key)) ∧ w'.ownsRow w.heap.size 9 1 v ks.length (ks.map encS) ∧ Below w.heap.size w w' := by
  have hBm : Bm < w.heap.size := World.block_lt_of_cell? _ _ hm
  refine (callsIn_wide (n := 4)).1 ?_
  exact collectS_in _ _ trivial trivial rfl (by omega) _ _ trivial (enters_of Try.func53 (by kernel_rfl) rfl) _ _ es.length (by unfold maxLen; omega) (by omega) w (keysS_stops _ _ trivial rfl (by omega) Bm m es clock w hBm hm hM)
end

section
open Go Go.RowKit Go.Shelf
attribute [local irreducible] run goO leaveK someK nextK nextT nextOT nextOD loopBody loopRest loopK fillJ tmplOf tmplJ mergeT At AtO drawOk ordOf gateOf callC callO topOp topO idxOf appOf storeOf clearOf sliceOf calleeOf calleeO topQ idxQ newRowOf resL stepOp seek
set_option maxRecDepth 100000 in
set_option maxHeartbeats 4000000 in
theorem keysS_any (m : Option Nat) (w : World) : Calls Try.prog 44 #[.map m] w fun e w' => ∃ g, e = .returned (.func (.func 53) #[] #[.pointer (some ⟨g, 0, none⟩)]) ∧ w'.cell? ⟨g, 0, none⟩ = some (.map m) ∧ w.heap.size ≤ g ∧ Below w.heap.size w w' := by
  refine (callsIn_wide (n := 2)).1 ?_
  refine callsIn_of_wp Try.func44 rfl trivial ?_ rfl
  simp only [Try.ntmps44, List.size_toArray, List.length_cons, List.length_nil, Nat.reduceAdd, Nat.reduceSub, Array.replicate_succ, Array.replicate_zero, List.push_toArray, List.append_toArray, List.nil_append, List.cons_append]
  gi_wp2
  go_ret
  exact ⟨w.heap.size, rfl, (cell_one_new w (.map m) _) 0 _ rfl, Nat.le_refl _, (Below.refl _ w).alloc (Nat.le_refl _) _⟩
def lst (a : ByteArray) : List UInt8 := a.data.toList
def unl (l : List UInt8) : ByteArray := ⟨l.toArray⟩
theorem unl_lst (a : ByteArray) : unl (lst a) = a := by
  obtain ⟨d⟩ := a
  simp [unl, lst]
theorem enc_lst (ks : List ByteArray) : (ks.map lst).map Go.Proofs.encStr = ks.map encS := by
  rw [List.map_map]
  refine List.map_congr_left fun a _ => ?_
  show Value.string (unl (lst a)) = Value.string a
  rw [unl_lst]
theorem enc_unl (ls : List (List UInt8)) : ls.map Go.Proofs.encStr = (ls.map unl).map encS := by
  rw [List.map_map]
  rfl
/-- a row of texts in its place, sorted -/
theorem sortS_any (base n cp : Nat) (A : Option Addr) (ks : List ByteArray) (w : World) (h : w.ownsRow base 9 1 (.slice A n cp) n (ks.map encS)) (hl : ks.length = n) (hn : n ≤ 10000000) :
    Calls Try.prog 52 #[.slice A n cp] w fun e w' => e = .returned (.tuple #[]) ∧ (∃ qs : List ByteArray, qs.Perm ks ∧ w'.ownsRow base 9 1 (.slice A n cp) n (qs.map encS)) ∧ Kept (fun x => ∃ a, A = some a ∧ a.block = x) w w' := by
  rcases h.2 with ⟨h0, hn0⟩ | ⟨g, cap, cur, hv, hg, hb, hc, hm, hs, ht⟩
  · injection h0 with h1 h2 h3
    subst h1 h2 h3
    refine (Try.slices_Sort_string_none none 0 w).mono ?_
    rintro e w' ⟨rfl, rfl⟩
    exact ⟨rfl, ⟨ks, List.Perm.refl _, h⟩, Kept.refl _ _⟩
  · injection hv with h1 h2 h3
    subst h1 h3
    have ht2 : cur.toList.take (ks.map lst).length = (ks.map lst).map Go.Proofs.encStr := by rw [Nat.mul_one] at ht; rw [List.length_map, hl, enc_lst]; exact ht
    have hH := holds_of_block hb ht2
    have hgl : g < w.heap.size := by
      rcases Nat.lt_or_ge g w.heap.size with h | h
      · exact h
      · rw [Array.getElem?_eq_none h] at hb; cases hb
    have hlm : ((ks.map lst).mergeSort fun x y => decide (x ≤ y)).length = (ks.map lst).length := List.length_mergeSort ..
    subst hl
    have hll : (ks.map lst).length = ks.length := List.length_map ..
    have hc0 := Try.slices_Sort_string g 0 cp (ks.map lst) w hH hgl (by omega)
    rw [hll] at hc0
    refine hc0.mono ?_
    rintro e w' ⟨rfl, m, os, rfl⟩
    refine ⟨rfl, ⟨((ks.map lst).mergeSort fun x y => decide (x ≤ y)).map unl, ?_, ?_⟩, ?_⟩
    · have hp := (List.mergeSort_perm (ks.map lst) fun x y => decide (x ≤ y)).map unl
      refine hp.trans (.of_eq ?_)
      rw [List.map_map]
      conv => rhs; rw [← List.map_id ks]
      exact List.map_congr_left fun a _ => unl_lst a
    · have := ownsRow_sorted (n := m) (os := os) hlm hg hb (by omega) hm hs
      rw [hll, enc_unl] at this
      exact this
    · have hgr := grownBy_sorted (n := m) (os := os) (w := w) (g := g) ((ks.map lst).mergeSort fun x y => decide (x ≤ y)).toArray
      exact ⟨hgr.os, hgr.tape, hgr.output, hgr.size, fun k hk hne => hgr.block k hk (fun e => hne ⟨_, rfl, by injection e with e; exact e.symm⟩)⟩
set_option maxRecDepth 100000 in
set_option maxHeartbeats 4000000 in
theorem sortedS_any {V : Type} {encV : V → Value} (Bm : Nat) (m : Option Nat) (es : List (Ent ByteArray V)) (clock : Nat) (w : World) (hm : w.cell? ⟨Bm, 0, none⟩ = some (.map m)) (hM : MpO encS encV ρ0 [] w m es clock) (hlen : es.length ≤ 1000000) :
    Calls Try.prog 43 #[.func (.func 53) #[] #[.pointer (some ⟨Bm, 0, none⟩)]] w fun e w' => ∃ (A : Option Addr) (cp : Nat) (ks : List ByteArray), e = .returned (.slice A es.length cp) ∧ ks.Perm (es.map (·.key)) ∧ w'.ownsRow w.heap.size 9 1 (.slice A es.length cp) es.length (ks.map encS) ∧ Below w.heap.size w w' := by
  refine sim_enter Try.func43 ρ0 [.v (.func (.func 53) #[] #[.pointer (some ⟨Bm, 0, none⟩)])] [] (by kernel_rfl) rfl ?_
  have hR := Rel.start [] w ρ0
  refine sim_run 7 [] (hR.cast (by kernel_rfl)) (by kernel_rfl) trivial (fun ρ100 w100 hm100 hR100 => ?_)
  have hM := hM.moved (hm100.castL (by kernel_rfl))
  
  refine sim_call 51 [.v (.func (.func 53) #[] #[.pointer (some ⟨Bm, 0, none⟩)])] (by kernel_rfl) ?_
  have hb0 := hR100.toBelow
  refine (collectS_any Bm m es clock _ ((hb0.cell (World.block_lt_of_cell? _ _ hm)).trans hm) ⟨fun g hg => ⟨(hM.is g hg).1, noW0⟩, hM.nil⟩ hlen).mono ?_
  rintro e w5 ⟨v, ks, rfl, hp, ho, hb5⟩
  have hR5 := hR100.below hb5
  have hl : ks.length = es.length := by rw [hp.length_eq, List.length_map]
  obtain ⟨A, cp, rfl⟩ := own_row ho
  have ho := own_base ho hR100.keeps.size
  refine Back.of (.v (.slice A ks.length cp)) hR5 rfl ?_
  refine sim_run 5 [] (hR5.cast (by kernel_rfl)) (by kernel_rfl) trivial (fun ρ200 w200 hm200 hR200 => ?_)
  
  refine sim_call 52 [.v (.slice A ks.length cp)] (by kernel_rfl) ?_
  have hvo : Own ρ100 [] w5 w.heap.size 9 1 (.slice A ks.length cp) ks.length (ks.map encS) := Own.ro (Rel.cast (rs' := []) hR5 (by kernel_rfl)) ho (by kernel_rfl)
  have hvo := hvo.moved (hm200.castL (by kernel_rfl))
  refine (sortS_any w.heap.size ks.length cp A ks _ hvo.own rfl (by omega)).mono ?_
  rintro e6 w6 ⟨rfl, ⟨qs, hqp, ho6⟩, hk6⟩
  have hR6 := (Rel.cast (rs' := []) hR200 (by kernel_rfl)).kept hk6 (fun n' r hn' _ hs => by simp at hn') (fun x hx => .inr (by
    obtain ⟨a, rfl, rfl⟩ := hx
    have h1 := own_ge (g := a.block) hvo.own rfl
    omega))
  have hv6 : Own ρ200 [] w6 w.heap.size 9 1 (.slice A ks.length cp) ks.length (qs.map encS) := Own.ro hR6 ho6 (by kernel_rfl)
  refine Back.of (.tup []) hR6 rfl ?_
  refine sim_run 6 [] (hR6.cast (by kernel_rfl)) (by kernel_rfl) trivial (fun ρ300 w300 hm300 hR300 => ?_)
  have hv6 := hv6.moved (hm300.castL (by kernel_rfl))
  refine sim_ret (.v (Value.slice A ks.length cp)) hR300 (by kernel_rfl) (by kernel_rfl) ?_
  
  rw [← hl]
  exact ⟨A, cp, qs, rfl, hqp.trans hp, hv6.own, ((by assumption : Rel _ _ _ _ _)).toBelow⟩
end
end Go.Proofs.Ytioehmngkoffaaa
