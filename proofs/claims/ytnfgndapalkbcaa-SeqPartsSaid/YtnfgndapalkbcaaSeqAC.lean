/-
  seq.compare, Before: ranks.
  seq.Of: the rank of some instructions.
  seq.Sort.
-/
import Derived.Test.YtnfgndapalkbcaaCmpI
import Derived.Test.YtnfgndapalkbcaaCmpO
import Derived.Test.YtnfgndapalkbcaaFork
import Derived.Test.YtnfgndapalkbcaaTree
import Derived.Test.YtnfgndapalkbcaaGrAE
import Derived.Test.YtnfgndapalkbcaaInP
import Derived.Test.YtnfgndapalkbcaaSortAH
import Derived.Test.YtnfgndapalkbcaaCmq
namespace Go.Proofs.Ytnfgndapalkbcaa
section
open Go Go.RowKit
structure Rk where
  prio : Int
  day : Int
  id : Int
def Rk.cells (x : Rk) : List Value := [.int .i64 x.prio, .int .i64 x.day, .int .i64 x.id]
def Rk.val (x : Rk) : Value := .agg #[.int .i64 x.prio, .int .i64 x.day, .int .i64 x.id]
def rkC (x y : Rk) : Int := orZ (cmpZ x.prio y.prio) (orZ (cmpZ x.day y.day) (cmpZ x.id y.id))
attribute [local irreducible] run goO leaveK someK nextK nextT nextOT nextOD loopBody loopRest loopK fillJ tmplOf tmplJ mergeT At AtO drawOk ordOf gateOf callC callO topOp topO idxOf appOf storeOf clearOf sliceOf calleeOf calleeO topQ idxQ newRowOf resL stepOp seek
set_option maxRecDepth 100000 in
set_option maxHeartbeats 4000000 in
/-- the first of three ints that is not 0 -/
theorem or3_any (a b c : Int) (A : Option Addr) (w : World) (h : Reads w w.heap.size 1 A 3 (ints [a, b, c])) : Calls Try.prog 63 #[.slice A 3 3] w fun e w' => e = .returned (.int .i64 (orZ a (orZ b c))) ∧ Below w.heap.size w w' := by
  obtain ⟨⟨g, o, sp⟩, rfl, hb, _⟩ := h.2 (by omega)
  obtain ⟨g', o', hA, _, hc'⟩ := h.spot (by omega) (by omega)
  injection hA with hA
  injection hA with e1 e2 e3
  subst e1 e2 e3
  obtain ⟨ρ, _, hn, hR⟩ := (Rel.start [] w ρ0).open_ rfl g o [LI a, LI b, LI c] rfl false hb (fun i v hv => by
    match i, hv with
    | 0, hv => injection hv with hv; rw [← hv]; exact hc' 0 _ rfl
    | 1, hv => injection hv with hv; rw [← hv]; exact hc' 1 _ rfl
    | 2, hv => injection hv with hv; rw [← hv]; exact hc' 2 _ rfl
    | i + 3, hv => simp at hv) (fun h => by cases h) (fun n r hn => by simp at hn)
  have hn0 : ρ 0 = (g, o) := hn
  refine sim_enter Try.func63 ρ [.slc 0 0 3 3] [⟨[LI a, LI b, LI c], false⟩] (by kernel_rfl) (by simp only [denL, LV.den, Nm.at_, hn0, Nat.add_zero]) ?_
  refine sim_run 16 [] (hR.cast (by kernel_rfl)) (by kernel_rfl) trivial (fun ρ900 w900 hm900 hR900 => ?_)
  
  refine sim_unroll 10 (by kernel_rfl) ?_
  by_cases ha : a = 0
  · rw [show orZ a (orZ b c) = orZ b c from if_pos ha]
    by_cases hb0 : b = 0
    · rw [show orZ b c = c from if_pos hb0]
      by_cases hc0 : c = 0
      · refine sim_run 12 [] (hR900.cast (by kernel_rfl)) (by kernel_rfl) trivial (fun ρ100 w100 hm100 hR100 => ?_)
        refine sim_idx 0 0 3 3 0 1 (by kernel_rfl) (by omega) ?_
        refine sim_run 9 [] (hR100.cast (by kernel_rfl)) (by kernel_rfl) trivial (fun ρ101 w101 hm101 hR101 => ?_)
        refine sim_know 14 (a != 0) false (by kernel_rfl) (bne_eq_false_iff_eq.2 ha) ?_
        refine sim_run 19 [] (hR101.cast (by kernel_rfl)) (by kernel_rfl) trivial (fun ρ102 w102 hm102 hR102 => ?_)
        refine sim_idx 0 0 3 3 1 1 (by kernel_rfl) (by omega) ?_
        refine sim_run 9 [] (hR102.cast (by kernel_rfl)) (by kernel_rfl) trivial (fun ρ103 w103 hm103 hR103 => ?_)
        refine sim_know 14 (b != 0) false (by kernel_rfl) (bne_eq_false_iff_eq.2 hb0) ?_
        refine sim_run 19 [] (hR103.cast (by kernel_rfl)) (by kernel_rfl) trivial (fun ρ104 w104 hm104 hR104 => ?_)
        refine sim_idx 0 0 3 3 2 1 (by kernel_rfl) (by omega) ?_
        refine sim_run 9 [] (hR104.cast (by kernel_rfl)) (by kernel_rfl) trivial (fun ρ105 w105 hm105 hR105 => ?_)
        refine sim_know 14 (c != 0) false (by kernel_rfl) (bne_eq_false_iff_eq.2 hc0) ?_
        refine sim_run 20 [] (hR105.cast (by kernel_rfl)) (by kernel_rfl) trivial (fun ρ106 w106 hm106 hR106 => ?_)
        refine sim_ret (LI 0) hR106 (by kernel_rfl) (by kernel_rfl) ?_
        exact ⟨retv_int (by clear hR106 hm106 hR105 hm105 hR104 hm104 hR103 hm103 hR102 hm102 hR101 hm101 hR100 hm100 hR900 hm900 hn0 hR hn; grind []), hR106.toBelow⟩
        
      · refine sim_run 12 [] (hR900.cast (by kernel_rfl)) (by kernel_rfl) trivial (fun ρ200 w200 hm200 hR200 => ?_)
        refine sim_idx 0 0 3 3 0 1 (by kernel_rfl) (by omega) ?_
        refine sim_run 9 [] (hR200.cast (by kernel_rfl)) (by kernel_rfl) trivial (fun ρ201 w201 hm201 hR201 => ?_)
        refine sim_know 14 (a != 0) false (by kernel_rfl) (bne_eq_false_iff_eq.2 ha) ?_
        refine sim_run 19 [] (hR201.cast (by kernel_rfl)) (by kernel_rfl) trivial (fun ρ202 w202 hm202 hR202 => ?_)
        refine sim_idx 0 0 3 3 1 1 (by kernel_rfl) (by omega) ?_
        refine sim_run 9 [] (hR202.cast (by kernel_rfl)) (by kernel_rfl) trivial (fun ρ203 w203 hm203 hR203 => ?_)
        refine sim_know 14 (b != 0) false (by kernel_rfl) (bne_eq_false_iff_eq.2 hb0) ?_
        refine sim_run 19 [] (hR203.cast (by kernel_rfl)) (by kernel_rfl) trivial (fun ρ204 w204 hm204 hR204 => ?_)
        refine sim_idx 0 0 3 3 2 1 (by kernel_rfl) (by omega) ?_
        refine sim_run 9 [] (hR204.cast (by kernel_rfl)) (by kernel_rfl) trivial (fun ρ205 w205 hm205 hR205 => ?_)
        refine sim_know 14 (c != 0) true (by kernel_rfl) (bne_iff_ne.2 hc0) ?_
        refine sim_run 6 [] (hR205.cast (by kernel_rfl)) (by kernel_rfl) trivial (fun ρ206 w206 hm206 hR206 => ?_)
        refine sim_ret (LI c) hR206 (by kernel_rfl) (by kernel_rfl) ?_
        exact ⟨rfl, hR206.toBelow⟩
        
    · rw [show orZ b c = b from if_neg hb0]
      refine sim_run 12 [] (hR900.cast (by kernel_rfl)) (by kernel_rfl) trivial (fun ρ300 w300 hm300 hR300 => ?_)
      refine sim_idx 0 0 3 3 0 1 (by kernel_rfl) (by omega) ?_
      refine sim_run 9 [] (hR300.cast (by kernel_rfl)) (by kernel_rfl) trivial (fun ρ301 w301 hm301 hR301 => ?_)
      refine sim_know 14 (a != 0) false (by kernel_rfl) (bne_eq_false_iff_eq.2 ha) ?_
      refine sim_run 19 [] (hR301.cast (by kernel_rfl)) (by kernel_rfl) trivial (fun ρ302 w302 hm302 hR302 => ?_)
      refine sim_idx 0 0 3 3 1 1 (by kernel_rfl) (by omega) ?_
      refine sim_run 9 [] (hR302.cast (by kernel_rfl)) (by kernel_rfl) trivial (fun ρ303 w303 hm303 hR303 => ?_)
      refine sim_know 14 (b != 0) true (by kernel_rfl) (bne_iff_ne.2 hb0) ?_
      refine sim_run 6 [] (hR303.cast (by kernel_rfl)) (by kernel_rfl) trivial (fun ρ304 w304 hm304 hR304 => ?_)
      refine sim_ret (LI b) hR304 (by kernel_rfl) (by kernel_rfl) ?_
      exact ⟨rfl, hR304.toBelow⟩
      
  · rw [show orZ a (orZ b c) = a from if_neg ha]
    refine sim_run 12 [] (hR900.cast (by kernel_rfl)) (by kernel_rfl) trivial (fun ρ400 w400 hm400 hR400 => ?_)
    refine sim_idx 0 0 3 3 0 1 (by kernel_rfl) (by omega) ?_
    refine sim_run 9 [] (hR400.cast (by kernel_rfl)) (by kernel_rfl) trivial (fun ρ401 w401 hm401 hR401 => ?_)
    refine sim_know 14 (a != 0) true (by kernel_rfl) (bne_iff_ne.2 ha) ?_
    refine sim_run 6 [] (hR401.cast (by kernel_rfl)) (by kernel_rfl) trivial (fun ρ402 w402 hm402 hR402 => ?_)
    refine sim_ret (LI a) hR402 (by kernel_rfl) (by kernel_rfl) ?_
    exact ⟨rfl, hR402.toBelow⟩
    
set_option maxRecDepth 100000 in
set_option maxHeartbeats 4000000 in
theorem rkCmp_any (x y : Rk) (w : World) : Calls Try.prog 44 #[x.val, y.val] w fun e w' => e = .returned (.int .i64 (rkC x y)) ∧ Below w.heap.size w w' := by
  refine sim_enter Try.func44 ρ0 [.agg [LI x.prio, LI x.day, LI x.id], .agg [LI y.prio, LI y.day, LI y.id]] [] (by kernel_rfl) rfl ?_
  have hR := Rel.start [] w ρ0
  refine sim_run 7 [] (hR.cast (by kernel_rfl)) (by kernel_rfl) trivial (fun ρ2100 w2100 hm2100 hR2100 => ?_)
  refine sim_draw [] (by kernel_rfl) (by kernel_rfl) hR2100 (fun hR2101 => ?_)
  refine sim_ordN 12 [] hR2101 (by kernel_rfl) trivial (fun ρ2102 w2102 hm2102 hR2102 => ?_)
  refine sim_ord_call (T := []) (w0 := w) 64 [LI x.prio, LI y.prio] (by kernel_rfl) ?_
  refine Calls.mono (compare_any _ _ _) ?_
  rintro e2103 w2103 ⟨rfl, hb2103⟩
  have hR2103 := hR2102.call hb2103 (LI (cmpZ x.prio y.prio))
  refine BackO.of (LI (cmpZ x.prio y.prio)) hR2103 rfl ?_
  refine sim_ord_call (T := []) (w0 := w) 64 [LI x.day, LI y.day] (by kernel_rfl) ?_
  refine Calls.mono (compare_any _ _ _) ?_
  rintro e2104 w2104 ⟨rfl, hb2104⟩
  have hR2104 := hR2103.call hb2104 (LI (cmpZ x.day y.day))
  refine BackO.of (LI (cmpZ x.day y.day)) hR2104 rfl ?_
  refine sim_ord_call (T := []) (w0 := w) 64 [LI x.id, LI y.id] (by kernel_rfl) ?_
  refine Calls.mono (compare_any _ _ _) ?_
  rintro e2105 w2105 ⟨rfl, hb2105⟩
  have hR2105 := hR2104.call hb2105 (LI (cmpZ x.id y.id))
  refine BackO.of (LI (cmpZ x.id y.id)) hR2105 rfl ?_
  refine sim_ordN 1 [] hR2105 (by kernel_rfl) trivial (fun ρ2106 w2106 hm2106 hR2106 => ?_)
  refine sim_ord_call (T := []) (w0 := w) 63 [.slc 2 0 3 3] (by kernel_rfl) ?_
  refine Calls.mono (or3_any _ _ _ _ _ (Rel.reads (RelO.rel (by assumption)) (n := 2) (size := 1) (m := 3) (vs := ints [cmpZ x.prio y.prio, cmpZ x.day y.day, cmpZ x.id y.id]) (b := true) (by kernel_rfl) rfl)) ?_
  rintro e2107 w2107 ⟨rfl, hb2107⟩
  have hR2107 := hR2106.call hb2107 (LI (orZ (cmpZ x.prio y.prio) (orZ (cmpZ x.day y.day) (cmpZ x.id y.id))))
  refine BackO.of (LI (orZ (cmpZ x.prio y.prio) (orZ (cmpZ x.day y.day) (cmpZ x.id y.id)))) hR2107 rfl ?_
  refine sim_ordN 1 [] hR2107 (by kernel_rfl) trivial (fun ρ2108 w2108 hm2108 hR2108 => ?_)
  refine sim_ord_endR hR2108 (by kernel_rfl) (fun hR2109 => ?_)
  refine sim_ret (LI (orZ (cmpZ x.prio y.prio) (orZ (cmpZ x.day y.day) (cmpZ x.id y.id)))) (hR2109.cast (by kernel_rfl)) (by kernel_rfl) (by kernel_rfl) ?_
  exact ⟨rfl, hR2109.toBelow⟩
  
set_option maxRecDepth 100000 in
set_option maxHeartbeats 4000000 in
theorem rkBefore_any (x y : Rk) (w : World) : Calls Try.prog 23 #[x.val, y.val] w fun e w' => e = .returned (.bool (decide (rkC x y < 0))) ∧ Below w.heap.size w w' := by
  refine sim_enter Try.func23 ρ0 [.agg [LI x.prio, LI x.day, LI x.id], .agg [LI y.prio, LI y.day, LI y.id]] [] (by kernel_rfl) rfl ?_
  have hR := Rel.start [] w ρ0
  refine sim_run 10 [] (hR.cast (by kernel_rfl)) (by kernel_rfl) trivial (fun ρ3100 w3100 hm3100 hR3100 => ?_)
  refine sim_call 44 [.agg [LI x.prio, LI x.day, LI x.id], .agg [LI y.prio, LI y.day, LI y.id]] (by kernel_rfl) ?_
  refine Calls.mono (rkCmp_any (x) (y) _) ?_
  rintro e3101 w3101 ⟨rfl, hb3101⟩
  have hR3101 := hR3100.below hb3101
  refine Back.of (LI (rkC x y)) hR3101 rfl ?_
  refine sim_run 3 [] (hR3101.cast (by kernel_rfl)) (by kernel_rfl) trivial (fun ρ3102 w3102 hm3102 hR3102 => ?_)
  refine sim_ret (LB (decide (rkC x y < 0))) hR3102 (by kernel_rfl) (by kernel_rfl) ?_
  exact ⟨rfl, hR3102.toBelow⟩
  
end

section
open Go Go.RowKit
def rkOf (x : In) : Rk := ⟨x.prio, x.term.day, x.id⟩
def rkMin (r : Rk) (x : In) : Rk := ⟨if x.prio < r.prio then x.prio else r.prio, if x.term.day < r.day then x.term.day else r.day, if x.id < r.id then x.id else r.id⟩
def ofM (x : In) (l : List In) : Rk := l.foldl rkMin (rkOf x)
theorem ofM_snoc (x : In) (l : List In) (y : In) : ofM x (l ++ [y]) = rkMin (ofM x l) y := by unfold ofM; rw [List.foldl_append]; rfl
theorem reads_tail {w : World} {B g o n cp : Nat} {x : In} {l : List In} (h : Reads w B 21 (some ⟨g, o, none⟩) n (insts (x :: l))) (hcp : n ≤ cp) (hn : 0 < n) : Reads w B 21 (if cp = 1 then some ⟨g, o, none⟩ else (some (⟨g, o, none⟩ : Addr)).map (·.add (1 * 21))) (n - 1) (insts l) := by
  have hl := h.1
  have he : insts (x :: l) = x.cells ++ insts l := rfl
  rw [he, List.length_append, In.cells_length] at hl
  refine ⟨by omega, fun h0 => ?_⟩
  obtain ⟨g', o', hA, hb, hc⟩ := h.spot hn (by omega)
  injection hA with hA
  injection hA with e1 e2 _
  subst e1 e2
  rw [if_neg (by omega)]
  refine ⟨_, rfl, hb, fun j v hj => ?_⟩
  have := hc (21 + j) v (by rw [he, List.getElem?_append_right (by rw [In.cells_length]; omega), In.cells_length, Nat.add_sub_cancel_left]; exact hj)
  rw [← this]
  show w.cell? _ = w.cell? _
  congr 1
  simp only [Addr.add]
  split <;> simp_all <;> omega
attribute [local irreducible] run goO leaveK someK nextK nextT nextOT nextOD loopBody loopRest loopK fillJ tmplOf tmplJ mergeT At AtO drawOk ordOf gateOf callC callO topOp topO idxOf appOf storeOf clearOf sliceOf calleeOf calleeO topQ idxQ newRowOf resL stepOp seek
set_option maxRecDepth 100000 in
set_option maxHeartbeats 4000000 in
theorem of_any (A : Option Addr) (n cp B : Nat) (x : In) (l : List In) (w : World) (h : Reads w B 21 A n (insts (x :: l))) (hB : B ≤ w.heap.size) (hcp : n ≤ cp) (hn : n ≤ 1000000) : Calls Try.prog 25 #[.slice A n cp] w fun e w' => e = .returned (ofM x l).val ∧ Below w.heap.size w w' := by
  have hl : (x :: l).length = n := Reads.insts_len h
  have hpos : 0 < n := by rw [← hl]; simp
  refine sim_enter Try.func25 ρ0 [.v (.slice A n cp)] [] (by kernel_rfl) rfl ?_
  have hR := Rel.start [] w ρ0
  refine sim_see x.cells 0 0 (by kernel_rfl) (xss := (x :: l).map In.cells) rfl (by rw [← List.flatMap_def]; exact h) (by intro y hy; obtain ⟨o, _, rfl⟩ := List.mem_map.1 hy; rfl) (by omega) hpos hB (by simp) hR (by kernel_rfl) (fun ga oa ρE eA hgT hgl hmE eE hRE => ?_)
  subst eA
  have hag := hRE.ag_ 1 (by kernel_rfl)
  refine sim_run 11 [] (hRE.cast (by kernel_rfl)) (by kernel_rfl) trivial (fun ρ100 w100 hm100 hR100 => ?_)
  have hag := hag.moved (hm100.castL (by kernel_rfl))
  refine sim_know 8 ((↑n : Int) == 0) false (by kernel_rfl) (decide_eq_false (by omega)) ?_
  refine sim_run 3 [] (hR100.cast (by kernel_rfl)) (by kernel_rfl) trivial (fun ρ101 w101 hm101 hR101 => ?_)
  have hag := hag.moved (hm101.castL (by kernel_rfl))
  refine sim_drawT (Tr.mk [(0, false), (1, false), (2, false), (3, false), (4, false), (5, false), (6, false), (7, false), (8, false), (9, false), (10, false), (11, false), (12, false), (13, false), (14, true), (15, true)] Ks.nil) (some 15) (by kernel_rfl) (by kernel_rfl) hR101 (fun hR102 => ?_)
  refine sim_ordN 1 [] hR102 (by kernel_rfl) trivial (fun ρ103 w103 hm103 hR103 => ?_)
  have hag := hag.moved (hm103.castL (by kernel_rfl))
  refine sim_ord_index (.v (.slice (some ⟨ga, oa, none⟩) n cp)) n 21 0 0 0 (by kernel_rfl) (by omega) (by omega) rfl hR103 (by simp only [Nm.at_, hag.at_ 0 (by omega), eE, Nat.add_zero]; rfl) (fun hR104 => ?_)
  refine sim_ordN 3 [] hR104 (by kernel_rfl) trivial (fun ρ105 w105 hm105 hR105 => ?_)
  have hag := hag.moved (hm105.castL (by kernel_rfl))
  refine sim_ord_index (.v (.slice (some ⟨ga, oa, none⟩) n cp)) n 21 0 0 0 (by kernel_rfl) (by omega) (by omega) rfl hR105 (by simp only [Nm.at_, hag.at_ 0 (by omega), eE, Nat.add_zero]; rfl) (fun hR106 => ?_)
  refine sim_ordN 4 [] hR106 (by kernel_rfl) trivial (fun ρ107 w107 hm107 hR107 => ?_)
  have hag := hag.moved (hm107.castL (by kernel_rfl))
  refine sim_ord_index (.v (.slice (some ⟨ga, oa, none⟩) n cp)) n 21 0 0 0 (by kernel_rfl) (by omega) (by omega) rfl hR107 (by simp only [Nm.at_, hag.at_ 0 (by omega), eE, Nat.add_zero]; rfl) (fun hR108 => ?_)
  refine sim_ordN 5 [] hR108 (by kernel_rfl) trivial (fun ρ109 w109 hm109 hR109 => ?_)
  have hag := hag.moved (hm109.castL (by kernel_rfl))
  refine sim_fork0 (by kernel_rfl) (by kernel_rfl) hR109 (fun hR110 => ?_)
  refine sim_run 4 [] (hR110.cast (by kernel_rfl)) (by kernel_rfl) trivial (fun ρ111 w111 hm111 hR111 => ?_)
  have hag := hag.moved (hm111.castL (by kernel_rfl))
  
  obtain ⟨it, hi1, _, hi3, _⟩ := info_parts inst_info
  refine sim_slice (x := .v (.slice (some ⟨ga, oa, none⟩) n cp)) (lo := [LI 1]) (hi := []) (A := some ⟨ga, oa, none⟩) (n := n) (cp := cp) (by kernel_rfl) Try.underlying48 hi1 rfl 1 n (by kernel_rfl) (by kernel_rfl) (by omega) hcp ?_
  rw [hi3]
  have hT := reads_tail h hcp hpos
  generalize (if cp = 1 then (some ⟨ga, oa, none⟩ : Option Addr) else (some (⟨ga, oa, none⟩ : Addr)).map (·.add (1 * 21))) = A2 at hT ⊢
  refine sim_run 4 [] (hR111.cast (by kernel_rfl)) (by kernel_rfl) trivial (fun ρ200 w200 hm200 hR200 => ?_)
  have hag := hag.moved (hm200.castL (by kernel_rfl))
  
  have hll : l.length = n - 1 := by rw [← hl]; simp
  refine sim_loop (ι := Nat × Rk) (T := []) (w0 := w) (0, rkOf x) [2, 3, 25, 26] (fun s => [(27, LI s.1)]) (fun s => [⟨x.cells.map .v, false⟩, ⟨[LI 0, LI 0, LI 0], true⟩, ⟨[LI s.2.prio, LI s.2.day, LI s.2.id], true⟩]) (fun s _ => s.1 ≤ n - 1 ∧ s.2 = ofM x (l.take s.1)) (fun s => n - 1 - s.1) (by kernel_rfl) (by kernel_rfl) ((by assumption : Rel _ _ _ _ _).cast (by kernel_rfl)) ⟨Nat.zero_le _, rfl⟩ ?_
  iterate 8 (try clear hag)
  rintro ⟨i, r⟩ d2 w2 hR2 ⟨hi, hr⟩
  dsimp only at hi hr
  have hag := hR2.ag_ 3 (by kernel_rfl)
  by_cases hlt : i < n - 1
  · obtain ⟨y, hy⟩ : ∃ y, l[i]? = some y := ⟨_, List.getElem?_eq_getElem (by omega)⟩
    refine sim_see y.cells i 3 (by kernel_rfl) (xss := l.map In.cells) (by rw [List.getElem?_map, hy]; rfl) (by rw [← List.flatMap_def]; exact hT) (by intro z hz; obtain ⟨o, _, rfl⟩ := List.mem_map.1 hz; rfl) (by omega) hlt hB (by simp) hR2 (by kernel_rfl) (fun g2 o2 ρF eA hgT2 hgl2 hmF eF hRF => ?_)
    subst eA
    have hag := hag.moved hmF
    have hag4 := hRF.ag_ 4 (by kernel_rfl)
    refine sim_run 5 [] (hRF.cast (by kernel_rfl)) (by kernel_rfl) trivial (fun ρ300 w300 hm300 hR300 => ?_)
    have hag := hag.moved (hm300.castL (by kernel_rfl))
    have hag4 := hag4.moved (hm300.castL (by kernel_rfl))
    refine sim_know 28 (decide ((↑(i, r).fst : Int) < (↑(n - 1) : Int))) true (by kernel_rfl) (decide_eq_true (by omega)) ?_
    refine sim_run 6 [] (hR300.cast (by kernel_rfl)) (by kernel_rfl) trivial (fun ρ301 w301 hm301 hR301 => ?_)
    have hag := hag.moved (hm301.castL (by kernel_rfl))
    have hag4 := hag4.moved (hm301.castL (by kernel_rfl))
    refine sim_place (.v (.slice (some ⟨g2, o2, none⟩) (n - 1) (cp - 1))) (n - 1) 21 i 3 0 (by kernel_rfl) (by omega) (by omega) rfl (by simp only [Nm.at_, hag4.at_ 3 (by omega), eF, Nat.add_zero, Int.toNat_natCast]) ?_
    refine sim_run 29 [⟨8, 0, LI (IntKind.i64.wrap ((↑(i, r).fst : Int) + 1)), LI ((↑(i, r).fst : Int) + 1)⟩] (hR301.cast (by kernel_rfl)) (by kernel_rfl) ⟨eqi (IntWalk.i64_in _ (by omega)), trivial⟩ (fun ρ303 w303 hm303 hR303 => ?_)
    have hag := hag.moved (hm303.castL (by kernel_rfl))
    have hag4 := hag4.moved (hm303.castL (by kernel_rfl))
    
    exact sim_again (i + 1, rkMin r y) (by kernel_rfl) (by show n - 1 - (i + 1) < n - 1 - i; omega) (by kernel_rfl) (by kernel_rfl) (by kernel_rfl) hag.ag (Rel.cast (by assumption) (by kernel_rfl)) (by kernel_rfl) (by kernel_rfl) ⟨hlt, by dsimp only; rw [List.take_add_one, hy, hr]; exact (ofM_snoc x _ y).symm⟩
  · rw [List.take_of_length_le (by omega)] at hr
    rw [← hr]
    refine sim_run 5 [] (hR2.cast (by kernel_rfl)) (by kernel_rfl) trivial (fun ρ400 w400 hm400 hR400 => ?_)
    have hag := hag.moved (hm400.castL (by kernel_rfl))
    refine sim_know 28 (decide ((↑(i, r).fst : Int) < (↑(n - 1) : Int))) false (by kernel_rfl) (decide_eq_false (by omega)) ?_
    refine sim_run 1 [] (hR400.cast (by kernel_rfl)) (by kernel_rfl) trivial (fun ρ401 w401 hm401 hR401 => ?_)
    have hag := hag.moved (hm401.castL (by kernel_rfl))
    refine sim_leave (by kernel_rfl) ?_
    refine sim_run 5 [] (hR401.cast (by kernel_rfl)) (by kernel_rfl) trivial (fun ρ402 w402 hm402 hR402 => ?_)
    have hag := hag.moved (hm402.castL (by kernel_rfl))
    refine sim_ret (.agg [LI ((i, r).snd.prio), LI ((i, r).snd.day), LI ((i, r).snd.id)]) hR402 (by kernel_rfl) (by kernel_rfl) ?_
    exact ⟨rfl, hR402.toBelow⟩
    
end

section
open Go Go.RowKit
def insC (x y : In) : Int := rkC (rkOf x) (rkOf y)
theorem of_one (A : Option Addr) (x : In) (w : World) (h : Reads w w.heap.size 21 A 1 (insts [x])) : Calls Try.prog 25 #[.slice A 1 1] w fun e w' => e = .returned (rkOf x).val ∧ Below w.heap.size w w' :=
  of_any A 1 1 w.heap.size x [] w h (Nat.le_refl _) (Nat.le_refl _) (by omega)
attribute [local irreducible] run goO leaveK someK nextK nextT nextOT nextOD loopBody loopRest loopK fillJ tmplOf tmplJ mergeT At AtO drawOk ordOf gateOf callC callO topOp topO idxOf appOf storeOf clearOf sliceOf calleeOf calleeO topQ idxQ newRowOf resL stepOp seek
set_option maxRecDepth 100000 in
set_option maxHeartbeats 4000000 in
theorem sort1_any (x y : In) (w : World) : Calls Try.prog 47 #[x.val, y.val] w fun e w' => e = .returned (.int .i64 (insC x y)) ∧ Below w.heap.size w w' := by
  refine sim_enter Try.func47 ρ0 [.v x.val, .v y.val] [] (by kernel_rfl) rfl ?_
  have hR := Rel.start [] w ρ0
  refine sim_run 7 [] (hR.cast (by kernel_rfl)) (by kernel_rfl) trivial (fun ρ100 w100 hm100 hR100 => ?_)
  refine sim_drawT (Tr.mk [(0, false), (3, false)] (Ks.cons 1 (Tr.mk [] (Ks.cons 2 (Tr.mk [(4, true), (5, true), (6, true), (7, false)] Ks.nil) (Ks.cons 4 (Tr.mk [(2, true), (5, true), (6, true), (7, false)] Ks.nil) Ks.nil))) (Ks.cons 4 (Tr.mk [(1, true), (2, true), (5, true), (6, true), (7, false)] Ks.nil) Ks.nil))) (some 6) (by kernel_rfl) (by kernel_rfl) hR100 (fun hR101 => ?_)
  refine sim_ordN 2 [] hR101 (by kernel_rfl) trivial (fun ρ102 w102 hm102 hR102 => ?_)
  refine sim_fork2 (by kernel_rfl) (by kernel_rfl) (by kernel_rfl) (by kernel_rfl) hR102 (fun hR103 => ?_) (fun hR103 => ?_)
  refine sim_ordN 1 [] hR103 (by kernel_rfl) trivial (fun ρ104 w104 hm104 hR104 => ?_)
  refine sim_fork2 (by kernel_rfl) (by kernel_rfl) (by kernel_rfl) (by kernel_rfl) hR104 (fun hR105 => ?_) (fun hR105 => ?_)
  refine sim_ord_call (T := []) (w0 := w) 25 [.slc 2 0 1 1] (by kernel_rfl) ?_
  refine Calls.mono (of_one _ _ _ (Rel.reads (RelO.rel hR105) (n := 2) (size := 21) (m := 1) (vs := insts [x]) (b := true) (by kernel_rfl) rfl)) ?_
  rintro e106 w106 ⟨rfl, hb106⟩
  have hR106 := hR105.call hb106 (.agg ((rkOf x).cells.map .v))
  refine BackO.of (.agg ((rkOf x).cells.map .v)) hR106 rfl ?_
  refine sim_ordN 1 [] hR106 (by kernel_rfl) trivial (fun ρ107 w107 hm107 hR107 => ?_)
  refine sim_ord_call (T := []) (w0 := w) 25 [.slc 3 0 1 1] (by kernel_rfl) ?_
  refine Calls.mono (of_one _ _ _ (Rel.reads (RelO.rel hR107) (n := 3) (size := 21) (m := 1) (vs := insts [y]) (b := true) (by kernel_rfl) rfl)) ?_
  rintro e108 w108 ⟨rfl, hb108⟩
  have hR108 := hR107.call hb108 (.agg ((rkOf y).cells.map .v))
  refine BackO.of (.agg ((rkOf y).cells.map .v)) hR108 rfl ?_
  refine sim_ord_call (T := []) (w0 := w) 44 [.agg [LI ((rkOf x).prio), LI ((rkOf x).day), LI ((rkOf x).id)], .agg [LI ((rkOf y).prio), LI ((rkOf y).day), LI ((rkOf y).id)]] (by kernel_rfl) ?_
  refine Calls.mono (rkCmp_any _ _ _) ?_
  rintro e109 w109 ⟨rfl, hb109⟩
  have hR109 := hR108.call hb109 (LI (rkC (rkOf x) (rkOf y)))
  refine BackO.of (LI (rkC (rkOf x) (rkOf y))) hR109 rfl ?_
  refine sim_ordN 1 [] hR109 (by kernel_rfl) trivial (fun ρ110 w110 hm110 hR110 => ?_)
  refine sim_fork0 (by kernel_rfl) (by kernel_rfl) hR110 (fun hR111 => ?_)
  refine sim_ret (LI (rkC (rkOf x) (rkOf y))) (hR111.cast (by kernel_rfl)) (by kernel_rfl) (by kernel_rfl) ?_
  exact ⟨rfl, hR111.toBelow⟩
  refine sim_ordN 1 [] hR105 (by kernel_rfl) trivial (fun ρ112 w112 hm112 hR112 => ?_)
  refine sim_ord_call (T := []) (w0 := w) 25 [.slc 2 0 1 1] (by kernel_rfl) ?_
  refine Calls.mono (of_one _ _ _ (Rel.reads (RelO.rel hR112) (n := 2) (size := 21) (m := 1) (vs := insts [x]) (b := true) (by kernel_rfl) rfl)) ?_
  rintro e113 w113 ⟨rfl, hb113⟩
  have hR113 := hR112.call hb113 (.agg ((rkOf x).cells.map .v))
  refine BackO.of (.agg ((rkOf x).cells.map .v)) hR113 rfl ?_
  refine sim_ord_call (T := []) (w0 := w) 25 [.slc 3 0 1 1] (by kernel_rfl) ?_
  refine Calls.mono (of_one _ _ _ (Rel.reads (RelO.rel hR113) (n := 3) (size := 21) (m := 1) (vs := insts [y]) (b := true) (by kernel_rfl) rfl)) ?_
  rintro e114 w114 ⟨rfl, hb114⟩
  have hR114 := hR113.call hb114 (.agg ((rkOf y).cells.map .v))
  refine BackO.of (.agg ((rkOf y).cells.map .v)) hR114 rfl ?_
  refine sim_ord_call (T := []) (w0 := w) 44 [.agg [LI ((rkOf x).prio), LI ((rkOf x).day), LI ((rkOf x).id)], .agg [LI ((rkOf y).prio), LI ((rkOf y).day), LI ((rkOf y).id)]] (by kernel_rfl) ?_
  refine Calls.mono (rkCmp_any _ _ _) ?_
  rintro e115 w115 ⟨rfl, hb115⟩
  have hR115 := hR114.call hb115 (LI (rkC (rkOf x) (rkOf y)))
  refine BackO.of (LI (rkC (rkOf x) (rkOf y))) hR115 rfl ?_
  refine sim_ordN 1 [] hR115 (by kernel_rfl) trivial (fun ρ116 w116 hm116 hR116 => ?_)
  refine sim_fork0 (by kernel_rfl) (by kernel_rfl) hR116 (fun hR117 => ?_)
  refine sim_ret (LI (rkC (rkOf x) (rkOf y))) (hR117.cast (by kernel_rfl)) (by kernel_rfl) (by kernel_rfl) ?_
  exact ⟨rfl, hR117.toBelow⟩
  refine sim_ordN 2 [] hR103 (by kernel_rfl) trivial (fun ρ118 w118 hm118 hR118 => ?_)
  refine sim_ord_call (T := []) (w0 := w) 25 [.slc 3 0 1 1] (by kernel_rfl) ?_
  refine Calls.mono (of_one _ _ _ (Rel.reads (RelO.rel hR118) (n := 3) (size := 21) (m := 1) (vs := insts [x]) (b := true) (by kernel_rfl) rfl)) ?_
  rintro e119 w119 ⟨rfl, hb119⟩
  have hR119 := hR118.call hb119 (.agg ((rkOf x).cells.map .v))
  refine BackO.of (.agg ((rkOf x).cells.map .v)) hR119 rfl ?_
  refine sim_ord_call (T := []) (w0 := w) 25 [.slc 2 0 1 1] (by kernel_rfl) ?_
  refine Calls.mono (of_one _ _ _ (Rel.reads (RelO.rel hR119) (n := 2) (size := 21) (m := 1) (vs := insts [y]) (b := true) (by kernel_rfl) rfl)) ?_
  rintro e120 w120 ⟨rfl, hb120⟩
  have hR120 := hR119.call hb120 (.agg ((rkOf y).cells.map .v))
  refine BackO.of (.agg ((rkOf y).cells.map .v)) hR120 rfl ?_
  refine sim_ord_call (T := []) (w0 := w) 44 [.agg [LI ((rkOf x).prio), LI ((rkOf x).day), LI ((rkOf x).id)], .agg [LI ((rkOf y).prio), LI ((rkOf y).day), LI ((rkOf y).id)]] (by kernel_rfl) ?_
  refine Calls.mono (rkCmp_any _ _ _) ?_
  rintro e121 w121 ⟨rfl, hb121⟩
  have hR121 := hR120.call hb121 (LI (rkC (rkOf x) (rkOf y)))
  refine BackO.of (LI (rkC (rkOf x) (rkOf y))) hR121 rfl ?_
  refine sim_ordN 1 [] hR121 (by kernel_rfl) trivial (fun ρ122 w122 hm122 hR122 => ?_)
  refine sim_fork0 (by kernel_rfl) (by kernel_rfl) hR122 (fun hR123 => ?_)
  refine sim_ret (LI (rkC (rkOf x) (rkOf y))) (hR123.cast (by kernel_rfl)) (by kernel_rfl) (by kernel_rfl) ?_
  exact ⟨rfl, hR123.toBelow⟩
  
  done
theorem sort1_enters : Enters Try.prog 47 := ⟨_, Try.func47, by kernel_rfl, by kernel_rfl⟩
theorem cmRk : Cm rkC := ((cmZ.map Rk.prio).or_ ((cmZ.map Rk.day).or_ (cmZ.map Rk.id)))
theorem cmIn : Cm insC := cmRk.map rkOf
def sortS (xs : List In) : List In := ssort (ltC insC) xs
set_option maxRecDepth 100000 in
set_option maxHeartbeats 4000000 in
theorem seqSort_any (A : Option Addr) (n cp B : Nat) (xs : List In) (w : World) (h : Reads w B 21 A n (insts xs)) (hB : B ≤ w.heap.size) (hn : n ≤ 100000) (hA : A = none → n = 0 ∧ cp = 0) (hok : ∀ x ∈ xs, x.ok) : Calls Try.prog 24 #[.slice A n cp] w (InstsN w (sortS xs)) := by
  refine sim_enter Try.func24 ρ0 [.v (.slice A n cp)] [] (by kernel_rfl) rfl ?_
  have hR := Rel.start [] w ρ0
  have hl := h.insts_len
  refine sim_run 7 [] (hR.cast (by kernel_rfl)) (by kernel_rfl) trivial (fun ρ200 w200 hm200 hR200 => ?_)
  
  have hb4 : Below w.heap.size w w200 := hR200.toBelow
  have hs4 := hb4.size
  have hold := hR200.old 0 (by kernel_rfl)
  refine sim_call 45 [.v (.slice A n cp)] (by kernel_rfl) ?_
  refine (clone_any A n cp B xs _ (h.belowN hb4 hB) (by omega) hn hA).mono ?_
  rintro e w5 ⟨A', cap, rfl, hown, hb5⟩
  have hR5 := hR200.below hb5
  have hold := hold.below hb5
  have hown := Own.of_old hown hold (by kernel_rfl) (Nat.le_refl _)
  refine Back.of (.v (.slice A' xs.length cap)) hR5 rfl ?_
  refine sim_run 5 [] (hR5.cast (by kernel_rfl)) (by kernel_rfl) trivial (fun ρ600 w600 hm600 hR600 => ?_)
  have hold := hold.moved (hm600.castL (by kernel_rfl))
  have hown := hown.moved (hm600.castL (by kernel_rfl))
  
  refine sim_call 46 [.v (.slice A' xs.length cap), .v (.func (.func 47) #[] #[])] (by kernel_rfl) ?_
  refine (sortStable_any 47 sort1_enters #[] insC (fun a b w1 _ _ => sort1_any a b w1) cmIn.weak A' xs.length cap w200.heap.size xs _ hown.own hok (by omega)).mono ?_
  rintro e w7 ⟨rfl, hown7, hk7⟩
  have hR7 := hR600.keptOwn hown.own hold (by kernel_rfl) (Nat.le_refl _) hs4 hk7
  have hold := hold.kept hk7
  have hown := Own.of_old hown7 hold (by kernel_rfl) (Nat.le_refl _)
  refine Back.of (.tup []) hR7 rfl ?_
  refine sim_run 6 [] (hR7.cast (by kernel_rfl)) (by kernel_rfl) trivial (fun ρ800 w800 hm800 hR800 => ?_)
  have hold := hold.moved (hm800.castL (by kernel_rfl))
  have hown := hown.moved (hm800.castL (by kernel_rfl))
  refine sim_ret (.v (Value.slice A' xs.length cap)) hR800 (by kernel_rfl) (by kernel_rfl) ?_
  
  have h9 := hown.own
  have hlen : (sortS xs).length = xs.length := ssort_len _
  rw [ssort_len, ← hlen] at h9
  have h10 := instsN_of h9 hs4 (by assumption : Rel _ _ _ _ _).toBelow
  rw [hlen] at h10
  exact h10
end
end Go.Proofs.Ytnfgndapalkbcaa
