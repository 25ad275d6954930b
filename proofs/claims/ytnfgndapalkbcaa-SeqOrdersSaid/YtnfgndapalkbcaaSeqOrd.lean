/-
  SeqOrders: a rank ahead of another one.
  SeqOrders: a rank behind another one.
  SeqOrders: two ranks that are the same.
  SeqOrders: how often an instruction stands in a list.
  SeqOrders: none stands behind a later one.
  SeqOrders: a rank is ahead of another one or the other way, or they are the same; sorting keeps each instruction, and puts none behind a later one.
-/
import Derived.Test.YtnfgndapalkbcaaSeqTT
namespace Go.Proofs.Ytnfgndapalkbcaa
section
open Go Go.RowKit
theorem rk_eq {x y : Rk} (h : rkC x y = 0) : x = y := by
  obtain ⟨a, b, c⟩ := x
  obtain ⟨a', b', c'⟩ := y
  unfold rkC orZ at h
  dsimp only at h
  split at h
  · rename_i h1
    split at h
    · rename_i h2
      rw [cmpZ_zero h1, cmpZ_zero h2, cmpZ_zero h]
    · rename_i h2
      exact absurd h h2
  · rename_i h1
    exact absurd h h1
theorem rk_ne {x y : Rk} (h : rkC x y ≠ 0) : (x.prio == y.prio && (x.day == y.day && (x.id == y.id && true))) = false := by
  rw [Bool.eq_false_iff]
  intro e
  simp only [Bool.and_eq_true, beq_iff_eq] at e
  obtain ⟨e1, e2, e3, _⟩ := e
  refine h ?_
  obtain ⟨a, b, c⟩ := x
  obtain ⟨a', b', c'⟩ := y
  dsimp only at e1 e2 e3
  subst e1 e2 e3
  exact cmRk.refl _
attribute [local irreducible] run goO leaveK someK nextK nextT nextOT nextOD loopBody loopRest loopK fillJ tmplOf tmplJ mergeT At AtO drawOk ordOf gateOf callC callO topOp topO idxOf appOf storeOf clearOf sliceOf calleeOf calleeO topQ idxQ newRowOf resL stepOp seek
set_option maxRecDepth 100000 in
set_option maxHeartbeats 4000000 in
theorem seqOrders_lt (w0 w : World) (x y z : Rk) (A : Option Addr) (n c : Nat) (ρ : Nm) (hR : Rel [] w0 ρ [⟨x.cells.map .v, true⟩, ⟨y.cells.map .v, true⟩, ⟨z.cells.map .v, true⟩] w) (d : Nat → Value) (hxy : rkC x y < 0)
    (hfin : ∀ (ρ' : Nm) (w' : World) (d' : Nat → Value), Rel [] w0 ρ' [] w' → At Try.prog (bodyPost Try.prog Try.f7 (fun e w' => e = .returned (.bool true) ∧ Below w0.heap.size w0 w')) ⟨regK Try.f7 5, fillJ (tmplJ Try.f7.ntmps 0 [(3, .v (.slice A n c))]) d' 0, []⟩ ρ' w') :
    At Try.prog (bodyPost Try.prog Try.f7 (fun e w' => e = .returned (.bool true) ∧ Below w0.heap.size w0 w')) ⟨regK Try.f7 3, fillJ (tmplJ Try.f7.ntmps 0 [(3, .v (.slice A n c)), (4, .ptr 0 0), (5, .ptr 1 0), (6, .ptr 2 0)]) d 0, [⟨x.cells.map .v, true⟩, ⟨y.cells.map .v, true⟩, ⟨z.cells.map .v, true⟩]⟩ ρ w := by
  have hyx := (cmRk.anti x y).1 hxy
  have hxx := cmRk.refl x
  have hb1 : decide (rkC x y < 0) = true := decide_eq_true hxy
  have hb2 : decide (rkC y x < 0) = false := decide_eq_false (by omega)
  have hb5 : decide (rkC x x < 0) = false := decide_eq_false (by omega)
  by_cases hyz : rkC y z < 0
  · have hb3 : decide (rkC y z < 0) = true := decide_eq_true hyz
    have hb4 : decide (rkC x z < 0) = true := decide_eq_true (cmRk.trans x y z hxy hyz)
    refine sim_draw [] (by kernel_rfl) (by kernel_rfl) (hR.cast (by kernel_rfl)) (fun hR100 => ?_)
    refine sim_ordN 2 [] hR100 (by kernel_rfl) trivial (fun ρ101 w101 hm101 hR101 => ?_)
    refine sim_ord_call (T := []) (w0 := w0) 23 [.agg [LI x.prio, LI x.day, LI x.id], .agg [LI y.prio, LI y.day, LI y.id]] (by kernel_rfl) ?_
    refine Calls.mono (rkBefore_any _ _ _) ?_
    rintro e102 w102 ⟨rfl, hb102⟩
    have hR102 := hR101.call hb102 (LB (decide (rkC x y < 0)))
    refine BackO.of (LB (decide (rkC x y < 0))) hR102 rfl ?_
    refine sim_ordN 1 [] hR102 (by kernel_rfl) trivial (fun ρ103 w103 hm103 hR103 => ?_)
    refine sim_knowO hR103 21 (decide (rkC x y < 0)) true (by kernel_rfl) (by assumption) (fun hR104 => ?_)
    refine sim_ordN 2 [] hR104 (by kernel_rfl) trivial (fun ρ105 w105 hm105 hR105 => ?_)
    refine sim_ord_call (T := []) (w0 := w0) 23 [.agg [LI y.prio, LI y.day, LI y.id], .agg [LI x.prio, LI x.day, LI x.id]] (by kernel_rfl) ?_
    refine Calls.mono (rkBefore_any _ _ _) ?_
    rintro e106 w106 ⟨rfl, hb106⟩
    have hR106 := hR105.call hb106 (LB (decide (rkC y x < 0)))
    refine BackO.of (LB (decide (rkC y x < 0))) hR106 rfl ?_
    refine sim_ordN 2 [] hR106 (by kernel_rfl) trivial (fun ρ107 w107 hm107 hR107 => ?_)
    refine sim_knowO hR107 26 (decide (rkC y x < 0)) false (by kernel_rfl) (by assumption) (fun hR108 => ?_)
    refine sim_ordN 2 [] hR108 (by kernel_rfl) trivial (fun ρ109 w109 hm109 hR109 => ?_)
    refine sim_ord_call (T := []) (w0 := w0) 23 [.agg [LI x.prio, LI x.day, LI x.id], .agg [LI y.prio, LI y.day, LI y.id]] (by kernel_rfl) ?_
    refine Calls.mono (rkBefore_any _ _ _) ?_
    rintro e110 w110 ⟨rfl, hb110⟩
    have hR110 := hR109.call hb110 (LB (decide (rkC x y < 0)))
    refine BackO.of (LB (decide (rkC x y < 0))) hR110 rfl ?_
    refine sim_ordN 2 [] hR110 (by kernel_rfl) trivial (fun ρ111 w111 hm111 hR111 => ?_)
    refine sim_forkO hR111 31 (!decide (rkC x y < 0)) (by kernel_rfl) (fun hq112 hR112 => ?_) (fun hq112 hR112 => ?_)
    have hq112 := nb_t hq112
    have hq112 := of_decide_eq_false hq112
    refine sim_ordN 5 [] hR112 (by kernel_rfl) trivial (fun ρ113 w113 hm113 hR113 => ?_)
    refine sim_ord_call (T := []) (w0 := w0) 23 [.agg [LI y.prio, LI y.day, LI y.id], .agg [LI x.prio, LI x.day, LI x.id]] (by kernel_rfl) ?_
    refine Calls.mono (rkBefore_any _ _ _) ?_
    rintro e114 w114 ⟨rfl, hb114⟩
    have hR114 := hR113.call hb114 (LB (decide (rkC y x < 0)))
    refine BackO.of (LB (decide (rkC y x < 0))) hR114 rfl ?_
    refine sim_ordN 5 [] hR114 (by kernel_rfl) trivial (fun ρ115 w115 hm115 hR115 => ?_)
    refine sim_forkO hR115 42 (!(!decide (rkC y x < 0)) == (x.prio == y.prio && (x.day == y.day && (x.id == y.id && true)))) (by kernel_rfl) (fun hq116 hR116 => ?_) (fun hq116 hR116 => ?_)
    have hq116 := nb_t hq116
    have hq116 := of_decide_eq_false hq116
    refine sim_ordN 20 [] hR116 (by kernel_rfl) trivial (fun ρ117 w117 hm117 hR117 => ?_)
    refine sim_ord_endR hR117 (by kernel_rfl) (fun hR118 => ?_)
    refine sim_run 5 [] (hR118.cast (by kernel_rfl)) (by kernel_rfl) trivial (fun ρ119 w119 hm119 hR119 => ?_)
    refine sim_ret (LB false) hR119 (by kernel_rfl) (by kernel_rfl) ?_
    exact ⟨retv_bool (by clear hR119 hm119 hR118 hR117 hm117 hR116 hR115 hm115 hR114 hb114 hR113 hm113 hR112 hR111 hm111 hR110 hb110 hR109 hm109 hR108 hR107 hm107 hR106 hb106 hR105 hm105 hR104 hR103 hm103 hR102 hb102 hR101 hm101 hR100 hR; grind []), hR119.toBelow⟩
    have hq116 := nb_f hq116
    have hq116 := of_decide_eq_true hq116
    refine sim_ordN 2 [] hR116 (by kernel_rfl) trivial (fun ρ120 w120 hm120 hR120 => ?_)
    refine sim_ord_call (T := []) (w0 := w0) 23 [.agg [LI x.prio, LI x.day, LI x.id], .agg [LI y.prio, LI y.day, LI y.id]] (by kernel_rfl) ?_
    refine Calls.mono (rkBefore_any _ _ _) ?_
    rintro e121 w121 ⟨rfl, hb121⟩
    have hR121 := hR120.call hb121 (LB (decide (rkC x y < 0)))
    refine BackO.of (LB (decide (rkC x y < 0))) hR121 rfl ?_
    refine sim_ordN 1 [] hR121 (by kernel_rfl) trivial (fun ρ122 w122 hm122 hR122 => ?_)
    refine sim_knowO hR122 46 (decide (rkC x y < 0)) true (by kernel_rfl) (by assumption) (fun hR123 => ?_)
    refine sim_ordN 2 [] hR123 (by kernel_rfl) trivial (fun ρ124 w124 hm124 hR124 => ?_)
    refine sim_ord_call (T := []) (w0 := w0) 23 [.agg [LI y.prio, LI y.day, LI y.id], .agg [LI z.prio, LI z.day, LI z.id]] (by kernel_rfl) ?_
    refine Calls.mono (rkBefore_any _ _ _) ?_
    rintro e125 w125 ⟨rfl, hb125⟩
    have hR125 := hR124.call hb125 (LB (decide (rkC y z < 0)))
    refine BackO.of (LB (decide (rkC y z < 0))) hR125 rfl ?_
    refine sim_ordN 2 [] hR125 (by kernel_rfl) trivial (fun ρ126 w126 hm126 hR126 => ?_)
    refine sim_knowO hR126 51 (decide (rkC y z < 0)) true (by kernel_rfl) (by assumption) (fun hR127 => ?_)
    refine sim_ordN 2 [] hR127 (by kernel_rfl) trivial (fun ρ128 w128 hm128 hR128 => ?_)
    refine sim_ord_call (T := []) (w0 := w0) 23 [.agg [LI x.prio, LI x.day, LI x.id], .agg [LI z.prio, LI z.day, LI z.id]] (by kernel_rfl) ?_
    refine Calls.mono (rkBefore_any _ _ _) ?_
    rintro e129 w129 ⟨rfl, hb129⟩
    have hR129 := hR128.call hb129 (LB (decide (rkC x z < 0)))
    refine BackO.of (LB (decide (rkC x z < 0))) hR129 rfl ?_
    refine sim_ordN 4 [] hR129 (by kernel_rfl) trivial (fun ρ130 w130 hm130 hR130 => ?_)
    refine sim_forkO hR130 58 (!decide (rkC x z < 0)) (by kernel_rfl) (fun hq131 hR131 => ?_) (fun hq131 hR131 => ?_)
    have hq131 := nb_t hq131
    have hq131 := of_decide_eq_false hq131
    refine sim_ordN 4 [] hR131 (by kernel_rfl) trivial (fun ρ132 w132 hm132 hR132 => ?_)
    refine sim_ord_endR hR132 (by kernel_rfl) (fun hR133 => ?_)
    refine sim_run 5 [] (hR133.cast (by kernel_rfl)) (by kernel_rfl) trivial (fun ρ134 w134 hm134 hR134 => ?_)
    refine sim_ret (LB false) hR134 (by kernel_rfl) (by kernel_rfl) ?_
    exact ⟨retv_bool (by clear hR134 hm134 hR133 hR132 hm132 hR131 hR130 hm130 hR129 hb129 hR128 hm128 hR127 hR126 hm126 hR125 hb125 hR124 hm124 hR123 hR122 hm122 hR121 hb121 hR120 hm120 hR116 hR115 hm115 hR114 hb114 hR113 hm113 hR112 hR111 hm111 hR110 hb110 hR109 hm109 hR108 hR107 hm107 hR106 hb106 hR105 hm105 hR104 hR103 hm103 hR102 hb102 hR101 hm101 hR100 hR; grind []), hR134.toBelow⟩
    have hq131 := nb_f hq131
    have hq131 := of_decide_eq_true hq131
    refine sim_ordN 2 [] hR131 (by kernel_rfl) trivial (fun ρ135 w135 hm135 hR135 => ?_)
    refine sim_ord_call (T := []) (w0 := w0) 23 [.agg [LI x.prio, LI x.day, LI x.id], .agg [LI x.prio, LI x.day, LI x.id]] (by kernel_rfl) ?_
    refine Calls.mono (rkBefore_any _ _ _) ?_
    rintro e136 w136 ⟨rfl, hb136⟩
    have hR136 := hR135.call hb136 (LB (decide (rkC x x < 0)))
    refine BackO.of (LB (decide (rkC x x < 0))) hR136 rfl ?_
    refine sim_ordN 1 [] hR136 (by kernel_rfl) trivial (fun ρ137 w137 hm137 hR137 => ?_)
    refine sim_ord_endR hR137 (by kernel_rfl) (fun hR138 => ?_)
    refine sim_know 62 (decide (rkC x x < 0)) true (by kernel_rfl) (decide_eq_true (by omega)) ?_
    refine sim_run 5 [] (hR138.cast (by kernel_rfl)) (by kernel_rfl) trivial (fun ρ139 w139 hm139 hR139 => ?_)
    refine sim_ret (LB false) hR139 (by kernel_rfl) (by kernel_rfl) ?_
    exact ⟨retv_bool (by clear hR139 hm139 hR138 hR137 hm137 hR136 hb136 hR135 hm135 hR131 hR130 hm130 hR129 hb129 hR128 hm128 hR127 hR126 hm126 hR125 hb125 hR124 hm124 hR123 hR122 hm122 hR121 hb121 hR120 hm120 hR116 hR115 hm115 hR114 hb114 hR113 hm113 hR112 hR111 hm111 hR110 hb110 hR109 hm109 hR108 hR107 hm107 hR106 hb106 hR105 hm105 hR104 hR103 hm103 hR102 hb102 hR101 hm101 hR100 hR; grind []), hR139.toBelow⟩
    have hq112 := nb_f hq112
    have hq112 := of_decide_eq_true hq112
    refine sim_ordN 13 [] hR112 (by kernel_rfl) trivial (fun ρ140 w140 hm140 hR140 => ?_)
    refine sim_ord_call (T := []) (w0 := w0) 23 [.agg [LI x.prio, LI x.day, LI x.id], .agg [LI y.prio, LI y.day, LI y.id]] (by kernel_rfl) ?_
    refine Calls.mono (rkBefore_any _ _ _) ?_
    rintro e141 w141 ⟨rfl, hb141⟩
    have hR141 := hR140.call hb141 (LB (decide (rkC x y < 0)))
    refine BackO.of (LB (decide (rkC x y < 0))) hR141 rfl ?_
    refine sim_ordN 1 [] hR141 (by kernel_rfl) trivial (fun ρ142 w142 hm142 hR142 => ?_)
    refine sim_knowO hR142 46 (decide (rkC x y < 0)) true (by kernel_rfl) (by assumption) (fun hR143 => ?_)
    refine sim_ordN 2 [] hR143 (by kernel_rfl) trivial (fun ρ144 w144 hm144 hR144 => ?_)
    refine sim_ord_call (T := []) (w0 := w0) 23 [.agg [LI y.prio, LI y.day, LI y.id], .agg [LI z.prio, LI z.day, LI z.id]] (by kernel_rfl) ?_
    refine Calls.mono (rkBefore_any _ _ _) ?_
    rintro e145 w145 ⟨rfl, hb145⟩
    have hR145 := hR144.call hb145 (LB (decide (rkC y z < 0)))
    refine BackO.of (LB (decide (rkC y z < 0))) hR145 rfl ?_
    refine sim_ordN 2 [] hR145 (by kernel_rfl) trivial (fun ρ146 w146 hm146 hR146 => ?_)
    refine sim_knowO hR146 51 (decide (rkC y z < 0)) true (by kernel_rfl) (by assumption) (fun hR147 => ?_)
    refine sim_ordN 2 [] hR147 (by kernel_rfl) trivial (fun ρ148 w148 hm148 hR148 => ?_)
    refine sim_ord_call (T := []) (w0 := w0) 23 [.agg [LI x.prio, LI x.day, LI x.id], .agg [LI z.prio, LI z.day, LI z.id]] (by kernel_rfl) ?_
    refine Calls.mono (rkBefore_any _ _ _) ?_
    rintro e149 w149 ⟨rfl, hb149⟩
    have hR149 := hR148.call hb149 (LB (decide (rkC x z < 0)))
    refine BackO.of (LB (decide (rkC x z < 0))) hR149 rfl ?_
    refine sim_ordN 4 [] hR149 (by kernel_rfl) trivial (fun ρ150 w150 hm150 hR150 => ?_)
    refine sim_forkO hR150 58 (!decide (rkC x z < 0)) (by kernel_rfl) (fun hq151 hR151 => ?_) (fun hq151 hR151 => ?_)
    have hq151 := nb_t hq151
    have hq151 := of_decide_eq_false hq151
    refine sim_ordN 4 [] hR151 (by kernel_rfl) trivial (fun ρ152 w152 hm152 hR152 => ?_)
    refine sim_ord_endR hR152 (by kernel_rfl) (fun hR153 => ?_)
    refine sim_run 5 [] (hR153.cast (by kernel_rfl)) (by kernel_rfl) trivial (fun ρ154 w154 hm154 hR154 => ?_)
    refine sim_ret (LB false) hR154 (by kernel_rfl) (by kernel_rfl) ?_
    exact ⟨retv_bool (by clear hR154 hm154 hR153 hR152 hm152 hR151 hR150 hm150 hR149 hb149 hR148 hm148 hR147 hR146 hm146 hR145 hb145 hR144 hm144 hR143 hR142 hm142 hR141 hb141 hR140 hm140 hR112 hR111 hm111 hR110 hb110 hR109 hm109 hR108 hR107 hm107 hR106 hb106 hR105 hm105 hR104 hR103 hm103 hR102 hb102 hR101 hm101 hR100 hR; grind []), hR154.toBelow⟩
    have hq151 := nb_f hq151
    have hq151 := of_decide_eq_true hq151
    refine sim_ordN 2 [] hR151 (by kernel_rfl) trivial (fun ρ155 w155 hm155 hR155 => ?_)
    refine sim_ord_call (T := []) (w0 := w0) 23 [.agg [LI x.prio, LI x.day, LI x.id], .agg [LI x.prio, LI x.day, LI x.id]] (by kernel_rfl) ?_
    refine Calls.mono (rkBefore_any _ _ _) ?_
    rintro e156 w156 ⟨rfl, hb156⟩
    have hR156 := hR155.call hb156 (LB (decide (rkC x x < 0)))
    refine BackO.of (LB (decide (rkC x x < 0))) hR156 rfl ?_
    refine sim_ordN 1 [] hR156 (by kernel_rfl) trivial (fun ρ157 w157 hm157 hR157 => ?_)
    refine sim_ord_endR hR157 (by kernel_rfl) (fun hR158 => ?_)
    refine sim_know 62 (decide (rkC x x < 0)) false (by kernel_rfl) (by assumption) ?_
    refine sim_run 4 [] (hR158.cast (by kernel_rfl)) (by kernel_rfl) trivial (fun ρ159 w159 hm159 hR159 => ?_)
    
    refine sim_to (regK Try.f7 5) (tmplJ Try.f7.ntmps 0 [(3, .v (.slice A n c))]) [] (by kernel_rfl) (by kernel_rfl) (by kernel_rfl) (fun d6 => ?_)
    exact hfin _ _ d6 ((by assumption : Rel _ _ _ _ _).none_)
  · have hb3 : decide (rkC y z < 0) = false := decide_eq_false hyz
    refine sim_draw [] (by kernel_rfl) (by kernel_rfl) (hR.cast (by kernel_rfl)) (fun hR200 => ?_)
    refine sim_ordN 2 [] hR200 (by kernel_rfl) trivial (fun ρ201 w201 hm201 hR201 => ?_)
    refine sim_ord_call (T := []) (w0 := w0) 23 [.agg [LI x.prio, LI x.day, LI x.id], .agg [LI y.prio, LI y.day, LI y.id]] (by kernel_rfl) ?_
    refine Calls.mono (rkBefore_any _ _ _) ?_
    rintro e202 w202 ⟨rfl, hb202⟩
    have hR202 := hR201.call hb202 (LB (decide (rkC x y < 0)))
    refine BackO.of (LB (decide (rkC x y < 0))) hR202 rfl ?_
    refine sim_ordN 1 [] hR202 (by kernel_rfl) trivial (fun ρ203 w203 hm203 hR203 => ?_)
    refine sim_knowO hR203 21 (decide (rkC x y < 0)) true (by kernel_rfl) (by assumption) (fun hR204 => ?_)
    refine sim_ordN 2 [] hR204 (by kernel_rfl) trivial (fun ρ205 w205 hm205 hR205 => ?_)
    refine sim_ord_call (T := []) (w0 := w0) 23 [.agg [LI y.prio, LI y.day, LI y.id], .agg [LI x.prio, LI x.day, LI x.id]] (by kernel_rfl) ?_
    refine Calls.mono (rkBefore_any _ _ _) ?_
    rintro e206 w206 ⟨rfl, hb206⟩
    have hR206 := hR205.call hb206 (LB (decide (rkC y x < 0)))
    refine BackO.of (LB (decide (rkC y x < 0))) hR206 rfl ?_
    refine sim_ordN 2 [] hR206 (by kernel_rfl) trivial (fun ρ207 w207 hm207 hR207 => ?_)
    refine sim_knowO hR207 26 (decide (rkC y x < 0)) false (by kernel_rfl) (by assumption) (fun hR208 => ?_)
    refine sim_ordN 2 [] hR208 (by kernel_rfl) trivial (fun ρ209 w209 hm209 hR209 => ?_)
    refine sim_ord_call (T := []) (w0 := w0) 23 [.agg [LI x.prio, LI x.day, LI x.id], .agg [LI y.prio, LI y.day, LI y.id]] (by kernel_rfl) ?_
    refine Calls.mono (rkBefore_any _ _ _) ?_
    rintro e210 w210 ⟨rfl, hb210⟩
    have hR210 := hR209.call hb210 (LB (decide (rkC x y < 0)))
    refine BackO.of (LB (decide (rkC x y < 0))) hR210 rfl ?_
    refine sim_ordN 2 [] hR210 (by kernel_rfl) trivial (fun ρ211 w211 hm211 hR211 => ?_)
    refine sim_forkO hR211 31 (!decide (rkC x y < 0)) (by kernel_rfl) (fun hq212 hR212 => ?_) (fun hq212 hR212 => ?_)
    have hq212 := nb_t hq212
    have hq212 := of_decide_eq_false hq212
    refine sim_ordN 5 [] hR212 (by kernel_rfl) trivial (fun ρ213 w213 hm213 hR213 => ?_)
    refine sim_ord_call (T := []) (w0 := w0) 23 [.agg [LI y.prio, LI y.day, LI y.id], .agg [LI x.prio, LI x.day, LI x.id]] (by kernel_rfl) ?_
    refine Calls.mono (rkBefore_any _ _ _) ?_
    rintro e214 w214 ⟨rfl, hb214⟩
    have hR214 := hR213.call hb214 (LB (decide (rkC y x < 0)))
    refine BackO.of (LB (decide (rkC y x < 0))) hR214 rfl ?_
    refine sim_ordN 5 [] hR214 (by kernel_rfl) trivial (fun ρ215 w215 hm215 hR215 => ?_)
    refine sim_forkO hR215 42 (!(!decide (rkC y x < 0)) == (x.prio == y.prio && (x.day == y.day && (x.id == y.id && true)))) (by kernel_rfl) (fun hq216 hR216 => ?_) (fun hq216 hR216 => ?_)
    have hq216 := nb_t hq216
    have hq216 := of_decide_eq_false hq216
    refine sim_ordN 20 [] hR216 (by kernel_rfl) trivial (fun ρ217 w217 hm217 hR217 => ?_)
    refine sim_ord_endR hR217 (by kernel_rfl) (fun hR218 => ?_)
    refine sim_run 5 [] (hR218.cast (by kernel_rfl)) (by kernel_rfl) trivial (fun ρ219 w219 hm219 hR219 => ?_)
    refine sim_ret (LB false) hR219 (by kernel_rfl) (by kernel_rfl) ?_
    exact ⟨retv_bool (by clear hR219 hm219 hR218 hR217 hm217 hR216 hR215 hm215 hR214 hb214 hR213 hm213 hR212 hR211 hm211 hR210 hb210 hR209 hm209 hR208 hR207 hm207 hR206 hb206 hR205 hm205 hR204 hR203 hm203 hR202 hb202 hR201 hm201 hR200 hR; grind []), hR219.toBelow⟩
    have hq216 := nb_f hq216
    have hq216 := of_decide_eq_true hq216
    refine sim_ordN 2 [] hR216 (by kernel_rfl) trivial (fun ρ220 w220 hm220 hR220 => ?_)
    refine sim_ord_call (T := []) (w0 := w0) 23 [.agg [LI x.prio, LI x.day, LI x.id], .agg [LI y.prio, LI y.day, LI y.id]] (by kernel_rfl) ?_
    refine Calls.mono (rkBefore_any _ _ _) ?_
    rintro e221 w221 ⟨rfl, hb221⟩
    have hR221 := hR220.call hb221 (LB (decide (rkC x y < 0)))
    refine BackO.of (LB (decide (rkC x y < 0))) hR221 rfl ?_
    refine sim_ordN 1 [] hR221 (by kernel_rfl) trivial (fun ρ222 w222 hm222 hR222 => ?_)
    refine sim_knowO hR222 46 (decide (rkC x y < 0)) true (by kernel_rfl) (by assumption) (fun hR223 => ?_)
    refine sim_ordN 2 [] hR223 (by kernel_rfl) trivial (fun ρ224 w224 hm224 hR224 => ?_)
    refine sim_ord_call (T := []) (w0 := w0) 23 [.agg [LI y.prio, LI y.day, LI y.id], .agg [LI z.prio, LI z.day, LI z.id]] (by kernel_rfl) ?_
    refine Calls.mono (rkBefore_any _ _ _) ?_
    rintro e225 w225 ⟨rfl, hb225⟩
    have hR225 := hR224.call hb225 (LB (decide (rkC y z < 0)))
    refine BackO.of (LB (decide (rkC y z < 0))) hR225 rfl ?_
    refine sim_ordN 2 [] hR225 (by kernel_rfl) trivial (fun ρ226 w226 hm226 hR226 => ?_)
    refine sim_knowO hR226 51 (decide (rkC y z < 0)) true (by kernel_rfl) (decide_eq_true (by omega)) (fun hR227 => ?_)
    refine sim_ordN 2 [] hR227 (by kernel_rfl) trivial (fun ρ228 w228 hm228 hR228 => ?_)
    refine sim_ord_call (T := []) (w0 := w0) 23 [.agg [LI x.prio, LI x.day, LI x.id], .agg [LI z.prio, LI z.day, LI z.id]] (by kernel_rfl) ?_
    refine Calls.mono (rkBefore_any _ _ _) ?_
    rintro e229 w229 ⟨rfl, hb229⟩
    have hR229 := hR228.call hb229 (LB (decide (rkC x z < 0)))
    refine BackO.of (LB (decide (rkC x z < 0))) hR229 rfl ?_
    refine sim_ordN 4 [] hR229 (by kernel_rfl) trivial (fun ρ230 w230 hm230 hR230 => ?_)
    refine sim_forkO hR230 58 (!decide (rkC x z < 0)) (by kernel_rfl) (fun hq231 hR231 => ?_) (fun hq231 hR231 => ?_)
    have hq231 := nb_t hq231
    have hq231 := of_decide_eq_false hq231
    refine sim_ordN 4 [] hR231 (by kernel_rfl) trivial (fun ρ232 w232 hm232 hR232 => ?_)
    refine sim_ord_endR hR232 (by kernel_rfl) (fun hR233 => ?_)
    refine sim_run 5 [] (hR233.cast (by kernel_rfl)) (by kernel_rfl) trivial (fun ρ234 w234 hm234 hR234 => ?_)
    refine sim_ret (LB false) hR234 (by kernel_rfl) (by kernel_rfl) ?_
    exact ⟨retv_bool (by clear hR234 hm234 hR233 hR232 hm232 hR231 hR230 hm230 hR229 hb229 hR228 hm228 hR227 hR226 hm226 hR225 hb225 hR224 hm224 hR223 hR222 hm222 hR221 hb221 hR220 hm220 hR216 hR215 hm215 hR214 hb214 hR213 hm213 hR212 hR211 hm211 hR210 hb210 hR209 hm209 hR208 hR207 hm207 hR206 hb206 hR205 hm205 hR204 hR203 hm203 hR202 hb202 hR201 hm201 hR200 hR; grind []), hR234.toBelow⟩
    have hq231 := nb_f hq231
    have hq231 := of_decide_eq_true hq231
    refine sim_ordN 2 [] hR231 (by kernel_rfl) trivial (fun ρ235 w235 hm235 hR235 => ?_)
    refine sim_ord_call (T := []) (w0 := w0) 23 [.agg [LI x.prio, LI x.day, LI x.id], .agg [LI x.prio, LI x.day, LI x.id]] (by kernel_rfl) ?_
    refine Calls.mono (rkBefore_any _ _ _) ?_
    rintro e236 w236 ⟨rfl, hb236⟩
    have hR236 := hR235.call hb236 (LB (decide (rkC x x < 0)))
    refine BackO.of (LB (decide (rkC x x < 0))) hR236 rfl ?_
    refine sim_ordN 1 [] hR236 (by kernel_rfl) trivial (fun ρ237 w237 hm237 hR237 => ?_)
    refine sim_ord_endR hR237 (by kernel_rfl) (fun hR238 => ?_)
    refine sim_know 62 (decide (rkC x x < 0)) true (by kernel_rfl) (decide_eq_true (by omega)) ?_
    refine sim_run 5 [] (hR238.cast (by kernel_rfl)) (by kernel_rfl) trivial (fun ρ239 w239 hm239 hR239 => ?_)
    refine sim_ret (LB false) hR239 (by kernel_rfl) (by kernel_rfl) ?_
    exact ⟨retv_bool (by clear hR239 hm239 hR238 hR237 hm237 hR236 hb236 hR235 hm235 hR231 hR230 hm230 hR229 hb229 hR228 hm228 hR227 hR226 hm226 hR225 hb225 hR224 hm224 hR223 hR222 hm222 hR221 hb221 hR220 hm220 hR216 hR215 hm215 hR214 hb214 hR213 hm213 hR212 hR211 hm211 hR210 hb210 hR209 hm209 hR208 hR207 hm207 hR206 hb206 hR205 hm205 hR204 hR203 hm203 hR202 hb202 hR201 hm201 hR200 hR; grind []), hR239.toBelow⟩
    have hq212 := nb_f hq212
    have hq212 := of_decide_eq_true hq212
    refine sim_ordN 13 [] hR212 (by kernel_rfl) trivial (fun ρ240 w240 hm240 hR240 => ?_)
    refine sim_ord_call (T := []) (w0 := w0) 23 [.agg [LI x.prio, LI x.day, LI x.id], .agg [LI y.prio, LI y.day, LI y.id]] (by kernel_rfl) ?_
    refine Calls.mono (rkBefore_any _ _ _) ?_
    rintro e241 w241 ⟨rfl, hb241⟩
    have hR241 := hR240.call hb241 (LB (decide (rkC x y < 0)))
    refine BackO.of (LB (decide (rkC x y < 0))) hR241 rfl ?_
    refine sim_ordN 1 [] hR241 (by kernel_rfl) trivial (fun ρ242 w242 hm242 hR242 => ?_)
    refine sim_knowO hR242 46 (decide (rkC x y < 0)) true (by kernel_rfl) (by assumption) (fun hR243 => ?_)
    refine sim_ordN 2 [] hR243 (by kernel_rfl) trivial (fun ρ244 w244 hm244 hR244 => ?_)
    refine sim_ord_call (T := []) (w0 := w0) 23 [.agg [LI y.prio, LI y.day, LI y.id], .agg [LI z.prio, LI z.day, LI z.id]] (by kernel_rfl) ?_
    refine Calls.mono (rkBefore_any _ _ _) ?_
    rintro e245 w245 ⟨rfl, hb245⟩
    have hR245 := hR244.call hb245 (LB (decide (rkC y z < 0)))
    refine BackO.of (LB (decide (rkC y z < 0))) hR245 rfl ?_
    refine sim_ordN 2 [] hR245 (by kernel_rfl) trivial (fun ρ246 w246 hm246 hR246 => ?_)
    refine sim_knowO hR246 51 (decide (rkC y z < 0)) false (by kernel_rfl) (by assumption) (fun hR247 => ?_)
    refine sim_ordN 9 [] hR247 (by kernel_rfl) trivial (fun ρ248 w248 hm248 hR248 => ?_)
    refine sim_ord_call (T := []) (w0 := w0) 23 [.agg [LI x.prio, LI x.day, LI x.id], .agg [LI x.prio, LI x.day, LI x.id]] (by kernel_rfl) ?_
    refine Calls.mono (rkBefore_any _ _ _) ?_
    rintro e249 w249 ⟨rfl, hb249⟩
    have hR249 := hR248.call hb249 (LB (decide (rkC x x < 0)))
    refine BackO.of (LB (decide (rkC x x < 0))) hR249 rfl ?_
    refine sim_ordN 1 [] hR249 (by kernel_rfl) trivial (fun ρ250 w250 hm250 hR250 => ?_)
    refine sim_ord_endR hR250 (by kernel_rfl) (fun hR251 => ?_)
    refine sim_know 62 (decide (rkC x x < 0)) false (by kernel_rfl) (by assumption) ?_
    refine sim_run 4 [] (hR251.cast (by kernel_rfl)) (by kernel_rfl) trivial (fun ρ252 w252 hm252 hR252 => ?_)
    
    refine sim_to (regK Try.f7 5) (tmplJ Try.f7.ntmps 0 [(3, .v (.slice A n c))]) [] (by kernel_rfl) (by kernel_rfl) (by kernel_rfl) (fun d6 => ?_)
    exact hfin _ _ d6 ((by assumption : Rel _ _ _ _ _).none_)
end

section
open Go Go.RowKit
attribute [local irreducible] run goO leaveK someK nextK nextT nextOT nextOD loopBody loopRest loopK fillJ tmplOf tmplJ mergeT At AtO drawOk ordOf gateOf callC callO topOp topO idxOf appOf storeOf clearOf sliceOf calleeOf calleeO topQ idxQ newRowOf resL stepOp seek
set_option maxRecDepth 100000 in
set_option maxHeartbeats 4000000 in
theorem seqOrders_gt (w0 w : World) (x y z : Rk) (A : Option Addr) (n c : Nat) (ρ : Nm) (hR : Rel [] w0 ρ [⟨x.cells.map .v, true⟩, ⟨y.cells.map .v, true⟩, ⟨z.cells.map .v, true⟩] w) (d : Nat → Value) (hyx : rkC y x < 0)
    (hfin : ∀ (ρ' : Nm) (w' : World) (d' : Nat → Value), Rel [] w0 ρ' [] w' → At Try.prog (bodyPost Try.prog Try.f7 (fun e w' => e = .returned (.bool true) ∧ Below w0.heap.size w0 w')) ⟨regK Try.f7 5, fillJ (tmplJ Try.f7.ntmps 0 [(3, .v (.slice A n c))]) d' 0, []⟩ ρ' w') :
    At Try.prog (bodyPost Try.prog Try.f7 (fun e w' => e = .returned (.bool true) ∧ Below w0.heap.size w0 w')) ⟨regK Try.f7 3, fillJ (tmplJ Try.f7.ntmps 0 [(3, .v (.slice A n c)), (4, .ptr 0 0), (5, .ptr 1 0), (6, .ptr 2 0)]) d 0, [⟨x.cells.map .v, true⟩, ⟨y.cells.map .v, true⟩, ⟨z.cells.map .v, true⟩]⟩ ρ w := by
  have hxy := (cmRk.anti y x).1 hyx
  have hxx := cmRk.refl x
  have hb1 : decide (rkC x y < 0) = false := decide_eq_false (by omega)
  have hb2 : decide (rkC y x < 0) = true := decide_eq_true hyx
  have hb5 : decide (rkC x x < 0) = false := decide_eq_false (by omega)
  have hbe := rk_ne (x := x) (y := y) (by omega)
  · refine sim_draw [] (by kernel_rfl) (by kernel_rfl) (hR.cast (by kernel_rfl)) (fun hR300 => ?_)
    refine sim_ordN 2 [] hR300 (by kernel_rfl) trivial (fun ρ301 w301 hm301 hR301 => ?_)
    refine sim_ord_call (T := []) (w0 := w0) 23 [.agg [LI x.prio, LI x.day, LI x.id], .agg [LI y.prio, LI y.day, LI y.id]] (by kernel_rfl) ?_
    refine Calls.mono (rkBefore_any _ _ _) ?_
    rintro e302 w302 ⟨rfl, hb302⟩
    have hR302 := hR301.call hb302 (LB (decide (rkC x y < 0)))
    refine BackO.of (LB (decide (rkC x y < 0))) hR302 rfl ?_
    refine sim_ordN 1 [] hR302 (by kernel_rfl) trivial (fun ρ303 w303 hm303 hR303 => ?_)
    refine sim_knowO hR303 21 (decide (rkC x y < 0)) false (by kernel_rfl) (by assumption) (fun hR304 => ?_)
    refine sim_ordN 7 [] hR304 (by kernel_rfl) trivial (fun ρ305 w305 hm305 hR305 => ?_)
    refine sim_ord_call (T := []) (w0 := w0) 23 [.agg [LI x.prio, LI x.day, LI x.id], .agg [LI y.prio, LI y.day, LI y.id]] (by kernel_rfl) ?_
    refine Calls.mono (rkBefore_any _ _ _) ?_
    rintro e306 w306 ⟨rfl, hb306⟩
    have hR306 := hR305.call hb306 (LB (decide (rkC x y < 0)))
    refine BackO.of (LB (decide (rkC x y < 0))) hR306 rfl ?_
    refine sim_ordN 2 [] hR306 (by kernel_rfl) trivial (fun ρ307 w307 hm307 hR307 => ?_)
    refine sim_forkO hR307 31 (!decide (rkC x y < 0)) (by kernel_rfl) (fun hq308 hR308 => ?_) (fun hq308 hR308 => ?_)
    have hq308 := nb_t hq308
    have hq308 := of_decide_eq_false hq308
    refine sim_ordN 5 [] hR308 (by kernel_rfl) trivial (fun ρ309 w309 hm309 hR309 => ?_)
    refine sim_ord_call (T := []) (w0 := w0) 23 [.agg [LI y.prio, LI y.day, LI y.id], .agg [LI x.prio, LI x.day, LI x.id]] (by kernel_rfl) ?_
    refine Calls.mono (rkBefore_any _ _ _) ?_
    rintro e310 w310 ⟨rfl, hb310⟩
    have hR310 := hR309.call hb310 (LB (decide (rkC y x < 0)))
    refine BackO.of (LB (decide (rkC y x < 0))) hR310 rfl ?_
    refine sim_ordN 5 [] hR310 (by kernel_rfl) trivial (fun ρ311 w311 hm311 hR311 => ?_)
    refine sim_forkO hR311 42 (!(!decide (rkC y x < 0)) == (x.prio == y.prio && (x.day == y.day && (x.id == y.id && true)))) (by kernel_rfl) (fun hq312 hR312 => ?_) (fun hq312 hR312 => ?_)
    have hq312 := nb_t hq312
    have hq312 := of_decide_eq_false hq312
    refine sim_ordN 20 [] hR312 (by kernel_rfl) trivial (fun ρ313 w313 hm313 hR313 => ?_)
    refine sim_ord_endR hR313 (by kernel_rfl) (fun hR314 => ?_)
    refine sim_run 5 [] (hR314.cast (by kernel_rfl)) (by kernel_rfl) trivial (fun ρ315 w315 hm315 hR315 => ?_)
    refine sim_ret (LB false) hR315 (by kernel_rfl) (by kernel_rfl) ?_
    exact ⟨retv_bool (by clear hR315 hm315 hR314 hR313 hm313 hR312 hR311 hm311 hR310 hb310 hR309 hm309 hR308 hR307 hm307 hR306 hb306 hR305 hm305 hR304 hR303 hm303 hR302 hb302 hR301 hm301 hR300 hR; grind []), hR315.toBelow⟩
    have hq312 := nb_f hq312
    have hq312 := of_decide_eq_true hq312
    refine sim_ordN 2 [] hR312 (by kernel_rfl) trivial (fun ρ316 w316 hm316 hR316 => ?_)
    refine sim_ord_call (T := []) (w0 := w0) 23 [.agg [LI x.prio, LI x.day, LI x.id], .agg [LI y.prio, LI y.day, LI y.id]] (by kernel_rfl) ?_
    refine Calls.mono (rkBefore_any _ _ _) ?_
    rintro e317 w317 ⟨rfl, hb317⟩
    have hR317 := hR316.call hb317 (LB (decide (rkC x y < 0)))
    refine BackO.of (LB (decide (rkC x y < 0))) hR317 rfl ?_
    refine sim_ordN 1 [] hR317 (by kernel_rfl) trivial (fun ρ318 w318 hm318 hR318 => ?_)
    refine sim_knowO hR318 46 (decide (rkC x y < 0)) false (by kernel_rfl) (by assumption) (fun hR319 => ?_)
    refine sim_ordN 14 [] hR319 (by kernel_rfl) trivial (fun ρ320 w320 hm320 hR320 => ?_)
    refine sim_ord_call (T := []) (w0 := w0) 23 [.agg [LI x.prio, LI x.day, LI x.id], .agg [LI x.prio, LI x.day, LI x.id]] (by kernel_rfl) ?_
    refine Calls.mono (rkBefore_any _ _ _) ?_
    rintro e321 w321 ⟨rfl, hb321⟩
    have hR321 := hR320.call hb321 (LB (decide (rkC x x < 0)))
    refine BackO.of (LB (decide (rkC x x < 0))) hR321 rfl ?_
    refine sim_ordN 1 [] hR321 (by kernel_rfl) trivial (fun ρ322 w322 hm322 hR322 => ?_)
    refine sim_ord_endR hR322 (by kernel_rfl) (fun hR323 => ?_)
    refine sim_know 62 (decide (rkC x x < 0)) false (by kernel_rfl) (by assumption) ?_
    refine sim_run 4 [] (hR323.cast (by kernel_rfl)) (by kernel_rfl) trivial (fun ρ324 w324 hm324 hR324 => ?_)
    rotate_left
    have hq308 := nb_f hq308
    have hq308 := of_decide_eq_true hq308
    refine sim_ordN 13 [] hR308 (by kernel_rfl) trivial (fun ρ325 w325 hm325 hR325 => ?_)
    refine sim_ord_call (T := []) (w0 := w0) 23 [.agg [LI x.prio, LI x.day, LI x.id], .agg [LI y.prio, LI y.day, LI y.id]] (by kernel_rfl) ?_
    refine Calls.mono (rkBefore_any _ _ _) ?_
    rintro e326 w326 ⟨rfl, hb326⟩
    have hR326 := hR325.call hb326 (LB (decide (rkC x y < 0)))
    refine BackO.of (LB (decide (rkC x y < 0))) hR326 rfl ?_
    refine sim_ordN 1 [] hR326 (by kernel_rfl) trivial (fun ρ327 w327 hm327 hR327 => ?_)
    refine sim_knowO hR327 46 (decide (rkC x y < 0)) true (by kernel_rfl) (by assumption) (fun hR328 => ?_)
    refine sim_ordN 2 [] hR328 (by kernel_rfl) trivial (fun ρ329 w329 hm329 hR329 => ?_)
    refine sim_ord_call (T := []) (w0 := w0) 23 [.agg [LI y.prio, LI y.day, LI y.id], .agg [LI z.prio, LI z.day, LI z.id]] (by kernel_rfl) ?_
    refine Calls.mono (rkBefore_any _ _ _) ?_
    rintro e330 w330 ⟨rfl, hb330⟩
    have hR330 := hR329.call hb330 (LB (decide (rkC y z < 0)))
    refine BackO.of (LB (decide (rkC y z < 0))) hR330 rfl ?_
    refine sim_ordN 2 [] hR330 (by kernel_rfl) trivial (fun ρ331 w331 hm331 hR331 => ?_)
    refine sim_knowO hR331 51 (decide (rkC y z < 0)) true (by kernel_rfl) (decide_eq_true (by omega)) (fun hR332 => ?_)
    refine sim_ordN 2 [] hR332 (by kernel_rfl) trivial (fun ρ333 w333 hm333 hR333 => ?_)
    refine sim_ord_call (T := []) (w0 := w0) 23 [.agg [LI x.prio, LI x.day, LI x.id], .agg [LI z.prio, LI z.day, LI z.id]] (by kernel_rfl) ?_
    refine Calls.mono (rkBefore_any _ _ _) ?_
    rintro e334 w334 ⟨rfl, hb334⟩
    have hR334 := hR333.call hb334 (LB (decide (rkC x z < 0)))
    refine BackO.of (LB (decide (rkC x z < 0))) hR334 rfl ?_
    refine sim_ordN 4 [] hR334 (by kernel_rfl) trivial (fun ρ335 w335 hm335 hR335 => ?_)
    refine sim_forkO hR335 58 (!decide (rkC x z < 0)) (by kernel_rfl) (fun hq336 hR336 => ?_) (fun hq336 hR336 => ?_)
    have hq336 := nb_t hq336
    have hq336 := of_decide_eq_false hq336
    refine sim_ordN 4 [] hR336 (by kernel_rfl) trivial (fun ρ337 w337 hm337 hR337 => ?_)
    refine sim_ord_endR hR337 (by kernel_rfl) (fun hR338 => ?_)
    refine sim_run 5 [] (hR338.cast (by kernel_rfl)) (by kernel_rfl) trivial (fun ρ339 w339 hm339 hR339 => ?_)
    refine sim_ret (LB false) hR339 (by kernel_rfl) (by kernel_rfl) ?_
    exact ⟨retv_bool (by clear hR339 hm339 hR338 hR337 hm337 hR336 hR335 hm335 hR334 hb334 hR333 hm333 hR332 hR331 hm331 hR330 hb330 hR329 hm329 hR328 hR327 hm327 hR326 hb326 hR325 hm325 hR308 hR307 hm307 hR306 hb306 hR305 hm305 hR304 hR303 hm303 hR302 hb302 hR301 hm301 hR300 hR; grind []), hR339.toBelow⟩
    have hq336 := nb_f hq336
    have hq336 := of_decide_eq_true hq336
    refine sim_ordN 2 [] hR336 (by kernel_rfl) trivial (fun ρ340 w340 hm340 hR340 => ?_)
    refine sim_ord_call (T := []) (w0 := w0) 23 [.agg [LI x.prio, LI x.day, LI x.id], .agg [LI x.prio, LI x.day, LI x.id]] (by kernel_rfl) ?_
    refine Calls.mono (rkBefore_any _ _ _) ?_
    rintro e341 w341 ⟨rfl, hb341⟩
    have hR341 := hR340.call hb341 (LB (decide (rkC x x < 0)))
    refine BackO.of (LB (decide (rkC x x < 0))) hR341 rfl ?_
    refine sim_ordN 1 [] hR341 (by kernel_rfl) trivial (fun ρ342 w342 hm342 hR342 => ?_)
    refine sim_ord_endR hR342 (by kernel_rfl) (fun hR343 => ?_)
    refine sim_know 62 (decide (rkC x x < 0)) true (by kernel_rfl) (decide_eq_true (by omega)) ?_
    refine sim_run 5 [] (hR343.cast (by kernel_rfl)) (by kernel_rfl) trivial (fun ρ344 w344 hm344 hR344 => ?_)
    refine sim_ret (LB false) hR344 (by kernel_rfl) (by kernel_rfl) ?_
    exact ⟨retv_bool (by clear hR344 hm344 hR343 hR342 hm342 hR341 hb341 hR340 hm340 hR336 hR335 hm335 hR334 hb334 hR333 hm333 hR332 hR331 hm331 hR330 hb330 hR329 hm329 hR328 hR327 hm327 hR326 hb326 hR325 hm325 hR308 hR307 hm307 hR306 hb306 hR305 hm305 hR304 hR303 hm303 hR302 hb302 hR301 hm301 hR300 hR; grind []), hR344.toBelow⟩
    
    refine sim_to (regK Try.f7 5) (tmplJ Try.f7.ntmps 0 [(3, .v (.slice A n c))]) [] (by kernel_rfl) (by kernel_rfl) (by kernel_rfl) (fun d6 => ?_)
    exact hfin _ _ d6 ((by assumption : Rel _ _ _ _ _).none_)
end

section
open Go Go.RowKit
attribute [local irreducible] run goO leaveK someK nextK nextT nextOT nextOD loopBody loopRest loopK fillJ tmplOf tmplJ mergeT At AtO drawOk ordOf gateOf callC callO topOp topO idxOf appOf storeOf clearOf sliceOf calleeOf calleeO topQ idxQ newRowOf resL stepOp seek
set_option maxRecDepth 100000 in
set_option maxHeartbeats 4000000 in
theorem seqOrders_eq (w0 w : World) (x y z : Rk) (A : Option Addr) (n c : Nat) (ρ : Nm) (hR : Rel [] w0 ρ [⟨x.cells.map .v, true⟩, ⟨y.cells.map .v, true⟩, ⟨z.cells.map .v, true⟩] w) (d : Nat → Value) (hxy : x = y)
    (hfin : ∀ (ρ' : Nm) (w' : World) (d' : Nat → Value), Rel [] w0 ρ' [] w' → At Try.prog (bodyPost Try.prog Try.f7 (fun e w' => e = .returned (.bool true) ∧ Below w0.heap.size w0 w')) ⟨regK Try.f7 5, fillJ (tmplJ Try.f7.ntmps 0 [(3, .v (.slice A n c))]) d' 0, []⟩ ρ' w') :
    At Try.prog (bodyPost Try.prog Try.f7 (fun e w' => e = .returned (.bool true) ∧ Below w0.heap.size w0 w')) ⟨regK Try.f7 3, fillJ (tmplJ Try.f7.ntmps 0 [(3, .v (.slice A n c)), (4, .ptr 0 0), (5, .ptr 1 0), (6, .ptr 2 0)]) d 0, [⟨x.cells.map .v, true⟩, ⟨y.cells.map .v, true⟩, ⟨z.cells.map .v, true⟩]⟩ ρ w := by
  have hxx := cmRk.refl x
  have h01 : rkC x y = 0 := by rw [← hxy]; exact hxx
  have h02 : rkC y x = 0 := by rw [← hxy]; exact hxx
  have hb1 : decide (rkC x y < 0) = false := decide_eq_false (by omega)
  have hb2 : decide (rkC y x < 0) = false := decide_eq_false (by omega)
  have hb5 : decide (rkC x x < 0) = false := decide_eq_false (by omega)
  have hbe : (x.prio == y.prio && (x.day == y.day && (x.id == y.id && true))) = true := by rw [← hxy]; simp
  · refine sim_draw [] (by kernel_rfl) (by kernel_rfl) (hR.cast (by kernel_rfl)) (fun hR400 => ?_)
    refine sim_ordN 2 [] hR400 (by kernel_rfl) trivial (fun ρ401 w401 hm401 hR401 => ?_)
    refine sim_ord_call (T := []) (w0 := w0) 23 [.agg [LI x.prio, LI x.day, LI x.id], .agg [LI y.prio, LI y.day, LI y.id]] (by kernel_rfl) ?_
    refine Calls.mono (rkBefore_any _ _ _) ?_
    rintro e402 w402 ⟨rfl, hb402⟩
    have hR402 := hR401.call hb402 (LB (decide (rkC x y < 0)))
    refine BackO.of (LB (decide (rkC x y < 0))) hR402 rfl ?_
    refine sim_ordN 1 [] hR402 (by kernel_rfl) trivial (fun ρ403 w403 hm403 hR403 => ?_)
    refine sim_knowO hR403 21 (decide (rkC x y < 0)) false (by kernel_rfl) (by assumption) (fun hR404 => ?_)
    refine sim_ordN 7 [] hR404 (by kernel_rfl) trivial (fun ρ405 w405 hm405 hR405 => ?_)
    refine sim_ord_call (T := []) (w0 := w0) 23 [.agg [LI x.prio, LI x.day, LI x.id], .agg [LI y.prio, LI y.day, LI y.id]] (by kernel_rfl) ?_
    refine Calls.mono (rkBefore_any _ _ _) ?_
    rintro e406 w406 ⟨rfl, hb406⟩
    have hR406 := hR405.call hb406 (LB (decide (rkC x y < 0)))
    refine BackO.of (LB (decide (rkC x y < 0))) hR406 rfl ?_
    refine sim_ordN 2 [] hR406 (by kernel_rfl) trivial (fun ρ407 w407 hm407 hR407 => ?_)
    refine sim_forkO hR407 31 (!decide (rkC x y < 0)) (by kernel_rfl) (fun hq408 hR408 => ?_) (fun hq408 hR408 => ?_)
    have hq408 := nb_t hq408
    have hq408 := of_decide_eq_false hq408
    refine sim_ordN 5 [] hR408 (by kernel_rfl) trivial (fun ρ409 w409 hm409 hR409 => ?_)
    refine sim_ord_call (T := []) (w0 := w0) 23 [.agg [LI y.prio, LI y.day, LI y.id], .agg [LI x.prio, LI x.day, LI x.id]] (by kernel_rfl) ?_
    refine Calls.mono (rkBefore_any _ _ _) ?_
    rintro e410 w410 ⟨rfl, hb410⟩
    have hR410 := hR409.call hb410 (LB (decide (rkC y x < 0)))
    refine BackO.of (LB (decide (rkC y x < 0))) hR410 rfl ?_
    refine sim_ordN 5 [] hR410 (by kernel_rfl) trivial (fun ρ411 w411 hm411 hR411 => ?_)
    refine sim_forkO hR411 42 (!(!decide (rkC y x < 0)) == (x.prio == y.prio && (x.day == y.day && (x.id == y.id && true)))) (by kernel_rfl) (fun hq412 hR412 => ?_) (fun hq412 hR412 => ?_)
    have hq412 := nb_t hq412
    have hq412 := of_decide_eq_false hq412
    refine sim_ordN 20 [] hR412 (by kernel_rfl) trivial (fun ρ413 w413 hm413 hR413 => ?_)
    refine sim_ord_endR hR413 (by kernel_rfl) (fun hR414 => ?_)
    refine sim_run 5 [] (hR414.cast (by kernel_rfl)) (by kernel_rfl) trivial (fun ρ415 w415 hm415 hR415 => ?_)
    refine sim_ret (LB false) hR415 (by kernel_rfl) (by kernel_rfl) ?_
    exact ⟨retv_bool (by clear hR415 hm415 hR414 hR413 hm413 hR412 hR411 hm411 hR410 hb410 hR409 hm409 hR408 hR407 hm407 hR406 hb406 hR405 hm405 hR404 hR403 hm403 hR402 hb402 hR401 hm401 hR400 hR; grind []), hR415.toBelow⟩
    have hq412 := nb_f hq412
    have hq412 := of_decide_eq_true hq412
    refine sim_ordN 2 [] hR412 (by kernel_rfl) trivial (fun ρ416 w416 hm416 hR416 => ?_)
    refine sim_ord_call (T := []) (w0 := w0) 23 [.agg [LI x.prio, LI x.day, LI x.id], .agg [LI y.prio, LI y.day, LI y.id]] (by kernel_rfl) ?_
    refine Calls.mono (rkBefore_any _ _ _) ?_
    rintro e417 w417 ⟨rfl, hb417⟩
    have hR417 := hR416.call hb417 (LB (decide (rkC x y < 0)))
    refine BackO.of (LB (decide (rkC x y < 0))) hR417 rfl ?_
    refine sim_ordN 1 [] hR417 (by kernel_rfl) trivial (fun ρ418 w418 hm418 hR418 => ?_)
    refine sim_knowO hR418 46 (decide (rkC x y < 0)) false (by kernel_rfl) (by assumption) (fun hR419 => ?_)
    refine sim_ordN 14 [] hR419 (by kernel_rfl) trivial (fun ρ420 w420 hm420 hR420 => ?_)
    refine sim_ord_call (T := []) (w0 := w0) 23 [.agg [LI x.prio, LI x.day, LI x.id], .agg [LI x.prio, LI x.day, LI x.id]] (by kernel_rfl) ?_
    refine Calls.mono (rkBefore_any _ _ _) ?_
    rintro e421 w421 ⟨rfl, hb421⟩
    have hR421 := hR420.call hb421 (LB (decide (rkC x x < 0)))
    refine BackO.of (LB (decide (rkC x x < 0))) hR421 rfl ?_
    refine sim_ordN 1 [] hR421 (by kernel_rfl) trivial (fun ρ422 w422 hm422 hR422 => ?_)
    refine sim_ord_endR hR422 (by kernel_rfl) (fun hR423 => ?_)
    refine sim_know 62 (decide (rkC x x < 0)) false (by kernel_rfl) (by assumption) ?_
    refine sim_run 4 [] (hR423.cast (by kernel_rfl)) (by kernel_rfl) trivial (fun ρ424 w424 hm424 hR424 => ?_)
    rotate_left
    have hq408 := nb_f hq408
    have hq408 := of_decide_eq_true hq408
    refine sim_ordN 13 [] hR408 (by kernel_rfl) trivial (fun ρ425 w425 hm425 hR425 => ?_)
    refine sim_ord_call (T := []) (w0 := w0) 23 [.agg [LI x.prio, LI x.day, LI x.id], .agg [LI y.prio, LI y.day, LI y.id]] (by kernel_rfl) ?_
    refine Calls.mono (rkBefore_any _ _ _) ?_
    rintro e426 w426 ⟨rfl, hb426⟩
    have hR426 := hR425.call hb426 (LB (decide (rkC x y < 0)))
    refine BackO.of (LB (decide (rkC x y < 0))) hR426 rfl ?_
    refine sim_ordN 1 [] hR426 (by kernel_rfl) trivial (fun ρ427 w427 hm427 hR427 => ?_)
    refine sim_knowO hR427 46 (decide (rkC x y < 0)) true (by kernel_rfl) (by assumption) (fun hR428 => ?_)
    refine sim_ordN 2 [] hR428 (by kernel_rfl) trivial (fun ρ429 w429 hm429 hR429 => ?_)
    refine sim_ord_call (T := []) (w0 := w0) 23 [.agg [LI y.prio, LI y.day, LI y.id], .agg [LI z.prio, LI z.day, LI z.id]] (by kernel_rfl) ?_
    refine Calls.mono (rkBefore_any _ _ _) ?_
    rintro e430 w430 ⟨rfl, hb430⟩
    have hR430 := hR429.call hb430 (LB (decide (rkC y z < 0)))
    refine BackO.of (LB (decide (rkC y z < 0))) hR430 rfl ?_
    refine sim_ordN 2 [] hR430 (by kernel_rfl) trivial (fun ρ431 w431 hm431 hR431 => ?_)
    refine sim_knowO hR431 51 (decide (rkC y z < 0)) true (by kernel_rfl) (decide_eq_true (by omega)) (fun hR432 => ?_)
    refine sim_ordN 2 [] hR432 (by kernel_rfl) trivial (fun ρ433 w433 hm433 hR433 => ?_)
    refine sim_ord_call (T := []) (w0 := w0) 23 [.agg [LI x.prio, LI x.day, LI x.id], .agg [LI z.prio, LI z.day, LI z.id]] (by kernel_rfl) ?_
    refine Calls.mono (rkBefore_any _ _ _) ?_
    rintro e434 w434 ⟨rfl, hb434⟩
    have hR434 := hR433.call hb434 (LB (decide (rkC x z < 0)))
    refine BackO.of (LB (decide (rkC x z < 0))) hR434 rfl ?_
    refine sim_ordN 4 [] hR434 (by kernel_rfl) trivial (fun ρ435 w435 hm435 hR435 => ?_)
    refine sim_forkO hR435 58 (!decide (rkC x z < 0)) (by kernel_rfl) (fun hq436 hR436 => ?_) (fun hq436 hR436 => ?_)
    have hq436 := nb_t hq436
    have hq436 := of_decide_eq_false hq436
    refine sim_ordN 4 [] hR436 (by kernel_rfl) trivial (fun ρ437 w437 hm437 hR437 => ?_)
    refine sim_ord_endR hR437 (by kernel_rfl) (fun hR438 => ?_)
    refine sim_run 5 [] (hR438.cast (by kernel_rfl)) (by kernel_rfl) trivial (fun ρ439 w439 hm439 hR439 => ?_)
    refine sim_ret (LB false) hR439 (by kernel_rfl) (by kernel_rfl) ?_
    exact ⟨retv_bool (by clear hR439 hm439 hR438 hR437 hm437 hR436 hR435 hm435 hR434 hb434 hR433 hm433 hR432 hR431 hm431 hR430 hb430 hR429 hm429 hR428 hR427 hm427 hR426 hb426 hR425 hm425 hR408 hR407 hm407 hR406 hb406 hR405 hm405 hR404 hR403 hm403 hR402 hb402 hR401 hm401 hR400 hR; grind []), hR439.toBelow⟩
    have hq436 := nb_f hq436
    have hq436 := of_decide_eq_true hq436
    refine sim_ordN 2 [] hR436 (by kernel_rfl) trivial (fun ρ440 w440 hm440 hR440 => ?_)
    refine sim_ord_call (T := []) (w0 := w0) 23 [.agg [LI x.prio, LI x.day, LI x.id], .agg [LI x.prio, LI x.day, LI x.id]] (by kernel_rfl) ?_
    refine Calls.mono (rkBefore_any _ _ _) ?_
    rintro e441 w441 ⟨rfl, hb441⟩
    have hR441 := hR440.call hb441 (LB (decide (rkC x x < 0)))
    refine BackO.of (LB (decide (rkC x x < 0))) hR441 rfl ?_
    refine sim_ordN 1 [] hR441 (by kernel_rfl) trivial (fun ρ442 w442 hm442 hR442 => ?_)
    refine sim_ord_endR hR442 (by kernel_rfl) (fun hR443 => ?_)
    refine sim_know 62 (decide (rkC x x < 0)) true (by kernel_rfl) (decide_eq_true (by omega)) ?_
    refine sim_run 5 [] (hR443.cast (by kernel_rfl)) (by kernel_rfl) trivial (fun ρ444 w444 hm444 hR444 => ?_)
    refine sim_ret (LB false) hR444 (by kernel_rfl) (by kernel_rfl) ?_
    exact ⟨retv_bool (by clear hR444 hm444 hR443 hR442 hm442 hR441 hb441 hR440 hm440 hR436 hR435 hm435 hR434 hb434 hR433 hm433 hR432 hR431 hm431 hR430 hb430 hR429 hm429 hR428 hR427 hm427 hR426 hb426 hR425 hm425 hR408 hR407 hm407 hR406 hb406 hR405 hm405 hR404 hR403 hm403 hR402 hb402 hR401 hm401 hR400 hR; grind []), hR444.toBelow⟩
    
    refine sim_to (regK Try.f7 5) (tmplJ Try.f7.ntmps 0 [(3, .v (.slice A n c))]) [] (by kernel_rfl) (by kernel_rfl) (by kernel_rfl) (fun d6 => ?_)
    exact hfin _ _ d6 ((by assumption : Rel _ _ _ _ _).none_)
end

section
open Go Go.RowKit
abbrev tmEq (a b : Tm) : Bool := a.party == b.party && (a.account == b.account && (a.money == b.money && (a.other == b.other && (a.deliver == b.deliver && (a.asset == b.asset && (a.ccy == b.ccy && (a.ref == b.ref && (a.qty == b.qty && (a.amount == b.amount && (a.day == b.day && (a.trade == b.trade && true)))))))))))
abbrev inEq (a b : In) : Bool := a.id == b.id && (tmEq a.term b.term && (a.prio == b.prio && (a.part == b.part && (a.held == b.held && (a.wish == b.wish && (a.state == b.state && (a.mate == b.mate && (a.done == b.done && (a.paid == b.paid && true)))))))))
def cntI (x : In) (l : List In) : Int := (l.countP fun y => inEq y x : Nat)
theorem cntI_snoc {x y : In} {l : List In} {k : Nat} (h : l[k]? = some y) {b : Bool} (hb : inEq y x = b) : cntI x (l.take (k + 1)) = cntI x (l.take k) + if b = true then 1 else 0 := by
  unfold cntI
  rw [List.take_add_one, h, List.countP_append]
  show ((_ + List.countP _ [y] : Nat) : Int) = _
  rw [List.countP_singleton, hb]
  cases b <;> simp
theorem cntI_le (x : In) (l : List In) : 0 ≤ cntI x l ∧ cntI x l ≤ l.length := by
  unfold cntI
  have := List.countP_le_length (p := fun y => inEq y x) (l := l)
  omega
attribute [local irreducible] run goO leaveK someK nextK nextT nextOT nextOD loopBody loopRest loopK fillJ tmplOf tmplJ mergeT At AtO drawOk ordOf gateOf callC callO topOp topO idxOf appOf storeOf clearOf sliceOf calleeOf calleeO topQ idxQ newRowOf resL stepOp seek
set_option maxRecDepth 100000 in
set_option maxHeartbeats 4000000 in
theorem so_row {Q : Exit → Act → World → Prop} {R : Ending → World → Prop} [hB : Body Try.prog Q Try.f7 R] {ρ : Nm} {w0 w : World} {A : Option Addr} {n c cs gs i B3 : Nat} {l s : List In} {x : In} (hR : Rel [] w0 ρ [] w) (hrd : Reads w0 w0.heap.size 21 A n (insts l)) (hso : Own ρ [] w B3 55 21 (.slice (some ⟨gs, 0, none⟩) n cs) n (insts s)) (hp : s.Perm l) (hx : l[i]? = some x) (hi : i < n) (hn : n ≤ 60) (d : Nat → Value)
    (hfin : ∀ (c' : Cfg) (ρ' : Nm) (w' : World), c'.k = [] → mergeT (tmplJ Try.f7.ntmps 0 [(3, .v (.slice A n c)), (9, .v (.slice (some ⟨gs, 0, none⟩) n cs)), (11, LI ((i : Int) + 1))]) c'.tmps = c'.tmps → (tmplJ Try.f7.ntmps 0 [(3, .v (.slice A n c)), (9, .v (.slice (some ⟨gs, 0, none⟩) n cs)), (11, LI ((i : Int) + 1))]).length = c'.tmps.length → Rel [] w0 ρ' c'.rs w' → Own ρ' c'.rs w' B3 55 21 (.slice (some ⟨gs, 0, none⟩) n cs) n (insts s) → At Try.prog Q c' ρ' w') :
    At Try.prog Q ⟨regK Try.f7 16, fillJ (tmplJ Try.f7.ntmps 0 [(3, .v (.slice A n c)), (9, .v (.slice (some ⟨gs, 0, none⟩) n cs)), (11, LI (i : Int))]) d 0, []⟩ ρ w := by
  have hll := hrd.insts_len
  have hsl : s.length = n := by rw [hp.length_eq, hll]
  refine sim_see x.cells i 0 (by kernel_rfl) (xss := l.map In.cells) (by rw [List.getElem?_map, hx]; rfl) (by rw [← List.flatMap_def]; exact hrd) (by intro z hz; obtain ⟨o, _, rfl⟩ := List.mem_map.1 hz; rfl) (by omega) hi (Nat.le_refl _) (by simp) hR (by kernel_rfl) (fun ga oa ρE eA hgT hgl hmE eE hRE => ?_)
  subst eA
  have hso := hso.moved hmE
  have hag := hRE.ag_ 1 (by kernel_rfl)
  refine sim_run 8 [] (hRE.cast (by kernel_rfl)) (by kernel_rfl) trivial (fun ρ100 w100 hm100 hR100 => ?_)
  have hso := hso.moved (hm100.castL (by kernel_rfl))
  have hag := hag.moved (hm100.castL (by kernel_rfl))
  
  have eE := (hag.at_ 0 (by omega)).trans eE
  refine sim_loop (ι := Nat × Int) (T := []) (w0 := w0) (0, 0) [3, 9, 11] (fun q => [(12, LI q.2), (13, LI q.1)]) (fun _ => [⟨x.cells.map .v, false⟩]) (fun q w1 => q.1 ≤ n ∧ q.2 = cntI x (s.take q.1) - cntI x (l.take q.1) ∧ Own ρ100 [⟨x.cells.map .v, false⟩] w1 B3 55 21 (.slice (some ⟨gs, 0, none⟩) n cs) n (insts s)) (fun q => n - q.1) (by kernel_rfl) (by kernel_rfl) ((by assumption : Rel _ _ _ _ _).cast (by kernel_rfl)) ⟨Nat.zero_le _, rfl, hso.castR (by kernel_rfl)⟩ ?_
  iterate 8 (try clear hso)
  iterate 8 (try clear hag)
  rintro ⟨k, v⟩ d2 w2 hR2 ⟨hk, hv, hso⟩
  dsimp only at hk hv hso
  have hag := hR2.ag_ 1 (by kernel_rfl)
  by_cases hlt : k < n
  · obtain ⟨y, hy⟩ : ∃ y, s[k]? = some y := ⟨_, List.getElem?_eq_getElem (by omega)⟩
    obtain ⟨z, hz⟩ : ∃ z, l[k]? = some z := ⟨_, List.getElem?_eq_getElem (by omega)⟩
    refine sim_seeO (xss := s.map In.cells) (sz := 21) y.cells k 1 (by kernel_rfl) (by rw [List.getElem?_map, hy]; rfl) (by rw [← List.flatMap_def]; exact hso) (by intro y hy; obtain ⟨o, _, rfl⟩ := List.mem_map.1 hy; rfl) (by omega) hlt hR2 (by kernel_rfl) (fun ρF hmF eF hRF => ?_)
    have hso := hso.moved hmF
    have hag := hag.moved hmF
    have hagF := hRF.ag_ 2 (by kernel_rfl)
    refine sim_see z.cells k 2 (by kernel_rfl) (xss := l.map In.cells) (by rw [List.getElem?_map, hz]; rfl) (by rw [← List.flatMap_def]; exact hrd) (by intro z hz; obtain ⟨o, _, rfl⟩ := List.mem_map.1 hz; rfl) (by omega) hlt (Nat.le_refl _) (by simp) hRF (by kernel_rfl) (fun gb ob ρG eA hgT hgl2 hmG eG hRG => ?_)
    injection eA with eA
    injection eA with eg eo
    subst eg eo
    have hso := hso.moved hmG
    have hag := hag.moved hmG
    have eF := (hmG.at_ 1 (by kernel_rfl)).trans eF
    have eE2 := (hag.at_ 0 (by omega)).trans eE
    have hag3 := hRG.ag_ 3 (by kernel_rfl)
    have hc1 := cntI_le x (s.take k)
    have hc2 := cntI_le x (l.take k)
    rw [List.length_take] at hc1 hc2
    have hvb : -60 ≤ v ∧ v ≤ 60 := by omega
    cases hb1 : inEq y x with
    | true =>
      cases hb2 : inEq z x with
      | true =>
        have hv2 : v + 1 - 1 = cntI x (s.take (k + 1)) - cntI x (l.take (k + 1)) := by rw [cntI_snoc hy hb1, cntI_snoc hz hb2, hv]; simp; omega
        refine sim_run 8 [] (hRG.cast (by kernel_rfl)) (by kernel_rfl) trivial (fun ρ200 w200 hm200 hR200 => ?_)
        have hso := hso.moved (hm200.castL (by kernel_rfl))
        have hag := hag.moved (hm200.castL (by kernel_rfl))
        have hag3 := hag3.moved (hm200.castL (by kernel_rfl))
        refine sim_know 99 (decide ((↑(k, v).fst : Int) < (↑n : Int))) true (by kernel_rfl) (decide_eq_true (by omega)) ?_
        refine sim_run 6 [] (hR200.cast (by kernel_rfl)) (by kernel_rfl) trivial (fun ρ201 w201 hm201 hR201 => ?_)
        have hso := hso.moved (hm201.castL (by kernel_rfl))
        have hag := hag.moved (hm201.castL (by kernel_rfl))
        have hag3 := hag3.moved (hm201.castL (by kernel_rfl))
        refine sim_draw [] (by kernel_rfl) (by kernel_rfl) hR201 (fun hR202 => ?_)
        have hso := hso.drew
        refine sim_ordN 2 [] hR202 (by kernel_rfl) trivial (fun ρ203 w203 hm203 hR203 => ?_)
        have hag := hag.moved (hm203.castL (by kernel_rfl))
        have hag3 := hag3.moved (hm203.castL (by kernel_rfl))
        have hso := hso.moved (hm203.castL (by kernel_rfl))
        refine sim_ord_index (.v (.slice (some ⟨gs, 0, none⟩) n cs)) n 21 k 1 0 (by kernel_rfl) (by omega) (by omega) rfl hR203 (by simp only [Nm.at_, hag3.at_ 1 (by omega), eF, Nat.add_zero, Nat.zero_add, Int.toNat_natCast]) (fun hR204 => ?_)
        refine sim_ordN 3 [] hR204 (by kernel_rfl) trivial (fun ρ205 w205 hm205 hR205 => ?_)
        have hag := hag.moved (hm205.castL (by kernel_rfl))
        have hag3 := hag3.moved (hm205.castL (by kernel_rfl))
        have hso := hso.moved (hm205.castL (by kernel_rfl))
        refine sim_ord_index (.v (.slice (some ⟨ga, oa, none⟩) n c)) n 21 i 0 0 (by kernel_rfl) (by omega) (by omega) rfl hR205 (by simp only [Nm.at_, hag3.at_ 0 (by omega), eE2, Nat.add_zero, Int.toNat_natCast]) (fun hR207 => ?_)
        refine sim_ordN 2 [] hR207 (by kernel_rfl) trivial (fun ρ208 w208 hm208 hR208 => ?_)
        have hag := hag.moved (hm208.castL (by kernel_rfl))
        have hag3 := hag3.moved (hm208.castL (by kernel_rfl))
        have hso := hso.moved (hm208.castL (by kernel_rfl))
        refine sim_ord_endR hR208 (by kernel_rfl) (fun hR209 => ?_)
        refine sim_know 110 (y.id == x.id && (y.term.party == x.term.party && (y.term.account == x.term.account && (y.term.money == x.term.money && (y.term.other == x.term.other && (y.term.deliver == x.term.deliver && (y.term.asset == x.term.asset && (y.term.ccy == x.term.ccy && (y.term.ref == x.term.ref && (y.term.qty == x.term.qty && (y.term.amount == x.term.amount && (y.term.day == x.term.day && (y.term.trade == x.term.trade && true))))))))))) && (y.prio == x.prio && (y.part == x.part && (y.held == x.held && (y.wish == x.wish && (y.state == x.state && (y.mate == x.mate && (y.done == x.done && (y.paid == x.paid && true)))))))))) true (by kernel_rfl) (by assumption) ?_
        refine sim_run 7 [⟨21, 1, LI (IntKind.i64.wrap ((k, v).snd + 1)), LI ((k, v).snd + 1)⟩] (hR209.cast (by kernel_rfl)) (by kernel_rfl) ⟨eqi (IntWalk.i64_in _ (by omega)), trivial⟩ (fun ρ210 w210 hm210 hR210 => ?_)
        have hag := hag.moved (hm210.castL (by kernel_rfl))
        have hag3 := hag3.moved (hm210.castL (by kernel_rfl))
        have hso := hso.moved (hm210.castL (by kernel_rfl))
        refine sim_draw [] (by kernel_rfl) (by kernel_rfl) hR210 (fun hR211 => ?_)
        have hso := hso.drew
        refine sim_ordN 2 [] hR211 (by kernel_rfl) trivial (fun ρ212 w212 hm212 hR212 => ?_)
        have hag := hag.moved (hm212.castL (by kernel_rfl))
        have hag3 := hag3.moved (hm212.castL (by kernel_rfl))
        have hso := hso.moved (hm212.castL (by kernel_rfl))
        refine sim_ord_index (.v (.slice (some ⟨ga, oa, none⟩) n c)) n 21 k 2 0 (by kernel_rfl) (by omega) (by omega) rfl hR212 (by simp only [Nm.at_, hag3.at_ 2 (by omega), eG, Nat.add_zero, Int.toNat_natCast]) (fun hR214 => ?_)
        refine sim_ordN 3 [] hR214 (by kernel_rfl) trivial (fun ρ215 w215 hm215 hR215 => ?_)
        have hag := hag.moved (hm215.castL (by kernel_rfl))
        have hag3 := hag3.moved (hm215.castL (by kernel_rfl))
        have hso := hso.moved (hm215.castL (by kernel_rfl))
        refine sim_ord_index (.v (.slice (some ⟨ga, oa, none⟩) n c)) n 21 i 0 0 (by kernel_rfl) (by omega) (by omega) rfl hR215 (by simp only [Nm.at_, hag3.at_ 0 (by omega), eE2, Nat.add_zero, Int.toNat_natCast]) (fun hR217 => ?_)
        refine sim_ordN 2 [] hR217 (by kernel_rfl) trivial (fun ρ218 w218 hm218 hR218 => ?_)
        have hag := hag.moved (hm218.castL (by kernel_rfl))
        have hag3 := hag3.moved (hm218.castL (by kernel_rfl))
        have hso := hso.moved (hm218.castL (by kernel_rfl))
        refine sim_ord_endR hR218 (by kernel_rfl) (fun hR219 => ?_)
        refine sim_know 121 (z.id == x.id && (z.term.party == x.term.party && (z.term.account == x.term.account && (z.term.money == x.term.money && (z.term.other == x.term.other && (z.term.deliver == x.term.deliver && (z.term.asset == x.term.asset && (z.term.ccy == x.term.ccy && (z.term.ref == x.term.ref && (z.term.qty == x.term.qty && (z.term.amount == x.term.amount && (z.term.day == x.term.day && (z.term.trade == x.term.trade && true))))))))))) && (z.prio == x.prio && (z.part == x.part && (z.held == x.held && (z.wish == x.wish && (z.state == x.state && (z.mate == x.mate && (z.done == x.done && (z.paid == x.paid && true)))))))))) true (by kernel_rfl) (by assumption) ?_
        refine sim_run 12 [⟨23, 1, LI (IntKind.i64.wrap ((k, v).snd + 1 - 1)), LI ((k, v).snd + 1 - 1)⟩, ⟨19, 1, LI (IntKind.i64.wrap ((↑(k, v).fst : Int) + 1)), LI ((↑(k, v).fst : Int) + 1)⟩] (hR219.cast (by kernel_rfl)) (by kernel_rfl) ⟨eqi (IntWalk.i64_in _ (by omega)), eqi (IntWalk.i64_in _ (by omega)), trivial⟩ (fun ρ220 w220 hm220 hR220 => ?_)
        have hag := hag.moved (hm220.castL (by kernel_rfl))
        have hag3 := hag3.moved (hm220.castL (by kernel_rfl))
        have hso := hso.moved (hm220.castL (by kernel_rfl))
        
        exact sim_again (k + 1, v + 1 - 1) (by kernel_rfl) (by show n - (k + 1) < n - k; omega) (by kernel_rfl) (by kernel_rfl) (by kernel_rfl) hag.ag (Rel.cast (by assumption) (by kernel_rfl)) (by kernel_rfl) (by kernel_rfl) ⟨hlt, hv2, hso.cut hag rfl (by kernel_rfl)⟩
      | false =>
        have hv2 : v + 1 = cntI x (s.take (k + 1)) - cntI x (l.take (k + 1)) := by rw [cntI_snoc hy hb1, cntI_snoc hz hb2, hv]; simp; omega
        refine sim_run 8 [] (hRG.cast (by kernel_rfl)) (by kernel_rfl) trivial (fun ρ300 w300 hm300 hR300 => ?_)
        have hso := hso.moved (hm300.castL (by kernel_rfl))
        have hag := hag.moved (hm300.castL (by kernel_rfl))
        have hag3 := hag3.moved (hm300.castL (by kernel_rfl))
        refine sim_know 99 (decide ((↑(k, v).fst : Int) < (↑n : Int))) true (by kernel_rfl) (decide_eq_true (by omega)) ?_
        refine sim_run 6 [] (hR300.cast (by kernel_rfl)) (by kernel_rfl) trivial (fun ρ301 w301 hm301 hR301 => ?_)
        have hso := hso.moved (hm301.castL (by kernel_rfl))
        have hag := hag.moved (hm301.castL (by kernel_rfl))
        have hag3 := hag3.moved (hm301.castL (by kernel_rfl))
        refine sim_draw [] (by kernel_rfl) (by kernel_rfl) hR301 (fun hR302 => ?_)
        have hso := hso.drew
        refine sim_ordN 2 [] hR302 (by kernel_rfl) trivial (fun ρ303 w303 hm303 hR303 => ?_)
        have hag := hag.moved (hm303.castL (by kernel_rfl))
        have hag3 := hag3.moved (hm303.castL (by kernel_rfl))
        have hso := hso.moved (hm303.castL (by kernel_rfl))
        refine sim_ord_index (.v (.slice (some ⟨gs, 0, none⟩) n cs)) n 21 k 1 0 (by kernel_rfl) (by omega) (by omega) rfl hR303 (by simp only [Nm.at_, hag3.at_ 1 (by omega), eF, Nat.add_zero, Nat.zero_add, Int.toNat_natCast]) (fun hR304 => ?_)
        refine sim_ordN 3 [] hR304 (by kernel_rfl) trivial (fun ρ305 w305 hm305 hR305 => ?_)
        have hag := hag.moved (hm305.castL (by kernel_rfl))
        have hag3 := hag3.moved (hm305.castL (by kernel_rfl))
        have hso := hso.moved (hm305.castL (by kernel_rfl))
        refine sim_ord_index (.v (.slice (some ⟨ga, oa, none⟩) n c)) n 21 i 0 0 (by kernel_rfl) (by omega) (by omega) rfl hR305 (by simp only [Nm.at_, hag3.at_ 0 (by omega), eE2, Nat.add_zero, Int.toNat_natCast]) (fun hR307 => ?_)
        refine sim_ordN 2 [] hR307 (by kernel_rfl) trivial (fun ρ308 w308 hm308 hR308 => ?_)
        have hag := hag.moved (hm308.castL (by kernel_rfl))
        have hag3 := hag3.moved (hm308.castL (by kernel_rfl))
        have hso := hso.moved (hm308.castL (by kernel_rfl))
        refine sim_ord_endR hR308 (by kernel_rfl) (fun hR309 => ?_)
        refine sim_know 110 (y.id == x.id && (y.term.party == x.term.party && (y.term.account == x.term.account && (y.term.money == x.term.money && (y.term.other == x.term.other && (y.term.deliver == x.term.deliver && (y.term.asset == x.term.asset && (y.term.ccy == x.term.ccy && (y.term.ref == x.term.ref && (y.term.qty == x.term.qty && (y.term.amount == x.term.amount && (y.term.day == x.term.day && (y.term.trade == x.term.trade && true))))))))))) && (y.prio == x.prio && (y.part == x.part && (y.held == x.held && (y.wish == x.wish && (y.state == x.state && (y.mate == x.mate && (y.done == x.done && (y.paid == x.paid && true)))))))))) true (by kernel_rfl) (by assumption) ?_
        refine sim_run 7 [⟨21, 1, LI (IntKind.i64.wrap ((k, v).snd + 1)), LI ((k, v).snd + 1)⟩] (hR309.cast (by kernel_rfl)) (by kernel_rfl) ⟨eqi (IntWalk.i64_in _ (by omega)), trivial⟩ (fun ρ310 w310 hm310 hR310 => ?_)
        have hag := hag.moved (hm310.castL (by kernel_rfl))
        have hag3 := hag3.moved (hm310.castL (by kernel_rfl))
        have hso := hso.moved (hm310.castL (by kernel_rfl))
        refine sim_draw [] (by kernel_rfl) (by kernel_rfl) hR310 (fun hR311 => ?_)
        have hso := hso.drew
        refine sim_ordN 2 [] hR311 (by kernel_rfl) trivial (fun ρ312 w312 hm312 hR312 => ?_)
        have hag := hag.moved (hm312.castL (by kernel_rfl))
        have hag3 := hag3.moved (hm312.castL (by kernel_rfl))
        have hso := hso.moved (hm312.castL (by kernel_rfl))
        refine sim_ord_index (.v (.slice (some ⟨ga, oa, none⟩) n c)) n 21 k 2 0 (by kernel_rfl) (by omega) (by omega) rfl hR312 (by simp only [Nm.at_, hag3.at_ 2 (by omega), eG, Nat.add_zero, Int.toNat_natCast]) (fun hR314 => ?_)
        refine sim_ordN 3 [] hR314 (by kernel_rfl) trivial (fun ρ315 w315 hm315 hR315 => ?_)
        have hag := hag.moved (hm315.castL (by kernel_rfl))
        have hag3 := hag3.moved (hm315.castL (by kernel_rfl))
        have hso := hso.moved (hm315.castL (by kernel_rfl))
        refine sim_ord_index (.v (.slice (some ⟨ga, oa, none⟩) n c)) n 21 i 0 0 (by kernel_rfl) (by omega) (by omega) rfl hR315 (by simp only [Nm.at_, hag3.at_ 0 (by omega), eE2, Nat.add_zero, Int.toNat_natCast]) (fun hR317 => ?_)
        refine sim_ordN 2 [] hR317 (by kernel_rfl) trivial (fun ρ318 w318 hm318 hR318 => ?_)
        have hag := hag.moved (hm318.castL (by kernel_rfl))
        have hag3 := hag3.moved (hm318.castL (by kernel_rfl))
        have hso := hso.moved (hm318.castL (by kernel_rfl))
        refine sim_ord_endR hR318 (by kernel_rfl) (fun hR319 => ?_)
        refine sim_know 121 (z.id == x.id && (z.term.party == x.term.party && (z.term.account == x.term.account && (z.term.money == x.term.money && (z.term.other == x.term.other && (z.term.deliver == x.term.deliver && (z.term.asset == x.term.asset && (z.term.ccy == x.term.ccy && (z.term.ref == x.term.ref && (z.term.qty == x.term.qty && (z.term.amount == x.term.amount && (z.term.day == x.term.day && (z.term.trade == x.term.trade && true))))))))))) && (z.prio == x.prio && (z.part == x.part && (z.held == x.held && (z.wish == x.wish && (z.state == x.state && (z.mate == x.mate && (z.done == x.done && (z.paid == x.paid && true)))))))))) false (by kernel_rfl) (by assumption) ?_
        refine sim_run 8 [⟨19, 1, LI (IntKind.i64.wrap ((↑(k, v).fst : Int) + 1)), LI ((↑(k, v).fst : Int) + 1)⟩] (hR319.cast (by kernel_rfl)) (by kernel_rfl) ⟨eqi (IntWalk.i64_in _ (by omega)), trivial⟩ (fun ρ320 w320 hm320 hR320 => ?_)
        have hag := hag.moved (hm320.castL (by kernel_rfl))
        have hag3 := hag3.moved (hm320.castL (by kernel_rfl))
        have hso := hso.moved (hm320.castL (by kernel_rfl))
        
        exact sim_again (k + 1, v + 1) (by kernel_rfl) (by show n - (k + 1) < n - k; omega) (by kernel_rfl) (by kernel_rfl) (by kernel_rfl) hag.ag (Rel.cast (by assumption) (by kernel_rfl)) (by kernel_rfl) (by kernel_rfl) ⟨hlt, hv2, hso.cut hag rfl (by kernel_rfl)⟩
    | false =>
      cases hb2 : inEq z x with
      | true =>
        have hv2 : v - 1 = cntI x (s.take (k + 1)) - cntI x (l.take (k + 1)) := by rw [cntI_snoc hy hb1, cntI_snoc hz hb2, hv]; simp; omega
        refine sim_run 8 [] (hRG.cast (by kernel_rfl)) (by kernel_rfl) trivial (fun ρ400 w400 hm400 hR400 => ?_)
        have hso := hso.moved (hm400.castL (by kernel_rfl))
        have hag := hag.moved (hm400.castL (by kernel_rfl))
        have hag3 := hag3.moved (hm400.castL (by kernel_rfl))
        refine sim_know 99 (decide ((↑(k, v).fst : Int) < (↑n : Int))) true (by kernel_rfl) (decide_eq_true (by omega)) ?_
        refine sim_run 6 [] (hR400.cast (by kernel_rfl)) (by kernel_rfl) trivial (fun ρ401 w401 hm401 hR401 => ?_)
        have hso := hso.moved (hm401.castL (by kernel_rfl))
        have hag := hag.moved (hm401.castL (by kernel_rfl))
        have hag3 := hag3.moved (hm401.castL (by kernel_rfl))
        refine sim_draw [] (by kernel_rfl) (by kernel_rfl) hR401 (fun hR402 => ?_)
        have hso := hso.drew
        refine sim_ordN 2 [] hR402 (by kernel_rfl) trivial (fun ρ403 w403 hm403 hR403 => ?_)
        have hag := hag.moved (hm403.castL (by kernel_rfl))
        have hag3 := hag3.moved (hm403.castL (by kernel_rfl))
        have hso := hso.moved (hm403.castL (by kernel_rfl))
        refine sim_ord_index (.v (.slice (some ⟨gs, 0, none⟩) n cs)) n 21 k 1 0 (by kernel_rfl) (by omega) (by omega) rfl hR403 (by simp only [Nm.at_, hag3.at_ 1 (by omega), eF, Nat.add_zero, Nat.zero_add, Int.toNat_natCast]) (fun hR404 => ?_)
        refine sim_ordN 3 [] hR404 (by kernel_rfl) trivial (fun ρ405 w405 hm405 hR405 => ?_)
        have hag := hag.moved (hm405.castL (by kernel_rfl))
        have hag3 := hag3.moved (hm405.castL (by kernel_rfl))
        have hso := hso.moved (hm405.castL (by kernel_rfl))
        refine sim_ord_index (.v (.slice (some ⟨ga, oa, none⟩) n c)) n 21 i 0 0 (by kernel_rfl) (by omega) (by omega) rfl hR405 (by simp only [Nm.at_, hag3.at_ 0 (by omega), eE2, Nat.add_zero, Int.toNat_natCast]) (fun hR407 => ?_)
        refine sim_ordN 2 [] hR407 (by kernel_rfl) trivial (fun ρ408 w408 hm408 hR408 => ?_)
        have hag := hag.moved (hm408.castL (by kernel_rfl))
        have hag3 := hag3.moved (hm408.castL (by kernel_rfl))
        have hso := hso.moved (hm408.castL (by kernel_rfl))
        refine sim_ord_endR hR408 (by kernel_rfl) (fun hR409 => ?_)
        refine sim_know 110 (y.id == x.id && (y.term.party == x.term.party && (y.term.account == x.term.account && (y.term.money == x.term.money && (y.term.other == x.term.other && (y.term.deliver == x.term.deliver && (y.term.asset == x.term.asset && (y.term.ccy == x.term.ccy && (y.term.ref == x.term.ref && (y.term.qty == x.term.qty && (y.term.amount == x.term.amount && (y.term.day == x.term.day && (y.term.trade == x.term.trade && true))))))))))) && (y.prio == x.prio && (y.part == x.part && (y.held == x.held && (y.wish == x.wish && (y.state == x.state && (y.mate == x.mate && (y.done == x.done && (y.paid == x.paid && true)))))))))) false (by kernel_rfl) (by assumption) ?_
        refine sim_run 3 [] (hR409.cast (by kernel_rfl)) (by kernel_rfl) trivial (fun ρ410 w410 hm410 hR410 => ?_)
        have hag := hag.moved (hm410.castL (by kernel_rfl))
        have hag3 := hag3.moved (hm410.castL (by kernel_rfl))
        have hso := hso.moved (hm410.castL (by kernel_rfl))
        refine sim_draw [] (by kernel_rfl) (by kernel_rfl) hR410 (fun hR411 => ?_)
        have hso := hso.drew
        refine sim_ordN 2 [] hR411 (by kernel_rfl) trivial (fun ρ412 w412 hm412 hR412 => ?_)
        have hag := hag.moved (hm412.castL (by kernel_rfl))
        have hag3 := hag3.moved (hm412.castL (by kernel_rfl))
        have hso := hso.moved (hm412.castL (by kernel_rfl))
        refine sim_ord_index (.v (.slice (some ⟨ga, oa, none⟩) n c)) n 21 k 2 0 (by kernel_rfl) (by omega) (by omega) rfl hR412 (by simp only [Nm.at_, hag3.at_ 2 (by omega), eG, Nat.add_zero, Int.toNat_natCast]) (fun hR414 => ?_)
        refine sim_ordN 3 [] hR414 (by kernel_rfl) trivial (fun ρ415 w415 hm415 hR415 => ?_)
        have hag := hag.moved (hm415.castL (by kernel_rfl))
        have hag3 := hag3.moved (hm415.castL (by kernel_rfl))
        have hso := hso.moved (hm415.castL (by kernel_rfl))
        refine sim_ord_index (.v (.slice (some ⟨ga, oa, none⟩) n c)) n 21 i 0 0 (by kernel_rfl) (by omega) (by omega) rfl hR415 (by simp only [Nm.at_, hag3.at_ 0 (by omega), eE2, Nat.add_zero, Int.toNat_natCast]) (fun hR417 => ?_)
        refine sim_ordN 2 [] hR417 (by kernel_rfl) trivial (fun ρ418 w418 hm418 hR418 => ?_)
        have hag := hag.moved (hm418.castL (by kernel_rfl))
        have hag3 := hag3.moved (hm418.castL (by kernel_rfl))
        have hso := hso.moved (hm418.castL (by kernel_rfl))
        refine sim_ord_endR hR418 (by kernel_rfl) (fun hR419 => ?_)
        refine sim_know 121 (z.id == x.id && (z.term.party == x.term.party && (z.term.account == x.term.account && (z.term.money == x.term.money && (z.term.other == x.term.other && (z.term.deliver == x.term.deliver && (z.term.asset == x.term.asset && (z.term.ccy == x.term.ccy && (z.term.ref == x.term.ref && (z.term.qty == x.term.qty && (z.term.amount == x.term.amount && (z.term.day == x.term.day && (z.term.trade == x.term.trade && true))))))))))) && (z.prio == x.prio && (z.part == x.part && (z.held == x.held && (z.wish == x.wish && (z.state == x.state && (z.mate == x.mate && (z.done == x.done && (z.paid == x.paid && true)))))))))) true (by kernel_rfl) (by assumption) ?_
        refine sim_run 12 [⟨23, 1, LI (IntKind.i64.wrap ((k, v).snd - 1)), LI ((k, v).snd - 1)⟩, ⟨19, 1, LI (IntKind.i64.wrap ((↑(k, v).fst : Int) + 1)), LI ((↑(k, v).fst : Int) + 1)⟩] (hR419.cast (by kernel_rfl)) (by kernel_rfl) ⟨eqi (IntWalk.i64_in _ (by omega)), eqi (IntWalk.i64_in _ (by omega)), trivial⟩ (fun ρ420 w420 hm420 hR420 => ?_)
        have hag := hag.moved (hm420.castL (by kernel_rfl))
        have hag3 := hag3.moved (hm420.castL (by kernel_rfl))
        have hso := hso.moved (hm420.castL (by kernel_rfl))
        
        exact sim_again (k + 1, v - 1) (by kernel_rfl) (by show n - (k + 1) < n - k; omega) (by kernel_rfl) (by kernel_rfl) (by kernel_rfl) hag.ag (Rel.cast (by assumption) (by kernel_rfl)) (by kernel_rfl) (by kernel_rfl) ⟨hlt, hv2, hso.cut hag rfl (by kernel_rfl)⟩
      | false =>
        have hv2 : v = cntI x (s.take (k + 1)) - cntI x (l.take (k + 1)) := by rw [cntI_snoc hy hb1, cntI_snoc hz hb2, hv]; simp
        refine sim_run 8 [] (hRG.cast (by kernel_rfl)) (by kernel_rfl) trivial (fun ρ500 w500 hm500 hR500 => ?_)
        have hso := hso.moved (hm500.castL (by kernel_rfl))
        have hag := hag.moved (hm500.castL (by kernel_rfl))
        have hag3 := hag3.moved (hm500.castL (by kernel_rfl))
        refine sim_know 99 (decide ((↑(k, v).fst : Int) < (↑n : Int))) true (by kernel_rfl) (decide_eq_true (by omega)) ?_
        refine sim_run 6 [] (hR500.cast (by kernel_rfl)) (by kernel_rfl) trivial (fun ρ501 w501 hm501 hR501 => ?_)
        have hso := hso.moved (hm501.castL (by kernel_rfl))
        have hag := hag.moved (hm501.castL (by kernel_rfl))
        have hag3 := hag3.moved (hm501.castL (by kernel_rfl))
        refine sim_draw [] (by kernel_rfl) (by kernel_rfl) hR501 (fun hR502 => ?_)
        have hso := hso.drew
        refine sim_ordN 2 [] hR502 (by kernel_rfl) trivial (fun ρ503 w503 hm503 hR503 => ?_)
        have hag := hag.moved (hm503.castL (by kernel_rfl))
        have hag3 := hag3.moved (hm503.castL (by kernel_rfl))
        have hso := hso.moved (hm503.castL (by kernel_rfl))
        refine sim_ord_index (.v (.slice (some ⟨gs, 0, none⟩) n cs)) n 21 k 1 0 (by kernel_rfl) (by omega) (by omega) rfl hR503 (by simp only [Nm.at_, hag3.at_ 1 (by omega), eF, Nat.add_zero, Nat.zero_add, Int.toNat_natCast]) (fun hR504 => ?_)
        refine sim_ordN 3 [] hR504 (by kernel_rfl) trivial (fun ρ505 w505 hm505 hR505 => ?_)
        have hag := hag.moved (hm505.castL (by kernel_rfl))
        have hag3 := hag3.moved (hm505.castL (by kernel_rfl))
        have hso := hso.moved (hm505.castL (by kernel_rfl))
        refine sim_ord_index (.v (.slice (some ⟨ga, oa, none⟩) n c)) n 21 i 0 0 (by kernel_rfl) (by omega) (by omega) rfl hR505 (by simp only [Nm.at_, hag3.at_ 0 (by omega), eE2, Nat.add_zero, Int.toNat_natCast]) (fun hR507 => ?_)
        refine sim_ordN 2 [] hR507 (by kernel_rfl) trivial (fun ρ508 w508 hm508 hR508 => ?_)
        have hag := hag.moved (hm508.castL (by kernel_rfl))
        have hag3 := hag3.moved (hm508.castL (by kernel_rfl))
        have hso := hso.moved (hm508.castL (by kernel_rfl))
        refine sim_ord_endR hR508 (by kernel_rfl) (fun hR509 => ?_)
        refine sim_know 110 (y.id == x.id && (y.term.party == x.term.party && (y.term.account == x.term.account && (y.term.money == x.term.money && (y.term.other == x.term.other && (y.term.deliver == x.term.deliver && (y.term.asset == x.term.asset && (y.term.ccy == x.term.ccy && (y.term.ref == x.term.ref && (y.term.qty == x.term.qty && (y.term.amount == x.term.amount && (y.term.day == x.term.day && (y.term.trade == x.term.trade && true))))))))))) && (y.prio == x.prio && (y.part == x.part && (y.held == x.held && (y.wish == x.wish && (y.state == x.state && (y.mate == x.mate && (y.done == x.done && (y.paid == x.paid && true)))))))))) false (by kernel_rfl) (by assumption) ?_
        refine sim_run 3 [] (hR509.cast (by kernel_rfl)) (by kernel_rfl) trivial (fun ρ510 w510 hm510 hR510 => ?_)
        have hag := hag.moved (hm510.castL (by kernel_rfl))
        have hag3 := hag3.moved (hm510.castL (by kernel_rfl))
        have hso := hso.moved (hm510.castL (by kernel_rfl))
        refine sim_draw [] (by kernel_rfl) (by kernel_rfl) hR510 (fun hR511 => ?_)
        have hso := hso.drew
        refine sim_ordN 2 [] hR511 (by kernel_rfl) trivial (fun ρ512 w512 hm512 hR512 => ?_)
        have hag := hag.moved (hm512.castL (by kernel_rfl))
        have hag3 := hag3.moved (hm512.castL (by kernel_rfl))
        have hso := hso.moved (hm512.castL (by kernel_rfl))
        refine sim_ord_index (.v (.slice (some ⟨ga, oa, none⟩) n c)) n 21 k 2 0 (by kernel_rfl) (by omega) (by omega) rfl hR512 (by simp only [Nm.at_, hag3.at_ 2 (by omega), eG, Nat.add_zero, Int.toNat_natCast]) (fun hR514 => ?_)
        refine sim_ordN 3 [] hR514 (by kernel_rfl) trivial (fun ρ515 w515 hm515 hR515 => ?_)
        have hag := hag.moved (hm515.castL (by kernel_rfl))
        have hag3 := hag3.moved (hm515.castL (by kernel_rfl))
        have hso := hso.moved (hm515.castL (by kernel_rfl))
        refine sim_ord_index (.v (.slice (some ⟨ga, oa, none⟩) n c)) n 21 i 0 0 (by kernel_rfl) (by omega) (by omega) rfl hR515 (by simp only [Nm.at_, hag3.at_ 0 (by omega), eE2, Nat.add_zero, Int.toNat_natCast]) (fun hR517 => ?_)
        refine sim_ordN 2 [] hR517 (by kernel_rfl) trivial (fun ρ518 w518 hm518 hR518 => ?_)
        have hag := hag.moved (hm518.castL (by kernel_rfl))
        have hag3 := hag3.moved (hm518.castL (by kernel_rfl))
        have hso := hso.moved (hm518.castL (by kernel_rfl))
        refine sim_ord_endR hR518 (by kernel_rfl) (fun hR519 => ?_)
        refine sim_know 121 (z.id == x.id && (z.term.party == x.term.party && (z.term.account == x.term.account && (z.term.money == x.term.money && (z.term.other == x.term.other && (z.term.deliver == x.term.deliver && (z.term.asset == x.term.asset && (z.term.ccy == x.term.ccy && (z.term.ref == x.term.ref && (z.term.qty == x.term.qty && (z.term.amount == x.term.amount && (z.term.day == x.term.day && (z.term.trade == x.term.trade && true))))))))))) && (z.prio == x.prio && (z.part == x.part && (z.held == x.held && (z.wish == x.wish && (z.state == x.state && (z.mate == x.mate && (z.done == x.done && (z.paid == x.paid && true)))))))))) false (by kernel_rfl) (by assumption) ?_
        refine sim_run 8 [⟨19, 1, LI (IntKind.i64.wrap ((↑(k, v).fst : Int) + 1)), LI ((↑(k, v).fst : Int) + 1)⟩] (hR519.cast (by kernel_rfl)) (by kernel_rfl) ⟨eqi (IntWalk.i64_in _ (by omega)), trivial⟩ (fun ρ520 w520 hm520 hR520 => ?_)
        have hag := hag.moved (hm520.castL (by kernel_rfl))
        have hag3 := hag3.moved (hm520.castL (by kernel_rfl))
        have hso := hso.moved (hm520.castL (by kernel_rfl))
        
        exact sim_again (k + 1, v) (by kernel_rfl) (by show n - (k + 1) < n - k; omega) (by kernel_rfl) (by kernel_rfl) (by kernel_rfl) hag.ag (Rel.cast (by assumption) (by kernel_rfl)) (by kernel_rfl) (by kernel_rfl) ⟨hlt, hv2, hso.cut hag rfl (by kernel_rfl)⟩
  · have hv0 : v = 0 := by
      rw [List.take_of_length_le (by omega), List.take_of_length_le (by omega)] at hv
      unfold cntI at hv
      rw [hp.countP_eq] at hv
      omega
    subst hv0
    refine sim_run 8 [] (hR2.cast (by kernel_rfl)) (by kernel_rfl) trivial (fun ρ600 w600 hm600 hR600 => ?_)
    have hso := hso.moved (hm600.castL (by kernel_rfl))
    have hag := hag.moved (hm600.castL (by kernel_rfl))
    refine sim_know 99 (decide ((↑(k, 0).fst : Int) < (↑n : Int))) false (by kernel_rfl) (decide_eq_false (by omega)) ?_
    refine sim_run 1 [] (hR600.cast (by kernel_rfl)) (by kernel_rfl) trivial (fun ρ601 w601 hm601 hR601 => ?_)
    have hso := hso.moved (hm601.castL (by kernel_rfl))
    have hag := hag.moved (hm601.castL (by kernel_rfl))
    refine sim_leave (by kernel_rfl) ?_
    refine sim_run 13 [⟨15, 1, LI (IntKind.i64.wrap ((↑i : Int) + 1)), LI ((↑i : Int) + 1)⟩] (hR601.cast (by kernel_rfl)) (by kernel_rfl) ⟨eqi (IntWalk.i64_in _ (by omega)), trivial⟩ (fun ρ602 w602 hm602 hR602 => ?_)
    have hso := hso.moved (hm602.castL (by kernel_rfl))
    have hag := hag.moved (hm602.castL (by kernel_rfl))
    
    exact hfin _ _ _ (by kernel_rfl) (by kernel_rfl) (by kernel_rfl) (Rel.cast (by assumption) (by kernel_rfl)) (hso.castR (by kernel_rfl))
end

section
open Go Go.RowKit
theorem srt_pair {s : List In} (hs : Srt (ltC insC) s) {i : Nat} (hi : 1 ≤ i) {x y : In} (hx : s[i - 1]? = some x) (hy : s[i]? = some y) : decide (rkC (rkOf y) (rkOf x) < 0) = false := srt_get hs (by omega) hx hy
attribute [local irreducible] run goO leaveK someK nextK nextT nextOT nextOD loopBody loopRest loopK fillJ tmplOf tmplJ mergeT At AtO drawOk ordOf gateOf callC callO topOp topO idxOf appOf storeOf clearOf sliceOf calleeOf calleeO topQ idxQ newRowOf resL stepOp seek
set_option maxRecDepth 100000 in
set_option maxHeartbeats 4000000 in
theorem so_pair {Q : Exit → Act → World → Prop} {R : Ending → World → Prop} [hB : Body Try.prog Q Try.f7 R] {ρ : Nm} {w0 w : World} {A : Option Addr} {n c cs gs i B3 : Nat} {s : List In} (hR : Rel [] w0 ρ [] w) (hso : Own ρ [] w B3 55 21 (.slice (some ⟨gs, 0, none⟩) n cs) n (insts s)) (hsl : s.length = n) (hs : Srt (ltC insC) s) (hi1 : 1 ≤ i) (hi : i < n) (hn : n ≤ 60) (d : Nat → Value)
    (hfin : ∀ (c' : Cfg) (ρ' : Nm) (w' : World), c'.k = [] → mergeT (tmplJ Try.f7.ntmps 0 [(3, .v (.slice A n c)), (9, .v (.slice (some ⟨gs, 0, none⟩) n cs)), (10, LI ((i : Int) + 1))]) c'.tmps = c'.tmps → (tmplJ Try.f7.ntmps 0 [(3, .v (.slice A n c)), (9, .v (.slice (some ⟨gs, 0, none⟩) n cs)), (10, LI ((i : Int) + 1))]).length = c'.tmps.length → Rel [] w0 ρ' c'.rs w' → Own ρ' c'.rs w' B3 55 21 (.slice (some ⟨gs, 0, none⟩) n cs) n (insts s) → At Try.prog Q c' ρ' w') :
    At Try.prog Q ⟨regK Try.f7 11, fillJ (tmplJ Try.f7.ntmps 0 [(3, .v (.slice A n c)), (9, .v (.slice (some ⟨gs, 0, none⟩) n cs)), (10, LI (i : Int))]) d 0, []⟩ ρ w := by
  obtain ⟨y, hy⟩ : ∃ y, s[i]? = some y := ⟨_, List.getElem?_eq_getElem (by omega)⟩
  obtain ⟨x, hx⟩ : ∃ x, s[i - 1]? = some x := ⟨_, List.getElem?_eq_getElem (by omega)⟩
  have hb := srt_pair hs hi1 hx hy
  refine sim_seeO (xss := s.map In.cells) (sz := 21) y.cells i 0 (by kernel_rfl) (by rw [List.getElem?_map, hy]; rfl) (by rw [← List.flatMap_def]; exact hso) (by intro y hy; obtain ⟨o, _, rfl⟩ := List.mem_map.1 hy; rfl) (by omega) hi hR (by kernel_rfl) (fun ρE hmE eE hRE => ?_)
  have hso := hso.moved hmE
  refine sim_seeO (xss := s.map In.cells) (sz := 21) x.cells (i - 1) 1 (by kernel_rfl) (by rw [List.getElem?_map, hx]; rfl) (by rw [← List.flatMap_def]; exact hso) (by intro y hy; obtain ⟨o, _, rfl⟩ := List.mem_map.1 hy; rfl) (by omega) (by omega) hRE (by kernel_rfl) (fun ρF hmF eF hRF => ?_)
  have hso := hso.moved hmF
  have eE := (hmF.at_ 0 (by kernel_rfl)).trans eE
  have hag := hRF.ag_ 2 (by kernel_rfl)
  have hti : ((i : Int) - 1).toNat = i - 1 := by omega
  refine sim_drawT (Tr.mk [(0, false), (1, false), (2, false), (3, false), (6, false), (7, false), (8, false), (9, false), (10, false)] (Ks.cons 4 (Tr.mk [] (Ks.cons 5 (Tr.mk [(11, true), (12, true), (13, true)] Ks.nil) (Ks.cons 11 (Tr.mk [(5, true), (12, true), (13, true)] Ks.nil) Ks.nil))) (Ks.cons 11 (Tr.mk [(4, true), (5, true), (12, true), (13, true)] Ks.nil) Ks.nil))) (some 13) (by kernel_rfl) (by kernel_rfl) (hRF.cast (by kernel_rfl)) (fun hR100 => ?_)
  have hso := hso.drew
  refine sim_ordN 2 [] hR100 (by kernel_rfl) trivial (fun ρ101 w101 hm101 hR101 => ?_)
  have hag := hag.moved (hm101.castL (by kernel_rfl))
  have hso := hso.moved (hm101.castL (by kernel_rfl))
  refine sim_ord_index (.v (.slice (some ⟨gs, 0, none⟩) n cs)) n 21 i 0 0 (by kernel_rfl) (by omega) (by omega) rfl hR101 (by simp only [Nm.at_, hag.at_ 0 (by omega), eE, Nat.add_zero, Nat.zero_add, Int.toNat_natCast]) (fun hR102 => ?_)
  refine sim_ordN 4 [⟨11, 8, LI (IntKind.i64.wrap ((↑i : Int) - 1)), LI ((↑i : Int) - 1)⟩] hR102 (by kernel_rfl) ⟨eqi (IntWalk.i64_in _ (by omega)), trivial⟩ (fun ρ103 w103 hm103 hR103 => ?_)
  have hag := hag.moved (hm103.castL (by kernel_rfl))
  have hso := hso.moved (hm103.castL (by kernel_rfl))
  refine sim_ord_index (.v (.slice (some ⟨gs, 0, none⟩) n cs)) n 21 ((i : Int) - 1) 1 0 (by kernel_rfl) (by omega) (by omega) rfl hR103 (by simp only [Nm.at_, hag.at_ 1 (by omega), eF, hti, Nat.add_zero, Nat.zero_add]) (fun hR104 => ?_)
  refine sim_ordN 1 [] hR104 (by kernel_rfl) trivial (fun ρ105 w105 hm105 hR105 => ?_)
  have hag := hag.moved (hm105.castL (by kernel_rfl))
  have hso := hso.moved (hm105.castL (by kernel_rfl))
  refine sim_fork2 (by kernel_rfl) (by kernel_rfl) (by kernel_rfl) (by kernel_rfl) hR105 (fun hR106 => ?_) (fun hR106 => ?_)
  refine sim_ordN 1 [] hR106 (by kernel_rfl) trivial (fun ρ107 w107 hm107 hR107 => ?_)
  have hag := hag.moved (hm107.castL (by kernel_rfl))
  have hso := hso.moved (hm107.castL (by kernel_rfl))
  refine sim_fork2 (by kernel_rfl) (by kernel_rfl) (by kernel_rfl) (by kernel_rfl) hR107 (fun hR108 => ?_) (fun hR108 => ?_)
  refine sim_ord_call (T := []) (w0 := w0) 25 [.slc 2 0 1 1] (by kernel_rfl) ?_
  refine Calls.mono (of_one _ _ _ (Rel.reads (RelO.rel hR108) (n := 2) (size := 21) (m := 1) (vs := insts [y]) (b := true) (by kernel_rfl) rfl)) ?_
  rintro e109 w109 ⟨rfl, hb109⟩
  have hR109 := hR108.call hb109 (.agg ((rkOf y).cells.map .v))
  have hso := hso.below hb109
  refine BackO.of (.agg ((rkOf y).cells.map .v)) hR109 rfl ?_
  refine sim_ordN 1 [] hR109 (by kernel_rfl) trivial (fun ρ110 w110 hm110 hR110 => ?_)
  have hag := hag.moved (hm110.castL (by kernel_rfl))
  have hso := hso.moved (hm110.castL (by kernel_rfl))
  refine sim_ord_call (T := []) (w0 := w0) 25 [.slc 3 0 1 1] (by kernel_rfl) ?_
  refine Calls.mono (of_one _ _ _ (Rel.reads (RelO.rel hR110) (n := 3) (size := 21) (m := 1) (vs := insts [x]) (b := true) (by kernel_rfl) rfl)) ?_
  rintro e111 w111 ⟨rfl, hb111⟩
  have hR111 := hR110.call hb111 (.agg ((rkOf x).cells.map .v))
  have hso := hso.below hb111
  refine BackO.of (.agg ((rkOf x).cells.map .v)) hR111 rfl ?_
  refine sim_ord_call (T := []) (w0 := w0) 23 [.agg [LI ((rkOf y).prio), LI ((rkOf y).day), LI ((rkOf y).id)], .agg [LI ((rkOf x).prio), LI ((rkOf x).day), LI ((rkOf x).id)]] (by kernel_rfl) ?_
  refine Calls.mono (rkBefore_any _ _ _) ?_
  rintro e112 w112 ⟨rfl, hb112⟩
  have hR112 := hR111.call hb112 (LB (decide (rkC (rkOf y) (rkOf x) < 0)))
  have hso := hso.below hb112
  refine BackO.of (LB (decide (rkC (rkOf y) (rkOf x) < 0))) hR112 rfl ?_
  refine sim_fork0 (by kernel_rfl) (by kernel_rfl) hR112 (fun hR113 => ?_)
  refine sim_know 89 (decide (rkC (rkOf y) (rkOf x) < 0)) false (by kernel_rfl) (by assumption) ?_
  refine sim_run 8 [⟨10, 1, LI (IntKind.i64.wrap ((↑i : Int) + 1)), LI ((↑i : Int) + 1)⟩] (hR113.cast (by kernel_rfl)) (by kernel_rfl) ⟨eqi (IntWalk.i64_in _ (by omega)), trivial⟩ (fun ρ114 w114 hm114 hR114 => ?_)
  have hag := hag.moved (hm114.castL (by kernel_rfl))
  have hso := hso.moved (hm114.castL (by kernel_rfl))
  rotate_left
  refine sim_ordN 1 [] hR108 (by kernel_rfl) trivial (fun ρ115 w115 hm115 hR115 => ?_)
  have hag := hag.moved (hm115.castL (by kernel_rfl))
  have hso := hso.moved (hm115.castL (by kernel_rfl))
  refine sim_ord_call (T := []) (w0 := w0) 25 [.slc 2 0 1 1] (by kernel_rfl) ?_
  refine Calls.mono (of_one _ _ _ (Rel.reads (RelO.rel hR115) (n := 2) (size := 21) (m := 1) (vs := insts [y]) (b := true) (by kernel_rfl) rfl)) ?_
  rintro e116 w116 ⟨rfl, hb116⟩
  have hR116 := hR115.call hb116 (.agg ((rkOf y).cells.map .v))
  have hso := hso.below hb116
  refine BackO.of (.agg ((rkOf y).cells.map .v)) hR116 rfl ?_
  refine sim_ord_call (T := []) (w0 := w0) 25 [.slc 3 0 1 1] (by kernel_rfl) ?_
  refine Calls.mono (of_one _ _ _ (Rel.reads (RelO.rel hR116) (n := 3) (size := 21) (m := 1) (vs := insts [x]) (b := true) (by kernel_rfl) rfl)) ?_
  rintro e117 w117 ⟨rfl, hb117⟩
  have hR117 := hR116.call hb117 (.agg ((rkOf x).cells.map .v))
  have hso := hso.below hb117
  refine BackO.of (.agg ((rkOf x).cells.map .v)) hR117 rfl ?_
  refine sim_ord_call (T := []) (w0 := w0) 23 [.agg [LI ((rkOf y).prio), LI ((rkOf y).day), LI ((rkOf y).id)], .agg [LI ((rkOf x).prio), LI ((rkOf x).day), LI ((rkOf x).id)]] (by kernel_rfl) ?_
  refine Calls.mono (rkBefore_any _ _ _) ?_
  rintro e118 w118 ⟨rfl, hb118⟩
  have hR118 := hR117.call hb118 (LB (decide (rkC (rkOf y) (rkOf x) < 0)))
  have hso := hso.below hb118
  refine BackO.of (LB (decide (rkC (rkOf y) (rkOf x) < 0))) hR118 rfl ?_
  refine sim_fork0 (by kernel_rfl) (by kernel_rfl) hR118 (fun hR119 => ?_)
  refine sim_know 89 (decide (rkC (rkOf y) (rkOf x) < 0)) false (by kernel_rfl) (by assumption) ?_
  refine sim_run 8 [⟨10, 1, LI (IntKind.i64.wrap ((↑i : Int) + 1)), LI ((↑i : Int) + 1)⟩] (hR119.cast (by kernel_rfl)) (by kernel_rfl) ⟨eqi (IntWalk.i64_in _ (by omega)), trivial⟩ (fun ρ120 w120 hm120 hR120 => ?_)
  have hag := hag.moved (hm120.castL (by kernel_rfl))
  have hso := hso.moved (hm120.castL (by kernel_rfl))
  rotate_left
  refine sim_ordN 2 [] hR106 (by kernel_rfl) trivial (fun ρ121 w121 hm121 hR121 => ?_)
  have hag := hag.moved (hm121.castL (by kernel_rfl))
  have hso := hso.moved (hm121.castL (by kernel_rfl))
  refine sim_ord_call (T := []) (w0 := w0) 25 [.slc 3 0 1 1] (by kernel_rfl) ?_
  refine Calls.mono (of_one _ _ _ (Rel.reads (RelO.rel hR121) (n := 3) (size := 21) (m := 1) (vs := insts [y]) (b := true) (by kernel_rfl) rfl)) ?_
  rintro e122 w122 ⟨rfl, hb122⟩
  have hR122 := hR121.call hb122 (.agg ((rkOf y).cells.map .v))
  have hso := hso.below hb122
  refine BackO.of (.agg ((rkOf y).cells.map .v)) hR122 rfl ?_
  refine sim_ord_call (T := []) (w0 := w0) 25 [.slc 2 0 1 1] (by kernel_rfl) ?_
  refine Calls.mono (of_one _ _ _ (Rel.reads (RelO.rel hR122) (n := 2) (size := 21) (m := 1) (vs := insts [x]) (b := true) (by kernel_rfl) rfl)) ?_
  rintro e123 w123 ⟨rfl, hb123⟩
  have hR123 := hR122.call hb123 (.agg ((rkOf x).cells.map .v))
  have hso := hso.below hb123
  refine BackO.of (.agg ((rkOf x).cells.map .v)) hR123 rfl ?_
  refine sim_ord_call (T := []) (w0 := w0) 23 [.agg [LI ((rkOf y).prio), LI ((rkOf y).day), LI ((rkOf y).id)], .agg [LI ((rkOf x).prio), LI ((rkOf x).day), LI ((rkOf x).id)]] (by kernel_rfl) ?_
  refine Calls.mono (rkBefore_any _ _ _) ?_
  rintro e124 w124 ⟨rfl, hb124⟩
  have hR124 := hR123.call hb124 (LB (decide (rkC (rkOf y) (rkOf x) < 0)))
  have hso := hso.below hb124
  refine BackO.of (LB (decide (rkC (rkOf y) (rkOf x) < 0))) hR124 rfl ?_
  refine sim_fork0 (by kernel_rfl) (by kernel_rfl) hR124 (fun hR125 => ?_)
  refine sim_know 89 (decide (rkC (rkOf y) (rkOf x) < 0)) false (by kernel_rfl) (by assumption) ?_
  refine sim_run 8 [⟨10, 1, LI (IntKind.i64.wrap ((↑i : Int) + 1)), LI ((↑i : Int) + 1)⟩] (hR125.cast (by kernel_rfl)) (by kernel_rfl) ⟨eqi (IntWalk.i64_in _ (by omega)), trivial⟩ (fun ρ126 w126 hm126 hR126 => ?_)
  have hag := hag.moved (hm126.castL (by kernel_rfl))
  have hso := hso.moved (hm126.castL (by kernel_rfl))
  rotate_left
  
  all_goals exact hfin _ _ _ (by kernel_rfl) (by kernel_rfl) (by kernel_rfl) (Rel.cast (by assumption) (by kernel_rfl)) (hso.castR (by kernel_rfl))
end

section
open Go Go.RowKit
attribute [local irreducible] run goO leaveK someK nextK nextT nextOT nextOD loopBody loopRest loopK fillJ tmplOf tmplJ mergeT At AtO drawOk ordOf gateOf callC callO topOp topO idxOf appOf storeOf clearOf sliceOf calleeOf calleeO topQ idxQ newRowOf resL stepOp seek
set_option maxRecDepth 100000 in
set_option maxHeartbeats 4000000 in
theorem so_13 (w0 w : World) (A : Option Addr) (n c cs gs B3 : Nat) (l s : List In) (ρ : Nm) (hR : Rel [] w0 ρ [] w) (hrd : Reads w0 w0.heap.size 21 A n (insts l)) (hso : Own ρ [] w B3 55 21 (.slice (some ⟨gs, 0, none⟩) n cs) n (insts s)) (hp : s.Perm l) (hn : n ≤ 60) (d : Nat → Value) : At Try.prog (bodyPost Try.prog Try.f7 (fun e w' => e = .returned (.bool true) ∧ Below w0.heap.size w0 w')) ⟨regK Try.f7 13, fillJ (tmplJ Try.f7.ntmps 0 [(3, .v (.slice A n c)), (9, .v (.slice (some ⟨gs, 0, none⟩) n cs))]) d 0, []⟩ ρ w := by
  have hll := hrd.insts_len
  refine sim_run 3 [] (hR.cast (by kernel_rfl)) (by kernel_rfl) trivial (fun ρ100 w100 hm100 hR100 => ?_)
  have hso := hso.moved (hm100.castL (by kernel_rfl))
  
  refine sim_loop (ι := Nat) (T := []) (w0 := w0) 0 [3, 9] (fun i => [(11, LI i)]) (fun _ => []) (fun i w1 => i ≤ n ∧ Own ρ100 [] w1 B3 55 21 (.slice (some ⟨gs, 0, none⟩) n cs) n (insts s)) (fun i => n - i) (by kernel_rfl) (by kernel_rfl) ((by assumption : Rel _ _ _ _ _).cast (by kernel_rfl)) ⟨Nat.zero_le _, hso.castR (by kernel_rfl)⟩ ?_
  iterate 8 (try clear hso)
  rintro i d2 w2 hR2 ⟨hi, hso⟩
  by_cases hlt : i < n
  · obtain ⟨x, hx⟩ : ∃ x, l[i]? = some x := ⟨_, List.getElem?_eq_getElem (by omega)⟩
    refine sim_run 8 [] (hR2.cast (by kernel_rfl)) (by kernel_rfl) trivial (fun ρ200 w200 hm200 hR200 => ?_)
    have hso := hso.moved (hm200.castL (by kernel_rfl))
    refine sim_know 93 (decide ((↑i : Int) < (↑n : Int))) true (by kernel_rfl) (decide_eq_true (by omega)) ?_
    refine sim_run 6 [] (hR200.cast (by kernel_rfl)) (by kernel_rfl) trivial (fun ρ201 w201 hm201 hR201 => ?_)
    have hso := hso.moved (hm201.castL (by kernel_rfl))
    
    refine sim_to (regK Try.f7 16) (tmplJ Try.f7.ntmps 0 [(3, .v (.slice A n c)), (9, .v (.slice (some ⟨gs, 0, none⟩) n cs)), (11, LI (i : Int))]) [] (by kernel_rfl) (by kernel_rfl) (by kernel_rfl) (fun d3 => ?_)
    refine so_row ((by assumption : Rel _ _ _ _ _).cast (by kernel_rfl)) hrd (hso.castR (by kernel_rfl)) hp hx hlt hn d3 (fun c' ρ' w' q1 q2 q3 q4 q5 => ?_)
    exact sim_again (i + 1) q1 (by show n - (i + 1) < n - i; omega) ((congrArg (mergeT · c'.tmps) (by kernel_rfl)).trans q2) ((congrArg List.length (by kernel_rfl)).trans q3) (by kernel_rfl) Agree.zero q4 rfl (by kernel_rfl) ⟨hlt, q5.cut ⟨Agree.zero, Nat.zero_le _⟩ rfl rfl⟩
  · refine sim_run 8 [] (hR2.cast (by kernel_rfl)) (by kernel_rfl) trivial (fun ρ300 w300 hm300 hR300 => ?_)
    have hso := hso.moved (hm300.castL (by kernel_rfl))
    refine sim_know 93 (decide ((↑i : Int) < (↑n : Int))) false (by kernel_rfl) (decide_eq_false (by omega)) ?_
    refine sim_run 1 [] (hR300.cast (by kernel_rfl)) (by kernel_rfl) trivial (fun ρ301 w301 hm301 hR301 => ?_)
    have hso := hso.moved (hm301.castL (by kernel_rfl))
    refine sim_leave (by kernel_rfl) ?_
    refine sim_run 2 [] (hR301.cast (by kernel_rfl)) (by kernel_rfl) trivial (fun ρ302 w302 hm302 hR302 => ?_)
    have hso := hso.moved (hm302.castL (by kernel_rfl))
    refine sim_call 22 [] (by kernel_rfl) ?_
    refine Calls.mono (alive19_any _) ?_
    rintro e303 w303 ⟨rfl, hb303⟩
    have hR303 := hR302.below hb303
    have hso := hso.below hb303
    refine Back.of (LB true) hR303 rfl ?_
    refine sim_run 2 [] (hR303.cast (by kernel_rfl)) (by kernel_rfl) trivial (fun ρ304 w304 hm304 hR304 => ?_)
    have hso := hso.moved (hm304.castL (by kernel_rfl))
    refine sim_ret (LB true) hR304 (by kernel_rfl) (by kernel_rfl) ?_
    exact ⟨rfl, hR304.toBelow⟩
    
set_option maxRecDepth 100000 in
set_option maxHeartbeats 4000000 in
theorem so_5 (w0 w : World) (A : Option Addr) (n c : Nat) (l : List In) (ρ : Nm) (hR : Rel [] w0 ρ [] w) (hrd : Reads w0 w0.heap.size 21 A n (insts l)) (hA : A = none → n = 0 ∧ c = 0) (hok : ∀ x ∈ l, x.ok) (hn : n ≤ 60) (d : Nat → Value) : At Try.prog (bodyPost Try.prog Try.f7 (fun e w' => e = .returned (.bool true) ∧ Below w0.heap.size w0 w')) ⟨regK Try.f7 5, fillJ (tmplJ Try.f7.ntmps 0 [(3, .v (.slice A n c))]) d 0, []⟩ ρ w := by
  have hll := hrd.insts_len
  have hsl : (sortS l).length = n := by rw [← hll]; exact ssort_len _
  have hp : (sortS l).Perm l := ssort_perm _ l rfl
  have hsrt : Srt (ltC insC) (sortS l) := ssort_srt cmIn.weak _ l rfl
  have hb := hR.toBelow
  refine sim_run 1 [] (hR.cast (by kernel_rfl)) (by kernel_rfl) trivial (fun ρ400 w400 hm400 hR400 => ?_)
  
  have hb4 := (by assumption : Rel _ _ _ _ _).toBelow
  refine sim_call 24 [.v (.slice A n c)] (by kernel_rfl) ?_
  refine (seqSort_any A n c w0.heap.size l _ (hrd.belowN hb4 (Nat.le_refl _)) hb4.size (by omega) hA hok).mono ?_
  rintro e w5 ⟨As, cs, rfl, ho, hb5⟩
  have hR5 := hR400.below hb5
  have hso := Own.above hR400 ho (Nat.le_refl _)
  rw [hsl] at hso
  rw [hsl]
  refine Back.of (.v (.slice As n cs)) hR5 rfl ?_
  by_cases h0 : n = 0
  · subst h0
    obtain rfl := List.eq_nil_of_length_eq_zero hll
    refine sim_run 19 [] (hR5.cast (by kernel_rfl)) (by kernel_rfl) trivial (fun ρ500 w500 hm500 hR500 => ?_)
    have hso := hso.moved (hm500.castL (by kernel_rfl))
    refine sim_unroll 3 (by kernel_rfl) ?_
    refine sim_run 17 [] (hR500.cast (by kernel_rfl)) (by kernel_rfl) trivial (fun ρ501 w501 hm501 hR501 => ?_)
    have hso := hso.moved (hm501.castL (by kernel_rfl))
    refine sim_unroll 3 (by kernel_rfl) ?_
    refine sim_run 13 [] (hR501.cast (by kernel_rfl)) (by kernel_rfl) trivial (fun ρ502 w502 hm502 hR502 => ?_)
    have hso := hso.moved (hm502.castL (by kernel_rfl))
    refine sim_call 22 [] (by kernel_rfl) ?_
    refine Calls.mono (alive19_any _) ?_
    rintro e503 w503 ⟨rfl, hb503⟩
    have hR503 := hR502.below hb503
    have hso := hso.below hb503
    refine Back.of (LB true) hR503 rfl ?_
    refine sim_run 2 [] (hR503.cast (by kernel_rfl)) (by kernel_rfl) trivial (fun ρ504 w504 hm504 hR504 => ?_)
    have hso := hso.moved (hm504.castL (by kernel_rfl))
    refine sim_ret (LB true) hR504 (by kernel_rfl) (by kernel_rfl) ?_
    exact ⟨rfl, hR504.toBelow⟩
    
  · obtain ⟨gs, rfl⟩ : ∃ g, As = some ⟨g, 0, none⟩ := own_first hso.own (by omega)
    refine sim_run 11 [] (hR5.cast (by kernel_rfl)) (by kernel_rfl) trivial (fun ρ600 w600 hm600 hR600 => ?_)
    have hso := hso.moved (hm600.castL (by kernel_rfl))
    refine sim_know 69 ((↑n : Int) != (↑n : Int)) false (by kernel_rfl) (bne_eq_false_iff_eq.2 rfl) ?_
    refine sim_run 8 [] (hR600.cast (by kernel_rfl)) (by kernel_rfl) trivial (fun ρ601 w601 hm601 hR601 => ?_)
    have hso := hso.moved (hm601.castL (by kernel_rfl))
    
    refine sim_loop (ι := Nat) (T := []) (w0 := w0) 1 [3, 9] (fun i => [(10, LI i)]) (fun _ => []) (fun i w1 => (1 ≤ i ∧ i ≤ n) ∧ Own ρ601 [] w1 w400.heap.size 55 21 (.slice (some ⟨gs, 0, none⟩) n cs) n (insts (sortS l))) (fun i => n - i) (by kernel_rfl) (by kernel_rfl) ((by assumption : Rel _ _ _ _ _).cast (by kernel_rfl)) ⟨⟨by omega, by omega⟩, hso.castR (by kernel_rfl)⟩ ?_
    iterate 8 (try clear hso)
    rintro i d2 w2 hR2 ⟨⟨hi1, hi⟩, hso⟩
    by_cases hlt : i < n
    · refine sim_run 8 [] (hR2.cast (by kernel_rfl)) (by kernel_rfl) trivial (fun ρ900 w900 hm900 hR900 => ?_)
      have hso := hso.moved (hm900.castL (by kernel_rfl))
      refine sim_know 73 (decide ((↑i : Int) < (↑n : Int))) true (by kernel_rfl) (decide_eq_true (by omega)) ?_
      refine sim_run 5 [] (hR900.cast (by kernel_rfl)) (by kernel_rfl) trivial (fun ρ901 w901 hm901 hR901 => ?_)
      have hso := hso.moved (hm901.castL (by kernel_rfl))
      
      refine sim_to (regK Try.f7 11) (tmplJ Try.f7.ntmps 0 [(3, .v (.slice A n c)), (9, .v (.slice (some ⟨gs, 0, none⟩) n cs)), (10, LI (i : Int))]) [] (by kernel_rfl) (by kernel_rfl) (by kernel_rfl) (fun d3 => ?_)
      refine so_pair (w0 := w0) (hR901.cast (by kernel_rfl)) (hso.castR (by kernel_rfl)) hsl hsrt hi1 hlt hn d3 (fun c' ρ' w' q1 q2 q3 q4 q5 => ?_)
      exact sim_again (i + 1) q1 (by show n - (i + 1) < n - i; omega) ((congrArg (mergeT · c'.tmps) (by kernel_rfl)).trans q2) ((congrArg List.length (by kernel_rfl)).trans q3) (by kernel_rfl) Agree.zero q4 rfl (by kernel_rfl) ⟨⟨by omega, hlt⟩, q5.cut ⟨Agree.zero, Nat.zero_le _⟩ rfl rfl⟩
    · refine sim_run 8 [] (hR2.cast (by kernel_rfl)) (by kernel_rfl) trivial (fun ρ1000 w1000 hm1000 hR1000 => ?_)
      have hso := hso.moved (hm1000.castL (by kernel_rfl))
      refine sim_know 73 (decide ((↑i : Int) < (↑n : Int))) false (by kernel_rfl) (decide_eq_false (by omega)) ?_
      refine sim_run 1 [] (hR1000.cast (by kernel_rfl)) (by kernel_rfl) trivial (fun ρ1001 w1001 hm1001 hR1001 => ?_)
      have hso := hso.moved (hm1001.castL (by kernel_rfl))
      refine sim_leave (by kernel_rfl) ?_
      refine sim_run 3 [] (hR1001.cast (by kernel_rfl)) (by kernel_rfl) trivial (fun ρ1002 w1002 hm1002 hR1002 => ?_)
      have hso := hso.moved (hm1002.castL (by kernel_rfl))
      
      refine sim_to (regK Try.f7 13) (tmplJ Try.f7.ntmps 0 [(3, .v (.slice A n c)), (9, .v (.slice (some ⟨gs, 0, none⟩) n cs))]) [] (by kernel_rfl) (by kernel_rfl) (by kernel_rfl) (fun d3 => ?_)
      exact so_13 w0 _ A n c cs gs w400.heap.size l (sortS l) _ (hR1002.cast (by kernel_rfl)) hrd (hso.castR (by kernel_rfl)) hp hn d3
set_option maxRecDepth 100000 in
set_option maxHeartbeats 4000000 in
theorem seqOrders_walk (w : World) (x y z : Rk) (A : Option Addr) (n c : Nat) (l : List In) (hrd : Reads w w.heap.size 21 A n (insts l)) (hok : ∀ x ∈ l, x.ok) (hA : A = none → n = 0 ∧ c = 0) : Calls Try.prog 7 #[x.val, y.val, z.val, .slice A n c] w fun e w' => e = .returned (.bool true) ∧ Below w.heap.size w w' := by
  refine sim_enter Try.func7 ρ0 [.agg [LI x.prio, LI x.day, LI x.id], .agg [LI y.prio, LI y.day, LI y.id], .agg [LI z.prio, LI z.day, LI z.id], .v (.slice A n c)] [] (by kernel_rfl) rfl ?_
  have hR := Rel.start [] w ρ0
  by_cases hn : n ≤ 60
  · refine sim_run 14 [] (hR.cast (by kernel_rfl)) (by kernel_rfl) trivial (fun ρ700 w700 hm700 hR700 => ?_)
    refine sim_know 16 (decide ((↑n : Int) > 60)) false (by kernel_rfl) (decide_eq_false (by omega)) ?_
    refine sim_run 4 [] (hR700.cast (by kernel_rfl)) (by kernel_rfl) trivial (fun ρ701 w701 hm701 hR701 => ?_)
    
    refine sim_to (regK Try.f7 3) (tmplJ Try.f7.ntmps 0 [(3, .v (.slice A n c)), (4, .ptr 0 0), (5, .ptr 1 0), (6, .ptr 2 0)]) [⟨x.cells.map .v, true⟩, ⟨y.cells.map .v, true⟩, ⟨z.cells.map .v, true⟩] (by kernel_rfl) (by kernel_rfl) (by kernel_rfl) (fun d3 => ?_)
    rcases Int.lt_trichotomy (rkC x y) 0 with h | h | h
    · exact seqOrders_lt w _ x y z A n c _ ((by assumption : Rel _ _ _ _ _).cast (by kernel_rfl)) d3 h (fun ρ' w' d' hR' => so_5 w w' A n c l ρ' hR' hrd hA hok hn d')
    · exact seqOrders_eq w _ x y z A n c _ ((by assumption : Rel _ _ _ _ _).cast (by kernel_rfl)) d3 (rk_eq h) (fun ρ' w' d' hR' => so_5 w w' A n c l ρ' hR' hrd hA hok hn d')
    · exact seqOrders_gt w _ x y z A n c _ ((by assumption : Rel _ _ _ _ _).cast (by kernel_rfl)) d3 ((cmRk.anti y x).2 h) (fun ρ' w' d' hR' => so_5 w w' A n c l ρ' hR' hrd hA hok hn d')
  · refine sim_run 14 [] (hR.cast (by kernel_rfl)) (by kernel_rfl) trivial (fun ρ800 w800 hm800 hR800 => ?_)
    refine sim_know 16 (decide ((↑n : Int) > 60)) true (by kernel_rfl) (decide_eq_true (by omega)) ?_
    refine sim_run 3 [] (hR800.cast (by kernel_rfl)) (by kernel_rfl) trivial (fun ρ801 w801 hm801 hR801 => ?_)
    refine sim_call 22 [] (by kernel_rfl) ?_
    refine Calls.mono (alive19_any _) ?_
    rintro e802 w802 ⟨rfl, hb802⟩
    have hR802 := hR801.below hb802
    refine Back.of (LB true) hR802 rfl ?_
    refine sim_run 2 [] (hR802.cast (by kernel_rfl)) (by kernel_rfl) trivial (fun ρ803 w803 hm803 hR803 => ?_)
    refine sim_ret (LB true) hR803 (by kernel_rfl) (by kernel_rfl) ?_
    exact ⟨rfl, hR803.toBelow⟩
    
end
end Go.Proofs.Ytnfgndapalkbcaa
