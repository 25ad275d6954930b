/-
  (*Ledger).wrong: what is wrong with what is done to a part.
  (*Ledger).look: what postings do, or what is wrong with them.
  (*Ledger).Try; a key of its own; what stands of a ledger behind a change of its positions.
  (*Ledger).Apply: a transaction is done, or what is wrong with it is told.
-/
import Derived.Test.YtgbgedaedcofcaaPstAD
import Derived.Test.YtgbgedaedcofcaaPstB5
import Derived.Test.YtgbgedaedcofcaaPosHU
import Derived.Test.YtgbgedaedcofcaaClone
import Derived.Test.YtgbgedaedcofcaaDrawG
namespace Go.Proofs.Ytgbgedaedcofcaa
section
open Go Go.RowKit

def nowM (s : LSt) (k : Part) (z : Int) : Int := partM (getM s.l k.1) k.2 + z
theorem part_in {l : List (Ent Key B3)} (h : ∀ e ∈ l, okB e.val) (k : Key) (sub : Int) : 0 ≤ partM (getM l k) sub ∧ partM (getM l k) sub ≤ 1152921504606846976 := by
  unfold partM
  split
  · exact part_ok (getM_ok h k) sub
  · omega
def wrongM (s : LSt) (k : Part) (z : Int) (ov : Bool) : Int :=
  if k.2 = 0 ∧ z < 0 ∧ hasK k.1 s.lb = true then 35 else if nowM s k z < 0 ∨ (ov = true ∧ z < 0) then 30 else if 1152921504606846976 < nowM s k z ∨ ov = true then 12 else 0
def noBlk (s : LSt) (k : Part) (z : Int) : Prop := ¬ (k.2 = 0 ∧ z < 0 ∧ hasK k.1 s.lb = true)
section
variable {s : LSt} {k : Part} {z p : Int} {ov : Bool}
theorem w35 (h1 : k.2 = 0) (h2 : z < 0) (h3 : hasK k.1 s.lb = true) : wrongM s k z ov = 35 := if_pos ⟨h1, h2, h3⟩
theorem w30 (hp : partM (getM s.l k.1) k.2 = p) (hb : noBlk s k z) (h : p + z < 0 ∨ (ov = true ∧ z < 0)) : wrongM s k z ov = 30 := by
  unfold wrongM nowM
  rw [hp, if_neg hb, if_pos h]
theorem w12 (hp : partM (getM s.l k.1) k.2 = p) (hb : noBlk s k z) (h : ¬ (p + z < 0 ∨ (ov = true ∧ z < 0))) (h2 : 1152921504606846976 < p + z ∨ ov = true) : wrongM s k z ov = 12 := by
  unfold wrongM nowM
  rw [hp, if_neg hb, if_neg h, if_pos h2]
theorem w0 (hp : partM (getM s.l k.1) k.2 = p) (hb : noBlk s k z) (h : ¬ (p + z < 0 ∨ (ov = true ∧ z < 0))) (h2 : ¬ (1152921504606846976 < p + z ∨ ov = true)) : wrongM s k z ov = 0 := by
  unfold wrongM nowM
  rw [hp, if_neg hb, if_neg h, if_neg h2]
end
attribute [local irreducible] run goO leaveK someK nextK nextT nextOT nextOD loopBody loopRest loopK fillJ tmplOf tmplJ mergeT At AtO drawOk ordOf gateOf callC callO topOp topO idxOf appOf storeOf clearOf sliceOf calleeOf calleeO topQ idxQ newRowOf resL stepOp seek
set_option maxRecDepth 100000 in
set_option maxHeartbeats 4000000 in
theorem wrong_any (B gl : Nat) (s : LSt) (k : Part) (z : Int) (ov : Bool) (w : World) (h : LdV w B gl s) (hz : -1152921504606846976 ≤ z ∧ z ≤ 1152921504606846976) : Calls Try.prog 62 #[.pointer (some ⟨gl, 0, none⟩), .agg #[.string k.1.1, .string k.1.2, .int .i64 k.2, .int .i64 z, .bool ov]] w fun e w' => e = .returned (.int .i64 (wrongM s k z ov)) ∧ Below w.heap.size w w' := by
  obtain ⟨ρ, e0, hR⟩ := h.open_ false [] (fun h => by cases h)
  have hag := Rel.ag_ hR 1 (by kernel_rfl)
  have hpin := part_in h.pos.ok k.1 k.2
  refine sim_enter Try.func62 ρ [.ptr 0 0, .agg [LS k.1.1, LS k.1.2, LI k.2, LI z, LB ov]] [⟨s.cells.map .v, false⟩] (by kernel_rfl) (by simp only [denL, LV.den, Nm.at_, e0]) ?_
  have hld := h.in_ (cs := s.cells.map .v) e0
  generalize hp : partM (getM s.l k.1) k.2 = p at hpin
  refine sim_run 6 [] (hR.cast (by kernel_rfl)) (by kernel_rfl) trivial (fun ρ100 w100 hm100 hR100 => ?_)
  have hag := hag.moved (hm100.castL (by kernel_rfl))
  have hld := hld.moved (hm100.castL (by kernel_rfl))
  refine sim_draw [] (by kernel_rfl) (by kernel_rfl) hR100 (fun hR101 => ?_)
  have hld := hld.drew
  refine sim_ordN 12 [] hR101 (by kernel_rfl) trivial (fun ρ102 w102 hm102 hR102 => ?_)
  have hag := hag.moved (hm102.castL (by kernel_rfl))
  have hld := hld.moved (hm102.castL (by kernel_rfl))
  refine sim_ord_call (T := []) (w0 := w) 19 [.v (Value.pointer (some (Addr.mk s.g 0 none))), .agg [LS k.fst.fst, LS k.fst.snd], LI k.snd] (by kernel_rfl) ?_
  refine Calls.mono (part_po _ _ _ _ _ _ _ _ _ hld.ld.pos) ?_
  rw [show partM (getM s.l (k.1.1, k.1.2)) k.2 = p from hp]
  rintro e103 w103 ⟨rfl, hb103⟩
  have hR103 := hR102.call hb103 (LI p)
  have hld := hld.below hb103
  refine BackO.of (LI p) hR103 rfl ?_
  refine sim_ordN 2 [⟨1, 13, LI (IntKind.i64.wrap (p + z)), LI (p + z)⟩] hR103 (by kernel_rfl) ⟨eqi (IntWalk.i64_in _ (by omega)), trivial⟩ (fun ρ104 w104 hm104 hR104 => ?_)
  have hag := hag.moved (hm104.castL (by kernel_rfl))
  have hld := hld.moved (hm104.castL (by kernel_rfl))
  refine sim_ord_endR hR104 (by kernel_rfl) (fun hR105 => ?_)
  refine sim_run 4 [] (hR105.cast (by kernel_rfl)) (by kernel_rfl) trivial (fun ρ106 w106 hm106 hR106 => ?_)
  have hag := hag.moved (hm106.castL (by kernel_rfl))
  have hld := hld.moved (hm106.castL (by kernel_rfl))
  
  refine sim_run 5 [] hR106 (by kernel_rfl) trivial (fun ρ200 w200 hm200 hR200 => ?_)
  have hag := hag.moved hm200
  have hld := hld.moved hm200
  refine sim_fork 25 (k.snd == 0) (by kernel_rfl) (fun hq201 => ?_) (fun hq201 => ?_)
  have hq201 := of_decide_eq_true hq201
  refine sim_run 5 [] (hR200.cast (by kernel_rfl)) (by kernel_rfl) trivial (fun ρ202 w202 hm202 hR202 => ?_)
  have hag := hag.moved (hm202.castL (by kernel_rfl))
  have hld := hld.moved (hm202.castL (by kernel_rfl))
  refine sim_fork 30 (decide (z < 0)) (by kernel_rfl) (fun hq203 => ?_) (fun hq203 => ?_)
  have hq203 := of_decide_eq_true hq203
  refine sim_run 4 [] (hR202.cast (by kernel_rfl)) (by kernel_rfl) trivial (fun ρ204 w204 hm204 hR204 => ?_)
  have hag := hag.moved (hm204.castL (by kernel_rfl))
  have hld := hld.moved (hm204.castL (by kernel_rfl))
  refine sim_call 34 [.ptr 0 0, .agg [LS k.fst.fst, LS k.fst.snd]] (by kernel_rfl) ?_
  have ez0_205 := (hag.at_ 0 (by omega)).trans e0
  simp only [denL, LV.den, Nm.at_, ez0_205, Nat.add_zero]
  refine Calls.mono (blocked_any _ _ _ _ _ _ hld.ld) ?_
  rintro e205 w205 ⟨rfl, hb205⟩
  have hR205 := hR204.below hb205
  have hld := hld.below hb205
  refine Back.of (LB (hasK (k.fst.fst, k.fst.snd) s.lb)) hR205 rfl ?_
  refine sim_run 3 [] (hR205.cast (by kernel_rfl)) (by kernel_rfl) trivial (fun ρ206 w206 hm206 hR206 => ?_)
  have hag := hag.moved (hm206.castL (by kernel_rfl))
  have hld := hld.moved (hm206.castL (by kernel_rfl))
  refine sim_fork 20 (hasK (k.fst.fst, k.fst.snd) s.lb) (by kernel_rfl) (fun hq207 => ?_) (fun hq207 => ?_)
  refine sim_run 5 [] (hR206.cast (by kernel_rfl)) (by kernel_rfl) trivial (fun ρ208 w208 hm208 hR208 => ?_)
  have hag := hag.moved (hm208.castL (by kernel_rfl))
  have hld := hld.moved (hm208.castL (by kernel_rfl))
  refine sim_ret (LI 35) hR208 (by kernel_rfl) (by kernel_rfl) ?_
  rotate_left
  refine sim_run 6 [] (hR206.cast (by kernel_rfl)) (by kernel_rfl) trivial (fun ρ209 w209 hm209 hR209 => ?_)
  have hag := hag.moved (hm209.castL (by kernel_rfl))
  have hld := hld.moved (hm209.castL (by kernel_rfl))
  refine sim_fork 40 (decide (p + z < 0)) (by kernel_rfl) (fun hq210 => ?_) (fun hq210 => ?_)
  have hq210 := of_decide_eq_true hq210
  refine sim_run 15 [] (hR209.cast (by kernel_rfl)) (by kernel_rfl) trivial (fun ρ211 w211 hm211 hR211 => ?_)
  have hag := hag.moved (hm211.castL (by kernel_rfl))
  have hld := hld.moved (hm211.castL (by kernel_rfl))
  refine sim_ret (LI 30) hR211 (by kernel_rfl) (by kernel_rfl) ?_
  rotate_left
  have hq210 := of_decide_eq_false hq210
  refine sim_run 3 [] (hR209.cast (by kernel_rfl)) (by kernel_rfl) trivial (fun ρ212 w212 hm212 hR212 => ?_)
  have hag := hag.moved (hm212.castL (by kernel_rfl))
  have hld := hld.moved (hm212.castL (by kernel_rfl))
  refine sim_fork 43 (ov) (by kernel_rfl) (fun hq213 => ?_) (fun hq213 => ?_)
  refine sim_run 7 [] (hR212.cast (by kernel_rfl)) (by kernel_rfl) trivial (fun ρ214 w214 hm214 hR214 => ?_)
  have hag := hag.moved (hm214.castL (by kernel_rfl))
  have hld := hld.moved (hm214.castL (by kernel_rfl))
  refine sim_know 37 (decide (z < 0)) true (by kernel_rfl) (by assumption) ?_
  refine sim_run 5 [] (hR214.cast (by kernel_rfl)) (by kernel_rfl) trivial (fun ρ215 w215 hm215 hR215 => ?_)
  have hag := hag.moved (hm215.castL (by kernel_rfl))
  have hld := hld.moved (hm215.castL (by kernel_rfl))
  refine sim_ret (LI 30) hR215 (by kernel_rfl) (by kernel_rfl) ?_
  rotate_left
  refine sim_run 13 [] (hR212.cast (by kernel_rfl)) (by kernel_rfl) trivial (fun ρ216 w216 hm216 hR216 => ?_)
  have hag := hag.moved (hm216.castL (by kernel_rfl))
  have hld := hld.moved (hm216.castL (by kernel_rfl))
  refine sim_know 52 (decide (p + z > 1152921504606846976)) false (by kernel_rfl) (decide_eq_false (by omega)) ?_
  refine sim_run 5 [] (hR216.cast (by kernel_rfl)) (by kernel_rfl) trivial (fun ρ217 w217 hm217 hR217 => ?_)
  have hag := hag.moved (hm217.castL (by kernel_rfl))
  have hld := hld.moved (hm217.castL (by kernel_rfl))
  refine sim_know 49 (ov) false (by kernel_rfl) (by assumption) ?_
  refine sim_run 7 [] (hR217.cast (by kernel_rfl)) (by kernel_rfl) trivial (fun ρ218 w218 hm218 hR218 => ?_)
  have hag := hag.moved (hm218.castL (by kernel_rfl))
  have hld := hld.moved (hm218.castL (by kernel_rfl))
  refine sim_ret (LI 0) hR218 (by kernel_rfl) (by kernel_rfl) ?_
  rotate_left
  have hq203 := of_decide_eq_false hq203
  refine sim_run 14 [] (hR202.cast (by kernel_rfl)) (by kernel_rfl) trivial (fun ρ219 w219 hm219 hR219 => ?_)
  have hag := hag.moved (hm219.castL (by kernel_rfl))
  have hld := hld.moved (hm219.castL (by kernel_rfl))
  refine sim_know 40 (decide (p + z < 0)) false (by kernel_rfl) (decide_eq_false (by omega)) ?_
  refine sim_run 3 [] (hR219.cast (by kernel_rfl)) (by kernel_rfl) trivial (fun ρ220 w220 hm220 hR220 => ?_)
  have hag := hag.moved (hm220.castL (by kernel_rfl))
  have hld := hld.moved (hm220.castL (by kernel_rfl))
  refine sim_fork 43 (ov) (by kernel_rfl) (fun hq221 => ?_) (fun hq221 => ?_)
  refine sim_run 7 [] (hR220.cast (by kernel_rfl)) (by kernel_rfl) trivial (fun ρ222 w222 hm222 hR222 => ?_)
  have hag := hag.moved (hm222.castL (by kernel_rfl))
  have hld := hld.moved (hm222.castL (by kernel_rfl))
  refine sim_know 37 (decide (z < 0)) false (by kernel_rfl) (by assumption) ?_
  refine sim_run 6 [] (hR222.cast (by kernel_rfl)) (by kernel_rfl) trivial (fun ρ223 w223 hm223 hR223 => ?_)
  have hag := hag.moved (hm223.castL (by kernel_rfl))
  have hld := hld.moved (hm223.castL (by kernel_rfl))
  refine sim_fork 52 (decide (p + z > 1152921504606846976)) (by kernel_rfl) (fun hq224 => ?_) (fun hq224 => ?_)
  have hq224 := of_decide_eq_true hq224
  refine sim_run 10 [] (hR223.cast (by kernel_rfl)) (by kernel_rfl) trivial (fun ρ225 w225 hm225 hR225 => ?_)
  have hag := hag.moved (hm225.castL (by kernel_rfl))
  have hld := hld.moved (hm225.castL (by kernel_rfl))
  refine sim_ret (LI 12) hR225 (by kernel_rfl) (by kernel_rfl) ?_
  rotate_left
  have hq224 := of_decide_eq_false hq224
  refine sim_run 5 [] (hR223.cast (by kernel_rfl)) (by kernel_rfl) trivial (fun ρ226 w226 hm226 hR226 => ?_)
  have hag := hag.moved (hm226.castL (by kernel_rfl))
  have hld := hld.moved (hm226.castL (by kernel_rfl))
  refine sim_know 49 (ov) true (by kernel_rfl) (by assumption) ?_
  refine sim_run 5 [] (hR226.cast (by kernel_rfl)) (by kernel_rfl) trivial (fun ρ227 w227 hm227 hR227 => ?_)
  have hag := hag.moved (hm227.castL (by kernel_rfl))
  have hld := hld.moved (hm227.castL (by kernel_rfl))
  refine sim_ret (LI 12) hR227 (by kernel_rfl) (by kernel_rfl) ?_
  rotate_left
  refine sim_run 13 [] (hR220.cast (by kernel_rfl)) (by kernel_rfl) trivial (fun ρ228 w228 hm228 hR228 => ?_)
  have hag := hag.moved (hm228.castL (by kernel_rfl))
  have hld := hld.moved (hm228.castL (by kernel_rfl))
  refine sim_fork 52 (decide (p + z > 1152921504606846976)) (by kernel_rfl) (fun hq229 => ?_) (fun hq229 => ?_)
  have hq229 := of_decide_eq_true hq229
  refine sim_run 10 [] (hR228.cast (by kernel_rfl)) (by kernel_rfl) trivial (fun ρ230 w230 hm230 hR230 => ?_)
  have hag := hag.moved (hm230.castL (by kernel_rfl))
  have hld := hld.moved (hm230.castL (by kernel_rfl))
  refine sim_ret (LI 12) hR230 (by kernel_rfl) (by kernel_rfl) ?_
  rotate_left
  have hq229 := of_decide_eq_false hq229
  refine sim_run 5 [] (hR228.cast (by kernel_rfl)) (by kernel_rfl) trivial (fun ρ231 w231 hm231 hR231 => ?_)
  have hag := hag.moved (hm231.castL (by kernel_rfl))
  have hld := hld.moved (hm231.castL (by kernel_rfl))
  refine sim_know 49 (ov) false (by kernel_rfl) (by assumption) ?_
  refine sim_run 7 [] (hR231.cast (by kernel_rfl)) (by kernel_rfl) trivial (fun ρ232 w232 hm232 hR232 => ?_)
  have hag := hag.moved (hm232.castL (by kernel_rfl))
  have hld := hld.moved (hm232.castL (by kernel_rfl))
  refine sim_ret (LI 0) hR232 (by kernel_rfl) (by kernel_rfl) ?_
  rotate_left
  have hq201 := of_decide_eq_false hq201
  refine sim_run 19 [] (hR200.cast (by kernel_rfl)) (by kernel_rfl) trivial (fun ρ233 w233 hm233 hR233 => ?_)
  have hag := hag.moved (hm233.castL (by kernel_rfl))
  have hld := hld.moved (hm233.castL (by kernel_rfl))
  refine sim_fork 40 (decide (p + z < 0)) (by kernel_rfl) (fun hq234 => ?_) (fun hq234 => ?_)
  have hq234 := of_decide_eq_true hq234
  refine sim_run 15 [] (hR233.cast (by kernel_rfl)) (by kernel_rfl) trivial (fun ρ235 w235 hm235 hR235 => ?_)
  have hag := hag.moved (hm235.castL (by kernel_rfl))
  have hld := hld.moved (hm235.castL (by kernel_rfl))
  refine sim_ret (LI 30) hR235 (by kernel_rfl) (by kernel_rfl) ?_
  rotate_left
  have hq234 := of_decide_eq_false hq234
  refine sim_run 3 [] (hR233.cast (by kernel_rfl)) (by kernel_rfl) trivial (fun ρ236 w236 hm236 hR236 => ?_)
  have hag := hag.moved (hm236.castL (by kernel_rfl))
  have hld := hld.moved (hm236.castL (by kernel_rfl))
  refine sim_fork 43 (ov) (by kernel_rfl) (fun hq237 => ?_) (fun hq237 => ?_)
  refine sim_run 7 [] (hR236.cast (by kernel_rfl)) (by kernel_rfl) trivial (fun ρ238 w238 hm238 hR238 => ?_)
  have hag := hag.moved (hm238.castL (by kernel_rfl))
  have hld := hld.moved (hm238.castL (by kernel_rfl))
  refine sim_fork 37 (decide (z < 0)) (by kernel_rfl) (fun hq239 => ?_) (fun hq239 => ?_)
  have hq239 := of_decide_eq_true hq239
  refine sim_run 5 [] (hR238.cast (by kernel_rfl)) (by kernel_rfl) trivial (fun ρ240 w240 hm240 hR240 => ?_)
  have hag := hag.moved (hm240.castL (by kernel_rfl))
  have hld := hld.moved (hm240.castL (by kernel_rfl))
  refine sim_ret (LI 30) hR240 (by kernel_rfl) (by kernel_rfl) ?_
  rotate_left
  have hq239 := of_decide_eq_false hq239
  refine sim_run 6 [] (hR238.cast (by kernel_rfl)) (by kernel_rfl) trivial (fun ρ241 w241 hm241 hR241 => ?_)
  have hag := hag.moved (hm241.castL (by kernel_rfl))
  have hld := hld.moved (hm241.castL (by kernel_rfl))
  refine sim_fork 52 (decide (p + z > 1152921504606846976)) (by kernel_rfl) (fun hq242 => ?_) (fun hq242 => ?_)
  have hq242 := of_decide_eq_true hq242
  refine sim_run 10 [] (hR241.cast (by kernel_rfl)) (by kernel_rfl) trivial (fun ρ243 w243 hm243 hR243 => ?_)
  have hag := hag.moved (hm243.castL (by kernel_rfl))
  have hld := hld.moved (hm243.castL (by kernel_rfl))
  refine sim_ret (LI 12) hR243 (by kernel_rfl) (by kernel_rfl) ?_
  rotate_left
  have hq242 := of_decide_eq_false hq242
  refine sim_run 5 [] (hR241.cast (by kernel_rfl)) (by kernel_rfl) trivial (fun ρ244 w244 hm244 hR244 => ?_)
  have hag := hag.moved (hm244.castL (by kernel_rfl))
  have hld := hld.moved (hm244.castL (by kernel_rfl))
  refine sim_know 49 (ov) true (by kernel_rfl) (by assumption) ?_
  refine sim_run 5 [] (hR244.cast (by kernel_rfl)) (by kernel_rfl) trivial (fun ρ245 w245 hm245 hR245 => ?_)
  have hag := hag.moved (hm245.castL (by kernel_rfl))
  have hld := hld.moved (hm245.castL (by kernel_rfl))
  refine sim_ret (LI 12) hR245 (by kernel_rfl) (by kernel_rfl) ?_
  rotate_left
  refine sim_run 13 [] (hR236.cast (by kernel_rfl)) (by kernel_rfl) trivial (fun ρ246 w246 hm246 hR246 => ?_)
  have hag := hag.moved (hm246.castL (by kernel_rfl))
  have hld := hld.moved (hm246.castL (by kernel_rfl))
  refine sim_fork 52 (decide (p + z > 1152921504606846976)) (by kernel_rfl) (fun hq247 => ?_) (fun hq247 => ?_)
  have hq247 := of_decide_eq_true hq247
  refine sim_run 10 [] (hR246.cast (by kernel_rfl)) (by kernel_rfl) trivial (fun ρ248 w248 hm248 hR248 => ?_)
  have hag := hag.moved (hm248.castL (by kernel_rfl))
  have hld := hld.moved (hm248.castL (by kernel_rfl))
  refine sim_ret (LI 12) hR248 (by kernel_rfl) (by kernel_rfl) ?_
  rotate_left
  have hq247 := of_decide_eq_false hq247
  refine sim_run 5 [] (hR246.cast (by kernel_rfl)) (by kernel_rfl) trivial (fun ρ249 w249 hm249 hR249 => ?_)
  have hag := hag.moved (hm249.castL (by kernel_rfl))
  have hld := hld.moved (hm249.castL (by kernel_rfl))
  refine sim_know 49 (ov) false (by kernel_rfl) (by assumption) ?_
  refine sim_run 7 [] (hR249.cast (by kernel_rfl)) (by kernel_rfl) trivial (fun ρ250 w250 hm250 hR250 => ?_)
  have hag := hag.moved (hm250.castL (by kernel_rfl))
  have hld := hld.moved (hm250.castL (by kernel_rfl))
  refine sim_ret (LI 0) hR250 (by kernel_rfl) (by kernel_rfl) ?_
  rotate_left
  
  · exact ⟨by rw [w35 hq201 hq203 hq207]; rfl, ((by assumption : Rel _ _ _ _ _)).toBelow⟩
  · exact ⟨by rw [w30 hp (fun h => by rw [show hasK k.1 s.lb = false from hq207] at h; cases h.2.2) (.inl hq210)]; rfl, ((by assumption : Rel _ _ _ _ _)).toBelow⟩
  · exact ⟨by rw [w30 hp (fun h => by rw [show hasK k.1 s.lb = false from hq207] at h; cases h.2.2) (.inr ⟨hq213, hq203⟩)]; rfl, ((by assumption : Rel _ _ _ _ _)).toBelow⟩
  · exact ⟨by rw [w0 hp (fun h => by rw [show hasK k.1 s.lb = false from hq207] at h; cases h.2.2) (fun h => h.elim hq210 (fun h => by rw [hq213] at h; cases h.1)) (fun h => h.elim (fun h => by omega) (fun h => by rw [hq213] at h; cases h))]; rfl, ((by assumption : Rel _ _ _ _ _)).toBelow⟩
  · exact ⟨by rw [w12 hp (fun h => hq203 h.2.1) (fun h => h.elim (fun h => by omega) (fun h => hq203 h.2)) (.inl hq224)]; rfl, ((by assumption : Rel _ _ _ _ _)).toBelow⟩
  · exact ⟨by rw [w12 hp (fun h => hq203 h.2.1) (fun h => h.elim (fun h => by omega) (fun h => hq203 h.2)) (.inr hq221)]; rfl, ((by assumption : Rel _ _ _ _ _)).toBelow⟩
  · exact ⟨by rw [w12 hp (fun h => hq203 h.2.1) (fun h => h.elim (fun h => by omega) (fun h => hq203 h.2)) (.inl hq229)]; rfl, ((by assumption : Rel _ _ _ _ _)).toBelow⟩
  · exact ⟨by rw [w0 hp (fun h => hq203 h.2.1) (fun h => h.elim (fun h => by omega) (fun h => hq203 h.2)) (fun h => h.elim hq229 (fun h => by rw [hq221] at h; cases h))]; rfl, ((by assumption : Rel _ _ _ _ _)).toBelow⟩
  · exact ⟨by rw [w30 hp (fun h => hq201 h.1) (.inl hq234)]; rfl, ((by assumption : Rel _ _ _ _ _)).toBelow⟩
  · exact ⟨by rw [w30 hp (fun h => hq201 h.1) (.inr ⟨hq237, hq239⟩)]; rfl, ((by assumption : Rel _ _ _ _ _)).toBelow⟩
  · exact ⟨by rw [w12 hp (fun h => hq201 h.1) (fun h => h.elim hq234 (fun h => hq239 h.2)) (.inl hq242)]; rfl, ((by assumption : Rel _ _ _ _ _)).toBelow⟩
  · exact ⟨by rw [w12 hp (fun h => hq201 h.1) (fun h => h.elim hq234 (fun h => hq239 h.2)) (.inr hq237)]; rfl, ((by assumption : Rel _ _ _ _ _)).toBelow⟩
  · exact ⟨by rw [w12 hp (fun h => hq201 h.1) (fun h => h.elim hq234 (fun h => by rw [hq237] at h; cases h.1)) (.inl hq247)]; rfl, ((by assumption : Rel _ _ _ _ _)).toBelow⟩
  · exact ⟨by rw [w0 hp (fun h => hq201 h.1) (fun h => h.elim hq234 (fun h => by rw [hq237] at h; cases h.1)) (fun h => h.elim hq247 (fun h => by rw [hq237] at h; cases h))]; rfl, ((by assumption : Rel _ _ _ _ _)).toBelow⟩
end

section
open Go Go.RowKit

def firstW (s : LSt) (ps : List OpP) : List Part → Int
  | [] => 0
  | k :: ks => if wrongM s k (netF ps k).1 (netF ps k).2 = 0 then firstW s ps ks else wrongM s k (netF ps k).1 (netF ps k).2
def lookC (s : LSt) (ps : List OpP) : Int := if 600 < ps.length then 2 else if (rightsB ps && evenB ps) = false then 1 else firstW s ps (netsM ps)
def lookL (s : LSt) (ps : List OpP) : List Part := if lookC s ps = 0 then netsM ps else []
def LookQ (w : World) (s : LSt) (ps : List OpP) (e : Ending) (w' : World) : Prop :=
  (∃ A cap, e = .returned (.tuple #[.slice A (lookL s ps).length cap, .int .i64 (lookC s ps)]) ∧ w'.ownsRow w.heap.size 94 5 (.slice A (lookL s ps).length cap) (lookL s ps).length ((lookL s ps).flatMap (encN (netF ps)))) ∧ Below w.heap.size w w'
theorem lookQ_none {w w' : World} {s : LSt} {ps : List OpP} {c : Int} (h : lookC s ps = c) (hc : c ≠ 0) (hb : Below w.heap.size w w') : LookQ w s ps (.returned (.tuple #[.slice none 0 0, .int .i64 c])) w' := by
  have hl : lookL s ps = [] := by unfold lookL; rw [if_neg (by rw [h]; exact hc)]
  refine ⟨⟨none, 0, by rw [hl, h]; rfl, ?_⟩, hb⟩
  rw [hl]
  exact World.ownsRow_nil _ _ _ _
theorem netF_in (ps : List OpP) (k : Part) : -1152921504606846976 ≤ (netF ps k).1 ∧ (netF ps k).1 ≤ 1152921504606846976 := by
  unfold netF clampV
  dsimp only
  split
  · omega
  · split <;> omega
theorem firstW_drop {s : LSt} {ps : List OpP} : ∀ (i : Nat) (ks : List Part), (∀ k ∈ ks.take i, wrongM s k (netF ps k).1 (netF ps k).2 = 0) → firstW s ps ks = firstW s ps (ks.drop i)
  | 0, _, _ => rfl
  | _ + 1, [], _ => rfl
  | i + 1, k :: ks, h => by
    simp only [List.take_succ_cons, List.mem_cons] at h
    simp only [firstW, List.drop_succ_cons]
    rw [if_pos (h k (.inl rfl))]
    exact firstW_drop i ks (fun q hq => h q (.inr hq))
theorem firstW_at {s : LSt} {ps : List OpP} {i : Nat} {ks : List Part} {k : Part} (hk : ks[i]? = some k) (hz : ∀ k ∈ ks.take i, wrongM s k (netF ps k).1 (netF ps k).2 = 0) (hw : wrongM s k (netF ps k).1 (netF ps k).2 ≠ 0) : firstW s ps ks = wrongM s k (netF ps k).1 (netF ps k).2 := by
  obtain ⟨hi, hk⟩ := List.getElem?_eq_some_iff.1 hk
  rw [firstW_drop i ks hz, List.drop_eq_getElem_cons hi, hk]
  simp only [firstW]
  rw [if_neg hw]
theorem LdO.cut {ρ ρ' : Nm} {rs rs' : List Reg} {w : World} {N B gl : Nat} {s : LSt} (h : LdO ρ' rs' w B gl s) (hag : Ag N ρ ρ' rs') (h0 : 0 < N) (hN : rs.length = N) (e0 : rs'.take N = rs) : LdO ρ rs w B gl s :=
  ⟨h.ld, (hag.at_ 0 h0).symm.trans h.at_, by rw [hN]; exact h0, fun x hx hw => h.far x hx (wrS_cut hag hN e0 hw)⟩
attribute [local irreducible] run goO leaveK someK nextK nextT nextOT nextOD loopBody loopRest loopK fillJ tmplOf tmplJ mergeT At AtO drawOk ordOf gateOf callC callO topOp topO idxOf appOf storeOf clearOf sliceOf calleeOf calleeO topQ idxQ newRowOf resL stepOp seek
set_option maxRecDepth 100000 in
set_option maxHeartbeats 4000000 in
theorem look_any (B gl Bp : Nat) (s : LSt) (A : Option Addr) (n cp : Nat) (ps : List OpP) (w : World) (h : LdV w B gl s) (hp : Posts w Bp A n ps) (hB : Bp ≤ w.heap.size) (hn : n ≤ 100000) : Calls Try.prog 45 #[.pointer (some ⟨gl, 0, none⟩), .slice A n cp] w (LookQ w s ps) := by
  obtain ⟨ρ, e0, hR⟩ := h.open_ false [] (fun h => by cases h)
  have hag := Rel.ag_ hR 1 (by kernel_rfl)
  have hlen := hp.2.1
  refine sim_enter Try.func45 ρ [.ptr 0 0, .v (.slice A n cp)] [⟨s.cells.map .v, false⟩] (by kernel_rfl) (by simp only [denL, LV.den, Nm.at_, e0]) ?_
  have hld := h.in_ (cs := s.cells.map .v) e0
  by_cases hn1 : 600 < n
  · refine sim_run 10 [] (hR.cast (by kernel_rfl)) (by kernel_rfl) trivial (fun ρ100 w100 hm100 hR100 => ?_)
    have hag := hag.moved (hm100.castL (by kernel_rfl))
    have hld := hld.moved (hm100.castL (by kernel_rfl))
    refine sim_call 42 [.ptr 0 0] (by kernel_rfl) ?_
    have ez0_101 := (hag.at_ 0 (by omega)).trans e0
    simp only [denL, LV.den, Nm.at_, ez0_101, Nat.add_zero]
    refine Calls.mono (none_any _ _ _ _ hld.ld) ?_
    rintro e101 w101 ⟨rfl, hb101⟩
    have hR101 := hR100.below hb101
    have hld := hld.below hb101
    refine Back.of (LB false) hR101 rfl ?_
    refine sim_run 10 [] (hR101.cast (by kernel_rfl)) (by kernel_rfl) trivial (fun ρ102 w102 hm102 hR102 => ?_)
    have hag := hag.moved (hm102.castL (by kernel_rfl))
    have hld := hld.moved (hm102.castL (by kernel_rfl))
    refine sim_know 13 (decide ((↑n : Int) > 600)) true (by kernel_rfl) (decide_eq_true (by omega)) ?_
    refine sim_run 6 [] (hR102.cast (by kernel_rfl)) (by kernel_rfl) trivial (fun ρ103 w103 hm103 hR103 => ?_)
    have hag := hag.moved (hm103.castL (by kernel_rfl))
    have hld := hld.moved (hm103.castL (by kernel_rfl))
    refine sim_ret (.tup [.v (Value.slice none 0 0), LI 2]) hR103 (by kernel_rfl) (by kernel_rfl) ?_
    
    exact lookQ_none (c := 2) (by unfold lookC; rw [if_pos (by omega)]) (by decide) ((by assumption : Rel _ _ _ _ _)).toBelow
  · cases hr : rightsB ps with
    | false =>
      refine sim_run 10 [] (hR.cast (by kernel_rfl)) (by kernel_rfl) trivial (fun ρ200 w200 hm200 hR200 => ?_)
      have hag := hag.moved (hm200.castL (by kernel_rfl))
      have hld := hld.moved (hm200.castL (by kernel_rfl))
      refine sim_call 42 [.ptr 0 0] (by kernel_rfl) ?_
      have ez0_201 := (hag.at_ 0 (by omega)).trans e0
      simp only [denL, LV.den, Nm.at_, ez0_201, Nat.add_zero]
      refine Calls.mono (none_any _ _ _ _ hld.ld) ?_
      rintro e201 w201 ⟨rfl, hb201⟩
      have hR201 := hR200.below hb201
      have hld := hld.below hb201
      refine Back.of (LB false) hR201 rfl ?_
      refine sim_run 10 [] (hR201.cast (by kernel_rfl)) (by kernel_rfl) trivial (fun ρ202 w202 hm202 hR202 => ?_)
      have hag := hag.moved (hm202.castL (by kernel_rfl))
      have hld := hld.moved (hm202.castL (by kernel_rfl))
      refine sim_know 13 (decide ((↑n : Int) > 600)) false (by kernel_rfl) (decide_eq_false (by omega)) ?_
      refine sim_run 4 [] (hR202.cast (by kernel_rfl)) (by kernel_rfl) trivial (fun ρ203 w203 hm203 hR203 => ?_)
      have hag := hag.moved (hm203.castL (by kernel_rfl))
      have hld := hld.moved (hm203.castL (by kernel_rfl))
      refine sim_call 57 [.v (Value.slice A n cp), .v (Value.func (Fn.func 58) (Array.mk []) (Array.mk []))] (by kernel_rfl) ?_
      refine Calls.mono (containsW_any (A) (n) (cp) (Bp) (ps) _ ⟨hp.1.belowW (hR203).toBelow hB, hp.2⟩ (Nat.le_trans hB (hR203).keeps.size) (hn)) ?_
      rw [hr]
      rintro e204 w204 ⟨rfl, hb204⟩
      have hR204 := hR203.below hb204
      have hld := hld.below hb204
      refine Back.of (LB true) hR204 rfl ?_
      refine sim_run 13 [] (hR204.cast (by kernel_rfl)) (by kernel_rfl) trivial (fun ρ205 w205 hm205 hR205 => ?_)
      have hag := hag.moved (hm205.castL (by kernel_rfl))
      have hld := hld.moved (hm205.castL (by kernel_rfl))
      refine sim_ret (.tup [.v (Value.slice none 0 0), LI 1]) hR205 (by kernel_rfl) (by kernel_rfl) ?_
      
      exact lookQ_none (c := 1) (by unfold lookC; rw [if_neg (by omega), hr, Bool.false_and, if_pos rfl]) (by decide) ((by assumption : Rel _ _ _ _ _)).toBelow
    | true =>
      cases he : evenB ps with
      | false =>
        refine sim_run 10 [] (hR.cast (by kernel_rfl)) (by kernel_rfl) trivial (fun ρ300 w300 hm300 hR300 => ?_)
        have hag := hag.moved (hm300.castL (by kernel_rfl))
        have hld := hld.moved (hm300.castL (by kernel_rfl))
        refine sim_call 42 [.ptr 0 0] (by kernel_rfl) ?_
        have ez0_301 := (hag.at_ 0 (by omega)).trans e0
        simp only [denL, LV.den, Nm.at_, ez0_301, Nat.add_zero]
        refine Calls.mono (none_any _ _ _ _ hld.ld) ?_
        rintro e301 w301 ⟨rfl, hb301⟩
        have hR301 := hR300.below hb301
        have hld := hld.below hb301
        refine Back.of (LB false) hR301 rfl ?_
        refine sim_run 10 [] (hR301.cast (by kernel_rfl)) (by kernel_rfl) trivial (fun ρ302 w302 hm302 hR302 => ?_)
        have hag := hag.moved (hm302.castL (by kernel_rfl))
        have hld := hld.moved (hm302.castL (by kernel_rfl))
        refine sim_know 13 (decide ((↑n : Int) > 600)) false (by kernel_rfl) (decide_eq_false (by omega)) ?_
        refine sim_run 4 [] (hR302.cast (by kernel_rfl)) (by kernel_rfl) trivial (fun ρ303 w303 hm303 hR303 => ?_)
        have hag := hag.moved (hm303.castL (by kernel_rfl))
        have hld := hld.moved (hm303.castL (by kernel_rfl))
        refine sim_call 57 [.v (Value.slice A n cp), .v (Value.func (Fn.func 58) (Array.mk []) (Array.mk []))] (by kernel_rfl) ?_
        refine Calls.mono (containsW_any (A) (n) (cp) (Bp) (ps) _ ⟨hp.1.belowW (hR303).toBelow hB, hp.2⟩ (Nat.le_trans hB (hR303).keeps.size) (hn)) ?_
        rw [hr]
        rintro e304 w304 ⟨rfl, hb304⟩
        have hR304 := hR303.below hb304
        have hld := hld.below hb304
        refine Back.of (LB false) hR304 rfl ?_
        refine sim_run 2 [] (hR304.cast (by kernel_rfl)) (by kernel_rfl) trivial (fun ρ305 w305 hm305 hR305 => ?_)
        have hag := hag.moved (hm305.castL (by kernel_rfl))
        have hld := hld.moved (hm305.castL (by kernel_rfl))
        refine sim_call 60 [.v (Value.slice A n cp)] (by kernel_rfl) ?_
        refine Calls.mono (even_any (A) (n) (cp) (Bp) (ps) _ ⟨hp.1.belowW (hR305).toBelow hB, hp.2⟩ (Nat.le_trans hB (hR305).keeps.size) (hn)) ?_
        rw [he]
        rintro e306 w306 ⟨rfl, hb306⟩
        have hR306 := hR305.below hb306
        have hld := hld.below hb306
        refine Back.of (LB false) hR306 rfl ?_
        refine sim_run 10 [] (hR306.cast (by kernel_rfl)) (by kernel_rfl) trivial (fun ρ307 w307 hm307 hR307 => ?_)
        have hag := hag.moved (hm307.castL (by kernel_rfl))
        have hld := hld.moved (hm307.castL (by kernel_rfl))
        refine sim_ret (.tup [.v (Value.slice none 0 0), LI 1]) hR307 (by kernel_rfl) (by kernel_rfl) ?_
        
        exact lookQ_none (c := 1) (by unfold lookC; rw [if_neg (by omega), hr, he, Bool.and_false, if_pos rfl]) (by decide) ((by assumption : Rel _ _ _ _ _)).toBelow
      | true =>
        refine sim_run 10 [] (hR.cast (by kernel_rfl)) (by kernel_rfl) trivial (fun ρ400 w400 hm400 hR400 => ?_)
        have hag := hag.moved (hm400.castL (by kernel_rfl))
        have hld := hld.moved (hm400.castL (by kernel_rfl))
        refine sim_call 42 [.ptr 0 0] (by kernel_rfl) ?_
        have ez0_401 := (hag.at_ 0 (by omega)).trans e0
        simp only [denL, LV.den, Nm.at_, ez0_401, Nat.add_zero]
        refine Calls.mono (none_any _ _ _ _ hld.ld) ?_
        rintro e401 w401 ⟨rfl, hb401⟩
        have hR401 := hR400.below hb401
        have hld := hld.below hb401
        refine Back.of (LB false) hR401 rfl ?_
        refine sim_run 10 [] (hR401.cast (by kernel_rfl)) (by kernel_rfl) trivial (fun ρ402 w402 hm402 hR402 => ?_)
        have hag := hag.moved (hm402.castL (by kernel_rfl))
        have hld := hld.moved (hm402.castL (by kernel_rfl))
        refine sim_know 13 (decide ((↑n : Int) > 600)) false (by kernel_rfl) (decide_eq_false (by omega)) ?_
        refine sim_run 4 [] (hR402.cast (by kernel_rfl)) (by kernel_rfl) trivial (fun ρ403 w403 hm403 hR403 => ?_)
        have hag := hag.moved (hm403.castL (by kernel_rfl))
        have hld := hld.moved (hm403.castL (by kernel_rfl))
        refine sim_call 57 [.v (Value.slice A n cp), .v (Value.func (Fn.func 58) (Array.mk []) (Array.mk []))] (by kernel_rfl) ?_
        refine Calls.mono (containsW_any (A) (n) (cp) (Bp) (ps) _ ⟨hp.1.belowW (hR403).toBelow hB, hp.2⟩ (Nat.le_trans hB (hR403).keeps.size) (hn)) ?_
        rw [hr]
        rintro e404 w404 ⟨rfl, hb404⟩
        have hR404 := hR403.below hb404
        have hld := hld.below hb404
        refine Back.of (LB false) hR404 rfl ?_
        refine sim_run 2 [] (hR404.cast (by kernel_rfl)) (by kernel_rfl) trivial (fun ρ405 w405 hm405 hR405 => ?_)
        have hag := hag.moved (hm405.castL (by kernel_rfl))
        have hld := hld.moved (hm405.castL (by kernel_rfl))
        refine sim_call 60 [.v (Value.slice A n cp)] (by kernel_rfl) ?_
        refine Calls.mono (even_any (A) (n) (cp) (Bp) (ps) _ ⟨hp.1.belowW (hR405).toBelow hB, hp.2⟩ (Nat.le_trans hB (hR405).keeps.size) (hn)) ?_
        rw [he]
        rintro e406 w406 ⟨rfl, hb406⟩
        have hR406 := hR405.below hb406
        have hld := hld.below hb406
        refine Back.of (LB true) hR406 rfl ?_
        refine sim_run 10 [] (hR406.cast (by kernel_rfl)) (by kernel_rfl) trivial (fun ρ407 w407 hm407 hR407 => ?_)
        have hag := hag.moved (hm407.castL (by kernel_rfl))
        have hld := hld.moved (hm407.castL (by kernel_rfl))
        refine sim_call 61 [.v (Value.slice A n cp)] (by kernel_rfl) ?_
        refine Calls.mono (nets_any (A) (n) (cp) (Bp) (ps) _ ⟨hp.1.belowW (hR407).toBelow hB, hp.2⟩ (Nat.le_trans hB (hR407).keeps.size) (hn)) ?_
        rintro e408 w408 ⟨⟨An, cn, rfl, hown⟩, hb408⟩
        have hrow := Own.start hR407 hown
        have hR408 := hR407.below hb408
        have hld := hld.below hb408
        refine Back.of (.v (.slice An (netsM ps).length cn)) hR408 rfl ?_
        refine sim_run 10 [] (hR408.cast (by kernel_rfl)) (by kernel_rfl) trivial (fun ρ409 w409 hm409 hR409 => ?_)
        have hag := hag.moved (hm409.castL (by kernel_rfl))
        have hrow := hrow.moved (hm409.castL (by kernel_rfl))
        have hld := hld.moved (hm409.castL (by kernel_rfl))
        
        have hlc : lookC s ps = firstW s ps (netsM ps) := by unfold lookC; rw [if_neg (by omega), hr, he]; rfl
        have hNl : (netsM ps).length ≤ 100000 := by
          unfold netsM
          rw [sortPs_len]
          have := keysP_len ps []
          simp only [List.length_nil] at this
          omega
        generalize hks : netsM ps = ks at hlc hNl hrow ⊢
        refine sim_loop (ι := Nat) (T := []) (w0 := w) 0 [0, 6, 27, 28] (fun i => [(29, LI i)]) (fun _ => [⟨s.cells.map .v, false⟩]) (fun i w1 => i ≤ ks.length ∧ LdO ρ409 [⟨s.cells.map .v, false⟩] w1 B gl s ∧ Own ρ409 [⟨s.cells.map .v, false⟩] w1 w.heap.size 94 5 (.slice An ks.length cn) ks.length (ks.map (encN (netF ps))).flatten ∧ ∀ k ∈ ks.take i, wrongM s k (netF ps k).1 (netF ps k).2 = 0) (fun i => ks.length - i) (by kernel_rfl) (by kernel_rfl) ((by assumption : Rel _ _ _ _ _).cast (by kernel_rfl)) ⟨Nat.zero_le _, hld.castR (by kernel_rfl), by rw [← List.flatMap_def]; exact (hrow.low ((by assumption : Rel _ _ _ _ _)).keeps.size).castR (by kernel_rfl), fun k hk => by simp at hk⟩ ?_
        iterate 12 (try clear hld)
        iterate 12 (try clear hrow)
        iterate 12 (try clear hag)
        iterate 12 (try clear e0)
        rintro i d5 w5 hR5 ⟨hi, hld, hrow, hz⟩
        have e0 := hld.at_
        have hag := hR5.ag_ 1 (by kernel_rfl)
        by_cases hlt : i < ks.length
        · obtain ⟨k, hk⟩ : ∃ k, ks[i]? = some k := ⟨_, List.getElem?_eq_getElem hlt⟩
          obtain ⟨gb, ob, hA, _, _⟩ := (Reads.of_own hrow.own).spot (by omega) (by omega)
          subst hA
          refine sim_seeO (xss := ks.map (encN (netF ps))) (sz := 5) (n := ks.length) (encN (netF ps) k) i 1 (by kernel_rfl) (by rw [List.getElem?_map, hk]; rfl) hrow (by intro y hy; obtain ⟨z, _, rfl⟩ := List.mem_map.1 hy; rfl) (by omega) hlt hR5 (by kernel_rfl) (fun ρF hmF eF hRF => ?_)
          have hld := hld.moved hmF
          have hrow := hrow.moved hmF
          have hag1 := hag.moved (hmF.castL (by kernel_rfl))
          have e0 := hld.at_
          have hag := hRF.ag_ 2 (by kernel_rfl)
          by_cases hw : wrongM s k (netF ps k).1 (netF ps k).2 = 0
          · refine sim_run 5 [] (hRF.cast (by kernel_rfl)) (by kernel_rfl) trivial (fun ρ500 w500 hm500 hR500 => ?_)
            have hld := hld.moved (hm500.castL (by kernel_rfl))
            have hrow := hrow.moved (hm500.castL (by kernel_rfl))
            have hag1 := hag1.moved (hm500.castL (by kernel_rfl))
            have hag := hag.moved (hm500.castL (by kernel_rfl))
            refine sim_know 30 (decide ((↑i : Int) < (↑ks.length : Int))) true (by kernel_rfl) (decide_eq_true (by omega)) ?_
            refine sim_run 6 [] (hR500.cast (by kernel_rfl)) (by kernel_rfl) trivial (fun ρ501 w501 hm501 hR501 => ?_)
            have hld := hld.moved (hm501.castL (by kernel_rfl))
            have hrow := hrow.moved (hm501.castL (by kernel_rfl))
            have hag1 := hag1.moved (hm501.castL (by kernel_rfl))
            have hag := hag.moved (hm501.castL (by kernel_rfl))
            refine sim_place (.v (.slice (some ⟨gb, ob, none⟩) ks.length cn)) ks.length 5 i 1 0 (by kernel_rfl) (by omega) (by omega) rfl (by simp only [Nm.at_, hag.at_ 1 (by omega), eF, Nat.add_zero, Int.toNat_natCast]) ?_
            refine sim_run 8 [] (hR501.cast (by kernel_rfl)) (by kernel_rfl) trivial (fun ρ503 w503 hm503 hR503 => ?_)
            have hld := hld.moved (hm503.castL (by kernel_rfl))
            have hrow := hrow.moved (hm503.castL (by kernel_rfl))
            have hag1 := hag1.moved (hm503.castL (by kernel_rfl))
            have hag := hag.moved (hm503.castL (by kernel_rfl))
            refine sim_call 62 [.ptr 0 0, .agg [LS k.fst.fst, LS k.fst.snd, LI k.snd, LI ((netF ps k).fst), LB ((netF ps k).snd)]] (by kernel_rfl) ?_
            have ez0_504 := (hag.at_ 0 (by omega)).trans e0
            simp only [denL, LV.den, Nm.at_, ez0_504, Nat.add_zero]
            refine Calls.mono (wrong_any (B) (gl) (s) (k) _ _ _ hld.ld (netF_in ps k)) ?_
            rw [hw]
            rintro e504 w504 ⟨rfl, hb504⟩
            have hR504 := hR503.below hb504
            have hld := hld.below hb504
            have hrow := hrow.below hb504
            refine Back.of (LI 0) hR504 rfl ?_
            refine sim_run 14 [⟨14, 0, LI (IntKind.i64.wrap ((↑i : Int) + 1)), LI ((↑i : Int) + 1)⟩] (hR504.cast (by kernel_rfl)) (by kernel_rfl) ⟨eqi (IntWalk.i64_in _ (by omega)), trivial⟩ (fun ρ505 w505 hm505 hR505 => ?_)
            have hag1 := hag1.moved (hm505.castL (by kernel_rfl))
            have hag := hag.moved (hm505.castL (by kernel_rfl))
            have hld := hld.moved (hm505.castL (by kernel_rfl))
            have hrow := hrow.moved (hm505.castL (by kernel_rfl))
            
            exact sim_again (i + 1) (by kernel_rfl) (by show ks.length - (i + 1) < ks.length - i; omega) (by kernel_rfl) (by kernel_rfl) (by kernel_rfl) hag1.ag (Rel.cast (by assumption) (by kernel_rfl)) (by kernel_rfl) (by kernel_rfl) ⟨hlt, hld.cut hag1 Nat.zero_lt_one (by kernel_rfl) (by kernel_rfl), hrow.cut hag1 (by kernel_rfl) (by kernel_rfl), fun q hq => by
              rw [List.take_add_one, hk] at hq
              rcases List.mem_append.1 hq with h1 | h1
              · exact hz q h1
              · have h2 : q = k := by simpa using h1
                rw [h2]
                exact hw⟩
          · refine sim_run 5 [] (hRF.cast (by kernel_rfl)) (by kernel_rfl) trivial (fun ρ600 w600 hm600 hR600 => ?_)
            have hld := hld.moved (hm600.castL (by kernel_rfl))
            have hrow := hrow.moved (hm600.castL (by kernel_rfl))
            have hag1 := hag1.moved (hm600.castL (by kernel_rfl))
            have hag := hag.moved (hm600.castL (by kernel_rfl))
            refine sim_know 30 (decide ((↑i : Int) < (↑ks.length : Int))) true (by kernel_rfl) (decide_eq_true (by omega)) ?_
            refine sim_run 6 [] (hR600.cast (by kernel_rfl)) (by kernel_rfl) trivial (fun ρ601 w601 hm601 hR601 => ?_)
            have hld := hld.moved (hm601.castL (by kernel_rfl))
            have hrow := hrow.moved (hm601.castL (by kernel_rfl))
            have hag1 := hag1.moved (hm601.castL (by kernel_rfl))
            have hag := hag.moved (hm601.castL (by kernel_rfl))
            refine sim_place (.v (.slice (some ⟨gb, ob, none⟩) ks.length cn)) ks.length 5 i 1 0 (by kernel_rfl) (by omega) (by omega) rfl (by simp only [Nm.at_, hag.at_ 1 (by omega), eF, Nat.add_zero, Int.toNat_natCast]) ?_
            refine sim_run 8 [] (hR601.cast (by kernel_rfl)) (by kernel_rfl) trivial (fun ρ603 w603 hm603 hR603 => ?_)
            have hld := hld.moved (hm603.castL (by kernel_rfl))
            have hrow := hrow.moved (hm603.castL (by kernel_rfl))
            have hag1 := hag1.moved (hm603.castL (by kernel_rfl))
            have hag := hag.moved (hm603.castL (by kernel_rfl))
            refine sim_call 62 [.ptr 0 0, .agg [LS k.fst.fst, LS k.fst.snd, LI k.snd, LI ((netF ps k).fst), LB ((netF ps k).snd)]] (by kernel_rfl) ?_
            have ez0_604 := (hag.at_ 0 (by omega)).trans e0
            simp only [denL, LV.den, Nm.at_, ez0_604, Nat.add_zero]
            refine Calls.mono (wrong_any (B) (gl) (s) (k) _ _ _ hld.ld (netF_in ps k)) ?_
            rintro e604 w604 ⟨rfl, hb604⟩
            have hR604 := hR603.below hb604
            have hld := hld.below hb604
            have hrow := hrow.below hb604
            refine Back.of (LI (wrongM s k (netF ps k).fst (netF ps k).snd)) hR604 rfl ?_
            refine sim_run 7 [] (hR604.cast (by kernel_rfl)) (by kernel_rfl) trivial (fun ρ605 w605 hm605 hR605 => ?_)
            have hag1 := hag1.moved (hm605.castL (by kernel_rfl))
            have hag := hag.moved (hm605.castL (by kernel_rfl))
            have hld := hld.moved (hm605.castL (by kernel_rfl))
            have hrow := hrow.moved (hm605.castL (by kernel_rfl))
            refine sim_know 37 (wrongM s k (netF ps k).fst (netF ps k).snd != 0) true (by kernel_rfl) (bne_iff_ne.2 hw) ?_
            refine sim_run 7 [] (hR605.cast (by kernel_rfl)) (by kernel_rfl) trivial (fun ρ606 w606 hm606 hR606 => ?_)
            have hag1 := hag1.moved (hm606.castL (by kernel_rfl))
            have hag := hag.moved (hm606.castL (by kernel_rfl))
            have hld := hld.moved (hm606.castL (by kernel_rfl))
            have hrow := hrow.moved (hm606.castL (by kernel_rfl))
            refine sim_ret (.tup [.v (Value.slice none 0 0), LI (wrongM s k (netF ps k).fst (netF ps k).snd)]) hR606 (by kernel_rfl) (by kernel_rfl) ?_
            
            exact lookQ_none (c := wrongM s k (netF ps k).1 (netF ps k).2) (hlc.trans (firstW_at hk hz hw)) hw ((by assumption : Rel _ _ _ _ _)).toBelow
        · have hie : i = ks.length := by omega
          subst hie
          refine sim_run 5 [] (hR5.cast (by kernel_rfl)) (by kernel_rfl) trivial (fun ρ700 w700 hm700 hR700 => ?_)
          have hld := hld.moved (hm700.castL (by kernel_rfl))
          have hrow := hrow.moved (hm700.castL (by kernel_rfl))
          have hag := hag.moved (hm700.castL (by kernel_rfl))
          refine sim_know 30 (decide ((↑ks.length : Int) < (↑ks.length : Int))) false (by kernel_rfl) (decide_eq_false (by omega)) ?_
          refine sim_run 1 [] (hR700.cast (by kernel_rfl)) (by kernel_rfl) trivial (fun ρ701 w701 hm701 hR701 => ?_)
          have hld := hld.moved (hm701.castL (by kernel_rfl))
          have hrow := hrow.moved (hm701.castL (by kernel_rfl))
          have hag := hag.moved (hm701.castL (by kernel_rfl))
          refine sim_leave (by kernel_rfl) ?_
          refine sim_run 6 [] (hR701.cast (by kernel_rfl)) (by kernel_rfl) trivial (fun ρ702 w702 hm702 hR702 => ?_)
          have hld := hld.moved (hm702.castL (by kernel_rfl))
          have hrow := hrow.moved (hm702.castL (by kernel_rfl))
          have hag := hag.moved (hm702.castL (by kernel_rfl))
          refine sim_ret (.tup [.v (Value.slice An ks.length cn), LI 0]) hR702 (by kernel_rfl) (by kernel_rfl) ?_
          
          have hc0 : lookC s ps = 0 := by
            rw [hlc, firstW_drop ks.length ks hz, List.drop_length]
            rfl
          have hl0 : lookL s ps = ks := by unfold lookL; rw [if_pos hc0, hks]
          refine ⟨⟨An, cn, by rw [hl0, hc0]; rfl, ?_⟩, ((by assumption : Rel _ _ _ _ _)).toBelow⟩
          rw [hl0, List.flatMap_def]
          exact hrow.own
end

section
open Go Go.RowKit

theorem LdV.gl_ne {w : World} {B gl : Nat} {s : LSt} (h : LdV w B gl s) {x : Nat} (hx : x = s.g ∨ s.m = some x) : gl ≠ x := by
  rintro rfl
  have h1 := h.cell
  unfold Blk at h1
  rcases hx with hx | hx
  · have h2 := h.pos.cell
    unfold Blk at h2
    rw [← hx, h1] at h2
    simp [LSt.cells] at h2
  · have h2 := (h.pos.mp.is _ hx).1.blk
    rw [h1] at h2
    cases h2
theorem LdV.g_ne {w : World} {B gl : Nat} {s : LSt} (h : LdV w B gl s) {q : Nat} (hq : s.mi = some q ∨ s.mb = some q) : q ≠ s.g := by
  rintro rfl
  have h2 := h.pos.cell
  unfold Blk at h2
  rcases hq with hq | hq
  · have h1 := (h.iss.is _ hq).1.blk
    rw [h2] at h1
    cases h1
  · have h1 := (h.blk.is _ hq).1.blk
    rw [h2] at h1
    cases h1
def LSt.setPos (s : LSt) (m : Option Nat) (l : List (Ent Key B3)) (ck : Nat) : LSt := { s with m := m, l := l, ck := ck }
theorem LdV.setPos {w w' : World} {B gl : Nat} {s : LSt} (h : LdV w B gl s) {m' : Option Nat} {l' : List (Ent Key B3)} {ck' : Nat} (hp : PoV w' B s.g m' l' ck') (hk : Kept (fun x => x = s.g ∨ s.m = some x) w w') (hv : m' = s.m ∨ ∃ x, w.heap.size ≤ x ∧ m' = some x) : LdV w' B gl (s.setPos m' l' ck') := by
  have hne : ∀ q, (∀ x, s.m = some x → x ≠ q) → q < w.heap.size → m' ≠ some q := by
    intro q h1 h2 h3
    rcases hv with e | ⟨x, hx, e⟩
    · exact h1 q (e ▸ h3) rfl
    · rw [e] at h3
      injection h3 with h3
      omega
  refine ⟨(hk.block gl h.cell.lt (fun hx => h.gl_ne hx rfl)).trans h.cell, hp, h.iss.keptS hk (fun q hq hx => ?_), h.blk.keptS hk (fun q hq hx => ?_), h.ge, h.geI, h.geB, fun q hq => hne q (fun x hx e => h.neI q hq (e ▸ hx)) (h.iss.is q hq).1.size, fun q hq => hne q (fun x hx e => h.neB q hq (e ▸ hx)) (h.blk.is q hq).1.size, h.neX⟩
  · rcases hx with hx | hx
    · exact h.g_ne (.inl hq) hx
    · exact h.neI q hq hx
  · rcases hx with hx | hx
    · exact h.g_ne (.inr hq) hx
    · exact h.neB q hq hx
/-- what of a ledger may be written -/
def LSt.mayW (s : LSt) (T : List Nat) (w0 : World) : Prop := ∀ x, (x = s.g ∨ s.m = some x) → x ∈ T ∨ w0.heap.size ≤ x
/-- behind a change of the positions -/
theorem LdO.after {T : List Nat} {w0 : World} {ρ : Nm} {rs : List Reg} {w w' : World} {B gl : Nat} {s : LSt} (h : LdO ρ rs w B gl s) (hR : Rel T w0 ρ rs w) (hT : s.mayW T w0) {m' : Option Nat} {l' : List (Ent Key B3)} {ck' : Nat} (hp : PoV w' B s.g m' l' ck') (hk : Kept (fun x => x = s.g ∨ s.m = some x) w w') (hv : m' = s.m ∨ ∃ x, w.heap.size ≤ x ∧ m' = some x)
    (il : List Nat) (hl : roAll rs 0 = il) (hidx : ∀ k ∈ il, ∀ x, (x = s.g ∨ s.m = some x) → (ρ k).1 ≠ x) : LdO ρ rs w' B gl (s.setPos m' l' ck') ∧ Rel T w0 ρ rs w' ∧ (s.setPos m' l' ck').mayW T w0 := by
  have hs0 := hR.keeps.size
  refine ⟨⟨h.ld.setPos hp hk hv, h.at_, h.lt, fun x hx hw => ?_⟩, hR.kept hk (fun n r hn hne hS => ?_) (fun x hx => hT x hx), fun x hx => ?_⟩
  · have hlt := hR.wr_lt hw
    rcases hx with hx | hx | hx | hx | hx
    · exact h.far x (.inl hx) hw
    · exact h.far x (.inr (.inl hx)) hw
    · rcases hv with e | ⟨y, hy, e⟩
      · exact h.far x (.inr (.inr (.inl (e ▸ hx)))) hw
      · have hx : m' = some x := hx
        rw [e] at hx
        injection hx with hx
        omega
    · exact h.far x (.inr (.inr (.inr (.inl hx)))) hw
    · exact h.far x (.inr (.inr (.inr (.inr hx)))) hw
  · cases hw : r.wr with
    | true => exact h.far _ (hS.elim (fun e => .inr (.inl e)) (fun e => .inr (.inr (.inl e)))) ⟨n, r, hn, hw, rfl⟩
    | false =>
      have := roAll_mem rs 0 n r hn hw
      rw [hl, Nat.zero_add] at this
      exact hidx n this _ hS rfl
  · rcases hx with hx | hx
    · exact hT x (.inl hx)
    · rcases hv with e | ⟨y, hy, e⟩
      · exact hT x (.inr (e ▸ hx))
      · have hx : m' = some x := hx
        rw [e] at hx
        injection hx with hx
        exact .inr (by omega)
attribute [local irreducible] run goO leaveK someK nextK nextT nextOT nextOD loopBody loopRest loopK fillJ tmplOf tmplJ mergeT At AtO drawOk ordOf gateOf callC callO topOp topO idxOf appOf storeOf clearOf sliceOf calleeOf calleeO topQ idxQ newRowOf resL stepOp seek
set_option maxRecDepth 100000 in
set_option maxHeartbeats 4000000 in
theorem try_any (B gl Bp : Nat) (s : LSt) (A : Option Addr) (n cp : Nat) (ps : List OpP) (w : World) (h : LdV w B gl s) (hp : Posts w Bp A n ps) (hB : Bp ≤ w.heap.size) (hn : n ≤ 100000) : Calls Try.prog 27 #[.pointer (some ⟨gl, 0, none⟩), .slice A n cp] w fun e w' => e = .returned (.int .i64 (lookC s ps)) ∧ Below w.heap.size w w' := by
  obtain ⟨ρ, e0, hR⟩ := h.open_ false [] (fun h => by cases h)
  have hag := Rel.ag_ hR 1 (by kernel_rfl)
  refine sim_enter Try.func27 ρ [.ptr 0 0, .v (.slice A n cp)] [⟨s.cells.map .v, false⟩] (by kernel_rfl) (by simp only [denL, LV.den, Nm.at_, e0]) ?_
  have hld := h.in_ (cs := s.cells.map .v) e0
  refine sim_run 8 [] (hR.cast (by kernel_rfl)) (by kernel_rfl) trivial (fun ρ100 w100 hm100 hR100 => ?_)
  have hag := hag.moved (hm100.castL (by kernel_rfl))
  have hld := hld.moved (hm100.castL (by kernel_rfl))
  refine sim_call 45 [.ptr 0 0, .v (Value.slice A n cp)] (by kernel_rfl) ?_
  have ez0_101 := (hag.at_ 0 (by omega)).trans e0
  simp only [denL, LV.den, Nm.at_, ez0_101, Nat.add_zero]
  refine Calls.mono (look_any (B) (gl) (Bp) (s) (A) (n) (cp) (ps) _ hld.ld ⟨hp.1.belowW (hR100).toBelow hB, hp.2⟩ (Nat.le_trans hB (hR100).keeps.size) (hn)) ?_
  rintro e101 w101 ⟨⟨An, cn, rfl, hown⟩, hb101⟩
  have hR101 := hR100.below hb101
  refine Back.of (.tup [.v (.slice An (lookL s ps).length cn), LI (lookC s ps)]) hR101 rfl ?_
  refine sim_run 11 [] (hR101.cast (by kernel_rfl)) (by kernel_rfl) trivial (fun ρ102 w102 hm102 hR102 => ?_)
  have hag := hag.moved (hm102.castL (by kernel_rfl))
  refine sim_ret (LI (lookC s ps)) hR102 (by kernel_rfl) (by kernel_rfl) ?_
  exact ⟨rfl, hR102.toBelow⟩
  
set_option maxRecDepth 100000 in
set_option maxHeartbeats 4000000 in
theorem own_any (a b : ByteArray) (w : World) (ha : a.size ≤ 281474976710656) (hb : b.size ≤ 281474976710656) : Calls Try.prog 44 #[.agg #[.string a, .string b]] w fun e w' => e = .returned (.agg #[.string a, .string b]) ∧ Below w.heap.size w w' := by
  refine sim_enter Try.func44 ρ0 [.agg [LS a, LS b]] [] (by kernel_rfl) rfl ?_
  have hR := Rel.start [] w ρ0
  refine sim_run 6 [] (hR.cast (by kernel_rfl)) (by kernel_rfl) trivial (fun ρ200 w200 hm200 hR200 => ?_)
  refine sim_draw [] (by kernel_rfl) (by kernel_rfl) hR200 (fun hR201 => ?_)
  refine sim_ordN 4 [] hR201 (by kernel_rfl) trivial (fun ρ202 w202 hm202 hR202 => ?_)
  refine sim_ord_call (T := []) (w0 := w) 56 [LS a] (by kernel_rfl) ?_
  refine Calls.mono (cloneS_any _ _ (by assumption)) ?_
  rintro e203 w203 ⟨rfl, hb203⟩
  have hR203 := hR202.call hb203 (LS a)
  refine BackO.of (LS a) hR203 rfl ?_
  refine sim_ord_call (T := []) (w0 := w) 56 [LS b] (by kernel_rfl) ?_
  refine Calls.mono (cloneS_any _ _ (by assumption)) ?_
  rintro e204 w204 ⟨rfl, hb204⟩
  have hR204 := hR203.call hb204 (LS b)
  refine BackO.of (LS b) hR204 rfl ?_
  refine sim_ordN 2 [] hR204 (by kernel_rfl) trivial (fun ρ205 w205 hm205 hR205 => ?_)
  refine sim_ord_endR hR205 (by kernel_rfl) (fun hR206 => ?_)
  refine sim_ret (.agg [LS a, LS b]) (hR206.cast (by kernel_rfl)) (by kernel_rfl) (by kernel_rfl) ?_
  exact ⟨rfl, hR206.toBelow⟩
  
end

section
open Go Go.RowKit

/-- what the positions hold, behind what is done to parts -/
def applyF (ps : List OpP) (f : Key → B3) (ks : List Part) : Key → B3 := ks.foldl (fun f k => addF f k.1 k.2 (netF ps k).1) f
theorem applyF_snoc (ps : List OpP) (f : Key → B3) (ks : List Part) (k : Part) : applyF ps f (ks ++ [k]) = addF (applyF ps f ks) k.1 k.2 (netF ps k).1 := by
  unfold applyF
  rw [List.foldl_append]
  rfl
/-- texts that are not too long to be cloned -/
def Short (ps : List OpP) : Prop := ∀ p ∈ ps, p.acc.size ≤ 281474976710656 ∧ p.asset.size ≤ 281474976710656
theorem keysP_short {ps : List OpP} (h : Short ps) : ∀ (qs : List OpP) (out : List Part), (∀ q ∈ qs, q ∈ ps) → (∀ k ∈ out, k.1.1.size ≤ 281474976710656 ∧ k.1.2.size ≤ 281474976710656) → ∀ k ∈ keysP qs out, k.1.1.size ≤ 281474976710656 ∧ k.1.2.size ≤ 281474976710656
  | [], _, _, ho => ho
  | q :: qs, out, hq, ho => by
    refine keysP_short h qs _ (fun x hx => hq x (by simp [hx])) (fun k hk => ?_)
    split at hk
    · exact ho k hk
    · rcases List.mem_append.1 hk with h1 | h1
      · exact ho k h1
      · rw [List.mem_singleton.1 h1]
        exact h q (hq q (by simp))
theorem nets_short {ps : List OpP} (h : Short ps) {s : LSt} : ∀ k ∈ lookL s ps, k.1.1.size ≤ 281474976710656 ∧ k.1.2.size ≤ 281474976710656 := by
  intro k hk
  unfold lookL at hk
  split at hk
  · unfold netsM at hk
    exact keysP_short h ps [] (fun _ h => h) (fun _ h => absurd h List.not_mem_nil) k ((List.mergeSort_perm ..).mem_iff.1 hk)
  · cases hk
theorem lookL_len (s : LSt) (ps : List OpP) : (lookL s ps).length ≤ ps.length := by
  unfold lookL
  split
  · unfold netsM
    rw [sortPs_len]
    have := keysP_len ps []
    simpa using this
  · simp
/-- what a call that changes the positions leaves -/
def PosQ (w : World) (B gl : Nat) (s : LSt) (V : Value) (f' : Key → B3) (n : Nat) (e : Ending) (w' : World) : Prop :=
  e = .returned V ∧ ∃ m' l' ck', LdV w' B gl (s.setPos m' l' ck') ∧ (∀ k, getM l' k = f' k) ∧ l'.length ≤ s.l.length + n ∧ Kept (fun x => x = s.g ∨ s.m = some x) w w' ∧ (m' = s.m ∨ ∃ x, w.heap.size ≤ x ∧ m' = some x)
theorem mem_T {s : LSt} {x : Nat} (h : x ∈ s.g :: s.m.toList) : x = s.g ∨ s.m = some x := by
  rcases List.mem_cons.1 h with e | e
  · exact .inl e
  · exact .inr (by simpa using e)
theorem own_same {w w' : World} {b : Nat} {e : TypeId} {sz : Nat} {v : Value} {n : Nat} {xs : List Value} (h : w.ownsRow b e sz v n xs) (he : ∀ g, v.ownBlock = some g → w'.heap[g]? = w.heap[g]?) : w'.ownsRow b e sz v n xs := by
  refine ⟨h.1, h.2.imp id ?_⟩
  rintro ⟨g, cap, cur, rfl, h1, h2, h3⟩
  exact ⟨g, cap, cur, rfl, h1, (he g rfl).trans h2, h3⟩
theorem net_far {w : World} {B gl : Nat} {s : LSt} (h : LdV w B gl s) {b n : Nat} {v : Value} {xs : List Value} (ho : w.ownsRow b 94 5 v n xs) {g : Nat} (hg : v.ownBlock = some g) {x : Nat} (hx : x = s.g ∨ s.m = some x) : g ≠ x := by
  rintro rfl
  obtain ⟨a, q, h1⟩ := own_is_cells ho hg
  rcases hx with hx | hx
  · have h2 := h.pos.cell
    unfold Blk at h2
    rw [← hx, h1] at h2
    injection h2 with h2
    injection h2 with _ h3 _
    exact absurd h3 (by decide)
  · have h2 := (h.pos.mp.is _ hx).1.blk
    rw [h1] at h2
    cases h2
theorem idx2 {ρ : Nm} {rs : List Reg} {w : World} {B gl : Nat} {s : LSt} (hld : LdO ρ rs w B gl s) {b n gb ob cp : Nat} {xs : List Value} (hrow : Own ρ rs w b 94 5 (.slice (some ⟨gb, ob, none⟩) n cp) n xs) {q : Nat} (e1 : ρ 1 = (gb, q)) : ∀ k ∈ [0, 1], ∀ x, (x = s.g ∨ s.m = some x) → (ρ k).1 ≠ x := by
  intro k hk x hx
  simp only [List.mem_cons, List.not_mem_nil, or_false] at hk
  rcases hk with rfl | rfl
  · rw [hld.at_]
    exact hld.ld.gl_ne hx
  · rw [e1]
    exact net_far hld.ld hrow.own rfl hx
theorem Own.keptN {ρ : Nm} {rs : List Reg} {w w' : World} {B gl : Nat} {s : LSt} (h : LdV w B gl s) {b n : Nat} {v : Value} {xs : List Value} (ho : Own ρ rs w b 94 5 v n xs) (hk : Kept (fun x => x = s.g ∨ s.m = some x) w w') : Own ρ rs w' b 94 5 v n xs :=
  ⟨own_same ho.own fun g hg => hk.block g (own_lt ho.own hg) (fun hx => net_far h ho.own hg hx rfl), ho.far⟩
theorem Rel.moreT {w0 w : World} {ρ : Nm} {rs : List Reg} (h : Rel [] w0 ρ rs w) (T : List Nat) : Rel T w0 ρ rs w :=
  ⟨⟨h.keeps.os, h.keeps.tape, h.keeps.output, h.keeps.size, fun k hk _ => h.keeps.block k hk List.not_mem_nil⟩, h.lt, h.cell, fun n r hn hw => ⟨(h.wr n r hn hw).1.imp (fun h => absurd h List.not_mem_nil) id, (h.wr n r hn hw).2⟩, h.apart⟩
attribute [local irreducible] run goO leaveK someK nextK nextT nextOT nextOD loopBody loopRest loopK fillJ tmplOf tmplJ mergeT At AtO drawOk ordOf gateOf callC callO topOp topO idxOf appOf storeOf clearOf sliceOf calleeOf calleeO topQ idxQ newRowOf resL stepOp seek
set_option maxRecDepth 100000 in
set_option maxHeartbeats 4000000 in
theorem apply_any (B gl Bp : Nat) (s : LSt) (A : Option Addr) (n cp : Nat) (ps : List OpP) (w : World) (h : LdV w B gl s) (hp : Posts w Bp A n ps) (hB : Bp ≤ w.heap.size) (hn : n ≤ 100000) (hsh : Short ps) : Calls Try.prog 29 #[.pointer (some ⟨gl, 0, none⟩), .slice A n cp] w (PosQ w B gl s (.int .i64 (lookC s ps)) (applyF ps (getM s.l) (lookL s ps)) n) := by
  obtain ⟨ρ, e0, hR⟩ := h.open_ false [] (fun h => by cases h)
  have hag := Rel.ag_ hR 1 (by kernel_rfl)
  have hlen := hp.2.1
  refine sim_enter Try.func29 ρ [.ptr 0 0, .v (.slice A n cp)] [⟨s.cells.map .v, false⟩] (by kernel_rfl) (by simp only [denL, LV.den, Nm.at_, e0]) ?_
  have hld := h.in_ (cs := s.cells.map .v) e0
  refine sim_run 8 [] (hR.cast (by kernel_rfl)) (by kernel_rfl) trivial (fun ρ100 w100 hm100 hR100 => ?_)
  have hag := hag.moved (hm100.castL (by kernel_rfl))
  have hld := hld.moved (hm100.castL (by kernel_rfl))
  refine sim_call 45 [.ptr 0 0, .v (Value.slice A n cp)] (by kernel_rfl) ?_
  have ez0_101 := (hag.at_ 0 (by omega)).trans e0
  simp only [denL, LV.den, Nm.at_, ez0_101, Nat.add_zero]
  refine Calls.mono (look_any (B) (gl) (Bp) (s) (A) (n) (cp) (ps) _ hld.ld ⟨hp.1.belowW (hR100).toBelow hB, hp.2⟩ (Nat.le_trans hB (hR100).keeps.size) (hn)) ?_
  rintro e101 w101 ⟨⟨An, cn, rfl, hown⟩, hb101⟩
  have hrow := Own.start hR100 hown
  have hld := hld.below hb101
  have hR101 := hR100.below hb101
  refine Back.of (.tup [.v (.slice An (lookL s ps).length cn), LI (lookC s ps)]) hR101 rfl ?_
  refine sim_run 14 [] (hR101.cast (by kernel_rfl)) (by kernel_rfl) trivial (fun ρ102 w102 hm102 hR102 => ?_)
  have hag := hag.moved (hm102.castL (by kernel_rfl))
  have hrow := hrow.moved (hm102.castL (by kernel_rfl))
  have hld := hld.moved (hm102.castL (by kernel_rfl))
  
  have hT : s.mayW (s.g :: s.m.toList) w := fun x hx => by
    rcases hx with rfl | hx
    · exact .inl (by simp)
    · exact .inl (by simp [hx])
  have hll := lookL_len s ps
  have hns := nets_short hsh (s := s)
  have hRT := ((by assumption : Rel _ _ _ _ _)).moreT (s.g :: s.m.toList)
  have hwb : w.heap.size ≤ w100.heap.size := hR100.keeps.size
  generalize hks : lookL s ps = ks at hll hns hrow hRT ⊢
  refine sim_loop (ι := Nat × Option Nat × List (Ent Key B3) × Nat) (T := s.g :: s.m.toList) (w0 := w) (0, s.m, s.l, s.ck) [0, 6, 15, 16] (fun x => [(17, LI x.1)]) (fun _ => [⟨s.cells.map .v, false⟩]) (fun x w1 => x.1 ≤ ks.length ∧ LdO ρ102 [⟨s.cells.map .v, false⟩] w1 B gl (s.setPos x.2.1 x.2.2.1 x.2.2.2) ∧ (s.setPos x.2.1 x.2.2.1 x.2.2.2).mayW (s.g :: s.m.toList) w ∧ (∀ k, getM x.2.2.1 k = applyF ps (getM s.l) (ks.take x.1) k) ∧ x.2.2.1.length ≤ s.l.length + x.1 ∧ (x.2.1 = s.m ∨ ∃ y, w.heap.size ≤ y ∧ x.2.1 = some y) ∧ Own ρ102 [⟨s.cells.map .v, false⟩] w1 w.heap.size 94 5 (.slice An ks.length cn) ks.length (ks.map (encN (netF ps))).flatten) (fun x => ks.length - x.1) (by kernel_rfl) (by kernel_rfl) (hRT.cast (by kernel_rfl)) ⟨Nat.zero_le _, hld.castR (by kernel_rfl), hT, fun _ => rfl, Nat.le_refl _, .inl rfl, by rw [← List.flatMap_def]; exact (hrow.low hwb).castR (by kernel_rfl)⟩ ?_
  iterate 12 (try clear hld)
  iterate 12 (try clear hrow)
  iterate 12 (try clear hag)
  iterate 12 (try clear e0)
  clear hT hRT
  rintro ⟨i, m1, l1, ck1⟩ d5 w5 hR5 ⟨hi, hld, hT, hget, hl1, hm1, hrow⟩
  dsimp only at hi hld hT hget hl1 hm1 hrow
  have e0 := hld.at_
  have hag := hR5.ag_ 1 (by kernel_rfl)
  by_cases hlt : i < ks.length
  · obtain ⟨k, hk⟩ : ∃ k, ks[i]? = some k := ⟨_, List.getElem?_eq_getElem hlt⟩
    obtain ⟨gb, ob, hA, _, _⟩ := (Reads.of_own hrow.own).spot (by omega) (by omega)
    subst hA
    refine sim_seeO (xss := ks.map (encN (netF ps))) (sz := 5) (n := ks.length) (encN (netF ps) k) i 1 (by kernel_rfl) (by rw [List.getElem?_map, hk]; rfl) hrow (by intro y hy; obtain ⟨z, _, rfl⟩ := List.mem_map.1 hy; rfl) (by omega) hlt hR5 (by kernel_rfl) (fun ρF hmF eF hRF => ?_)
    have hld := hld.moved hmF
    have hrow := hrow.moved hmF
    have hag1 := hag.moved (hmF.castL (by kernel_rfl))
    have e0 := hld.at_
    have hag := hRF.ag_ 2 (by kernel_rfl)
    have hkk := hns k (List.mem_of_getElem? hk)
    refine sim_run 5 [] (hRF.cast (by kernel_rfl)) (by kernel_rfl) trivial (fun ρ200 w200 hm200 hR200 => ?_)
    have hld := hld.moved (hm200.castL (by kernel_rfl))
    have hrow := hrow.moved (hm200.castL (by kernel_rfl))
    have hag1 := hag1.moved (hm200.castL (by kernel_rfl))
    have hag := hag.moved (hm200.castL (by kernel_rfl))
    refine sim_know 18 (decide ((↑(i, m1, l1, ck1).fst : Int) < (↑ks.length : Int))) true (by kernel_rfl) (decide_eq_true (by omega)) ?_
    refine sim_run 6 [] (hR200.cast (by kernel_rfl)) (by kernel_rfl) trivial (fun ρ201 w201 hm201 hR201 => ?_)
    have hld := hld.moved (hm201.castL (by kernel_rfl))
    have hrow := hrow.moved (hm201.castL (by kernel_rfl))
    have hag1 := hag1.moved (hm201.castL (by kernel_rfl))
    have hag := hag.moved (hm201.castL (by kernel_rfl))
    refine sim_place (.v (.slice (some ⟨gb, ob, none⟩) ks.length cn)) ks.length 5 i 1 0 (by kernel_rfl) (by omega) (by omega) rfl (by simp only [Nm.at_, hag.at_ 1 (by omega), eF, Nat.add_zero, Int.toNat_natCast]) ?_
    refine sim_run 4 [] (hR201.cast (by kernel_rfl)) (by kernel_rfl) trivial (fun ρ203 w203 hm203 hR203 => ?_)
    have hld := hld.moved (hm203.castL (by kernel_rfl))
    have hrow := hrow.moved (hm203.castL (by kernel_rfl))
    have hag1 := hag1.moved (hm203.castL (by kernel_rfl))
    have hag := hag.moved (hm203.castL (by kernel_rfl))
    refine sim_drawG [] 13 (by kernel_rfl) (by kernel_rfl) hR203 (fun hR204 => ?_)
    have hld := hld.drew
    have hrow := hrow.drew
    refine sim_ordN 12 [] hR204 (by kernel_rfl) trivial (fun ρ205 w205 hm205 hR205 => ?_)
    have hag1 := hag1.moved (hm205.castL (by kernel_rfl))
    have hag := hag.moved (hm205.castL (by kernel_rfl))
    have hld := hld.moved (hm205.castL (by kernel_rfl))
    have hrow := hrow.moved (hm205.castL (by kernel_rfl))
    refine sim_ord_call (T := s.g :: s.m.toList) (w0 := w) 44 [.agg [LS k.fst.fst, LS k.fst.snd]] (by kernel_rfl) ?_
    refine Calls.mono (own_any _ _ _ (by omega) (by omega)) ?_
    rintro e206 w206 ⟨rfl, hb206⟩
    have hR206 := hR205.call hb206 (.agg [LS k.fst.fst, LS k.fst.snd])
    have hld := hld.below hb206
    have hrow := hrow.below hb206
    refine BackO.of (.agg [LS k.fst.fst, LS k.fst.snd]) hR206 rfl ?_
    refine sim_ord_call (T := s.g :: s.m.toList) (w0 := w) 16 [.v (Value.pointer (some (Addr.mk s.g 0 none))), .agg [LS k.fst.fst, LS k.fst.snd], LI k.snd, LI ((netF ps k).fst)] (by kernel_rfl) ?_
    refine Calls.mono (add_po _ _ _ _ _ _ _ _ _ _ hld.ld.pos) ?_
    rintro e207 w207 ⟨v207, c207, rfl, hpo207, hk207, hv207⟩
    have hs207 := (hR206).rel.keeps.size
    have hfin : Fine l1 ck1 := hld.ld.pos.mp.fine
    have hrow2 := Own.keptN hld.ld hrow hk207
    obtain ⟨hld2, hQ207, hT2⟩ := hld.after (hR206).rel hT hpo207 hk207 hv207 [0, 1] (by kernel_rfl) (idx2 hld hrow (by rw [hag.at_ 1 (by omega), eF]))
    have hm2 : v207 = s.m ∨ ∃ y, w.heap.size ≤ y ∧ v207 = some y := hv207.elim (fun e => e.symm ▸ hm1) (fun ⟨y, hy, e⟩ => .inr ⟨y, by omega, e⟩)
    clear hld hrow
    have hld := hld2
    have hrow := hrow2
    clear hld2 hrow2
    have hR207 := hR206.with hQ207 (LI (addC (getM (s.setPos m1 l1 ck1).l (k.fst.fst, k.fst.snd)) k.snd (netF ps k).fst))
    refine BackO.of (LI (addC (getM (s.setPos m1 l1 ck1).l (k.fst.fst, k.fst.snd)) k.snd (netF ps k).fst)) hR207 rfl ?_
    refine sim_ord_endR hR207 (by kernel_rfl) (fun hR208 => ?_)
    refine sim_run 5 [⟨6, 0, LI (IntKind.i64.wrap ((↑(i, m1, l1, ck1).fst : Int) + 1)), LI ((↑(i, m1, l1, ck1).fst : Int) + 1)⟩] (hR208.cast (by kernel_rfl)) (by kernel_rfl) ⟨eqi (IntWalk.i64_in _ (by omega)), trivial⟩ (fun ρ209 w209 hm209 hR209 => ?_)
    have hag1 := hag1.moved (hm209.castL (by kernel_rfl))
    have hag := hag.moved (hm209.castL (by kernel_rfl))
    have hld := hld.moved (hm209.castL (by kernel_rfl))
    have hrow := hrow.moved (hm209.castL (by kernel_rfl))
    
    exact sim_again (i + 1, v207, addL ck1 l1 k.1 k.2 (netF ps k).1, c207) (by kernel_rfl) (by show ks.length - (i + 1) < ks.length - i; omega) (by kernel_rfl) (by kernel_rfl) (by kernel_rfl) hag1.ag (Rel.cast (by assumption) (by kernel_rfl)) (by kernel_rfl) (by kernel_rfl) ⟨hlt, hld.cut hag1 Nat.zero_lt_one (by kernel_rfl) (by kernel_rfl), hT2, fun q => by
      show getM (addL ck1 l1 k.1 k.2 (netF ps k).1) q = _
      rw [List.take_add_one, hk]
      show _ = applyF ps (getM s.l) (ks.take i ++ [k]) q
      rw [applyF_snoc, addL_get hfin, ← (funext hget : getM l1 = _)], by
      show (addL ck1 l1 k.1 k.2 (netF ps k).1).length ≤ _
      have := addL_len l1 ck1 k.1 k.2 (netF ps k).1
      omega, hm2, hrow.cut hag1 (by kernel_rfl) (by kernel_rfl)⟩
  · have hie : i = ks.length := by omega
    subst hie
    refine sim_run 5 [] (hR5.cast (by kernel_rfl)) (by kernel_rfl) trivial (fun ρ300 w300 hm300 hR300 => ?_)
    have hld := hld.moved (hm300.castL (by kernel_rfl))
    have hrow := hrow.moved (hm300.castL (by kernel_rfl))
    have hag := hag.moved (hm300.castL (by kernel_rfl))
    refine sim_know 18 (decide ((↑(ks.length, m1, l1, ck1).fst : Int) < (↑ks.length : Int))) false (by kernel_rfl) (decide_eq_false (by omega)) ?_
    refine sim_run 1 [] (hR300.cast (by kernel_rfl)) (by kernel_rfl) trivial (fun ρ301 w301 hm301 hR301 => ?_)
    have hld := hld.moved (hm301.castL (by kernel_rfl))
    have hrow := hrow.moved (hm301.castL (by kernel_rfl))
    have hag := hag.moved (hm301.castL (by kernel_rfl))
    refine sim_leave (by kernel_rfl) ?_
    refine sim_run 5 [] (hR301.cast (by kernel_rfl)) (by kernel_rfl) trivial (fun ρ302 w302 hm302 hR302 => ?_)
    have hld := hld.moved (hm302.castL (by kernel_rfl))
    have hrow := hrow.moved (hm302.castL (by kernel_rfl))
    have hag := hag.moved (hm302.castL (by kernel_rfl))
    refine sim_ret (LI (lookC s ps)) hR302 (by kernel_rfl) (by kernel_rfl) ?_
    
    refine ⟨rfl, m1, l1, ck1, hld.ld, fun q => by rw [hget q, List.take_length], by omega, ((by assumption : Rel _ _ _ _ _)).keeps.kept.mono (fun x hx => .inl (mem_T hx)), hm1⟩
end
end Go.Proofs.Ytgbgedaedcofcaa
