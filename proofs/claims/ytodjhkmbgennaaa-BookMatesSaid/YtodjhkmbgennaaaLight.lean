/-
  complinelaw14.Light: are steps few and numbers within their ends?
-/
import Derived.Test.YtodjhkmbgennaaaBookL
import Derived.Test.YtodjhkmbgennaaaSimO
import Derived.Test.YtodjhkmbgennaaaOpR
namespace Go.Proofs.Ytodjhkmbgennaaa
open Go Go.RowKit
attribute [local irreducible] run goO goN ordGoN eqlOf eqlOper eqlOfO cellL leaveK someK nextK nextT nextOT nextOD loopBody loopRest loopK fillJ tmplOf tmplJ mergeT At AtO drawOk ordOf gateOf callC callO topOp topO idxOf appOf storeOf clearOf sliceOf calleeOf calleeO topQ idxQ newRowOf resL stepOp seek

def within (z : Int) : Bool := !decide (z > 36028797018963968) && !decide (z < -36028797018963968)
def lightO (o : OpR) : Bool := !decide ((o.l.n : Int) > 60) && (within o.c && (within o.b && (within o.t.qty && within o.t.amount)))
def lightB (os : List OpR) : Bool := (os.take 300).all lightO && decide ((os.length : Int) ≤ 200)
theorem Ops.get {w : World} {A : Option Addr} {n M k : Nat} {os : List OpR} (h : Ops w A n M os) (hk : k < n) : ∃ o, os[k]? = some o ∧ o.ok w w.heap.size M ∧ (os.map OpR.cells)[k]? = some o.cells := by
  have := h.len
  refine ⟨os[k]'(by omega), List.getElem?_eq_getElem _, h.ok _ (List.getElem_mem _), ?_⟩
  rw [List.getElem?_map, List.getElem?_eq_getElem (by omega)]
  rfl
set_option maxRecDepth 100000 in
theorem light14_any (A : Option Addr) (n cp M : Nat) (os : List OpR) (w : World) (h : Ops w A n M os) :
    Calls Try.prog 27 #[.slice A n cp] w fun e w' => e = .returned (.bool (lightB os)) ∧ Below w.heap.size w w' := by
  have hmax := h.max
  have hlen := h.len
  refine sim_enter Try.func27 ρ0 [.v (.slice A n cp)] [] (by kernel_rfl) rfl ?_
  have hR := Rel.start [] w ρ0
  refine sim_run 10 [] hR (by kernel_rfl) trivial (fun ρ100 w100 hm100 hR100 => ?_)
  
  refine sim_loop (ι := Nat) (T := []) (w0 := w) 0 [0, 2] (fun k => [(3, LI k)]) (fun _ => []) (fun k _ => k ≤ n ∧ k ≤ 300 ∧ (os.take k).all lightO = true) (fun k => n - k) (by kernel_rfl) (by kernel_rfl) (hR100.cast (by kernel_rfl)) ⟨Nat.zero_le _, Nat.zero_le _, rfl⟩ ?_
  clear hm100 hR100
  rintro k d w2 hR2 ⟨hk, hk3, hall⟩
  by_cases hlt : k < n ∧ k < 300
  · obtain ⟨o, ho, hok, hx⟩ := h.get hlt.1
    obtain ⟨hl1, hl3⟩ := hlt
    have hext : (os.take (k + 1)).all lightO = lightO o := by rw [List.take_add_one, ho, List.all_append, hall]; simp
    have hbad : lightO o = false → lightB os = false := by
      intro hf
      unfold lightB
      have : (os.take 300).all lightO = false := by
        rw [List.all_eq_false]
        refine ⟨o, ?_, by simp [hf]⟩
        exact List.mem_take_iff_getElem.2 ⟨k, by rw [hlen]; omega, (List.getElem?_eq_some_iff.1 ho).2⟩
      rw [this, Bool.false_and]
    obtain ⟨ga, oa, rfl, _, _⟩ := h.rd.spot (by omega) (by omega)
    refine sim_run 8 [] hR2 (by kernel_rfl) trivial (fun ρ200 w200 hm200 hR200 => ?_)
    refine sim_know 9 (decide ((↑k : Int) < (↑n : Int))) true (by kernel_rfl) (decide_eq_true (by omega)) ?_
    refine sim_run 4 [] hR200 (by kernel_rfl) trivial (fun ρ201 w201 hm201 hR201 => ?_)
    refine sim_know 12 (decide ((↑k : Int) < 300)) true (by kernel_rfl) (decide_eq_true (by omega)) ?_
    refine sim_run 8 [] hR201 (by kernel_rfl) trivial (fun ρ202 w202 hm202 hR202 => ?_)
    refine sim_elem o.cells cp k 0 (by kernel_rfl) (by kernel_rfl) hx h.rd (op_len os) (by omega) hl1 (Nat.le_refl _) (by simp) hR202 (by kernel_rfl) (fun ρ203 hm203 hf203 hg203 hR203 => ?_)
    refine sim_run 11 [] hR203 (by kernel_rfl) trivial (fun ρ204 w204 hm204 hR204 => ?_)
    refine sim_fork 23 (decide ((↑o.l.n : Int) > 60)) (by kernel_rfl) (fun hq205 => ?_) (fun hq205 => ?_)
    have hq205 := of_decide_eq_true hq205
    refine sim_run 49 [] hR204 (by kernel_rfl) trivial (fun ρ206 w206 hm206 hR206 => ?_)
    refine sim_ret (LB false) hR206 (by kernel_rfl) (by kernel_rfl) ?_
    exact ⟨retv_bool (hbad (by simp [lightO, within]; omega)).symm, hR206.toBelow⟩
    have hq205 := of_decide_eq_false hq205
    refine sim_run 5 [] hR204 (by kernel_rfl) trivial (fun ρ207 w207 hm207 hR207 => ?_)
    refine sim_fork 28 (decide (o.c > 36028797018963968)) (by kernel_rfl) (fun hq208 => ?_) (fun hq208 => ?_)
    have hq208 := of_decide_eq_true hq208
    refine sim_run 44 [] hR207 (by kernel_rfl) trivial (fun ρ209 w209 hm209 hR209 => ?_)
    refine sim_ret (LB false) hR209 (by kernel_rfl) (by kernel_rfl) ?_
    exact ⟨retv_bool (hbad (by simp [lightO, within]; omega)).symm, hR209.toBelow⟩
    have hq208 := of_decide_eq_false hq208
    refine sim_run 5 [] hR207 (by kernel_rfl) trivial (fun ρ210 w210 hm210 hR210 => ?_)
    refine sim_fork 33 (decide (o.c < -36028797018963968)) (by kernel_rfl) (fun hq211 => ?_) (fun hq211 => ?_)
    have hq211 := of_decide_eq_true hq211
    refine sim_run 39 [] hR210 (by kernel_rfl) trivial (fun ρ212 w212 hm212 hR212 => ?_)
    refine sim_ret (LB false) hR212 (by kernel_rfl) (by kernel_rfl) ?_
    exact ⟨retv_bool (hbad (by simp [lightO, within]; omega)).symm, hR212.toBelow⟩
    have hq211 := of_decide_eq_false hq211
    refine sim_run 5 [] hR210 (by kernel_rfl) trivial (fun ρ213 w213 hm213 hR213 => ?_)
    refine sim_fork 38 (decide (o.b > 36028797018963968)) (by kernel_rfl) (fun hq214 => ?_) (fun hq214 => ?_)
    have hq214 := of_decide_eq_true hq214
    refine sim_run 34 [] hR213 (by kernel_rfl) trivial (fun ρ215 w215 hm215 hR215 => ?_)
    refine sim_ret (LB false) hR215 (by kernel_rfl) (by kernel_rfl) ?_
    exact ⟨retv_bool (hbad (by simp [lightO, within]; omega)).symm, hR215.toBelow⟩
    have hq214 := of_decide_eq_false hq214
    refine sim_run 5 [] hR213 (by kernel_rfl) trivial (fun ρ216 w216 hm216 hR216 => ?_)
    refine sim_fork 43 (decide (o.b < -36028797018963968)) (by kernel_rfl) (fun hq217 => ?_) (fun hq217 => ?_)
    have hq217 := of_decide_eq_true hq217
    refine sim_run 29 [] hR216 (by kernel_rfl) trivial (fun ρ218 w218 hm218 hR218 => ?_)
    refine sim_ret (LB false) hR218 (by kernel_rfl) (by kernel_rfl) ?_
    exact ⟨retv_bool (hbad (by simp [lightO, within]; omega)).symm, hR218.toBelow⟩
    have hq217 := of_decide_eq_false hq217
    refine sim_run 6 [] hR216 (by kernel_rfl) trivial (fun ρ219 w219 hm219 hR219 => ?_)
    refine sim_fork 49 (decide (o.t.qty > 36028797018963968)) (by kernel_rfl) (fun hq220 => ?_) (fun hq220 => ?_)
    have hq220 := of_decide_eq_true hq220
    refine sim_run 23 [] hR219 (by kernel_rfl) trivial (fun ρ221 w221 hm221 hR221 => ?_)
    refine sim_ret (LB false) hR221 (by kernel_rfl) (by kernel_rfl) ?_
    exact ⟨retv_bool (hbad (by simp [lightO, within]; omega)).symm, hR221.toBelow⟩
    have hq220 := of_decide_eq_false hq220
    refine sim_run 6 [] hR219 (by kernel_rfl) trivial (fun ρ222 w222 hm222 hR222 => ?_)
    refine sim_fork 55 (decide (o.t.qty < -36028797018963968)) (by kernel_rfl) (fun hq223 => ?_) (fun hq223 => ?_)
    have hq223 := of_decide_eq_true hq223
    refine sim_run 17 [] hR222 (by kernel_rfl) trivial (fun ρ224 w224 hm224 hR224 => ?_)
    refine sim_ret (LB false) hR224 (by kernel_rfl) (by kernel_rfl) ?_
    exact ⟨retv_bool (hbad (by simp [lightO, within]; omega)).symm, hR224.toBelow⟩
    have hq223 := of_decide_eq_false hq223
    refine sim_run 6 [] hR222 (by kernel_rfl) trivial (fun ρ225 w225 hm225 hR225 => ?_)
    refine sim_fork 61 (decide (o.t.amount > 36028797018963968)) (by kernel_rfl) (fun hq226 => ?_) (fun hq226 => ?_)
    have hq226 := of_decide_eq_true hq226
    refine sim_run 11 [] hR225 (by kernel_rfl) trivial (fun ρ227 w227 hm227 hR227 => ?_)
    refine sim_ret (LB false) hR227 (by kernel_rfl) (by kernel_rfl) ?_
    exact ⟨retv_bool (hbad (by simp [lightO, within]; omega)).symm, hR227.toBelow⟩
    have hq226 := of_decide_eq_false hq226
    refine sim_run 6 [] hR225 (by kernel_rfl) trivial (fun ρ228 w228 hm228 hR228 => ?_)
    refine sim_fork 66 (decide (o.t.amount < -36028797018963968)) (by kernel_rfl) (fun hq229 => ?_) (fun hq229 => ?_)
    have hq229 := of_decide_eq_true hq229
    refine sim_run 5 [] hR228 (by kernel_rfl) trivial (fun ρ230 w230 hm230 hR230 => ?_)
    refine sim_ret (LB false) hR230 (by kernel_rfl) (by kernel_rfl) ?_
    exact ⟨retv_bool (hbad (by simp [lightO, within]; omega)).symm, hR230.toBelow⟩
    have hq229 := of_decide_eq_false hq229
    refine sim_run 8 [⟨3, 1, LI (IntKind.i64.wrap ((↑k : Int) + 1)), LI ((↑k : Int) + 1)⟩] hR228 (by kernel_rfl) ⟨eqi (IntWalk.i64_in _ (by omega)), trivial⟩ (fun ρ231 w231 hm231 hR231 => ?_)
    
    refine sim_again (k + 1) (by kernel_rfl) (by show n - (k + 1) < n - k; omega) (by kernel_rfl) (by kernel_rfl) (by kernel_rfl) ?_ hR231 (by kernel_rfl) (by kernel_rfl) ⟨hl1, by omega, ?_⟩
    · exact fun m hm => by simp at hm
    · rw [hext]
      simp [lightO, within]
      omega
  · have hend : (os.take 300).all lightO = true := by
      have e : os.take 300 = os.take k := by
        by_cases h3 : k < n
        · rw [show k = 300 by omega]
        · rw [List.take_of_length_le (by omega), List.take_of_length_le (by omega)]
      rw [e]
      exact hall
    have hres : lightB os = decide ((n : Int) ≤ 200) := by unfold lightB; rw [hend, Bool.true_and, hlen]
    refine sim_run 8 [] hR2 (by kernel_rfl) trivial (fun ρ300 w300 hm300 hR300 => ?_)
    refine sim_fork 9 (decide ((↑k : Int) < (↑n : Int))) (by kernel_rfl) (fun hq301 => ?_) (fun hq301 => ?_)
    have hq301 := of_decide_eq_true hq301
    refine sim_run 4 [] hR300 (by kernel_rfl) trivial (fun ρ302 w302 hm302 hR302 => ?_)
    refine sim_know 12 (decide ((↑k : Int) < 300)) false (by kernel_rfl) (decide_eq_false (by omega)) ?_
    refine sim_run 1 [] hR302 (by kernel_rfl) trivial (fun ρ303 w303 hm303 hR303 => ?_)
    refine sim_leave (by kernel_rfl) ?_
    refine sim_run 7 [] hR303 (by kernel_rfl) trivial (fun ρ304 w304 hm304 hR304 => ?_)
    refine sim_ret (LB (decide ((↑n : Int) ≤ 200))) hR304 (by kernel_rfl) (by kernel_rfl) ?_
    exact ⟨retv_bool hres.symm, hR304.toBelow⟩
    have hq301 := of_decide_eq_false hq301
    refine sim_run 5 [] hR300 (by kernel_rfl) trivial (fun ρ305 w305 hm305 hR305 => ?_)
    refine sim_leave (by kernel_rfl) ?_
    refine sim_run 7 [] hR305 (by kernel_rfl) trivial (fun ρ306 w306 hm306 hR306 => ?_)
    refine sim_ret (LB (decide ((↑n : Int) ≤ 200))) hR306 (by kernel_rfl) (by kernel_rfl) ?_
    exact ⟨retv_bool hres.symm, hR306.toBelow⟩
    
end Go.Proofs.Ytodjhkmbgennaaa
