/-
  strings.Clone at this program, off the shelf.
-/
import Derived.Test.YtioehmngkoffaaaProg
import Derived.Test.YtioehmngkoffaaaSimHN
import Derived.Shelf.Pu.Clone
namespace Go.Proofs.Ytioehmngkoffaaa
open Go Go.Shelf Go.RowKit
attribute [local irreducible] run goO goN ordGoN eqlOf eqlOper eqlOfO cellL leaveK someK nextK nextT nextOT nextOD loopBody loopRest loopK fillJ tmplOf tmplJ mergeT At AtO drawOk ordOf gateOf callC callO topOp topO idxOf appOf storeOf clearOf sliceOf calleeOf calleeO topQ idxQ newRowOf resL stepOp seek

def renC : Ren := ⟨fun k => if k = 25 then 42 else k, fun k => if k = 37 then 102 else if k = 47 then 103 else k, fun k => k⟩
set_option maxRecDepth 100000 in
theorem laysC : LaysPu.n25 Try.prog renC where
  mixed := by kernel_rfl
  f25 := by kernel_rfl
  t0 := by kernel_rfl
  a0 := fun _ => by kernel_rfl
  z0 := fun _ => by kernel_rfl
  v0 := fun _ => by kernel_rfl
  i0 := by kernel_rfl
  t3 := by kernel_rfl
  a3 := fun _ => by kernel_rfl
  z3 := fun _ => by kernel_rfl
  v3 := fun _ => by kernel_rfl
  i3 := by kernel_rfl
  t4 := by kernel_rfl
  a4 := fun _ => by kernel_rfl
  z4 := fun _ => by kernel_rfl
  v4 := fun _ => by kernel_rfl
  i4 := by kernel_rfl
  t5 := by kernel_rfl
  a5 := fun _ => by kernel_rfl
  z5 := fun _ => by kernel_rfl
  v5 := fun _ => by kernel_rfl
  i5 := by kernel_rfl
  t9 := by kernel_rfl
  a9 := fun _ => by kernel_rfl
  z9 := fun _ => by kernel_rfl
  v9 := fun _ => by kernel_rfl
  i9 := by kernel_rfl
  t37 := by kernel_rfl
  a37 := fun _ => by kernel_rfl
  z37 := fun _ => by kernel_rfl
  v37 := fun _ => by kernel_rfl
  i37 := by kernel_rfl
  t47 := by kernel_rfl
  a47 := fun _ => by kernel_rfl
  z47 := fun _ => by kernel_rfl
  v47 := fun _ => by kernel_rfl
  i47 := by kernel_rfl
theorem clone0_any (s : ByteArray) (w : World) (h : s.size ≤ 281474976710656) : Calls Try.prog 42 #[.string s] w fun e w' => e = .returned (.string s) ∧ Below w.heap.size w w' := AnyPu.stringslite_Clone laysC s w h
set_option maxRecDepth 100000 in
theorem cloneS_any (s : ByteArray) (w : World) (h : s.size ≤ 281474976710656) : Calls Try.prog 27 #[.string s] w fun e w' => e = .returned (.string s) ∧ Below w.heap.size w w' := by
  refine sim_enter Try.func27 ρ0 [LS s] [] (by kernel_rfl) rfl ?_
  refine sim_run 1000 [] (Rel.start [] w ρ0) (by kernel_rfl) trivial (fun ρ1 w1 hm1 hR1 => ?_)
  refine sim_call 42 [LS s] (by kernel_rfl) ?_
  refine (clone0_any s w1 h).mono ?_
  rintro e w2 ⟨rfl, hb2⟩
  have hR2 := hR1.below hb2
  refine Back.of (LS s) hR2 rfl ?_
  refine sim_run 1000 [] hR2 (by kernel_rfl) trivial (fun ρ3 w3 hm3 hR3 => ?_)
  exact sim_ret (LS s) hR3 (by kernel_rfl) (by kernel_rfl) ⟨rfl, hR3.toBelow⟩
end Go.Proofs.Ytioehmngkoffaaa
