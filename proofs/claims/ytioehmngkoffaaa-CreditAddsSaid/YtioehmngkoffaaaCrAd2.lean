/-
  CreditAdds: one thing that is done.
-/
import Derived.Test.YtioehmngkoffaaaCrAd1
import Derived.Test.YtioehmngkoffaaaOpC
namespace Go.Proofs.Ytioehmngkoffaaa
open Go Go.RowKit
attribute [local irreducible] run goO leaveK someK nextK nextT nextOT nextOD loopBody loopRest loopK fillJ tmplOf tmplJ mergeT At AtO drawOk ordOf gateOf callC callO topOp topO idxOf appOf storeOf clearOf sliceOf calleeOf calleeO topQ idxQ newRowOf resL stepOp seek
set_option maxRecDepth 100000 in
set_option maxHeartbeats 4000000 in
/-- what is told behind each -/
theorem adds_20 {Q : Exit → Act → World → Prop} {R : Ending → World → Prop} [hB : Body Try.prog Q Try.f5 R] {ρ : Nm} {w0 w : World} {q : LnP} {pb : Nat} {o p : Int} {A : Option Addr} {nn cc i : Nat} (hR : Rel [] w0 ρ [] w) (hG : LnG w0.heap.size q ρ [] w) (hb : q.b = pb) (hst : St q o p) (hi : i ≤ 60) (d : Nat → Value)
    (hfin : ∀ (c' : Cfg) (ρ' : Nm) (w' : World), c'.k = [] → mergeT (tmplJ Try.f5.ntmps 0 [(0, .v (.slice A nn cc)), (3, .v (.pointer (some ⟨pb, 0, none⟩))), (4, LI o), (5, LI p), (6, LI ((i : Int) + 1))]) c'.tmps = c'.tmps → (tmplJ Try.f5.ntmps 0 [(0, .v (.slice A nn cc)), (3, .v (.pointer (some ⟨pb, 0, none⟩))), (4, LI o), (5, LI p), (6, LI ((i : Int) + 1))]).length = c'.tmps.length → Rel [] w0 ρ' c'.rs w' → LnG w0.heap.size q ρ' c'.rs w' → At Try.prog Q c' ρ' w') :
    At Try.prog Q ⟨regK Try.f5 20, fillJ (tmplJ Try.f5.ntmps 0 [(0, .v (.slice A nn cc)), (3, .v (.pointer (some ⟨pb, 0, none⟩))), (4, LI o), (5, LI p), (6, LI i)]) d 0, []⟩ ρ w := by
  have ho0 := hst.o0
  refine sim_run 1 [] (hR.cast (by kernel_rfl)) (by kernel_rfl) trivial (fun ρ100 w100 hm100 hR100 => ?_)
  have hG := hG.moved (hm100.castL (by kernel_rfl))
  
  have hu := used_any q bP _ hG.sta.is (hst.ok.mono (Nat.le_refl _) (by omega)) (by rw [hst.used]; omega)
  rw [hb, hst.used] at hu
  refine sim_call 14 [.v (.pointer (some ⟨pb, 0, none⟩)), LS bP] (by kernel_rfl) ?_
  refine hu.mono ?_
  rintro e2 w2 ⟨rfl, hb2⟩
  have hR2 := ((by assumption : Rel _ _ _ _ _)).below hb2
  have hG := hG.below hb2
  refine Back.of (LI o) hR2 rfl ?_
  clear hu
  refine sim_run 3 [] (hR2.cast (by kernel_rfl)) (by kernel_rfl) trivial (fun ρ200 w200 hm200 hR200 => ?_)
  have hG := hG.moved (hm200.castL (by kernel_rfl))
  refine sim_know 66 (o != o) false (by kernel_rfl) (by simp) ?_
  refine sim_run 1 [] (hR200.cast (by kernel_rfl)) (by kernel_rfl) trivial (fun ρ201 w201 hm201 hR201 => ?_)
  have hG := hG.moved (hm201.castL (by kernel_rfl))
  
  have hp := pledged_St q o p _ hG.sta.is hst
  rw [hb] at hp
  refine sim_call 16 [.v (.pointer (some ⟨pb, 0, none⟩)), LS bA, LS bX] (by kernel_rfl) ?_
  refine hp.mono ?_
  rintro e3 w3 ⟨rfl, hb3⟩
  have hR3 := ((by assumption : Rel _ _ _ _ _)).below hb3
  have hG := hG.below hb3
  refine Back.of (LI p) hR3 rfl ?_
  clear hp
  refine sim_run 4 [] (hR3.cast (by kernel_rfl)) (by kernel_rfl) trivial (fun ρ300 w300 hm300 hR300 => ?_)
  have hG := hG.moved (hm300.castL (by kernel_rfl))
  refine sim_know 72 (p != p) false (by kernel_rfl) (by simp) ?_
  refine sim_run 4 [] (hR300.cast (by kernel_rfl)) (by kernel_rfl) trivial (fun ρ301 w301 hm301 hR301 => ?_)
  have hG := hG.moved (hm301.castL (by kernel_rfl))
  refine sim_know 75 (decide (o < 0)) false (by kernel_rfl) (decide_eq_false (by omega)) ?_
  refine sim_run 8 [⟨9, 1, LI (IntKind.i64.wrap ((↑i : Int) + 1)), LI ((↑i : Int) + 1)⟩] (hR301.cast (by kernel_rfl)) (by kernel_rfl) ⟨eqi (IntWalk.i64_in _ (by omega)), trivial⟩ (fun ρ302 w302 hm302 hR302 => ?_)
  have hG := hG.moved (hm302.castL (by kernel_rfl))
  
  exact hfin _ _ _ (by kernel_rfl) (by kernel_rfl) (by kernel_rfl) ((by assumption : Rel _ _ _ _ _)) hG
end Go.Proofs.Ytioehmngkoffaaa
