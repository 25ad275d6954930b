/-
  book.owned: a term with texts of its own.
-/
import Derived.Test.YtodjhkmbgennaaaClone
import Derived.Test.YtodjhkmbgennaaaInst
import Derived.Test.YtodjhkmbgennaaaSimHN
namespace Go.Proofs.Ytodjhkmbgennaaa
open Go Go.RowKit
attribute [local irreducible] run goO goN ordGoN eqlOf eqlOper eqlOfO cellL leaveK someK nextK nextT nextOT nextOD loopBody loopRest loopK fillJ tmplOf tmplJ mergeT At AtO drawOk ordOf gateOf callC callO topOp topO idxOf appOf storeOf clearOf sliceOf calleeOf calleeO topQ idxQ newRowOf resL stepOp seek

/-- its texts are not too long to be cloned -/
structure Tm.short (t : Tm) : Prop where
  party : t.party.size ≤ 281474976710656
  account : t.account.size ≤ 281474976710656
  money : t.money.size ≤ 281474976710656
  other : t.other.size ≤ 281474976710656
  asset : t.asset.size ≤ 281474976710656
  ccy : t.ccy.size ≤ 281474976710656
  ref : t.ref.size ≤ 281474976710656
set_option maxRecDepth 100000 in
theorem owned_any (t : Tm) (hs : t.short) (w : World) : Calls Try.prog 48 #[t.val] w fun e w' => e = .returned t.val ∧ Below w.heap.size w w' := by
  refine sim_enter Try.func48 ρ0 [.v t.val] [] (by kernel_rfl) rfl ?_
  refine sim_run 1000 [] (Rel.start [] w ρ0) (by kernel_rfl) trivial (fun ρ1 w1 hm1 hR1 => ?_)
  refine sim_unroll 8 (by kernel_rfl) ?_
  refine sim_run 1000 [] hR1 (by kernel_rfl) trivial (fun ρ2 w2 hm2 hR2 => ?_)
  refine sim_idx 2 0 7 7 0 1 (by kernel_rfl) (by omega) ?_
  refine sim_run 1000 [] hR2 (by kernel_rfl) trivial (fun ρ3 w3 hm3 hR3 => ?_)
  refine sim_into Try.func62 [.ptr 0 0] (by kernel_rfl) (by kernel_rfl) ?_
  refine sim_run 1000 [] hR3 (by kernel_rfl) trivial (fun ρ4 w4 hm4 hR4 => ?_)
  refine sim_call 67 [LS t.party] (by kernel_rfl) ?_
  refine (cloneS_any t.party w4 (hs.party)).mono ?_
  rintro e w5 ⟨rfl, hb5⟩
  have hR5 := hR4.below hb5
  refine Back.of (LS t.party) hR5 rfl ?_
  refine sim_run 1000 [] hR5 (by kernel_rfl) trivial (fun ρ6 w6 hm6 hR6 => ?_)
  refine sim_outE 3 (.tup []) hR6 (by kernel_rfl) (by kernel_rfl) ((hm4.agN 3 (by kernel_rfl)).tr (hm6.agN 3 (by kernel_rfl))) (by kernel_rfl) ?_
  refine sim_run 1000 [] hR6 (by kernel_rfl) trivial (fun ρ7 w7 hm7 hR7 => ?_)
  refine sim_idx 2 0 7 7 1 1 (by kernel_rfl) (by omega) ?_
  refine sim_run 1000 [] hR7 (by kernel_rfl) trivial (fun ρ8 w8 hm8 hR8 => ?_)
  refine sim_into Try.func62 [.ptr 0 1] (by kernel_rfl) (by kernel_rfl) ?_
  refine sim_run 1000 [] hR8 (by kernel_rfl) trivial (fun ρ9 w9 hm9 hR9 => ?_)
  refine sim_call 67 [LS t.account] (by kernel_rfl) ?_
  refine (cloneS_any t.account w9 (hs.account)).mono ?_
  rintro e w10 ⟨rfl, hb10⟩
  have hR10 := hR9.below hb10
  refine Back.of (LS t.account) hR10 rfl ?_
  refine sim_run 1000 [] hR10 (by kernel_rfl) trivial (fun ρ11 w11 hm11 hR11 => ?_)
  refine sim_outE 3 (.tup []) hR11 (by kernel_rfl) (by kernel_rfl) ((hm9.agN 3 (by kernel_rfl)).tr (hm11.agN 3 (by kernel_rfl))) (by kernel_rfl) ?_
  refine sim_run 1000 [] hR11 (by kernel_rfl) trivial (fun ρ12 w12 hm12 hR12 => ?_)
  refine sim_idx 2 0 7 7 2 1 (by kernel_rfl) (by omega) ?_
  refine sim_run 1000 [] hR12 (by kernel_rfl) trivial (fun ρ13 w13 hm13 hR13 => ?_)
  refine sim_into Try.func62 [.ptr 0 2] (by kernel_rfl) (by kernel_rfl) ?_
  refine sim_run 1000 [] hR13 (by kernel_rfl) trivial (fun ρ14 w14 hm14 hR14 => ?_)
  refine sim_call 67 [LS t.money] (by kernel_rfl) ?_
  refine (cloneS_any t.money w14 (hs.money)).mono ?_
  rintro e w15 ⟨rfl, hb15⟩
  have hR15 := hR14.below hb15
  refine Back.of (LS t.money) hR15 rfl ?_
  refine sim_run 1000 [] hR15 (by kernel_rfl) trivial (fun ρ16 w16 hm16 hR16 => ?_)
  refine sim_outE 3 (.tup []) hR16 (by kernel_rfl) (by kernel_rfl) ((hm14.agN 3 (by kernel_rfl)).tr (hm16.agN 3 (by kernel_rfl))) (by kernel_rfl) ?_
  refine sim_run 1000 [] hR16 (by kernel_rfl) trivial (fun ρ17 w17 hm17 hR17 => ?_)
  refine sim_idx 2 0 7 7 3 1 (by kernel_rfl) (by omega) ?_
  refine sim_run 1000 [] hR17 (by kernel_rfl) trivial (fun ρ18 w18 hm18 hR18 => ?_)
  refine sim_into Try.func62 [.ptr 0 3] (by kernel_rfl) (by kernel_rfl) ?_
  refine sim_run 1000 [] hR18 (by kernel_rfl) trivial (fun ρ19 w19 hm19 hR19 => ?_)
  refine sim_call 67 [LS t.other] (by kernel_rfl) ?_
  refine (cloneS_any t.other w19 (hs.other)).mono ?_
  rintro e w20 ⟨rfl, hb20⟩
  have hR20 := hR19.below hb20
  refine Back.of (LS t.other) hR20 rfl ?_
  refine sim_run 1000 [] hR20 (by kernel_rfl) trivial (fun ρ21 w21 hm21 hR21 => ?_)
  refine sim_outE 3 (.tup []) hR21 (by kernel_rfl) (by kernel_rfl) ((hm19.agN 3 (by kernel_rfl)).tr (hm21.agN 3 (by kernel_rfl))) (by kernel_rfl) ?_
  refine sim_run 1000 [] hR21 (by kernel_rfl) trivial (fun ρ22 w22 hm22 hR22 => ?_)
  refine sim_idx 2 0 7 7 4 1 (by kernel_rfl) (by omega) ?_
  refine sim_run 1000 [] hR22 (by kernel_rfl) trivial (fun ρ23 w23 hm23 hR23 => ?_)
  refine sim_into Try.func62 [.ptr 0 5] (by kernel_rfl) (by kernel_rfl) ?_
  refine sim_run 1000 [] hR23 (by kernel_rfl) trivial (fun ρ24 w24 hm24 hR24 => ?_)
  refine sim_call 67 [LS t.asset] (by kernel_rfl) ?_
  refine (cloneS_any t.asset w24 (hs.asset)).mono ?_
  rintro e w25 ⟨rfl, hb25⟩
  have hR25 := hR24.below hb25
  refine Back.of (LS t.asset) hR25 rfl ?_
  refine sim_run 1000 [] hR25 (by kernel_rfl) trivial (fun ρ26 w26 hm26 hR26 => ?_)
  refine sim_outE 3 (.tup []) hR26 (by kernel_rfl) (by kernel_rfl) ((hm24.agN 3 (by kernel_rfl)).tr (hm26.agN 3 (by kernel_rfl))) (by kernel_rfl) ?_
  refine sim_run 1000 [] hR26 (by kernel_rfl) trivial (fun ρ27 w27 hm27 hR27 => ?_)
  refine sim_idx 2 0 7 7 5 1 (by kernel_rfl) (by omega) ?_
  refine sim_run 1000 [] hR27 (by kernel_rfl) trivial (fun ρ28 w28 hm28 hR28 => ?_)
  refine sim_into Try.func62 [.ptr 0 6] (by kernel_rfl) (by kernel_rfl) ?_
  refine sim_run 1000 [] hR28 (by kernel_rfl) trivial (fun ρ29 w29 hm29 hR29 => ?_)
  refine sim_call 67 [LS t.ccy] (by kernel_rfl) ?_
  refine (cloneS_any t.ccy w29 (hs.ccy)).mono ?_
  rintro e w30 ⟨rfl, hb30⟩
  have hR30 := hR29.below hb30
  refine Back.of (LS t.ccy) hR30 rfl ?_
  refine sim_run 1000 [] hR30 (by kernel_rfl) trivial (fun ρ31 w31 hm31 hR31 => ?_)
  refine sim_outE 3 (.tup []) hR31 (by kernel_rfl) (by kernel_rfl) ((hm29.agN 3 (by kernel_rfl)).tr (hm31.agN 3 (by kernel_rfl))) (by kernel_rfl) ?_
  refine sim_run 1000 [] hR31 (by kernel_rfl) trivial (fun ρ32 w32 hm32 hR32 => ?_)
  refine sim_idx 2 0 7 7 6 1 (by kernel_rfl) (by omega) ?_
  refine sim_run 1000 [] hR32 (by kernel_rfl) trivial (fun ρ33 w33 hm33 hR33 => ?_)
  refine sim_into Try.func62 [.ptr 0 7] (by kernel_rfl) (by kernel_rfl) ?_
  refine sim_run 1000 [] hR33 (by kernel_rfl) trivial (fun ρ34 w34 hm34 hR34 => ?_)
  refine sim_call 67 [LS t.ref] (by kernel_rfl) ?_
  refine (cloneS_any t.ref w34 (hs.ref)).mono ?_
  rintro e w35 ⟨rfl, hb35⟩
  have hR35 := hR34.below hb35
  refine Back.of (LS t.ref) hR35 rfl ?_
  refine sim_run 1000 [] hR35 (by kernel_rfl) trivial (fun ρ36 w36 hm36 hR36 => ?_)
  refine sim_outE 3 (.tup []) hR36 (by kernel_rfl) (by kernel_rfl) ((hm34.agN 3 (by kernel_rfl)).tr (hm36.agN 3 (by kernel_rfl))) (by kernel_rfl) ?_
  refine sim_run 1000 [] hR36 (by kernel_rfl) trivial (fun ρ37 w37 hm37 hR37 => ?_)
  exact sim_ret (.agg (t.cells.map .v)) hR37 (by kernel_rfl) (by kernel_rfl) ⟨rfl, hR37.toBelow⟩
end Go.Proofs.Ytodjhkmbgennaaa
