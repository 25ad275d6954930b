/-
  An array's elements as a slice: all of them. Over any program.
-/
import Derived.Test.YtgbgedaedcofcaaSimO
namespace Go.Proofs.Ytgbgedaedcofcaa
section
open Go Go.RowKit
variable {P : Program} {Q : Exit → Act → World → Prop} {w : World} {ρ : Nm} {c : Cfg}
def arrOf (P : Program) (c : Cfg) : Option (Nat × Nat × Nat) := match topOp c with
  | some o => match o.op with
    | .slice t x none none none => match evalL c.tmps x, P.underlying t with
      | .ptr n off, some (.array len e) => match P.info? e with
        | some _ => some (n, off, len)
        | none => none
      | _, _ => none
    | _ => none
  | none => none
theorem sim_arr (n off len : Nat) (h : arrOf P c = some (n, off, len)) (next : At P Q (nextC c (.slc n off len len) c.rs) ρ w) : At P Q c ρ w := by
  unfold arrOf at h
  split at h
  · rename_i o ho
    split at h
    · rename_i t x hop
      split at h
      · rename_i n' off' len' e hx hu
        split at h
        · rename_i i hi
          simp only [Option.some.injEq, Prod.mk.injEq] at h
          obtain ⟨rfl, rfl, rfl⟩ := h
          refine sim_op o ho (.slc n' off' len' len') c.rs ρ w ?_ rfl next
          unfold execOp
          simp [hop, act_eval, hx, LV.den, Instr.sliceAt, run_underlying hu, Instr.sureAddr, Instr.sliceBounds, sizeOf, typeInfo, hi]
          intro _
          rw [at_add, Nat.add_zero]
        · cases h
      · cases h
    · cases h
  · cases h
end
end Go.Proofs.Ytgbgedaedcofcaa
