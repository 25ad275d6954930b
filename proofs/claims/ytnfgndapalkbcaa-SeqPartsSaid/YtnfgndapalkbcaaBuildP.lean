/-
  A slice literal whose block's shape is known; such a row is one's own.
-/
import Derived.Test.YtnfgndapalkbcaaSimO
namespace Go.Proofs.Ytnfgndapalkbcaa
section
open Go Go.RowKit
variable {P : Program} {Q : Exit → Act → World → Prop} {T : List Nat} {w0 w : World} {ρ : Nm} {c : Cfg}
def bsOf (P : Program) (c : Cfg) : Option (TypeId × Nat × List LV) := match topOp c with
  | some o => match o.op with
    | .buildSlice t len parts => match rowL P t len (parts.toList.map fun p => (p.1, evalL c.tmps p.2)) with
      | some r => some (rowElem P t, len, r)
      | none => none
    | _ => none
  | none => none
theorem sim_buildP {e : TypeId} {len : Nat} {r : List LV} (N : Nat) (h : bsOf P c = some (e, len, r)) (hN : c.rs.length = N) (hR : Rel T w0 ρ c.rs w) (hu : (undR N c.rs && (undL N c.tmps && undL N r)) = true)
    (next : ∀ ρ' w', Moved ρ c.rs w ρ' (c.rs ++ [⟨r, true⟩]) w' → ρ' N = (w.heap.size, 0) → Rel T w0 ρ' (c.rs ++ [⟨r, true⟩]) w' → Blk w' w.heap.size e (denL ρ r).toArray → At P Q (nextC c (.slc N 0 len len) (c.rs ++ [⟨r, true⟩])) ρ' w') : At P Q c ρ w := by
  subst hN
  unfold bsOf at h
  split at h
  · rename_i o ho
    split at h
    · rename_i t len' parts hop
      split at h
      · rename_i r' hr
        simp only [Option.some.injEq, Prod.mk.injEq] at h
        obtain ⟨rfl, rfl, rfl⟩ := h
        simp only [Bool.and_eq_true] at hu
        obtain ⟨ρ', ha, hn, hR'⟩ := hR.alloc hu.1 r' (rowElem P t) hu.2.2 true
        refine sim_op o ho (.slc c.rs.length 0 len' len') _ ρ' _ ?_ (act_ext ha hu.2.1) (next ρ' _ ⟨ha, Kept.alloc _ _ _, wrS_app ha hn, by simp, Still.of_blocks (fun k hk => Below.heap_alloc w _ k hk), OutR.app ha hn, OutR.pre ha, shape_app hn⟩ hn hR' (Blk.new w (rowElem P t) _))
        have hrun := rowL_run hr ρ w
        unfold execOp
        simp only [hop, denP_eq, Sem.run_bind, hrun, Result.andThen_ok, Sem.run_pure, LV.den, Nm.at_, hn, Nat.add_zero]
      · cases h
    · cases h
  · cases h
theorem own_full {w : World} {B g n size : Nat} {e : TypeId} {xs : List Value} (hb : Blk w g e xs.toArray) (hg : B ≤ g) (hl : xs.length = n * size) (hn : n ≤ maxLen) : w.ownsRow B e size (.slice (some ⟨g, 0, none⟩) n n) n xs :=
  ⟨hl, .inr ⟨g, n, xs.toArray, rfl, hg, hb, Nat.le_refl _, hn, by simp [hl], by rw [← hl]; simp⟩⟩
end
end Go.Proofs.Ytnfgndapalkbcaa
