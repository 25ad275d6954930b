/-
  A loop over a map begins, in a region that draws. Over any program.
-/
import Derived.Test.YtnfgndapalkbcaaMapAB
namespace Go.Proofs.Ytnfgndapalkbcaa
open Go Go.RowKit
section
variable {P : Program} {Q : Exit → Act → World → Prop} {T : List Nat} {w0 w : World} {ρ : Nm}
variable {kt : TypeId} {K V : Type} {enc : K → Value} {encV : V → Value}
def rangeOfO (c : OCfg) : Option (TypeId × LV) := match topO c with
  | some o => match o.op with
    | .range t x => some (t, evalL c.tmps x)
    | _ => none
  | none => none
theorem sim_ord_range {c : OCfg} {ρs : Nm} {t et : TypeId} {mx : LV} (h : rangeOfO c = some (t, mx)) (ht : P.underlying t = some (.map kt et)) {m : Option Nat} {l : List (Ent K V)} {clock : Nat} (hM : MpO enc encV ρ c.rs w m l clock) (hm : mx.den ρ = .map m) (hR : RelO T w0 c ρs ρ w)
    (next : ∀ w' it, it = w.heap.size → Below w.heap.size w w' → ItO ρ c.rs w' it m l clock [] → RelO T w0 (nextO c (.v (.pointer (some ⟨it, 0, none⟩))) c.rs) ρs ρ w' → AtO P Q (nextO c (.v (.pointer (some ⟨it, 0, none⟩))) c.rs) ρs ρ w') : AtO P Q c ρs ρ w := by
  unfold rangeOfO at h
  split at h
  · rename_i o ho
    split at h
    · rename_i t' x hop
      simp only [Option.some.injEq, Prod.mk.injEq] at h
      obtain ⟨rfl, rfl⟩ := h
      have hk := Kept.alloc w (fun _ => False) (.mapIter m clock #[] clock)
      have hR' : Rel T w0 ρ c.rs (w.alloc (.mapIter m clock #[] clock)) := hR.rel.kept hk (fun _ _ _ _ h => h) (fun _ h => h.elim)
      refine sim_ord_turn o ho (.v (.pointer (some ⟨w.heap.size, 0, none⟩))) (w.alloc (.mapIter m clock #[] clock)) hR hR' (.inl ?_) (fun hRO => next _ _ rfl (hk.below (Nat.le_refl _) (fun _ h => h.elim)) ⟨⟨#[], heap_alloc_new w _, rfl⟩, fun hw => (by have := hR.rel.wr_lt hw; omega), (fun _ h => (by cases h)), List.nodup_nil⟩ hRO)
      have hr : (Instr.range t' (.map m)).run P w = .ok (.pointer (some ⟨w.heap.size, 0, none⟩)) (w.alloc (.mapIter m clock #[] clock)) := by
        unfold Instr.range
        cases m with
        | none =>
          obtain ⟨_, rfl⟩ := hM.nil rfl
          simp [run_underlying ht, newObj, Sem.run, Result.andThen]
        | some g =>
          simp [run_underlying ht, MapKept.run_getObj_map (hM.is g rfl).1.blk, newObj, Sem.run, Result.andThen]
      unfold execOp
      simp [hop, act_eval, hm, hr, LV.den]
    · cases h
  · cases h
end
end Go.Proofs.Ytnfgndapalkbcaa
