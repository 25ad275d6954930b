/-
  complinebook.SameTexts at equal lists; chapter 15's first call.
-/
import Derived.Test.YtnojkclgjinjhaaMatchD
namespace Go.Proofs.Ytnojkclgjinjhaa
open Go Go.RowKit
attribute [local irreducible] run goO leaveK someK nextK nextT nextOT nextOD loopBody loopRest loopK fillJ tmplOf tmplJ mergeT At AtO drawOk ordOf gateOf callC callO topOp topO idxOf appOf storeOf clearOf sliceOf calleeOf calleeO topQ idxQ newRowOf resL stepOp seek

theorem roNone {rs : List Reg} (h : allRo rs = true) {n : Nat} {r : Reg} (hn : rs[n]? = some r) (hw : r.wr = true) : False := by
  have := List.all_eq_true.1 h r (List.mem_of_getElem? hn)
  rw [hw] at this
  cases this
theorem Rel.reads {T : List Nat} {w0 w : World} {ρ : Nm} {rs : List Reg} (hR : Rel T w0 ρ rs w) {n size m : Nat} {vs : List Value} {b : Bool} (hn : rs[n]? = some ⟨vs.map .v, b⟩) (hl : vs.length = m * size) : Reads w w.heap.size size (some ⟨(ρ n).1, (ρ n).2 + 0, none⟩) m vs := by
  refine ⟨hl, fun _ => ⟨_, rfl, hR.lt n _ hn, fun j u hu => ?_⟩⟩
  have := hR.cell n _ hn j (.v u) (by simp only [List.getElem?_map, hu, Option.map_some])
  have e : (⟨(ρ n).1, (ρ n).2 + 0, none⟩ : Addr).add j = ρ.at_ n j := by
    show (ρ.at_ n 0).add j = _
    rw [at_add, Nat.zero_add]
  rw [e]
  exact this
theorem Reads.text {w : World} {B n k : Nat} {A : Option Addr} {l : List ByteArray} (h : Reads w B 1 A n (txts l)) (hk : k < n) :
    ∃ g o s, A = some ⟨g, o, none⟩ ∧ g < B ∧ l[k]? = some s ∧ w.cell? ⟨g, o + k, none⟩ = some (.string s) := by
  have hl : l.length = n := by have := h.1; rw [txts_length] at this; omega
  obtain ⟨ad, rfl, hb, hc⟩ := h.2 (by omega)
  obtain ⟨g, o, sp⟩ := ad
  have h0 := hc 0 (.string (l[0]'(by omega))) (by simp [txts, List.getElem?_eq_getElem (show 0 < l.length by omega)])
  have hsp : sp = none := by
    cases sp with
    | none => rfl
    | some s =>
      unfold World.cell? Addr.add at h0
      simp at h0
      split at h0 <;> simp at h0
  subst hsp
  have hb : g < B := hb
  refine ⟨g, o, _, rfl, hb, List.getElem?_eq_getElem (by omega), ?_⟩
  have := hc k (.string (l[k]'(by omega))) (by simp [txts, List.getElem?_eq_getElem (show k < l.length by omega)])
  unfold Addr.add at this
  split at this
  · rename_i h0
    subst h0
    exact this
  · exact this
/-! ### The first call -/
instance (z : Int) : Decidable (Is64 z) := inferInstanceAs (Decidable (_ ∧ _))
def aX : In := ⟨1, ⟨⟨#[80]⟩, noText, noText, ⟨#[81]⟩, true, noText, noText, noText, 0, 100, 0, 0⟩, 0, false, false, false, 0, 0, 0, 0⟩
def aY : In := ⟨2, ⟨⟨#[81]⟩, noText, noText, ⟨#[80]⟩, false, noText, noText, noText, 0, 97, 0, 0⟩, 0, false, false, false, 0, 0, 0, 0⟩
def aZ : In := ⟨3, ⟨⟨#[81]⟩, noText, noText, ⟨#[80]⟩, false, noText, noText, noText, 0, 102, 0, 0⟩, 0, false, false, false, 0, 0, 0, 0⟩
def aW : In := ⟨4, ⟨⟨#[81]⟩, noText, noText, ⟨#[80]⟩, false, noText, noText, noText, 0, 102, 0, 0⟩, 0, false, false, false, 0, 0, 0, 0⟩
theorem aX_ok : aX.ok := ⟨by decide, ⟨by decide, by decide, by decide, by decide, by decide, by decide, by decide, by decide, by decide, by decide, by decide⟩, by decide, by decide, by decide, by decide, by decide⟩
theorem aY_ok : aY.ok := ⟨by decide, ⟨by decide, by decide, by decide, by decide, by decide, by decide, by decide, by decide, by decide, by decide, by decide⟩, by decide, by decide, by decide, by decide, by decide⟩
theorem aZ_ok : aZ.ok := ⟨by decide, ⟨by decide, by decide, by decide, by decide, by decide, by decide, by decide, by decide, by decide, by decide, by decide⟩, by decide, by decide, by decide, by decide, by decide⟩
theorem aW_ok : aW.ok := ⟨by decide, ⟨by decide, by decide, by decide, by decide, by decide, by decide, by decide, by decide, by decide, by decide, by decide⟩, by decide, by decide, by decide, by decide, by decide⟩
theorem alive_mate : mateR aX 5 [aY, aZ, aW] = (3, true) := by kernel_rfl
theorem alive_differ : (differ aX aX 0).length = 2 := by kernel_rfl
theorem alive_fits3 : fitsB aX aY 3 = true := by kernel_rfl
theorem alive_fits2 : fitsB aX aY 2 = false := by kernel_rfl
theorem alive_far : farM aX.term.amount aY.term.amount = 3 := by kernel_rfl
set_option maxRecDepth 100000 in
theorem alive_any (w : World) : Calls Try.prog 10 #[] w fun e w' => e = .returned (.bool true) ∧ Below w.heap.size w w' := by
  refine sim_enter Try.func10 ρ0 [] [] (by kernel_rfl) rfl ?_
  refine sim_run 1000 [] (Rel.start [] w ρ0) (by kernel_rfl) trivial (fun ρ1 w1 hm1 hR1 => ?_)
  have hrd := hR1.reads (n := 4) (size := 21) (m := 3) (vs := insts [aY, aZ, aW]) (b := true) (by kernel_rfl) rfl
  refine sim_call 29 [.agg (aX.cells.map .v), LI 5, .slc 4 0 3 3] (by kernel_rfl) ?_
  refine (mate_any aX aX_ok 5 (by decide) _ 3 3 w1.heap.size [aY, aZ, aW] w1 hrd (Nat.le_refl _) (fun y hy => ?_) (by decide) (fun h => by cases h)).mono ?_
  · simp only [List.mem_cons, List.not_mem_nil, or_false] at hy
    rcases hy with rfl | rfl | rfl
    · exact aY_ok
    · exact aZ_ok
    · exact aW_ok
  rw [alive_mate]
  rintro e w2 ⟨rfl, hb2⟩
  refine Back.of (.tup [LI 3, LB true]) (hR1.below hb2) rfl ?_
  refine sim_run 1000 [] (hR1.below hb2) (by kernel_rfl) trivial (fun ρ3 w3 hm3 hR3 => ?_)
  refine sim_call 8 [.agg (aX.cells.map .v), .agg (aX.cells.map .v), LI 0] (by kernel_rfl) ?_
  refine (differ_any aX aX aX_ok aX_ok 0 (by decide) w3).mono ?_
  rintro e w4 ⟨A, cap, rfl, _, hb4⟩
  rw [alive_differ]
  refine Back.of (.v (.slice A 2 cap)) (hR3.below hb4) rfl ?_
  refine sim_run 1000 [] (hR3.below hb4) (by kernel_rfl) trivial (fun ρ5 w5 hm5 hR5 => ?_)
  refine sim_call 14 [.agg (aX.cells.map .v), .agg (aY.cells.map .v), LI 3] (by kernel_rfl) ?_
  refine (fits_any aX aY aX_ok aY_ok 3 (by decide) w5).mono ?_
  rw [alive_fits3]
  rintro e w6 ⟨rfl, hb6⟩
  refine Back.of (LB true) (hR5.below hb6) rfl ?_
  refine sim_run 1000 [] (hR5.below hb6) (by kernel_rfl) trivial (fun ρ7 w7 hm7 hR7 => ?_)
  refine sim_call 14 [.agg (aX.cells.map .v), .agg (aY.cells.map .v), LI 2] (by kernel_rfl) ?_
  refine (fits_any aX aY aX_ok aY_ok 2 (by decide) w7).mono ?_
  rw [alive_fits2]
  rintro e w8 ⟨rfl, hb8⟩
  refine Back.of (LB false) (hR7.below hb8) rfl ?_
  refine sim_run 1000 [] (hR7.below hb8) (by kernel_rfl) trivial (fun ρ9 w9 hm9 hR9 => ?_)
  refine sim_call 30 [.agg (aX.cells.map .v), .agg (aY.cells.map .v)] (by kernel_rfl) ?_
  refine (far2_any aX aY aX_ok aY_ok w9).mono ?_
  rw [alive_far]
  rintro e w10 ⟨rfl, hb10⟩
  refine Back.of (LI 3) (hR9.below hb10) rfl ?_
  refine sim_run 1000 [] (hR9.below hb10) (by kernel_rfl) trivial (fun ρ11 w11 hm11 hR11 => ?_)
  exact sim_ret (LB true) hR11 (by kernel_rfl) (by kernel_rfl) ⟨rfl, hR11.toBelow⟩
end Go.Proofs.Ytnojkclgjinjhaa
