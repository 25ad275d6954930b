/-
  complinelaw16: alive; alleg.Flip.
-/
import Derived.Test.YtnojkclgjinjhaaAlB
namespace Go.Proofs.Ytnojkclgjinjhaa
open Go Go.RowKit
attribute [local irreducible] run goO leaveK someK nextK nextT nextOT nextOD loopBody loopRest loopK fillJ tmplOf tmplJ mergeT At AtO drawOk ordOf gateOf callC callO topOp topO idxOf appOf storeOf clearOf sliceOf calleeOf calleeO topQ idxQ newRowOf resL stepOp seek

def qX : In := ⟨1, ⟨⟨#[80]⟩, noText, noText, ⟨#[81]⟩, true, noText, noText, noText, 5, 0, 0, 0⟩, 0, false, false, false, 0, 0, 0, 0⟩
def qY : In := ⟨2, ⟨⟨#[81]⟩, noText, noText, ⟨#[80]⟩, false, noText, noText, noText, 6, 0, 0, 0⟩, 0, false, false, false, 0, 0, 0, 0⟩
theorem qX_ok : qX.ok := ⟨by decide, ⟨by decide, by decide, by decide, by decide, by decide, by decide, by decide, by decide, by decide, by decide, by decide⟩, by decide, by decide, by decide, by decide, by decide⟩
theorem qY_ok : qY.ok := ⟨by decide, ⟨by decide, by decide, by decide, by decide, by decide, by decide, by decide, by decide, by decide, by decide, by decide⟩, by decide, by decide, by decide, by decide, by decide⟩
def qT : ByteArray := ⟨#[113, 116, 121]⟩
theorem ssort_one (lt : In → In → Bool) (x : In) : ssort lt [x] = [x] := by simp [ssort]
theorem alive_for1 : [qX].map (oneAl [qY]) = [(qX.term, 1, 2, [qT])] := by kernel_rfl
theorem alive_for : forM ⟨#[81]⟩ [qX, qY] = [(qX.term, 1, 2, [qT])] := by
  have h1 : [qX, qY].filter (fun x => !PickB (wantOth ⟨#[81]⟩) x) = [qX] := by kernel_rfl
  have h2 : [qX, qY].filter (fun x => !PickB (wantOwn ⟨#[81]⟩) x) = [qY] := by kernel_rfl
  unfold forM pickS
  rw [h1, h2, ssort_one, ssort_one]
  exact alive_for1
theorem one_al {l : List Al} {t : Tm} {i n : Int} {ws : List ByteArray} (h : l.map Al.plain = [(t, i, n, ws)]) : ∃ v, l = [⟨t, i, n, v, ws⟩] := by
  match l, h with
  | [⟨_, _, _, v, _⟩], h =>
    simp only [Al.plain, List.map_cons, List.map_nil, List.cons.injEq, Prod.mk.injEq, and_true] at h
    obtain ⟨rfl, rfl, rfl, rfl⟩ := h
    exact ⟨v, rfl⟩
set_option maxRecDepth 100000 in
theorem alive16_any (w : World) : Calls Try.prog 6 #[] w fun e w' => e = .returned (.bool true) ∧ Below w.heap.size w w' := by
  refine sim_enter Try.func6 ρ0 [] [] (by kernel_rfl) rfl ?_
  have hR := Rel.start [] w ρ0
  refine sim_run 23 [] (hR.cast (by kernel_rfl)) (by kernel_rfl) trivial (fun ρ100 w100 hm100 hR100 => ?_)
  
  have hrd := hR100.reads (n := 2) (size := 21) (m := 2) (vs := insts [qX, qY]) (b := true) (by kernel_rfl) rfl
  refine sim_call 7 [LS ⟨#[81]⟩, .slc 2 0 2 2] (by kernel_rfl) ?_
  refine (for_any ⟨#[81]⟩ _ 2 2 _ [qX, qY] _ hrd (Nat.le_refl _) (fun y hy => ?_) (by decide) (fun h => by cases h)).mono ?_
  · simp only [List.mem_cons, List.not_mem_nil, or_false] at hy
    rcases hy with rfl | rfl
    · exact qX_ok
    · exact qY_ok
  rw [alive_for]
  rintro e w2 ⟨A, cap, l, rfl, hl, hown, hws, hb2⟩
  obtain ⟨v, rfl⟩ := one_al hl
  have hwhat : w2.ownsRow w100.heap.size 9 1 v 1 [.string qT] := hws ⟨qX.term, 1, 2, v, [qT]⟩ (by simp)
  have hR2 := hR100.below hb2
  have hown := Own.fresh hR100 hown (Nat.le_refl _)
  have hwhat := Own.fresh hR100 hwhat (Nat.le_refl _)
  obtain ⟨gw, cw, hv⟩ : ∃ gw cw, v = .slice (some ⟨gw, 0, none⟩) 1 cw := by
    rcases hwhat.own.2 with ⟨_, h0⟩ | ⟨gw, cw, _, e, _⟩
    · cases h0
    · exact ⟨gw, cw, e⟩
  subst hv
  obtain ⟨ga, oa, rfl, _, _⟩ := hown.reads.spot (by show 0 < 1; omega) (by omega)
  refine Back.of (.v (.slice (some ⟨ga, oa, none⟩) 1 cap)) hR2 rfl ?_
  have hown : Own _ _ w2 _ 32 15 (.slice (some ⟨ga, oa, none⟩) 1 cap) 1 [Al.cells ⟨qX.term, 1, 2, .slice (some ⟨gw, 0, none⟩) 1 cw, [qT]⟩].flatten := hown
  have hwhat : Own _ _ w2 _ 9 1 (.slice (some ⟨gw, 0, none⟩) 1 cw) 1 [[.string qT]].flatten := hwhat
  refine sim_run 9 [] (hR2.cast (by kernel_rfl)) (by kernel_rfl) trivial (fun ρ200 w200 hm200 hR200 => ?_)
  have hown := hown.moved (hm200.castL (by kernel_rfl))
  have hwhat := hwhat.moved (hm200.castL (by kernel_rfl))
  refine sim_elemO (Al.cells ⟨qX.term, 1, 2, .slice (some ⟨gw, 0, none⟩) 1 cw, [qT]⟩) cap 0 3 (by kernel_rfl) (by kernel_rfl) rfl hown (by intro y hy; rw [List.mem_singleton.1 hy]; rfl) (by omega) (by omega) hR200 (by kernel_rfl) (fun ρ201 hm201 hR201 => ?_)
  have hown := hown.moved hm201
  have hwhat := hwhat.moved hm201
  refine sim_run 6 [] (hR201.cast (by kernel_rfl)) (by kernel_rfl) trivial (fun ρ202 w202 hm202 hR202 => ?_)
  have hown := hown.moved (hm202.castL (by kernel_rfl))
  have hwhat := hwhat.moved (hm202.castL (by kernel_rfl))
  refine sim_elemO (Al.cells ⟨qX.term, 1, 2, .slice (some ⟨gw, 0, none⟩) 1 cw, [qT]⟩) cap 0 4 (by kernel_rfl) (by kernel_rfl) rfl hown (by intro y hy; rw [List.mem_singleton.1 hy]; rfl) (by omega) (by omega) hR202 (by kernel_rfl) (fun ρ203 hm203 hR203 => ?_)
  have hown := hown.moved hm203
  have hwhat := hwhat.moved hm203
  refine sim_run 6 [] (hR203.cast (by kernel_rfl)) (by kernel_rfl) trivial (fun ρ204 w204 hm204 hR204 => ?_)
  have hown := hown.moved (hm204.castL (by kernel_rfl))
  have hwhat := hwhat.moved (hm204.castL (by kernel_rfl))
  refine sim_elemO (Al.cells ⟨qX.term, 1, 2, .slice (some ⟨gw, 0, none⟩) 1 cw, [qT]⟩) cap 0 5 (by kernel_rfl) (by kernel_rfl) rfl hown (by intro y hy; rw [List.mem_singleton.1 hy]; rfl) (by omega) (by omega) hR204 (by kernel_rfl) (fun ρ205 hm205 hR205 => ?_)
  have hown := hown.moved hm205
  have hwhat := hwhat.moved hm205
  refine sim_run 7 [] (hR205.cast (by kernel_rfl)) (by kernel_rfl) trivial (fun ρ206 w206 hm206 hR206 => ?_)
  have hown := hown.moved (hm206.castL (by kernel_rfl))
  have hwhat := hwhat.moved (hm206.castL (by kernel_rfl))
  refine sim_elemO (Al.cells ⟨qX.term, 1, 2, .slice (some ⟨gw, 0, none⟩) 1 cw, [qT]⟩) cap 0 6 (by kernel_rfl) (by kernel_rfl) rfl hown (by intro y hy; rw [List.mem_singleton.1 hy]; rfl) (by omega) (by omega) hR206 (by kernel_rfl) (fun ρ207 hm207 hR207 => ?_)
  have hown := hown.moved hm207
  have hwhat := hwhat.moved hm207
  refine sim_run 2 [] (hR207.cast (by kernel_rfl)) (by kernel_rfl) trivial (fun ρ208 w208 hm208 hR208 => ?_)
  have hown := hown.moved (hm208.castL (by kernel_rfl))
  have hwhat := hwhat.moved (hm208.castL (by kernel_rfl))
  refine sim_elemO [.string qT] cw 0 7 (by kernel_rfl) (by kernel_rfl) rfl hwhat (by intro y hy; rw [List.mem_singleton.1 hy]; rfl) (by omega) (by omega) hR208 (by kernel_rfl) (fun ρ210 hm210 hR210 => ?_)
  have hown := hown.moved hm210
  have hwhat := hwhat.moved hm210
  refine sim_run 5 [] (hR210.cast (by kernel_rfl)) (by kernel_rfl) trivial (fun ρ211 w211 hm211 hR211 => ?_)
  have hown := hown.moved (hm211.castL (by kernel_rfl))
  have hwhat := hwhat.moved (hm211.castL (by kernel_rfl))
  refine sim_elemO (Al.cells ⟨qX.term, 1, 2, .slice (some ⟨gw, 0, none⟩) 1 cw, [qT]⟩) cap 0 8 (by kernel_rfl) (by kernel_rfl) rfl hown (by intro y hy; rw [List.mem_singleton.1 hy]; rfl) (by omega) (by omega) hR211 (by kernel_rfl) (fun ρ212 hm212 hR212 => ?_)
  have hown := hown.moved hm212
  have hwhat := hwhat.moved hm212
  refine sim_run 7 [] (hR212.cast (by kernel_rfl)) (by kernel_rfl) trivial (fun ρ213 w213 hm213 hR213 => ?_)
  have hown := hown.moved (hm213.castL (by kernel_rfl))
  have hwhat := hwhat.moved (hm213.castL (by kernel_rfl))
  refine sim_ret (LB true) hR213 (by kernel_rfl) (by kernel_rfl) ?_
  exact ⟨rfl, hR213.toBelow⟩
  
end Go.Proofs.Ytnojkclgjinjhaa
