/-
  complinebook.SameTexts at equal lists; chapter 15's first call.
-/
import Derived.Test.YtodjhkmbgennaaaMatchD
namespace Go.Proofs.Ytodjhkmbgennaaa
open Go Go.RowKit
attribute [local irreducible] run goO leaveK someK nextK nextT nextOT nextOD loopBody loopRest loopK fillJ tmplOf tmplJ mergeT At AtO drawOk ordOf gateOf callC callO topOp topO idxOf appOf storeOf clearOf sliceOf calleeOf calleeO topQ idxQ newRowOf resL stepOp seek

theorem roNone {rs : List Reg} (h : allRo rs = true) {n : Nat} {r : Reg} (hn : rs[n]? = some r) (hw : r.wr = true) : False := by
  have := List.all_eq_true.1 h r (List.mem_of_getElem? hn)
  rw [hw] at this
  cases this
theorem Rel.reads {T : List Nat} {w0 w : World} {ρ : Nm} {rs : List Reg} (hR : Rel T w0 ρ rs w) {n size m : Nat} {vs : List Value} {b : Bool} (hn : rs[n]? = some ⟨vs.map .v, b⟩) (hl : vs.length = m * size) : Reads w w.heap.size size (some ⟨(ρ n).1, (ρ n).2 + 0, none⟩) m vs := by
  refine ⟨hl, fun _ => ⟨_, rfl, hR.lt n _ hn, fun j u hu => ?_⟩⟩
  have := hR.cell n _ hn j (.v u) (by simp only [List.getElem?_map, hu, Option.map_some])
  have e : (⟨(ρ n).1, (ρ n).2 + 0, none⟩ : Addr).add j = ρ.at_ n j := by
    show (ρ.at_ n 0).add j = _
    rw [at_add, Nat.zero_add]
  rw [e]
  exact this
theorem Reads.text {w : World} {B n k : Nat} {A : Option Addr} {l : List ByteArray} (h : Reads w B 1 A n (txts l)) (hk : k < n) :
    ∃ g o s, A = some ⟨g, o, none⟩ ∧ g < B ∧ l[k]? = some s ∧ w.cell? ⟨g, o + k, none⟩ = some (.string s) := by
  have hl : l.length = n := by have := h.1; rw [txts_length] at this; omega
  obtain ⟨ad, rfl, hb, hc⟩ := h.2 (by omega)
  obtain ⟨g, o, sp⟩ := ad
  have h0 := hc 0 (.string (l[0]'(by omega))) (by simp [txts, List.getElem?_eq_getElem (show 0 < l.length by omega)])
  have hsp : sp = none := by
    cases sp with
    | none => rfl
    | some s =>
      unfold World.cell? Addr.add at h0
      simp at h0
      split at h0 <;> simp at h0
  subst hsp
  have hb : g < B := hb
  refine ⟨g, o, _, rfl, hb, List.getElem?_eq_getElem (by omega), ?_⟩
  have := hc k (.string (l[k]'(by omega))) (by simp [txts, List.getElem?_eq_getElem (show k < l.length by omega)])
  unfold Addr.add at this
  split at this
  · rename_i h0
    subst h0
    exact this
  · exact this
set_option maxRecDepth 100000 in
theorem sameTexts_any (A A' : Option Addr) (n c c' B B' : Nat) (l : List ByteArray) (w : World) (h : Reads w B 1 A n (txts l)) (h' : Reads w B' 1 A' n (txts l)) (hB : B ≤ w.heap.size) (hB' : B' ≤ w.heap.size) (hn : n ≤ 100000) :
    Calls Try.prog 15 #[.slice A n c, .slice A' n c'] w fun e w' => e = .returned (.bool true) ∧ Below w.heap.size w w' := by
  refine sim_enter Try.func15 ρ0 [.v (.slice A n c), .v (.slice A' n c')] [] (by kernel_rfl) rfl ?_
  refine sim_run 1000 [⟨1, 4, LB ((n : Int) != (n : Int)), LB false⟩] (Rel.start [] w ρ0) (by kernel_rfl) ⟨eqb (by simp), trivial⟩ (fun ρ1 w1 hm1 hR1 => ?_)
  refine sim_loop (ι := Nat) (T := []) (w0 := w) 0 [0, 1] (fun k => [(5, LI k)]) (fun _ => []) (fun k _ => k ≤ n) (fun k => n - k) (by kernel_rfl) (by kernel_rfl) (hR1.cast (by kernel_rfl)) (Nat.zero_le _) ?_
  rintro k d w2 hR2 hk
  by_cases hlt : k < n
  · refine sim_run 1000 [⟨4, 3, LB (decide ((k : Int) < (n : Int))), LB true⟩] hR2 (by kernel_rfl) ⟨eqb (by simp; omega), trivial⟩ (fun ρ3 w3 hm3 hR3 => ?_)
    have hb3 := hR3.toBelow
    obtain ⟨g, o, s, rfl, hg, hs, hc⟩ := h.text hlt
    obtain ⟨g', o', s', rfl, hg', hs', hc'⟩ := h'.text hlt
    obtain rfl : s = s' := by rw [hs] at hs'; exact Option.some.inj hs'
    refine sim_open 0 (by kernel_rfl) hR3 g (o + k) [LS s] (by kernel_rfl) (by have := hb3.size; omega) (fun j v hv => ?_) (fun n r hn hw _ => roNone (by kernel_rfl) hn hw) (fun ρ4 ha4 hρ4 hR4 => ?_)
    · cases j with
      | zero =>
        simp only [List.getElem?_cons_zero, Option.some.injEq] at hv
        subst hv
        exact (hb3.cell (show g < w.heap.size by omega)).trans hc
      | succ j => simp at hv
    refine sim_open 1 (by kernel_rfl) hR4 g' (o' + k) [LS s] (by kernel_rfl) (by have := hb3.size; omega) (fun j v hv => ?_) (fun n r hn hw _ => roNone (by kernel_rfl) hn hw) (fun ρ5 ha5 hρ5 hR5 => ?_)
    · cases j with
      | zero =>
        simp only [List.getElem?_cons_zero, Option.some.injEq] at hv
        subst hv
        exact (hb3.cell (show g' < w.heap.size by omega)).trans hc'
      | succ j => simp at hv
    refine sim_draw [] (by kernel_rfl) (by kernel_rfl) hR5 (fun hO => ?_)
    refine sim_ord [] hO (by kernel_rfl) trivial (fun ρ6 w6 hm6 hR6 => ?_)
    have hat6 : ρ6.at_ 0 0 = ⟨g, o + (k : Int).toNat * 1, none⟩ := by unfold Nm.at_; rw [hm6.at_ 0 (by kernel_rfl), ha5 0 (by omega), hρ4, Int.toNat_natCast, Nat.mul_one, Nat.add_zero]
    refine sim_ord_index (.v (.slice (some ⟨g, o, none⟩) n c)) n 1 k 0 0 (by kernel_rfl) (by omega) (by omega) rfl hR6 hat6 (fun hR7 => ?_)
    refine sim_ord [] hR7 (by kernel_rfl) trivial (fun ρ8 w8 hm8 hR8 => ?_)
    have hat8 : ρ8.at_ 1 0 = ⟨g', o' + (k : Int).toNat * 1, none⟩ := by unfold Nm.at_; rw [hm8.at_ 1 (by kernel_rfl), hm6.at_ 1 (by kernel_rfl), hρ5, Int.toNat_natCast, Nat.mul_one, Nat.add_zero]
    refine sim_ord_index (.v (.slice (some ⟨g', o', none⟩) n c')) n 1 k 1 0 (by kernel_rfl) (by omega) (by omega) rfl hR8 hat8 (fun hR9 => ?_)
    refine sim_ord [⟨6, 8, LB (s.toList == s.toList), LB true⟩] hR9 (by kernel_rfl) ⟨eqb (by simp), trivial⟩ (fun ρ10 w10 hm10 hR10 => ?_)
    refine sim_ord_end (by kernel_rfl) ?_
    refine sim_run 1000 [⟨5, 1, LI (IntKind.i64.wrap ((k : Int) + 1)), LI ((k + 1 : Nat) : Int)⟩] hR10.rel (by kernel_rfl) ⟨eqi (by rw [IntWalk.i64_in _ (by omega)]; omega), trivial⟩ (fun ρ11 w11 hm11 hR11 => ?_)
    exact sim_again (k + 1) (by kernel_rfl) (show n - (k + 1) < n - k by omega) (by kernel_rfl) (by kernel_rfl) (by kernel_rfl) (fun n hn => absurd hn (by simp)) hR11 (by kernel_rfl) (by kernel_rfl) hlt
  · refine sim_run 1000 [⟨4, 3, LB (decide ((k : Int) < (n : Int))), LB false⟩] hR2 (by kernel_rfl) ⟨eqb (by simp; omega), trivial⟩ (fun ρ3 w3 hm3 hR3 => ?_)
    refine sim_leave (by kernel_rfl) ?_
    refine sim_run 1000 [] hR3 (by kernel_rfl) trivial (fun ρ4 w4 hm4 hR4 => ?_)
    exact sim_ret (LB true) hR4 (by kernel_rfl) (by kernel_rfl) ⟨rfl, hR4.toBelow⟩

/-! ### The first call -/
instance (z : Int) : Decidable (Is64 z) := inferInstanceAs (Decidable (_ ∧ _))
def aX : In := ⟨1, ⟨⟨#[80]⟩, noText, noText, ⟨#[81]⟩, true, noText, noText, noText, 0, 100, 0, 0⟩, 0, false, false, false, 0, 0, 0, 0⟩
def aY : In := ⟨2, ⟨⟨#[81]⟩, noText, noText, ⟨#[80]⟩, false, noText, noText, noText, 0, 97, 0, 0⟩, 0, false, false, false, 0, 0, 0, 0⟩
def aZ : In := ⟨3, ⟨⟨#[81]⟩, noText, noText, ⟨#[80]⟩, false, noText, noText, noText, 0, 102, 0, 0⟩, 0, false, false, false, 0, 0, 0, 0⟩
def aW : In := ⟨4, ⟨⟨#[81]⟩, noText, noText, ⟨#[80]⟩, false, noText, noText, noText, 0, 102, 0, 0⟩, 0, false, false, false, 0, 0, 0, 0⟩
theorem aX_ok : aX.ok := ⟨by decide, ⟨by decide, by decide, by decide, by decide, by decide, by decide, by decide, by decide, by decide, by decide, by decide⟩, by decide, by decide, by decide, by decide, by decide⟩
theorem aY_ok : aY.ok := ⟨by decide, ⟨by decide, by decide, by decide, by decide, by decide, by decide, by decide, by decide, by decide, by decide, by decide⟩, by decide, by decide, by decide, by decide, by decide⟩
theorem aZ_ok : aZ.ok := ⟨by decide, ⟨by decide, by decide, by decide, by decide, by decide, by decide, by decide, by decide, by decide, by decide, by decide⟩, by decide, by decide, by decide, by decide, by decide⟩
theorem aW_ok : aW.ok := ⟨by decide, ⟨by decide, by decide, by decide, by decide, by decide, by decide, by decide, by decide, by decide, by decide, by decide⟩, by decide, by decide, by decide, by decide, by decide⟩
theorem alive_mate : mateR aX 5 [aY, aZ, aW] = (3, true) := by kernel_rfl
theorem alive_differ : (differ aX aX 0).length = 2 := by kernel_rfl
theorem alive_fits3 : fitsB aX aY 3 = true := by kernel_rfl
theorem alive_fits2 : fitsB aX aY 2 = false := by kernel_rfl
theorem alive_far : farM aX.term.amount aY.term.amount = 3 := by kernel_rfl
set_option maxRecDepth 100000 in
theorem alive_any (w : World) : Calls Try.prog 12 #[] w fun e w' => e = .returned (.bool true) ∧ Below w.heap.size w w' := by
  refine sim_enter Try.func12 ρ0 [] [] (by kernel_rfl) rfl ?_
  refine sim_run 1000 [] (Rel.start [] w ρ0) (by kernel_rfl) trivial (fun ρ1 w1 hm1 hR1 => ?_)
  have hrd := hR1.reads (n := 4) (size := 21) (m := 3) (vs := insts [aY, aZ, aW]) (b := true) (by kernel_rfl) rfl
  refine sim_call 17 [.agg (aX.cells.map .v), LI 5, .slc 4 0 3 3] (by kernel_rfl) ?_
  refine (mate_any aX aX_ok 5 (by decide) _ 3 3 w1.heap.size [aY, aZ, aW] w1 hrd (Nat.le_refl _) (fun y hy => ?_) (by decide) (fun h => by cases h)).mono ?_
  · simp only [List.mem_cons, List.not_mem_nil, or_false] at hy
    rcases hy with rfl | rfl | rfl
    · exact aY_ok
    · exact aZ_ok
    · exact aW_ok
  rw [alive_mate]
  rintro e w2 ⟨rfl, hb2⟩
  refine Back.of (.tup [LI 3, LB true]) (hR1.below hb2) rfl ?_
  refine sim_run 1000 [] (hR1.below hb2) (by kernel_rfl) trivial (fun ρ3 w3 hm3 hR3 => ?_)
  refine sim_call 16 [.agg (aX.cells.map .v), .agg (aX.cells.map .v), LI 0] (by kernel_rfl) ?_
  refine (differ_any aX aX aX_ok aX_ok 0 (by decide) w3).mono ?_
  rintro e w4 ⟨A, cap, rfl, _, hb4⟩
  rw [alive_differ]
  refine Back.of (.v (.slice A 2 cap)) (hR3.below hb4) rfl ?_
  refine sim_run 1000 [] (hR3.below hb4) (by kernel_rfl) trivial (fun ρ5 w5 hm5 hR5 => ?_)
  refine sim_call 13 [.agg (aX.cells.map .v), .agg (aY.cells.map .v), LI 3] (by kernel_rfl) ?_
  refine (fits_any aX aY aX_ok aY_ok 3 (by decide) w5).mono ?_
  rw [alive_fits3]
  rintro e w6 ⟨rfl, hb6⟩
  refine Back.of (LB true) (hR5.below hb6) rfl ?_
  refine sim_run 1000 [] (hR5.below hb6) (by kernel_rfl) trivial (fun ρ7 w7 hm7 hR7 => ?_)
  refine sim_call 13 [.agg (aX.cells.map .v), .agg (aY.cells.map .v), LI 2] (by kernel_rfl) ?_
  refine (fits_any aX aY aX_ok aY_ok 2 (by decide) w7).mono ?_
  rw [alive_fits2]
  rintro e w8 ⟨rfl, hb8⟩
  refine Back.of (LB false) (hR7.below hb8) rfl ?_
  refine sim_run 1000 [] (hR7.below hb8) (by kernel_rfl) trivial (fun ρ9 w9 hm9 hR9 => ?_)
  refine sim_call 14 [.agg (aX.cells.map .v), .agg (aY.cells.map .v)] (by kernel_rfl) ?_
  refine (far2_any aX aY aX_ok aY_ok w9).mono ?_
  rw [alive_far]
  rintro e w10 ⟨rfl, hb10⟩
  refine Back.of (LI 3) (hR9.below hb10) rfl ?_
  refine sim_run 1000 [] (hR9.below hb10) (by kernel_rfl) trivial (fun ρ11 w11 hm11 hR11 => ?_)
  exact sim_ret (LB true) hR11 (by kernel_rfl) (by kernel_rfl) ⟨rfl, hR11.toBelow⟩
end Go.Proofs.Ytodjhkmbgennaaa
