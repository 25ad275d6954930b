/-
  slices.IndexFunc, slices.ContainsFunc at api.Pledge.
-/
import Derived.Test.YtioehmngkoffaaaCrAP
namespace Go.Proofs.Ytioehmngkoffaaa
open Go Go.RowKit
/-- a function value that answers p at each element, as long as what was there stands -/
def PredPl (w : World) (f : FuncId) (caps : Array Value) (p : Pl → Bool) (xs : List Pl) : Prop :=
  ∀ (x : Pl) (w1 : World), x ∈ xs → Below w.heap.size w w1 → Calls Try.prog f (#[.agg x.cells.toArray] ++ caps) w1 fun e w2 => e = .returned (.bool (p x)) ∧ Below w1.heap.size w1 w2
attribute [local irreducible] run goO leaveK someK nextK nextT nextOT nextOD loopBody loopRest loopK fillJ tmplOf tmplJ mergeT At AtO drawOk ordOf gateOf callC callO topOp topO idxOf appOf storeOf clearOf sliceOf calleeOf calleeO topQ idxQ newRowOf resL stepOp seek
set_option maxRecDepth 100000 in
set_option maxHeartbeats 4000000 in
theorem indexFPl_any (f : FuncId) (hf : Enters Try.prog f) (caps : Array Value) (p : Pl → Bool) (A : Option Addr) (n cp B : Nat) (xs : List Pl) (w : World) (h : Reads w B 2 A n (xs.map Pl.cells).flatten) (hl : xs.length = n) (hB : B ≤ w.heap.size) (hn : n ≤ 100000) (hp : PredPl w f caps p xs) :
    Calls Try.prog 50 #[.slice A n cp, .func (.func f) #[] caps] w fun e w' => e = .returned (.int .i64 (idxF p xs 0)) ∧ Below w.heap.size w w' := by
  refine sim_enter Try.func50 ρ0 [.v (.slice A n cp), .v (.func (.func f) #[] caps)] [] (by kernel_rfl) rfl ?_
  have hR := Rel.start [] w ρ0
  have hin : ∀ x ∈ xs.map Pl.cells, x.length = 2 := fun x hx => by
    obtain ⟨c, _, rfl⟩ := List.mem_map.1 hx
    rfl
  refine sim_run 12 [] (hR.cast (by kernel_rfl)) (by kernel_rfl) trivial (fun ρ100 w100 hm100 hR100 => ?_)
  
  refine sim_loop (ι := Nat) (T := []) (w0 := w) 0 [0, 1, 7] (fun k => [(8, LI k)]) (fun _ => []) (fun k _ => k ≤ n ∧ idxF p xs 0 = idxF p (xs.drop k) k) (fun k => n - k) (by kernel_rfl) (by kernel_rfl) (hR100.cast (by kernel_rfl)) ⟨Nat.zero_le _, rfl⟩ ?_
  clear hR hm100 hR100
  rintro k d w2 hR2 ⟨hk, hs⟩
  by_cases hlt : k < n
  · obtain ⟨x, hx⟩ : ∃ x, xs[k]? = some x := ⟨_, List.getElem?_eq_getElem (by omega)⟩
    have hxm := List.mem_of_getElem? hx
    rw [idxF_here hx] at hs
    refine sim_see x.cells k 0 (by kernel_rfl) (by rw [List.getElem?_map, hx]; rfl) h hin (by omega) hlt hB (by simp) hR2 (by kernel_rfl) (fun ga oa ρE eA hgT hgl hmE eE hRE => ?_)
    subst eA
    have hag := hRE.ag_ 1 (by kernel_rfl)
    by_cases he : p x = true
    · rw [if_pos he] at hs
      refine sim_run 5 [] (hRE.cast (by kernel_rfl)) (by kernel_rfl) trivial (fun ρ200 w200 hm200 hR200 => ?_)
      have hag := hag.moved (hm200.castL (by kernel_rfl))
      refine sim_know 9 (decide ((↑k : Int) < (↑n : Int))) true (by kernel_rfl) (decide_eq_true (by omega)) ?_
      refine sim_run 14 [] (hR200.cast (by kernel_rfl)) (by kernel_rfl) trivial (fun ρ201 w201 hm201 hR201 => ?_)
      have hag := hag.moved (hm201.castL (by kernel_rfl))
      refine sim_place (.v (.slice (some ⟨ga, oa, none⟩) n cp)) n 2 k 0 0 (by kernel_rfl) (by omega) (by omega) rfl (by simp only [Nm.at_, hag.at_ 0 (by omega), eE, Nat.add_zero, Int.toNat_natCast]) ?_
      refine sim_run 1 [] (hR201.cast (by kernel_rfl)) (by kernel_rfl) trivial (fun ρ203 w203 hm203 hR203 => ?_)
      have hag := hag.moved (hm203.castL (by kernel_rfl))
      refine sim_callF f caps (.v (Value.func (Fn.func f) (Array.mk []) caps)) [.agg [LS x.asset, LI x.qty]] (by kernel_rfl) rfl hf (Calls.mono (hp x _ hxm (hR203).toBelow) ?_)
      rw [he]
      rintro e204 w204 ⟨rfl, hb204⟩
      have hR204 := (hR203).below hb204
      refine Back.of (LB true) hR204 rfl ?_
      refine sim_run 7 [] (hR204.cast (by kernel_rfl)) (by kernel_rfl) trivial (fun ρ205 w205 hm205 hR205 => ?_)
      have hag := hag.moved (hm205.castL (by kernel_rfl))
      refine sim_ret (LI ((↑k : Int))) hR205 (by kernel_rfl) (by kernel_rfl) ?_
      exact ⟨retv_int (by clear hR205 hm205 hR204 hb204 hR203 hm203 hR201 hm201 hR200 hm200 hag hRE hmE eE hR2; grind []), hR205.toBelow⟩
      
    · rw [if_neg he] at hs
      have he2 : p x = false := by simpa using he
      refine sim_run 5 [] (hRE.cast (by kernel_rfl)) (by kernel_rfl) trivial (fun ρ300 w300 hm300 hR300 => ?_)
      have hag := hag.moved (hm300.castL (by kernel_rfl))
      refine sim_know 9 (decide ((↑k : Int) < (↑n : Int))) true (by kernel_rfl) (decide_eq_true (by omega)) ?_
      refine sim_run 14 [] (hR300.cast (by kernel_rfl)) (by kernel_rfl) trivial (fun ρ301 w301 hm301 hR301 => ?_)
      have hag := hag.moved (hm301.castL (by kernel_rfl))
      refine sim_place (.v (.slice (some ⟨ga, oa, none⟩) n cp)) n 2 k 0 0 (by kernel_rfl) (by omega) (by omega) rfl (by simp only [Nm.at_, hag.at_ 0 (by omega), eE, Nat.add_zero, Int.toNat_natCast]) ?_
      refine sim_run 1 [] (hR301.cast (by kernel_rfl)) (by kernel_rfl) trivial (fun ρ303 w303 hm303 hR303 => ?_)
      have hag := hag.moved (hm303.castL (by kernel_rfl))
      refine sim_callF f caps (.v (Value.func (Fn.func f) (Array.mk []) caps)) [.agg [LS x.asset, LI x.qty]] (by kernel_rfl) rfl hf (Calls.mono (hp x _ hxm (hR303).toBelow) ?_)
      rw [he2]
      rintro e304 w304 ⟨rfl, hb304⟩
      have hR304 := (hR303).below hb304
      refine Back.of (LB false) hR304 rfl ?_
      refine sim_run 8 [⟨6, 0, LI (IntKind.i64.wrap ((↑k : Int) + 1)), LI ((↑k : Int) + 1)⟩] (hR304.cast (by kernel_rfl)) (by kernel_rfl) ⟨eqi (IntWalk.i64_in _ (by omega)), trivial⟩ (fun ρ305 w305 hm305 hR305 => ?_)
      have hag := hag.moved (hm305.castL (by kernel_rfl))
      
      exact sim_again (k + 1) (by kernel_rfl) (by show n - (k + 1) < n - k; omega) (by kernel_rfl) (by kernel_rfl) (by kernel_rfl) (fun m hm => by simp at hm) (Rel.cast (by assumption) (by kernel_rfl)) (by kernel_rfl) (by kernel_rfl) ⟨hlt, hs⟩
  · refine sim_run 5 [] (hR2.cast (by kernel_rfl)) (by kernel_rfl) trivial (fun ρ400 w400 hm400 hR400 => ?_)
    refine sim_know 9 (decide ((↑k : Int) < (↑n : Int))) false (by kernel_rfl) (decide_eq_false (by omega)) ?_
    refine sim_run 1 [] (hR400.cast (by kernel_rfl)) (by kernel_rfl) trivial (fun ρ401 w401 hm401 hR401 => ?_)
    refine sim_leave (by kernel_rfl) ?_
    refine sim_run 4 [] (hR401.cast (by kernel_rfl)) (by kernel_rfl) trivial (fun ρ402 w402 hm402 hR402 => ?_)
    refine sim_ret (LI (-1)) hR402 (by kernel_rfl) (by kernel_rfl) ?_
    
    have hkn : k = n := by omega
    rw [hkn, ← hl, List.drop_length] at hs
    exact ⟨retv_int (hs.trans rfl).symm, ((by assumption : Rel _ _ _ _ _)).toBelow⟩
set_option maxRecDepth 100000 in
set_option maxHeartbeats 4000000 in
theorem containsFPl_any (f : FuncId) (hf : Enters Try.prog f) (caps : Array Value) (p : Pl → Bool) (A : Option Addr) (n cp B : Nat) (xs : List Pl) (w : World) (h : Reads w B 2 A n (xs.map Pl.cells).flatten) (hl : xs.length = n) (hB : B ≤ w.heap.size) (hn : n ≤ 100000) (hp : PredPl w f caps p xs) :
    Calls Try.prog 37 #[.slice A n cp, .func (.func f) #[] caps] w fun e w' => e = .returned (.bool (xs.any p)) ∧ Below w.heap.size w w' := by
  refine sim_enter Try.func37 ρ0 [.v (.slice A n cp), .v (.func (.func f) #[] caps)] [] (by kernel_rfl) rfl ?_
  have hR := Rel.start [] w ρ0
  refine sim_run 8 [] (hR.cast (by kernel_rfl)) (by kernel_rfl) trivial (fun ρ500 w500 hm500 hR500 => ?_)
  
  refine sim_call 50 [.v (.slice A n cp), .v (.func (.func f) #[] caps)] (by kernel_rfl) ?_
  refine (indexFPl_any f hf caps p A n cp B xs _ (h.belowW hR500.toBelow hB) hl (Nat.le_trans hB hR500.keeps.size) hn (fun x w1 hx hb => hp x w1 hx (hR500.toBelow.trans (below_mono hb hR500.keeps.size)))).mono ?_
  rw [← idxF_ge p xs 0]
  rintro e w5 ⟨rfl, hb5⟩
  have hR5 := hR500.below hb5
  refine Back.of (LI (idxF p xs 0)) hR5 rfl ?_
  refine sim_run 3 [] (hR5.cast (by kernel_rfl)) (by kernel_rfl) trivial (fun ρ600 w600 hm600 hR600 => ?_)
  refine sim_ret (LB (decide (idxF p xs 0 ≥ 0))) hR600 (by kernel_rfl) (by kernel_rfl) ?_
  exact ⟨rfl, hR600.toBelow⟩
  
end Go.Proofs.Ytioehmngkoffaaa
