/-
  LinkOrders: each number has a place.
-/
import Derived.Test.YtnfgndapalkbcaaLinkOrders1
namespace Go.Proofs.Ytnfgndapalkbcaa
open Go Go.RowKit
section
variable {P : Program} {Q : Exit → Act → World → Prop} {T : List Nat} {w0 w : World} {ρ : Nm} {c : Cfg}
theorem flat_ints (l : List Int) : (l.map fun z => [Value.int .i64 z]).flatten = ints l := by
  induction l with
  | nil => rfl
  | cons a l ih => rw [List.map_cons, List.flatten_cons, ih]; rfl
theorem sim_seeZ {g n B cp : Nat} {e : TypeId} {pl : List Int} (z : Int) (k N : Nat) (hN : c.rs.length = N) (hk : pl[k]? = some z) (hown : Own ρ c.rs w B e 1 (.slice (some ⟨g, 0, none⟩) n cp) n (ints pl)) (hlt : k < n) (hR : Rel T w0 ρ c.rs w) (hu : (undR N c.rs && undL N c.tmps) = true)
    (next : ∀ ρ', Moved ρ c.rs w ρ' (c.rs ++ [⟨[LI z], false⟩]) w → ρ' N = (g, k) → Rel T w0 ρ' (c.rs ++ [⟨[LI z], false⟩]) w → At P Q ⟨c.k, c.tmps, c.rs ++ [⟨[LI z], false⟩]⟩ ρ' w) : At P Q c ρ w :=
  sim_seeO (xss := pl.map fun z => [Value.int .i64 z]) (sz := 1) [.int .i64 z] k N hN (by rw [List.getElem?_map, hk]; rfl) (by rw [flat_ints]; exact hown) (by intro y hy; obtain ⟨o, _, rfl⟩ := List.mem_map.1 hy; rfl) (by omega) hlt hR hu (fun ρ' hm e hR' => next ρ' hm (by rw [e]; congr 1; omega) hR')
end
attribute [local irreducible] run goO leaveK someK nextK nextT nextOT nextOD loopBody loopRest loopK fillJ tmplOf tmplJ mergeT At AtO drawOk ordOf gateOf callC callO topOp topO idxOf appOf storeOf clearOf sliceOf calleeOf calleeO topQ idxQ newRowOf resL stepOp seek
set_option maxRecDepth 100000 in
set_option maxHeartbeats 4000000 in
theorem ord_pos (w0 : World) (q q2 : GrP) (u2 : List Nat) (ls2 : List Lk) (ok : Bool) (xss : List (List Nat)) (Lo : Option Addr) (co n3 b3 B3 : Nat) (h3 : n3 = xss.length) (hx : xss.length ≤ 1000) (hxx : ∀ xs ∈ xss, xs.length ≤ 1000) (hGI2 : GInv u2 ls2) (hok : ok = true → (Uf.orderM u2 ls2).map (Uf.cls u2) = xss) (N np cp bp gp : Nat) (pl : List Int) (hN : N ≤ 1000) (hnp : np = N + 1) (hpos : ∀ j, 1 ≤ j → j ≤ N → ∃ p : Nat, pl[j]? = some (p : Int)) (w : World) (ρ : Nm) (hR : Rel [] w0 ρ [gR q, gR q2] w) (hs2 : Sta q2.has (GrV q2 u2 ls2) ρ [gR q, gR q2] w) (hrow : Sta (btw b3 B3) (RowW B3 b3 Lo xss) ρ [gR q, gR q2] w) (hpl : Own ρ [gR q, gR q2] w bp 3 1 (.slice (some ⟨gp, 0, none⟩) np cp) np (ints pl)) (e1 : ρ 1 = (q2.b, 0)) (d : Nat → Value) :
    At Try.prog (bodyPost Try.prog Try.f4 (okO w0)) ⟨regK Try.f4 40, fillJ (tmplJ Try.f4.ntmps 0 [(0, LI (N : Int)), (7, .ptr 1 0), (9, LB ok), (13, .v (.slice Lo n3 co)), (14, .v (.slice (some ⟨gp, 0, none⟩) np cp))]) d 0, [gR q, gR q2]⟩ ρ w := by
  subst h3
  have hag := hR.ag_ 2 (by kernel_rfl)
  refine sim_run 3 [] (hR.cast (by kernel_rfl)) (by kernel_rfl) trivial (fun ρ2000 w2000 hm2000 hR2000 => ?_)
  have hs2 := hs2.moved (hm2000.castL (by kernel_rfl))
  have hrow := hrow.moved (hm2000.castL (by kernel_rfl))
  have hpl := hpl.moved (hm2000.castL (by kernel_rfl))
  have hag := hag.moved (hm2000.castL (by kernel_rfl))
  
  have e1 := (hag.at_ 1 (by omega)).trans e1
  refine sim_loop (ι := Nat) (T := []) (w0 := w0) 1 [0, 7, 9, 13, 14] (fun i => [(20, LI i)]) (fun _ => [gR q, gR q2]) (fun i w1 => (1 ≤ i ∧ i ≤ N + 1) ∧ Sta q2.has (GrV q2 u2 ls2) ρ2000 [gR q, gR q2] w1 ∧ Sta (btw b3 B3) (RowW B3 b3 Lo xss) ρ2000 [gR q, gR q2] w1 ∧ Own ρ2000 [gR q, gR q2] w1 bp 3 1 (.slice (some ⟨gp, 0, none⟩) np cp) np (ints pl)) (fun i => N + 1 - i) (by kernel_rfl) (by kernel_rfl) ((by assumption : Rel _ _ _ _ _).cast (by kernel_rfl)) ⟨⟨by omega, by omega⟩, hs2.castR (by kernel_rfl), hrow.castR (by kernel_rfl), hpl.castR (by kernel_rfl)⟩ ?_
  iterate 8 (try clear hs2)
  iterate 8 (try clear hrow)
  iterate 8 (try clear hpl)
  iterate 8 (try clear hag)
  rintro i d w2 hR2 ⟨⟨hi1, hi2⟩, hs2, hrow, hpl⟩
  have hag := hR2.ag_ 2 (by kernel_rfl)
  by_cases hlt : i ≤ N
  · obtain ⟨p, hp⟩ := hpos i hi1 hlt
    refine sim_seeZ (p : Int) i 2 (by kernel_rfl) hp hpl (by omega) hR2 (by kernel_rfl) (fun ρE hmE eE hRE => ?_)
    have hs2 := hs2.moved hmE
    have hrow := hrow.moved hmE
    have hpl := hpl.moved hmE
    have hag := hag.moved hmE
    have hag3 := hRE.ag_ 3 (by kernel_rfl)
    refine sim_run 7 [] (hRE.cast (by kernel_rfl)) (by kernel_rfl) trivial (fun ρ2100 w2100 hm2100 hR2100 => ?_)
    have hs2 := hs2.moved (hm2100.castL (by kernel_rfl))
    have hrow := hrow.moved (hm2100.castL (by kernel_rfl))
    have hpl := hpl.moved (hm2100.castL (by kernel_rfl))
    have hag := hag.moved (hm2100.castL (by kernel_rfl))
    have hag3 := hag3.moved (hm2100.castL (by kernel_rfl))
    refine sim_know 244 (decide ((↑i : Int) ≤ (↑N : Int))) true (by kernel_rfl) (decide_eq_true (by omega)) ?_
    refine sim_run 8 [] (hR2100.cast (by kernel_rfl)) (by kernel_rfl) trivial (fun ρ2101 w2101 hm2101 hR2101 => ?_)
    have hs2 := hs2.moved (hm2101.castL (by kernel_rfl))
    have hrow := hrow.moved (hm2101.castL (by kernel_rfl))
    have hpl := hpl.moved (hm2101.castL (by kernel_rfl))
    have hag := hag.moved (hm2101.castL (by kernel_rfl))
    have hag3 := hag3.moved (hm2101.castL (by kernel_rfl))
    refine sim_place (.v (.slice (some ⟨gp, 0, none⟩) np cp)) np 1 (i : Int) 2 0 (by kernel_rfl) (by omega) (by omega) rfl (by simp only [Nm.at_, hag3.at_ 2 (by omega), eE, Nat.add_zero, Nat.zero_add, Int.toNat_natCast, Nat.mul_one]) ?_
    refine sim_run 11 [⟨42, 1, LI (IntKind.i64.wrap ((↑i : Int) + 1)), LI ((↑i : Int) + 1)⟩] (hR2101.cast (by kernel_rfl)) (by kernel_rfl) ⟨eqi (IntWalk.i64_in _ (by omega)), trivial⟩ (fun ρ2103 w2103 hm2103 hR2103 => ?_)
    have hs2 := hs2.moved (hm2103.castL (by kernel_rfl))
    have hrow := hrow.moved (hm2103.castL (by kernel_rfl))
    have hpl := hpl.moved (hm2103.castL (by kernel_rfl))
    have hag := hag.moved (hm2103.castL (by kernel_rfl))
    have hag3 := hag3.moved (hm2103.castL (by kernel_rfl))
    
    exact sim_again (i + 1) (by kernel_rfl) (by show N + 1 - (i + 1) < N + 1 - i; omega) (by kernel_rfl) (by kernel_rfl) (by kernel_rfl) hag.ag (Rel.cast (by assumption) (by kernel_rfl)) (by kernel_rfl) (by kernel_rfl) ⟨⟨by omega, by omega⟩, hs2.cut hag rfl (by kernel_rfl), hrow.cut hag rfl (by kernel_rfl), hpl.cut hag rfl (by kernel_rfl)⟩
  · refine sim_run 7 [] (hR2.cast (by kernel_rfl)) (by kernel_rfl) trivial (fun ρ2200 w2200 hm2200 hR2200 => ?_)
    have hs2 := hs2.moved (hm2200.castL (by kernel_rfl))
    have hrow := hrow.moved (hm2200.castL (by kernel_rfl))
    have hpl := hpl.moved (hm2200.castL (by kernel_rfl))
    have hag := hag.moved (hm2200.castL (by kernel_rfl))
    refine sim_know 244 (decide ((↑i : Int) ≤ (↑N : Int))) false (by kernel_rfl) (decide_eq_false (by omega)) ?_
    refine sim_run 1 [] (hR2200.cast (by kernel_rfl)) (by kernel_rfl) trivial (fun ρ2201 w2201 hm2201 hR2201 => ?_)
    have hs2 := hs2.moved (hm2201.castL (by kernel_rfl))
    have hrow := hrow.moved (hm2201.castL (by kernel_rfl))
    have hpl := hpl.moved (hm2201.castL (by kernel_rfl))
    have hag := hag.moved (hm2201.castL (by kernel_rfl))
    refine sim_leave (by kernel_rfl) ?_
    refine sim_run 2 [] (hR2201.cast (by kernel_rfl)) (by kernel_rfl) trivial (fun ρ2202 w2202 hm2202 hR2202 => ?_)
    have hs2 := hs2.moved (hm2202.castL (by kernel_rfl))
    have hrow := hrow.moved (hm2202.castL (by kernel_rfl))
    have hpl := hpl.moved (hm2202.castL (by kernel_rfl))
    have hag := hag.moved (hm2202.castL (by kernel_rfl))
    
    have e1 := (hag.at_ 1 (by omega)).trans e1
    refine sim_to (regK Try.f4 45) (tmplJ Try.f4.ntmps 0 [(7, .ptr 1 0), (9, LB ok), (13, .v (.slice Lo xss.length co))]) [gR q, gR q2] (by kernel_rfl) (by kernel_rfl) (by kernel_rfl) (fun d6 => ?_)
    exact ord_last w0 q q2 u2 ls2 ok xss Lo co _ b3 B3 rfl hx hxx hGI2 hok _ _ ((by assumption : Rel _ _ _ _ _).cast (by kernel_rfl)) (hs2.castR (by kernel_rfl)) (hrow.castR (by kernel_rfl)) e1 d6
end Go.Proofs.Ytnfgndapalkbcaa
