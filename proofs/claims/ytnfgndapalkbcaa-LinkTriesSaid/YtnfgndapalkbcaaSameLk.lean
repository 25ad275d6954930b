/-
  complinebook.SameLinks at equal lists.
-/
import Derived.Test.YtnfgndapalkbcaaGrAE
namespace Go.Proofs.Ytnfgndapalkbcaa
open Go Go.RowKit
attribute [local irreducible] run goO leaveK someK nextK nextT nextOT nextOD loopBody loopRest loopK fillJ tmplOf tmplJ mergeT At AtO drawOk ordOf gateOf callC callO topOp topO idxOf appOf storeOf clearOf sliceOf calleeOf calleeO topQ idxQ newRowOf resL stepOp seek
set_option maxRecDepth 100000 in
set_option maxHeartbeats 4000000 in
theorem sameLks_eq (A A2 : Option Addr) (n cp cp2 B B2 : Nat) (ks : List Lk) (w : World) (h : Reads w B 3 A n (lkV ks)) (h2 : Reads w B2 3 A2 n (lkV ks)) (hB : B ≤ w.heap.size) (hB2 : B2 ≤ w.heap.size) (hlen : ks.length = n) (hn : n ≤ 4611686018427387904) :
    Calls Try.prog 20 #[.slice A n cp, .slice A2 n cp2] w fun e w' => e = .returned (.bool true) ∧ Below w.heap.size w w' := by
  refine sim_enter Try.func20 ρ0 [.v (.slice A n cp), .v (.slice A2 n cp2)] [] (by kernel_rfl) rfl ?_
  have hR := Rel.start [] w ρ0
  refine sim_run 13 [] (hR.cast (by kernel_rfl)) (by kernel_rfl) trivial (fun ρ100 w100 hm100 hR100 => ?_)
  refine sim_know 10 ((↑n : Int) != (↑n : Int)) false (by kernel_rfl) (bne_self_eq_false _) ?_
  refine sim_run 8 [] (hR100.cast (by kernel_rfl)) (by kernel_rfl) trivial (fun ρ101 w101 hm101 hR101 => ?_)
  
  refine sim_loop (ι := Nat) (T := []) (w0 := w) 0 [0, 1] (fun i => [(5, LI i)]) (fun _ => []) (fun i _ => i ≤ n) (fun i => n - i) (by kernel_rfl) (by kernel_rfl) (hR101.cast (by kernel_rfl)) (Nat.zero_le _) ?_
  clear hm101 hR101
  rintro i d w2 hR2 hi
  by_cases hlt : i < n
  · obtain ⟨k, hk⟩ : ∃ k, ks[i]? = some k := ⟨_, List.getElem?_eq_getElem (by omega)⟩
    have hx : (ks.map Lk.cells)[i]? = some k.cells := by rw [List.getElem?_map, hk]; rfl
    refine sim_see (n := n) k.cells i 0 (by kernel_rfl) hx h (lk_in ks) (by omega) hlt hB (by simp) hR2 (by kernel_rfl) (fun ga oa ρE eA hgT hgl hmE e0 hRE => ?_)
    refine sim_see (n := n) k.cells i 1 (by kernel_rfl) hx h2 (lk_in ks) (by omega) hlt hB2 (by simp) hRE (by kernel_rfl) (fun gb ob ρF eA2 hgT2 hgl2 hmF e1 hRF => ?_)
    subst eA eA2
    have e0 := (hmF.agree 0 (by show 0 < 1; omega)).trans e0
    have hag := hRF.ag_ 2 (by kernel_rfl)
    refine sim_run 8 [] (hRF.cast (by kernel_rfl)) (by kernel_rfl) trivial (fun ρ200 w200 hm200 hR200 => ?_)
    have hag := hag.moved (hm200.castL (by kernel_rfl))
    refine sim_know 14 (decide ((↑i : Int) < (↑n : Int))) true (by kernel_rfl) (decide_eq_true (by omega)) ?_
    refine sim_run 5 [] (hR200.cast (by kernel_rfl)) (by kernel_rfl) trivial (fun ρ201 w201 hm201 hR201 => ?_)
    have hag := hag.moved (hm201.castL (by kernel_rfl))
    refine sim_draw [] (by kernel_rfl) (by kernel_rfl) hR201 (fun hR202 => ?_)
    refine sim_ordN 2 [] hR202 (by kernel_rfl) trivial (fun ρ203 w203 hm203 hR203 => ?_)
    have hag := hag.moved (hm203.castL (by kernel_rfl))
    refine sim_ord_index (.v (.slice (some ⟨ga, oa, none⟩) n cp)) n 3 i 0 0 (by kernel_rfl) (by omega) (by omega) rfl hR203 (by simp only [Nm.at_, hag.at_ 0 (by omega), e0, Nat.add_zero, Int.toNat_natCast]) (fun hR204 => ?_)
    refine sim_ordN 3 [] hR204 (by kernel_rfl) trivial (fun ρ205 w205 hm205 hR205 => ?_)
    have hag := hag.moved (hm205.castL (by kernel_rfl))
    refine sim_ord_index (.v (.slice (some ⟨gb, ob, none⟩) n cp2)) n 3 i 1 0 (by kernel_rfl) (by omega) (by omega) rfl hR205 (by simp only [Nm.at_, hag.at_ 1 (by omega), e1, Nat.add_zero, Int.toNat_natCast]) (fun hR207 => ?_)
    refine sim_ordN 3 [] hR207 (by kernel_rfl) trivial (fun ρ208 w208 hm208 hR208 => ?_)
    have hag := hag.moved (hm208.castL (by kernel_rfl))
    refine sim_ord_endR hR208 (by kernel_rfl) (fun hR209 => ?_)
    refine sim_know 26 (!(k.kind == k.kind && (k.src == k.src && (k.dst == k.dst && true)))) false (by kernel_rfl) (by simp) ?_
    refine sim_run 8 [⟨5, 1, LI (IntKind.i64.wrap ((↑i : Int) + 1)), LI ((↑i : Int) + 1)⟩] (hR209.cast (by kernel_rfl)) (by kernel_rfl) ⟨eqi (IntWalk.i64_in _ (by omega)), trivial⟩ (fun ρ210 w210 hm210 hR210 => ?_)
    have hag := hag.moved (hm210.castL (by kernel_rfl))
    
    exact sim_again (i + 1) (by kernel_rfl) (by show n - (i + 1) < n - i; omega) (by kernel_rfl) (by kernel_rfl) (by kernel_rfl) (fun m hm => by simp at hm) (Rel.cast (by assumption) (by kernel_rfl)) (by kernel_rfl) (by kernel_rfl) (by show i + 1 ≤ n; omega)
  · refine sim_run 8 [] (hR2.cast (by kernel_rfl)) (by kernel_rfl) trivial (fun ρ300 w300 hm300 hR300 => ?_)
    refine sim_know 14 (decide ((↑i : Int) < (↑n : Int))) false (by kernel_rfl) (decide_eq_false (by omega)) ?_
    refine sim_run 1 [] (hR300.cast (by kernel_rfl)) (by kernel_rfl) trivial (fun ρ301 w301 hm301 hR301 => ?_)
    refine sim_leave (by kernel_rfl) ?_
    refine sim_run 4 [] (hR301.cast (by kernel_rfl)) (by kernel_rfl) trivial (fun ρ302 w302 hm302 hR302 => ?_)
    refine sim_ret (LB true) hR302 (by kernel_rfl) (by kernel_rfl) ?_
    exact ⟨rfl, hR302.toBelow⟩
    
end Go.Proofs.Ytnfgndapalkbcaa
