/-
  PosRows: what is asked of one key, and of it and the one ahead of it.
-/
import Derived.Test.YtgbgedaedcofcaaPosH
import Derived.Test.YtgbgedaedcofcaaPosW
import Derived.Test.YtgbgedaedcofcaaOpP
import Derived.Test.YtgbgedaedcofcaaPosS1
namespace Go.Proofs.Ytgbgedaedcofcaa
open Go Go.RowKit
theorem Rel.front {T : List Nat} {w0 w : World} {ρ : Nm} {r : Reg} {rs : List Reg} (h : Rel T w0 ρ (r :: rs) w) : Rel T w0 ρ [r] w := by
  have hg : ∀ (n : Nat) (q : Reg), [r][n]? = some q → (r :: rs)[n]? = some q := by
    intro n q hq
    cases n with
    | zero => exact hq
    | succ n => simp at hq
  exact ⟨h.keeps, fun n q hq => h.lt n q (hg n q hq), fun n q hq => h.cell n q (hg n q hq), fun n q hq => h.wr n q (hg n q hq), fun n m q q' hq hq' => h.apart n m q q' (hg n q hq) (hg m q' hq')⟩
attribute [local irreducible] run goO leaveK someK nextK nextT nextOT nextOD loopBody loopRest loopK fillJ tmplOf tmplJ mergeT At AtO drawOk ordOf gateOf callC callO topOp topO idxOf appOf storeOf clearOf sliceOf calleeOf calleeO topQ idxQ newRowOf resL stepOp seek
set_option maxRecDepth 100000 in
set_option maxHeartbeats 4000000 in
theorem rows_test0 {Q : Exit → Act → World → Prop} {R : Ending → World → Prop} [hB : Body Try.prog Q Try.f4 R] {ρ : Nm} {w0 w : World} {B g : Nat} {m : Option Nat} {l : List (Ent Key B3)} {clock : Nat} {gb ob kn ca i N Bk Bs sn : Nat} {SL2 : Value} {a b : ByteArray} {k : Key} {b1 b2 b3 : Int} {xs ys : List Value} (hR : Rel [] w0 ρ [⟨[LS k.1, LS k.2], false⟩] w) (hpo : PoO ρ [⟨[LS k.1, LS k.2], false⟩] w B g m l clock) (hrow : Own ρ [⟨[LS k.1, LS k.2], false⟩] w Bk 24 2 (.slice (some ⟨gb, ob, none⟩) kn ca) kn xs) (hrow2 : Own ρ [⟨[LS k.1, LS k.2], false⟩] w Bs 24 2 SL2 sn ys) (e0 : ρ 0 = (gb, ob + i * 2)) (hlt : i < kn) (_ : kn ≤ 1000000) (hb : getM l (k.1, k.2) = (b1, b2, b3)) (hbz : ¬ (b1 = 0 ∧ b2 = 0 ∧ b3 = 0)) (d : Nat → Value) (hi : i = 0)
    (hfin : ∀ (ρ2 : Nm) (w2 : World) (d2 : Nat → Value), Rel [] w0 ρ2 [⟨[LS k.1, LS k.2], false⟩] w2 → PoV w2 B g m l clock → w2.ownsRow Bk 24 2 (.slice (some ⟨gb, ob, none⟩) kn ca) kn xs → w2.ownsRow Bs 24 2 SL2 sn ys → ρ2 0 = (gb, ob + i * 2) → At Try.prog Q ⟨regK Try.f4 16, fillJ (tmplJ Try.f4.ntmps 0 [(1, LS a), (2, LS b), (7, .v (.pointer (some ⟨g, 0, none⟩))), (9, .v (.slice (some ⟨gb, ob, none⟩) kn ca)), (10, .v SL2), (11, LI N), (12, LI i)]) d2 0, [⟨[LS k.1, LS k.2], false⟩]⟩ ρ2 w2) :
    At Try.prog Q ⟨regK Try.f4 14, fillJ (tmplJ Try.f4.ntmps 0 [(1, LS a), (2, LS b), (7, .v (.pointer (some ⟨g, 0, none⟩))), (9, .v (.slice (some ⟨gb, ob, none⟩) kn ca)), (10, .v SL2), (11, LI N), (12, LI i)]) d 0, [⟨[LS k.1, LS k.2], false⟩]⟩ ρ w := by
  have hag := Rel.ag_ hR 1 (by kernel_rfl)
  refine sim_draw [] (by kernel_rfl) (by kernel_rfl) (hR.cast (by kernel_rfl)) (fun hR100 => ?_)
  have hpo := hpo.drew
  have hrow := hrow.drew
  have hrow2 := hrow2.drew
  refine sim_ordN 3 [] hR100 (by kernel_rfl) trivial (fun ρ101 w101 hm101 hR101 => ?_)
  have hag := hag.moved (hm101.castL (by kernel_rfl))
  have hpo := hpo.moved (hm101.castL (by kernel_rfl))
  have hrow := hrow.moved (hm101.castL (by kernel_rfl))
  have hrow2 := hrow2.moved (hm101.castL (by kernel_rfl))
  refine sim_ord_index (.v (.slice (some ⟨gb, ob, none⟩) kn ca)) kn 2 i 0 0 (by kernel_rfl) (by omega) (by omega) rfl hR101 (by simp only [Nm.at_, hag.at_ 0 (by omega), e0, Nat.add_zero, Int.toNat_natCast]) (fun hR102 => ?_)
  refine sim_ordN 2 [] hR102 (by kernel_rfl) trivial (fun ρ103 w103 hm103 hR103 => ?_)
  have hag := hag.moved (hm103.castL (by kernel_rfl))
  have hpo := hpo.moved (hm103.castL (by kernel_rfl))
  have hrow := hrow.moved (hm103.castL (by kernel_rfl))
  have hrow2 := hrow2.moved (hm103.castL (by kernel_rfl))
  refine sim_ord_call (T := []) (w0 := w0) 17 [.v (Value.pointer (some (Addr.mk g 0 none))), .agg [LS k.fst, LS k.snd]] (by kernel_rfl) ?_
  refine Calls.mono (get_po _ _ _ _ _ _ _ _ hpo.po) ?_
  rw [hb]
  rintro e104 w104 ⟨rfl, hb104⟩
  have hR104 := hR103.call hb104 (.agg [LI ((b1, b2, b3).fst), LI ((b1, b2, b3).snd.fst), LI ((b1, b2, b3).snd.snd)])
  have hpo := hpo.below hb104
  have hrow := hrow.below hb104
  have hrow2 := hrow2.below hb104
  refine BackO.of (.agg [LI ((b1, b2, b3).fst), LI ((b1, b2, b3).snd.fst), LI ((b1, b2, b3).snd.snd)]) hR104 rfl ?_
  refine sim_ordN 2 [] hR104 (by kernel_rfl) trivial (fun ρ105 w105 hm105 hR105 => ?_)
  have hag := hag.moved (hm105.castL (by kernel_rfl))
  have hpo := hpo.moved (hm105.castL (by kernel_rfl))
  have hrow := hrow.moved (hm105.castL (by kernel_rfl))
  have hrow2 := hrow2.moved (hm105.castL (by kernel_rfl))
  refine sim_knowO hR105 70 ((b1, b2, b3).fst == 0 && ((b1, b2, b3).snd.fst == 0 && ((b1, b2, b3).snd.snd == 0 && true))) false (by kernel_rfl) (by simp; omega) (fun hR106 => ?_)
  refine sim_ordN 3 [] hR106 (by kernel_rfl) trivial (fun ρ107 w107 hm107 hR107 => ?_)
  have hag := hag.moved (hm107.castL (by kernel_rfl))
  have hpo := hpo.moved (hm107.castL (by kernel_rfl))
  have hrow := hrow.moved (hm107.castL (by kernel_rfl))
  have hrow2 := hrow2.moved (hm107.castL (by kernel_rfl))
  refine sim_knowO hR107 73 (decide ((↑i : Int) > 0)) false (by kernel_rfl) (decide_eq_false (by omega)) (fun hR108 => ?_)
  refine sim_ordN 13 [] hR108 (by kernel_rfl) trivial (fun ρ109 w109 hm109 hR109 => ?_)
  have hag := hag.moved (hm109.castL (by kernel_rfl))
  have hpo := hpo.moved (hm109.castL (by kernel_rfl))
  have hrow := hrow.moved (hm109.castL (by kernel_rfl))
  have hrow2 := hrow2.moved (hm109.castL (by kernel_rfl))
  refine sim_ord_endR hR109 (by kernel_rfl) (fun hR110 => ?_)
  refine sim_run 4 [] (hR110.cast (by kernel_rfl)) (by kernel_rfl) trivial (fun ρ111 w111 hm111 hR111 => ?_)
  have hag := hag.moved (hm111.castL (by kernel_rfl))
  have hpo := hpo.moved (hm111.castL (by kernel_rfl))
  have hrow := hrow.moved (hm111.castL (by kernel_rfl))
  have hrow2 := hrow2.moved (hm111.castL (by kernel_rfl))
  
  have hfl : Rel [] w0 _ [⟨[LS k.1, LS k.2], false⟩] _ := (Rel.cast (rs' := [⟨[LS k.1, LS k.2], false⟩]) (by assumption) (by kernel_rfl)).front
  refine sim_to (regK Try.f4 16) (tmplJ Try.f4.ntmps 0 [(1, LS a), (2, LS b), (7, .v (.pointer (some ⟨g, 0, none⟩))), (9, .v (.slice (some ⟨gb, ob, none⟩) kn ca)), (10, .v SL2), (11, LI N), (12, LI i)]) [⟨[LS k.1, LS k.2], false⟩] (by kernel_rfl) (by kernel_rfl) (by kernel_rfl) (fun d2 => ?_)
  exact hfin _ _ d2 hfl hpo.po hrow.own hrow2.own ((hag.at_ 0 (by omega)).trans e0)

end Go.Proofs.Ytgbgedaedcofcaa
