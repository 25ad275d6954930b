/-
  PosRows: what is asked of one key, and of it and the one ahead of it.
-/
import Derived.Test.YtgbgedaedcofcaaPosH
import Derived.Test.YtgbgedaedcofcaaPosW
import Derived.Test.YtgbgedaedcofcaaOpP
import Derived.Test.YtgbgedaedcofcaaPosW2
namespace Go.Proofs.Ytgbgedaedcofcaa
open Go Go.RowKit
attribute [local irreducible] run goO leaveK someK nextK nextT nextOT nextOD loopBody loopRest loopK fillJ tmplOf tmplJ mergeT At AtO drawOk ordOf gateOf callC callO topOp topO idxOf appOf storeOf clearOf sliceOf calleeOf calleeO topQ idxQ newRowOf resL stepOp seek
set_option maxRecDepth 100000 in
set_option maxHeartbeats 4000000 in
theorem rows_test1 {Q : Exit → Act → World → Prop} {R : Ending → World → Prop} [hB : Body Try.prog Q Try.f4 R] {ρ : Nm} {w0 w : World} {B g : Nat} {m : Option Nat} {l : List (Ent Key B3)} {clock : Nat} {gb ob kn ca i N Bk Bs sn : Nat} {SL2 : Value} {a b : ByteArray} {k : Key} {b1 b2 b3 : Int} {xs ys : List Value} {x : Key} (hR : Rel [] w0 ρ [⟨[LS k.1, LS k.2], false⟩, ⟨[LS x.1, LS x.2], false⟩] w) (hpo : PoO ρ [⟨[LS k.1, LS k.2], false⟩, ⟨[LS x.1, LS x.2], false⟩] w B g m l clock) (hrow : Own ρ [⟨[LS k.1, LS k.2], false⟩, ⟨[LS x.1, LS x.2], false⟩] w Bk 24 2 (.slice (some ⟨gb, ob, none⟩) kn ca) kn xs) (hrow2 : Own ρ [⟨[LS k.1, LS k.2], false⟩, ⟨[LS x.1, LS x.2], false⟩] w Bs 24 2 SL2 sn ys) (e0 : ρ 0 = (gb, ob + i * 2)) (hlt : i < kn) (_ : kn ≤ 1000000) (hb : getM l (k.1, k.2) = (b1, b2, b3)) (hbz : ¬ (b1 = 0 ∧ b2 = 0 ∧ b3 = 0)) (d : Nat → Value) (e1 : ρ 1 = (gb, ob + (i - 1) * 2)) (hi : 0 < i) (hsz1 : x.1.size ≤ 9223372036854775807) (hsz2 : x.2.size ≤ 9223372036854775807) (hbf : (ltS x.1 k.1 || (decide (x.1 = k.1) && ltS x.2 k.2)) = true)
    (hfin : ∀ (ρ2 : Nm) (w2 : World) (d2 : Nat → Value), Rel [] w0 ρ2 [⟨[LS k.1, LS k.2], false⟩] w2 → PoV w2 B g m l clock → w2.ownsRow Bk 24 2 (.slice (some ⟨gb, ob, none⟩) kn ca) kn xs → w2.ownsRow Bs 24 2 SL2 sn ys → ρ2 0 = (gb, ob + i * 2) → At Try.prog Q ⟨regK Try.f4 16, fillJ (tmplJ Try.f4.ntmps 0 [(1, LS a), (2, LS b), (7, .v (.pointer (some ⟨g, 0, none⟩))), (9, .v (.slice (some ⟨gb, ob, none⟩) kn ca)), (10, .v SL2), (11, LI N), (12, LI i)]) d2 0, [⟨[LS k.1, LS k.2], false⟩]⟩ ρ2 w2) :
    At Try.prog Q ⟨regK Try.f4 14, fillJ (tmplJ Try.f4.ntmps 0 [(1, LS a), (2, LS b), (7, .v (.pointer (some ⟨g, 0, none⟩))), (9, .v (.slice (some ⟨gb, ob, none⟩) kn ca)), (10, .v SL2), (11, LI N), (12, LI i)]) d 0, [⟨[LS k.1, LS k.2], false⟩, ⟨[LS x.1, LS x.2], false⟩]⟩ ρ w := by
  have hag := Rel.ag_ hR 2 (by kernel_rfl)
  have hi1 : ((i : Int) - 1).toNat = i - 1 := by omega
  refine sim_draw [] (by kernel_rfl) (by kernel_rfl) (hR.cast (by kernel_rfl)) (fun hR200 => ?_)
  have hpo := hpo.drew
  have hrow := hrow.drew
  have hrow2 := hrow2.drew
  refine sim_ordN 3 [] hR200 (by kernel_rfl) trivial (fun ρ201 w201 hm201 hR201 => ?_)
  have hag := hag.moved (hm201.castL (by kernel_rfl))
  have hpo := hpo.moved (hm201.castL (by kernel_rfl))
  have hrow := hrow.moved (hm201.castL (by kernel_rfl))
  have hrow2 := hrow2.moved (hm201.castL (by kernel_rfl))
  refine sim_ord_index (.v (.slice (some ⟨gb, ob, none⟩) kn ca)) kn 2 i 0 0 (by kernel_rfl) (by omega) (by omega) rfl hR201 (by simp only [Nm.at_, hag.at_ 0 (by omega), e0, Nat.add_zero, Int.toNat_natCast]) (fun hR202 => ?_)
  refine sim_ordN 2 [] hR202 (by kernel_rfl) trivial (fun ρ203 w203 hm203 hR203 => ?_)
  have hag := hag.moved (hm203.castL (by kernel_rfl))
  have hpo := hpo.moved (hm203.castL (by kernel_rfl))
  have hrow := hrow.moved (hm203.castL (by kernel_rfl))
  have hrow2 := hrow2.moved (hm203.castL (by kernel_rfl))
  refine sim_ord_call (T := []) (w0 := w0) 17 [.v (Value.pointer (some (Addr.mk g 0 none))), .agg [LS k.fst, LS k.snd]] (by kernel_rfl) ?_
  refine Calls.mono (get_po _ _ _ _ _ _ _ _ hpo.po) ?_
  rw [hb]
  rintro e204 w204 ⟨rfl, hb204⟩
  have hR204 := hR203.call hb204 (.agg [LI ((b1, b2, b3).fst), LI ((b1, b2, b3).snd.fst), LI ((b1, b2, b3).snd.snd)])
  have hpo := hpo.below hb204
  have hrow := hrow.below hb204
  have hrow2 := hrow2.below hb204
  refine BackO.of (.agg [LI ((b1, b2, b3).fst), LI ((b1, b2, b3).snd.fst), LI ((b1, b2, b3).snd.snd)]) hR204 rfl ?_
  refine sim_ordN 2 [] hR204 (by kernel_rfl) trivial (fun ρ205 w205 hm205 hR205 => ?_)
  have hag := hag.moved (hm205.castL (by kernel_rfl))
  have hpo := hpo.moved (hm205.castL (by kernel_rfl))
  have hrow := hrow.moved (hm205.castL (by kernel_rfl))
  have hrow2 := hrow2.moved (hm205.castL (by kernel_rfl))
  refine sim_knowO hR205 70 ((b1, b2, b3).fst == 0 && ((b1, b2, b3).snd.fst == 0 && ((b1, b2, b3).snd.snd == 0 && true))) false (by kernel_rfl) (by simp; omega) (fun hR206 => ?_)
  refine sim_ordN 3 [] hR206 (by kernel_rfl) trivial (fun ρ207 w207 hm207 hR207 => ?_)
  have hag := hag.moved (hm207.castL (by kernel_rfl))
  have hpo := hpo.moved (hm207.castL (by kernel_rfl))
  have hrow := hrow.moved (hm207.castL (by kernel_rfl))
  have hrow2 := hrow2.moved (hm207.castL (by kernel_rfl))
  refine sim_knowO hR207 73 (decide ((↑i : Int) > 0)) true (by kernel_rfl) (decide_eq_true (by omega)) (fun hR208 => ?_)
  refine sim_ordN 3 [⟨14, 14, LI (IntKind.i64.wrap ((↑i : Int) - 1)), LI ((↑i : Int) - 1)⟩] hR208 (by kernel_rfl) ⟨eqi (IntWalk.i64_in _ (by omega)), trivial⟩ (fun ρ209 w209 hm209 hR209 => ?_)
  have hag := hag.moved (hm209.castL (by kernel_rfl))
  have hpo := hpo.moved (hm209.castL (by kernel_rfl))
  have hrow := hrow.moved (hm209.castL (by kernel_rfl))
  have hrow2 := hrow2.moved (hm209.castL (by kernel_rfl))
  refine sim_ord_index (.v (.slice (some ⟨gb, ob, none⟩) kn ca)) kn 2 ((i : Int) - 1) 1 0 (by kernel_rfl) (by omega) (by omega) rfl hR209 (by simp only [Nm.at_, hag.at_ 1 (by omega), e1, Nat.add_zero, hi1]) (fun hR211 => ?_)
  refine sim_ordN 3 [] hR211 (by kernel_rfl) trivial (fun ρ212 w212 hm212 hR212 => ?_)
  have hag := hag.moved (hm212.castL (by kernel_rfl))
  have hpo := hpo.moved (hm212.castL (by kernel_rfl))
  have hrow := hrow.moved (hm212.castL (by kernel_rfl))
  have hrow2 := hrow2.moved (hm212.castL (by kernel_rfl))
  refine sim_ord_index (.v (.slice (some ⟨gb, ob, none⟩) kn ca)) kn 2 i 0 0 (by kernel_rfl) (by omega) (by omega) rfl hR212 (by simp only [Nm.at_, hag.at_ 0 (by omega), e0, Nat.add_zero, Int.toNat_natCast]) (fun hR213 => ?_)
  refine sim_ordN 1 [] hR213 (by kernel_rfl) trivial (fun ρ214 w214 hm214 hR214 => ?_)
  have hag := hag.moved (hm214.castL (by kernel_rfl))
  have hpo := hpo.moved (hm214.castL (by kernel_rfl))
  have hrow := hrow.moved (hm214.castL (by kernel_rfl))
  have hrow2 := hrow2.moved (hm214.castL (by kernel_rfl))
  refine sim_ord_call (T := []) (w0 := w0) 20 [.agg [LS x.fst, LS x.snd], .agg [LS k.fst, LS k.snd]] (by kernel_rfl) ?_
  refine Calls.mono (refBefore_any _ _ _ _ _ (by assumption) (by assumption)) ?_
  rw [hbf]
  rintro e215 w215 ⟨rfl, hb215⟩
  have hR215 := hR214.call hb215 (LB true)
  have hpo := hpo.below hb215
  have hrow := hrow.below hb215
  have hrow2 := hrow2.below hb215
  refine BackO.of (LB true) hR215 rfl ?_
  refine sim_ordN 3 [] hR215 (by kernel_rfl) trivial (fun ρ216 w216 hm216 hR216 => ?_)
  have hag := hag.moved (hm216.castL (by kernel_rfl))
  have hpo := hpo.moved (hm216.castL (by kernel_rfl))
  have hrow := hrow.moved (hm216.castL (by kernel_rfl))
  have hrow2 := hrow2.moved (hm216.castL (by kernel_rfl))
  refine sim_ord_endR hR216 (by kernel_rfl) (fun hR217 => ?_)
  refine sim_run 4 [] (hR217.cast (by kernel_rfl)) (by kernel_rfl) trivial (fun ρ218 w218 hm218 hR218 => ?_)
  have hag := hag.moved (hm218.castL (by kernel_rfl))
  have hpo := hpo.moved (hm218.castL (by kernel_rfl))
  have hrow := hrow.moved (hm218.castL (by kernel_rfl))
  have hrow2 := hrow2.moved (hm218.castL (by kernel_rfl))
  
  have hfl : Rel [] w0 _ [⟨[LS k.1, LS k.2], false⟩] _ := (Rel.cast (rs' := [⟨[LS k.1, LS k.2], false⟩, ⟨[LS x.1, LS x.2], false⟩]) (by assumption) (by kernel_rfl)).front
  refine sim_to (regK Try.f4 16) (tmplJ Try.f4.ntmps 0 [(1, LS a), (2, LS b), (7, .v (.pointer (some ⟨g, 0, none⟩))), (9, .v (.slice (some ⟨gb, ob, none⟩) kn ca)), (10, .v SL2), (11, LI N), (12, LI i)]) [⟨[LS k.1, LS k.2], false⟩] (by kernel_rfl) (by kernel_rfl) (by kernel_rfl) (fun d2 => ?_)
  exact hfin _ _ d2 hfl hpo.po hrow.own hrow2.own ((hag.at_ 0 (by omega)).trans e0)

end Go.Proofs.Ytgbgedaedcofcaa
