/-
  PosRows: what is counted for one key.
-/
import Derived.Test.YtgbgedaedcofcaaPosH
import Derived.Test.YtgbgedaedcofcaaPosW
import Derived.Test.YtgbgedaedcofcaaOpP
import Derived.Test.YtgbgedaedcofcaaPosS1
namespace Go.Proofs.Ytgbgedaedcofcaa
open Go Go.RowKit
attribute [local irreducible] run goO leaveK someK nextK nextT nextOT nextOD loopBody loopRest loopK fillJ tmplOf tmplJ mergeT At AtO drawOk ordOf gateOf callC callO topOp topO idxOf appOf storeOf clearOf sliceOf calleeOf calleeO topQ idxQ newRowOf resL stepOp seek
set_option maxRecDepth 100000 in
set_option maxHeartbeats 4000000 in
theorem rows_yes {Q : Exit → Act → World → Prop} {R : Ending → World → Prop} [hB : Body Try.prog Q Try.f4 R] {ρ : Nm} {w0 w : World} {B g : Nat} {m : Option Nat} {l : List (Ent Key B3)} {clock : Nat} {gb ob kn sn ca cs i N N2 Bk Bs : Nat} {As : Option Addr} {a b : ByteArray} {k : Key} {xs : List Value} {ss : List Key} (hR : Rel [] w0 ρ [⟨[LS k.1, LS k.2], false⟩] w) (hpo : PoO ρ [⟨[LS k.1, LS k.2], false⟩] w B g m l clock) (hrow : Own ρ [⟨[LS k.1, LS k.2], false⟩] w Bk 24 2 (.slice (some ⟨gb, ob, none⟩) kn ca) kn xs) (hrow2 : Own ρ [⟨[LS k.1, LS k.2], false⟩] w Bs 24 2 (.slice As sn cs) sn (ss.map encL).flatten)
    (e0 : ρ 0 = (gb, ob + i * 2)) (hlt : i < kn) (hn : kn ≤ 1000000) (hsn : sn ≤ 1000000) (hka : (k.2.toList == a.toList) = true ∨ ((k.2.toList == a.toList) = false ∧ (k.2.toList == b.toList) = true)) (hN : ss[N]? = some k) (hNl : ss.length = sn) (hN2 : N2 = N + 1) (d : Nat → Value)
    (hfin : ∀ (c' : Cfg) (ρ' : Nm) (w' : World), c'.k = [] → mergeT (tmplJ Try.f4.ntmps 0 [(1, LS a), (2, LS b), (7, .v (.pointer (some ⟨g, 0, none⟩))), (9, .v (.slice (some ⟨gb, ob, none⟩) kn ca)), (10, .v (.slice As sn cs)), (11, LI (N2 : Nat)), (12, LI ((i : Int) + 1))]) c'.tmps = c'.tmps → (tmplJ Try.f4.ntmps 0 [(1, LS a), (2, LS b), (7, .v (.pointer (some ⟨g, 0, none⟩))), (9, .v (.slice (some ⟨gb, ob, none⟩) kn ca)), (10, .v (.slice As sn cs)), (11, LI (N2 : Nat)), (12, LI ((i : Int) + 1))]).length = c'.tmps.length → Rel [] w0 ρ' c'.rs w' → PoV w' B g m l clock → w'.ownsRow Bk 24 2 (.slice (some ⟨gb, ob, none⟩) kn ca) kn xs → w'.ownsRow Bs 24 2 (.slice As sn cs) sn (ss.map encL).flatten → At Try.prog Q c' ρ' w') :
    At Try.prog Q ⟨regK Try.f4 16, fillJ (tmplJ Try.f4.ntmps 0 [(1, LS a), (2, LS b), (7, .v (.pointer (some ⟨g, 0, none⟩))), (9, .v (.slice (some ⟨gb, ob, none⟩) kn ca)), (10, .v (.slice As sn cs)), (11, LI N), (12, LI i)]) d 0, [⟨[LS k.1, LS k.2], false⟩]⟩ ρ w := by
  subst hN2
  have hag := Rel.ag_ hR 1 (by kernel_rfl)
  have hNs : N < sn := by
    have := (List.getElem?_eq_some_iff.1 hN).1
    omega
  obtain ⟨gs, os, hA, _, _⟩ := (Reads.of_own hrow2.own).spot (by omega) (by omega)
  subst hA
  refine sim_seeO (xss := ss.map encL) (sz := 2) (n := sn) [.string k.1, .string k.2] N 1 (by kernel_rfl) (by rw [List.getElem?_map, hN]; rfl) hrow2 (encL_len ss) (by omega) hNs hR (by kernel_rfl) (fun ρF hmF e1 hRF => ?_)
  have hpo := hpo.moved hmF
  have hrow := hrow.moved hmF
  have hrow2 := hrow2.moved hmF
  have e0 := ((hag.moved hmF).at_ 0 (by omega)).trans e0
  have hag := hRF.ag_ 2 (by kernel_rfl)
  rcases hka with hka | ⟨hka, hkb⟩
  · refine sim_run 2 [] hRF (by kernel_rfl) trivial (fun ρ100 w100 hm100 hR100 => ?_)
    have hpo := hpo.moved (hm100.castL (by kernel_rfl))
    have hrow := hrow.moved (hm100.castL (by kernel_rfl))
    have hrow2 := hrow2.moved (hm100.castL (by kernel_rfl))
    have hag := hag.moved (hm100.castL (by kernel_rfl))
    refine sim_place (.v (.slice (some ⟨gb, ob, none⟩) kn ca)) kn 2 i 0 0 (by kernel_rfl) (by omega) (by omega) rfl (by simp only [Nm.at_, hag.at_ 0 (by omega), e0, Nat.add_zero, Int.toNat_natCast]) ?_
    refine sim_run 5 [] (hR100.cast (by kernel_rfl)) (by kernel_rfl) trivial (fun ρ102 w102 hm102 hR102 => ?_)
    have hpo := hpo.moved (hm102.castL (by kernel_rfl))
    have hrow := hrow.moved (hm102.castL (by kernel_rfl))
    have hrow2 := hrow2.moved (hm102.castL (by kernel_rfl))
    have hag := hag.moved (hm102.castL (by kernel_rfl))
    refine sim_know 94 (k.snd.toList == a.toList) true (by kernel_rfl) (by assumption) ?_
    refine sim_run 12 [] (hR102.cast (by kernel_rfl)) (by kernel_rfl) trivial (fun ρ103 w103 hm103 hR103 => ?_)
    have hpo := hpo.moved (hm103.castL (by kernel_rfl))
    have hrow := hrow.moved (hm103.castL (by kernel_rfl))
    have hrow2 := hrow2.moved (hm103.castL (by kernel_rfl))
    have hag := hag.moved (hm103.castL (by kernel_rfl))
    refine sim_draw [] (by kernel_rfl) (by kernel_rfl) hR103 (fun hR104 => ?_)
    have hpo := hpo.drew
    have hrow := hrow.drew
    have hrow2 := hrow2.drew
    refine sim_ordN 5 [] hR104 (by kernel_rfl) trivial (fun ρ105 w105 hm105 hR105 => ?_)
    have hag := hag.moved (hm105.castL (by kernel_rfl))
    have hpo := hpo.moved (hm105.castL (by kernel_rfl))
    have hrow := hrow.moved (hm105.castL (by kernel_rfl))
    have hrow2 := hrow2.moved (hm105.castL (by kernel_rfl))
    refine sim_knowO hR105 107 (decide ((↑N : Int) ≥ (↑sn : Int))) false (by kernel_rfl) (decide_eq_false (by omega)) (fun hR106 => ?_)
    refine sim_ordN 2 [] hR106 (by kernel_rfl) trivial (fun ρ107 w107 hm107 hR107 => ?_)
    have hag := hag.moved (hm107.castL (by kernel_rfl))
    have hpo := hpo.moved (hm107.castL (by kernel_rfl))
    have hrow := hrow.moved (hm107.castL (by kernel_rfl))
    have hrow2 := hrow2.moved (hm107.castL (by kernel_rfl))
    refine sim_ord_index (.v (.slice (some ⟨gs, os, none⟩) sn cs)) sn 2 N 1 0 (by kernel_rfl) (by omega) (by omega) rfl hR107 (by simp only [Nm.at_, hag.at_ 1 (by omega), e1, Nat.add_zero, Int.toNat_natCast]) (fun hR109 => ?_)
    refine sim_ordN 3 [] hR109 (by kernel_rfl) trivial (fun ρ110 w110 hm110 hR110 => ?_)
    have hag := hag.moved (hm110.castL (by kernel_rfl))
    have hpo := hpo.moved (hm110.castL (by kernel_rfl))
    have hrow := hrow.moved (hm110.castL (by kernel_rfl))
    have hrow2 := hrow2.moved (hm110.castL (by kernel_rfl))
    refine sim_ord_index (.v (.slice (some ⟨gb, ob, none⟩) kn ca)) kn 2 i 0 0 (by kernel_rfl) (by omega) (by omega) rfl hR110 (by simp only [Nm.at_, hag.at_ 0 (by omega), e0, Nat.add_zero, Int.toNat_natCast]) (fun hR111 => ?_)
    refine sim_ordN 3 [] hR111 (by kernel_rfl) trivial (fun ρ112 w112 hm112 hR112 => ?_)
    have hag := hag.moved (hm112.castL (by kernel_rfl))
    have hpo := hpo.moved (hm112.castL (by kernel_rfl))
    have hrow := hrow.moved (hm112.castL (by kernel_rfl))
    have hrow2 := hrow2.moved (hm112.castL (by kernel_rfl))
    refine sim_ord_endR hR112 (by kernel_rfl) (fun hR113 => ?_)
    refine sim_know 117 (!(k.fst == k.fst && (k.snd == k.snd && true))) false (by kernel_rfl) (by simp [ba_dec]) ?_
    refine sim_run 13 [⟨19, 1, LI (IntKind.i64.wrap ((↑N : Int) + 1)), LI ((↑N : Int) + 1)⟩, ⟨13, 1, LI (IntKind.i64.wrap ((↑i : Int) + 1)), LI ((↑i : Int) + 1)⟩] (hR113.cast (by kernel_rfl)) (by kernel_rfl) ⟨eqi (IntWalk.i64_in _ (by omega)), eqi (IntWalk.i64_in _ (by omega)), trivial⟩ (fun ρ114 w114 hm114 hR114 => ?_)
    have hag := hag.moved (hm114.castL (by kernel_rfl))
    have hpo := hpo.moved (hm114.castL (by kernel_rfl))
    have hrow := hrow.moved (hm114.castL (by kernel_rfl))
    have hrow2 := hrow2.moved (hm114.castL (by kernel_rfl))
    
    exact hfin _ _ _ (by kernel_rfl) (by kernel_rfl) (by kernel_rfl) (by assumption : Rel _ _ _ _ _) hpo.po hrow.own hrow2.own
  · refine sim_run 2 [] hRF (by kernel_rfl) trivial (fun ρ200 w200 hm200 hR200 => ?_)
    have hpo := hpo.moved (hm200.castL (by kernel_rfl))
    have hrow := hrow.moved (hm200.castL (by kernel_rfl))
    have hrow2 := hrow2.moved (hm200.castL (by kernel_rfl))
    have hag := hag.moved (hm200.castL (by kernel_rfl))
    refine sim_place (.v (.slice (some ⟨gb, ob, none⟩) kn ca)) kn 2 i 0 0 (by kernel_rfl) (by omega) (by omega) rfl (by simp only [Nm.at_, hag.at_ 0 (by omega), e0, Nat.add_zero, Int.toNat_natCast]) ?_
    refine sim_run 5 [] (hR200.cast (by kernel_rfl)) (by kernel_rfl) trivial (fun ρ202 w202 hm202 hR202 => ?_)
    have hpo := hpo.moved (hm202.castL (by kernel_rfl))
    have hrow := hrow.moved (hm202.castL (by kernel_rfl))
    have hrow2 := hrow2.moved (hm202.castL (by kernel_rfl))
    have hag := hag.moved (hm202.castL (by kernel_rfl))
    refine sim_know 94 (k.snd.toList == a.toList) false (by kernel_rfl) (by assumption) ?_
    refine sim_run 2 [] (hR202.cast (by kernel_rfl)) (by kernel_rfl) trivial (fun ρ203 w203 hm203 hR203 => ?_)
    have hpo := hpo.moved (hm203.castL (by kernel_rfl))
    have hrow := hrow.moved (hm203.castL (by kernel_rfl))
    have hrow2 := hrow2.moved (hm203.castL (by kernel_rfl))
    have hag := hag.moved (hm203.castL (by kernel_rfl))
    refine sim_place (.v (.slice (some ⟨gb, ob, none⟩) kn ca)) kn 2 i 0 0 (by kernel_rfl) (by omega) (by omega) rfl (by simp only [Nm.at_, hag.at_ 0 (by omega), e0, Nat.add_zero, Int.toNat_natCast]) ?_
    refine sim_run 6 [] (hR203.cast (by kernel_rfl)) (by kernel_rfl) trivial (fun ρ205 w205 hm205 hR205 => ?_)
    have hpo := hpo.moved (hm205.castL (by kernel_rfl))
    have hrow := hrow.moved (hm205.castL (by kernel_rfl))
    have hrow2 := hrow2.moved (hm205.castL (by kernel_rfl))
    have hag := hag.moved (hm205.castL (by kernel_rfl))
    refine sim_know 102 (k.snd.toList == b.toList) true (by kernel_rfl) (by assumption) ?_
    refine sim_run 3 [] (hR205.cast (by kernel_rfl)) (by kernel_rfl) trivial (fun ρ206 w206 hm206 hR206 => ?_)
    have hpo := hpo.moved (hm206.castL (by kernel_rfl))
    have hrow := hrow.moved (hm206.castL (by kernel_rfl))
    have hrow2 := hrow2.moved (hm206.castL (by kernel_rfl))
    have hag := hag.moved (hm206.castL (by kernel_rfl))
    refine sim_draw [] (by kernel_rfl) (by kernel_rfl) hR206 (fun hR207 => ?_)
    have hpo := hpo.drew
    have hrow := hrow.drew
    have hrow2 := hrow2.drew
    refine sim_ordN 5 [] hR207 (by kernel_rfl) trivial (fun ρ208 w208 hm208 hR208 => ?_)
    have hag := hag.moved (hm208.castL (by kernel_rfl))
    have hpo := hpo.moved (hm208.castL (by kernel_rfl))
    have hrow := hrow.moved (hm208.castL (by kernel_rfl))
    have hrow2 := hrow2.moved (hm208.castL (by kernel_rfl))
    refine sim_knowO hR208 107 (decide ((↑N : Int) ≥ (↑sn : Int))) false (by kernel_rfl) (decide_eq_false (by omega)) (fun hR209 => ?_)
    refine sim_ordN 2 [] hR209 (by kernel_rfl) trivial (fun ρ210 w210 hm210 hR210 => ?_)
    have hag := hag.moved (hm210.castL (by kernel_rfl))
    have hpo := hpo.moved (hm210.castL (by kernel_rfl))
    have hrow := hrow.moved (hm210.castL (by kernel_rfl))
    have hrow2 := hrow2.moved (hm210.castL (by kernel_rfl))
    refine sim_ord_index (.v (.slice (some ⟨gs, os, none⟩) sn cs)) sn 2 N 1 0 (by kernel_rfl) (by omega) (by omega) rfl hR210 (by simp only [Nm.at_, hag.at_ 1 (by omega), e1, Nat.add_zero, Int.toNat_natCast]) (fun hR212 => ?_)
    refine sim_ordN 3 [] hR212 (by kernel_rfl) trivial (fun ρ213 w213 hm213 hR213 => ?_)
    have hag := hag.moved (hm213.castL (by kernel_rfl))
    have hpo := hpo.moved (hm213.castL (by kernel_rfl))
    have hrow := hrow.moved (hm213.castL (by kernel_rfl))
    have hrow2 := hrow2.moved (hm213.castL (by kernel_rfl))
    refine sim_ord_index (.v (.slice (some ⟨gb, ob, none⟩) kn ca)) kn 2 i 0 0 (by kernel_rfl) (by omega) (by omega) rfl hR213 (by simp only [Nm.at_, hag.at_ 0 (by omega), e0, Nat.add_zero, Int.toNat_natCast]) (fun hR214 => ?_)
    refine sim_ordN 3 [] hR214 (by kernel_rfl) trivial (fun ρ215 w215 hm215 hR215 => ?_)
    have hag := hag.moved (hm215.castL (by kernel_rfl))
    have hpo := hpo.moved (hm215.castL (by kernel_rfl))
    have hrow := hrow.moved (hm215.castL (by kernel_rfl))
    have hrow2 := hrow2.moved (hm215.castL (by kernel_rfl))
    refine sim_ord_endR hR215 (by kernel_rfl) (fun hR216 => ?_)
    refine sim_know 117 (!(k.fst == k.fst && (k.snd == k.snd && true))) false (by kernel_rfl) (by simp [ba_dec]) ?_
    refine sim_run 13 [⟨19, 1, LI (IntKind.i64.wrap ((↑N : Int) + 1)), LI ((↑N : Int) + 1)⟩, ⟨13, 1, LI (IntKind.i64.wrap ((↑i : Int) + 1)), LI ((↑i : Int) + 1)⟩] (hR216.cast (by kernel_rfl)) (by kernel_rfl) ⟨eqi (IntWalk.i64_in _ (by omega)), eqi (IntWalk.i64_in _ (by omega)), trivial⟩ (fun ρ217 w217 hm217 hR217 => ?_)
    have hag := hag.moved (hm217.castL (by kernel_rfl))
    have hpo := hpo.moved (hm217.castL (by kernel_rfl))
    have hrow := hrow.moved (hm217.castL (by kernel_rfl))
    have hrow2 := hrow2.moved (hm217.castL (by kernel_rfl))
    
    exact hfin _ _ _ (by kernel_rfl) (by kernel_rfl) (by kernel_rfl) (by assumption : Rel _ _ _ _ _) hpo.po hrow.own hrow2.own
set_option maxRecDepth 100000 in
set_option maxHeartbeats 4000000 in
theorem rows_no {Q : Exit → Act → World → Prop} {R : Ending → World → Prop} [hB : Body Try.prog Q Try.f4 R] {ρ : Nm} {w0 w : World} {B g : Nat} {m : Option Nat} {l : List (Ent Key B3)} {clock : Nat} {gb ob kn sn ca cs i N N2 Bk Bs : Nat} {As : Option Addr} {a b : ByteArray} {k : Key} {xs ys : List Value} (hR : Rel [] w0 ρ [⟨[LS k.1, LS k.2], false⟩] w) (hpo : PoO ρ [⟨[LS k.1, LS k.2], false⟩] w B g m l clock) (hrow : Own ρ [⟨[LS k.1, LS k.2], false⟩] w Bk 24 2 (.slice (some ⟨gb, ob, none⟩) kn ca) kn xs) (hrow2 : Own ρ [⟨[LS k.1, LS k.2], false⟩] w Bs 24 2 (.slice As sn cs) sn ys)
    (e0 : ρ 0 = (gb, ob + i * 2)) (hlt : i < kn) (hn : kn ≤ 1000000) (hka : (k.2.toList == a.toList) = false) (hkb : (k.2.toList == b.toList) = false) (hN2 : N2 = N) (d : Nat → Value)
    (hfin : ∀ (c' : Cfg) (ρ' : Nm) (w' : World), c'.k = [] → mergeT (tmplJ Try.f4.ntmps 0 [(1, LS a), (2, LS b), (7, .v (.pointer (some ⟨g, 0, none⟩))), (9, .v (.slice (some ⟨gb, ob, none⟩) kn ca)), (10, .v (.slice As sn cs)), (11, LI (N2 : Nat)), (12, LI ((i : Int) + 1))]) c'.tmps = c'.tmps → (tmplJ Try.f4.ntmps 0 [(1, LS a), (2, LS b), (7, .v (.pointer (some ⟨g, 0, none⟩))), (9, .v (.slice (some ⟨gb, ob, none⟩) kn ca)), (10, .v (.slice As sn cs)), (11, LI (N2 : Nat)), (12, LI ((i : Int) + 1))]).length = c'.tmps.length → Rel [] w0 ρ' c'.rs w' → PoV w' B g m l clock → w'.ownsRow Bk 24 2 (.slice (some ⟨gb, ob, none⟩) kn ca) kn xs → w'.ownsRow Bs 24 2 (.slice As sn cs) sn ys → At Try.prog Q c' ρ' w') :
    At Try.prog Q ⟨regK Try.f4 16, fillJ (tmplJ Try.f4.ntmps 0 [(1, LS a), (2, LS b), (7, .v (.pointer (some ⟨g, 0, none⟩))), (9, .v (.slice (some ⟨gb, ob, none⟩) kn ca)), (10, .v (.slice As sn cs)), (11, LI N), (12, LI i)]) d 0, [⟨[LS k.1, LS k.2], false⟩]⟩ ρ w := by
  subst hN2
  have hag := Rel.ag_ hR 1 (by kernel_rfl)
  refine sim_run 2 [] hR (by kernel_rfl) trivial (fun ρ300 w300 hm300 hR300 => ?_)
  have hpo := hpo.moved (hm300.castL (by kernel_rfl))
  have hrow := hrow.moved (hm300.castL (by kernel_rfl))
  have hrow2 := hrow2.moved (hm300.castL (by kernel_rfl))
  have hag := hag.moved (hm300.castL (by kernel_rfl))
  refine sim_place (.v (.slice (some ⟨gb, ob, none⟩) kn ca)) kn 2 i 0 0 (by kernel_rfl) (by omega) (by omega) rfl (by simp only [Nm.at_, hag.at_ 0 (by omega), e0, Nat.add_zero, Int.toNat_natCast]) ?_
  refine sim_run 5 [] (hR300.cast (by kernel_rfl)) (by kernel_rfl) trivial (fun ρ302 w302 hm302 hR302 => ?_)
  have hpo := hpo.moved (hm302.castL (by kernel_rfl))
  have hrow := hrow.moved (hm302.castL (by kernel_rfl))
  have hrow2 := hrow2.moved (hm302.castL (by kernel_rfl))
  have hag := hag.moved (hm302.castL (by kernel_rfl))
  refine sim_know 94 (k.snd.toList == a.toList) false (by kernel_rfl) (by assumption) ?_
  refine sim_run 2 [] (hR302.cast (by kernel_rfl)) (by kernel_rfl) trivial (fun ρ303 w303 hm303 hR303 => ?_)
  have hpo := hpo.moved (hm303.castL (by kernel_rfl))
  have hrow := hrow.moved (hm303.castL (by kernel_rfl))
  have hrow2 := hrow2.moved (hm303.castL (by kernel_rfl))
  have hag := hag.moved (hm303.castL (by kernel_rfl))
  refine sim_place (.v (.slice (some ⟨gb, ob, none⟩) kn ca)) kn 2 i 0 0 (by kernel_rfl) (by omega) (by omega) rfl (by simp only [Nm.at_, hag.at_ 0 (by omega), e0, Nat.add_zero, Int.toNat_natCast]) ?_
  refine sim_run 6 [] (hR303.cast (by kernel_rfl)) (by kernel_rfl) trivial (fun ρ305 w305 hm305 hR305 => ?_)
  have hpo := hpo.moved (hm305.castL (by kernel_rfl))
  have hrow := hrow.moved (hm305.castL (by kernel_rfl))
  have hrow2 := hrow2.moved (hm305.castL (by kernel_rfl))
  have hag := hag.moved (hm305.castL (by kernel_rfl))
  refine sim_know 102 (k.snd.toList == b.toList) false (by kernel_rfl) (by assumption) ?_
  refine sim_run 8 [⟨13, 1, LI (IntKind.i64.wrap ((↑i : Int) + 1)), LI ((↑i : Int) + 1)⟩] (hR305.cast (by kernel_rfl)) (by kernel_rfl) ⟨eqi (IntWalk.i64_in _ (by omega)), trivial⟩ (fun ρ306 w306 hm306 hR306 => ?_)
  have hpo := hpo.moved (hm306.castL (by kernel_rfl))
  have hrow := hrow.moved (hm306.castL (by kernel_rfl))
  have hrow2 := hrow2.moved (hm306.castL (by kernel_rfl))
  have hag := hag.moved (hm306.castL (by kernel_rfl))
  
  exact hfin _ _ _ (by kernel_rfl) (by kernel_rfl) (by kernel_rfl) (by assumption : Rel _ _ _ _ _) hpo.po hrow.own hrow2.own
end Go.Proofs.Ytgbgedaedcofcaa
