/-
  PostSplits: what the two ledgers hold is looked at, key by key.
-/
import Derived.Test.YtgbgedaedcofcaaPstU
import Derived.Test.YtgbgedaedcofcaaSameK
namespace Go.Proofs.Ytgbgedaedcofcaa
open Go Go.RowKit
attribute [local irreducible] run goO leaveK someK nextK nextT nextOT nextOD loopBody loopRest loopK fillJ tmplOf tmplJ mergeT At AtO drawOk ordOf gateOf callC callO topOp topO idxOf appOf storeOf clearOf sliceOf calleeOf calleeO topQ idxQ newRowOf resL stepOp seek
set_option maxRecDepth 100000 in
set_option maxHeartbeats 4000000 in
theorem splits_keys {ρ : Nm} {w0 w : World} {B ga gb g1 g2 kn ck Bk : Nat} {Ak : Option Addr} {sa sb : LSt} {ks : List Key} (hR : Rel [] w0 ρ [⟨ptrG g1, false⟩, ⟨ptrG g2, false⟩] w) (ht : LdT ρ [⟨ptrG g1, false⟩, ⟨ptrG g2, false⟩] w B ga gb sa sb) (hsA : sa.g = g1) (hsB : sb.g = g2) (hrow : Own ρ [⟨ptrG g1, false⟩, ⟨ptrG g2, false⟩] w Bk 24 2 (.slice Ak kn ck) kn (ks.map encL).flatten) (hkl : ks.length = kn) (hkn : kn ≤ 1000000) (heq : ∀ k, getM sb.l k = getM sa.l k) (d : Nat → Value) :
    At Try.prog (bodyPost Try.prog Try.f8 (fun e w' => e = .returned (.bool true) ∧ Below w0.heap.size w0 w')) ⟨regK Try.f8 22, fillJ (tmplJ Try.f8.ntmps 0 [(7, .ptr 0 0), (8, .ptr 1 0), (13, .v (.slice Ak kn ck))]) d 0, [⟨ptrG g1, false⟩, ⟨ptrG g2, false⟩]⟩ ρ w := by
  have e0 := ht.ata
  have e1 := ht.atb
  have hag := Rel.ag_ hR 2 (by kernel_rfl)
  refine sim_run 3 [] (hR.cast (by kernel_rfl)) (by kernel_rfl) trivial (fun ρ100 w100 hm100 hR100 => ?_)
  have ht := ht.moved (hm100.castL (by kernel_rfl))
  have hrow := hrow.moved (hm100.castL (by kernel_rfl))
  have hag := hag.moved (hm100.castL (by kernel_rfl))
  
  refine sim_loop (ι := Nat) (T := []) (w0 := w0) 0 [7, 8, 13] (fun j => [(14, LI j)]) (fun _ => [⟨ptrG g1, false⟩, ⟨ptrG g2, false⟩]) (fun j w1 => j ≤ kn ∧ LdT ρ100 [⟨ptrG g1, false⟩, ⟨ptrG g2, false⟩] w1 B ga gb sa sb ∧ Own ρ100 [⟨ptrG g1, false⟩, ⟨ptrG g2, false⟩] w1 Bk 24 2 (.slice Ak kn ck) kn (ks.map encL).flatten) (fun j => kn - j) (by kernel_rfl) (by kernel_rfl) ((by assumption : Rel _ _ _ _ _).cast (by kernel_rfl)) ⟨Nat.zero_le _, ht.castR (by kernel_rfl), hrow.castR (by kernel_rfl)⟩ ?_
  clear ht hrow hag hR100 hm100 e0 e1 hR
  rintro j d5 w5 hR5 ⟨hj, ht, hrow⟩
  have e0 := ht.ata
  have e1 := ht.atb
  have hag2 := hR5.ag_ 2 (by kernel_rfl)
  by_cases hlt : j < kn
  · obtain ⟨k, hk⟩ : ∃ k, ks[j]? = some k := ⟨_, List.getElem?_eq_getElem (by omega)⟩
    obtain ⟨gb0, ob, hA, _, _⟩ := (Reads.of_own hrow.own).spot (by omega) (by omega)
    subst hA
    have hge : getM sb.l (k.1, k.2) = getM sa.l (k.1, k.2) := heq _
    refine sim_seeO (xss := ks.map encL) (sz := 2) (n := kn) [.string k.1, .string k.2] j 2 (by kernel_rfl) (by rw [List.getElem?_map, hk]; rfl) hrow (encL_len ks) (by omega) hlt hR5 (by kernel_rfl) (fun ρF hmF e2 hRF => ?_)
    have ht := ht.moved hmF
    have hrow := hrow.moved hmF
    have hag2 := hag2.moved hmF
    have hag := hRF.ag_ 3 (by kernel_rfl)
    have e0 := ht.ata
    have e1 := ht.atb
    refine sim_run 8 [] (hRF.cast (by kernel_rfl)) (by kernel_rfl) trivial (fun ρ200 w200 hm200 hR200 => ?_)
    have ht := ht.moved (hm200.castL (by kernel_rfl))
    have hrow := hrow.moved (hm200.castL (by kernel_rfl))
    have hag2 := hag2.moved (hm200.castL (by kernel_rfl))
    have hag := hag.moved (hm200.castL (by kernel_rfl))
    refine sim_know 110 (decide ((↑j : Int) < (↑kn : Int))) true (by kernel_rfl) (decide_eq_true (by omega)) ?_
    refine sim_run 5 [] (hR200.cast (by kernel_rfl)) (by kernel_rfl) trivial (fun ρ201 w201 hm201 hR201 => ?_)
    have ht := ht.moved (hm201.castL (by kernel_rfl))
    have hrow := hrow.moved (hm201.castL (by kernel_rfl))
    have hag2 := hag2.moved (hm201.castL (by kernel_rfl))
    have hag := hag.moved (hm201.castL (by kernel_rfl))
    refine sim_draw [] (by kernel_rfl) (by kernel_rfl) hR201 (fun hR202 => ?_)
    have ht := ht.drew
    have hrow := hrow.drew
    refine sim_ordN 6 [] hR202 (by kernel_rfl) trivial (fun ρ203 w203 hm203 hR203 => ?_)
    have hag2 := hag2.moved (hm203.castL (by kernel_rfl))
    have hag := hag.moved (hm203.castL (by kernel_rfl))
    have ht := ht.moved (hm203.castL (by kernel_rfl))
    have hrow := hrow.moved (hm203.castL (by kernel_rfl))
    refine sim_ord_index (.v (.slice (some ⟨gb0, ob, none⟩) kn ck)) kn 2 j 2 0 (by kernel_rfl) (by omega) (by omega) rfl hR203 (by simp only [Nm.at_, hag.at_ 2 (by omega), e2, Nat.add_zero, Int.toNat_natCast]) (fun hR204 => ?_)
    refine sim_ordN 7 [] hR204 (by kernel_rfl) trivial (fun ρ205 w205 hm205 hR205 => ?_)
    have hag2 := hag2.moved (hm205.castL (by kernel_rfl))
    have hag := hag.moved (hm205.castL (by kernel_rfl))
    have ht := ht.moved (hm205.castL (by kernel_rfl))
    have hrow := hrow.moved (hm205.castL (by kernel_rfl))
    refine sim_ord_index (.v (.slice (some ⟨gb0, ob, none⟩) kn ck)) kn 2 j 2 0 (by kernel_rfl) (by omega) (by omega) rfl hR205 (by simp only [Nm.at_, hag.at_ 2 (by omega), e2, Nat.add_zero, Int.toNat_natCast]) (fun hR206 => ?_)
    refine sim_ordN 1 [] hR206 (by kernel_rfl) trivial (fun ρ207 w207 hm207 hR207 => ?_)
    have hag2 := hag2.moved (hm207.castL (by kernel_rfl))
    have hag := hag.moved (hm207.castL (by kernel_rfl))
    have ht := ht.moved (hm207.castL (by kernel_rfl))
    have hrow := hrow.moved (hm207.castL (by kernel_rfl))
    refine sim_ord_call (T := []) (w0 := w0) 17 [.v (Value.pointer (some (Addr.mk g1 0 none))), .agg [LS k.fst, LS k.snd]] (by kernel_rfl) ?_
    refine Calls.mono (get_po _ _ _ _ _ _ _ _ (pos_g ht.a hsA)) ?_
    try rw [hge]
    rintro e208 w208 ⟨rfl, hb208⟩
    have hR208 := (hR207).call hb208 (.agg [LI ((getM sa.l (k.fst, k.snd)).fst), LI ((getM sa.l (k.fst, k.snd)).snd.fst), LI ((getM sa.l (k.fst, k.snd)).snd.snd)])
    have ht := ht.below hb208
    have hrow := hrow.below hb208
    refine BackO.of (.agg [LI ((getM sa.l (k.fst, k.snd)).fst), LI ((getM sa.l (k.fst, k.snd)).snd.fst), LI ((getM sa.l (k.fst, k.snd)).snd.snd)]) hR208 rfl ?_
    refine sim_ord_call (T := []) (w0 := w0) 17 [.v (Value.pointer (some (Addr.mk g2 0 none))), .agg [LS k.fst, LS k.snd]] (by kernel_rfl) ?_
    refine Calls.mono (get_po _ _ _ _ _ _ _ _ (pos_g ht.b hsB)) ?_
    try rw [hge]
    rintro e209 w209 ⟨rfl, hb209⟩
    have hR209 := (hR208).call hb209 (.agg [LI ((getM sa.l (k.fst, k.snd)).fst), LI ((getM sa.l (k.fst, k.snd)).snd.fst), LI ((getM sa.l (k.fst, k.snd)).snd.snd)])
    have ht := ht.below hb209
    have hrow := hrow.below hb209
    refine BackO.of (.agg [LI ((getM sa.l (k.fst, k.snd)).fst), LI ((getM sa.l (k.fst, k.snd)).snd.fst), LI ((getM sa.l (k.fst, k.snd)).snd.snd)]) hR209 rfl ?_
    refine sim_ordN 1 [] hR209 (by kernel_rfl) trivial (fun ρ210 w210 hm210 hR210 => ?_)
    have hag2 := hag2.moved (hm210.castL (by kernel_rfl))
    have hag := hag.moved (hm210.castL (by kernel_rfl))
    have ht := ht.moved (hm210.castL (by kernel_rfl))
    have hrow := hrow.moved (hm210.castL (by kernel_rfl))
    refine sim_ord_endR hR210 (by kernel_rfl) (fun hR211 => ?_)
    refine sim_know 131 (!((getM sa.l (k.fst, k.snd)).fst == (getM sa.l (k.fst, k.snd)).fst && ((getM sa.l (k.fst, k.snd)).snd.fst == (getM sa.l (k.fst, k.snd)).snd.fst && ((getM sa.l (k.fst, k.snd)).snd.snd == (getM sa.l (k.fst, k.snd)).snd.snd && true)))) false (by kernel_rfl) (by simp) ?_
    refine sim_run 8 [⟨24, 1, LI (IntKind.i64.wrap ((↑j : Int) + 1)), LI ((↑j : Int) + 1)⟩] (hR211.cast (by kernel_rfl)) (by kernel_rfl) ⟨eqi (IntWalk.i64_in _ (by omega)), trivial⟩ (fun ρ212 w212 hm212 hR212 => ?_)
    have hag2 := hag2.moved (hm212.castL (by kernel_rfl))
    have hag := hag.moved (hm212.castL (by kernel_rfl))
    have ht := ht.moved (hm212.castL (by kernel_rfl))
    have hrow := hrow.moved (hm212.castL (by kernel_rfl))
    
    exact sim_again (j + 1) (by kernel_rfl) (by show kn - (j + 1) < kn - j; omega) (by kernel_rfl) (by kernel_rfl) (by kernel_rfl) hag2.ag (Rel.cast (by assumption) (by kernel_rfl)) (by kernel_rfl) (by kernel_rfl) ⟨hlt, ht.cut hag2 (by omega) rfl (by kernel_rfl), hrow.cut hag2 rfl (by kernel_rfl)⟩
  · refine sim_run 8 [] (hR5.cast (by kernel_rfl)) (by kernel_rfl) trivial (fun ρ300 w300 hm300 hR300 => ?_)
    have ht := ht.moved (hm300.castL (by kernel_rfl))
    have hrow := hrow.moved (hm300.castL (by kernel_rfl))
    have hag2 := hag2.moved (hm300.castL (by kernel_rfl))
    refine sim_know 110 (decide ((↑j : Int) < (↑kn : Int))) false (by kernel_rfl) (decide_eq_false (by omega)) ?_
    refine sim_run 1 [] (hR300.cast (by kernel_rfl)) (by kernel_rfl) trivial (fun ρ301 w301 hm301 hR301 => ?_)
    have ht := ht.moved (hm301.castL (by kernel_rfl))
    have hrow := hrow.moved (hm301.castL (by kernel_rfl))
    have hag2 := hag2.moved (hm301.castL (by kernel_rfl))
    refine sim_leave (by kernel_rfl) ?_
    refine sim_run 2 [] (hR301.cast (by kernel_rfl)) (by kernel_rfl) trivial (fun ρ302 w302 hm302 hR302 => ?_)
    have ht := ht.moved (hm302.castL (by kernel_rfl))
    have hrow := hrow.moved (hm302.castL (by kernel_rfl))
    have hag2 := hag2.moved (hm302.castL (by kernel_rfl))
    refine sim_call 23 [] (by kernel_rfl) ?_
    refine Calls.mono (alive11_any _) ?_
    rintro e303 w303 ⟨rfl, hb303⟩
    have hR303 := hR302.below hb303
    have ht := ht.below hb303
    have hrow := hrow.below hb303
    refine Back.of (LB true) hR303 rfl ?_
    refine sim_run 2 [] (hR303.cast (by kernel_rfl)) (by kernel_rfl) trivial (fun ρ304 w304 hm304 hR304 => ?_)
    have hag2 := hag2.moved (hm304.castL (by kernel_rfl))
    have ht := ht.moved (hm304.castL (by kernel_rfl))
    have hrow := hrow.moved (hm304.castL (by kernel_rfl))
    refine sim_ret (LB true) hR304 (by kernel_rfl) (by kernel_rfl) ?_
    exact ⟨rfl, hR304.toBelow⟩
    
end Go.Proofs.Ytgbgedaedcofcaa
