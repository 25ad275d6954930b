/-
  PosRows: the loop over all keys.
-/
import Derived.Test.YtgbgedaedcofcaaPosW1
import Derived.Test.YtgbgedaedcofcaaPosW3
namespace Go.Proofs.Ytgbgedaedcofcaa
open Go Go.RowKit
theorem noW1 {ρ : Nm} {cs : List LV} {g : Nat} (h : wrS ρ [⟨cs, false⟩] g) : False := by
  obtain ⟨n, r, hn, hw, _⟩ := h
  cases n with
  | zero =>
    simp only [List.getElem?_cons_zero, Option.some.injEq] at hn
    subst hn
    cases hw
  | succ n => simp at hn
attribute [local irreducible] run goO leaveK someK nextK nextT nextOT nextOD loopBody loopRest loopK fillJ tmplOf tmplJ mergeT At AtO drawOk ordOf gateOf callC callO topOp topO idxOf appOf storeOf clearOf sliceOf calleeOf calleeO topQ idxQ newRowOf resL stepOp seek
set_option maxRecDepth 100000 in
set_option maxHeartbeats 4000000 in
theorem rows_l2 {ρ : Nm} {w0 w : World} {B g : Nat} {m : Option Nat} {l : List (Ent Key B3)} {clock : Nat} {Aa As : Option Addr} {ca cs Ba Bs : Nat} {a b : ByteArray} {ks ss : List Key} (hr : RowsAt l a b ks ss) (hR : Rel [] w0 ρ [] w) (hpo : PoO ρ [] w B g m l clock) (hra : w.ownsRow Ba 24 2 (.slice Aa ks.length ca) ks.length (ks.map encL).flatten) (hrs : w.ownsRow Bs 24 2 (.slice As ss.length cs) ss.length (ss.map encL).flatten)
    (hkn : ks.length ≤ 1000000) (hsn : ss.length ≤ 1000000) (hsz : ∀ e ∈ l, e.key.1.size ≤ 9223372036854775807 ∧ e.key.2.size ≤ 9223372036854775807) (d : Nat → Value) :
    At Try.prog (bodyPost Try.prog Try.f4 (fun e w' => e = .returned (.bool true) ∧ Below w0.heap.size w0 w')) ⟨loopK Try.f4 1, fillJ (tmplJ Try.f4.ntmps 0 [(1, LS a), (2, LS b), (7, .v (.pointer (some ⟨g, 0, none⟩))), (9, .v (.slice Aa ks.length ca)), (10, .v (.slice As ss.length cs)), (11, LI 0), (12, LI 0)]) d 0, []⟩ ρ w := by
  refine sim_loop (ι := Nat) (T := []) (w0 := w0) 0 [1, 2, 7, 9, 10] (fun i => [(11, LI (cntK a b ks i : Nat)), (12, LI i)]) (fun _ => []) (fun i w1 => i ≤ ks.length ∧ PoO ρ [] w1 B g m l clock ∧ Own ρ [] w1 Ba 24 2 (.slice Aa ks.length ca) ks.length (ks.map encL).flatten ∧ Own ρ [] w1 Bs 24 2 (.slice As ss.length cs) ss.length (ss.map encL).flatten) (fun i => ks.length - i) (by kernel_rfl) (by kernel_rfl) hR ⟨Nat.zero_le _, hpo, Own.none0 hra, Own.none0 hrs⟩ ?_
  clear hpo hR hra hrs
  rintro i d4 w4 hR4 ⟨hi, hpo, hrow, hrow2⟩
  have hag := hR4.ag_ 0 (by kernel_rfl)
  by_cases hlt : i < ks.length
  · obtain ⟨k, hk⟩ : ∃ k, ks[i]? = some k := ⟨_, List.getElem?_eq_getElem hlt⟩
    have hmk := List.mem_of_getElem? hk
    obtain ⟨⟨b1, b2, b3⟩, hb⟩ : ∃ b, getM l (k.1, k.2) = b := ⟨_, rfl⟩
    have hbz : ¬ (b1 = 0 ∧ b2 = 0 ∧ b3 = 0) := by
      rintro ⟨rfl, rfl, rfl⟩
      exact hr.nz k hmk hb
    have hst := cntK_step (a := a) (b := b) hk
    obtain ⟨gb, ob, hA, _, _⟩ := (Reads.of_own hrow.own).spot (by omega) (by omega)
    subst hA
    refine sim_meet (T := []) (w0 := w0) (ι := Unit) (regK Try.f4 16) (fun _ => tmplJ Try.f4.ntmps 0 [(1, LS a), (2, LS b), (7, .v (.pointer (some ⟨g, 0, none⟩))), (9, .v (.slice (some ⟨gb, ob, none⟩) ks.length ca)), (10, .v (.slice As ss.length cs)), (11, LI (cntK a b ks i : Nat)), (12, LI i)]) [⟨[LS k.1, LS k.2], false⟩] (fun _ ρ2 w2 => PoV w2 B g m l clock ∧ w2.ownsRow Ba 24 2 (.slice (some ⟨gb, ob, none⟩) ks.length ca) ks.length (ks.map encL).flatten ∧ w2.ownsRow Bs 24 2 (.slice As ss.length cs) ss.length (ss.map encL).flatten ∧ ρ2 0 = (gb, ob + i * 2)) ?_ (fun hmeet => ?_)
    · rintro _ ρ2 w2 d2 h1 ⟨h2, h3, h4, h5⟩
      have hP : PoO ρ2 [⟨[LS k.1, LS k.2], false⟩] w2 B g m l clock := ⟨h2, noW1, fun _ _ => noW1⟩
      by_cases hw : wantK [a, b] k = true
      · have hat := hr.at_ i k hk hw
        rw [if_pos hw] at hst
        have hw2 : (k.2.toList == a.toList) = true ∨ ((k.2.toList == a.toList) = false ∧ (k.2.toList == b.toList) = true) := by
          have hw3 : ((k.2.toList == a.toList) || (k.2.toList == b.toList)) = true := by simpa [wantK] using hw
          cases hc : (k.2.toList == a.toList) with
          | true => exact .inl rfl
          | false => rw [hc] at hw3; exact .inr ⟨rfl, hw3⟩
        refine rows_yes h1 hP ⟨h3, fun _ _ => noW1⟩ ⟨h4, fun _ _ => noW1⟩ h5 hlt hkn hsn hw2 hat rfl rfl d2 (fun c' ρ' w' hk' hm' hl' hR' hpo' ho1 ho2 => ?_)
        exact sim_rs [] (sim_again (i + 1) hk' (by show ks.length - (i + 1) < ks.length - i; omega) ((congrArg (mergeT · c'.tmps) (by rw [hst]; kernel_rfl)).trans hm') ((congrArg List.length (by rw [hst]; kernel_rfl)).trans hl') (by kernel_rfl) Agree.zero hR'.none0 (by kernel_rfl) (by kernel_rfl) ⟨hlt, ⟨hpo', fun ⟨_, _, hr, _⟩ => by simp at hr, fun _ _ ⟨_, _, hr, _⟩ => by simp at hr⟩, Own.none0 ho1, Own.none0 ho2⟩)
      · rw [if_neg hw] at hst
        have hw3 : ((k.2.toList == a.toList) || (k.2.toList == b.toList)) = false := by simpa [wantK] using hw
        simp only [Bool.or_eq_false_iff] at hw3
        refine rows_no h1 hP ⟨h3, fun _ _ => noW1⟩ ⟨h4, fun _ _ => noW1⟩ h5 hlt hkn hw3.1 hw3.2 rfl d2 (fun c' ρ' w' hk' hm' hl' hR' hpo' ho1 ho2 => ?_)
        exact sim_rs [] (sim_again (i + 1) hk' (by show ks.length - (i + 1) < ks.length - i; omega) ((congrArg (mergeT · c'.tmps) (by rw [hst]; kernel_rfl)).trans hm') ((congrArg List.length (by rw [hst]; kernel_rfl)).trans hl') (by kernel_rfl) Agree.zero hR'.none0 (by kernel_rfl) (by kernel_rfl) ⟨hlt, ⟨hpo', fun ⟨_, _, hr, _⟩ => by simp at hr, fun _ _ ⟨_, _, hr, _⟩ => by simp at hr⟩, Own.none0 ho1, Own.none0 ho2⟩)
    · refine sim_seeO (xss := ks.map encL) (sz := 2) (n := ks.length) [.string k.1, .string k.2] i 0 (by kernel_rfl) (by rw [List.getElem?_map, hk]; rfl) hrow (encL_len ks) (by omega) hlt hR4 (by kernel_rfl) (fun ρF hmF eF hRF => ?_)
      have hpo := hpo.moved hmF
      have hrow := hrow.moved hmF
      have hrow2 := hrow2.moved hmF
      by_cases hi0 : i = 0
      · have hag := hRF.ag_ 1 (by kernel_rfl)
        refine sim_run 8 [] (hRF.cast (by kernel_rfl)) (by kernel_rfl) trivial (fun ρ100 w100 hm100 hR100 => ?_)
        have hpo := hpo.moved (hm100.castL (by kernel_rfl))
        have hrow := hrow.moved (hm100.castL (by kernel_rfl))
        have hrow2 := hrow2.moved (hm100.castL (by kernel_rfl))
        have hag := hag.moved (hm100.castL (by kernel_rfl))
        refine sim_know 59 (decide ((↑i : Int) < (↑ks.length : Int))) true (by kernel_rfl) (decide_eq_true (by omega)) ?_
        refine sim_run 6 [] (hR100.cast (by kernel_rfl)) (by kernel_rfl) trivial (fun ρ101 w101 hm101 hR101 => ?_)
        have hpo := hpo.moved (hm101.castL (by kernel_rfl))
        have hrow := hrow.moved (hm101.castL (by kernel_rfl))
        have hrow2 := hrow2.moved (hm101.castL (by kernel_rfl))
        have hag := hag.moved (hm101.castL (by kernel_rfl))
        
        have eK := (hag.at_ 0 (by omega)).trans eF
        refine sim_to (regK Try.f4 14) (tmplJ Try.f4.ntmps 0 [(1, LS a), (2, LS b), (7, .v (.pointer (some ⟨g, 0, none⟩))), (9, .v (.slice (some ⟨gb, ob, none⟩) ks.length ca)), (10, .v (.slice As ss.length cs)), (11, LI (cntK a b ks i : Nat)), (12, LI i)]) [⟨[LS k.1, LS k.2], false⟩] (by kernel_rfl) (by kernel_rfl) (by kernel_rfl) (fun d6 => ?_)
        exact rows_test0 ((by assumption : Rel _ _ _ _ _).cast (by kernel_rfl)) (hpo.castR (by kernel_rfl)) (hrow.castR (by kernel_rfl)) (hrow2.castR (by kernel_rfl)) eK hlt hkn hb hbz d6 hi0 (fun ρ2 w2 d2 h1 h2 h3 h4 h5 => hmeet _ () ρ2 w2 rfl (by kernel_rfl) (by kernel_rfl) h1 ⟨h2, h3, h4, h5⟩)
      · obtain ⟨x, hx⟩ : ∃ x, ks[i - 1]? = some x := ⟨_, List.getElem?_eq_getElem (by omega)⟩
        have hxk := hr.lt (i - 1) x k hx (by rw [show i - 1 + 1 = i from by omega]; exact hk)
        obtain ⟨e, he, hek⟩ := List.mem_map.1 (hr.mem x (List.mem_of_getElem? hx))
        have hxs := hsz e he
        rw [hek] at hxs
        refine sim_seeO (xss := ks.map encL) (sz := 2) (n := ks.length) [.string x.1, .string x.2] (i - 1) 1 (by kernel_rfl) (by rw [List.getElem?_map, hx]; rfl) hrow (encL_len ks) (by omega) (by omega) hRF (by kernel_rfl) (fun ρG hmG eG hRG => ?_)
        have eF := ((hRF.ag_ 1 (by kernel_rfl)).moved hmG |>.at_ 0 (by omega)).trans eF
        have hpo := hpo.moved hmG
        have hrow := hrow.moved hmG
        have hrow2 := hrow2.moved hmG
        have hag := hRG.ag_ 2 (by kernel_rfl)
        refine sim_run 8 [] (hRG.cast (by kernel_rfl)) (by kernel_rfl) trivial (fun ρ200 w200 hm200 hR200 => ?_)
        have hpo := hpo.moved (hm200.castL (by kernel_rfl))
        have hrow := hrow.moved (hm200.castL (by kernel_rfl))
        have hrow2 := hrow2.moved (hm200.castL (by kernel_rfl))
        have hag := hag.moved (hm200.castL (by kernel_rfl))
        refine sim_know 59 (decide ((↑i : Int) < (↑ks.length : Int))) true (by kernel_rfl) (decide_eq_true (by omega)) ?_
        refine sim_run 6 [] (hR200.cast (by kernel_rfl)) (by kernel_rfl) trivial (fun ρ201 w201 hm201 hR201 => ?_)
        have hpo := hpo.moved (hm201.castL (by kernel_rfl))
        have hrow := hrow.moved (hm201.castL (by kernel_rfl))
        have hrow2 := hrow2.moved (hm201.castL (by kernel_rfl))
        have hag := hag.moved (hm201.castL (by kernel_rfl))
        
        have eK := (hag.at_ 0 (by omega)).trans eF
        have eK1 := (hag.at_ 1 (by omega)).trans eG
        refine sim_to (regK Try.f4 14) (tmplJ Try.f4.ntmps 0 [(1, LS a), (2, LS b), (7, .v (.pointer (some ⟨g, 0, none⟩))), (9, .v (.slice (some ⟨gb, ob, none⟩) ks.length ca)), (10, .v (.slice As ss.length cs)), (11, LI (cntK a b ks i : Nat)), (12, LI i)]) [⟨[LS k.1, LS k.2], false⟩, ⟨[LS x.1, LS x.2], false⟩] (by kernel_rfl) (by kernel_rfl) (by kernel_rfl) (fun d6 => ?_)
        exact rows_test1 ((by assumption : Rel _ _ _ _ _).cast (by kernel_rfl)) (hpo.castR (by kernel_rfl)) (hrow.castR (by kernel_rfl)) (hrow2.castR (by kernel_rfl)) eK hlt hkn hb hbz d6 eK1 (by omega) hxs.1 hxs.2 hxk (fun ρ2 w2 d2 h1 h2 h3 h4 h5 => hmeet _ () ρ2 w2 rfl (by kernel_rfl) (by kernel_rfl) h1 ⟨h2, h3, h4, h5⟩)
  · have hie : i = ks.length := by omega
    subst hie
    have hall := hr.all
    refine sim_run 8 [] (hR4.cast (by kernel_rfl)) (by kernel_rfl) trivial (fun ρ300 w300 hm300 hR300 => ?_)
    have hpo := hpo.moved (hm300.castL (by kernel_rfl))
    have hrow := hrow.moved (hm300.castL (by kernel_rfl))
    have hrow2 := hrow2.moved (hm300.castL (by kernel_rfl))
    have hag := hag.moved (hm300.castL (by kernel_rfl))
    refine sim_know 59 (decide ((↑ks.length : Int) < (↑ks.length : Int))) false (by kernel_rfl) (decide_eq_false (by omega)) ?_
    refine sim_run 1 [] (hR300.cast (by kernel_rfl)) (by kernel_rfl) trivial (fun ρ301 w301 hm301 hR301 => ?_)
    have hpo := hpo.moved (hm301.castL (by kernel_rfl))
    have hrow := hrow.moved (hm301.castL (by kernel_rfl))
    have hrow2 := hrow2.moved (hm301.castL (by kernel_rfl))
    have hag := hag.moved (hm301.castL (by kernel_rfl))
    refine sim_leave (by kernel_rfl) ?_
    refine sim_run 2 [] (hR301.cast (by kernel_rfl)) (by kernel_rfl) trivial (fun ρ302 w302 hm302 hR302 => ?_)
    have hpo := hpo.moved (hm302.castL (by kernel_rfl))
    have hrow := hrow.moved (hm302.castL (by kernel_rfl))
    have hrow2 := hrow2.moved (hm302.castL (by kernel_rfl))
    have hag := hag.moved (hm302.castL (by kernel_rfl))
    refine sim_call 15 [] (by kernel_rfl) ?_
    refine Calls.mono (alive10_any _) ?_
    rintro e303 w303 ⟨rfl, hb303⟩
    have hR303 := hR302.below hb303
    have hpo := hpo.below hb303
    have hrow := hrow.below hb303
    have hrow2 := hrow2.below hb303
    refine Back.of (LB true) hR303 rfl ?_
    refine sim_run 8 [] (hR303.cast (by kernel_rfl)) (by kernel_rfl) trivial (fun ρ304 w304 hm304 hR304 => ?_)
    have hag := hag.moved (hm304.castL (by kernel_rfl))
    have hpo := hpo.moved (hm304.castL (by kernel_rfl))
    have hrow := hrow.moved (hm304.castL (by kernel_rfl))
    have hrow2 := hrow2.moved (hm304.castL (by kernel_rfl))
    refine sim_ret (LB ((↑(cntK a b ks ks.length) : Int) == (↑ss.length : Int))) hR304 (by kernel_rfl) (by kernel_rfl) ?_
    exact ⟨retv_bool (by clear hR304 hm304 hR303 hb303 hR302 hm302 hR301 hm301 hR300 hm300 hag hR4; grind []), hR304.toBelow⟩
    
end Go.Proofs.Ytgbgedaedcofcaa
