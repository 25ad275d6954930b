/-
  SeqParts: none of all is ahead of one that stands first.
  SeqParts: those that stand first are among the classes, in the same order.
  SeqParts: each instruction's Id is in one of the classes.
-/
import Derived.Test.YtnfgndapalkbcaaSeqPA
import Derived.Test.YtnfgndapalkbcaaSameI
namespace Go.Proofs.Ytnfgndapalkbcaa
section
open Go Go.RowKit
theorem ints_nats {ρ : Nm} {rs : List Reg} {w : World} {B : Nat} {A : Option Addr} {l : List Nat} {c : Nat} (h : Own ρ rs w B 3 1 (.slice A l.length c) l.length (nats l)) : Own ρ rs w B 3 1 (.slice A l.length c) l.length (ints (l.map Int.ofNat)) := ⟨by rw [nats_ofNat]; exact h.own, h.far⟩
attribute [local irreducible] run goO leaveK someK nextK nextT nextOT nextOD loopBody loopRest loopK fillJ tmplOf tmplJ mergeT At AtO drawOk ordOf gateOf callC callO topOp topO idxOf appOf storeOf clearOf sliceOf calleeOf calleeO topQ idxQ newRowOf resL stepOp seek
set_option maxRecDepth 100000 in
set_option maxHeartbeats 4000000 in
theorem parts_a {Q : Exit → Act → World → Prop} {R : Ending → World → Prop} [hB : Body Try.prog Q Try.f8 R] {ρ : Nm} {w0 w : World} {q : GrP} {u : List Nat} {ls : List Lk} {cB cb : Nat} {cL : Option Addr} {cs : List (List Int)} {tB tb : Nat} {tL : Option Addr} {ts : List (List Int)} {cc tc nl cl gl ab : Nat} {at1 i1 : Nat} {al tr : List Int} {x0 : Int} (hR : Rel [] w0 ρ [gR q] w) (hp : PS q u ls cB cb cL cs tB tb tL ts ρ [gR q] w) (hal : Own ρ [gR q] w ab 3 1 (.slice (some ⟨gl, 0, none⟩) nl cl) nl (ints al)) (hGI : GInv u ls) (e0 : ρ 0 = (q.b, 0)) (hti : ts[i1]? = some tr) (hx0 : tr[0]? = some x0) (hap : ∀ x ∈ aheadOf u ls x0, ((x : Nat) : Int) ∉ al) (hnl : nl ≤ 100) (hts : ts.length ≤ 100) (hall : al.length = nl) (d : Nat → Value)
    (hfin : ∀ (c' : Cfg) (ρ' : Nm) (w' : World), c'.k = [] → mergeT (tmplJ Try.f8.ntmps 0 [(7, .ptr 0 0), (10, .v (.slice cL cs.length cc)), (11, .v (.slice tL ts.length tc)), (12, .v (.slice (some ⟨gl, 0, none⟩) nl cl)), (19, LI at1), (20, LI ((i1 : Int) + 1))]) c'.tmps = c'.tmps → (tmplJ Try.f8.ntmps 0 [(7, .ptr 0 0), (10, .v (.slice cL cs.length cc)), (11, .v (.slice tL ts.length tc)), (12, .v (.slice (some ⟨gl, 0, none⟩) nl cl)), (19, LI at1), (20, LI ((i1 : Int) + 1))]).length = c'.tmps.length → Ag 1 ρ ρ' c'.rs → Rel [] w0 ρ' c'.rs w' → c'.rs.take 1 = [gR q] → PS q u ls cB cb cL cs tB tb tL ts ρ' c'.rs w' → Own ρ' c'.rs w' ab 3 1 (.slice (some ⟨gl, 0, none⟩) nl cl) nl (ints al) → At Try.prog Q c' ρ' w') :
    At Try.prog Q ⟨regK Try.f8 47, fillJ (tmplJ Try.f8.ntmps 0 [(7, .ptr 0 0), (10, .v (.slice cL cs.length cc)), (11, .v (.slice tL ts.length tc)), (12, .v (.slice (some ⟨gl, 0, none⟩) nl cl)), (19, LI at1), (20, LI i1)]) d 0, [gR q]⟩ ρ w := by
  have hag := hR.ag_ 1 (by kernel_rfl)
  have hil := (List.getElem?_eq_some_iff.1 hti).1
  have htl := (List.getElem?_eq_some_iff.1 hx0).1
  have hle := aheadOf_le u ls x0
  have hu := hGI.le
  refine sim_seeRowZ i1 1 (by kernel_rfl) hti hp.t hR (by kernel_rfl) (fun ga oa At1 ct1 ρE eA hgb hrd hcc hAt hmE eE hRE => ?_)
  subst eA
  have hp := hp.moved hmE
  have hal := hal.moved hmE
  have hag := hag.moved hmE
  have hrd := hrd.moved hmE
  refine sim_seeInt 0 2 (by kernel_rfl) hx0 hrd hRE (by kernel_rfl) (fun gx ox ρF eA hgx hmF eF hRF => ?_)
  subst eA
  have hp := hp.moved hmF
  have hal := hal.moved hmF
  have hag := hag.moved hmF
  have eE := (hmF.at_ 1 (by kernel_rfl)).trans eE
  have e0F := (hag.at_ 0 (by omega)).trans e0
  have hag3 := hRF.ag_ 3 (by kernel_rfl)
  clear hrd
  have e0 := e0F
  refine sim_run 3 [] (hRF.cast (by kernel_rfl)) (by kernel_rfl) trivial (fun ρ100 w100 hm100 hR100 => ?_)
  have hp := hp.moved (hm100.castL (by kernel_rfl))
  have hal := hal.moved (hm100.castL (by kernel_rfl))
  have hag := hag.moved (hm100.castL (by kernel_rfl))
  have hag3 := hag3.moved (hm100.castL (by kernel_rfl))
  refine sim_place (.v (.slice (some ⟨ga, oa, none⟩) ts.length tc)) ts.length 1 (i1 : Int) 1 0 (by kernel_rfl) (by omega) (by omega) rfl (by simp only [Nm.at_, hag3.at_ 1 (by omega), eE, Nat.add_zero, Int.toNat_natCast, Nat.mul_one]) ?_
  refine sim_run 1 [] (hR100.cast (by kernel_rfl)) (by kernel_rfl) trivial (fun ρ102 w102 hm102 hR102 => ?_)
  have hp := hp.moved (hm102.castL (by kernel_rfl))
  have hal := hal.moved (hm102.castL (by kernel_rfl))
  have hag := hag.moved (hm102.castL (by kernel_rfl))
  have hag3 := hag3.moved (hm102.castL (by kernel_rfl))
  refine sim_place (.v (.slice (some ⟨gx, ox, none⟩) tr.length ct1)) tr.length 1 0 2 0 (by kernel_rfl) (by omega) (by omega) rfl (by simp only [Nm.at_, hag3.at_ 2 (by omega), eF, Nat.add_zero]; rfl) ?_
  refine sim_run 1 [] (hR102.cast (by kernel_rfl)) (by kernel_rfl) trivial (fun ρ105 w105 hm105 hR105 => ?_)
  have hp := hp.moved (hm105.castL (by kernel_rfl))
  have hal := hal.moved (hm105.castL (by kernel_rfl))
  have hag := hag.moved (hm105.castL (by kernel_rfl))
  have hag3 := hag3.moved (hm105.castL (by kernel_rfl))
  
  refine sim_call 12 [.ptr 0 0, LI x0] (by kernel_rfl) ?_
  have ezP := (hag3.at_ 0 (by omega)).trans e0
  simp only [denL, LV.den, Nm.at_, ezP, Nat.add_zero]
  have hR9 := (by assumption : Rel _ _ _ _ _)
  refine Calls.mono (ahead_any q u ls x0 _ hp.g.is hGI) ?_
  rintro e w9 ⟨A9, c9, rfl, ho9, hb9⟩
  have hla := ints_nats (Own.above hR9 ho9 (Nat.le_refl _))
  have hR10 := hR9.below hb9
  have hp := hp.below hb9
  have hal := hal.below hb9
  refine Back.of (.v (.slice A9 (aheadOf u ls x0).length c9)) hR10 rfl ?_
  by_cases h0 : (aheadOf u ls x0).length = 0
  · refine sim_run 7 [] (hR10.cast (by kernel_rfl)) (by kernel_rfl) trivial (fun ρ200 w200 hm200 hR200 => ?_)
    have hag := hag.moved (hm200.castL (by kernel_rfl))
    have hag3 := hag3.moved (hm200.castL (by kernel_rfl))
    have hla := hla.moved (hm200.castL (by kernel_rfl))
    have hp := hp.moved (hm200.castL (by kernel_rfl))
    have hal := hal.moved (hm200.castL (by kernel_rfl))
    refine sim_unroll 2 (by kernel_rfl) ?_
    refine sim_run 9 [] (hR200.cast (by kernel_rfl)) (by kernel_rfl) trivial (fun ρ201 w201 hm201 hR201 => ?_)
    have hag := hag.moved (hm201.castL (by kernel_rfl))
    have hag3 := hag3.moved (hm201.castL (by kernel_rfl))
    have hla := hla.moved (hm201.castL (by kernel_rfl))
    have hp := hp.moved (hm201.castL (by kernel_rfl))
    have hal := hal.moved (hm201.castL (by kernel_rfl))
    refine sim_know 226 (decide (0 < (↑(aheadOf u ls x0).length : Int))) false (by kernel_rfl) (decide_eq_false (by omega)) ?_
    refine sim_run 8 [⟨41, 1, LI (IntKind.i64.wrap ((↑i1 : Int) + 1)), LI ((↑i1 : Int) + 1)⟩] (hR201.cast (by kernel_rfl)) (by kernel_rfl) ⟨eqi (IntWalk.i64_in _ (by omega)), trivial⟩ (fun ρ202 w202 hm202 hR202 => ?_)
    have hag := hag.moved (hm202.castL (by kernel_rfl))
    have hag3 := hag3.moved (hm202.castL (by kernel_rfl))
    have hla := hla.moved (hm202.castL (by kernel_rfl))
    have hp := hp.moved (hm202.castL (by kernel_rfl))
    have hal := hal.moved (hm202.castL (by kernel_rfl))
    
    exact hfin _ _ _ (by kernel_rfl) (by kernel_rfl) (by kernel_rfl) hag (Rel.cast (by assumption) (by kernel_rfl)) (by kernel_rfl) (hp.castR (by kernel_rfl)) (hal.castR (by kernel_rfl))
  · obtain ⟨g9, rfl⟩ : ∃ g, A9 = some ⟨g, 0, none⟩ := own_first hla.own (by omega)
    refine sim_run 7 [] (hR10.cast (by kernel_rfl)) (by kernel_rfl) trivial (fun ρ300 w300 hm300 hR300 => ?_)
    have hag := hag.moved (hm300.castL (by kernel_rfl))
    have hag3 := hag3.moved (hm300.castL (by kernel_rfl))
    have hp := hp.moved (hm300.castL (by kernel_rfl))
    have hal := hal.moved (hm300.castL (by kernel_rfl))
    have hla := hla.moved (hm300.castL (by kernel_rfl))
    
    have hb0 := hag.ag
    have hRz := Rel.cut (rs := [gR q]) (by assumption : Rel _ _ _ _ _) (by kernel_rfl) (Agree.refl 1 _) (by kernel_rfl)
    refine sim_rs [gR q] ?_
    refine sim_loop (ι := Nat) (T := []) (w0 := w0) 0 [7, 10, 11, 12, 19, 20, 21] (fun k => [(22, LI k)]) (fun _ => [gR q]) (fun k w1 => k ≤ (aheadOf u ls x0).length ∧ PS q u ls cB cb cL cs tB tb (some ⟨ga, oa, none⟩) ts ρ300 [gR q] w1 ∧ Own ρ300 [gR q] w1 ab 3 1 (.slice (some ⟨gl, 0, none⟩) nl cl) nl (ints al) ∧ Own ρ300 [gR q] w1 w105.heap.size 3 1 (.slice (some ⟨g9, 0, none⟩) (aheadOf u ls x0).length c9) (aheadOf u ls x0).length (ints ((aheadOf u ls x0).map Int.ofNat))) (fun k => (aheadOf u ls x0).length - k) (by kernel_rfl) (by kernel_rfl) hRz ⟨Nat.zero_le _, hp.cut ⟨Agree.refl 1 _, Nat.le_of_ble_eq_true (by kernel_rfl)⟩ rfl (by kernel_rfl), hal.cut ⟨Agree.refl 1 _, Nat.le_of_ble_eq_true (by kernel_rfl)⟩ rfl (by kernel_rfl), hla.cut ⟨Agree.refl 1 _, Nat.le_of_ble_eq_true (by kernel_rfl)⟩ rfl (by kernel_rfl)⟩ ?_
    iterate 8 (try clear hp)
    iterate 8 (try clear hal)
    iterate 8 (try clear hla)
    iterate 8 (try clear hag)
    rintro k d2 w2 hR2 ⟨hk, hp, hal, hla⟩
    have hag := hR2.ag_ 1 (by kernel_rfl)
    by_cases hlt : k < (aheadOf u ls x0).length
    · obtain ⟨x, hx⟩ : ∃ x, (aheadOf u ls x0)[k]? = some x := ⟨_, List.getElem?_eq_getElem (by omega)⟩
      refine sim_run 8 [] (hR2.cast (by kernel_rfl)) (by kernel_rfl) trivial (fun ρ400 w400 hm400 hR400 => ?_)
      have hp := hp.moved (hm400.castL (by kernel_rfl))
      have hal := hal.moved (hm400.castL (by kernel_rfl))
      have hla := hla.moved (hm400.castL (by kernel_rfl))
      have hag := hag.moved (hm400.castL (by kernel_rfl))
      refine sim_know 226 (decide ((↑k : Int) < (↑(aheadOf u ls x0).length : Int))) true (by kernel_rfl) (decide_eq_true (by omega)) ?_
      refine sim_run 6 [] (hR400.cast (by kernel_rfl)) (by kernel_rfl) trivial (fun ρ401 w401 hm401 hR401 => ?_)
      have hp := hp.moved (hm401.castL (by kernel_rfl))
      have hal := hal.moved (hm401.castL (by kernel_rfl))
      have hla := hla.moved (hm401.castL (by kernel_rfl))
      have hag := hag.moved (hm401.castL (by kernel_rfl))
      
      refine sim_to (regK Try.f8 51) (tmplJ Try.f8.ntmps 0 [(7, .ptr 0 0), (10, .v (.slice cL cs.length cc)), (11, .v (.slice (some ⟨ga, oa, none⟩) ts.length tc)), (12, .v (.slice (some ⟨gl, 0, none⟩) nl cl)), (19, LI at1), (20, LI i1), (21, .v (.slice (some ⟨g9, 0, none⟩) (aheadOf u ls x0).length c9)), (22, LI (k : Int))]) [gR q] (by kernel_rfl) (by kernel_rfl) (by kernel_rfl) (fun d3 => ?_)
      refine parts_aj (w0 := w0) (hR401.cast (by kernel_rfl)) (hp.castR (by kernel_rfl)) (hal.castR (by kernel_rfl)) (hla.castR (by kernel_rfl)) hx (hap x (List.mem_of_getElem? hx)) hnl hlt (by omega) hall d3 (fun c' ρ' w' q1 q2 q3 q4 q5 q6 q7 q8 q9 => ?_)
      have hagN : Ag 1 ρ300 ρ' c'.rs := ⟨hag.ag.tr q4.ag, q4.le⟩
      exact sim_again (k + 1) q1 (by show (aheadOf u ls x0).length - (k + 1) < (aheadOf u ls x0).length - k; omega) ((congrArg (mergeT · c'.tmps) (by kernel_rfl)).trans q2) ((congrArg List.length (by kernel_rfl)).trans q3) (by kernel_rfl) hagN.ag q5 q6 (by kernel_rfl) ⟨hlt, q7.cut hagN rfl q6, q8.cut hagN rfl q6, q9.cut hagN rfl q6⟩
    · refine sim_run 8 [] (hR2.cast (by kernel_rfl)) (by kernel_rfl) trivial (fun ρ500 w500 hm500 hR500 => ?_)
      have hp := hp.moved (hm500.castL (by kernel_rfl))
      have hal := hal.moved (hm500.castL (by kernel_rfl))
      have hla := hla.moved (hm500.castL (by kernel_rfl))
      have hag := hag.moved (hm500.castL (by kernel_rfl))
      refine sim_know 226 (decide ((↑k : Int) < (↑(aheadOf u ls x0).length : Int))) false (by kernel_rfl) (decide_eq_false (by omega)) ?_
      refine sim_run 1 [] (hR500.cast (by kernel_rfl)) (by kernel_rfl) trivial (fun ρ501 w501 hm501 hR501 => ?_)
      have hp := hp.moved (hm501.castL (by kernel_rfl))
      have hal := hal.moved (hm501.castL (by kernel_rfl))
      have hla := hla.moved (hm501.castL (by kernel_rfl))
      have hag := hag.moved (hm501.castL (by kernel_rfl))
      refine sim_leave (by kernel_rfl) ?_
      refine sim_run 6 [⟨41, 1, LI (IntKind.i64.wrap ((↑i1 : Int) + 1)), LI ((↑i1 : Int) + 1)⟩] (hR501.cast (by kernel_rfl)) (by kernel_rfl) ⟨eqi (IntWalk.i64_in _ (by omega)), trivial⟩ (fun ρ502 w502 hm502 hR502 => ?_)
      have hp := hp.moved (hm502.castL (by kernel_rfl))
      have hal := hal.moved (hm502.castL (by kernel_rfl))
      have hla := hla.moved (hm502.castL (by kernel_rfl))
      have hag := hag.moved (hm502.castL (by kernel_rfl))
      
      have hagN : Ag 1 ρ _ _ := ⟨hb0.tr hag.ag, hag.le⟩
      exact hfin _ _ _ (by kernel_rfl) (by kernel_rfl) (by kernel_rfl) hagN (Rel.cast (by assumption) (by kernel_rfl)) (by kernel_rfl) (hp.castR (by kernel_rfl)) (hal.castR (by kernel_rfl))
end

section
open Go Go.RowKit
section
variable {α : Type} {cs ts : List α} {p : α → Bool} {i a : Nat} {t c : α}
theorem drop_get (h : ts[i]? = some t) : ts.drop i = t :: ts.drop (i + 1) := by
  obtain ⟨h1, h2⟩ := List.getElem?_eq_some_iff.1 h
  rw [List.drop_eq_getElem_cons h1, h2]
theorem scan_lt (h : ts.drop i = (cs.drop a).filter p) (ht : ts[i]? = some t) : a < cs.length := by
  rcases Nat.lt_or_ge a cs.length with h1 | h1
  · exact h1
  · rw [List.drop_eq_nil_of_le h1, drop_get ht] at h
    cases h
theorem scan_eq (h : ts.drop i = (cs.drop a).filter p) (ht : ts[i]? = some t) (hc : cs[a]? = some t) (hp : p t = true) : ts.drop (i + 1) = (cs.drop (a + 1)).filter p := by
  rw [drop_get ht, drop_get hc, List.filter_cons, if_pos hp] at h
  injection h
theorem scan_ne (h : ts.drop i = (cs.drop a).filter p) (ht : ts[i]? = some t) (hc : cs[a]? = some c) (hne : c ≠ t) : ts.drop i = (cs.drop (a + 1)).filter p := by
  rw [drop_get hc, List.filter_cons] at h
  by_cases hp : p c = true
  · rw [if_pos hp, drop_get ht] at h
    injection h with h1
    exact absurd h1.symm hne
  · rw [if_neg hp] at h
    exact h
end
theorem same_b {A A' : Option Addr} {n n' B B' : Nat} {xs ys : List Int} {w : World} (h : Reads w B 1 A n (ints xs)) (h' : Reads w B' 1 A' n' (ints ys)) (hn : n ≤ 1000000000000) {b : Bool} (hb : decide (xs = ys) = b) (c c' : Nat) : Calls Try.prog 18 #[.slice A n c, .slice A' n' c'] w fun e w' => e = .returned (.bool b) ∧ Below w.heap.size w w' := by
  subst hb
  exact (sameInts_any A A' n c n' c' B B' xs ys w h h' hn).mono fun e w' ⟨he, m, hm⟩ => ⟨he, hm ▸ below_drewN0 w m⟩
attribute [local irreducible] run goO leaveK someK nextK nextT nextOT nextOD loopBody loopRest loopK fillJ tmplOf tmplJ mergeT At AtO drawOk ordOf gateOf callC callO topOp topO idxOf appOf storeOf clearOf sliceOf calleeOf calleeO topQ idxQ newRowOf resL stepOp seek
set_option maxRecDepth 100000 in
set_option maxHeartbeats 4000000 in
theorem parts_38 {R : Ending → World → Prop} {w0 w : World} {ρ : Nm} {q : GrP} {u : List Nat} {ls : List Lk} {l : List In} {cB cb : Nat} {cL : Option Addr} {tB tb : Nat} {tL : Option Addr} {cc tc nl cl gl ab : Nat} {al : List Int} (hR : Rel [] w0 ρ [gR q] w) (hp : PS q u ls cB cb cL (clsM u l) tB tb tL (topsM u ls l) ρ [gR q] w) (hal : Own ρ [gR q] w ab 3 1 (.slice (some ⟨gl, 0, none⟩) nl cl) nl (ints al)) (hGI : GInv u ls) (e0 : ρ 0 = (q.b, 0)) (hmem : ∀ z, z ∈ al → z ∈ (clsM u l).flatten) (hl : l.length ≤ 30) (hnl : nl ≤ 30) (hall : al.length = nl) (d : Nat → Value)
    (hfin : ∀ (ρ' : Nm) (w' : World) (d' : Nat → Value), Rel [] w0 ρ' [] w' → At Try.prog (bodyPost Try.prog Try.f8 R) ⟨regK Try.f8 56, fillJ (tmplJ Try.f8.ntmps 0 [(10, .v (.slice cL (clsM u l).length cc)), (11, .v (.slice tL (topsM u ls l).length tc))]) d' 0, []⟩ ρ' w') :
    At Try.prog (bodyPost Try.prog Try.f8 R) ⟨regK Try.f8 38, fillJ (tmplJ Try.f8.ntmps 0 [(7, .ptr 0 0), (10, .v (.slice cL (clsM u l).length cc)), (11, .v (.slice tL (topsM u ls l).length tc)), (12, .v (.slice (some ⟨gl, 0, none⟩) nl cl))]) d 0, [gR q]⟩ ρ w := by
  have hcl := clsM_le u l
  have htl : (topsM u ls l).length ≤ (clsM u l).length := List.length_filter_le _ _
  have hag := hR.ag_ 1 (by kernel_rfl)
  refine sim_run 8 [] (hR.cast (by kernel_rfl)) (by kernel_rfl) trivial (fun ρ100 w100 hm100 hR100 => ?_)
  have hp := hp.moved (hm100.castL (by kernel_rfl))
  have hal := hal.moved (hm100.castL (by kernel_rfl))
  have hag := hag.moved (hm100.castL (by kernel_rfl))
  
  have e0 := (hag.at_ 0 (by omega)).trans e0
  refine sim_loop (ι := Nat × Nat) (T := []) (w0 := w0) (0, 0) [7, 10, 11, 12] (fun s => [(19, LI s.2), (20, LI s.1)]) (fun _ => [gR q]) (fun s w1 => s.1 ≤ (topsM u ls l).length ∧ s.2 ≤ (clsM u l).length ∧ (topsM u ls l).drop s.1 = ((clsM u l).drop s.2).filter (topB u ls (firstM l)) ∧ PS q u ls cB cb cL (clsM u l) tB tb tL (topsM u ls l) ρ100 [gR q] w1 ∧ Own ρ100 [gR q] w1 ab 3 1 (.slice (some ⟨gl, 0, none⟩) nl cl) nl (ints al)) (fun s => (topsM u ls l).length - s.1) (by kernel_rfl) (by kernel_rfl) ((by assumption : Rel _ _ _ _ _).cast (by kernel_rfl)) ⟨Nat.zero_le _, Nat.zero_le _, rfl, hp.castR (by kernel_rfl), hal.castR (by kernel_rfl)⟩ ?_
  iterate 8 (try clear hp)
  iterate 8 (try clear hal)
  iterate 8 (try clear hag)
  rintro ⟨i, a⟩ d2 w2 hR2 ⟨hi, ha, hsc, hp, hal⟩
  dsimp only at hi ha hsc hp hal
  have hag := hR2.ag_ 1 (by kernel_rfl)
  by_cases hlt : i < (topsM u ls l).length
  · obtain ⟨tr, htr⟩ : ∃ t, (topsM u ls l)[i]? = some t := ⟨_, List.getElem?_eq_getElem hlt⟩
    have htm := List.mem_of_getElem? htr
    refine sim_run 8 [] (hR2.cast (by kernel_rfl)) (by kernel_rfl) trivial (fun ρ200 w200 hm200 hR200 => ?_)
    have hp := hp.moved (hm200.castL (by kernel_rfl))
    have hal := hal.moved (hm200.castL (by kernel_rfl))
    have hag := hag.moved (hm200.castL (by kernel_rfl))
    refine sim_know 188 (decide ((↑(i, a).fst : Int) < (↑(topsM u ls l).length : Int))) true (by kernel_rfl) (decide_eq_true (by omega)) ?_
    refine sim_run 6 [] (hR200.cast (by kernel_rfl)) (by kernel_rfl) trivial (fun ρ201 w201 hm201 hR201 => ?_)
    have hp := hp.moved (hm201.castL (by kernel_rfl))
    have hal := hal.moved (hm201.castL (by kernel_rfl))
    have hag := hag.moved (hm201.castL (by kernel_rfl))
    
    refine sim_loop (ι := Nat) (T := []) (w0 := w0) a [7, 10, 11, 12, 20] (fun a => [(19, LI a)]) (fun _ => [gR q]) (fun a w1 => a ≤ (clsM u l).length ∧ (topsM u ls l).drop i = ((clsM u l).drop a).filter (topB u ls (firstM l)) ∧ PS q u ls cB cb cL (clsM u l) tB tb tL (topsM u ls l) ρ201 [gR q] w1 ∧ Own ρ201 [gR q] w1 ab 3 1 (.slice (some ⟨gl, 0, none⟩) nl cl) nl (ints al)) (fun a => (clsM u l).length - a) (by kernel_rfl) (by kernel_rfl) ((by assumption : Rel _ _ _ _ _).cast (by kernel_rfl)) ⟨ha, hsc, hp.castR (by kernel_rfl), hal.castR (by kernel_rfl)⟩ ?_
    have hb2 := hag.ag
    iterate 8 (try clear hp)
    iterate 8 (try clear hal)
    iterate 8 (try clear hag)
    clear hsc ha
    rintro a2 d3 w3 hR3 ⟨ha, hsc, hp, hal⟩
    have hag := hR3.ag_ 1 (by kernel_rfl)
    have halt := scan_lt hsc htr
    obtain ⟨c0, hc0⟩ : ∃ c, (clsM u l)[a2]? = some c := ⟨_, List.getElem?_eq_getElem halt⟩
    refine sim_seeRowZ a2 1 (by kernel_rfl) hc0 hp.c hR3 (by kernel_rfl) (fun gc oc Ac1 cc1 ρE eA hgb hrd hcc hAt hmE eE hRE => ?_)
    subst eA
    have hp := hp.moved hmE
    have hal := hal.moved hmE
    have hag := hag.moved hmE
    have hrd := hrd.moved hmE
    refine sim_seeRowZ i 2 (by kernel_rfl) htr hp.t hRE (by kernel_rfl) (fun gt ot At1 ct1 ρF eA hgb2 hrd2 hcc2 hAt2 hmF eF hRF => ?_)
    subst eA
    have hp := hp.moved hmF
    have hal := hal.moved hmF
    have hag := hag.moved hmF
    have hrd := hrd.moved hmF
    have hrd2 := hrd2.moved hmF
    have eE := (hmF.at_ 1 (by kernel_rfl)).trans eE
    have hag3 := hRF.ag_ 3 (by kernel_rfl)
    have hc0l : c0.length ≤ 1000000000000 := by
      have h1 : c0.length ≤ (clsM u l).flatten.length := (List.sublist_flatten_of_mem (List.mem_of_getElem? hc0)).length_le
      have h2 := cls_len (u := u) (l := l)
      omega
    cases hsm : decide (c0 = tr) with
    | true =>
      refine sim_run 2 [] (hRF.cast (by kernel_rfl)) (by kernel_rfl) trivial (fun ρ300 w300 hm300 hR300 => ?_)
      have hp := hp.moved (hm300.castL (by kernel_rfl))
      have hal := hal.moved (hm300.castL (by kernel_rfl))
      have hag := hag.moved (hm300.castL (by kernel_rfl))
      have hrd := hrd.moved (hm300.castL (by kernel_rfl))
      have hrd2 := hrd2.moved (hm300.castL (by kernel_rfl))
      have hag3 := hag3.moved (hm300.castL (by kernel_rfl))
      refine sim_draw [] (by kernel_rfl) (by kernel_rfl) hR300 (fun hR301 => ?_)
      have hp := hp.drew
      have hal := hal.drew
      have hrd := hrd.drew
      have hrd2 := hrd2.drew
      refine sim_ordN 5 [] hR301 (by kernel_rfl) trivial (fun ρ302 w302 hm302 hR302 => ?_)
      have hag := hag.moved (hm302.castL (by kernel_rfl))
      have hag3 := hag3.moved (hm302.castL (by kernel_rfl))
      have hp := hp.moved (hm302.castL (by kernel_rfl))
      have hal := hal.moved (hm302.castL (by kernel_rfl))
      have hrd := hrd.moved (hm302.castL (by kernel_rfl))
      have hrd2 := hrd2.moved (hm302.castL (by kernel_rfl))
      refine sim_knowO hR302 195 (decide ((↑a2 : Int) < (↑(clsM u l).length : Int))) true (by kernel_rfl) (decide_eq_true (by omega)) (fun hR303 => ?_)
      refine sim_ordN 2 [] hR303 (by kernel_rfl) trivial (fun ρ304 w304 hm304 hR304 => ?_)
      have hag := hag.moved (hm304.castL (by kernel_rfl))
      have hag3 := hag3.moved (hm304.castL (by kernel_rfl))
      have hp := hp.moved (hm304.castL (by kernel_rfl))
      have hal := hal.moved (hm304.castL (by kernel_rfl))
      have hrd := hrd.moved (hm304.castL (by kernel_rfl))
      have hrd2 := hrd2.moved (hm304.castL (by kernel_rfl))
      refine sim_ord_index (.v (.slice (some ⟨gc, oc, none⟩) (clsM u l).length cc)) (clsM u l).length 1 (a2 : Int) 1 0 (by kernel_rfl) (by omega) (by omega) rfl hR304 (by simp only [Nm.at_, hag3.at_ 1 (by omega), eE, Nat.add_zero, Int.toNat_natCast, Nat.mul_one]) (fun hR305 => ?_)
      refine sim_ordN 3 [] hR305 (by kernel_rfl) trivial (fun ρ306 w306 hm306 hR306 => ?_)
      have hag := hag.moved (hm306.castL (by kernel_rfl))
      have hag3 := hag3.moved (hm306.castL (by kernel_rfl))
      have hp := hp.moved (hm306.castL (by kernel_rfl))
      have hal := hal.moved (hm306.castL (by kernel_rfl))
      have hrd := hrd.moved (hm306.castL (by kernel_rfl))
      have hrd2 := hrd2.moved (hm306.castL (by kernel_rfl))
      refine sim_ord_index (.v (.slice (some ⟨gt, ot, none⟩) (topsM u ls l).length tc)) (topsM u ls l).length 1 (i : Int) 2 0 (by kernel_rfl) (by omega) (by omega) rfl hR306 (by simp only [Nm.at_, hag3.at_ 2 (by omega), eF, Nat.add_zero, Int.toNat_natCast, Nat.mul_one]) (fun hR307 => ?_)
      refine sim_ordN 1 [] hR307 (by kernel_rfl) trivial (fun ρ308 w308 hm308 hR308 => ?_)
      have hag := hag.moved (hm308.castL (by kernel_rfl))
      have hag3 := hag3.moved (hm308.castL (by kernel_rfl))
      have hp := hp.moved (hm308.castL (by kernel_rfl))
      have hal := hal.moved (hm308.castL (by kernel_rfl))
      have hrd := hrd.moved (hm308.castL (by kernel_rfl))
      have hrd2 := hrd2.moved (hm308.castL (by kernel_rfl))
      refine sim_ord_call (T := []) (w0 := w0) 18 [.v (Value.slice Ac1 c0.length cc1), .v (Value.slice At1 tr.length ct1)] (by kernel_rfl) ?_
      refine Calls.mono (same_b (hrd.is) (hrd2.is) (hc0l) (hsm) _ _) ?_
      rintro e309 w309 ⟨rfl, hb309⟩
      have hR309 := hR308.call hb309 (LB true)
      have hp := hp.below hb309
      have hal := hal.below hb309
      have hrd := hrd.below hb309
      have hrd2 := hrd2.below hb309
      refine BackO.of (LB true) hR309 rfl ?_
      refine sim_ordN 2 [] hR309 (by kernel_rfl) trivial (fun ρ310 w310 hm310 hR310 => ?_)
      have hag := hag.moved (hm310.castL (by kernel_rfl))
      have hag3 := hag3.moved (hm310.castL (by kernel_rfl))
      have hp := hp.moved (hm310.castL (by kernel_rfl))
      have hal := hal.moved (hm310.castL (by kernel_rfl))
      have hrd := hrd.moved (hm310.castL (by kernel_rfl))
      have hrd2 := hrd2.moved (hm310.castL (by kernel_rfl))
      refine sim_ord_endR hR310 (by kernel_rfl) (fun hR311 => ?_)
      refine sim_run 1 [] (hR311.cast (by kernel_rfl)) (by kernel_rfl) trivial (fun ρ312 w312 hm312 hR312 => ?_)
      have hag := hag.moved (hm312.castL (by kernel_rfl))
      have hag3 := hag3.moved (hm312.castL (by kernel_rfl))
      have hp := hp.moved (hm312.castL (by kernel_rfl))
      have hal := hal.moved (hm312.castL (by kernel_rfl))
      have hrd := hrd.moved (hm312.castL (by kernel_rfl))
      have hrd2 := hrd2.moved (hm312.castL (by kernel_rfl))
      refine sim_leave (by kernel_rfl) ?_
      refine sim_run 8 [] (hR312.cast (by kernel_rfl)) (by kernel_rfl) trivial (fun ρ313 w313 hm313 hR313 => ?_)
      have hag := hag.moved (hm313.castL (by kernel_rfl))
      have hag3 := hag3.moved (hm313.castL (by kernel_rfl))
      have hp := hp.moved (hm313.castL (by kernel_rfl))
      have hal := hal.moved (hm313.castL (by kernel_rfl))
      have hrd := hrd.moved (hm313.castL (by kernel_rfl))
      have hrd2 := hrd2.moved (hm313.castL (by kernel_rfl))
      refine sim_know 212 ((↑a2 : Int) == (↑(clsM u l).length : Int)) false (by kernel_rfl) (decide_eq_false (by omega)) ?_
      refine sim_run 10 [⟨46, 1, LI (IntKind.i64.wrap ((↑a2 : Int) + 1)), LI ((↑a2 : Int) + 1)⟩] (hR313.cast (by kernel_rfl)) (by kernel_rfl) ⟨eqi (IntWalk.i64_in _ (by omega)), trivial⟩ (fun ρ314 w314 hm314 hR314 => ?_)
      have hag := hag.moved (hm314.castL (by kernel_rfl))
      have hag3 := hag3.moved (hm314.castL (by kernel_rfl))
      have hp := hp.moved (hm314.castL (by kernel_rfl))
      have hal := hal.moved (hm314.castL (by kernel_rfl))
      have hrd := hrd.moved (hm314.castL (by kernel_rfl))
      have hrd2 := hrd2.moved (hm314.castL (by kernel_rfl))
      
      obtain ⟨x0, hx0⟩ : ∃ x, tr[0]? = some x := ⟨_, List.getElem?_eq_getElem (List.length_pos_iff.2 (cls_self (tops_sub htm)))⟩
      have hhd : tr.headD 0 = x0 := by
        cases tr with
        | nil => cases hx0
        | cons y r => injection hx0
      have hct : c0 = tr := of_decide_eq_true hsm
      have hbN := hb2.tr hag.ag
      refine sim_to (regK Try.f8 47) (tmplJ Try.f8.ntmps 0 [(7, .ptr 0 0), (10, .v (.slice (some ⟨gc, oc, none⟩) (clsM u l).length cc)), (11, .v (.slice (some ⟨gt, ot, none⟩) (topsM u ls l).length tc)), (12, .v (.slice (some ⟨gl, 0, none⟩) nl cl)), (19, LI ((a2 + 1 : Nat) : Int)), (20, LI (i : Int))]) [gR q] (by kernel_rfl) (by kernel_rfl) (by kernel_rfl) (fun d6 => ?_)
      refine parts_a (w0 := w0) (at1 := a2 + 1) (i1 := i) (Rel.cut (rs := [gR q]) (by assumption : Rel _ _ _ _ _) (by kernel_rfl) (Agree.refl 1 _) (by kernel_rfl)) (hp.cut ⟨Agree.refl 1 _, Nat.le_of_ble_eq_true (by kernel_rfl)⟩ rfl (by kernel_rfl)) (hal.cut ⟨Agree.refl 1 _, Nat.le_of_ble_eq_true (by kernel_rfl)⟩ rfl (by kernel_rfl)) hGI ((hbN 0 (by omega)).trans e0) htr hx0 (fun x hx hm => tops_apart htm (by rw [hhd]; exact hx) (hmem _ hm)) (by omega) (by omega) hall d6 (fun c' ρ' w' q1 q2 q3 q4 q5 q6 q7 q8 => ?_)
      have hagN : Ag 1 ρ100 ρ' c'.rs := ⟨hbN.tr q4.ag, q4.le⟩
      exact sim_again (i + 1, a2 + 1) q1 (by show (topsM u ls l).length - (i + 1) < (topsM u ls l).length - i; omega) ((congrArg (mergeT · c'.tmps) (by kernel_rfl)).trans q2) ((congrArg List.length (by kernel_rfl)).trans q3) (by kernel_rfl) hagN.ag q5 q6 (by kernel_rfl) ⟨hlt, halt, scan_eq hsc htr (hct ▸ hc0) (List.mem_filter.1 htm).2, q7.cut hagN rfl q6, q8.cut hagN rfl q6⟩
    | false =>
      refine sim_run 2 [] (hRF.cast (by kernel_rfl)) (by kernel_rfl) trivial (fun ρ400 w400 hm400 hR400 => ?_)
      have hp := hp.moved (hm400.castL (by kernel_rfl))
      have hal := hal.moved (hm400.castL (by kernel_rfl))
      have hag := hag.moved (hm400.castL (by kernel_rfl))
      have hrd := hrd.moved (hm400.castL (by kernel_rfl))
      have hrd2 := hrd2.moved (hm400.castL (by kernel_rfl))
      have hag3 := hag3.moved (hm400.castL (by kernel_rfl))
      refine sim_draw [] (by kernel_rfl) (by kernel_rfl) hR400 (fun hR401 => ?_)
      have hp := hp.drew
      have hal := hal.drew
      have hrd := hrd.drew
      have hrd2 := hrd2.drew
      refine sim_ordN 5 [] hR401 (by kernel_rfl) trivial (fun ρ402 w402 hm402 hR402 => ?_)
      have hag := hag.moved (hm402.castL (by kernel_rfl))
      have hag3 := hag3.moved (hm402.castL (by kernel_rfl))
      have hp := hp.moved (hm402.castL (by kernel_rfl))
      have hal := hal.moved (hm402.castL (by kernel_rfl))
      have hrd := hrd.moved (hm402.castL (by kernel_rfl))
      have hrd2 := hrd2.moved (hm402.castL (by kernel_rfl))
      refine sim_knowO hR402 195 (decide ((↑a2 : Int) < (↑(clsM u l).length : Int))) true (by kernel_rfl) (decide_eq_true (by omega)) (fun hR403 => ?_)
      refine sim_ordN 2 [] hR403 (by kernel_rfl) trivial (fun ρ404 w404 hm404 hR404 => ?_)
      have hag := hag.moved (hm404.castL (by kernel_rfl))
      have hag3 := hag3.moved (hm404.castL (by kernel_rfl))
      have hp := hp.moved (hm404.castL (by kernel_rfl))
      have hal := hal.moved (hm404.castL (by kernel_rfl))
      have hrd := hrd.moved (hm404.castL (by kernel_rfl))
      have hrd2 := hrd2.moved (hm404.castL (by kernel_rfl))
      refine sim_ord_index (.v (.slice (some ⟨gc, oc, none⟩) (clsM u l).length cc)) (clsM u l).length 1 (a2 : Int) 1 0 (by kernel_rfl) (by omega) (by omega) rfl hR404 (by simp only [Nm.at_, hag3.at_ 1 (by omega), eE, Nat.add_zero, Int.toNat_natCast, Nat.mul_one]) (fun hR405 => ?_)
      refine sim_ordN 3 [] hR405 (by kernel_rfl) trivial (fun ρ406 w406 hm406 hR406 => ?_)
      have hag := hag.moved (hm406.castL (by kernel_rfl))
      have hag3 := hag3.moved (hm406.castL (by kernel_rfl))
      have hp := hp.moved (hm406.castL (by kernel_rfl))
      have hal := hal.moved (hm406.castL (by kernel_rfl))
      have hrd := hrd.moved (hm406.castL (by kernel_rfl))
      have hrd2 := hrd2.moved (hm406.castL (by kernel_rfl))
      refine sim_ord_index (.v (.slice (some ⟨gt, ot, none⟩) (topsM u ls l).length tc)) (topsM u ls l).length 1 (i : Int) 2 0 (by kernel_rfl) (by omega) (by omega) rfl hR406 (by simp only [Nm.at_, hag3.at_ 2 (by omega), eF, Nat.add_zero, Int.toNat_natCast, Nat.mul_one]) (fun hR407 => ?_)
      refine sim_ordN 1 [] hR407 (by kernel_rfl) trivial (fun ρ408 w408 hm408 hR408 => ?_)
      have hag := hag.moved (hm408.castL (by kernel_rfl))
      have hag3 := hag3.moved (hm408.castL (by kernel_rfl))
      have hp := hp.moved (hm408.castL (by kernel_rfl))
      have hal := hal.moved (hm408.castL (by kernel_rfl))
      have hrd := hrd.moved (hm408.castL (by kernel_rfl))
      have hrd2 := hrd2.moved (hm408.castL (by kernel_rfl))
      refine sim_ord_call (T := []) (w0 := w0) 18 [.v (Value.slice Ac1 c0.length cc1), .v (Value.slice At1 tr.length ct1)] (by kernel_rfl) ?_
      refine Calls.mono (same_b (hrd.is) (hrd2.is) (hc0l) (hsm) _ _) ?_
      rintro e409 w409 ⟨rfl, hb409⟩
      have hR409 := hR408.call hb409 (LB false)
      have hp := hp.below hb409
      have hal := hal.below hb409
      have hrd := hrd.below hb409
      have hrd2 := hrd2.below hb409
      refine BackO.of (LB false) hR409 rfl ?_
      refine sim_ordN 2 [] hR409 (by kernel_rfl) trivial (fun ρ410 w410 hm410 hR410 => ?_)
      have hag := hag.moved (hm410.castL (by kernel_rfl))
      have hag3 := hag3.moved (hm410.castL (by kernel_rfl))
      have hp := hp.moved (hm410.castL (by kernel_rfl))
      have hal := hal.moved (hm410.castL (by kernel_rfl))
      have hrd := hrd.moved (hm410.castL (by kernel_rfl))
      have hrd2 := hrd2.moved (hm410.castL (by kernel_rfl))
      refine sim_ord_endR hR410 (by kernel_rfl) (fun hR411 => ?_)
      refine sim_run 9 [⟨43, 1, LI (IntKind.i64.wrap ((↑a2 : Int) + 1)), LI ((↑a2 : Int) + 1)⟩] (hR411.cast (by kernel_rfl)) (by kernel_rfl) ⟨eqi (IntWalk.i64_in _ (by omega)), trivial⟩ (fun ρ412 w412 hm412 hR412 => ?_)
      have hag := hag.moved (hm412.castL (by kernel_rfl))
      have hag3 := hag3.moved (hm412.castL (by kernel_rfl))
      have hp := hp.moved (hm412.castL (by kernel_rfl))
      have hal := hal.moved (hm412.castL (by kernel_rfl))
      have hrd := hrd.moved (hm412.castL (by kernel_rfl))
      have hrd2 := hrd2.moved (hm412.castL (by kernel_rfl))
      
      exact sim_again (a2 + 1) (by kernel_rfl) (by show (clsM u l).length - (a2 + 1) < (clsM u l).length - a2; omega) (by kernel_rfl) (by kernel_rfl) (by kernel_rfl) hag.ag (Rel.cast (by assumption) (by kernel_rfl)) (by kernel_rfl) (by kernel_rfl) ⟨halt, scan_ne hsc htr hc0 (of_decide_eq_false hsm), hp.cut hag rfl (by kernel_rfl), hal.cut hag rfl (by kernel_rfl)⟩
  · refine sim_run 8 [] (hR2.cast (by kernel_rfl)) (by kernel_rfl) trivial (fun ρ500 w500 hm500 hR500 => ?_)
    have hp := hp.moved (hm500.castL (by kernel_rfl))
    have hal := hal.moved (hm500.castL (by kernel_rfl))
    have hag := hag.moved (hm500.castL (by kernel_rfl))
    refine sim_know 188 (decide ((↑(i, a).fst : Int) < (↑(topsM u ls l).length : Int))) false (by kernel_rfl) (decide_eq_false (by omega)) ?_
    refine sim_run 1 [] (hR500.cast (by kernel_rfl)) (by kernel_rfl) trivial (fun ρ501 w501 hm501 hR501 => ?_)
    have hp := hp.moved (hm501.castL (by kernel_rfl))
    have hal := hal.moved (hm501.castL (by kernel_rfl))
    have hag := hag.moved (hm501.castL (by kernel_rfl))
    refine sim_leave (by kernel_rfl) ?_
    refine sim_run 2 [] (hR501.cast (by kernel_rfl)) (by kernel_rfl) trivial (fun ρ502 w502 hm502 hR502 => ?_)
    have hp := hp.moved (hm502.castL (by kernel_rfl))
    have hal := hal.moved (hm502.castL (by kernel_rfl))
    have hag := hag.moved (hm502.castL (by kernel_rfl))
    
    refine sim_to (regK Try.f8 56) (tmplJ Try.f8.ntmps 0 [(10, .v (.slice cL (clsM u l).length cc)), (11, .v (.slice tL (topsM u ls l).length tc))]) [] (by kernel_rfl) (by kernel_rfl) (by kernel_rfl) (fun d6 => ?_)
    exact hfin _ _ d6 (by assumption : Rel _ _ _ _ _).none_
end

section
open Go Go.RowKit
def anyZ (x : Int) (l : List Int) : Bool := l.any fun z => z == x
theorem anyZ_snoc {x z : Int} {l : List Int} {k : Nat} (h : l[k]? = some z) : anyZ x (l.take (k + 1)) = (anyZ x (l.take k) || (z == x)) := by
  unfold anyZ
  rw [List.take_add_one, h, List.any_append]
  simp
theorem anyZ_mem {x : Int} {l : List Int} (h : x ∈ l) : anyZ x l = true := List.any_eq_true.2 ⟨x, h, by simp⟩
attribute [local irreducible] run goO leaveK someK nextK nextT nextOT nextOD loopBody loopRest loopK fillJ tmplOf tmplJ mergeT At AtO drawOk ordOf gateOf callC callO topOp topO idxOf appOf storeOf clearOf sliceOf calleeOf calleeO topQ idxQ newRowOf resL stepOp seek
set_option maxRecDepth 100000 in
set_option maxHeartbeats 4000000 in
theorem parts_28 {R : Ending → World → Prop} {w0 w : World} {ρ : Nm} {q : GrP} {u : List Nat} {ls : List Lk} {l : List In} {A : Option Addr} {n cp : Nat} {cB cb : Nat} {cL : Option Addr} {tB tb : Nat} {tL : Option Addr} {cc tc nl cl ab : Nat} {va : Value} {al : List Int} (hR : Rel [] w0 ρ [gR q] w) (hrd : Reads w0 w0.heap.size 21 A n (insts l)) (hp : PS q u ls cB cb cL (clsM u l) tB tb tL (topsM u ls l) ρ [gR q] w) (hal : Own ρ [gR q] w ab 3 1 va nl (ints al)) (hva : ∃ L, va = .slice L nl cl) (hGI : GInv u ls) (e0 : ρ 0 = (q.b, 0)) (hmem : ∀ z, z ∈ al ↔ z ∈ (clsM u l).flatten) (hl : l.length ≤ 30) (hnl : nl ≤ 30) (hall : al.length = nl) (d : Nat → Value)
    (hfin : ∀ (ρ' : Nm) (w' : World) (d' : Nat → Value), Rel [] w0 ρ' [] w' → At Try.prog (bodyPost Try.prog Try.f8 R) ⟨regK Try.f8 56, fillJ (tmplJ Try.f8.ntmps 0 [(10, .v (.slice cL (clsM u l).length cc)), (11, .v (.slice tL (topsM u ls l).length tc))]) d' 0, []⟩ ρ' w') :
    At Try.prog (bodyPost Try.prog Try.f8 R) ⟨regK Try.f8 28, fillJ (tmplJ Try.f8.ntmps 0 [(2, .v (.slice A n cp)), (7, .ptr 0 0), (10, .v (.slice cL (clsM u l).length cc)), (11, .v (.slice tL (topsM u ls l).length tc)), (12, .v va)]) d 0, [gR q]⟩ ρ w := by
  have hln := hrd.insts_len
  obtain ⟨L, rfl⟩ := hva
  by_cases hz : l = []
  · subst hz
    have hn0 : n = 0 := hln.symm
    subst hn0
    have hc0 : clsM u [] = [] := List.eq_nil_of_length_eq_zero (Nat.le_zero.1 (clsM_le u []))
    have ht0 : topsM u ls [] = [] := by unfold topsM; rw [hc0]; rfl
    rw [hc0, ht0] at hfin hp ⊢
    refine sim_run 3 [] (hR.cast (by kernel_rfl)) (by kernel_rfl) trivial (fun ρ100 w100 hm100 hR100 => ?_)
    have hal := hal.moved (hm100.castL (by kernel_rfl))
    have hp := hp.moved (hm100.castL (by kernel_rfl))
    refine sim_unroll 2 (by kernel_rfl) ?_
    refine sim_run 18 [] (hR100.cast (by kernel_rfl)) (by kernel_rfl) trivial (fun ρ101 w101 hm101 hR101 => ?_)
    have hal := hal.moved (hm101.castL (by kernel_rfl))
    have hp := hp.moved (hm101.castL (by kernel_rfl))
    
    refine sim_run 3 [] hR101 (by kernel_rfl) trivial (fun ρ200 w200 hm200 hR200 => ?_)
    have hal := hal.moved hm200
    have hp := hp.moved hm200
    refine sim_unroll 2 (by kernel_rfl) ?_
    refine sim_run 13 [] (hR200.cast (by kernel_rfl)) (by kernel_rfl) trivial (fun ρ201 w201 hm201 hR201 => ?_)
    have hal := hal.moved (hm201.castL (by kernel_rfl))
    have hp := hp.moved (hm201.castL (by kernel_rfl))
    
    refine sim_to (regK Try.f8 56) (tmplJ Try.f8.ntmps 0 [(10, .v (.slice cL ([] : List (List Int)).length cc)), (11, .v (.slice tL ([] : List (List Int)).length tc))]) [] (by kernel_rfl) (by kernel_rfl) (by kernel_rfl) (fun d6 => ?_)
    exact hfin _ _ d6 (by assumption : Rel _ _ _ _ _).none_
  · obtain ⟨x1, hx1⟩ := List.exists_mem_of_ne_nil _ hz
    have hnl0 : 0 < nl := by
      have := List.length_pos_of_mem ((hmem x1.id).2 (cls_mem.2 ⟨x1, hx1, rfl⟩))
      omega
    obtain ⟨gl, rfl⟩ : ∃ g, L = some ⟨g, 0, none⟩ := own_first hal.own hnl0
    have hag := hR.ag_ 1 (by kernel_rfl)
    refine sim_run 3 [] (hR.cast (by kernel_rfl)) (by kernel_rfl) trivial (fun ρ300 w300 hm300 hR300 => ?_)
    have hp := hp.moved (hm300.castL (by kernel_rfl))
    have hal := hal.moved (hm300.castL (by kernel_rfl))
    have hag := hag.moved (hm300.castL (by kernel_rfl))
    
    have e0 := (hag.at_ 0 (by omega)).trans e0
    refine sim_loop (ι := Nat) (T := []) (w0 := w0) 0 [2, 7, 10, 11, 12] (fun i => [(16, LI i)]) (fun _ => [gR q]) (fun i w1 => i ≤ n ∧ PS q u ls cB cb cL (clsM u l) tB tb tL (topsM u ls l) ρ300 [gR q] w1 ∧ Own ρ300 [gR q] w1 ab 3 1 (.slice (some ⟨gl, 0, none⟩) nl cl) nl (ints al)) (fun i => n - i) (by kernel_rfl) (by kernel_rfl) ((by assumption : Rel _ _ _ _ _).cast (by kernel_rfl)) ⟨Nat.zero_le _, hp.castR (by kernel_rfl), hal.castR (by kernel_rfl)⟩ ?_
    iterate 8 (try clear hp)
    iterate 8 (try clear hal)
    iterate 8 (try clear hag)
    rintro i d2 w2 hR2 ⟨hi, hp, hal⟩
    have hag := hR2.ag_ 1 (by kernel_rfl)
    by_cases hlt : i < n
    · obtain ⟨x, hx⟩ : ∃ x, l[i]? = some x := ⟨_, List.getElem?_eq_getElem (by omega)⟩
      have hxm : x.id ∈ al := (hmem _).2 (cls_mem.2 ⟨x, List.mem_of_getElem? hx, rfl⟩)
      refine sim_run 8 [] (hR2.cast (by kernel_rfl)) (by kernel_rfl) trivial (fun ρ400 w400 hm400 hR400 => ?_)
      have hp := hp.moved (hm400.castL (by kernel_rfl))
      have hal := hal.moved (hm400.castL (by kernel_rfl))
      have hag := hag.moved (hm400.castL (by kernel_rfl))
      refine sim_know 161 (decide ((↑i : Int) < (↑n : Int))) true (by kernel_rfl) (decide_eq_true (by omega)) ?_
      refine sim_run 14 [] (hR400.cast (by kernel_rfl)) (by kernel_rfl) trivial (fun ρ401 w401 hm401 hR401 => ?_)
      have hp := hp.moved (hm401.castL (by kernel_rfl))
      have hal := hal.moved (hm401.castL (by kernel_rfl))
      have hag := hag.moved (hm401.castL (by kernel_rfl))
      
      have hb2 := hag.ag
      refine sim_loop (ι := Nat × Bool) (T := []) (w0 := w0) (0, false) [2, 7, 10, 11, 12, 16] (fun s => [(17, LB s.2), (18, LI s.1)]) (fun _ => [gR q]) (fun s w1 => s.1 ≤ nl ∧ s.2 = anyZ x.id (al.take s.1) ∧ PS q u ls cB cb cL (clsM u l) tB tb tL (topsM u ls l) ρ401 [gR q] w1 ∧ Own ρ401 [gR q] w1 ab 3 1 (.slice (some ⟨gl, 0, none⟩) nl cl) nl (ints al)) (fun s => nl - s.1) (by kernel_rfl) (by kernel_rfl) ((by assumption : Rel _ _ _ _ _).cast (by kernel_rfl)) ⟨Nat.zero_le _, rfl, hp.castR (by kernel_rfl), hal.castR (by kernel_rfl)⟩ ?_
      iterate 8 (try clear hp)
      iterate 8 (try clear hal)
      iterate 8 (try clear hag)
      rintro ⟨k, b⟩ d3 w3 hR3 ⟨hk, hb, hp, hal⟩
      dsimp only at hk hb hp hal
      have hag := hR3.ag_ 1 (by kernel_rfl)
      by_cases hlt2 : k < nl
      · obtain ⟨z, hz2⟩ : ∃ z, al[k]? = some z := ⟨_, List.getElem?_eq_getElem (by omega)⟩
        have hsn := anyZ_snoc (x := x.id) hz2
        rw [← hb] at hsn
        refine sim_seeZ z k 1 (by kernel_rfl) hz2 hal hlt2 hR3 (by kernel_rfl) (fun ρE hmE eE hRE => ?_)
        have hp := hp.moved hmE
        have hal := hal.moved hmE
        have hag := hag.moved hmE
        refine sim_see x.cells i 2 (by kernel_rfl) (xss := l.map In.cells) (by rw [List.getElem?_map, hx]; rfl) (by rw [← List.flatMap_def]; exact hrd) (by intro z hz; obtain ⟨o, _, rfl⟩ := List.mem_map.1 hz; rfl) (by omega) hlt (Nat.le_refl _) (by simp) hRE (by kernel_rfl) (fun gb ob ρF eA hgT hgl2 hmF eF hRF => ?_)
        subst eA
        have hp := hp.moved hmF
        have hal := hal.moved hmF
        have hag := hag.moved hmF
        have eE := (hmF.at_ 1 (by kernel_rfl)).trans eE
        have hag3 := hRF.ag_ 3 (by kernel_rfl)
        cases b with
        | true =>
          rw [Bool.true_or] at hsn
          refine sim_run 8 [] (hRF.cast (by kernel_rfl)) (by kernel_rfl) trivial (fun ρ500 w500 hm500 hR500 => ?_)
          have hp := hp.moved (hm500.castL (by kernel_rfl))
          have hal := hal.moved (hm500.castL (by kernel_rfl))
          have hag := hag.moved (hm500.castL (by kernel_rfl))
          have hag3 := hag3.moved (hm500.castL (by kernel_rfl))
          refine sim_know 167 (decide ((↑(k, true).fst : Int) < (↑nl : Int))) true (by kernel_rfl) (decide_eq_true (by omega)) ?_
          refine sim_run 11 [⟨34, 1, LI (IntKind.i64.wrap ((↑(k, true).fst : Int) + 1)), LI ((↑(k, true).fst : Int) + 1)⟩] (hR500.cast (by kernel_rfl)) (by kernel_rfl) ⟨eqi (IntWalk.i64_in _ (by omega)), trivial⟩ (fun ρ501 w501 hm501 hR501 => ?_)
          have hp := hp.moved (hm501.castL (by kernel_rfl))
          have hal := hal.moved (hm501.castL (by kernel_rfl))
          have hag := hag.moved (hm501.castL (by kernel_rfl))
          have hag3 := hag3.moved (hm501.castL (by kernel_rfl))
          
          exact sim_again (k + 1, true) (by kernel_rfl) (by show nl - (k + 1) < nl - k; omega) (by kernel_rfl) (by kernel_rfl) (by kernel_rfl) hag.ag (Rel.cast (by assumption) (by kernel_rfl)) (by kernel_rfl) (by kernel_rfl) ⟨hlt2, hsn.symm, hp.cut hag rfl (by kernel_rfl), hal.cut hag rfl (by kernel_rfl)⟩
        | false =>
          rw [Bool.false_or] at hsn
          refine sim_run 8 [] (hRF.cast (by kernel_rfl)) (by kernel_rfl) trivial (fun ρ600 w600 hm600 hR600 => ?_)
          have hp := hp.moved (hm600.castL (by kernel_rfl))
          have hal := hal.moved (hm600.castL (by kernel_rfl))
          have hag := hag.moved (hm600.castL (by kernel_rfl))
          have hag3 := hag3.moved (hm600.castL (by kernel_rfl))
          refine sim_know 167 (decide ((↑(k, false).fst : Int) < (↑nl : Int))) true (by kernel_rfl) (decide_eq_true (by omega)) ?_
          refine sim_run 4 [] (hR600.cast (by kernel_rfl)) (by kernel_rfl) trivial (fun ρ601 w601 hm601 hR601 => ?_)
          have hp := hp.moved (hm601.castL (by kernel_rfl))
          have hal := hal.moved (hm601.castL (by kernel_rfl))
          have hag := hag.moved (hm601.castL (by kernel_rfl))
          have hag3 := hag3.moved (hm601.castL (by kernel_rfl))
          refine sim_draw [] (by kernel_rfl) (by kernel_rfl) hR601 (fun hR602 => ?_)
          have hp := hp.drew
          have hal := hal.drew
          refine sim_ordN 4 [] hR602 (by kernel_rfl) trivial (fun ρ603 w603 hm603 hR603 => ?_)
          have hag := hag.moved (hm603.castL (by kernel_rfl))
          have hag3 := hag3.moved (hm603.castL (by kernel_rfl))
          have hp := hp.moved (hm603.castL (by kernel_rfl))
          have hal := hal.moved (hm603.castL (by kernel_rfl))
          refine sim_ord_index (.v (.slice (some ⟨gl, 0, none⟩) nl cl)) nl 1 (k : Int) 1 0 (by kernel_rfl) (by omega) (by omega) rfl hR603 (by simp only [Nm.at_, hag3.at_ 1 (by omega), eE, Nat.add_zero, Nat.zero_add, Int.toNat_natCast, Nat.mul_one]) (fun hR604 => ?_)
          refine sim_ordN 3 [] hR604 (by kernel_rfl) trivial (fun ρ605 w605 hm605 hR605 => ?_)
          have hag := hag.moved (hm605.castL (by kernel_rfl))
          have hag3 := hag3.moved (hm605.castL (by kernel_rfl))
          have hp := hp.moved (hm605.castL (by kernel_rfl))
          have hal := hal.moved (hm605.castL (by kernel_rfl))
          refine sim_ord_index (.v (.slice (some ⟨gb, ob, none⟩) n cp)) n 21 (i : Int) 2 0 (by kernel_rfl) (by omega) (by omega) rfl hR605 (by simp only [Nm.at_, hag3.at_ 2 (by omega), eF, Nat.add_zero, Int.toNat_natCast]) (fun hR607 => ?_)
          refine sim_ordN 5 [] hR607 (by kernel_rfl) trivial (fun ρ608 w608 hm608 hR608 => ?_)
          have hag := hag.moved (hm608.castL (by kernel_rfl))
          have hag3 := hag3.moved (hm608.castL (by kernel_rfl))
          have hp := hp.moved (hm608.castL (by kernel_rfl))
          have hal := hal.moved (hm608.castL (by kernel_rfl))
          refine sim_ord_endR hR608 (by kernel_rfl) (fun hR609 => ?_)
          refine sim_run 6 [⟨34, 1, LI (IntKind.i64.wrap ((↑(k, false).fst : Int) + 1)), LI ((↑(k, false).fst : Int) + 1)⟩] (hR609.cast (by kernel_rfl)) (by kernel_rfl) ⟨eqi (IntWalk.i64_in _ (by omega)), trivial⟩ (fun ρ610 w610 hm610 hR610 => ?_)
          have hag := hag.moved (hm610.castL (by kernel_rfl))
          have hag3 := hag3.moved (hm610.castL (by kernel_rfl))
          have hp := hp.moved (hm610.castL (by kernel_rfl))
          have hal := hal.moved (hm610.castL (by kernel_rfl))
          
          exact sim_again (k + 1, z == x.id) (by kernel_rfl) (by show nl - (k + 1) < nl - k; omega) (by kernel_rfl) (by kernel_rfl) (by kernel_rfl) hag.ag (Rel.cast (by assumption) (by kernel_rfl)) (by kernel_rfl) (by kernel_rfl) ⟨hlt2, hsn.symm, hp.cut hag rfl (by kernel_rfl), hal.cut hag rfl (by kernel_rfl)⟩
      · have hbt : b = true := by rw [hb, List.take_of_length_le (by omega)]; exact anyZ_mem hxm
        subst hbt
        refine sim_run 8 [] (hR3.cast (by kernel_rfl)) (by kernel_rfl) trivial (fun ρ700 w700 hm700 hR700 => ?_)
        have hp := hp.moved (hm700.castL (by kernel_rfl))
        have hal := hal.moved (hm700.castL (by kernel_rfl))
        have hag := hag.moved (hm700.castL (by kernel_rfl))
        refine sim_know 167 (decide ((↑(k, true).fst : Int) < (↑nl : Int))) false (by kernel_rfl) (decide_eq_false (by omega)) ?_
        refine sim_run 1 [] (hR700.cast (by kernel_rfl)) (by kernel_rfl) trivial (fun ρ701 w701 hm701 hR701 => ?_)
        have hp := hp.moved (hm701.castL (by kernel_rfl))
        have hal := hal.moved (hm701.castL (by kernel_rfl))
        have hag := hag.moved (hm701.castL (by kernel_rfl))
        refine sim_leave (by kernel_rfl) ?_
        refine sim_run 13 [⟨30, 1, LI (IntKind.i64.wrap ((↑i : Int) + 1)), LI ((↑i : Int) + 1)⟩] (hR701.cast (by kernel_rfl)) (by kernel_rfl) ⟨eqi (IntWalk.i64_in _ (by omega)), trivial⟩ (fun ρ702 w702 hm702 hR702 => ?_)
        have hp := hp.moved (hm702.castL (by kernel_rfl))
        have hal := hal.moved (hm702.castL (by kernel_rfl))
        have hag := hag.moved (hm702.castL (by kernel_rfl))
        
        have hagN : Ag 1 ρ300 _ _ := ⟨hb2.tr hag.ag, hag.le⟩
        exact sim_again (i + 1) (by kernel_rfl) (by show n - (i + 1) < n - i; omega) (by kernel_rfl) (by kernel_rfl) (by kernel_rfl) hagN.ag (Rel.cast (by assumption) (by kernel_rfl)) (by kernel_rfl) (by kernel_rfl) ⟨hlt, hp.cut hagN rfl (by kernel_rfl), hal.cut hagN rfl (by kernel_rfl)⟩
    · refine sim_run 8 [] (hR2.cast (by kernel_rfl)) (by kernel_rfl) trivial (fun ρ800 w800 hm800 hR800 => ?_)
      have hp := hp.moved (hm800.castL (by kernel_rfl))
      have hal := hal.moved (hm800.castL (by kernel_rfl))
      have hag := hag.moved (hm800.castL (by kernel_rfl))
      refine sim_know 161 (decide ((↑i : Int) < (↑n : Int))) false (by kernel_rfl) (decide_eq_false (by omega)) ?_
      refine sim_run 1 [] (hR800.cast (by kernel_rfl)) (by kernel_rfl) trivial (fun ρ801 w801 hm801 hR801 => ?_)
      have hp := hp.moved (hm801.castL (by kernel_rfl))
      have hal := hal.moved (hm801.castL (by kernel_rfl))
      have hag := hag.moved (hm801.castL (by kernel_rfl))
      refine sim_leave (by kernel_rfl) ?_
      refine sim_run 2 [] (hR801.cast (by kernel_rfl)) (by kernel_rfl) trivial (fun ρ802 w802 hm802 hR802 => ?_)
      have hp := hp.moved (hm802.castL (by kernel_rfl))
      have hal := hal.moved (hm802.castL (by kernel_rfl))
      have hag := hag.moved (hm802.castL (by kernel_rfl))
      
      have e0 := (hag.at_ 0 (by omega)).trans e0
      refine sim_to (regK Try.f8 38) (tmplJ Try.f8.ntmps 0 [(7, .ptr 0 0), (10, .v (.slice cL (clsM u l).length cc)), (11, .v (.slice tL (topsM u ls l).length tc)), (12, .v (.slice (some ⟨gl, 0, none⟩) nl cl))]) [gR q] (by kernel_rfl) (by kernel_rfl) (by kernel_rfl) (fun d6 => ?_)
      exact parts_38 ((by assumption : Rel _ _ _ _ _).cast (by kernel_rfl)) (hp.castR (by kernel_rfl)) (hal.castR (by kernel_rfl)) hGI e0 (fun z hz => (hmem z).1 hz) hl hnl hall d6 hfin
end
end Go.Proofs.Ytnfgndapalkbcaa
