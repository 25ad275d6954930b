/-
  LinkNear: one number; the plain facts.
-/
import Derived.Test.YtnfgndapalkbcaaLinkNear4
namespace Go.Proofs.Ytnfgndapalkbcaa
open Go Go.RowKit
theorem ahead_mem {u : List Nat} {ls : List Lk} {i x : Nat} (hi : 1 ≤ i ∧ i ≤ u.length) : x ∈ aheadOf u ls (i : Int) ↔ (1 ≤ x ∧ x ≤ u.length) ∧ Uf.hd u x ∈ Uf.aheadM u ls (Uf.hd u i) := by
  unfold aheadOf
  rw [if_pos (nat_inU hi), mem_nums]
  rfl
theorem behind_mem {u : List Nat} {ls : List Lk} (hg : Uf.Good u) {i x : Nat} (hx : 1 ≤ x ∧ x ≤ u.length) (hi : 1 ≤ i ∧ i ≤ u.length) (h : Uf.hd u x ∈ Uf.aheadM u ls (Uf.hd u i)) : i ∈ behindOf u ls (x : Int) := by
  unfold behindOf
  rw [if_pos (nat_inU hx), mem_nums]
  refine ⟨hi, ?_⟩
  unfold behindM
  rw [List.mem_filter, List.contains_iff_mem]
  exact ⟨hd_heads hg hi.1 hi.2, h⟩
theorem near_ne {u : List Nat} {ls : List Lk} (hGI : GInv u ls) {i x : Nat} (hi : 1 ≤ i ∧ i ≤ u.length) (hx : 1 ≤ x ∧ x ≤ u.length) (h : Uf.hd u x ∈ Uf.aheadM u ls (Uf.hd u i)) : sameI u [(i : Int), (x : Int)] = false := by
  have := Uf.full_ne hGI.full (hd_heads hGI.good hi.1 hi.2) h
  unfold sameI
  refine List.all_eq_false.2 ⟨(x : Int), by simp, ?_⟩
  rw [List.headD_cons, headI_nat hx, headI_nat hi]
  simp
  intro _ hc
  exact this (by omega)
attribute [local irreducible] run goO leaveK someK nextK nextT nextOT nextOD loopBody loopRest loopK fillJ tmplOf tmplJ mergeT At AtO drawOk ordOf gateOf callC callO topOp topO idxOf appOf storeOf clearOf sliceOf calleeOf calleeO topQ idxQ newRowOf resL stepOp seek
set_option maxRecDepth 100000 in
set_option maxHeartbeats 4000000 in
theorem near_round {Q : Exit → Act → World → Prop} {R : Ending → World → Prop} [hB : Body Try.prog Q Try.f3 R] {ρ : Nm} {w0 w : World} {q : GrP} {u : List Nat} {ls : List Lk} {i N : Nat} (hR : Rel [] w0 ρ [gR q] w) (hs : Sta q.has (GrV q u ls) ρ [gR q] w) (hGI : GInv u ls) (e0 : ρ 0 = (q.b, 0)) (hiu : 1 ≤ i ∧ i ≤ u.length) (d : Nat → Value)
    (hfin : ∀ (c' : Cfg) (ρ' : Nm) (w' : World), c'.k = [] → mergeT (tmplJ Try.f3.ntmps 0 [(0, LI (N : Int)), (5, .ptr 0 0), (8, LI ((i : Int) + 1))]) c'.tmps = c'.tmps → (tmplJ Try.f3.ntmps 0 [(0, LI (N : Int)), (5, .ptr 0 0), (8, LI ((i : Int) + 1))]).length = c'.tmps.length → Ag 1 ρ ρ' c'.rs → Rel [] w0 ρ' c'.rs w' → c'.rs.take 1 = [gR q] → Sta q.has (GrV q u ls) ρ' c'.rs w' → At Try.prog Q c' ρ' w') :
    At Try.prog Q ⟨regK Try.f3 13, fillJ (tmplJ Try.f3.ntmps 0 [(0, LI (N : Int)), (5, .ptr 0 0), (8, LI (i : Int))]) d 0, [gR q]⟩ ρ w := by
  have hag1 := hR.ag_ 1 (by kernel_rfl)
  have hal : ∀ x ∈ aheadOf u ls (i : Int), (1 ≤ x ∧ x ≤ u.length) ∧ Uf.hd u x ∈ Uf.aheadM u ls (Uf.hd u i) := fun x hx => (ahead_mem hiu).1 hx
  have hcl : ∀ x ∈ aheadOf u ls (i : Int), ∀ y ∈ Uf.cls u (Uf.hd u x), y ∈ aheadOf u ls (i : Int) := fun x hx y hy => by
    have h1 := hal x hx
    obtain ⟨h2, h3⟩ := Uf.mem_cls.1 hy
    exact (ahead_mem hiu).2 ⟨h2, by rw [h3]; exact h1.2⟩
  have hsr : (aheadOf u ls (i : Int)).Pairwise (· < ·) := by
    unfold aheadOf
    split
    · exact nums_sorted _ _
    · exact List.Pairwise.nil
  have hna1 : (aheadOf u ls (i : Int)).length ≤ 1000 := Nat.le_trans (aheadOf_le u ls _) hGI.le
  refine sim_run 2 [] (hR.cast (by kernel_rfl)) (by kernel_rfl) trivial (fun ρ5000 w5000 hm5000 hR5000 => ?_)
  have hs := hs.moved (hm5000.castL (by kernel_rfl))
  have hag1 := hag1.moved (hm5000.castL (by kernel_rfl))
  refine sim_call 12 [.ptr 0 0, LI ((↑i : Int))] (by kernel_rfl) ?_
  have ez0_5001 := (hag1.at_ 0 (by omega)).trans e0
  simp only [denL, LV.den, Nm.at_, ez0_5001, Nat.add_zero]
  refine Calls.mono (ahead_any (q) (u) (ls) ((i : Int)) _ (hs.is) (hGI)) ?_
  rintro e5001 w5001 ⟨Aa, ca, rfl, ho5001, hb5001⟩
  have ha := Sta.natsR (hR5000) ho5001
  have hR5001 := (hR5000).below hb5001
  have hs := hs.below hb5001
  refine Back.of (.v (.slice Aa (aheadOf u ls (i : Int)).length ca)) hR5001 rfl ?_
  refine sim_run 7 [] (hR5001.cast (by kernel_rfl)) (by kernel_rfl) trivial (fun ρ5002 w5002 hm5002 hR5002 => ?_)
  have hag1 := hag1.moved (hm5002.castL (by kernel_rfl))
  have ha := ha.moved (hm5002.castL (by kernel_rfl))
  have hs := hs.moved (hm5002.castL (by kernel_rfl))
  
  have e0 := (hag1.at_ 0 (by omega)).trans e0
  have hagb := hag1.ag
  have hule := hGI.le
  obtain ⟨Ba, ha⟩ : ∃ Ba : Nat, Sta (readS Aa Ba) (ReadW Ba 1 Aa (aheadOf u ls (i : Int)).length (nats (aheadOf u ls (i : Int)))) ρ5002 _ _ := ⟨_, ha⟩
  generalize aheadOf u ls (i : Int) = a at *
  refine sim_loop (ι := Nat) (T := []) (w0 := w0) 0 [0, 5, 8, 9] (fun j => [(10, LI j)]) (fun _ => [gR q]) (fun j w1 => j ≤ a.length ∧ Sta q.has (GrV q u ls) ρ5002 [gR q] w1 ∧ Sta (readS Aa Ba) (ReadW Ba 1 Aa a.length (nats a)) ρ5002 [gR q] w1) (fun j => a.length - j) (by kernel_rfl) (by kernel_rfl) ((by assumption : Rel _ _ _ _ _).cast (by kernel_rfl)) ⟨Nat.zero_le _, hs.castR (by kernel_rfl), ha.castR (by kernel_rfl)⟩ ?_
  iterate 8 (try clear hs)
  iterate 8 (try clear ha)
  iterate 8 (try clear hag1)
  rintro k d2 w2 hR2 ⟨hi, hs, ha⟩
  have hag := hR2.ag_ 1 (by kernel_rfl)
  by_cases hlt : k < a.length
  · obtain ⟨x, hx⟩ : ∃ x, a[k]? = some x := ⟨_, List.getElem?_eq_getElem hlt⟩
    have hxm := List.mem_of_getElem? hx
    obtain ⟨hxu, hxh⟩ := hal x hxm
    refine sim_seeNat k 1 (by kernel_rfl) hx ha hR2 (by kernel_rfl) (fun ga oa ρE eA hgE hmE eE hRE => ?_)
    subst eA
    have hs := hs.moved hmE
    have ha := ha.moved hmE
    have hag := hag.moved hmE
    have hag3 := hRE.ag_ 2 (by kernel_rfl)
    refine sim_run 8 [] (hRE.cast (by kernel_rfl)) (by kernel_rfl) trivial (fun ρ5100 w5100 hm5100 hR5100 => ?_)
    have hs := hs.moved (hm5100.castL (by kernel_rfl))
    have ha := ha.moved (hm5100.castL (by kernel_rfl))
    have hag := hag.moved (hm5100.castL (by kernel_rfl))
    have hag3 := hag3.moved (hm5100.castL (by kernel_rfl))
    refine sim_know 61 (decide ((↑k : Int) < (↑a.length : Int))) true (by kernel_rfl) (decide_eq_true (by omega)) ?_
    refine sim_run 6 [] (hR5100.cast (by kernel_rfl)) (by kernel_rfl) trivial (fun ρ5101 w5101 hm5101 hR5101 => ?_)
    have hs := hs.moved (hm5101.castL (by kernel_rfl))
    have ha := ha.moved (hm5101.castL (by kernel_rfl))
    have hag := hag.moved (hm5101.castL (by kernel_rfl))
    have hag3 := hag3.moved (hm5101.castL (by kernel_rfl))
    
    refine sim_to (regK Try.f3 17) (tmplJ Try.f3.ntmps 0 [(0, LI (N : Int)), (5, .ptr 0 0), (8, LI (i : Int)), (9, .v (.slice (some ⟨ga, oa, none⟩) a.length ca)), (10, LI (k : Int))]) [gR q, ⟨[LI (x : Int)], false⟩] (by kernel_rfl) (by kernel_rfl) (by kernel_rfl) (fun d6 => ?_)
    refine near_body ((by assumption : Rel _ _ _ _ _).cast (by kernel_rfl)) (hs.castR (by kernel_rfl)) (ha.castR (by kernel_rfl)) hGI ((hag3.at_ 1 (by omega)).trans eE) rfl hna1 hlt hx hxu (near_ne hGI hiu hxu hxh) (fun m p hm hp => by
      subst hm
      have h1 := (List.getElem?_eq_some_iff.1 hp)
      have h2 := (List.getElem?_eq_some_iff.1 hx)
      obtain ⟨h1, rfl⟩ := h1
      obtain ⟨h2, rfl⟩ := h2
      exact List.pairwise_iff_getElem.1 hsr m (m + 1) h1 h2 (by omega)) (hcl x hxm) ((hag.at_ 0 (by omega)).trans e0) (behind_mem hGI.good hxu hiu hxh) d6 (fun c' ρ' w' hk' hm' hl' hag' hR' htk hs' ha' => ?_)
    have hag7 : Ag 1 ρ5002 ρ' c'.rs := ⟨hag.ag.trans hag'.ag (by omega), hag'.le⟩
    exact sim_again (k + 1) hk' (by show a.length - (k + 1) < a.length - k; omega) ((congrArg (mergeT · c'.tmps) (by kernel_rfl)).trans hm') ((congrArg List.length (by kernel_rfl)).trans hl') (by kernel_rfl) hag7.ag hR' htk (by kernel_rfl) ⟨hlt, hs'.cut hag7 rfl htk, ha'.cut hag7 rfl htk⟩
  · refine sim_run 8 [] (hR2.cast (by kernel_rfl)) (by kernel_rfl) trivial (fun ρ5200 w5200 hm5200 hR5200 => ?_)
    have hs := hs.moved (hm5200.castL (by kernel_rfl))
    have ha := ha.moved (hm5200.castL (by kernel_rfl))
    have hag := hag.moved (hm5200.castL (by kernel_rfl))
    refine sim_know 61 (decide ((↑k : Int) < (↑a.length : Int))) false (by kernel_rfl) (decide_eq_false (by omega)) ?_
    refine sim_run 1 [] (hR5200.cast (by kernel_rfl)) (by kernel_rfl) trivial (fun ρ5201 w5201 hm5201 hR5201 => ?_)
    have hs := hs.moved (hm5201.castL (by kernel_rfl))
    have ha := ha.moved (hm5201.castL (by kernel_rfl))
    have hag := hag.moved (hm5201.castL (by kernel_rfl))
    refine sim_leave (by kernel_rfl) ?_
    refine sim_run 6 [⟨12, 1, LI (IntKind.i64.wrap ((↑i : Int) + 1)), LI ((↑i : Int) + 1)⟩] (hR5201.cast (by kernel_rfl)) (by kernel_rfl) ⟨eqi (IntWalk.i64_in _ (by omega)), trivial⟩ (fun ρ5202 w5202 hm5202 hR5202 => ?_)
    have hs := hs.moved (hm5202.castL (by kernel_rfl))
    have ha := ha.moved (hm5202.castL (by kernel_rfl))
    have hag := hag.moved (hm5202.castL (by kernel_rfl))
    
    exact hfin _ _ _ (by kernel_rfl) (by kernel_rfl) (by kernel_rfl) ⟨hagb.trans hag.ag (by omega), hag.le⟩ (by assumption : Rel _ _ _ _ _) (by kernel_rfl) hs
end Go.Proofs.Ytnfgndapalkbcaa
