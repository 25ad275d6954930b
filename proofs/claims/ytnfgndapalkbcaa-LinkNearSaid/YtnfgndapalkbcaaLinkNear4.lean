/-
  LinkNear: what stands ahead of a number has it behind.
-/
import Derived.Test.YtnfgndapalkbcaaLinkNear3
namespace Go.Proofs.Ytnfgndapalkbcaa
open Go Go.RowKit
theorem nums_le (u hs : List Nat) : (numsM u hs).length ≤ u.length := by
  unfold numsM
  exact Nat.le_trans (List.length_filter_le _ _) (by rw [List.length_range']; exact Nat.le_refl _)
theorem behindOf_le (u : List Nat) (ls : List Lk) (i : Int) : (behindOf u ls i).length ≤ u.length := by
  unfold behindOf
  split
  · exact nums_le _ _
  · exact Nat.zero_le _
theorem aheadOf_le (u : List Nat) (ls : List Lk) (i : Int) : (aheadOf u ls i).length ≤ u.length := by
  unfold aheadOf
  split
  · exact nums_le _ _
  · exact Nat.zero_le _
attribute [local irreducible] run goO leaveK someK nextK nextT nextOT nextOD loopBody loopRest loopK fillJ tmplOf tmplJ mergeT At AtO drawOk ordOf gateOf callC callO topOp topO idxOf appOf storeOf clearOf sliceOf calleeOf calleeO topQ idxQ newRowOf resL stepOp seek
set_option maxRecDepth 100000 in
set_option maxHeartbeats 4000000 in
theorem near_there {Q : Exit → Act → World → Prop} {R : Ending → World → Prop} [hB : Body Try.prog Q Try.f3 R] {ρ : Nm} {w0 w : World} {q : GrP} {u : List Nat} {ls : List Lk} {x i N k na ca nb cb ga oa Ba Bb : Nat} {Ab : Option Addr} {a b : List Nat} (hR : Rel [] w0 ρ [gR q, ⟨[LI (x : Int)], false⟩] w) (hs : Sta q.has (GrV q u ls) ρ [gR q, ⟨[LI (x : Int)], false⟩] w) (ha : Sta (readS (some ⟨ga, oa, none⟩) Ba) (ReadW Ba 1 (some ⟨ga, oa, none⟩) na (nats a)) ρ [gR q, ⟨[LI (x : Int)], false⟩] w) (hc : Sta (readS Ab Bb) (ReadW Bb 1 Ab nb (nats b)) ρ [gR q, ⟨[LI (x : Int)], false⟩] w) (hGI : GInv u ls) (e1 : ρ 1 = (ga, oa + k)) (hna : a.length = na) (hna1 : na ≤ 1000) (hk : k < na) (hx : a[k]? = some x) (hxu : 1 ≤ x ∧ x ≤ u.length) (hsm : sameI u [(i : Int), (x : Int)] = false) (hsrt : ∀ m p, k = m + 1 → a[m]? = some p → p < x) (hall : ∀ y ∈ Uf.cls u (Uf.hd u x), y ∈ a) (hnb : b.length = nb) (hnb1 : nb ≤ 1000) (hib : i ∈ b) (d : Nat → Value)
    (hfin : ∀ (c' : Cfg) (ρ' : Nm) (w' : World), c'.k = [] → mergeT (tmplJ Try.f3.ntmps 0 [(0, LI (N : Int)), (5, .ptr 0 0), (8, LI (i : Int)), (9, .v (.slice (some ⟨ga, oa, none⟩) na ca)), (10, LI ((k : Int) + 1))]) c'.tmps = c'.tmps → (tmplJ Try.f3.ntmps 0 [(0, LI (N : Int)), (5, .ptr 0 0), (8, LI (i : Int)), (9, .v (.slice (some ⟨ga, oa, none⟩) na ca)), (10, LI ((k : Int) + 1))]).length = c'.tmps.length → Ag 1 ρ ρ' c'.rs → Rel [] w0 ρ' c'.rs w' → c'.rs.take 1 = [gR q] → Sta q.has (GrV q u ls) ρ' c'.rs w' → Sta (readS (some ⟨ga, oa, none⟩) Ba) (ReadW Ba 1 (some ⟨ga, oa, none⟩) na (nats a)) ρ' c'.rs w' → At Try.prog Q c' ρ' w') :
    At Try.prog Q ⟨regK Try.f3 18, fillJ (tmplJ Try.f3.ntmps 0 [(0, LI (N : Int)), (5, .ptr 0 0), (8, LI (i : Int)), (9, .v (.slice (some ⟨ga, oa, none⟩) na ca)), (10, LI (k : Int)), (11, .v (.slice Ab nb cb))]) d 0, [gR q, ⟨[LI (x : Int)], false⟩]⟩ ρ w := by
  have hag2 := hR.ag_ 2 (by kernel_rfl)
  refine sim_run 8 [] (hR.cast (by kernel_rfl)) (by kernel_rfl) trivial (fun ρ3000 w3000 hm3000 hR3000 => ?_)
  have hs := hs.moved (hm3000.castL (by kernel_rfl))
  have ha := ha.moved (hm3000.castL (by kernel_rfl))
  have hc := hc.moved (hm3000.castL (by kernel_rfl))
  have hag2 := hag2.moved (hm3000.castL (by kernel_rfl))
  
  refine sim_loop (ι := Nat × Bool) (T := []) (w0 := w0) (0, false) [0, 5, 8, 9, 10, 11] (fun s => [(12, LB s.2), (13, LI s.1)]) (fun _ => [gR q, ⟨[LI (x : Int)], false⟩]) (fun s w1 => s.1 ≤ nb ∧ (s.2 = true ↔ i ∈ b.take s.1) ∧ Sta q.has (GrV q u ls) ρ3000 [gR q, ⟨[LI (x : Int)], false⟩] w1 ∧ Sta (readS (some ⟨ga, oa, none⟩) Ba) (ReadW Ba 1 (some ⟨ga, oa, none⟩) na (nats a)) ρ3000 [gR q, ⟨[LI (x : Int)], false⟩] w1 ∧ Sta (readS Ab Bb) (ReadW Bb 1 Ab nb (nats b)) ρ3000 [gR q, ⟨[LI (x : Int)], false⟩] w1) (fun s => nb - s.1) (by kernel_rfl) (by kernel_rfl) ((by assumption : Rel _ _ _ _ _).cast (by kernel_rfl)) ⟨Nat.zero_le _, by simp, hs.castR (by kernel_rfl), ha.castR (by kernel_rfl), hc.castR (by kernel_rfl)⟩ ?_
  have hagb := hag2.ag
  iterate 8 (try clear hs)
  iterate 8 (try clear ha)
  iterate 8 (try clear hc)
  iterate 8 (try clear hag2)
  rintro ⟨s, inn⟩ d2 w2 hR2 ⟨hi, hin, hs, ha, hc⟩
  dsimp only at hi hin hs ha hc
  have hag := hR2.ag_ 2 (by kernel_rfl)
  by_cases hlt : s < nb
  · obtain ⟨p, hp⟩ : ∃ p, b[s]? = some p := ⟨_, List.getElem?_eq_getElem (by omega)⟩
    refine sim_seeNat s 2 (by kernel_rfl) hp hc hR2 (by kernel_rfl) (fun g3 o3 ρE eA hgE hmE eE hRE => ?_)
    subst eA
    have hs := hs.moved hmE
    have ha := ha.moved hmE
    have hc := hc.moved hmE
    have hag := hag.moved hmE
    have hag4 := hRE.ag_ 3 (by kernel_rfl)
    cases inn with
    | true =>
      refine sim_run 8 [] (hRE.cast (by kernel_rfl)) (by kernel_rfl) trivial (fun ρ3100 w3100 hm3100 hR3100 => ?_)
      have hs := hs.moved (hm3100.castL (by kernel_rfl))
      have ha := ha.moved (hm3100.castL (by kernel_rfl))
      have hc := hc.moved (hm3100.castL (by kernel_rfl))
      have hag := hag.moved (hm3100.castL (by kernel_rfl))
      have hag4 := hag4.moved (hm3100.castL (by kernel_rfl))
      refine sim_know 73 (decide ((↑(s, true).fst : Int) < (↑nb : Int))) true (by kernel_rfl) (decide_eq_true (by omega)) ?_
      refine sim_run 22 [⟨21, 1, LI (IntKind.i64.wrap ((↑(s, true).fst : Int) + 1)), LI ((↑(s, true).fst : Int) + 1)⟩] (hR3100.cast (by kernel_rfl)) (by kernel_rfl) ⟨eqi (IntWalk.i64_in _ (by omega)), trivial⟩ (fun ρ3101 w3101 hm3101 hR3101 => ?_)
      have hs := hs.moved (hm3101.castL (by kernel_rfl))
      have ha := ha.moved (hm3101.castL (by kernel_rfl))
      have hc := hc.moved (hm3101.castL (by kernel_rfl))
      have hag := hag.moved (hm3101.castL (by kernel_rfl))
      have hag4 := hag4.moved (hm3101.castL (by kernel_rfl))
      
      exact sim_again (s + 1, true) (by kernel_rfl) (by show nb - (s + 1) < nb - s; omega) (by kernel_rfl) (by kernel_rfl) (by kernel_rfl) hag.ag (Rel.cast (by assumption) (by kernel_rfl)) (by kernel_rfl) (by kernel_rfl) ⟨hlt, ⟨fun _ => by rw [take_snoc hp]; exact List.mem_append.2 (.inl (hin.1 rfl)), fun _ => rfl⟩, hs.cut hag rfl (by kernel_rfl), ha.cut hag rfl (by kernel_rfl), hc.cut hag rfl (by kernel_rfl)⟩
    | false =>
      refine sim_run 8 [] (hRE.cast (by kernel_rfl)) (by kernel_rfl) trivial (fun ρ3200 w3200 hm3200 hR3200 => ?_)
      have hs := hs.moved (hm3200.castL (by kernel_rfl))
      have ha := ha.moved (hm3200.castL (by kernel_rfl))
      have hc := hc.moved (hm3200.castL (by kernel_rfl))
      have hag := hag.moved (hm3200.castL (by kernel_rfl))
      have hag4 := hag4.moved (hm3200.castL (by kernel_rfl))
      refine sim_know 73 (decide ((↑(s, false).fst : Int) < (↑nb : Int))) true (by kernel_rfl) (decide_eq_true (by omega)) ?_
      refine sim_run 9 [] (hR3200.cast (by kernel_rfl)) (by kernel_rfl) trivial (fun ρ3201 w3201 hm3201 hR3201 => ?_)
      have hs := hs.moved (hm3201.castL (by kernel_rfl))
      have ha := ha.moved (hm3201.castL (by kernel_rfl))
      have hc := hc.moved (hm3201.castL (by kernel_rfl))
      have hag := hag.moved (hm3201.castL (by kernel_rfl))
      have hag4 := hag4.moved (hm3201.castL (by kernel_rfl))
      refine sim_place (.v (.slice (some ⟨g3, o3, none⟩) nb cb)) nb 1 (s : Int) 2 0 (by kernel_rfl) (by omega) (by omega) rfl (by simp only [Nm.at_, hag4.at_ 2 (by omega), eE, Nat.add_zero, Int.toNat_natCast, Nat.mul_one]) ?_
      refine sim_run 12 [⟨21, 1, LI (IntKind.i64.wrap ((↑(s, false).fst : Int) + 1)), LI ((↑(s, false).fst : Int) + 1)⟩] (hR3201.cast (by kernel_rfl)) (by kernel_rfl) ⟨eqi (IntWalk.i64_in _ (by omega)), trivial⟩ (fun ρ3203 w3203 hm3203 hR3203 => ?_)
      have hs := hs.moved (hm3203.castL (by kernel_rfl))
      have ha := ha.moved (hm3203.castL (by kernel_rfl))
      have hc := hc.moved (hm3203.castL (by kernel_rfl))
      have hag := hag.moved (hm3203.castL (by kernel_rfl))
      have hag4 := hag4.moved (hm3203.castL (by kernel_rfl))
      
      exact sim_again (s + 1, decide ((p : Int) = (i : Int))) (by kernel_rfl) (by show nb - (s + 1) < nb - s; omega) (by kernel_rfl) (by kernel_rfl) (by kernel_rfl) hag.ag (Rel.cast (by assumption) (by kernel_rfl)) (by kernel_rfl) (by kernel_rfl) ⟨hlt, by
        rw [take_snoc hp, List.mem_append, List.mem_singleton, decide_eq_true_iff]
        constructor
        · intro h; right; omega
        · rintro (h | h)
          · exact absurd (hin.2 h) (by simp)
          · omega, hs.cut hag rfl (by kernel_rfl), ha.cut hag rfl (by kernel_rfl), hc.cut hag rfl (by kernel_rfl)⟩
  · obtain rfl : inn = true := hin.2 (by rw [List.take_of_length_le (by omega)]; exact hib)
    have hag1 := hR2.ag_ 1 (by kernel_rfl)
    have e1 := (hagb 1 (by omega)).trans e1
    refine sim_run 8 [] (hR2.cast (by kernel_rfl)) (by kernel_rfl) trivial (fun ρ3300 w3300 hm3300 hR3300 => ?_)
    have hs := hs.moved (hm3300.castL (by kernel_rfl))
    have ha := ha.moved (hm3300.castL (by kernel_rfl))
    have hc := hc.moved (hm3300.castL (by kernel_rfl))
    have hag := hag.moved (hm3300.castL (by kernel_rfl))
    have hag1 := hag1.moved (hm3300.castL (by kernel_rfl))
    refine sim_know 73 (decide ((↑(s, true).fst : Int) < (↑nb : Int))) false (by kernel_rfl) (decide_eq_false (by omega)) ?_
    refine sim_run 1 [] (hR3300.cast (by kernel_rfl)) (by kernel_rfl) trivial (fun ρ3301 w3301 hm3301 hR3301 => ?_)
    have hs := hs.moved (hm3301.castL (by kernel_rfl))
    have ha := ha.moved (hm3301.castL (by kernel_rfl))
    have hc := hc.moved (hm3301.castL (by kernel_rfl))
    have hag := hag.moved (hm3301.castL (by kernel_rfl))
    have hag1 := hag1.moved (hm3301.castL (by kernel_rfl))
    refine sim_leave (by kernel_rfl) ?_
    refine sim_run 2 [] (hR3301.cast (by kernel_rfl)) (by kernel_rfl) trivial (fun ρ3302 w3302 hm3302 hR3302 => ?_)
    have hs := hs.moved (hm3302.castL (by kernel_rfl))
    have ha := ha.moved (hm3302.castL (by kernel_rfl))
    have hc := hc.moved (hm3302.castL (by kernel_rfl))
    have hag := hag.moved (hm3302.castL (by kernel_rfl))
    have hag1 := hag1.moved (hm3302.castL (by kernel_rfl))
    
    have e1 := (hag.at_ 1 (by omega)).trans e1
    refine sim_to (regK Try.f3 23) (tmplJ Try.f3.ntmps 0 [(0, LI (N : Int)), (5, .ptr 0 0), (8, LI (i : Int)), (9, .v (.slice (some ⟨ga, oa, none⟩) na ca)), (10, LI (k : Int)), (12, LB true)]) [gR q, ⟨[LI (x : Int)], false⟩] (by kernel_rfl) (by kernel_rfl) (by kernel_rfl) (fun d3 => ?_)
    exact near_chk ((by assumption : Rel _ _ _ _ _).cast (by kernel_rfl)) (hs.castR (by kernel_rfl)) (ha.castR (by kernel_rfl)) hGI e1 hna hna1 hk hx hxu hsm hsrt hall d3 (fun c' ρ' w' hk' hm' hl' hag' hR' htk hs' ha' => hfin c' ρ' w' hk' hm' hl' ⟨fun n hn => (hag'.ag n hn).trans ((hag1.ag n hn).trans (hagb n (by omega))), hag'.le⟩ hR' htk hs' ha')
set_option maxRecDepth 100000 in
set_option maxHeartbeats 4000000 in
theorem near_body {Q : Exit → Act → World → Prop} {R : Ending → World → Prop} [hB : Body Try.prog Q Try.f3 R] {ρ : Nm} {w0 w : World} {q : GrP} {u : List Nat} {ls : List Lk} {x i N k na ca ga oa Ba : Nat} {a : List Nat} (hR : Rel [] w0 ρ [gR q, ⟨[LI (x : Int)], false⟩] w) (hs : Sta q.has (GrV q u ls) ρ [gR q, ⟨[LI (x : Int)], false⟩] w) (ha : Sta (readS (some ⟨ga, oa, none⟩) Ba) (ReadW Ba 1 (some ⟨ga, oa, none⟩) na (nats a)) ρ [gR q, ⟨[LI (x : Int)], false⟩] w) (hGI : GInv u ls) (e1 : ρ 1 = (ga, oa + k)) (hna : a.length = na) (hna1 : na ≤ 1000) (hk : k < na) (hx : a[k]? = some x) (hxu : 1 ≤ x ∧ x ≤ u.length) (hsm : sameI u [(i : Int), (x : Int)] = false) (hsrt : ∀ m p, k = m + 1 → a[m]? = some p → p < x) (hall : ∀ y ∈ Uf.cls u (Uf.hd u x), y ∈ a) (e0 : ρ 0 = (q.b, 0)) (hib : i ∈ behindOf u ls (x : Int)) (d : Nat → Value)
    (hfin : ∀ (c' : Cfg) (ρ' : Nm) (w' : World), c'.k = [] → mergeT (tmplJ Try.f3.ntmps 0 [(0, LI (N : Int)), (5, .ptr 0 0), (8, LI (i : Int)), (9, .v (.slice (some ⟨ga, oa, none⟩) na ca)), (10, LI ((k : Int) + 1))]) c'.tmps = c'.tmps → (tmplJ Try.f3.ntmps 0 [(0, LI (N : Int)), (5, .ptr 0 0), (8, LI (i : Int)), (9, .v (.slice (some ⟨ga, oa, none⟩) na ca)), (10, LI ((k : Int) + 1))]).length = c'.tmps.length → Ag 1 ρ ρ' c'.rs → Rel [] w0 ρ' c'.rs w' → c'.rs.take 1 = [gR q] → Sta q.has (GrV q u ls) ρ' c'.rs w' → Sta (readS (some ⟨ga, oa, none⟩) Ba) (ReadW Ba 1 (some ⟨ga, oa, none⟩) na (nats a)) ρ' c'.rs w' → At Try.prog Q c' ρ' w') :
    At Try.prog Q ⟨regK Try.f3 17, fillJ (tmplJ Try.f3.ntmps 0 [(0, LI (N : Int)), (5, .ptr 0 0), (8, LI (i : Int)), (9, .v (.slice (some ⟨ga, oa, none⟩) na ca)), (10, LI (k : Int))]) d 0, [gR q, ⟨[LI (x : Int)], false⟩]⟩ ρ w := by
  have hag := hR.ag_ 2 (by kernel_rfl)
  have hag1 := hR.ag_ 1 (by kernel_rfl)
  refine sim_run 3 [] (hR.cast (by kernel_rfl)) (by kernel_rfl) trivial (fun ρ4000 w4000 hm4000 hR4000 => ?_)
  have hs := hs.moved (hm4000.castL (by kernel_rfl))
  have ha := ha.moved (hm4000.castL (by kernel_rfl))
  have hag := hag.moved (hm4000.castL (by kernel_rfl))
  have hag1 := hag1.moved (hm4000.castL (by kernel_rfl))
  refine sim_place (.v (.slice (some ⟨ga, oa, none⟩) na ca)) na 1 (k : Int) 1 0 (by kernel_rfl) (by omega) (by omega) rfl (by simp only [Nm.at_, hag.at_ 1 (by omega), e1, Nat.add_zero, Int.toNat_natCast, Nat.mul_one]) ?_
  refine sim_run 1 [] (hR4000.cast (by kernel_rfl)) (by kernel_rfl) trivial (fun ρ4002 w4002 hm4002 hR4002 => ?_)
  have hs := hs.moved (hm4002.castL (by kernel_rfl))
  have ha := ha.moved (hm4002.castL (by kernel_rfl))
  have hag := hag.moved (hm4002.castL (by kernel_rfl))
  have hag1 := hag1.moved (hm4002.castL (by kernel_rfl))
  refine sim_call 13 [.ptr 0 0, LI ((↑x : Int))] (by kernel_rfl) ?_
  have ez0_4003 := (hag.at_ 0 (by omega)).trans e0
  simp only [denL, LV.den, Nm.at_, ez0_4003, Nat.add_zero]
  refine Calls.mono (behind_any (q) (u) (ls) ((x : Int)) _ (hs.is) (hGI)) ?_
  rintro e4003 w4003 ⟨Ab, cb, rfl, ho4003, hb4003⟩
  have hc := Sta.natsR (hR4002) ho4003
  have hR4003 := (hR4002).below hb4003
  have hs := hs.below hb4003
  have ha := ha.below hb4003
  refine Back.of (.v (.slice Ab (behindOf u ls (x : Int)).length cb)) hR4003 rfl ?_
  refine sim_run 4 [] (hR4003.cast (by kernel_rfl)) (by kernel_rfl) trivial (fun ρ4004 w4004 hm4004 hR4004 => ?_)
  have hag := hag.moved (hm4004.castL (by kernel_rfl))
  have hag1 := hag1.moved (hm4004.castL (by kernel_rfl))
  have hc := hc.moved (hm4004.castL (by kernel_rfl))
  have hs := hs.moved (hm4004.castL (by kernel_rfl))
  have ha := ha.moved (hm4004.castL (by kernel_rfl))
  
  refine sim_to (regK Try.f3 18) (tmplJ Try.f3.ntmps 0 [(0, LI (N : Int)), (5, .ptr 0 0), (8, LI (i : Int)), (9, .v (.slice (some ⟨ga, oa, none⟩) na ca)), (10, LI (k : Int)), (11, .v (.slice Ab (behindOf u ls (x : Int)).length cb))]) [gR q, ⟨[LI (x : Int)], false⟩] (by kernel_rfl) (by kernel_rfl) (by kernel_rfl) (fun d3 => ?_)
  exact near_there ((by assumption : Rel _ _ _ _ _).cast (by kernel_rfl)) (hs.castR (by kernel_rfl)) (ha.castR (by kernel_rfl)) (hc.castR (by kernel_rfl)) hGI ((hag.at_ 1 (by omega)).trans e1) hna hna1 hk hx hxu hsm hsrt hall rfl (Nat.le_trans (behindOf_le u ls _) hGI.le) hib d3 (fun c' ρ' w' hk' hm' hl' hag' hR' htk hs' ha' => hfin c' ρ' w' hk' hm' hl' ⟨hag1.ag.trans hag'.ag (by omega), hag'.le⟩ hR' htk hs' ha')
end Go.Proofs.Ytnfgndapalkbcaa
