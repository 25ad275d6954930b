/-
  SeqParts: every class is looked at, its numbers are kept.
  SeqParts: the classes and those that stand first are taken.
  SeqParts: the classes part what is asked, those that stand first wait for none of them.
-/
import Derived.Test.YtnfgndapalkbcaaSeqPB
import Derived.Test.YtnfgndapalkbcaaSeqPA
import Derived.Test.YtnfgndapalkbcaaOpGLk
namespace Go.Proofs.Ytnfgndapalkbcaa
section
open Go Go.RowKit
theorem flat_take {cs : List (List Int)} {i : Nat} {ci : List Int} (h : cs[i]? = some ci) : (cs.take (i + 1)).flatten = (cs.take i).flatten ++ ci := by
  rw [List.take_add_one, h, List.flatten_append]
  simp
theorem flat_split {cs : List (List Int)} {i : Nat} {ci : List Int} (h : cs[i]? = some ci) : cs.flatten = (cs.take i).flatten ++ (ci ++ (cs.drop (i + 1)).flatten) := by
  conv => lhs; rw [← List.take_append_drop i cs]
  obtain ⟨h1, h2⟩ := List.getElem?_eq_some_iff.1 h
  rw [List.flatten_append, List.drop_eq_getElem_cons h1, h2, List.flatten_cons]
theorem flat_not {cs : List (List Int)} {i k : Nat} {ci : List Int} {z : Int} (hn : cs.flatten.Nodup) (h : cs[i]? = some ci) (hz : ci[k]? = some z) : z ∉ (cs.take i).flatten ++ ci.take k := by
  obtain ⟨h1, h2⟩ := List.getElem?_eq_some_iff.1 hz
  have e : cs.flatten = ((cs.take i).flatten ++ ci.take k) ++ (z :: (ci.drop (k + 1) ++ (cs.drop (i + 1)).flatten)) := by
    rw [flat_split h]
    conv => lhs; rw [← List.take_append_drop k ci]
    rw [List.drop_eq_getElem_cons h1, h2]
    simp
  rw [e] at hn
  intro hm
  exact (List.nodup_append.1 hn).2.2 z hm z (List.mem_cons_self ..) rfl
theorem flat_le {cs : List (List Int)} {i k : Nat} {ci : List Int} (h : cs[i]? = some ci) : ((cs.take i).flatten ++ ci.take k).length ≤ cs.flatten.length := by
  rw [flat_split h, List.length_append, List.length_append, List.length_append, List.length_take]
  omega
theorem flat_len {cs : List (List Int)} {ci : List Int} (h : ci ∈ cs) : ci.length ≤ cs.flatten.length := (List.sublist_flatten_of_mem h).length_le
theorem own_sl {ρ : Nm} {rs : List Reg} {w : World} {B : Nat} {v : Value} {n : Nat} {xs : List Value} (h : Own ρ rs w B 3 1 v n xs) : ∃ L c, v = .slice L n c := own_row h.own
attribute [local irreducible] run goO leaveK someK nextK nextT nextOT nextOD loopBody loopRest loopK fillJ tmplOf tmplJ mergeT At AtO drawOk ordOf gateOf callC callO topOp topO idxOf appOf storeOf clearOf sliceOf calleeOf calleeO topQ idxQ newRowOf resL stepOp seek
set_option maxRecDepth 100000 in
set_option maxHeartbeats 4000000 in
theorem parts_11 {R : Ending → World → Prop} {w0 w : World} {ρ : Nm} {q : GrP} {u : List Nat} {ls : List Lk} {l : List In} {A : Option Addr} {n cp : Nat} {cB cb : Nat} {cL : Option Addr} {tB tb : Nat} {tL : Option Addr} {cc tc : Nat} (hR : Rel [] w0 ρ [gR q] w) (hrd : Reads w0 w0.heap.size 21 A n (insts l)) (hp : PS q u ls cB cb cL (clsM u l) tB tb tL (topsM u ls l) ρ [gR q] w) (hGI : GInv u ls) (e0 : ρ 0 = (q.b, 0)) (hl : l.length ≤ 30) (hql : ∀ x, q.has x → x < tB) (hcB : cB ≤ tB) (hw0 : w0.heap.size ≤ tB) (d : Nat → Value)
    (hfin : ∀ (ρ' : Nm) (w' : World) (d' : Nat → Value), Rel [] w0 ρ' [] w' → At Try.prog (bodyPost Try.prog Try.f8 R) ⟨regK Try.f8 56, fillJ (tmplJ Try.f8.ntmps 0 [(10, .v (.slice cL (clsM u l).length cc)), (11, .v (.slice tL (topsM u ls l).length tc))]) d' 0, []⟩ ρ' w') :
    At Try.prog (bodyPost Try.prog Try.f8 R) ⟨regK Try.f8 11, fillJ (tmplJ Try.f8.ntmps 0 [(2, .v (.slice A n cp)), (7, .ptr 0 0), (10, .v (.slice cL (clsM u l).length cc)), (11, .v (.slice tL (topsM u ls l).length tc))]) d 0, [gR q]⟩ ρ w := by
  have hag := hR.ag_ 1 (by kernel_rfl)
  have hcl := clsM_le u l
  have hfl := cls_len (u := u) (l := l)
  refine sim_run 8 [] (hR.cast (by kernel_rfl)) (by kernel_rfl) trivial (fun ρ100 w100 hm100 hR100 => ?_)
  have hp := hp.moved (hm100.castL (by kernel_rfl))
  have hag := hag.moved (hm100.castL (by kernel_rfl))
  
  have e0 := (hag.at_ 0 (by omega)).trans e0
  refine sim_loop (ι := Nat × Value) (T := []) (w0 := w0) (0, .slice none 0 0) [2, 7, 10, 11] (fun s => [(12, .v s.2), (13, LI s.1)]) (fun _ => [gR q]) (fun s w1 => s.1 ≤ (clsM u l).length ∧ PS q u ls cB cb cL (clsM u l) tB tb tL (topsM u ls l) ρ100 [gR q] w1 ∧ Own ρ100 [gR q] w1 tB 3 1 s.2 ((clsM u l).take s.1).flatten.length (ints ((clsM u l).take s.1).flatten)) (fun s => (clsM u l).length - s.1) (by kernel_rfl) (by kernel_rfl) ((by assumption : Rel _ _ _ _ _).cast (by kernel_rfl)) ⟨Nat.zero_le _, hp.castR (by kernel_rfl), ⟨World.ownsRow_nil _ _ _ _, fun g hg => by cases hg⟩⟩ ?_
  iterate 8 (try clear hp)
  iterate 8 (try clear hag)
  rintro ⟨i, va⟩ d2 w2 hR2 ⟨hi, hp, hal⟩
  dsimp only at hi hp hal
  have hag := hR2.ag_ 1 (by kernel_rfl)
  by_cases hlt : i < (clsM u l).length
  · obtain ⟨ci, hci⟩ : ∃ c, (clsM u l)[i]? = some c := ⟨_, List.getElem?_eq_getElem hlt⟩
    have hcm := List.mem_of_getElem? hci
    have hc0 := List.length_pos_iff.2 (cls_self hcm)
    have hcl2 := flat_len hcm
    refine sim_seeRowZ i 1 (by kernel_rfl) hci hp.c hR2 (by kernel_rfl) (fun gc oc Ac1 cc1 ρE eA hgb hrdc hcc hAt hmE eE hRE => ?_)
    subst eA
    have hp := hp.moved hmE
    have hal := hal.moved hmE
    have hag := hag.moved hmE
    have hag2 := hRE.ag_ 2 (by kernel_rfl)
    clear hrdc
    refine sim_run 8 [] (hRE.cast (by kernel_rfl)) (by kernel_rfl) trivial (fun ρ200 w200 hm200 hR200 => ?_)
    have hp := hp.moved (hm200.castL (by kernel_rfl))
    have hal := hal.moved (hm200.castL (by kernel_rfl))
    have hag := hag.moved (hm200.castL (by kernel_rfl))
    have hag2 := hag2.moved (hm200.castL (by kernel_rfl))
    refine sim_know 70 (decide ((↑(i, va).fst : Int) < (↑(clsM u l).length : Int))) true (by kernel_rfl) (decide_eq_true (by omega)) ?_
    refine sim_run 9 [] (hR200.cast (by kernel_rfl)) (by kernel_rfl) trivial (fun ρ201 w201 hm201 hR201 => ?_)
    have hp := hp.moved (hm201.castL (by kernel_rfl))
    have hal := hal.moved (hm201.castL (by kernel_rfl))
    have hag := hag.moved (hm201.castL (by kernel_rfl))
    have hag2 := hag2.moved (hm201.castL (by kernel_rfl))
    refine sim_place (.v (.slice (some ⟨gc, oc, none⟩) (clsM u l).length cc)) (clsM u l).length 1 (i : Int) 1 0 (by kernel_rfl) (by omega) (by omega) rfl (by simp only [Nm.at_, hag2.at_ 1 (by omega), eE, Nat.add_zero, Int.toNat_natCast, Nat.mul_one]) ?_
    refine sim_run 4 [] (hR201.cast (by kernel_rfl)) (by kernel_rfl) trivial (fun ρ203 w203 hm203 hR203 => ?_)
    have hp := hp.moved (hm203.castL (by kernel_rfl))
    have hal := hal.moved (hm203.castL (by kernel_rfl))
    have hag := hag.moved (hm203.castL (by kernel_rfl))
    have hag2 := hag2.moved (hm203.castL (by kernel_rfl))
    refine sim_know 78 ((↑ci.length : Int) == 0) false (by kernel_rfl) (decide_eq_false (by omega)) ?_
    refine sim_run 7 [] (hR203.cast (by kernel_rfl)) (by kernel_rfl) trivial (fun ρ204 w204 hm204 hR204 => ?_)
    have hp := hp.moved (hm204.castL (by kernel_rfl))
    have hal := hal.moved (hm204.castL (by kernel_rfl))
    have hag := hag.moved (hm204.castL (by kernel_rfl))
    have hag2 := hag2.moved (hm204.castL (by kernel_rfl))
    
    have hb2 := hag.ag
    have hRz := Rel.cut (rs := [gR q]) (by assumption : Rel _ _ _ _ _) (by kernel_rfl) (Agree.refl 1 _) (by kernel_rfl)
    refine sim_rs [gR q] ?_
    refine sim_loop (ι := Nat × Value) (T := []) (w0 := w0) (0, va) [2, 7, 10, 11, 13] (fun s => [(12, .v s.2), (14, LI s.1)]) (fun _ => [gR q]) (fun s w1 => s.1 ≤ ci.length ∧ PS q u ls cB cb (some ⟨gc, oc, none⟩) (clsM u l) tB tb tL (topsM u ls l) ρ204 [gR q] w1 ∧ Own ρ204 [gR q] w1 tB 3 1 s.2 (((clsM u l).take i).flatten ++ ci.take s.1).length (ints (((clsM u l).take i).flatten ++ ci.take s.1))) (fun s => ci.length - s.1) (by kernel_rfl) (by kernel_rfl) hRz ⟨Nat.zero_le _, hp.cut ⟨Agree.refl 1 _, Nat.le_of_ble_eq_true (by kernel_rfl)⟩ rfl (by kernel_rfl), by
      show Own _ _ _ _ _ _ _ (((clsM u l).take i).flatten ++ ci.take 0).length (ints (((clsM u l).take i).flatten ++ ci.take 0))
      rw [List.take_zero, List.append_nil]
      exact hal.cut ⟨Agree.refl 1 _, Nat.le_of_ble_eq_true (by kernel_rfl)⟩ rfl (by kernel_rfl)⟩ ?_
    iterate 8 (try clear hp)
    iterate 8 (try clear hal)
    iterate 8 (try clear hag)
    clear hag2 eE hmE
    rintro ⟨k, vk⟩ d3 w3 hR3 ⟨hk, hp, hal⟩
    dsimp only at hk hp hal
    have hag := hR3.ag_ 1 (by kernel_rfl)
    refine sim_seeRowZ i 1 (by kernel_rfl) hci hp.c hR3 (by kernel_rfl) (fun gc1 oc1 Ac2 cc2 ρF eA hgb2 hrdc hcc2 hAt2 hmF eF hRF => ?_)
    injection eA with eA
    injection eA with eg eo
    subst eg eo
    have hp := hp.moved hmF
    have hal := hal.moved hmF
    have hag := hag.moved hmF
    have hag2 := hRF.ag_ 2 (by kernel_rfl)
    clear hrdc
    by_cases hlt2 : k < ci.length
    · obtain ⟨z, hz⟩ : ∃ z, ci[k]? = some z := ⟨_, List.getElem?_eq_getElem hlt2⟩
      refine sim_run 6 [] (hRF.cast (by kernel_rfl)) (by kernel_rfl) trivial (fun ρ300 w300 hm300 hR300 => ?_)
      have hp := hp.moved (hm300.castL (by kernel_rfl))
      have hal := hal.moved (hm300.castL (by kernel_rfl))
      have hag := hag.moved (hm300.castL (by kernel_rfl))
      have hag2 := hag2.moved (hm300.castL (by kernel_rfl))
      refine sim_place (.v (.slice (some ⟨gc, oc, none⟩) (clsM u l).length cc)) (clsM u l).length 1 (i : Int) 1 0 (by kernel_rfl) (by omega) (by omega) rfl (by simp only [Nm.at_, hag2.at_ 1 (by omega), eF, Nat.add_zero, Int.toNat_natCast, Nat.mul_one]) ?_
      refine sim_run 4 [] (hR300.cast (by kernel_rfl)) (by kernel_rfl) trivial (fun ρ302 w302 hm302 hR302 => ?_)
      have hp := hp.moved (hm302.castL (by kernel_rfl))
      have hal := hal.moved (hm302.castL (by kernel_rfl))
      have hag := hag.moved (hm302.castL (by kernel_rfl))
      have hag2 := hag2.moved (hm302.castL (by kernel_rfl))
      refine sim_know 85 (decide ((↑(k, vk).fst : Int) < (↑ci.length : Int))) true (by kernel_rfl) (decide_eq_true (by omega)) ?_
      refine sim_run 7 [] (hR302.cast (by kernel_rfl)) (by kernel_rfl) trivial (fun ρ303 w303 hm303 hR303 => ?_)
      have hp := hp.moved (hm303.castL (by kernel_rfl))
      have hal := hal.moved (hm303.castL (by kernel_rfl))
      have hag := hag.moved (hm303.castL (by kernel_rfl))
      have hag2 := hag2.moved (hm303.castL (by kernel_rfl))
      
      have hbN := hag.ag
      have hfk := flat_le (k := k) hci
      refine sim_to (regK Try.f8 20) (tmplJ Try.f8.ntmps 0 [(2, .v (.slice A n cp)), (7, .ptr 0 0), (10, .v (.slice (some ⟨gc, oc, none⟩) (clsM u l).length cc)), (11, .v (.slice tL (topsM u ls l).length tc)), (12, .v vk), (13, LI (i : Int)), (14, LI (k : Int))]) [gR q] (by kernel_rfl) (by kernel_rfl) (by kernel_rfl) (fun d6 => ?_)
      refine parts_20 (w0 := w0) (Rel.cut (rs := [gR q]) (by assumption : Rel _ _ _ _ _) (by kernel_rfl) (Agree.refl 1 _) (by kernel_rfl)) (hp.cut ⟨Agree.refl 1 _, Nat.le_of_ble_eq_true (by kernel_rfl)⟩ rfl (by kernel_rfl)) (hal.cut ⟨Agree.refl 1 _, Nat.le_of_ble_eq_true (by kernel_rfl)⟩ rfl (by kernel_rfl)) hGI ((hbN 0 (by omega)).trans ((hb2 0 (by omega)).trans e0)) hci hz (cls_sorted hcm) (fun y hy hne => sameI_two (cls_same hcm (List.mem_of_getElem? hz) hy (Ne.symm hne))) (by omega) (by omega) hql hcB hw0 (by omega) (own_sl hal) rfl (flat_not cls_flat hci hz) d6 (fun v' c' ρ' w' q1 q2 q3 q4 q5 q6 q7 q8 => ?_)
      have hagN : Ag 1 ρ204 ρ' c'.rs := ⟨hbN.tr q4.ag, q4.le⟩
      have heq : ((clsM u l).take i).flatten ++ ci.take (k + 1) = ((clsM u l).take i).flatten ++ ci.take k ++ [z] := by
        rw [List.take_add_one, hz, Option.toList_some, List.append_assoc]
      exact sim_again (k + 1, v') q1 (by show ci.length - (k + 1) < ci.length - k; omega) ((congrArg (mergeT · c'.tmps) (by kernel_rfl)).trans q2) ((congrArg List.length (by kernel_rfl)).trans q3) (by kernel_rfl) hagN.ag q5 q6 (by kernel_rfl) ⟨hlt2, q7.cut hagN rfl q6, by
        show Own _ _ _ _ _ _ _ (((clsM u l).take i).flatten ++ ci.take (k + 1)).length (ints (((clsM u l).take i).flatten ++ ci.take (k + 1)))
        rw [heq, List.length_append (bs := [z])]
        exact q8.cut hagN rfl q6⟩
    · obtain rfl : k = ci.length := by omega
      refine sim_run 6 [] (hRF.cast (by kernel_rfl)) (by kernel_rfl) trivial (fun ρ400 w400 hm400 hR400 => ?_)
      have hp := hp.moved (hm400.castL (by kernel_rfl))
      have hal := hal.moved (hm400.castL (by kernel_rfl))
      have hag := hag.moved (hm400.castL (by kernel_rfl))
      have hag2 := hag2.moved (hm400.castL (by kernel_rfl))
      refine sim_place (.v (.slice (some ⟨gc, oc, none⟩) (clsM u l).length cc)) (clsM u l).length 1 (i : Int) 1 0 (by kernel_rfl) (by omega) (by omega) rfl (by simp only [Nm.at_, hag2.at_ 1 (by omega), eF, Nat.add_zero, Int.toNat_natCast, Nat.mul_one]) ?_
      refine sim_run 4 [] (hR400.cast (by kernel_rfl)) (by kernel_rfl) trivial (fun ρ402 w402 hm402 hR402 => ?_)
      have hp := hp.moved (hm402.castL (by kernel_rfl))
      have hal := hal.moved (hm402.castL (by kernel_rfl))
      have hag := hag.moved (hm402.castL (by kernel_rfl))
      have hag2 := hag2.moved (hm402.castL (by kernel_rfl))
      refine sim_know 85 (decide ((↑(ci.length, vk).fst : Int) < (↑ci.length : Int))) false (by kernel_rfl) (decide_eq_false (by omega)) ?_
      refine sim_run 1 [] (hR402.cast (by kernel_rfl)) (by kernel_rfl) trivial (fun ρ403 w403 hm403 hR403 => ?_)
      have hp := hp.moved (hm403.castL (by kernel_rfl))
      have hal := hal.moved (hm403.castL (by kernel_rfl))
      have hag := hag.moved (hm403.castL (by kernel_rfl))
      have hag2 := hag2.moved (hm403.castL (by kernel_rfl))
      refine sim_leave (by kernel_rfl) ?_
      refine sim_run 6 [⟨14, 1, LI (IntKind.i64.wrap ((↑(i, va).fst : Int) + 1)), LI ((↑(i, va).fst : Int) + 1)⟩] (hR403.cast (by kernel_rfl)) (by kernel_rfl) ⟨eqi (IntWalk.i64_in _ (by omega)), trivial⟩ (fun ρ404 w404 hm404 hR404 => ?_)
      have hp := hp.moved (hm404.castL (by kernel_rfl))
      have hal := hal.moved (hm404.castL (by kernel_rfl))
      have hag := hag.moved (hm404.castL (by kernel_rfl))
      have hag2 := hag2.moved (hm404.castL (by kernel_rfl))
      
      have hagN : Ag 1 ρ100 _ _ := ⟨hb2.tr hag.ag, hag.le⟩
      exact sim_again (i + 1, vk) (by kernel_rfl) (by show (clsM u l).length - (i + 1) < (clsM u l).length - i; omega) (by kernel_rfl) (by kernel_rfl) (by kernel_rfl) hagN.ag (Rel.cast (by assumption) (by kernel_rfl)) (by kernel_rfl) (by kernel_rfl) ⟨hlt, hp.cut hagN rfl (by kernel_rfl), by
        show Own _ _ _ _ _ _ _ ((clsM u l).take (i + 1)).flatten.length (ints ((clsM u l).take (i + 1)).flatten)
        rw [List.take_length] at hal
        rw [flat_take hci]
        exact hal.cut hagN rfl (by kernel_rfl)⟩
  · obtain rfl : i = (clsM u l).length := by omega
    rw [List.take_length] at hal
    obtain ⟨Lv, cv, rfl⟩ := own_sl hal
    refine sim_run 8 [] (hR2.cast (by kernel_rfl)) (by kernel_rfl) trivial (fun ρ500 w500 hm500 hR500 => ?_)
    have hp := hp.moved (hm500.castL (by kernel_rfl))
    have hag := hag.moved (hm500.castL (by kernel_rfl))
    have hal := hal.moved (hm500.castL (by kernel_rfl))
    refine sim_know 70 (decide ((↑((clsM u l).length, Value.slice Lv (clsM u l).flatten.length cv).fst : Int) < (↑(clsM u l).length : Int))) false (by kernel_rfl) (decide_eq_false (by omega)) ?_
    refine sim_run 1 [] (hR500.cast (by kernel_rfl)) (by kernel_rfl) trivial (fun ρ501 w501 hm501 hR501 => ?_)
    have hp := hp.moved (hm501.castL (by kernel_rfl))
    have hag := hag.moved (hm501.castL (by kernel_rfl))
    have hal := hal.moved (hm501.castL (by kernel_rfl))
    refine sim_leave (by kernel_rfl) ?_
    refine sim_run 3 [] (hR501.cast (by kernel_rfl)) (by kernel_rfl) trivial (fun ρ502 w502 hm502 hR502 => ?_)
    have hp := hp.moved (hm502.castL (by kernel_rfl))
    have hag := hag.moved (hm502.castL (by kernel_rfl))
    have hal := hal.moved (hm502.castL (by kernel_rfl))
    
    have hbN := hag.ag
    refine sim_to (regK Try.f8 28) (tmplJ Try.f8.ntmps 0 [(2, .v (.slice A n cp)), (7, .ptr 0 0), (10, .v (.slice cL (clsM u l).length cc)), (11, .v (.slice tL (topsM u ls l).length tc)), (12, .v (.slice Lv (clsM u l).flatten.length cv))]) [gR q] (by kernel_rfl) (by kernel_rfl) (by kernel_rfl) (fun d6 => ?_)
    exact parts_28 ((by assumption : Rel _ _ _ _ _).cast (by kernel_rfl)) hrd (hp.castR (by kernel_rfl)) (hal.castR (by kernel_rfl)) ⟨_, rfl⟩ hGI ((hbN 0 (by omega)).trans e0) (fun _ => Iff.rfl) hl (by omega) rfl d6 hfin
end

section
open Go Go.RowKit
def okP (w0 : World) : Ending → World → Prop := fun e w' => e = .returned (.bool true) ∧ Below w0.heap.size w0 w'
attribute [local irreducible] run goO leaveK someK nextK nextT nextOT nextOD loopBody loopRest loopK fillJ tmplOf tmplJ mergeT At AtO drawOk ordOf gateOf callC callO topOp topO idxOf appOf storeOf clearOf sliceOf calleeOf calleeO topQ idxQ newRowOf resL stepOp seek
set_option maxRecDepth 100000 in
set_option maxHeartbeats 4000000 in
theorem parts_56 {w0 w : World} {ρ : Nm} {cL tL : Option Addr} {cn tn cc tc : Nat} (hR : Rel [] w0 ρ [] w) (h : 0 < tn ∨ (tn = 0 ∧ cn = 0)) (d : Nat → Value) :
    At Try.prog (bodyPost Try.prog Try.f8 (okP w0)) ⟨regK Try.f8 56, fillJ (tmplJ Try.f8.ntmps 0 [(10, .v (.slice cL cn cc)), (11, .v (.slice tL tn tc))]) d 0, []⟩ ρ w := by
  unfold okP
  rcases h with h | ⟨rfl, rfl⟩
  · refine sim_call 22 [] (by kernel_rfl) ?_
    refine Calls.mono (alive19_any _) ?_
    rintro e100 w100 ⟨rfl, hb100⟩
    have hR100 := hR.below hb100
    refine Back.of (LB true) hR100 rfl ?_
    refine sim_run 5 [] (hR100.cast (by kernel_rfl)) (by kernel_rfl) trivial (fun ρ101 w101 hm101 hR101 => ?_)
    refine sim_know 249 (decide ((↑tn : Int) > 0)) true (by kernel_rfl) (decide_eq_true (by omega)) ?_
    refine sim_run 7 [] (hR101.cast (by kernel_rfl)) (by kernel_rfl) trivial (fun ρ102 w102 hm102 hR102 => ?_)
    refine sim_ret (LB true) hR102 (by kernel_rfl) (by kernel_rfl) ?_
    exact ⟨rfl, hR102.toBelow⟩
    
  · refine sim_call 22 [] (by kernel_rfl) ?_
    refine Calls.mono (alive19_any _) ?_
    rintro e200 w200 ⟨rfl, hb200⟩
    have hR200 := hR.below hb200
    refine Back.of (LB true) hR200 rfl ?_
    refine sim_run 12 [] (hR200.cast (by kernel_rfl)) (by kernel_rfl) trivial (fun ρ201 w201 hm201 hR201 => ?_)
    refine sim_ret (LB true) hR201 (by kernel_rfl) (by kernel_rfl) ?_
    exact ⟨rfl, hR201.toBelow⟩
    
set_option maxRecDepth 100000 in
set_option maxHeartbeats 4000000 in
theorem parts_10 {w0 w : World} {ρ : Nm} {q : GrP} {u : List Nat} {ls : List Lk} {l : List In} {A : Option Addr} {n cp : Nat} (hR : Rel [] w0 ρ [gR q] w) (hrd : Reads w0 w0.heap.size 21 A n (insts l)) (hs : Sta q.has (GrV q u ls) ρ [gR q] w) (hGI : GInv u ls) (e0 : ρ 0 = (q.b, 0)) (hl : l.length ≤ 30) (d : Nat → Value) :
    At Try.prog (bodyPost Try.prog Try.f8 (okP w0)) ⟨regK Try.f8 10, fillJ (tmplJ Try.f8.ntmps 0 [(2, .v (.slice A n cp)), (7, .ptr 0 0)]) d 0, [gR q]⟩ ρ w := by
  have hag := hR.ag_ 1 (by kernel_rfl)
  refine sim_run 2 [] (hR.cast (by kernel_rfl)) (by kernel_rfl) trivial (fun ρ1100 w1100 hm1100 hR1100 => ?_)
  have hs := hs.moved (hm1100.castL (by kernel_rfl))
  have hag := hag.moved (hm1100.castL (by kernel_rfl))
  
  refine sim_call 26 [.ptr 0 0, .v (.slice A n cp)] (by kernel_rfl) ?_
  have e1 := (hag.at_ 0 (by omega)).trans e0
  simp only [denL, LV.den, Nm.at_, e1, Nat.add_zero]
  have hR1 := (by assumption : Rel _ _ _ _ _)
  refine Calls.mono (classesG_any l A n cp _ _ (hrd.keeps hR1.keeps (Nat.le_refl _) (by simp)) hR1.keeps.size (by omega) q u ls hs.is hGI) ?_
  intro ec wc hcn
  obtain ⟨cL, cc, rfl, hrz, hbc⟩ := clsN_rows hcn
  have hcz := Sta.rowsZ hR1 hrz
  have hR2 := hR1.below hbc
  have hs := hs.below hbc
  clear hcn hrz
  refine Back.of (.v (.slice cL (clsM u l).length cc)) hR2 rfl ?_
  refine sim_run 2 [] (hR2.cast (by kernel_rfl)) (by kernel_rfl) trivial (fun ρ1200 w1200 hm1200 hR1200 => ?_)
  have hag := hag.moved (hm1200.castL (by kernel_rfl))
  have hcz := hcz.moved (hm1200.castL (by kernel_rfl))
  have hs := hs.moved (hm1200.castL (by kernel_rfl))
  
  refine sim_call 27 [.ptr 0 0, .v (.slice A n cp)] (by kernel_rfl) ?_
  have e2 := (hag.at_ 0 (by omega)).trans e0
  simp only [denL, LV.den, Nm.at_, e2, Nat.add_zero]
  have hR3 := (by assumption : Rel _ _ _ _ _)
  refine Calls.mono (topsG_any l A n cp _ _ (hrd.keeps hR3.keeps (Nat.le_refl _) (by simp)) hR3.keeps.size (by omega) q u ls hs.is hGI) ?_
  intro et wt htn
  obtain ⟨tL, tc, rfl, hrz, hbt⟩ := clsN_rows htn
  have htz := Sta.rowsZ hR3 hrz
  have hR4 := hR3.below hbt
  have hs := hs.below hbt
  have hcz := hcz.below hbt
  have hql := hs.lt
  have hcB : wc.heap.size ≤ wt.heap.size := Nat.le_trans hm1200.kept.size hbt.size
  have hwt := hR4.keeps.size
  have hps : PS q u ls _ _ cL (clsM u l) _ _ tL (topsM u ls l) _ _ _ := ⟨hs, hcz, htz, ⟨Nat.le_refl _, fun _ h => h.elim, fun _ h => h.elim, SzW.same⟩⟩
  clear htn hrz hs hcz htz
  refine Back.of (.v (.slice tL (topsM u ls l).length tc)) hR4 rfl ?_
  refine sim_run 5 [] (hR4.cast (by kernel_rfl)) (by kernel_rfl) trivial (fun ρ1300 w1300 hm1300 hR1300 => ?_)
  have hag := hag.moved (hm1300.castL (by kernel_rfl))
  have hps := hps.moved (hm1300.castL (by kernel_rfl))
  
  refine sim_to (regK Try.f8 11) (tmplJ Try.f8.ntmps 0 [(2, .v (.slice A n cp)), (7, .ptr 0 0), (10, .v (.slice cL (clsM u l).length cc)), (11, .v (.slice tL (topsM u ls l).length tc))]) [gR q] (by kernel_rfl) (by kernel_rfl) (by kernel_rfl) (fun d6 => ?_)
  refine parts_11 ((by assumption : Rel _ _ _ _ _).cast (by kernel_rfl)) hrd (hps.castR (by kernel_rfl)) hGI ((hag.at_ 0 (by omega)).trans e0) hl hql hcB hwt d6 (fun ρ' w' d' hR' => parts_56 hR' ?_ d')
  by_cases hc : clsM u l = []
  · right
    have ht : topsM u ls l = [] := by unfold topsM; rw [hc]; rfl
    rw [hc, ht]
    exact ⟨rfl, rfl⟩
  · exact .inl (List.length_pos_iff.2 (tops_some hGI hc))
end

section
open Go Go.RowKit
theorem parts_add (q : GrP) (u : List Nat) (ls : List Lk) (x : Lk) (A : Option Addr) (w : World) (h : GrV q u ls w) (hi : GInv u ls) (hr : Reads w w.heap.size 3 A 1 (lkV [x])) (hA : ∀ a, A = some a → ¬ q.has a.block) : Calls Try.prog 11 #[.pointer (some ⟨q.b, 0, none⟩), .slice A 1 1] w (AddQ w q (tryM u ls [x]) (addU u ls [x]) (addL u ls [x])) :=
  add_at q u ls A 1 1 w.heap.size [x] _ _ _ w h hi hr (Nat.le_refl _) (by omega) (fun a e _ => hA a e) rfl rfl rfl
attribute [local irreducible] run goO leaveK someK nextK nextT nextOT nextOD loopBody loopRest loopK fillJ tmplOf tmplJ mergeT At AtO drawOk ordOf gateOf callC callO topOp topO idxOf appOf storeOf clearOf sliceOf calleeOf calleeO topQ idxQ newRowOf resL stepOp seek
set_option maxRecDepth 100000 in
set_option maxHeartbeats 4000000 in
theorem seqParts_walk (w : World) (n : Int) (hn64 : -9223372036854775808 ≤ n ∧ n ≤ 9223372036854775807) (B : Option Addr) (k c : Nat) (lks : List Lk) (hlk : Lks w B k lks) (A : Option Addr) (m cp : Nat) (l : List In) (hrd : Reads w w.heap.size 21 A m (insts l)) : Calls Try.prog 8 #[.int .i64 n, .slice B k c, .slice A m cp] w fun e w' => e = .returned (.bool true) ∧ Below w.heap.size w w' := by
  refine sim_enter Try.func8 ρ0 [LI n, .v (.slice B k c), .v (.slice A m cp)] [] (by kernel_rfl) rfl ?_
  have hR := Rel.start [] w ρ0
  have hll := lkV_num hlk.rd
  have hln := hrd.insts_len
  refine sim_run 10 [] (hR.cast (by kernel_rfl)) (by kernel_rfl) trivial (fun ρ7100 w7100 hm7100 hR7100 => ?_)
  refine sim_fork 26 (decide (n < 0)) (by kernel_rfl) (fun hq7101 => ?_) (fun hq7101 => ?_)
  have hq7101 := of_decide_eq_true hq7101
  refine sim_run 17 [] (hR7100.cast (by kernel_rfl)) (by kernel_rfl) trivial (fun ρ7102 w7102 hm7102 hR7102 => ?_)
  refine sim_call 22 [] (by kernel_rfl) ?_
  refine Calls.mono (alive19_any _) ?_
  rintro e7103 w7103 ⟨rfl, hb7103⟩
  have hR7103 := hR7102.below hb7103
  refine Back.of (LB true) hR7103 rfl ?_
  refine sim_run 2 [] (hR7103.cast (by kernel_rfl)) (by kernel_rfl) trivial (fun ρ7104 w7104 hm7104 hR7104 => ?_)
  refine sim_ret (LB true) hR7104 (by kernel_rfl) (by kernel_rfl) ?_
  exact ⟨rfl, hR7104.toBelow⟩
  have hq7101 := of_decide_eq_false hq7101
  refine sim_run 4 [] (hR7100.cast (by kernel_rfl)) (by kernel_rfl) trivial (fun ρ7105 w7105 hm7105 hR7105 => ?_)
  refine sim_fork 30 (decide (n > 30)) (by kernel_rfl) (fun hq7106 => ?_) (fun hq7106 => ?_)
  have hq7106 := of_decide_eq_true hq7106
  refine sim_run 13 [] (hR7105.cast (by kernel_rfl)) (by kernel_rfl) trivial (fun ρ7107 w7107 hm7107 hR7107 => ?_)
  refine sim_call 22 [] (by kernel_rfl) ?_
  refine Calls.mono (alive19_any _) ?_
  rintro e7108 w7108 ⟨rfl, hb7108⟩
  have hR7108 := hR7107.below hb7108
  refine Back.of (LB true) hR7108 rfl ?_
  refine sim_run 2 [] (hR7108.cast (by kernel_rfl)) (by kernel_rfl) trivial (fun ρ7109 w7109 hm7109 hR7109 => ?_)
  refine sim_ret (LB true) hR7109 (by kernel_rfl) (by kernel_rfl) ?_
  exact ⟨rfl, hR7109.toBelow⟩
  have hq7106 := of_decide_eq_false hq7106
  refine sim_run 5 [] (hR7105.cast (by kernel_rfl)) (by kernel_rfl) trivial (fun ρ7110 w7110 hm7110 hR7110 => ?_)
  refine sim_fork 35 (decide ((↑k : Int) > 40)) (by kernel_rfl) (fun hq7111 => ?_) (fun hq7111 => ?_)
  have hq7111 := of_decide_eq_true hq7111
  refine sim_run 8 [] (hR7110.cast (by kernel_rfl)) (by kernel_rfl) trivial (fun ρ7112 w7112 hm7112 hR7112 => ?_)
  refine sim_call 22 [] (by kernel_rfl) ?_
  refine Calls.mono (alive19_any _) ?_
  rintro e7113 w7113 ⟨rfl, hb7113⟩
  have hR7113 := hR7112.below hb7113
  refine Back.of (LB true) hR7113 rfl ?_
  refine sim_run 2 [] (hR7113.cast (by kernel_rfl)) (by kernel_rfl) trivial (fun ρ7114 w7114 hm7114 hR7114 => ?_)
  refine sim_ret (LB true) hR7114 (by kernel_rfl) (by kernel_rfl) ?_
  exact ⟨rfl, hR7114.toBelow⟩
  have hq7111 := of_decide_eq_false hq7111
  refine sim_run 5 [] (hR7110.cast (by kernel_rfl)) (by kernel_rfl) trivial (fun ρ7115 w7115 hm7115 hR7115 => ?_)
  refine sim_fork 39 (decide ((↑m : Int) > 30)) (by kernel_rfl) (fun hq7116 => ?_) (fun hq7116 => ?_)
  have hq7116 := of_decide_eq_true hq7116
  refine sim_run 3 [] (hR7115.cast (by kernel_rfl)) (by kernel_rfl) trivial (fun ρ7117 w7117 hm7117 hR7117 => ?_)
  refine sim_call 22 [] (by kernel_rfl) ?_
  refine Calls.mono (alive19_any _) ?_
  rintro e7118 w7118 ⟨rfl, hb7118⟩
  have hR7118 := hR7117.below hb7118
  refine Back.of (LB true) hR7118 rfl ?_
  refine sim_run 2 [] (hR7118.cast (by kernel_rfl)) (by kernel_rfl) trivial (fun ρ7119 w7119 hm7119 hR7119 => ?_)
  refine sim_ret (LB true) hR7119 (by kernel_rfl) (by kernel_rfl) ?_
  exact ⟨rfl, hR7119.toBelow⟩
  have hq7116 := of_decide_eq_false hq7116
  refine sim_run 4 [] (hR7115.cast (by kernel_rfl)) (by kernel_rfl) trivial (fun ρ7120 w7120 hm7120 hR7120 => ?_)
  
  obtain ⟨N, rfl⟩ : ∃ N : Nat, n = N := ⟨n.toNat, by omega⟩
  have hN : N ≤ 1000 := by omega
  have hR3 := (by assumption : Rel _ _ _ _ _).cast (rs' := []) (by kernel_rfl)
  refine sim_to (regK Try.f8 3) (tmplJ Try.f8.ntmps 0 [(0, LI (N : Int)), (1, .v (.slice B k c)), (2, .v (.slice A m cp))]) [] (by kernel_rfl) (by kernel_rfl) (by kernel_rfl) (fun d3 => ?_)
  refine sim_run 1 [] (hR3.cast (by kernel_rfl)) (by kernel_rfl) trivial (fun ρ7200 w7200 hm7200 hR7200 => ?_)
  refine sim_call 10 [LI ((↑N : Int))] (by kernel_rfl) ?_
  refine Calls.mono (newG_any (N) (hN) _) ?_
  rintro e7201 w7201 ⟨⟨b, pb, pg, Ap, cp0, L, cl⟩, rfl, hg7201, hge7201, hb7201⟩
  refine Back.gr 0 (by kernel_rfl) hg7201 hge7201 (hR7200) hb7201 (by kernel_rfl) (fun ρ7201 e0 hm7201 hR7201 hs => ?_)
  have hT0 := fun x hx => Or.inr (a := x ∈ ([] : List Nat)) (Nat.le_trans (hR7200).keeps.size (hge7201 x hx))
  have hag := hR7201.ag_ 1 (by kernel_rfl)
  refine sim_run 20 [] (hR7201.cast (by kernel_rfl)) (by kernel_rfl) trivial (fun ρ7202 w7202 hm7202 hR7202 => ?_)
  have hs := hs.moved (hm7202.castL (by kernel_rfl))
  have hag := hag.moved (hm7202.castL (by kernel_rfl))
  
  have e0 := (hag.at_ 0 (by omega)).trans e0
  have hGI : GInv (Uf.fresh N) [] := GInv.fresh hN
  refine sim_loop (ι := Nat × GrP × List Nat × List Lk) (T := []) (w0 := w) (0, ⟨b, pb, pg, Ap, cp0, L, cl⟩, Uf.fresh N, []) [1, 2, 7] (fun x => [(9, LI x.1)]) (fun _ => [gR ⟨b, pb, pg, Ap, cp0, L, cl⟩]) (fun x w1 => x.1 ≤ k ∧ x.2.1.b = b ∧ x.2.1.pb = pb ∧ Sta x.2.1.has (GrV x.2.1 x.2.2.1 x.2.2.2) ρ7202 [gR ⟨b, pb, pg, Ap, cp0, L, cl⟩] w1 ∧ GInv x.2.2.1 x.2.2.2 ∧ (∀ y, x.2.1.has y → y ∈ ([] : List Nat) ∨ w.heap.size ≤ y)) (fun x => k - x.1) (by kernel_rfl) (by kernel_rfl) ((by assumption : Rel _ _ _ _ _).cast (by kernel_rfl)) ⟨Nat.zero_le _, rfl, rfl, hs.castR (by kernel_rfl), hGI, hT0⟩ ?_
  iterate 8 (try clear hs)
  iterate 8 (try clear hag)
  iterate 8 (try clear hT0)
  rintro ⟨i, ⟨b1, pb1, pg1, A1, c1, L1, cl1⟩, u, ls⟩ d w2 hR2 ⟨hi, hb1, hpb1, hs, hGI, hT0⟩
  dsimp only at hi hb1 hpb1 hs hGI hT0
  subst hb1 hpb1
  have hag := hR2.ag_ 1 (by kernel_rfl)
  by_cases hlt : i < k
  · obtain ⟨x, hx⟩ : ∃ x, lks[i]? = some x := ⟨_, List.getElem?_eq_getElem (by omega)⟩
    refine sim_see x.cells i 1 (by kernel_rfl) (by rw [List.getElem?_map, hx]; rfl) hlk.rd (lk_in lks) (by omega) hlt (Nat.le_refl _) (by simp) hR2 (by kernel_rfl) (fun ga oa ρE eA hgT hgl hmE eE hRE => ?_)
    subst eA
    have hs := hs.moved hmE
    have hag := hag.moved hmE
    have hag2 := hRE.ag_ 2 (by kernel_rfl)
    refine sim_run 8 [] (hRE.cast (by kernel_rfl)) (by kernel_rfl) trivial (fun ρ7300 w7300 hm7300 hR7300 => ?_)
    have hs := hs.moved (hm7300.castL (by kernel_rfl))
    have hag := hag.moved (hm7300.castL (by kernel_rfl))
    have hag2 := hag2.moved (hm7300.castL (by kernel_rfl))
    refine sim_know 51 (decide ((↑(i, GrP.mk b1 pb1 pg1 A1 c1 L1 cl1, u, ls).fst : Int) < (↑k : Int))) true (by kernel_rfl) (decide_eq_true (by omega)) ?_
    refine sim_run 8 [] (hR7300.cast (by kernel_rfl)) (by kernel_rfl) trivial (fun ρ7301 w7301 hm7301 hR7301 => ?_)
    have hs := hs.moved (hm7301.castL (by kernel_rfl))
    have hag := hag.moved (hm7301.castL (by kernel_rfl))
    have hag2 := hag2.moved (hm7301.castL (by kernel_rfl))
    refine sim_place (.v (.slice (some ⟨ga, oa, none⟩) k c)) k 3 i 1 0 (by kernel_rfl) (by omega) (by omega) rfl (by simp only [Nm.at_, hag2.at_ 1 (by omega), eE, Nat.add_zero, Int.toNat_natCast]) ?_
    refine sim_run 2 [] (hR7301.cast (by kernel_rfl)) (by kernel_rfl) trivial (fun ρ7303 w7303 hm7303 hR7303 => ?_)
    have hs := hs.moved (hm7303.castL (by kernel_rfl))
    have hag := hag.moved (hm7303.castL (by kernel_rfl))
    have hag2 := hag2.moved (hm7303.castL (by kernel_rfl))
    
    refine sim_call 11 [.ptr 0 0, .slc 2 0 1 1] (by kernel_rfl) ?_
    have ezT := (hag.at_ 0 (by omega)).trans e0
    simp only [denL, LV.den, Nm.at_, ezT, Nat.add_zero]
    have hRT := (by assumption : Rel _ _ _ _ _)
    have a1T := hs.is
    have a2T := Rel.reads hRT (n := 2) (size := 3) (m := 1) (vs := lkV [x]) (b := true) (by kernel_rfl) rfl
    have a3T := hs.farA (n := 2) (r := ⟨(lkV [x]).map .v, true⟩) (by kernel_rfl) rfl
    have a4T := parts_add _ u ls x _ _ a1T hGI a2T (a3T _)
    refine Calls.mono a4T ?_
    rintro eT wT ⟨rfl, pg2, A2', cp2, L2, cl2, hgT, hkT, hhT⟩
    have hga : (ρ7303 1).1 = ga := by rw [hag2.at_ 1 (by omega), eE]
    have hRq := hRT.afterG hs hkT hgT rfl rfl hT0 0 (by kernel_rfl) ezT [0, 1] (by kernel_rfl) (fun k hk hne hq => by
      obtain rfl : k = 1 := by simp at hk; omega
      rw [hga] at hq
      exact (hT0 _ hq).elim (by simp) (fun h => by omega))
    have hs2 := hs.afterG hRT hgT hhT
    have hT2 := hT_new hRT hT0 hhT
    clear hs hT0 a1T a2T a3T a4T hRT
    have hs := hs2
    have hT0 := hT2
    clear hs2 hT2
    have hGI2 := hGI.addM [x]
    refine Back.of (LI (tryM u ls [x])) hRq rfl ?_
    refine sim_run 7 [⟨8, 1, LI (IntKind.i64.wrap ((↑i : Int) + 1)), LI ((↑i : Int) + 1)⟩] (hRq.cast (by kernel_rfl)) (by kernel_rfl) ⟨eqi (IntWalk.i64_in _ (by omega)), trivial⟩ (fun ρ7500 w7500 hm7500 hR7500 => ?_)
    have hag := hag.moved (hm7500.castL (by kernel_rfl))
    have hag2 := hag2.moved (hm7500.castL (by kernel_rfl))
    have hs := hs.moved (hm7500.castL (by kernel_rfl))
    
    exact sim_again (i + 1, ⟨b1, pb1, pg2, A2', cp2, L2, cl2⟩, addU u ls [x], addL u ls [x]) (by kernel_rfl) (by show k - (i + 1) < k - i; omega) (by kernel_rfl) (by kernel_rfl) (by kernel_rfl) hag.ag (Rel.cast (by assumption) (by kernel_rfl)) (by kernel_rfl) (by kernel_rfl) ⟨hlt, rfl, rfl, hs.cut hag rfl (by kernel_rfl), hGI2, hT0⟩
  · refine sim_run 8 [] (hR2.cast (by kernel_rfl)) (by kernel_rfl) trivial (fun ρ7400 w7400 hm7400 hR7400 => ?_)
    have hs := hs.moved (hm7400.castL (by kernel_rfl))
    have hag := hag.moved (hm7400.castL (by kernel_rfl))
    refine sim_know 51 (decide ((↑(i, GrP.mk b1 pb1 pg1 A1 c1 L1 cl1, u, ls).fst : Int) < (↑k : Int))) false (by kernel_rfl) (decide_eq_false (by omega)) ?_
    refine sim_run 1 [] (hR7400.cast (by kernel_rfl)) (by kernel_rfl) trivial (fun ρ7401 w7401 hm7401 hR7401 => ?_)
    have hs := hs.moved (hm7401.castL (by kernel_rfl))
    have hag := hag.moved (hm7401.castL (by kernel_rfl))
    refine sim_leave (by kernel_rfl) ?_
    refine sim_run 2 [] (hR7401.cast (by kernel_rfl)) (by kernel_rfl) trivial (fun ρ7402 w7402 hm7402 hR7402 => ?_)
    have hs := hs.moved (hm7402.castL (by kernel_rfl))
    have hag := hag.moved (hm7402.castL (by kernel_rfl))
    
    refine sim_to (regK Try.f8 10) (tmplJ Try.f8.ntmps 0 [(2, .v (.slice A m cp)), (7, .ptr 0 0)]) [gR ⟨b1, pb1, pg1, A1, c1, L1, cl1⟩] (by kernel_rfl) (by kernel_rfl) (by kernel_rfl) (fun d4 => ?_)
    exact parts_10 (w0 := w) ((by assumption : Rel _ _ _ _ _).cast (by kernel_rfl)) hrd (hs.castR (by kernel_rfl)) hGI ((hag.at_ 0 (by omega)).trans e0) (by omega) d4
end
end Go.Proofs.Ytnfgndapalkbcaa
