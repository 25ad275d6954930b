/-
  complinelaw10.alive answers true.
  pos: plain laws: what is added and taken off again.
  pos: plain laws: what all positions come to.
-/
import Derived.Test.YtgbgedaedcofcaaPosDG
namespace Go.Proofs.Ytgbgedaedcofcaa
section
open Go Go.RowKit
attribute [local irreducible] run goO leaveK someK nextK nextT nextOT nextOD loopBody loopRest loopK fillJ tmplOf tmplJ mergeT At AtO drawOk ordOf gateOf callC callO topOp topO idxOf appOf storeOf clearOf sliceOf calleeOf calleeO topQ idxQ newRowOf resL stepOp seek

set_option maxRecDepth 100000 in
set_option maxHeartbeats 4000000 in
theorem alive10_any (w : World) : Calls Try.prog 15 #[] w fun e w' => e = .returned (.bool true) ∧ Below w.heap.size w w' := by
  refine sim_enter Try.func15 ρ0 [] [] (by kernel_rfl) rfl ?_
  have hR := Rel.start [] w ρ0
  refine sim_run 6 [] (hR.cast (by kernel_rfl)) (by kernel_rfl) trivial (fun ρ100 w100 hm100 hR100 => ?_)
  refine sim_call 14 [] (by kernel_rfl) ?_
  refine Calls.mono (new_any _) ?_
  rintro e101 w101 ⟨g, rfl, hg101, hb101, hbel101⟩
  have hBw := hR100.keeps.size
  have hpo := PoO.new hR100 hg101 hb101
  have hR101 := hR100.below hbel101
  refine Back.of (.v (Value.pointer (some (Addr.mk g 0 none)))) hR101 rfl ?_
  refine sim_run 16 [] (hR101.cast (by kernel_rfl)) (by kernel_rfl) trivial (fun ρ102 w102 hm102 hR102 => ?_)
  have hpo := hpo.moved (hm102.castL (by kernel_rfl))
  refine sim_call 16 [.v (Value.pointer (some (Addr.mk g 0 none))), .agg [LS (ByteArray.mk #[65]), LS (ByteArray.mk #[88])], LI 0, LI 5] (by kernel_rfl) ?_
  refine Calls.mono (add_po _ _ _ _ _ _ _ _ _ _ hpo.po) ?_
  rintro e103 w103 ⟨v103, c103, rfl, hpo103, hk103, hv103⟩
  obtain ⟨hpo, hR103⟩ := hpo.after hR102 hBw hpo103 hk103 hv103 [] (by kernel_rfl) (by simp)
  refine Back.of (LI (addC (getM [] (ByteArray.mk #[65], ByteArray.mk #[88])) 0 5)) hR103 rfl ?_
  refine sim_run 5 [] (hR103.cast (by kernel_rfl)) (by kernel_rfl) trivial (fun ρ104 w104 hm104 hR104 => ?_)
  have hpo := hpo.moved (hm104.castL (by kernel_rfl))
  refine sim_call 16 [.v (Value.pointer (some (Addr.mk g 0 none))), .agg [LS (ByteArray.mk #[65]), LS (ByteArray.mk #[88])], LI 0, LI (-6)] (by kernel_rfl) ?_
  refine Calls.mono (add_po _ _ _ _ _ _ _ _ _ _ hpo.po) ?_
  rintro e105 w105 ⟨v105, c105, rfl, hpo105, hk105, hv105⟩
  obtain ⟨hpo, hR105⟩ := hpo.after hR104 hBw hpo105 hk105 hv105 [] (by kernel_rfl) (by simp)
  refine Back.of (LI (addC (getM (addL 0 [] (ByteArray.mk #[65], ByteArray.mk #[88]) 0 5) (ByteArray.mk #[65], ByteArray.mk #[88])) 0 (-6))) hR105 rfl ?_
  refine sim_run 9 [] (hR105.cast (by kernel_rfl)) (by kernel_rfl) trivial (fun ρ106 w106 hm106 hR106 => ?_)
  have hpo := hpo.moved (hm106.castL (by kernel_rfl))
  
  have hl : ∀ c, addL c (addL 0 [] (⟨#[65]⟩, ⟨#[88]⟩) 0 5) (⟨#[65]⟩, ⟨#[88]⟩) 0 (-6) = [⟨(⟨#[65]⟩, ⟨#[88]⟩), (5, 0, 0), 0⟩] := fun c => by kernel_rfl
  rw [hl] at hpo
  have hk : sortKs (pickKs [⟨#[88]⟩] [⟨(⟨#[65]⟩, ⟨#[88]⟩), (5, 0, 0), 0⟩]) = [(⟨#[65]⟩, ⟨#[88]⟩)] := by
    rw [show pickKs [⟨#[88]⟩] [⟨(⟨#[65]⟩, ⟨#[88]⟩), (5, 0, 0), 0⟩] = [(⟨#[65]⟩, ⟨#[88]⟩)] from by kernel_rfl]
    exact List.mergeSort_singleton _
  refine sim_call 18 [.v (Value.pointer (some (Addr.mk g 0 none))), .slc 1 0 1 1] (by kernel_rfl) ?_
  refine Calls.mono (keys_po _ _ _ _ _ _ _ _ _ ([⟨#[88]⟩]) _ hpo.po (hR106.readsP (n := 1) (size := 1) (m := 1) (vs := txtsV [⟨#[88]⟩]) (b := true) (by kernel_rfl) rfl) (by omega) (by omega) (by decide)) ?_
  rw [hk]
  rintro e200 w200 ⟨A200, cp200, rfl, ho200, hb200⟩
  rw [List.flatMap_def] at ho200
  have hrow := Own.start hR106 ho200
  have hR200 := hR106.below hb200
  have hpo := hpo.below hb200
  refine Back.of (.v (Value.slice A200 [(ByteArray.mk #[65], ByteArray.mk #[88])].length cp200)) hR200 rfl ?_
  refine sim_run 3 [] (hR200.cast (by kernel_rfl)) (by kernel_rfl) trivial (fun ρ201 w201 hm201 hR201 => ?_)
  have hrow := hrow.moved (hm201.castL (by kernel_rfl))
  have hpo := hpo.moved (hm201.castL (by kernel_rfl))
  
  obtain ⟨ga, oa, hA, _, _⟩ := (Reads.of_own hrow.own).spot (by decide) (by omega)
  subst hA
  have hrow : Own _ _ _ _ 24 2 (.slice (some ⟨ga, oa, none⟩) 1 cp200) 1 [[.string ⟨#[65]⟩, .string ⟨#[88]⟩]].flatten := hrow
  refine sim_seeO (xss := [[.string ⟨#[65]⟩, .string ⟨#[88]⟩]]) (sz := 2) (n := 1) [.string ⟨#[65]⟩, .string ⟨#[88]⟩] 0 2 (by kernel_rfl) (by rfl) hrow (by intro y hy; rw [List.mem_singleton.1 hy]; rfl) (by omega) (by omega) (by assumption : Rel _ _ _ _ _) (by kernel_rfl) (fun ρ4 hm4 e4 hR4 => ?_)
  have hpo := hpo.moved hm4
  have hag := hR4.ag_ 3 (by kernel_rfl)
  refine sim_draw [] (by kernel_rfl) (by kernel_rfl) hR4 (fun hR300 => ?_)
  have hrow := hrow.drew
  have hpo := hpo.drew
  refine sim_ordN 3 [] hR300 (by kernel_rfl) trivial (fun ρ301 w301 hm301 hR301 => ?_)
  have hag := hag.moved (hm301.castL (by kernel_rfl))
  have hpo := hpo.moved (hm301.castL (by kernel_rfl))
  refine sim_ord_call (T := []) (w0 := w) 17 [.v (Value.pointer (some (Addr.mk g 0 none))), .agg [LS (ByteArray.mk #[65]), LS (ByteArray.mk #[88])]] (by kernel_rfl) ?_
  refine Calls.mono (get_po _ _ _ _ _ _ _ _ hpo.po) ?_
  rintro e302 w302 ⟨rfl, hb302⟩
  have hR302 := hR301.call hb302 (.agg [LI ((getM [Ent.mk (ByteArray.mk #[65], ByteArray.mk #[88]) (5, 0, 0) 0] (ByteArray.mk #[65], ByteArray.mk #[88])).fst), LI ((getM [Ent.mk (ByteArray.mk #[65], ByteArray.mk #[88]) (5, 0, 0) 0] (ByteArray.mk #[65], ByteArray.mk #[88])).snd.fst), LI ((getM [Ent.mk (ByteArray.mk #[65], ByteArray.mk #[88]) (5, 0, 0) 0] (ByteArray.mk #[65], ByteArray.mk #[88])).snd.snd)])
  have hpo := hpo.below hb302
  refine BackO.of (.agg [LI ((getM [Ent.mk (ByteArray.mk #[65], ByteArray.mk #[88]) (5, 0, 0) 0] (ByteArray.mk #[65], ByteArray.mk #[88])).fst), LI ((getM [Ent.mk (ByteArray.mk #[65], ByteArray.mk #[88]) (5, 0, 0) 0] (ByteArray.mk #[65], ByteArray.mk #[88])).snd.fst), LI ((getM [Ent.mk (ByteArray.mk #[65], ByteArray.mk #[88]) (5, 0, 0) 0] (ByteArray.mk #[65], ByteArray.mk #[88])).snd.snd)]) hR302 rfl ?_
  refine sim_ordN 8 [] hR302 (by kernel_rfl) trivial (fun ρ303 w303 hm303 hR303 => ?_)
  have hag := hag.moved (hm303.castL (by kernel_rfl))
  have hpo := hpo.moved (hm303.castL (by kernel_rfl))
  refine sim_ord_index (.v (.slice (some ⟨ga, oa, none⟩) 1 cp200)) 1 2 0 2 0 (by kernel_rfl) (by omega) (by omega) rfl hR303 (by simp only [Nm.at_, hag.at_ 2 (by omega), e4]; rfl) (fun hR304 => ?_)
  refine sim_ordN 6 [] hR304 (by kernel_rfl) trivial (fun ρ305 w305 hm305 hR305 => ?_)
  have hag := hag.moved (hm305.castL (by kernel_rfl))
  have hpo := hpo.moved (hm305.castL (by kernel_rfl))
  refine sim_ord_call (T := []) (w0 := w) 21 [.v (Value.pointer (some (Addr.mk g 0 none))), LS (ByteArray.mk #[88])] (by kernel_rfl) ?_
  refine Calls.mono (total_po _ _ _ _ _ _ _ hpo.po (by decide)) ?_
  rw [hk]
  rintro e306 w306 ⟨rfl, hb306⟩
  have hR306 := hR305.call hb306 (LI (clampV (sumI (allOf [Ent.mk (ByteArray.mk #[65], ByteArray.mk #[88]) (5, 0, 0) 0] [(ByteArray.mk #[65], ByteArray.mk #[88])]))))
  have hpo := hpo.below hb306
  refine BackO.of (LI (clampV (sumI (allOf [Ent.mk (ByteArray.mk #[65], ByteArray.mk #[88]) (5, 0, 0) 0] [(ByteArray.mk #[65], ByteArray.mk #[88])])))) hR306 rfl ?_
  refine sim_ordN 5 [] hR306 (by kernel_rfl) trivial (fun ρ307 w307 hm307 hR307 => ?_)
  have hag := hag.moved (hm307.castL (by kernel_rfl))
  have hpo := hpo.moved (hm307.castL (by kernel_rfl))
  refine sim_ord_call (T := []) (w0 := w) 19 [.v (Value.pointer (some (Addr.mk g 0 none))), .agg [LS (ByteArray.mk #[65]), LS (ByteArray.mk #[88])], LI 1] (by kernel_rfl) ?_
  refine Calls.mono (part_po _ _ _ _ _ _ _ _ _ hpo.po) ?_
  rintro e308 w308 ⟨rfl, hb308⟩
  have hR308 := hR307.call hb308 (LI (partM (getM [Ent.mk (ByteArray.mk #[65], ByteArray.mk #[88]) (5, 0, 0) 0] (ByteArray.mk #[65], ByteArray.mk #[88])) 1))
  have hpo := hpo.below hb308
  refine BackO.of (LI (partM (getM [Ent.mk (ByteArray.mk #[65], ByteArray.mk #[88]) (5, 0, 0) 0] (ByteArray.mk #[65], ByteArray.mk #[88])) 1)) hR308 rfl ?_
  refine sim_ordN 3 [] hR308 (by kernel_rfl) trivial (fun ρ309 w309 hm309 hR309 => ?_)
  have hag := hag.moved (hm309.castL (by kernel_rfl))
  have hpo := hpo.moved (hm309.castL (by kernel_rfl))
  refine sim_ord_endR hR309 (by kernel_rfl) (fun hR310 => ?_)
  refine sim_ret (LB true) hR310 (by kernel_rfl) (by kernel_rfl) ?_
  exact ⟨rfl, hR310.toBelow⟩
  
end

section
open Go Go.RowKit

/-- which keys are there: those of which there is something -/
theorem keys_mem {l : List (Ent Key B3)} {clock : Nat} (hf : Fine l clock) (hnz : ∀ e ∈ l, e.val ≠ (0, 0, 0)) (k : Key) : k ∈ l.map (·.key) ↔ getM l k ≠ (0, 0, 0) := by
  constructor
  · intro h
    obtain ⟨e, he, rfl⟩ := List.mem_map.1 h
    show (look e.key l).getD _ ≠ _
    rw [look_self hf.keys he]
    exact hnz e he
  · intro h
    unfold getM at h
    cases hk : look k l with
    | none => rw [hk] at h; exact absurd rfl h
    | some v =>
      obtain ⟨e, he, rfl, _⟩ := look_mem hk
      exact List.mem_map_of_mem he
theorem keys_perm {l l' : List (Ent Key B3)} {clock clock' : Nat} (hf : Fine l clock) (hnz : ∀ e ∈ l, e.val ≠ (0, 0, 0)) (hf' : Fine l' clock') (hnz' : ∀ e ∈ l', e.val ≠ (0, 0, 0)) (h : ∀ k, getM l' k = getM l k) : (l.map (·.key)).Perm (l'.map (·.key)) :=
  (List.perm_ext_iff_of_nodup (nodup_keys hf.keys) (nodup_keys hf'.keys)).2 fun k => by rw [keys_mem hf hnz, keys_mem hf' hnz', h]
theorem keys_same {l l' : List (Ent Key B3)} {clock clock' : Nat} (hf : Fine l clock) (hnz : ∀ e ∈ l, e.val ≠ (0, 0, 0)) (hf' : Fine l' clock') (hnz' : ∀ e ∈ l', e.val ≠ (0, 0, 0)) (h : ∀ k, getM l' k = getM l k) (tx : List ByteArray) : sortKs (pickKs tx l') = sortKs (pickKs tx l) :=
  sortKs_perm ((keys_perm hf hnz hf' hnz' h).symm.filter _)
theorem addC_zero {b : B3} {sub by' : Int} (h : addC b sub by' = 0) : (0 ≤ sub ∧ sub < 3) ∧ (-1152921504606846976 ≤ by' ∧ by' ≤ 1152921504606846976) ∧ 0 ≤ partB b sub + by' ∧ partB b sub + by' ≤ 1152921504606846976 := by
  unfold addC at h
  split at h
  · rename_i hh
    split at h
    · cases h
    · split at h
      · cases h
      · exact ⟨hh.1, hh.2, by omega, by omega⟩
  · cases h
theorem setB_part {b : B3} {sub v : Int} (_ : 0 ≤ sub ∧ sub < 3) : partB (setB b sub v) sub = v := by
  unfold partB setB
  by_cases h0 : sub = 0
  · rw [if_pos h0, if_pos h0]
  · rw [if_neg h0, if_neg h0]
    by_cases h1 : sub = 1
    · rw [if_pos h1, if_pos h1]
    · rw [if_neg h1, if_neg h1]
theorem setB_set {b : B3} {sub v v' : Int} : setB (setB b sub v) sub v' = setB b sub v' := by
  unfold setB
  by_cases h0 : sub = 0
  · simp only [if_pos h0]
  · simp only [if_neg h0]
    by_cases h1 : sub = 1
    · simp only [if_pos h1]
    · simp only [if_neg h1]
theorem setB_self {b : B3} {sub : Int} : setB b sub (partB b sub) = b := by
  unfold setB partB
  by_cases h0 : sub = 0
  · simp only [if_pos h0]
  · simp only [if_neg h0]
    by_cases h1 : sub = 1
    · simp only [if_pos h1]
    · simp only [if_neg h1]
theorem part_ok {b : B3} (h : okB b) (sub : Int) : 0 ≤ partB b sub ∧ partB b sub ≤ 1152921504606846976 := by
  unfold partB
  split
  · exact h.fa
  · split
    · exact h.fb
    · exact h.fc
/-- what was added is there -/
theorem add_now {f : Key → B3} {k : Key} {sub by' : Int} (h : addC (f k) sub by' = 0) : partM (addF f k sub by' k) sub = partB (f k) sub + by' := by
  obtain ⟨h1, _⟩ := addC_zero h
  unfold partM addF
  rw [if_pos h1, if_pos ⟨h, rfl⟩, setB_part h1]
/-- it may be taken off again -/
theorem add_back {f : Key → B3} {k : Key} {sub by' : Int} (hok : okB (f k)) (h : addC (f k) sub by' = 0) : addC (addF f k sub by' k) sub (-by') = 0 := by
  obtain ⟨h1, h2, h3, h4⟩ := addC_zero h
  have h5 := part_ok hok sub
  unfold addF
  rw [if_pos ⟨h, rfl⟩]
  unfold addC
  rw [if_pos ⟨h1, by omega⟩, setB_part h1, if_neg (by omega), if_neg (by omega)]
/-- and all is as it was -/
theorem add_both {f : Key → B3} {k : Key} {sub by' : Int} (hok : okB (f k)) (h : addC (f k) sub by' = 0) (k' : Key) : addF (addF f k sub by') k sub (-by') k' = f k' := by
  have hb := add_back hok h
  obtain ⟨h1, _⟩ := addC_zero h
  by_cases hk : k' = k
  · subst hk
    show (if addC (addF f k' sub by' k') sub (-by') = 0 ∧ k' = k' then _ else _) = _
    rw [if_pos ⟨hb, rfl⟩]
    unfold addF
    rw [if_pos ⟨h, rfl⟩, setB_part h1, setB_set]
    rw [show partB (f k') sub + by' + -by' = partB (f k') sub from by omega, setB_self]
  · show (if addC (addF f k sub by' k) sub (-by') = 0 ∧ k' = k then _ else addF f k sub by' k') = _
    rw [if_neg (fun h' => hk h'.2)]
    unfold addF
    rw [if_neg (fun h' => hk h'.2)]
/-- the two changes, over what lies in the map -/
structure BackL (l : List (Ent Key B3)) (clock : Nat) (k : Key) (sub by' : Int) : Prop where
  code : addC (getM (addL clock l k sub by') k) sub (-by') = 0
  now : 0 ≤ partM (getM (addL clock l k sub by') k) sub ∧ partM (getM (addL clock l k sub by') k) sub ≤ 1152921504606846976
  get : ∀ c1, Fine (addL clock l k sub by') c1 → ∀ k', getM (addL c1 (addL clock l k sub by') k sub (-by')) k' = getM l k'
theorem backL {l : List (Ent Key B3)} {clock : Nat} (hf : Fine l clock) (hok : ∀ e ∈ l, okB e.val) {k : Key} {sub by' : Int} (h : addC (getM l k) sub by' = 0) : BackL l clock k sub by' := by
  have e1 : ∀ k', getM (addL clock l k sub by') k' = addF (getM l) k sub by' k' := addL_get hf k sub by'
  have hk := getM_ok hok k
  have hz := addC_zero h
  refine ⟨?_, ?_, fun c1 hf1 k' => ?_⟩
  · rw [e1]
    exact add_back (f := getM l) hk h
  · rw [e1, add_now (f := getM l) h]
    exact ⟨hz.2.2.1, hz.2.2.2⟩
  · have e2 : getM (addL clock l k sub by') = addF (getM l) k sub by' := funext e1
    rw [addL_get hf1, e2]
    exact add_both (f := getM l) hk h k'
theorem no_add {l : List (Ent Key B3)} {clock : Nat} {k : Key} {sub by' : Int} (h : ¬addC (getM l k) sub by' = 0) : addL clock l k sub by' = l := by
  unfold addL
  rw [if_neg h]
end

section
open Go Go.RowKit

def sumAll (l : List (Ent Key B3)) : Int := (l.map fun e => sum3 e.val).sum
theorem setB_sum (b : B3) (sub v : Int) : sum3 (setB b sub v) = sum3 b + v - partB b sub := by
  unfold sum3 setB partB
  split
  · dsimp only; omega
  · split
    · dsimp only; omega
    · dsimp only; omega
theorem ins_sum (k : Key) (v : B3) (n : Nat) : ∀ (l : List (Ent Key B3)), sumAll (ins k v n l) = sumAll l + sum3 v - sum3 (getM l k)
  | [] => by
    simp only [ins, sumAll, List.map_cons, List.map_nil, List.sum_cons, List.sum_nil, getM, look, Option.getD_none, sum3]
    omega
  | e :: l => by
    by_cases h : k = e.key
    · simp only [ins, if_pos h, sumAll, List.map_cons, List.sum_cons, getM, look, Option.getD_some]
      omega
    · have ih := ins_sum k v n l
      simp only [ins, if_neg h, sumAll, List.map_cons, List.sum_cons, getM, look] at ih ⊢
      omega
theorem del_sum (k : Key) : ∀ (l : List (Ent Key B3)), sumAll (del k l) = sumAll l - sum3 (getM l k)
  | [] => by
    simp only [del, sumAll, List.map_nil, List.sum_nil, getM, look, Option.getD_none, sum3]
    omega
  | e :: l => by
    by_cases h : k = e.key
    · simp only [del, if_pos h, sumAll, List.map_cons, List.sum_cons, getM, look, Option.getD_some]
      omega
    · have ih := del_sum k l
      simp only [del, if_neg h, sumAll, List.map_cons, List.sum_cons, getM, look] at ih ⊢
      omega
theorem addL_sum (l : List (Ent Key B3)) (clock : Nat) (k : Key) (sub by' : Int) : sumAll (addL clock l k sub by') = if addC (getM l k) sub by' = 0 then sumAll l + by' else sumAll l := by
  unfold addL
  split
  · have hs := setB_sum (getM l k) sub (partB (getM l k) sub + by')
    split
    · rename_i hz
      rw [del_sum]
      rw [hz] at hs
      have h0 : sum3 (0, 0, 0) = 0 := rfl
      omega
    · rw [ins_sum]
      omega
  · rfl
theorem allOf_sum (l : List (Ent Key B3)) : ∀ (ks : List Key), sumI (allOf l ks) = (ks.map fun k => sum3 (getM l k)).sum
  | [] => rfl
  | k :: ks => by
    have ih := allOf_sum l ks
    show sumI (three (getM l k) ++ allOf l ks) = _
    rw [sumI_append, ih, List.map_cons, List.sum_cons]
    congr 1
    simp [sumI, three, sum3]
theorem keys_sum {l : List (Ent Key B3)} {clock : Nat} (hf : Fine l clock) : ((l.map (·.key)).map fun k => sum3 (getM l k)).sum = sumAll l := by
  unfold sumAll
  rw [List.map_map]
  congr 1
  refine List.map_congr_left fun e he => ?_
  show sum3 ((look e.key l).getD _) = _
  rw [look_self hf.keys he]
  rfl
theorem filter_sum_le {α : Type} (f : α → Int) (p : α → Bool) (h : ∀ x, 0 ≤ f x) : ∀ (xs : List α), 0 ≤ ((xs.filter p).map f).sum ∧ ((xs.filter p).map f).sum ≤ (xs.map f).sum
  | [] => by simp
  | x :: xs => by
    have ih := filter_sum_le f p h xs
    have hx := h x
    rw [List.filter_cons]
    split
    · simp only [List.map_cons, List.sum_cons]
      omega
    · simp only [List.map_cons, List.sum_cons]
      omega
theorem sum3_ok {b : B3} (h : okB b) : 0 ≤ sum3 b := by
  obtain ⟨a, b, c⟩ := h
  unfold sum3
  omega
end
end Go.Proofs.Ytgbgedaedcofcaa
