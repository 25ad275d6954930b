/-
  pos: plain laws: what is added and taken off again.
-/
import Derived.Test.YtgbgedaedcofcaaPosG
namespace Go.Proofs.Ytgbgedaedcofcaa
open Go Go.RowKit

/-- which keys are there: those of which there is something -/
theorem keys_mem {l : List (Ent Key B3)} {clock : Nat} (hf : Fine l clock) (hnz : ∀ e ∈ l, e.val ≠ (0, 0, 0)) (k : Key) : k ∈ l.map (·.key) ↔ getM l k ≠ (0, 0, 0) := by
  constructor
  · intro h
    obtain ⟨e, he, rfl⟩ := List.mem_map.1 h
    show (look e.key l).getD _ ≠ _
    rw [look_self hf.keys he]
    exact hnz e he
  · intro h
    unfold getM at h
    cases hk : look k l with
    | none => rw [hk] at h; exact absurd rfl h
    | some v =>
      obtain ⟨e, he, rfl, _⟩ := look_mem hk
      exact List.mem_map_of_mem he
theorem keys_perm {l l' : List (Ent Key B3)} {clock clock' : Nat} (hf : Fine l clock) (hnz : ∀ e ∈ l, e.val ≠ (0, 0, 0)) (hf' : Fine l' clock') (hnz' : ∀ e ∈ l', e.val ≠ (0, 0, 0)) (h : ∀ k, getM l' k = getM l k) : (l.map (·.key)).Perm (l'.map (·.key)) :=
  (List.perm_ext_iff_of_nodup (nodup_keys hf.keys) (nodup_keys hf'.keys)).2 fun k => by rw [keys_mem hf hnz, keys_mem hf' hnz', h]
theorem keys_same {l l' : List (Ent Key B3)} {clock clock' : Nat} (hf : Fine l clock) (hnz : ∀ e ∈ l, e.val ≠ (0, 0, 0)) (hf' : Fine l' clock') (hnz' : ∀ e ∈ l', e.val ≠ (0, 0, 0)) (h : ∀ k, getM l' k = getM l k) (tx : List ByteArray) : sortKs (pickKs tx l') = sortKs (pickKs tx l) :=
  sortKs_perm ((keys_perm hf hnz hf' hnz' h).symm.filter _)
theorem addC_zero {b : B3} {sub by' : Int} (h : addC b sub by' = 0) : (0 ≤ sub ∧ sub < 3) ∧ (-1152921504606846976 ≤ by' ∧ by' ≤ 1152921504606846976) ∧ 0 ≤ partB b sub + by' ∧ partB b sub + by' ≤ 1152921504606846976 := by
  unfold addC at h
  split at h
  · rename_i hh
    split at h
    · cases h
    · split at h
      · cases h
      · exact ⟨hh.1, hh.2, by omega, by omega⟩
  · cases h
theorem setB_part {b : B3} {sub v : Int} (_ : 0 ≤ sub ∧ sub < 3) : partB (setB b sub v) sub = v := by
  unfold partB setB
  by_cases h0 : sub = 0
  · rw [if_pos h0, if_pos h0]
  · rw [if_neg h0, if_neg h0]
    by_cases h1 : sub = 1
    · rw [if_pos h1, if_pos h1]
    · rw [if_neg h1, if_neg h1]
theorem setB_set {b : B3} {sub v v' : Int} : setB (setB b sub v) sub v' = setB b sub v' := by
  unfold setB
  by_cases h0 : sub = 0
  · simp only [if_pos h0]
  · simp only [if_neg h0]
    by_cases h1 : sub = 1
    · simp only [if_pos h1]
    · simp only [if_neg h1]
theorem setB_self {b : B3} {sub : Int} : setB b sub (partB b sub) = b := by
  unfold setB partB
  by_cases h0 : sub = 0
  · simp only [if_pos h0]
  · simp only [if_neg h0]
    by_cases h1 : sub = 1
    · simp only [if_pos h1]
    · simp only [if_neg h1]
theorem part_ok {b : B3} (h : okB b) (sub : Int) : 0 ≤ partB b sub ∧ partB b sub ≤ 1152921504606846976 := by
  unfold partB
  split
  · exact h.fa
  · split
    · exact h.fb
    · exact h.fc
/-- what was added is there -/
theorem add_now {f : Key → B3} {k : Key} {sub by' : Int} (h : addC (f k) sub by' = 0) : partM (addF f k sub by' k) sub = partB (f k) sub + by' := by
  obtain ⟨h1, _⟩ := addC_zero h
  unfold partM addF
  rw [if_pos h1, if_pos ⟨h, rfl⟩, setB_part h1]
/-- it may be taken off again -/
theorem add_back {f : Key → B3} {k : Key} {sub by' : Int} (hok : okB (f k)) (h : addC (f k) sub by' = 0) : addC (addF f k sub by' k) sub (-by') = 0 := by
  obtain ⟨h1, h2, h3, h4⟩ := addC_zero h
  have h5 := part_ok hok sub
  unfold addF
  rw [if_pos ⟨h, rfl⟩]
  unfold addC
  rw [if_pos ⟨h1, by omega⟩, setB_part h1, if_neg (by omega), if_neg (by omega)]
/-- and all is as it was -/
theorem add_both {f : Key → B3} {k : Key} {sub by' : Int} (hok : okB (f k)) (h : addC (f k) sub by' = 0) (k' : Key) : addF (addF f k sub by') k sub (-by') k' = f k' := by
  have hb := add_back hok h
  obtain ⟨h1, _⟩ := addC_zero h
  by_cases hk : k' = k
  · subst hk
    show (if addC (addF f k' sub by' k') sub (-by') = 0 ∧ k' = k' then _ else _) = _
    rw [if_pos ⟨hb, rfl⟩]
    unfold addF
    rw [if_pos ⟨h, rfl⟩, setB_part h1, setB_set]
    rw [show partB (f k') sub + by' + -by' = partB (f k') sub from by omega, setB_self]
  · show (if addC (addF f k sub by' k) sub (-by') = 0 ∧ k' = k then _ else addF f k sub by' k') = _
    rw [if_neg (fun h' => hk h'.2)]
    unfold addF
    rw [if_neg (fun h' => hk h'.2)]
/-- the two changes, over what lies in the map -/
structure BackL (l : List (Ent Key B3)) (clock : Nat) (k : Key) (sub by' : Int) : Prop where
  code : addC (getM (addL clock l k sub by') k) sub (-by') = 0
  now : 0 ≤ partM (getM (addL clock l k sub by') k) sub ∧ partM (getM (addL clock l k sub by') k) sub ≤ 1152921504606846976
  get : ∀ c1, Fine (addL clock l k sub by') c1 → ∀ k', getM (addL c1 (addL clock l k sub by') k sub (-by')) k' = getM l k'
theorem backL {l : List (Ent Key B3)} {clock : Nat} (hf : Fine l clock) (hok : ∀ e ∈ l, okB e.val) {k : Key} {sub by' : Int} (h : addC (getM l k) sub by' = 0) : BackL l clock k sub by' := by
  have e1 : ∀ k', getM (addL clock l k sub by') k' = addF (getM l) k sub by' k' := addL_get hf k sub by'
  have hk := getM_ok hok k
  have hz := addC_zero h
  refine ⟨?_, ?_, fun c1 hf1 k' => ?_⟩
  · rw [e1]
    exact add_back (f := getM l) hk h
  · rw [e1, add_now (f := getM l) h]
    exact ⟨hz.2.2.1, hz.2.2.2⟩
  · have e2 : getM (addL clock l k sub by') = addF (getM l) k sub by' := funext e1
    rw [addL_get hf1, e2]
    exact add_both (f := getM l) hk h k'
theorem no_add {l : List (Ent Key B3)} {clock : Nat} {k : Key} {sub by' : Int} (h : ¬addC (getM l k) sub by' = 0) : addL clock l k sub by' = l := by
  unfold addL
  rw [if_neg h]
end Go.Proofs.Ytgbgedaedcofcaa
