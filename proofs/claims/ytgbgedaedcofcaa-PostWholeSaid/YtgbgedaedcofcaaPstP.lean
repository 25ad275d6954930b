/-
  Plain: what a transaction that is OK leaves, part by part; when it is OK.
-/
import Derived.Test.YtgbgedaedcofcaaPstLO
namespace Go.Proofs.Ytgbgedaedcofcaa
open Go Go.RowKit

theorem firstW_zero {s : LSt} {ps : List OpP} : ∀ {ks : List Part}, firstW s ps ks = 0 ↔ ∀ k ∈ ks, wrongM s k (netF ps k).1 (netF ps k).2 = 0
  | [] => by simp [firstW]
  | k :: ks => by
    simp only [firstW, List.mem_cons, forall_eq_or_imp]
    by_cases h : wrongM s k (netF ps k).1 (netF ps k).2 = 0
    · rw [if_pos h, firstW_zero (ks := ks)]
      exact ⟨fun h2 => ⟨h, h2⟩, fun h2 => h2.2⟩
    · rw [if_neg h]
      exact ⟨fun h2 => absurd h2 h, fun h2 => absurd h2.1 h⟩
theorem keysP_mem : ∀ {ps : List OpP} {out : List Part} {k : Part}, k ∈ keysP ps out ↔ k ∈ out ∨ ∃ p ∈ ps, p.part = k
  | [], out, k => by simp [keysP]
  | p :: ps, out, k => by
    rw [keysP, keysP_mem (ps := ps)]
    by_cases h : hasPt p.part out = true
    · rw [if_pos h]
      constructor
      · rintro (h1 | ⟨q, hq, e⟩)
        · exact .inl h1
        · exact .inr ⟨q, List.mem_cons_of_mem _ hq, e⟩
      · rintro (h1 | ⟨q, hq, e⟩)
        · exact .inl h1
        · rcases List.mem_cons.1 hq with rfl | hq
          · exact .inl (e ▸ hasPt_iff.1 h)
          · exact .inr ⟨q, hq, e⟩
    · rw [if_neg h]
      constructor
      · rintro (h1 | ⟨q, hq, e⟩)
        · rcases List.mem_append.1 h1 with h1 | h1
          · exact .inl h1
          · exact .inr ⟨p, by simp, (List.mem_singleton.1 h1).symm⟩
        · exact .inr ⟨q, List.mem_cons_of_mem _ hq, e⟩
      · rintro (h1 | ⟨q, hq, e⟩)
        · exact .inl (List.mem_append_left _ h1)
        · rcases List.mem_cons.1 hq with rfl | hq
          · exact .inl (List.mem_append_right _ (by simp [e]))
          · exact .inr ⟨q, hq, e⟩
theorem keysP_nodup : ∀ {ps : List OpP} {out : List Part}, out.Nodup → (keysP ps out).Nodup
  | [], out, h => h
  | p :: ps, out, h => by
    rw [keysP]
    refine keysP_nodup ?_
    by_cases hh : hasPt p.part out = true
    · rw [if_pos hh]
      exact h
    · rw [if_neg hh]
      refine List.nodup_append.2 ⟨h, by simp, fun a ha b hb => ?_⟩
      rw [List.mem_singleton.1 hb]
      rintro rfl
      exact hh (hasPt_iff.2 ha)
theorem nets_mem {ps : List OpP} {k : Part} : k ∈ netsM ps ↔ ∃ p ∈ ps, p.part = k := by
  unfold netsM sortPs
  rw [List.mem_mergeSort, keysP_mem]
  simp
theorem nets_nodup (ps : List OpP) : (netsM ps).Nodup := (List.mergeSort_perm ..).nodup_iff.2 (keysP_nodup List.nodup_nil)
theorem ptL_no {ps : List OpP} {k : Part} (h : k ∉ netsM ps) : ptL k ps = [] := by
  unfold ptL
  rw [List.filter_eq_nil_iff.2, List.map_nil]
  intro p hp he
  exact h (nets_mem.2 ⟨p, hp, by simpa using he⟩)
/-- what makes a part not wrong -/
structure PartOk (s : LSt) (ps : List OpP) (k : Part) : Prop where
  noBlk : ¬ (k.2 = 0 ∧ sumI (ptL k ps) < 0 ∧ hasK k.1 s.lb = true)
  lo : 0 ≤ partM (getM s.l k.1) k.2 + sumI (ptL k ps)
  hi : partM (getM s.l k.1) k.2 + sumI (ptL k ps) ≤ 1152921504606846976
theorem clampO_false {v : Int} (h : clampO v = false) : -1152921504606846976 ≤ v ∧ v ≤ 1152921504606846976 := by
  unfold clampO at h
  simp only [Bool.or_eq_false_iff, decide_eq_false_iff_not] at h
  omega
theorem wrong_ok {s : LSt} {ps : List OpP} {k : Part} (hs : ∀ e ∈ s.l, okB e.val) : wrongM s k (netF ps k).1 (netF ps k).2 = 0 ↔ PartOk s ps k := by
  have hp := part_in hs k.1 k.2
  constructor
  · intro h
    unfold wrongM at h
    split at h
    · cases h
    · rename_i h1
      split at h
      · cases h
      · rename_i h2
        split at h
        · cases h
        · rename_i h3
          have ho : clampO (sumI (ptL k ps)) = false := by
            cases hc : clampO (sumI (ptL k ps)) with
            | false => rfl
            | true => exact absurd (.inr hc) h3
          have hr := clampO_false ho
          have e : (netF ps k).1 = sumI (ptL k ps) := clamp_in hr
          unfold nowM at h2 h3
          rw [e] at h1 h2 h3
          exact ⟨h1, by omega, by omega⟩
  · rintro ⟨h1, h2, h3⟩
    have hr : -1152921504606846976 ≤ sumI (ptL k ps) ∧ sumI (ptL k ps) ≤ 1152921504606846976 := by omega
    have e : (netF ps k).1 = sumI (ptL k ps) := clamp_in hr
    have eo : (netF ps k).2 = false := clampO_in hr
    unfold wrongM nowM
    rw [e, eo, if_neg h1, if_neg (by simp; omega), if_neg (by simp; omega)]
theorem look_ok {s : LSt} {ps : List OpP} (hs : ∀ e ∈ s.l, okB e.val) : lookC s ps = 0 ↔ (ps.length ≤ 600 ∧ rightsB ps = true ∧ evenB ps = true ∧ ∀ k ∈ netsM ps, PartOk s ps k) := by
  unfold lookC
  constructor
  · intro h
    split at h
    · cases h
    · split at h
      · cases h
      · rename_i h1 h2
        have h2 : (rightsB ps && evenB ps) = true := by simpa using h2
        rw [Bool.and_eq_true] at h2
        exact ⟨by omega, h2.1, h2.2, fun k hk => (wrong_ok hs).1 (firstW_zero.1 h k hk)⟩
  · rintro ⟨h1, h2, h3, h4⟩
    rw [if_neg (by omega), h2, h3, if_neg (by simp)]
    exact firstW_zero.2 fun k hk => (wrong_ok hs).2 (h4 k hk)
theorem look_nets {s : LSt} {ps : List OpP} (h : lookC s ps = 0) : lookL s ps = netsM ps := if_pos h
theorem look_nil {s : LSt} {ps : List OpP} (h : lookC s ps ≠ 0) : lookL s ps = [] := if_neg h
theorem right_of {ps : List OpP} (h : rightsB ps = true) {p : OpP} (hp : p ∈ ps) : (0 ≤ p.sub ∧ p.sub ≤ 2) ∧ (-1152921504606846976 ≤ p.amt ∧ p.amt ≤ 1152921504606846976) := by
  have := List.all_eq_true.1 h p hp
  simpa [rightB, okBy] using this
theorem partB_set {b : B3} {sub v t : Int} (hs : 0 ≤ sub ∧ sub ≤ 2) (ht : 0 ≤ t ∧ t ≤ 2) : partB (setB b sub v) t = if t = sub then v else partB b t := by
  have h1 : sub = 0 ∨ sub = 1 ∨ sub = 2 := by omega
  have h2 : t = 0 ∨ t = 1 ∨ t = 2 := by omega
  rcases h1 with rfl | rfl | rfl <;> rcases h2 with rfl | rfl | rfl <;> simp [partB, setB]
theorem partM_in {b : B3} {t : Int} (ht : 0 ≤ t ∧ t ≤ 2) : partM b t = partB b t := if_pos (by omega)
open Classical in
/-- what is left, part by part -/
theorem apply_fold {f : Key → B3} {ps : List OpP} : ∀ {ks : List Part}, ks.Nodup → (∀ k ∈ ks, (0 ≤ k.2 ∧ k.2 ≤ 2) ∧ (0 ≤ partB (f k.1) k.2 + sumI (ptL k ps) ∧ partB (f k.1) k.2 + sumI (ptL k ps) ≤ 1152921504606846976) ∧ (-1152921504606846976 ≤ sumI (ptL k ps) ∧ sumI (ptL k ps) ≤ 1152921504606846976)) →
    ∀ (k : Key) (t : Int), 0 ≤ t ∧ t ≤ 2 → partB (applyF ps f ks k) t = partB (f k) t + if (k, t) ∈ ks then sumI (ptL (k, t) ps) else 0 := by
  intro ks
  induction ks generalizing f with
  | nil => intro _ _ k t _; simp [applyF]
  | cons q ks ih =>
    intro hn hk k t ht
    obtain ⟨h1, h2, h3⟩ := hk q (by simp)
    obtain ⟨hq, hn⟩ := List.nodup_cons.1 hn
    have e : (netF ps q).1 = sumI (ptL q ps) := clamp_in h3
    have hc : addC (f q.1) q.2 (netF ps q).1 = 0 := by
      unfold addC
      rw [e, if_pos (by omega), if_neg (by omega), if_neg (by omega)]
    have hf1 : ∀ (k : Key) (t : Int), 0 ≤ t ∧ t ≤ 2 → partB (addF f q.1 q.2 (netF ps q).1 k) t = partB (f k) t + if (k, t) = q then sumI (ptL q ps) else 0 := by
      intro k t ht
      unfold addF
      by_cases hk1 : k = q.1
      · rw [if_pos ⟨hc, hk1⟩, partB_set h1 ht, e]
        by_cases ht1 : t = q.2
        · rw [if_pos ht1, if_pos (by rw [hk1, ht1]), hk1, ht1]
        · rw [if_neg ht1, if_neg (fun e' => ht1 (congrArg (·.2) e')), hk1, Int.add_zero]
      · rw [if_neg (fun h => hk1 h.2), if_neg (fun e' => hk1 (congrArg (·.1) e')), Int.add_zero]
    show partB (applyF ps (addF f q.1 q.2 (netF ps q).1) ks k) t = _
    rw [ih hn (fun x hx => ?_) k t ht, hf1 k t ht]
    · by_cases hkq : (k, t) = q
      · rw [if_pos hkq, if_neg (hkq ▸ hq), if_pos (by simp [hkq]), hkq]
        omega
      · rw [if_neg hkq]
        by_cases hks : (k, t) ∈ ks
        · rw [if_pos hks, if_pos (by simp [hks])]
          omega
        · rw [if_neg hks, if_neg (by simp [hks, hkq])]
          omega
    · obtain ⟨g1, g2, g3⟩ := hk x (List.mem_cons_of_mem _ hx)
      refine ⟨g1, ?_, g3⟩
      rw [hf1 x.1 x.2 g1, if_neg (fun e' => hq (by rw [← e']; exact hx)), Int.add_zero]
      exact g2
theorem apply_exact {s : LSt} {ps : List OpP} (hs : ∀ e ∈ s.l, okB e.val) (h : lookC s ps = 0) (k : Key) (t : Int) (ht : 0 ≤ t ∧ t ≤ 2) : partB (applyF ps (getM s.l) (lookL s ps) k) t = partB (getM s.l k) t + sumI (ptL (k, t) ps) := by
  obtain ⟨h1, h2, h3, h4⟩ := (look_ok hs).1 h
  rw [look_nets h, apply_fold (nets_nodup ps) (fun q hq => ?_) k t ht]
  · by_cases hk : (k, t) ∈ netsM ps
    · rw [if_pos hk]
    · rw [if_neg hk, ptL_no hk]
      rfl
  · obtain ⟨p, hp, rfl⟩ := nets_mem.1 hq
    obtain ⟨g1, g2⟩ := right_of h2 hp
    obtain ⟨_, h5, h6⟩ := h4 _ hq
    have hin := part_in hs p.part.1 p.part.2
    have e := partM_in (b := getM s.l p.part.1) (t := p.part.2) g1
    rw [e] at h5 h6 hin
    exact ⟨g1, ⟨h5, h6⟩, by omega, by omega⟩
theorem b3_ext {b d : B3} (h : ∀ t : Int, 0 ≤ t ∧ t ≤ 2 → partB b t = partB d t) : b = d := by
  have h0 : b.1 = d.1 := h 0 (by omega)
  have h1 : b.2.1 = d.2.1 := h 1 (by omega)
  have h2 : b.2.2 = d.2.2 := h 2 (by omega)
  obtain ⟨_, _, _⟩ := b
  obtain ⟨_, _, _⟩ := d
  simp_all
theorem flat_len4 (ps : List OpP) : ((ps.map OpP.cells).flatten).length = ps.length * 4 := by
  induction ps with
  | nil => rfl
  | cons p ps ih =>
    rw [List.map_cons, List.flatten_cons, List.length_append, ih, List.length_cons]
    show 4 + _ = _
    omega
/-- issuing into a new ledger -/
theorem new_iss {g : Nat} {a c : ByteArray} {n : Int} (hn : 0 ≤ n ∧ n ≤ 1152921504606846976) : issC (newS g) a c n = 0 ∧ ∀ k, addF (getM (newS g).l) (a, c) 0 n k = if k = (a, c) then (n, 0, 0) else (0, 0, 0) := by
  have h0 : ∀ q, getM (newS g).l q = (0, 0, 0) := fun _ => rfl
  have hcn : addC (0, 0, 0) 0 n = 0 := by
    unfold addC
    rw [if_pos (by omega), if_neg (by show ¬ (0 : Int) + n < 0; omega), if_neg (by show ¬ 1152921504606846976 < (0 : Int) + n; omega)]
  refine ⟨?_, fun k => ?_⟩
  · unfold issC
    rw [show okBy n = true from by unfold okBy; rw [decide_eq_true (by omega), decide_eq_true (by omega)]; rfl, if_neg (by simp), if_neg (fun h => by omega), if_neg (by show ¬ 1152921504606846976 < (0 : Int) + n; omega)]
    exact hcn
  · unfold addF
    rw [h0, h0, hcn]
    by_cases hk : k = (a, c)
    · rw [if_pos ⟨rfl, hk⟩, if_pos hk]
      simp [setB, partB]
    · rw [if_neg (fun e => hk e.2), if_neg hk]
theorem new_iss64 (g : Nat) (c : ByteArray) : -4611686018427387904 ≤ (look c (newS g).li).getD 0 ∧ (look c (newS g).li).getD 0 ≤ 4611686018427387904 := ⟨by show (-4611686018427387904 : Int) ≤ 0; decide, by show (0 : Int) ≤ 4611686018427387904; decide⟩
/-- postings that lie at a place -/
theorem Rel.posts {T : List Nat} {w0 w : World} {ρ : Nm} {rs : List Reg} (hR : Rel T w0 ρ rs w) {n : Nat} {ps : List OpP} {b : Bool} (hn : rs[n]? = some ⟨(ps.map OpP.cells).flatten.map .v, b⟩) (hok : ∀ o ∈ ps, o.ok) : Posts w w.heap.size (some (ρ.at_ n 0)) ps.length ps :=
  ⟨hR.readsP (n := n) (size := 4) (m := ps.length) (vs := (ps.map OpP.cells).flatten) (b := b) hn (flat_len4 ps), rfl, hok⟩
end Go.Proofs.Ytgbgedaedcofcaa
