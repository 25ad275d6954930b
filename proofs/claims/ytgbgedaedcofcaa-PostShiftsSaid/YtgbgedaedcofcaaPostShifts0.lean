/-
  Plain: what a shift between the parts of a position does, and what is wrong with it.
-/
import Derived.Test.YtgbgedaedcofcaaPstP
namespace Go.Proofs.Ytgbgedaedcofcaa
open Go Go.RowKit
def shB (x y : Int) (k : Key) : B3 := if k = (⟨#[65]⟩, ⟨#[88]⟩) then (x, 0, y) else (0, 0, 0)
abbrev kAX : Key := (⟨#[65]⟩, ⟨#[88]⟩)
theorem shB_at (x y : Int) : shB x y kAX = (x, 0, y) := if_pos rfl
section
variable {s : LSt} {x y z u v : Int}
theorem sh_pt (huv : u ≠ v) : ptL (kAX, u) (shiftL ⟨#[65]⟩ ⟨#[88]⟩ u v z) = [-z] ∧ ptL (kAX, v) (shiftL ⟨#[65]⟩ ⟨#[88]⟩ u v z) = [z] := by
  have hA : ∀ w q : Int, (⟨⟨#[65]⟩, ⟨#[88]⟩, w, q⟩ : OpP).part = (kAX, w) := fun _ _ => rfl
  have n1 : ¬ ((kAX, u) : Part) = (kAX, v) := fun e => huv (congrArg (·.2) e)
  have n2 : ¬ ((kAX, v) : Part) = (kAX, u) := fun e => huv (congrArg (·.2) e).symm
  constructor
  · simp [ptL, shiftL, hA, n2]
  · simp [ptL, shiftL, hA, n1]
theorem sh_mem {k : Part} : k ∈ netsM (shiftL ⟨#[65]⟩ ⟨#[88]⟩ u v z) ↔ k = (kAX, u) ∨ k = (kAX, v) := by
  rw [nets_mem]
  simp only [shiftL, List.mem_cons, List.not_mem_nil, or_false, exists_eq_or_imp, exists_eq_left]
  constructor
  · rintro (e | e)
    · exact .inl e.symm
    · exact .inr e.symm
  · rintro (e | e)
    · exact .inl e.symm
    · exact .inr e.symm
theorem sh_ev (hz : 0 ≤ z ∧ z ≤ 1152921504606846976) (hu : 0 ≤ u ∧ u ≤ 2) (hv : 0 ≤ v ∧ v ≤ 2) : rightsB (shiftL ⟨#[65]⟩ ⟨#[88]⟩ u v z) = true ∧ evenB (shiftL ⟨#[65]⟩ ⟨#[88]⟩ u v z) = true := by
  constructor
  · simp only [rightsB, shiftL, List.all_cons, List.all_nil, rightB, okBy, Bool.and_true, Bool.and_eq_true, decide_eq_true_eq]
    omega
  · have h : asL ⟨#[88]⟩ (shiftL ⟨#[65]⟩ ⟨#[88]⟩ u v z) = [-z, z] := by simp [asL, shiftL]
    have h2 : decide (sumI (asL ⟨#[88]⟩ (shiftL ⟨#[65]⟩ ⟨#[88]⟩ u v z)) = 0) = true := by
      rw [h]
      refine decide_eq_true ?_
      simp [sumI]
      omega
    simp only [evenB]
    refine List.all_eq_true.2 fun p hp => ?_
    simp only [shiftL, List.mem_cons, List.not_mem_nil, or_false] at hp
    rcases hp with rfl | rfl <;> exact h2
/-- what a shift that is OK leaves -/
theorem sh_ok (hs : ∀ e ∈ s.l, okB e.val) (hz : 0 ≤ z ∧ z ≤ 1152921504606846976) (hu : 0 ≤ u ∧ u ≤ 2) (hv : 0 ≤ v ∧ v ≤ 2) (huv : u ≠ v) (hb : u = 0 → hasK kAX s.lb = false) (h1 : z ≤ partB (getM s.l kAX) u) (h2 : partB (getM s.l kAX) v + z ≤ 1152921504606846976) :
    lookC s (shiftL ⟨#[65]⟩ ⟨#[88]⟩ u v z) = 0 ∧ ∀ k t, 0 ≤ t ∧ t ≤ 2 → partB (applyF (shiftL ⟨#[65]⟩ ⟨#[88]⟩ u v z) (getM s.l) (lookL s (shiftL ⟨#[65]⟩ ⟨#[88]⟩ u v z)) k) t = partB (getM s.l k) t + if k = kAX then (if t = u then -z else if t = v then z else 0) else 0 := by
  obtain ⟨p1, p2⟩ := sh_pt (z := z) huv
  obtain ⟨e1, e2⟩ := sh_ev (u := u) (v := v) hz hu hv
  have s1 : sumI [-z] = -z := by simp [sumI]
  have s2 : sumI [z] = z := by simp [sumI]
  have hl : lookC s (shiftL ⟨#[65]⟩ ⟨#[88]⟩ u v z) = 0 := by
    refine (look_ok hs).2 ⟨by simp [shiftL], e1, e2, fun k hk => ?_⟩
    have q1 := part_in hs kAX u
    have q2 := part_in hs kAX v
    rw [partM_in hu] at q1
    rw [partM_in hv] at q2
    rcases sh_mem.1 hk with rfl | rfl
    · refine ⟨fun h => ?_, ?_, ?_⟩
      · have := hb h.1
        rw [show hasK (kAX, u).1 s.lb = hasK kAX s.lb from rfl, this] at h
        cases h.2.2
      · rw [p1, s1]
        dsimp only
        rw [partM_in hu]
        omega
      · rw [p1, s1]
        dsimp only
        rw [partM_in hu]
        omega
    · refine ⟨fun h => ?_, ?_, ?_⟩
      · rw [p2, s2] at h
        omega
      · rw [p2, s2]
        dsimp only
        rw [partM_in hv]
        omega
      · rw [p2, s2]
        dsimp only
        rw [partM_in hv]
        omega
  refine ⟨hl, fun k t ht => ?_⟩
  rw [apply_exact hs hl k t ht]
  by_cases hk : k = kAX
  · subst hk
    rw [if_pos rfl]
    by_cases ht1 : t = u
    · subst ht1
      rw [if_pos rfl, p1, s1]
    · rw [if_neg ht1]
      by_cases ht2 : t = v
      · subst ht2
        rw [if_pos rfl, p2, s2]
      · rw [if_neg ht2, ptL_no (fun h => (sh_mem.1 h).elim (fun e => ht1 (congrArg (·.2) e)) (fun e => ht2 (congrArg (·.2) e)))]
        rfl
  · rw [if_neg hk, ptL_no (fun h => (sh_mem.1 h).elim (fun e => hk (congrArg (·.1) e)) (fun e => hk (congrArg (·.1) e)))]
    rfl
/-- what is wrong with a shift of what is free -/
theorem sh_bad {c : Int} (hs : ∀ e ∈ s.l, okB e.val) (hz : 0 < z ∧ z ≤ 1152921504606846976) (hy : partB (getM s.l kAX) 2 + z ≤ 1152921504606846976)
    (hc : (hasK kAX s.lb = true ∧ c = 35) ∨ (hasK kAX s.lb = false ∧ partB (getM s.l kAX) 0 < z ∧ c = 30)) : lookC s (shiftL ⟨#[65]⟩ ⟨#[88]⟩ 0 2 z) = c := by
  obtain ⟨p1, p2⟩ := sh_pt (u := 0) (v := 2) (z := z) (by decide)
  obtain ⟨e1, e2⟩ := sh_ev (z := z) (u := 0) (v := 2) (by omega) (by decide) (by decide)
  have s1 : sumI [-z] = -z := by simp [sumI]
  have s2 : sumI [z] = z := by simp [sumI]
  have q2 := part_in hs kAX 2
  rw [partM_in (by decide)] at q2
  have w2 : wrongM s (kAX, 2) (netF (shiftL ⟨#[65]⟩ ⟨#[88]⟩ 0 2 z) (kAX, 2)).1 (netF (shiftL ⟨#[65]⟩ ⟨#[88]⟩ 0 2 z) (kAX, 2)).2 = 0 := (wrong_ok hs).2 ⟨fun h => (by have h1 := h.1; cases h1), by rw [p2, s2]; dsimp only; rw [partM_in (by decide)]; omega, by rw [p2, s2]; dsimp only; rw [partM_in (by decide)]; omega⟩
  have w1 : wrongM s (kAX, 0) (netF (shiftL ⟨#[65]⟩ ⟨#[88]⟩ 0 2 z) (kAX, 0)).1 (netF (shiftL ⟨#[65]⟩ ⟨#[88]⟩ 0 2 z) (kAX, 0)).2 = c := by
    have f1 : netF (shiftL ⟨#[65]⟩ ⟨#[88]⟩ 0 2 z) (kAX, 0) = (-z, false) := by
      unfold netF
      rw [p1, s1, clamp_in (by omega), clampO_in (by omega)]
    rw [f1]
    dsimp only
    rcases hc with ⟨h1, rfl⟩ | ⟨h1, h2, rfl⟩
    · exact w35 rfl (by omega) h1
    · exact w30 (p := partB (getM s.l kAX) 0) (partM_in (by decide)) (fun h => by rw [show hasK (kAX, (0 : Int)).1 s.lb = hasK kAX s.lb from rfl, h1] at h; cases h.2.2) (.inl (by omega))
  have hcn : c ≠ 0 := by rcases hc with ⟨_, rfl⟩ | ⟨_, _, rfl⟩ <;> decide
  have h0 : lookC s (shiftL ⟨#[65]⟩ ⟨#[88]⟩ 0 2 z) = firstW s (shiftL ⟨#[65]⟩ ⟨#[88]⟩ 0 2 z) (netsM (shiftL ⟨#[65]⟩ ⟨#[88]⟩ 0 2 z)) := by
    unfold lookC
    rw [if_neg (by simp [shiftL]), e1, e2, if_neg (by simp)]
  have hkeys : keysP (shiftL ⟨#[65]⟩ ⟨#[88]⟩ 0 2 z) [] = [(kAX, 0), (kAX, 2)] := rfl
  rw [h0]
  unfold netsM
  rw [hkeys]
  rcases sortPs_two (kAX, 0) (kAX, 2) with e | e
  all_goals
    rw [e]
    simp only [firstW]
    rw [w1, w2]
    simp [hcn]
theorem sh_go {x y z : Int} (hs : ∀ e ∈ s.l, okB e.val) (hg : ∀ k, getM s.l k = shB x y k) (hz : 0 ≤ z ∧ z ≤ x) (hx : x ≤ 1152921504606846976) (hy : y + z ≤ 1152921504606846976) (hb : hasK kAX s.lb = false) :
    lookC s (shiftL ⟨#[65]⟩ ⟨#[88]⟩ 0 2 z) = 0 ∧ ∀ k, applyF (shiftL ⟨#[65]⟩ ⟨#[88]⟩ 0 2 z) (getM s.l) (lookL s (shiftL ⟨#[65]⟩ ⟨#[88]⟩ 0 2 z)) k = shB (x - z) (y + z) k := by
  have h0 : getM s.l kAX = (x, 0, y) := by rw [hg, shB_at]
  obtain ⟨h1, h2⟩ := sh_ok (s := s) (z := z) (u := 0) (v := 2) hs (by omega) (by decide) (by decide) (by decide) (fun _ => hb) (by rw [h0]; exact hz.2) (by rw [h0]; exact hy)
  refine ⟨h1, fun k => b3_ext fun t ht => ?_⟩
  rw [h2 k t ht, hg]
  unfold shB
  have ht3 : t = 0 ∨ t = 1 ∨ t = 2 := by omega
  by_cases hk : k = kAX
  · simp only [if_pos hk]
    rcases ht3 with rfl | rfl | rfl <;> simp [partB]
    omega
  · simp only [if_neg hk, Int.add_zero]
theorem sh_back {x y z : Int} (hs : ∀ e ∈ s.l, okB e.val) (hg : ∀ k, getM s.l k = shB x y k) (hz : 0 ≤ z ∧ z ≤ y) (hx : x + z ≤ 1152921504606846976) (hy : y ≤ 1152921504606846976) :
    lookC s (shiftL ⟨#[65]⟩ ⟨#[88]⟩ 2 0 z) = 0 ∧ ∀ k, applyF (shiftL ⟨#[65]⟩ ⟨#[88]⟩ 2 0 z) (getM s.l) (lookL s (shiftL ⟨#[65]⟩ ⟨#[88]⟩ 2 0 z)) k = shB (x + z) (y - z) k := by
  have h0 : getM s.l kAX = (x, 0, y) := by rw [hg, shB_at]
  obtain ⟨h1, h2⟩ := sh_ok (s := s) (z := z) (u := 2) (v := 0) hs (by omega) (by decide) (by decide) (by decide) (fun e => by cases e) (by rw [h0]; exact hz.2) (by rw [h0]; exact hx)
  refine ⟨h1, fun k => b3_ext fun t ht => ?_⟩
  rw [h2 k t ht, hg]
  unfold shB
  have ht3 : t = 0 ∨ t = 1 ∨ t = 2 := by omega
  by_cases hk : k = kAX
  · simp only [if_pos hk]
    rcases ht3 with rfl | rfl | rfl <;> simp [partB]
    omega
  · simp only [if_neg hk, Int.add_zero]
theorem sh_whole {l : List (Ent Key B3)} {x y : Int} (h : ∀ k, getM l k = shB x y k) (hb : -1152921504606846976 ≤ x + y ∧ x + y ≤ 1152921504606846976) : clampV (sum3 (getM l (⟨#[65]⟩, ⟨#[88]⟩))) = x + y := by
  rw [h, shB_at]
  show clampV (x + (0 + y)) = x + y
  rw [Int.zero_add, clamp_in hb]
theorem sh_part0 {l : List (Ent Key B3)} {x y z : Int} (h : ∀ k, getM l k = shB x y k) (e : x = z) : partM (getM l (⟨#[65]⟩, ⟨#[88]⟩)) 0 = z := by rw [h, shB_at, ← e]; rfl
theorem sh_part2 {l : List (Ent Key B3)} {x y z : Int} (h : ∀ k, getM l k = shB x y k) (e : y = z) : partM (getM l (⟨#[65]⟩, ⟨#[88]⟩)) 2 = z := by rw [h, shB_at, ← e]; rfl
theorem sh_short {u v z : Int} : Short (shiftL ⟨#[65]⟩ ⟨#[88]⟩ u v z) := by
  intro p hp
  simp only [shiftL, List.mem_cons, List.not_mem_nil, or_false] at hp
  rcases hp with rfl | rfl <;> exact ⟨by show (⟨#[65]⟩ : ByteArray).size ≤ 281474976710656; decide, by show (⟨#[88]⟩ : ByteArray).size ≤ 281474976710656; decide⟩
end
theorem addC_free' {b : B3} {z : Int} (h : -1152921504606846976 ≤ z ∧ z ≤ 1152921504606846976) (h1 : 0 ≤ b.1 + z) (h2 : b.1 + z ≤ 1152921504606846976) : addC b 0 z = 0 := by
  unfold addC
  rw [if_pos (by omega), if_neg (by show ¬ b.1 + z < 0; omega), if_neg (by show ¬ 1152921504606846976 < b.1 + z; omega)]
end Go.Proofs.Ytgbgedaedcofcaa
