/-
  Counting classes: plain.
-/
import Derived.Test.YtnfgndapalkbcaaUfI
namespace Go.Proofs.Ytnfgndapalkbcaa
namespace Uf

theorem filter_less {l : List Nat} (hn : l.Nodup) {f : Nat → Bool} {q : Nat} (hq : q ∈ l) (hf : f q = true) : (l.filter fun i => f i && decide (i ≠ q)).length + 1 = (l.filter f).length := by
  induction l with
  | nil => cases hq
  | cons x l ih =>
    rw [List.nodup_cons] at hn
    by_cases e : x = q
    · subst e
      have h1 : (l.filter fun i => f i && decide (i ≠ x)) = l.filter f := by
        apply List.filter_congr
        intro y hy
        have : y ≠ x := fun e => hn.1 (e ▸ hy)
        simp [this]
      rw [List.filter_cons_of_pos hf, List.filter_cons_of_neg (by simp), h1]
      rfl
    · have hq' : q ∈ l := by
        rcases List.mem_cons.1 hq with h | h
        · exact absurd h.symm e
        · exact h
      have := ih hn.2 hq'
      by_cases hx : f x = true
      · rw [List.filter_cons_of_pos hx, List.filter_cons_of_pos (by simp [hx, e])]
        simp only [List.length_cons]
        omega
      · rw [List.filter_cons_of_neg hx, List.filter_cons_of_neg (by simp [hx])]
        exact this

theorem heads_step {u : List Nat} (g : Good u) {x y : Nat} (hx : 1 ≤ x ∧ x ≤ u.length) (hy : 1 ≤ y ∧ y ≤ u.length) : (heads (step u x y)).length + more u x y = (heads u).length := by
  unfold more
  by_cases e : hd u x = hd u y
  · rw [if_pos e]
    unfold step
    rw [if_pos e]
    rfl
  · rw [if_neg e]
    obtain ⟨a1, a2, a3⟩ := hd_spec g x hx.1 hx.2
    obtain ⟨b1, b2, b3⟩ := hd_spec g y hy.1 hy.2
    have ha := hd_hd g hx.1 hx.2
    have hb := hd_hd g hy.1 hy.2
    have hst := fun (i : Nat) h1 hl => hd_stepped g hx hy (i := i) h1 hl
    unfold heads
    rw [step_length]
    generalize hp : hd u x = p at *
    generalize hq : hd u y = q at *
    have hm : max p q ∈ List.range' 1 u.length := by rw [List.mem_range'_1]; omega
    have hf : decide (hd u (max p q) = max p q) = true := by
      rw [decide_eq_true_iff]
      rcases Nat.lt_or_ge p q with h | h
      · rw [Nat.max_eq_right (by omega)]; exact hb
      · rw [Nat.max_eq_left h]; exact ha
    have hfl := filter_less (f := fun i => decide (hd u i = i)) (List.nodup_range' (s := 1) (n := u.length) (step := 1)) hm hf
    rw [← hfl]
    congr 2
    apply List.filter_congr
    intro i hi
    rw [List.mem_range'_1] at hi
    rw [hst i (by omega) (by omega)]
    by_cases h1 : hd u i = p ∨ hd u i = q
    · rw [if_pos h1]
      rw [Bool.eq_iff_iff, Bool.and_eq_true, decide_eq_true_iff, decide_eq_true_iff, decide_eq_true_iff]
      constructor
      · intro h
        subst h
        refine ⟨?_, by omega⟩
        rcases Nat.lt_or_ge p q with h | h
        · rw [Nat.min_eq_left (by omega)]; exact ha
        · rw [Nat.min_eq_right h]; exact hb
      · rintro ⟨h, h2⟩
        omega
    · rw [if_neg h1]
      rw [Bool.eq_iff_iff, Bool.and_eq_true, decide_eq_true_iff, decide_eq_true_iff]
      constructor
      · intro h
        exact ⟨h, by omega⟩
      · exact fun h => h.1

/-- each number is in one class: the lengths add up -/
theorem sum_classes (H : List Nat) (hn : H.Nodup) (f : Nat → Nat) : ∀ (l : List Nat), (∀ j ∈ l, f j ∈ H) → (H.map fun h => (l.filter fun j => decide (f j = h)).length).sum = l.length
  | [], _ => by
    simp only [List.filter_nil, List.length_nil]
    induction H with
    | nil => rfl
    | cons h H ih => simp [ih (List.nodup_cons.1 hn).2]
  | j :: l, hm => by
    have ih := sum_classes H hn f l (fun k hk => hm k (by simp [hk]))
    have hj := hm j (by simp)
    have key : ∀ (H : List Nat), H.Nodup → (H.map fun h => ((j :: l).filter fun j => decide (f j = h)).length).sum = (H.map fun h => (l.filter fun j => decide (f j = h)).length).sum + if f j ∈ H then 1 else 0 := by
      intro H
      induction H with
      | nil => intro _; rfl
      | cons h H ihH =>
        intro hn
        have hn' := List.nodup_cons.1 hn
        have := ihH hn'.2
        simp only [List.map_cons, List.sum_cons]
        rw [this]
        by_cases e : f j = h
        · have hnm : ¬ f j ∈ H := by rw [e]; exact hn'.1
          rw [List.filter_cons_of_pos (by simp [e]), if_neg hnm, if_pos (by simp [e])]
          simp only [List.length_cons]
          omega
        · rw [List.filter_cons_of_neg (by simp [e])]
          by_cases hm : f j ∈ H
          · rw [if_pos hm, if_pos (by simp [hm])]; omega
          · rw [if_neg hm, if_neg (by simp [hm, e])]; omega
    rw [key H hn, ih, if_pos hj]
    rfl
theorem sum_lengths {u : List Nat} (g : Good u) : ((classes u).map List.length).sum = u.length := by
  unfold classes cls
  rw [List.map_map]
  have := sum_classes (heads u) (by unfold heads; exact List.Pairwise.filter _ List.nodup_range') (hd u) (List.range' 1 u.length) (by
    intro j hj
    rw [List.mem_range'_1] at hj
    obtain ⟨a1, a2, a3⟩ := hd_spec g j (by omega) (by omega)
    unfold heads
    rw [List.mem_filter, List.mem_range'_1, decide_eq_true_iff]
    exact ⟨⟨a1, by omega⟩, hd_hd g (by omega) (by omega)⟩)
  rw [List.length_range'] at this
  exact this

/-- the same heads: the same classes -/
theorem classes_congr {u v : List Nat} (hl : u.length = v.length) (h : ∀ i, 1 ≤ i → i ≤ u.length → hd u i = hd v i) : classes u = classes v := by
  have hh : heads u = heads v := by
    unfold heads
    rw [hl]
    apply List.filter_congr
    intro i hi
    rw [List.mem_range'_1] at hi
    rw [h i (by omega) (by omega)]
  unfold classes
  rw [hh]
  apply List.map_congr_left
  intro x _
  unfold cls
  rw [hl]
  apply List.filter_congr
  intro i hi
  rw [List.mem_range'_1] at hi
  rw [h i (by omega) (by omega)]
end Uf
end Go.Proofs.Ytnfgndapalkbcaa
