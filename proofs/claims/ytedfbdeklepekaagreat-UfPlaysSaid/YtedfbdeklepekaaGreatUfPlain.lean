/-
  Classes of numbers by upper ones: heads, joins in whatever order, classes: plain lists, no program.
-/
namespace Go.Proofs.YtedfbdeklepekaaGreat
namespace Uf
/-- The head of i, looked for in f steps. -/
def root (ups : List Nat) : Nat → Nat → Nat
  | 0, i => i
  | f + 1, i => if ups.getD (i - 1) 0 = i then i else root ups f (ups.getD (i - 1) 0)
def hd (ups : List Nat) (i : Nat) : Nat := root ups i i
/-- each number's upper one is not above it -/
def Good (ups : List Nat) : Prop := ∀ i, 1 ≤ i → i ≤ ups.length → 1 ≤ ups.getD (i - 1) 0 ∧ ups.getD (i - 1) 0 ≤ i

section
variable {ups : List Nat} (g : Good ups)
include g
theorem root_fuel : ∀ (i f f' : Nat), 1 ≤ i → i ≤ ups.length → i ≤ f → i ≤ f' → root ups f i = root ups f' i := by
  intro i
  induction i using Nat.strongRecOn with
  | ind i ih =>
    intro f f' h1 hl hf hf'
    obtain ⟨f, rfl⟩ : ∃ k, f = k + 1 := ⟨f - 1, by omega⟩
    obtain ⟨f', rfl⟩ : ∃ k, f' = k + 1 := ⟨f' - 1, by omega⟩
    obtain ⟨g1, g2⟩ := g i h1 hl
    simp only [root]
    by_cases e : ups.getD (i - 1) 0 = i
    · rw [if_pos e, if_pos e]
    · rw [if_neg e, if_neg e]
      exact ih _ (by omega) f f' g1 (by omega) (by omega) (by omega)
omit g in
theorem hd_self {i : Nat} (h1 : 1 ≤ i) (e : ups.getD (i - 1) 0 = i) : hd ups i = i := by
  obtain ⟨k, rfl⟩ : ∃ k, i = k + 1 := ⟨i - 1, by omega⟩
  simp only [hd, root]; rw [if_pos e]
theorem hd_up {i : Nat} (h1 : 1 ≤ i) (hl : i ≤ ups.length) : hd ups i = hd ups (ups.getD (i - 1) 0) := by
  by_cases e : ups.getD (i - 1) 0 = i
  · rw [e]
  · obtain ⟨g1, g2⟩ := g i h1 hl
    have : hd ups i = root ups (i - 1) (ups.getD (i - 1) 0) := by
      obtain ⟨k, rfl⟩ : ∃ k, i = k + 1 := ⟨i - 1, by omega⟩
      simp only [hd, root]; rw [if_neg e]; rfl
    rw [this]
    exact root_fuel g _ _ _ g1 (by omega) (by omega) (Nat.le_refl _)
theorem hd_spec : ∀ (i : Nat), 1 ≤ i → i ≤ ups.length → 1 ≤ hd ups i ∧ hd ups i ≤ i ∧ ups.getD (hd ups i - 1) 0 = hd ups i := by
  intro i
  induction i using Nat.strongRecOn with
  | ind i ih =>
    intro h1 hl
    by_cases e : ups.getD (i - 1) 0 = i
    · rw [hd_self h1 e]; exact ⟨h1, Nat.le_refl _, e⟩
    · obtain ⟨g1, g2⟩ := g i h1 hl
      rw [hd_up g h1 hl]
      have := ih _ (show ups.getD (i - 1) 0 < i by omega) g1 (by omega)
      exact ⟨this.1, by omega, this.2.2⟩
theorem hd_hd {i : Nat} (h1 : 1 ≤ i) (hl : i ≤ ups.length) : hd ups (hd ups i) = hd ups i := by
  obtain ⟨a, b, c⟩ := hd_spec g i h1 hl
  exact hd_self a c

theorem good_set {a b : Nat} (ha : 1 ≤ a) (hab : a ≤ b) : Good (ups.set (b - 1) a) := by
  intro i h1 hl
  rw [List.length_set] at hl
  obtain ⟨g1, g2⟩ := g i h1 hl
  by_cases e : b - 1 = i - 1
  · have hb : b = i := by omega
    subst hb
    rw [List.getD_eq_getElem?_getD, List.getElem?_set_self (by omega)]
    exact ⟨ha, hab⟩
  · rw [List.getD_eq_getElem?_getD, List.getElem?_set_ne e, ← List.getD_eq_getElem?_getD]
    exact ⟨g1, g2⟩
omit g in
theorem getD_set_ne {a b i : Nat} (hb : 1 ≤ b) (h1 : 1 ≤ i) (e : i ≠ b) : (ups.set (b - 1) a).getD (i - 1) 0 = ups.getD (i - 1) 0 := by
  rw [List.getD_eq_getElem?_getD, List.getElem?_set_ne (by omega), ← List.getD_eq_getElem?_getD]
theorem hd_set {a b : Nat} (ha : 1 ≤ a) (hab : a < b) (hb : b ≤ ups.length) (ra : ups.getD (a - 1) 0 = a) (rb : ups.getD (b - 1) 0 = b) :
    ∀ i, 1 ≤ i → i ≤ ups.length → hd (ups.set (b - 1) a) i = if hd ups i = b then a else hd ups i := by
  have g' := good_set g ha (Nat.le_of_lt hab)
  have ra' : (ups.set (b - 1) a).getD (a - 1) 0 = a := by rw [getD_set_ne (by omega) ha (by omega)]; exact ra
  intro i
  induction i using Nat.strongRecOn with
  | ind i ih =>
    intro h1 hl
    by_cases eb : i = b
    · subst eb
      rw [hd_up g' h1 (by rw [List.length_set]; exact hl)]
      have e1 : (ups.set (i - 1) a).getD (i - 1) 0 = a := by rw [List.getD_eq_getElem?_getD, List.getElem?_set_self (by omega)]; rfl
      rw [e1, hd_self ha ra', hd_self h1 rb, if_pos rfl]
    · rw [hd_up g' h1 (by rw [List.length_set]; exact hl), getD_set_ne (by omega) h1 eb]
      by_cases e : ups.getD (i - 1) 0 = i
      · have e' : (ups.set (b - 1) a).getD (i - 1) 0 = i := by rw [getD_set_ne (by omega) h1 eb]; exact e
        rw [e, hd_self h1 e', hd_self h1 e, if_neg eb]
      · obtain ⟨g1, g2⟩ := g i h1 hl
        rw [ih _ (show ups.getD (i - 1) 0 < i by omega) g1 (by omega), ← hd_up g h1 hl]
theorem good_grow : Good (ups ++ [ups.length + 1]) := by
  intro i h1 hl
  simp only [List.length_append, List.length_singleton] at hl
  rcases Nat.lt_or_ge ups.length i with h | h
  · have : i = ups.length + 1 := by omega
    subst this
    simp [List.getD_eq_getElem?_getD]
  · rw [List.getD_eq_getElem?_getD, List.getElem?_append_left (by omega), ← List.getD_eq_getElem?_getD]
    exact g i h1 h
theorem hd_grow_old : ∀ i, 1 ≤ i → i ≤ ups.length → hd (ups ++ [ups.length + 1]) i = hd ups i := by
  have g' := good_grow g
  intro i
  induction i using Nat.strongRecOn with
  | ind i ih =>
    intro h1 hl
    have e0 : (ups ++ [ups.length + 1]).getD (i - 1) 0 = ups.getD (i - 1) 0 := by
      rw [List.getD_eq_getElem?_getD, List.getElem?_append_left (by omega), ← List.getD_eq_getElem?_getD]
    by_cases e : ups.getD (i - 1) 0 = i
    · rw [hd_self h1 (e0.trans e), hd_self h1 e]
    · obtain ⟨g1, g2⟩ := g i h1 hl
      rw [hd_up g' h1 (by simp; omega), e0, ih _ (by omega) g1 (by omega), ← hd_up g h1 hl]
theorem hd_grow_new : hd (ups ++ [ups.length + 1]) (ups.length + 1) = ups.length + 1 := by
  have g' := good_grow g
  exact hd_self (by omega) (by simp [List.getD_eq_getElem?_getD])
end

/-- One pair joined. -/
def step (ups : List Nat) (x y : Nat) : List Nat :=
  if hd ups x = hd ups y then ups else ups.set (max (hd ups x) (hd ups y) - 1) (min (hd ups x) (hd ups y))
def more (ups : List Nat) (x y : Nat) : Nat := if hd ups x = hd ups y then 0 else 1
theorem step_length (ups : List Nat) (x y : Nat) : (step ups x y).length = ups.length := by unfold step; split <;> simp

section
variable {ups : List Nat} (g : Good ups) {x y : Nat} (hx : 1 ≤ x ∧ x ≤ ups.length) (hy : 1 ≤ y ∧ y ≤ ups.length)
include g hx hy
theorem good_step : Good (step ups x y) := by
  unfold step
  obtain ⟨a1, a2, a3⟩ := hd_spec g x hx.1 hx.2
  obtain ⟨b1, b2, b3⟩ := hd_spec g y hy.1 hy.2
  split
  · exact g
  · exact good_set g (by omega) (by omega)
theorem hd_stepped {i : Nat} (h1 : 1 ≤ i) (hl : i ≤ ups.length) :
    hd (step ups x y) i = if hd ups i = hd ups x ∨ hd ups i = hd ups y then min (hd ups x) (hd ups y) else hd ups i := by
  obtain ⟨a1, a2, a3⟩ := hd_spec g x hx.1 hx.2
  obtain ⟨b1, b2, b3⟩ := hd_spec g y hy.1 hy.2
  unfold step
  split
  · rename_i e
    rw [← e]
    split <;> omega
  · rename_i e
    rcases Nat.lt_or_gt_of_ne e with h | h
    · rw [Nat.max_eq_right (by omega), Nat.min_eq_left (by omega), hd_set g a1 h (by omega) a3 b3 i h1 hl]
      by_cases e1 : hd ups i = hd ups y <;> by_cases e2 : hd ups i = hd ups x <;> simp [e1, e2] <;> omega
    · rw [Nat.max_eq_left (by omega), Nat.min_eq_right (by omega), hd_set g b1 h (by omega) b3 a3 i h1 hl]
      by_cases e1 : hd ups i = hd ups y <;> by_cases e2 : hd ups i = hd ups x <;> simp [e1, e2] <;> omega
/-- Being in one class, behind a pair joined. -/
theorem same_stepped {i j : Nat} (hi : 1 ≤ i ∧ i ≤ ups.length) (hj : 1 ≤ j ∧ j ≤ ups.length) :
    hd (step ups x y) i = hd (step ups x y) j ↔ hd ups i = hd ups j ∨ ((hd ups i = hd ups x ∨ hd ups i = hd ups y) ∧ (hd ups j = hd ups x ∨ hd ups j = hd ups y)) := by
  rw [hd_stepped g hx hy hi.1 hi.2, hd_stepped g hx hy hj.1 hj.2]
  split <;> split <;> omega
end

/-! ### Being in one class, whatever the order of the joins -/
def E (ups : List Nat) (i j : Nat) : Prop := (1 ≤ i ∧ i ≤ ups.length) ∧ (1 ≤ j ∧ j ≤ ups.length) ∧ hd ups i = hd ups j
inductive Con (R : Nat → Nat → Prop) (ps : List (Nat × Nat)) : Nat → Nat → Prop
  | base {i j : Nat} : R i j → Con R ps i j
  | pair {x y : Nat} : (x, y) ∈ ps → Con R ps x y
  | symm {i j : Nat} : Con R ps i j → Con R ps j i
  | trans {i j k : Nat} : Con R ps i j → Con R ps j k → Con R ps i k
theorem E.symm {ups : List Nat} {i j : Nat} (h : E ups i j) : E ups j i := ⟨h.2.1, h.1, h.2.2.symm⟩
theorem E.trans {ups : List Nat} {i j k : Nat} (h : E ups i j) (h' : E ups j k) : E ups i k := ⟨h.1, h'.2.1, h.2.2.trans h'.2.2⟩

theorem Con.mono {R R' : Nat → Nat → Prop} {ps qs : List (Nat × Nat)} (hR : ∀ i j, R i j → Con R' qs i j) (hp : ∀ x y, (x, y) ∈ ps → Con R' qs x y) {i j : Nat} (h : Con R ps i j) : Con R' qs i j := by
  induction h with
  | base h => exact hR _ _ h
  | pair h => exact hp _ _ h
  | symm _ ih => exact ih.symm
  | trans _ _ ih1 ih2 => exact ih1.trans ih2

theorem E_step {ups : List Nat} (g : Good ups) {x y : Nat} (hx : 1 ≤ x ∧ x ≤ ups.length) (hy : 1 ≤ y ∧ y ≤ ups.length) (i j : Nat) : E (step ups x y) i j ↔ Con (E ups) [(x, y)] i j := by
  constructor
  · rintro ⟨hi, hj, h⟩
    rw [step_length] at hi hj
    rcases (same_stepped g hx hy hi hj).1 h with h | ⟨h1, h2⟩
    · exact .base ⟨hi, hj, h⟩
    · have p : Con (E ups) [(x, y)] x y := .pair (by simp)
      have bx : ∀ k, (1 ≤ k ∧ k ≤ ups.length) → (hd ups k = hd ups x ∨ hd ups k = hd ups y) → Con (E ups) [(x, y)] k x := by
        intro k hk h
        rcases h with h | h
        · exact .base ⟨hk, hx, h⟩
        · exact .trans (.base ⟨hk, hy, h⟩) p.symm
      exact (bx i hi h1).trans (bx j hj h2).symm
  · intro h
    induction h with
    | base h => exact ⟨by rw [step_length]; exact h.1, by rw [step_length]; exact h.2.1, (same_stepped g hx hy h.1 h.2.1).2 (.inl h.2.2)⟩
    | pair h =>
      simp at h
      obtain ⟨rfl, rfl⟩ := h
      exact ⟨by rw [step_length]; exact hx, by rw [step_length]; exact hy, (same_stepped g hx hy hx hy).2 (.inr ⟨.inl rfl, .inr rfl⟩)⟩
    | symm _ ih => exact ih.symm
    | trans _ _ ih1 ih2 => exact ih1.trans ih2

def joins (ups : List Nat) (ps : List (Nat × Nat)) : List Nat := ps.foldl (fun u p => step u p.1 p.2) ups
theorem joins_length (ups : List Nat) (ps : List (Nat × Nat)) : (joins ups ps).length = ups.length := by
  unfold joins
  induction ps generalizing ups with
  | nil => rfl
  | cons p ps ih => rw [List.foldl_cons, ih, step_length]
def InR (n : Nat) (ps : List (Nat × Nat)) : Prop := ∀ p ∈ ps, (1 ≤ p.1 ∧ p.1 ≤ n) ∧ (1 ≤ p.2 ∧ p.2 ≤ n)
theorem good_joins {ps : List (Nat × Nat)} : ∀ {ups : List Nat}, Good ups → InR ups.length ps → Good (joins ups ps) := by
  induction ps with
  | nil => intro ups g _; exact g
  | cons p ps ih =>
    intro ups g h
    obtain ⟨hx, hy⟩ := h p (by simp)
    exact ih (good_step g hx hy) (by rw [step_length]; exact fun q hq => h q (by simp [hq]))
theorem E_joins {ps : List (Nat × Nat)} : ∀ {ups : List Nat}, Good ups → InR ups.length ps → ∀ i j, E (joins ups ps) i j ↔ Con (E ups) ps i j := by
  induction ps with
  | nil =>
    intro ups _ _ i j
    constructor
    · exact fun h => .base h
    · intro h
      show E ups i j
      induction h with
      | base h => exact h
      | pair h => simp at h
      | symm _ ih => exact ih.symm
      | trans _ _ ih1 ih2 => exact ih1.trans ih2
  | cons p ps ih =>
    intro ups g h i j
    obtain ⟨hx, hy⟩ := h p (by simp)
    have h' : InR (step ups p.1 p.2).length ps := by rw [step_length]; exact fun q hq => h q (by simp [hq])
    have e : joins ups (p :: ps) = joins (step ups p.1 p.2) ps := rfl
    rw [e, ih (good_step g hx hy) h' i j]
    constructor
    · refine Con.mono (fun a b hab => ?_) (fun a b hab => .pair (by simp [hab]))
      exact Con.mono (fun _ _ h => .base h) (fun a b hab => .pair (by simp at hab; simp [hab])) ((E_step g hx hy a b).1 hab)
    · refine Con.mono (fun a b hab => .base ((E_step g hx hy a b).2 (.base hab))) (fun a b hab => ?_)
      rcases List.mem_cons.1 hab with hab | hab
      · subst hab
        exact .base ((E_step g hx hy a b).2 (.pair (by simp)))
      · exact .pair hab

/-- Joining the same pairs in whatever order, turned or not, ends the same. -/
theorem Con.same {R : Nat → Nat → Prop} {ps qs : List (Nat × Nat)} (h : ∀ x y, (x, y) ∈ ps → (x, y) ∈ qs ∨ (y, x) ∈ qs) {i j : Nat} (hc : Con R ps i j) : Con R qs i j :=
  Con.mono (fun _ _ h => .base h) (fun x y hxy => (h x y hxy).elim .pair fun h => (Con.pair h).symm) hc

theorem hd_unique {u v : List Nat} (gu : Good u) (gv : Good v) (hl : u.length = v.length) (h : ∀ i j, E u i j ↔ E v i j) {i : Nat} (h1 : 1 ≤ i) (h2 : i ≤ u.length) : hd u i = hd v i := by
  obtain ⟨a1, a2, a3⟩ := hd_spec gu i h1 h2
  obtain ⟨b1, b2, b3⟩ := hd_spec gv i h1 (by omega)
  have ea : E u i (hd u i) := ⟨⟨h1, h2⟩, ⟨a1, by omega⟩, (hd_hd gu h1 h2).symm⟩
  have eb : E v i (hd v i) := ⟨⟨h1, by omega⟩, ⟨b1, by omega⟩, (hd_hd gv h1 (by omega)).symm⟩
  have ea' := ((h _ _).1 ea).2.2
  have eb' := ((h _ _).2 eb).2.2
  have c1 := (hd_spec gv (hd u i) a1 (by omega)).2.1
  have c2 := (hd_spec gu (hd v i) b1 (by omega)).2.1
  omega

/-! ### Classes -/
def heads (ups : List Nat) : List Nat := (List.range' 1 ups.length).filter fun i => hd ups i = i
def cls (ups : List Nat) (h : Nat) : List Nat := (List.range' 1 ups.length).filter fun j => hd ups j = h
def classes (ups : List Nat) : List (List Nat) := (heads ups).map (cls ups)
def fresh (n : Nat) : List Nat := List.range' 1 n
theorem fresh_length (n : Nat) : (fresh n).length = n := by simp [fresh]
theorem fresh_at (n i : Nat) (h1 : 1 ≤ i) (h2 : i ≤ n) : (fresh n).getD (i - 1) 0 = i := by
  simp [fresh, List.getD_eq_getElem?_getD]
  rw [List.getElem?_eq_getElem (by simp; omega)]
  simp; omega
theorem fresh_good (n : Nat) : Good (fresh n) := by
  intro i h1 h2
  rw [fresh_length] at h2
  rw [fresh_at n i h1 h2]
  omega
theorem fresh_hd (n i : Nat) (h1 : 1 ≤ i) (h2 : i ≤ n) : hd (fresh n) i = i := hd_self h1 (fresh_at n i h1 h2)
end Uf
end Go.Proofs.YtedfbdeklepekaaGreat
