/-
  A stable sort in blocks, with symmetric merging, as a list (plain): what slices.SortStableFunc does.
-/
import Derived.Test.YtnfgndapalkbcaaWords
namespace Go.Proofs.Ytnfgndapalkbcaa
section
variable {α : Type}
/-- a strict weak order -/
structure Weak (lt : α → α → Bool) : Prop where
  asym : ∀ a b, lt a b = true → lt b a = false
  ntr : ∀ a b c, lt b a = false → lt c b = false → lt c a = false
def Srt (lt : α → α → Bool) (l : List α) : Prop := l.Pairwise (fun x y => lt y x = false)
abbrev mrg (lt : α → α → Bool) (l r : List α) : List α := l.merge r (fun x y => !lt y x)
variable {lt : α → α → Bool}
theorem mrg_nil_l (r : List α) : mrg lt [] r = r := by simp [mrg]
theorem mrg_nil_r (l : List α) : mrg lt l [] = l := by simp [mrg]
theorem mrg_cons (a b : α) (l r : List α) : mrg lt (a :: l) (b :: r) = if lt b a = true then b :: mrg lt (a :: l) r else a :: mrg lt l (b :: r) := by
  unfold mrg
  rw [List.cons_merge_cons]
  cases h : lt b a <;> simp
theorem mrg_split : ∀ (n : Nat) (l1 l2 r1 r2 : List α), l1.length + r1.length = n → (∀ x ∈ l1, ∀ y ∈ r2, lt y x = false) → (∀ y ∈ r1, ∀ x ∈ l2, lt y x = true) → mrg lt (l1 ++ l2) (r1 ++ r2) = mrg lt l1 r1 ++ mrg lt l2 r2
  | n, [], l2, [], r2, _, _, _ => by simp
  | n, [], [], y :: r1, r2, _, _, _ => by simp
  | n, [], x :: l2, y :: r1, r2, hn, h1, h2 => by
    have ih := mrg_split (n - 1) [] (x :: l2) r1 r2 (by simp at hn ⊢; omega) (fun x hx => by cases hx) (fun y hy => h2 y (by simp [hy]))
    simp only [List.nil_append, List.cons_append, mrg_nil_l] at ih ⊢
    rw [mrg_cons, if_pos (h2 y (by simp) x (by simp)), ih]
  | n, x :: l1, l2, [], [], _, _, _ => by simp
  | n, x :: l1, l2, [], z :: r2, hn, h1, h2 => by
    have ih := mrg_split (n - 1) l1 l2 [] (z :: r2) (by simp at hn ⊢; omega) (fun x hx => h1 x (by simp [hx])) (fun y hy => by cases hy)
    simp only [List.nil_append, List.cons_append, mrg_nil_r] at ih ⊢
    rw [mrg_cons, if_neg (by rw [h1 x (by simp) z (by simp)]; decide), ih]
  | n, x :: l1, l2, y :: r1, r2, hn, h1, h2 => by
    have ih1 := mrg_split (n - 1) l1 l2 (y :: r1) r2 (by simp at hn ⊢; omega) (fun x hx => h1 x (by simp [hx])) h2
    have ih2 := mrg_split (n - 1) (x :: l1) l2 r1 r2 (by simp at hn ⊢; omega) h1 (fun y hy => h2 y (by simp [hy]))
    simp only [List.cons_append] at ih1 ih2 ⊢
    rw [mrg_cons, mrg_cons]
    cases h : lt y x
    · simp only [Bool.false_eq_true, if_false, List.cons_append, ih1]
    · simp only [if_true, List.cons_append, ih2]
theorem mrg_perm : ∀ (l r : List α), (mrg lt l r).Perm (l ++ r) := fun _ _ => List.merge_perm_append _
theorem mrg_mem {l r : List α} {x : α} : x ∈ mrg lt l r ↔ x ∈ l ∨ x ∈ r := by
  rw [(mrg_perm l r).mem_iff, List.mem_append]
theorem mrg_srt (hw : Weak lt) : ∀ (n : Nat) (l r : List α), l.length + r.length = n → Srt lt l → Srt lt r → Srt lt (mrg lt l r)
  | n, [], r, _, _, h => by rw [mrg_nil_l]; exact h
  | n, x :: l, [], _, h, _ => by rw [mrg_nil_r]; exact h
  | n, x :: l, y :: r, hn, hl, hr => by
    have hl' := List.pairwise_cons.1 hl
    have hr' := List.pairwise_cons.1 hr
    rw [mrg_cons]
    cases h : lt y x
    · simp only [Bool.false_eq_true, if_false]
      refine List.pairwise_cons.2 ⟨fun z hz => ?_, mrg_srt hw (n - 1) l (y :: r) (by simp at hn ⊢; omega) hl'.2 hr⟩
      rcases mrg_mem.1 hz with hz | hz
      · exact hl'.1 z hz
      · rcases List.mem_cons.1 hz with rfl | hz
        · exact h
        · exact hw.ntr _ _ _ h (hr'.1 z hz)
    · simp only [if_true]
      refine List.pairwise_cons.2 ⟨fun z hz => ?_, mrg_srt hw (n - 1) (x :: l) r (by simp at hn ⊢; omega) hl hr'.2⟩
      rcases mrg_mem.1 hz with hz | hz
      · rcases List.mem_cons.1 hz with rfl | hz
        · exact hw.asym _ _ h
        · exact hw.ntr _ _ _ (hw.asym _ _ h) (hl'.1 z hz)
      · exact hr'.1 z hz
/-! ### Swaps -/
def swp (xs : List α) (i j : Nat) : List α := match xs[i]?, xs[j]? with
  | some x, some y => (xs.set i y).set j x
  | _, _ => xs
theorem swp_len (xs : List α) (i j : Nat) : (swp xs i j).length = xs.length := by
  unfold swp
  split <;> simp
def swapM (xs : List α) (a b : Nat) : Nat → List α
  | 0 => xs
  | n + 1 => swp (swapM xs a b n) (a + n) (b + n)
theorem swapM_len (xs : List α) (a b : Nat) : ∀ n, (swapM xs a b n).length = xs.length
  | 0 => rfl
  | n + 1 => by rw [swapM, swp_len, swapM_len xs a b n]
theorem get_mid {p : List α} {x : α} {s : List α} {i : Nat} (h : p.length = i) : (p ++ x :: s)[i]? = some x := by
  subst h
  simp
theorem set_mid {p : List α} {x y : α} {s : List α} {i : Nat} (h : p.length = i) : (p ++ x :: s).set i y = p ++ y :: s := by
  subst h
  simp
theorem swp_mid (p q s : List α) (x y : α) (i j : Nat) (hi : p.length = i) (hj : i + 1 + q.length = j) : swp (p ++ x :: (q ++ y :: s)) i j = p ++ y :: (q ++ x :: s) := by
  have h2 : (p ++ x :: q).length = j := by simp; omega
  have e1 : p ++ x :: (q ++ y :: s) = (p ++ x :: q) ++ y :: s := by simp
  unfold swp
  rw [get_mid hi]
  have h3 : (p ++ x :: (q ++ y :: s))[j]? = some y := by rw [e1, get_mid h2]
  rw [h3]
  simp only
  rw [set_mid hi]
  have e2 : p ++ y :: (q ++ y :: s) = (p ++ y :: q) ++ y :: s := by simp
  rw [e2, set_mid (by simp at h2 ⊢; omega)]
  simp
theorem swapM_spec (p q s : List α) : ∀ (n : Nat) (u1 u2 v1 v2 : List α) (a b : Nat), u1.length = n → p.length = a → a + (u1 ++ u2).length + q.length = b → u1.length = v1.length → u2.length = v2.length →
    swapM (p ++ (u1 ++ u2) ++ q ++ (v1 ++ v2) ++ s) a b n = p ++ (v1 ++ u2) ++ q ++ (u1 ++ v2) ++ s
  | 0, u1, u2, v1, v2, a, b, hn, _, _, h1, _ => by
    have e1 := List.eq_nil_of_length_eq_zero hn
    have e2 := List.eq_nil_of_length_eq_zero (by rw [← h1, hn] : v1.length = 0)
    subst e1 e2
    rfl
  | n + 1, u1, u2, v1, v2, a, b, hn, ha, hb, h1, h2 => by
    rcases List.eq_nil_or_concat u1 with rfl | ⟨u1, x, rfl⟩
    · simp at hn
    rcases List.eq_nil_or_concat v1 with rfl | ⟨w1, y, rfl⟩
    · simp at h1
    simp only [List.concat_eq_append] at *
    have h1' : u1.length = w1.length := by simpa using h1
    have hn' : u1.length = n := by simpa using hn
    have := swapM_spec p q s n u1 (x :: u2) w1 (y :: v2) a b hn' ha (by simp at hb ⊢; omega) h1' (by simpa using h2)
    have e1 : p ++ (u1 ++ [x] ++ u2) ++ q ++ (w1 ++ [y] ++ v2) ++ s = p ++ (u1 ++ x :: u2) ++ q ++ (w1 ++ y :: v2) ++ s := by simp
    rw [e1, swapM, this]
    have e2 : p ++ (w1 ++ x :: u2) ++ q ++ (u1 ++ y :: v2) ++ s = (p ++ w1) ++ x :: ((u2 ++ q ++ u1) ++ y :: (v2 ++ s)) := by simp
    rw [e2, swp_mid _ _ _ _ _ _ _ (by simp; omega) (by simp at hb ⊢; omega)]
    simp
/-- two ranges of one length change places -/
theorem swapM_eq (p q s u v : List α) (a b n : Nat) (ha : p.length = a) (hb : a + u.length + q.length = b) (hu : u.length = n) (hv : v.length = n) : swapM (p ++ u ++ q ++ v ++ s) a b n = p ++ v ++ q ++ u ++ s := by
  have := swapM_spec p q s n u [] v [] a b hu ha (by simpa using hb) (by omega) rfl
  simp only [List.append_nil] at this
  exact this
/-! ### Rotation -/
def rotM (m : Nat) : Nat → List α → Nat → Nat → List α
  | 0, xs, _, _ => xs
  | f + 1, xs, i, j => if i = j then swapM xs (m - i) m i else if i > j then rotM m f (swapM xs (m - i) m j) (i - j) j else rotM m f (swapM xs (m - i) (m + j - i) i) i (j - i)
theorem rotM_eq (m : Nat) : ∀ (f : Nat) (p u v s : List α) (i j : Nat), 0 < i → 0 < j → i + j ≤ f → u.length = i → v.length = j → p.length + i = m → rotM m f (p ++ u ++ v ++ s) i j = p ++ v ++ u ++ s
  | 0, _, _, _, _, _, _, h1, h2, h3, _, _, _ => by omega
  | f + 1, p, u, v, s, i, j, h1, h2, h3, hu, hv, hp => by
    unfold rotM
    by_cases e : i = j
    · rw [if_pos e]
      have := swapM_eq p [] s u v (m - i) m i (by omega) (by simp; omega) hu (by omega)
      simp only [List.append_nil] at this
      exact this
    · rw [if_neg e]
      by_cases g : i > j
      · rw [if_pos g]
        obtain ⟨x, y, rfl, hx⟩ : ∃ x y, u = x ++ y ∧ x.length = j := ⟨u.take j, u.drop j, (List.take_append_drop j u).symm, by simp; omega⟩
        have hy : y.length = i - j := by simp at hu; omega
        have := swapM_eq p y s x v (m - i) m j (by omega) (by simp at hu; omega) hx hv
        have e1 : p ++ (x ++ y) ++ v ++ s = p ++ x ++ y ++ v ++ s := by simp
        rw [e1, this]
        have ih := rotM_eq m f (p ++ v) y x s (i - j) j (by omega) h2 (by omega) hy hx (by simp; omega)
        rw [ih]
        simp
      · rw [if_neg g]
        obtain ⟨x, y, rfl, hy⟩ : ∃ x y, v = x ++ y ∧ y.length = i := ⟨v.take (j - i), v.drop (j - i), (List.take_append_drop _ v).symm, by simp; omega⟩
        have hx : x.length = j - i := by simp at hv; omega
        have := swapM_eq p x s u y (m - i) (m + j - i) i (by omega) (by omega) hu hy
        have e1 : p ++ u ++ (x ++ y) ++ s = p ++ u ++ x ++ y ++ s := by simp
        rw [e1, this]
        have ih := rotM_eq m f p y x (u ++ s) i (j - i) h1 (by omega) (by omega) hy hx hp
        have e2 : p ++ y ++ x ++ u ++ s = p ++ y ++ x ++ (u ++ s) := by simp
        rw [e2, ih]
        simp
/-! ### The sorted list -/
theorem mrg_assoc (hw : Weak lt) : ∀ (n : Nat) (a b c : List α), a.length + b.length + c.length = n → mrg lt (mrg lt a b) c = mrg lt a (mrg lt b c)
  | _, [], b, c, _ => by simp only [mrg_nil_l]
  | _, x :: a, [], c, _ => by simp only [mrg_nil_l, mrg_nil_r]
  | _, x :: a, y :: b, [], _ => by simp only [mrg_nil_r]
  | n, x :: a, y :: b, z :: c, hn => by
    have i1 := mrg_assoc hw (n - 1) a (y :: b) (z :: c) (by simp at hn ⊢; omega)
    have i2 := mrg_assoc hw (n - 1) (x :: a) b (z :: c) (by simp at hn ⊢; omega)
    have i3 := mrg_assoc hw (n - 1) (x :: a) (y :: b) c (by simp at hn ⊢; omega)
    cases h1 : lt y x with
    | false =>
      have e1 : mrg lt (x :: a) (y :: b) = x :: mrg lt a (y :: b) := by rw [mrg_cons, if_neg (by rw [h1]; decide)]
      cases h2 : lt z x with
      | false =>
        have e2 : mrg lt (x :: mrg lt a (y :: b)) (z :: c) = x :: mrg lt (mrg lt a (y :: b)) (z :: c) := by rw [mrg_cons, if_neg (by rw [h2]; decide)]
        rw [e1, e2, i1]
        rw [mrg_cons y z]
        split
        · rw [mrg_cons, if_neg (by rw [h2]; decide)]
        · rw [mrg_cons, if_neg (by rw [h1]; decide)]
      | true =>
        have h3 : lt z y = true := by
          cases h3 : lt z y with
          | true => rfl
          | false => rw [hw.ntr _ _ _ h1 h3] at h2; cases h2
        have e2 : mrg lt (x :: mrg lt a (y :: b)) (z :: c) = z :: mrg lt (x :: mrg lt a (y :: b)) c := by rw [mrg_cons, if_pos h2]
        rw [e1, e2, ← e1, i3, mrg_cons y z, if_pos h3, mrg_cons x z, if_pos h2]
    | true =>
      have e1 : mrg lt (x :: a) (y :: b) = y :: mrg lt (x :: a) b := by rw [mrg_cons, if_pos h1]
      cases h2 : lt z y with
      | false =>
        have e2 : mrg lt (y :: mrg lt (x :: a) b) (z :: c) = y :: mrg lt (mrg lt (x :: a) b) (z :: c) := by rw [mrg_cons, if_neg (by rw [h2]; decide)]
        rw [e1, e2, i2, mrg_cons y z, if_neg (by rw [h2]; decide), mrg_cons x y, if_pos h1]
      | true =>
        have h3 : lt z x = true := by
          cases h3 : lt z x with
          | true => rfl
          | false => rw [hw.ntr _ _ _ h3 (hw.asym _ _ h2)] at h1; cases h1
        have e2 : mrg lt (y :: mrg lt (x :: a) b) (z :: c) = z :: mrg lt (y :: mrg lt (x :: a) b) c := by rw [mrg_cons, if_pos h2]
        rw [e1, e2, ← e1, i3, mrg_cons y z, if_pos h2, mrg_cons x z, if_pos h3]
def ssort (lt : α → α → Bool) (l : List α) : List α := l.foldl (fun acc x => mrg lt acc [x]) []
theorem ssort_snoc (l : List α) (x : α) : ssort lt (l ++ [x]) = mrg lt (ssort lt l) [x] := by
  unfold ssort
  rw [List.foldl_append]
  rfl
theorem ssort_srt (hw : Weak lt) : ∀ (n : Nat) (l : List α), l.length = n → Srt lt (ssort lt l)
  | 0, l, h => by rw [List.eq_nil_of_length_eq_zero h]; exact List.Pairwise.nil
  | n + 1, l, h => by
    rcases List.eq_nil_or_concat l with rfl | ⟨l, x, rfl⟩
    · simp at h
    rw [List.concat_eq_append, ssort_snoc]
    exact mrg_srt hw _ _ _ rfl (ssort_srt hw n l (by simpa using h)) (List.pairwise_singleton ..)
theorem ssort_perm : ∀ (n : Nat) (l : List α), l.length = n → (ssort lt l).Perm l
  | 0, l, h => by rw [List.eq_nil_of_length_eq_zero h]; exact List.Perm.refl _
  | n + 1, l, h => by
    rcases List.eq_nil_or_concat l with rfl | ⟨l, x, rfl⟩
    · simp at h
    rw [List.concat_eq_append, ssort_snoc]
    exact (mrg_perm _ _).trans ((ssort_perm n l (by simpa using h)).append_right [x])
theorem ssort_len (l : List α) : (ssort lt l).length = l.length := (ssort_perm _ l rfl).length_eq
theorem ssort_append (hw : Weak lt) (u : List α) : ∀ (n : Nat) (v : List α), v.length = n → ssort lt (u ++ v) = mrg lt (ssort lt u) (ssort lt v)
  | 0, v, h => by
    rw [List.eq_nil_of_length_eq_zero h, List.append_nil]
    exact (mrg_nil_r _).symm
  | n + 1, v, h => by
    rcases List.eq_nil_or_concat v with rfl | ⟨v, x, rfl⟩
    · simp at h
    rw [List.concat_eq_append, ← List.append_assoc, ssort_snoc, ssort_snoc, ssort_append hw u n v (by simpa using h), mrg_assoc hw _ _ _ _ rfl]
/-! ### Binary search -/
def bsM (P : Nat → Bool) : Nat → Nat → Nat → Nat
  | 0, i, _ => i
  | f + 1, i, j => if i < j then (if P ((i + j) / 2) = true then bsM P f ((i + j) / 2 + 1) j else bsM P f i ((i + j) / 2)) else i
theorem bs_spec (P : Nat → Bool) : ∀ (f i j : Nat), i ≤ j → j - i ≤ f → (∀ c d, i ≤ c → c ≤ d → d < j → P d = true → P c = true) →
    i ≤ bsM P f i j ∧ bsM P f i j ≤ j ∧ (∀ c, i ≤ c → c < bsM P f i j → P c = true) ∧ (∀ c, bsM P f i j ≤ c → c < j → P c = false)
  | 0, i, j, hij, hf, _ => by
    have : i = j := by omega
    subst this
    simp only [bsM]
    exact ⟨Nat.le_refl _, Nat.le_refl _, fun c h1 h2 => by omega, fun c h1 h2 => by omega⟩
  | f + 1, i, j, hij, hf, hm => by
    unfold bsM
    by_cases h : i < j
    · rw [if_pos h]
      cases hP : P ((i + j) / 2) with
      | true =>
        rw [if_pos rfl]
        obtain ⟨h1, h2, h3, h4⟩ := bs_spec P f ((i + j) / 2 + 1) j (by omega) (by omega) (fun c d hc hcd hd => hm c d (by omega) hcd hd)
        refine ⟨by omega, h2, fun c hc1 hc2 => ?_, h4⟩
        by_cases hc : c ≤ (i + j) / 2
        · exact hm c _ hc1 hc (by omega) hP
        · exact h3 c (by omega) hc2
      | false =>
        rw [if_neg (by decide)]
        obtain ⟨h1, h2, h3, h4⟩ := bs_spec P f i ((i + j) / 2) (by omega) (by omega) (fun c d hc hcd hd => hm c d hc hcd (by omega))
        refine ⟨h1, by omega, h3, fun c hc1 hc2 => ?_⟩
        by_cases hc : c < (i + j) / 2
        · exact h4 c hc1 hc
        · cases hPc : P c with
          | false => rfl
          | true => rw [hm _ c (by omega) (by omega) hc2 hPc] at hP; cases hP
    · rw [if_neg h]
      exact ⟨Nat.le_refl _, hij, fun c h1 h2 => by omega, fun c h1 h2 => by omega⟩
/-! ### Insertion -/
def ltAt (lt : α → α → Bool) (xs : List α) (i j : Nat) : Bool := match xs[i]?, xs[j]? with
  | some x, some y => lt x y
  | _, _ => false
theorem ltAt_of {xs : List α} {i j : Nat} {x y : α} (hx : xs[i]? = some x) (hy : xs[j]? = some y) : ltAt lt xs i j = lt x y := by
  unfold ltAt
  rw [hx, hy]
def insJ (lt : α → α → Bool) (a : Nat) : Nat → List α → Nat → List α
  | 0, xs, _ => xs
  | f + 1, xs, j => if a < j ∧ ltAt lt xs j (j - 1) = true then insJ lt a f (swp xs j (j - 1)) (j - 1) else xs
theorem swp_comm (xs : List α) (i j : Nat) : swp xs i j = swp xs j i := by
  unfold swp
  cases h1 : xs[i]? with
  | none => cases xs[j]? <;> rfl
  | some x =>
    cases h2 : xs[j]? with
    | none => rfl
    | some y =>
      simp only
      by_cases e : i = j
      · subst e
        rw [h1] at h2
        injection h2 with h2
        subst h2
        rfl
      · exact List.set_comm _ _ e
theorem swp_next (p s : List α) (x y : α) (j : Nat) (hj : p.length + 1 = j) : swp (p ++ x :: y :: s) j (j - 1) = p ++ y :: x :: s := by
  rw [swp_comm]
  have := swp_mid p [] s x y (j - 1) j (by omega) (by simp; omega)
  simpa using this
theorem insJ_eq (hw : Weak lt) (a : Nat) (p : List α) (hp : p.length = a) : ∀ (f : Nat) (q s : List α) (x : α) (j : Nat), q.length ≤ f → a + q.length = j → Srt lt q → insJ lt a f (p ++ q ++ x :: s) j = p ++ mrg lt q [x] ++ s
  | 0, q, s, x, j, hf, hj, hq => by
    have : q = [] := List.eq_nil_of_length_eq_zero (by omega)
    subst this
    simp [insJ]
  | f + 1, q, s, x, j, hf, hj, hq => by
    unfold insJ
    rcases List.eq_nil_or_concat q with rfl | ⟨q, y, rfl⟩
    · rw [if_neg (fun h => by have := h.1; simp at hj; omega)]
      simp
    · simp only [List.concat_eq_append] at *
      have hlen : j = a + q.length + 1 := by simp at hj; omega
      have e0 : p ++ (q ++ [y]) ++ x :: s = (p ++ q) ++ y :: x :: s := by simp
      have gx : (p ++ (q ++ [y]) ++ x :: s)[j]? = some x := by
        rw [show p ++ (q ++ [y]) ++ x :: s = (p ++ q ++ [y]) ++ x :: s by simp]
        exact get_mid (by simp; omega)
      have gy : (p ++ (q ++ [y]) ++ x :: s)[j - 1]? = some y := by rw [e0]; exact get_mid (by simp; omega)
      rw [ltAt_of gx gy]
      have hq' := List.pairwise_append.1 hq
      cases h : lt x y with
      | true =>
        rw [if_pos ⟨by omega, rfl⟩, e0, swp_next _ _ _ _ _ (by simp; omega)]
        have e1 : p ++ q ++ x :: y :: s = p ++ q ++ x :: (y :: s) := rfl
        rw [e1, insJ_eq hw a p hp f q (y :: s) x (j - 1) (by simp at hf; omega) (by omega) hq'.1]
        have := mrg_split (lt := lt) (q.length + 1) q [y] [x] [] (by simp) (fun _ _ z hz => by cases hz) (fun z hz w hw => by rw [List.mem_singleton.1 hz, List.mem_singleton.1 hw]; exact h)
        simp only [List.append_nil, mrg_nil_r] at this
        rw [this]
        simp
      | false =>
        rw [if_neg (fun hc => by cases hc.2)]
        have := mrg_split (lt := lt) (q ++ [y]).length (q ++ [y]) [] [] [x] (by simp) (fun z hz w hw' => by
          rw [List.mem_singleton.1 hw']
          rcases List.mem_append.1 hz with hz | hz
          · exact hw.ntr _ _ _ (hq'.2.2 z hz y (by simp)) h
          · rw [List.mem_singleton.1 hz]; exact h) (fun z hz => by cases hz)
        simp only [List.append_nil, mrg_nil_r, List.nil_append, mrg_nil_l] at this
        rw [this]
        simp
/-- n elements behind the first are put where they belong -/
def insM (lt : α → α → Bool) (xs : List α) (a : Nat) : Nat → List α
  | 0 => xs
  | n + 1 => insJ lt a (n + 1) (insM lt xs a n) (a + 1 + n)
theorem insM_eq (hw : Weak lt) (a : Nat) (p : List α) (hp : p.length = a) : ∀ (n : Nat) (u s : List α), u.length = n + 1 → insM lt (p ++ u ++ s) a n = p ++ ssort lt u ++ s
  | 0, u, s, h => by
    match u, h with
    | [x], _ => simp [insM, ssort]
  | n + 1, u, s, h => by
    rcases List.eq_nil_or_concat u with rfl | ⟨u, x, rfl⟩
    · simp at h
    rw [List.concat_eq_append] at *
    have hu : u.length = n + 1 := by simpa using h
    have e : p ++ (u ++ [x]) ++ s = p ++ u ++ (x :: s) := by simp
    rw [insM, e, insM_eq hw a p hp n u (x :: s) hu, insJ_eq hw a p hp (n + 1) (ssort lt u) s x (a + 1 + n) (by rw [ssort_len]; omega) (by rw [ssort_len]; omega) (ssort_srt hw _ _ rfl), ssort_snoc]
/-! ### Symmetric merging -/
def shUp (xs : List α) (a : Nat) : Nat → List α
  | 0 => xs
  | n + 1 => swp (shUp xs a n) (a + n) (a + n + 1)
def shDn (xs : List α) (m : Nat) : Nat → List α
  | 0 => xs
  | n + 1 => swp (shDn xs m n) (m - n) (m - n - 1)
theorem shUp_eq (p : List α) (x : α) (a : Nat) (hp : p.length = a) : ∀ (n : Nat) (u s : List α), u.length = n → shUp (p ++ x :: (u ++ s)) a n = p ++ u ++ x :: s
  | 0, u, s, h => by
    have : u = [] := List.eq_nil_of_length_eq_zero h
    subst this
    simp [shUp]
  | n + 1, u, s, h => by
    rcases List.eq_nil_or_concat u with rfl | ⟨u, y, rfl⟩
    · simp at h
    rw [List.concat_eq_append] at *
    have hu : u.length = n := by simpa using h
    have e : p ++ x :: (u ++ [y] ++ s) = p ++ x :: (u ++ (y :: s)) := by simp
    rw [shUp, e, shUp_eq p x a hp n u (y :: s) hu]
    have := swp_mid (p ++ u) [] s x y (a + n) (a + n + 1) (by simp; omega) (by simp)
    simp only [List.nil_append] at this
    rw [this]
    simp
theorem shDn_eq (p : List α) (x : α) (m : Nat) : ∀ (n : Nat) (u s : List α), u.length = n → p.length + n = m → shDn (p ++ u ++ x :: s) m n = p ++ x :: (u ++ s)
  | 0, u, s, h, _ => by
    have : u = [] := List.eq_nil_of_length_eq_zero h
    subst this
    simp [shDn]
  | n + 1, u, s, h, hp => by
    match u, h with
    | y :: u, h =>
      have hu : u.length = n := by simpa using h
      have e : p ++ (y :: u) ++ x :: s = (p ++ [y]) ++ u ++ x :: s := by simp
      rw [shDn, e, shDn_eq (p ++ [y]) x m n u s hu (by simp; omega)]
      have := swp_next p (u ++ s) y x (m - n) (by omega)
      have e2 : p ++ [y] ++ x :: (u ++ s) = p ++ y :: x :: (u ++ s) := by simp
      rw [e2, this]
      simp
def symM (lt : α → α → Bool) : Nat → List α → Nat → Nat → Nat → List α
  | 0, xs, _, _, _ => xs
  | f + 1, xs, a, m, b =>
    if m - a = 1 then shUp xs a (bsM (fun h => ltAt lt xs h a) (b - m) m b - 1 - a)
    else if b - m = 1 then shDn xs m (m - bsM (fun h => !ltAt lt xs m h) (m - a) a m)
    else
      let mid := (a + b) / 2
      let n := mid + m
      let s := if m > mid then bsM (fun c => !ltAt lt xs (n - 1 - c) c) (mid - (n - b)) (n - b) mid else bsM (fun c => !ltAt lt xs (n - 1 - c) c) (m - a) a m
      let e := n - s
      let ys := if s < m ∧ m < e then rotM m (e - s) xs (m - s) (e - m) else xs
      let zs := if a < s ∧ s < mid then symM lt f ys a s mid else ys
      if mid < e ∧ e < b then symM lt f zs mid e b else zs
theorem srt_get {l : List α} (h : Srt lt l) {i j : Nat} {x y : α} (hij : i < j) (hx : l[i]? = some x) (hy : l[j]? = some y) : lt y x = false := by
  obtain ⟨hi, rfl⟩ := List.getElem?_eq_some_iff.1 hx
  obtain ⟨hj, rfl⟩ := List.getElem?_eq_some_iff.1 hy
  exact List.pairwise_iff_getElem.1 h i j hi hj hij
theorem get_l {p l r s : List α} {i : Nat} (h1 : p.length ≤ i) (h2 : i < p.length + l.length) : (p ++ l ++ r ++ s)[i]? = l[i - p.length]? := by
  rw [List.append_assoc, List.append_assoc, List.getElem?_append_right h1, List.getElem?_append_left (by omega)]
theorem get_r {p l r s : List α} {i : Nat} (h1 : p.length + l.length ≤ i) (h2 : i < p.length + l.length + r.length) : (p ++ l ++ r ++ s)[i]? = r[i - p.length - l.length]? := by
  rw [List.getElem?_append_left (by simp; omega), List.getElem?_append_right (by simp; omega)]
  congr 1
  simp
  omega
theorem sym_cut (hw : Weak lt) (p l r s : List α) (a m b n s0 r0 : Nat) (hp : p.length = a) (hm : a + l.length = m) (hb : m + r.length = b) (hl : Srt lt l) (hr : Srt lt r) (c1 : a ≤ s0) (c2 : s0 ≤ r0) (c3 : r0 ≤ m) (c4 : n ≤ b + s0) (c5 : r0 + m ≤ n) (k : Nat) (hk : bsM (fun c => !ltAt lt (p ++ l ++ r ++ s) (n - 1 - c) c) (r0 - s0) s0 r0 = k)
    (e0 : k = s0 → k = a ∨ n = b + k) (e1 : k = r0 → k = m ∨ n = m + k) :
    s0 ≤ k ∧ k ≤ r0 ∧ (∀ x ∈ l.take (k - a), ∀ y ∈ r.drop (n - k - m), lt y x = false) ∧ (∀ y ∈ r.take (n - k - m), ∀ x ∈ l.drop (k - a), lt y x = true) := by
  have gl : ∀ c, s0 ≤ c → c < r0 → ∃ x, l[c - a]? = some x ∧ (p ++ l ++ r ++ s)[c]? = some x := fun c h1 h2 => by
    obtain ⟨x, hx⟩ : ∃ x, l[c - a]? = some x := ⟨_, List.getElem?_eq_getElem (by omega)⟩
    exact ⟨x, hx, by rw [get_l (by omega) (by omega), hp, hx]⟩
  have gr : ∀ c, s0 ≤ c → c < r0 → ∃ x, r[n - 1 - c - m]? = some x ∧ (p ++ l ++ r ++ s)[n - 1 - c]? = some x := fun c h1 h2 => by
    obtain ⟨x, hx⟩ : ∃ x, r[n - 1 - c - m]? = some x := ⟨_, List.getElem?_eq_getElem (by omega)⟩
    refine ⟨x, hx, ?_⟩
    rw [get_r (by omega) (by omega), ← hx]
    congr 1
    omega
  obtain ⟨k1, k2, k3, k4⟩ := bs_spec (fun c => !ltAt lt (p ++ l ++ r ++ s) (n - 1 - c) c) (r0 - s0) s0 r0 c2 (Nat.le_refl _) (fun c d h1 h2 h3 h4 => by
    obtain ⟨xd, lxd, gxd⟩ := gl d (by omega) h3
    obtain ⟨yd, lyd, gyd⟩ := gr d (by omega) h3
    obtain ⟨xc, lxc, gxc⟩ := gl c h1 (by omega)
    obtain ⟨yc, lyc, gyc⟩ := gr c h1 (by omega)
    rw [ltAt_of gyd gxd] at h4
    rw [ltAt_of gyc gxc]
    have h4 : lt yd xd = false := by simpa using h4
    show (!lt yc xc) = true
    by_cases e : c = d
    · subst e
      rw [lxd] at lxc
      rw [lyd] at lyc
      injection lxc with lxc
      injection lyc with lyc
      rw [← lxc, ← lyc, h4]
      rfl
    · have h5 := srt_get hl (by omega : c - a < d - a) lxc lxd
      have h6 := srt_get hr (by omega : n - 1 - d - m < n - 1 - c - m) lyd lyc
      rw [hw.ntr _ _ _ (hw.ntr _ _ _ h5 h4) h6]
      rfl)
  rw [hk] at k1 k2 k3 k4
  refine ⟨k1, k2, fun x hx y hy => ?_, fun y hy x hx => ?_⟩
  · obtain ⟨i, hi, ei⟩ := List.mem_take_iff_getElem.1 hx
    have hxi : l[i]? = some x := by rw [← ei]; exact List.getElem?_eq_getElem (by omega)
    obtain ⟨j, hj⟩ := List.getElem?_of_mem hy
    rw [List.getElem?_drop] at hj
    have hjl := (List.getElem?_eq_some_iff.1 hj).1
    by_cases h0 : k = s0
    · rcases e0 h0 with h0 | h0 <;> omega
    · obtain ⟨x', lx', gx'⟩ := gl (k - 1) (by omega) (by omega)
      obtain ⟨y', ly', gy'⟩ := gr (k - 1) (by omega) (by omega)
      have h1 := k3 (k - 1) (by omega) (by omega)
      rw [ltAt_of gy' gx'] at h1
      have h1 : lt y' x' = false := by simpa using h1
      have h2 : lt x' x = false := by
        by_cases e : i = k - 1 - a
        · rw [e, lx'] at hxi
          injection hxi with hxi
          rw [hxi]
          cases h : lt x x with
          | false => rfl
          | true => rw [hw.asym _ _ h] at h; cases h
        · exact srt_get hl (by omega) hxi lx'
      have h3 : lt y y' = false := by
        by_cases e : n - 1 - (k - 1) - m = n - k - m + j
        · rw [e] at ly'
          rw [ly'] at hj
          injection hj with hj
          rw [hj]
          cases h : lt y y with
          | false => rfl
          | true => rw [hw.asym _ _ h] at h; cases h
        · exact srt_get hr (by omega) ly' hj
      exact hw.ntr _ _ _ (hw.ntr _ _ _ h2 h1) h3
  · obtain ⟨j, hj, ej⟩ := List.mem_take_iff_getElem.1 hy
    have hyj : r[j]? = some y := by rw [← ej]; exact List.getElem?_eq_getElem (by omega)
    obtain ⟨i, hi⟩ := List.getElem?_of_mem hx
    rw [List.getElem?_drop] at hi
    have hil := (List.getElem?_eq_some_iff.1 hi).1
    by_cases h0 : k = r0
    · rcases e1 h0 with h0 | h0 <;> omega
    · obtain ⟨x', lx', gx'⟩ := gl k (by omega) (by omega)
      obtain ⟨y', ly', gy'⟩ := gr k (by omega) (by omega)
      have h1 := k4 k (by omega) (by omega)
      rw [ltAt_of gy' gx'] at h1
      have h1 : lt y' x' = true := by simpa using h1
      have h2 : lt x x' = false := by
        by_cases e : k - a = k - a + i
        · rw [← e] at hi
          rw [hi] at lx'
          injection lx' with lx'
          rw [lx']
          cases h : lt x' x' with
          | false => rfl
          | true => rw [hw.asym _ _ h] at h; cases h
        · exact srt_get hl (by omega) lx' hi
      have h3 : lt y' y = false := by
        by_cases e : n - 1 - k - m = j
        · rw [e, hyj] at ly'
          injection ly' with ly'
          rw [ly']
          cases h : lt y' y' with
          | false => rfl
          | true => rw [hw.asym _ _ h] at h; cases h
        · exact srt_get hr (by omega) hyj ly'
      cases h : lt y x with
      | true => rfl
      | false => rw [hw.ntr _ _ _ h2 (hw.ntr _ _ _ h h3)] at h1; cases h1
theorem symM_eq (hw : Weak lt) : ∀ (f : Nat) (p l r s : List α) (a m b : Nat), l.length + r.length ≤ f → 0 < l.length → 0 < r.length → p.length = a → a + l.length = m → m + r.length = b → Srt lt l → Srt lt r → symM lt f (p ++ l ++ r ++ s) a m b = p ++ mrg lt l r ++ s
  | 0, p, l, r, s, a, m, b, hf, h1, h2, _, _, _, _, _ => by omega
  | f + 1, p, l, r, s, a, m, b, hf, h1, h2, hp, hm, hb, hl, hr => by
    unfold symM
    by_cases c1 : m - a = 1
    · rw [if_pos c1]
      match l, h1, hm with
      | [x], _, hm =>
        have hm : a + 1 = m := hm
        obtain ⟨k1, k2, k3, k4⟩ := bs_spec (fun h => ltAt lt (p ++ [x] ++ r ++ s) h a) (b - m) m b (by omega) (Nat.le_refl _) (fun c d h3 h4 h5 h6 => by
          have gx : (p ++ [x] ++ r ++ s)[a]? = some x := by rw [get_l (by omega) (by simp; omega)]; simp [hp]
          obtain ⟨yd, hyd⟩ : ∃ y, r[d - m]? = some y := ⟨_, List.getElem?_eq_getElem (by omega)⟩
          obtain ⟨yc, hyc⟩ : ∃ y, r[c - m]? = some y := ⟨_, List.getElem?_eq_getElem (by omega)⟩
          have gd : (p ++ [x] ++ r ++ s)[d]? = some yd := by rw [get_r (by simp; omega) (by simp; omega), ← hyd]; congr 1; simp; omega
          have gc : (p ++ [x] ++ r ++ s)[c]? = some yc := by rw [get_r (by simp; omega) (by simp; omega), ← hyc]; congr 1; simp; omega
          rw [ltAt_of gd gx] at h6
          rw [ltAt_of gc gx]
          by_cases e : c = d
          · subst e
            rw [hyd] at hyc
            injection hyc with hyc
            rw [← hyc]; exact h6
          · have h7 := srt_get hr (by omega : c - m < d - m) hyc hyd
            cases h8 : lt yc x with
            | true => rfl
            | false => rw [hw.ntr _ _ _ h8 h7] at h6; cases h6)
        generalize bsM (fun h => ltAt lt (p ++ [x] ++ r ++ s) h a) (b - m) m b = i at k1 k2 k3 k4 ⊢
        have gx : (p ++ [x] ++ r ++ s)[a]? = some x := by rw [get_l (by omega) (by simp; omega)]; simp [hp]
        have hlow : ∀ y ∈ r.take (i - m), ∀ z ∈ [x], lt y z = true := by
          intro y hy z hz
          rw [List.mem_singleton.1 hz]
          obtain ⟨j, hj, e⟩ := List.mem_take_iff_getElem.1 hy
          have hyj : r[j]? = some y := by rw [← e]; exact List.getElem?_eq_getElem (by omega)
          have gy : (p ++ [x] ++ r ++ s)[m + j]? = some y := by rw [get_r (by simp; omega) (by simp; omega), ← hyj]; congr 1; simp; omega
          have := k3 (m + j) (by omega) (by omega)
          rw [ltAt_of gy gx] at this
          exact this
        have hhigh : ∀ z ∈ [x], ∀ y ∈ r.drop (i - m), lt y z = false := by
          intro z hz y hy
          rw [List.mem_singleton.1 hz]
          obtain ⟨j, hj⟩ := List.getElem?_of_mem hy
          rw [List.getElem?_drop] at hj
          have hjl := (List.getElem?_eq_some_iff.1 hj).1
          have gy : (p ++ [x] ++ r ++ s)[i + j]? = some y := by rw [get_r (by simp; omega) (by simp; omega), ← hj]; congr 1; simp; omega
          have := k4 (i + j) (by omega) (by omega)
          rw [ltAt_of gy gx] at this
          exact this
        have e1 := mrg_split (lt := lt) (r.take (i - m)).length [] [x] (r.take (i - m)) (r.drop (i - m)) (by simp) (fun z hz => by cases hz) hlow
        have e2 := mrg_split (lt := lt) 1 [x] [] [] (r.drop (i - m)) (by simp) hhigh (fun z hz => by cases hz)
        simp only [List.nil_append, List.append_nil, mrg_nil_l, mrg_nil_r, List.take_append_drop] at e1 e2
        rw [e1, e2]
        have e3 : p ++ [x] ++ r ++ s = p ++ x :: (r.take (i - m) ++ (r.drop (i - m) ++ s)) := by
          rw [← List.append_assoc (r.take (i - m)), List.take_append_drop]
          simp
        rw [e3, shUp_eq p x a hp _ (r.take (i - m)) _ (by simp; omega)]
        simp
      | x :: y :: l, _, hm => simp at hm; omega
    · rw [if_neg c1]
      by_cases c2 : b - m = 1
      · rw [if_pos c2]
        match r, h2, hb with
        | [x], _, hb =>
          have hb : m + 1 = b := hb
          have gx : (p ++ l ++ [x] ++ s)[m]? = some x := by rw [get_r (by omega) (by simp; omega), show m - p.length - l.length = 0 by omega]; rfl
          obtain ⟨k1, k2, k3, k4⟩ := bs_spec (fun h => !ltAt lt (p ++ l ++ [x] ++ s) m h) (m - a) a m (by omega) (Nat.le_refl _) (fun c d h3 h4 h5 h6 => by
            obtain ⟨yd, hyd⟩ : ∃ y, l[d - a]? = some y := ⟨_, List.getElem?_eq_getElem (by omega)⟩
            obtain ⟨yc, hyc⟩ : ∃ y, l[c - a]? = some y := ⟨_, List.getElem?_eq_getElem (by omega)⟩
            have gd : (p ++ l ++ [x] ++ s)[d]? = some yd := by rw [get_l (by omega) (by omega), hp, hyd]
            have gc : (p ++ l ++ [x] ++ s)[c]? = some yc := by rw [get_l (by omega) (by omega), hp, hyc]
            rw [ltAt_of gx gd] at h6
            rw [ltAt_of gx gc]
            have h6 : lt x yd = false := by simpa using h6
            show (!lt x yc) = true
            by_cases e : c = d
            · subst e
              rw [hyd] at hyc
              injection hyc with hyc
              rw [← hyc, h6]; rfl
            · have h7 := srt_get hl (by omega : c - a < d - a) hyc hyd
              rw [hw.ntr _ _ _ h7 h6]
              rfl)
          generalize bsM (fun h => !ltAt lt (p ++ l ++ [x] ++ s) m h) (m - a) a m = i at k1 k2 k3 k4 ⊢
          have hlow : ∀ y ∈ l.take (i - a), ∀ z ∈ [x], lt z y = false := by
            intro y hy z hz
            rw [List.mem_singleton.1 hz]
            obtain ⟨j, hj, e⟩ := List.mem_take_iff_getElem.1 hy
            have hyj : l[j]? = some y := by rw [← e]; exact List.getElem?_eq_getElem (by omega)
            have gy : (p ++ l ++ [x] ++ s)[a + j]? = some y := by rw [get_l (by omega) (by omega), ← hyj]; congr 1; omega
            have := k3 (a + j) (by omega) (by omega)
            rw [ltAt_of gx gy] at this
            simpa using this
          have hhigh : ∀ z ∈ [x], ∀ y ∈ l.drop (i - a), lt z y = true := by
            intro z hz y hy
            rw [List.mem_singleton.1 hz]
            obtain ⟨j, hj⟩ := List.getElem?_of_mem hy
            rw [List.getElem?_drop] at hj
            have hjl := (List.getElem?_eq_some_iff.1 hj).1
            have gy : (p ++ l ++ [x] ++ s)[i + j]? = some y := by rw [get_l (by omega) (by omega), ← hj]; congr 1; omega
            have := k4 (i + j) (by omega) (by omega)
            rw [ltAt_of gx gy] at this
            simpa using this
          have e1 := mrg_split (lt := lt) ((l.take (i - a)).length + 1) (l.take (i - a)) (l.drop (i - a)) [x] [] (by simp) (fun _ _ z hz => by cases hz) hhigh
          have e2 := mrg_split (lt := lt) (l.take (i - a)).length (l.take (i - a)) [] [] [x] (by simp) hlow (fun z hz => by cases hz)
          simp only [List.nil_append, List.append_nil, mrg_nil_l, mrg_nil_r, List.take_append_drop] at e1 e2
          rw [e1, e2]
          have e3 : p ++ l ++ [x] ++ s = (p ++ l.take (i - a)) ++ l.drop (i - a) ++ x :: s := by
            rw [List.append_assoc p (l.take (i - a)), List.take_append_drop]
            simp
          rw [e3, shDn_eq (p ++ l.take (i - a)) x m _ (l.drop (i - a)) s (by simp; omega) (by simp; omega)]
          simp
        | x :: y :: r, _, hb => simp at hb; omega
      · rw [if_neg c2]
        simp only
        have hab : a + 2 ≤ b := by omega
        obtain ⟨mid, hmid⟩ : ∃ mid, (a + b) / 2 = mid := ⟨_, rfl⟩
        rw [hmid]
        obtain ⟨k, hk⟩ : ∃ k, (if m > mid then bsM (fun c => !ltAt lt (p ++ l ++ r ++ s) (mid + m - 1 - c) c) (mid - (mid + m - b)) (mid + m - b) mid else bsM (fun c => !ltAt lt (p ++ l ++ r ++ s) (mid + m - 1 - c) c) (m - a) a m) = k := ⟨_, rfl⟩
        rw [hk]
        have hcut : a ≤ k ∧ k ≤ m ∧ k ≤ mid ∧ mid + m ≤ b + k ∧ (∀ x ∈ l.take (k - a), ∀ y ∈ r.drop (mid + m - k - m), lt y x = false) ∧ (∀ y ∈ r.take (mid + m - k - m), ∀ x ∈ l.drop (k - a), lt y x = true) := by
          by_cases g : m > mid
          · rw [if_pos g] at hk
            obtain ⟨h1, h2, h3, h4⟩ := sym_cut hw p l r s a m b (mid + m) (mid + m - b) mid hp hm hb hl hr (by omega) (by omega) (by omega) (by omega) (by omega) k hk (fun e => .inr (by omega)) (fun e => .inr (by omega))
            exact ⟨by omega, by omega, by omega, by omega, h3, h4⟩
          · rw [if_neg g] at hk
            obtain ⟨h1, h2, h3, h4⟩ := sym_cut hw p l r s a m b (mid + m) a m hp hm hb hl hr (by omega) (by omega) (by omega) (by omega) (by omega) k hk (fun e => .inl e) (fun e => .inl e)
            exact ⟨by omega, by omega, by omega, by omega, h3, h4⟩
        obtain ⟨h1, h2, h3, h4, h5, h6⟩ := hcut
        obtain ⟨e, he⟩ : ∃ e, mid + m - k = e := ⟨_, rfl⟩
        rw [he] at h5 h6 ⊢
        obtain ⟨l1, hl1⟩ : ∃ x, l.take (k - a) = x := ⟨_, rfl⟩
        obtain ⟨l2, hl2⟩ : ∃ x, l.drop (k - a) = x := ⟨_, rfl⟩
        obtain ⟨r1, hr1⟩ : ∃ x, r.take (e - m) = x := ⟨_, rfl⟩
        obtain ⟨r2, hr2⟩ : ∃ x, r.drop (e - m) = x := ⟨_, rfl⟩
        have n1 : l1.length = k - a := by rw [← hl1]; simp; omega
        have n2 : l2.length = m - k := by rw [← hl2]; simp; omega
        have n3 : r1.length = e - m := by rw [← hr1]; simp; omega
        have n4 : r2.length = b - e := by rw [← hr2]; simp; omega
        have el : l = l1 ++ l2 := by rw [← hl1, ← hl2, List.take_append_drop]
        have er : r = r1 ++ r2 := by rw [← hr1, ← hr2, List.take_append_drop]
        have s1 : Srt lt l1 := by rw [← hl1]; exact hl.sublist (List.take_sublist ..)
        have s2 : Srt lt l2 := by rw [← hl2]; exact hl.sublist (List.drop_sublist ..)
        have s3 : Srt lt r1 := by rw [← hr1]; exact hr.sublist (List.take_sublist ..)
        have s4 : Srt lt r2 := by rw [← hr2]; exact hr.sublist (List.drop_sublist ..)
        rw [hl1, hr2] at h5
        rw [hl2, hr1] at h6
        have hsplit := mrg_split (lt := lt) _ l1 l2 r1 r2 rfl h5 h6
        have hrot : (if k < m ∧ m < e then rotM m (e - k) (p ++ l ++ r ++ s) (m - k) (e - m) else p ++ l ++ r ++ s) = p ++ l1 ++ r1 ++ (l2 ++ r2 ++ s) := by
          by_cases g : k < m ∧ m < e
          · rw [if_pos g]
            have := rotM_eq m (e - k) (p ++ l1) l2 r1 (r2 ++ s) (m - k) (e - m) (by omega) (by omega) (by omega) n2 n3 (by simp; omega)
            rw [el, er, show p ++ (l1 ++ l2) ++ (r1 ++ r2) ++ s = p ++ l1 ++ l2 ++ r1 ++ (r2 ++ s) by simp, this]
            simp
          · rw [if_neg g, el, er]
            by_cases g1 : k < m
            · have : r1 = [] := List.eq_nil_of_length_eq_zero (by omega)
              subst this
              simp
            · have : l2 = [] := List.eq_nil_of_length_eq_zero (by omega)
              subst this
              simp
        rw [hrot]
        have hfirst : (if a < k ∧ k < mid then symM lt f (p ++ l1 ++ r1 ++ (l2 ++ r2 ++ s)) a k mid else p ++ l1 ++ r1 ++ (l2 ++ r2 ++ s)) = p ++ mrg lt l1 r1 ++ (l2 ++ r2 ++ s) := by
          by_cases g : a < k ∧ k < mid
          · rw [if_pos g]
            exact symM_eq hw f p l1 r1 _ a k mid (by omega) (by omega) (by omega) hp (by omega) (by omega) s1 s3
          · rw [if_neg g]
            by_cases g1 : a < k
            · have : r1 = [] := List.eq_nil_of_length_eq_zero (by omega)
              subst this
              rw [mrg_nil_r, List.append_nil]
            · have : l1 = [] := List.eq_nil_of_length_eq_zero (by omega)
              subst this
              rw [mrg_nil_l, List.append_nil]
        rw [hfirst]
        have hlm : (mrg lt l1 r1).length = l1.length + r1.length := by rw [(mrg_perm l1 r1).length_eq, List.length_append]
        have hsecond : (if mid < e ∧ e < b then symM lt f (p ++ mrg lt l1 r1 ++ (l2 ++ r2 ++ s)) mid e b else p ++ mrg lt l1 r1 ++ (l2 ++ r2 ++ s)) = p ++ mrg lt l1 r1 ++ (mrg lt l2 r2 ++ s) := by
          by_cases g : mid < e ∧ e < b
          · rw [if_pos g]
            have := symM_eq hw f (p ++ mrg lt l1 r1) l2 r2 s mid e b (by omega) (by omega) (by omega) (by rw [List.length_append, hlm]; omega) (by omega) (by omega) s2 s4
            rw [show p ++ mrg lt l1 r1 ++ (l2 ++ r2 ++ s) = p ++ mrg lt l1 r1 ++ l2 ++ r2 ++ s by simp, this]
            simp
          · rw [if_neg g]
            by_cases g1 : mid < e
            · have : r2 = [] := List.eq_nil_of_length_eq_zero (by omega)
              subst this
              rw [mrg_nil_r, List.append_nil]
            · have : l2 = [] := List.eq_nil_of_length_eq_zero (by omega)
              subst this
              rw [mrg_nil_l, List.nil_append]
        rw [hsecond, el, er, hsplit]
        simp
/-! ### Blocks -/
/-- the second list is the first one, sorted in blocks of bs -/
inductive CS (lt : α → α → Bool) (bs : Nat) : List α → List α → Prop where
  | last (l : List α) (h : l.length ≤ bs) : CS lt bs l (ssort lt l)
  | more (l1 l2 r2 : List α) (h : l1.length = bs) (h2 : CS lt bs l2 r2) : CS lt bs (l1 ++ l2) (ssort lt l1 ++ r2)
theorem CS.len {bs : Nat} {l r : List α} (h : CS lt bs l r) : r.length = l.length := by
  induction h with
  | last l h => exact ssort_len l
  | more l1 l2 r2 h _ ih => rw [List.length_append, List.length_append, ssort_len, ih]
theorem ssort_nil : ssort lt ([] : List α) = [] := rfl
theorem CS.whole {bs : Nat} {l r : List α} (h : CS lt bs l r) (hl : l.length ≤ bs) : r = ssort lt l := by
  cases h with
  | last l h => rfl
  | more l1 l2 r2 h h2 =>
    have e : l2 = [] := List.eq_nil_of_length_eq_zero (by simp at hl; omega)
    subst e
    have e2 : r2 = [] := List.eq_nil_of_length_eq_zero (by have := h2.len; simpa using this)
    subst e2
    simp
theorem CS.cut {bs : Nat} {l r : List α} (h : CS lt bs l r) (hl : bs ≤ l.length) : ∃ l1 l2 r2, l = l1 ++ l2 ∧ l1.length = bs ∧ r = ssort lt l1 ++ r2 ∧ CS lt bs l2 r2 := by
  cases h with
  | last l h => exact ⟨l, [], [], by simp, by omega, by simp, by have := CS.last (lt := lt) (bs := bs) [] (Nat.zero_le _); rw [ssort_nil] at this; exact this⟩
  | more l1 l2 r2 h h2 => exact ⟨l1, l2, r2, rfl, h, rfl, h2⟩
/-- blocks are sorted one by one: what has been done, what is left -/
structure Blocks (lt : α → α → Bool) (bs : Nat) (orig cur : List α) (a : Nat) : Prop where
  go : ∃ P R, cur = P ++ R ∧ P.length = a ∧ a + R.length = orig.length ∧ ∀ Z, CS lt bs R Z → CS lt bs orig (P ++ Z)
theorem Blocks.start (bs : Nat) (l : List α) : Blocks lt bs l l 0 := ⟨[], l, rfl, rfl, by simp, fun _ h => h⟩
theorem Blocks.step (hw : Weak lt) {bs a : Nat} {orig cur : List α} (h : Blocks lt bs orig cur a) (hb : 0 < bs) (ha : a + bs ≤ orig.length) : Blocks lt bs orig (insM lt cur a (bs - 1)) (a + bs) := by
  obtain ⟨P, R, rfl, hP, hR, hZ⟩ := h.go
  have e : R = R.take bs ++ R.drop bs := (List.take_append_drop ..).symm
  have hl : (R.take bs).length = bs := by simp; omega
  refine ⟨⟨P ++ ssort lt (R.take bs), R.drop bs, ?_, by rw [List.length_append, ssort_len, hl, hP], by simp; omega, fun Z h => ?_⟩⟩
  · have := insM_eq hw a P hP (bs - 1) (R.take bs) (R.drop bs) (by omega)
    rw [List.append_assoc, List.take_append_drop] at this
    rw [this]
  · rw [List.append_assoc]
    refine hZ _ ?_
    conv => lhs; rw [e]
    exact CS.more _ _ _ hl h
theorem Blocks.done (hw : Weak lt) {bs a : Nat} {orig cur : List α} (h : Blocks lt bs orig cur a) (ha : orig.length < a + bs) : CS lt bs orig (insM lt cur a (orig.length - a - 1)) := by
  obtain ⟨P, R, rfl, hP, hR, hZ⟩ := h.go
  by_cases h0 : R.length = 0
  · have e := List.eq_nil_of_length_eq_zero h0
    subst e
    rw [show orig.length - a - 1 = 0 by simp at hR; omega]
    exact hZ _ (CS.last _ (Nat.zero_le _))
  · have := insM_eq hw a P hP (orig.length - a - 1) R [] (by omega)
    simp only [List.append_nil] at this
    rw [this]
    exact hZ _ (CS.last _ (by omega))
/-- pairs of blocks are merged one by one -/
structure MPairs (lt : α → α → Bool) (bs : Nat) (orig cur : List α) (a : Nat) : Prop where
  go : ∃ P O R, cur = P ++ R ∧ P.length = a ∧ a + R.length = orig.length ∧ CS lt bs O R ∧ ∀ Z, CS lt (2 * bs) O Z → CS lt (2 * bs) orig (P ++ Z)
theorem MPairs.start {bs : Nat} {orig cur : List α} (h : CS lt bs orig cur) : MPairs lt bs orig cur 0 := ⟨[], orig, cur, rfl, rfl, by have := h.len; simpa using this, h, fun _ h => h⟩
theorem MPairs.step (hw : Weak lt) {bs a : Nat} {orig cur : List α} (h : MPairs lt bs orig cur a) (hb : 0 < bs) (ha : a + 2 * bs ≤ orig.length) (f : Nat) (hf : 2 * bs ≤ f) : MPairs lt bs orig (symM lt f cur a (a + bs) (a + 2 * bs)) (a + 2 * bs) := by
  obtain ⟨P, O, R, rfl, hP, hR, hC, hZ⟩ := h.go
  have hO := hC.len
  obtain ⟨c1, O2, R2, rfl, n1, rfl, hC2⟩ := hC.cut (by omega)
  have hO2 := hC2.len
  simp only [List.length_append, ssort_len] at hR hO
  obtain ⟨c2, O3, R3, rfl, n2, rfl, hC3⟩ := hC2.cut (by omega)
  simp only [List.length_append, ssort_len] at hR hO hO2
  have := symM_eq hw f P (ssort lt c1) (ssort lt c2) R3 a (a + bs) (a + 2 * bs) (by rw [ssort_len, ssort_len]; omega) (by rw [ssort_len]; omega) (by rw [ssort_len]; omega) hP (by rw [ssort_len]; omega) (by rw [ssort_len]; omega) (ssort_srt hw _ _ rfl) (ssort_srt hw _ _ rfl)
  rw [show P ++ (ssort lt c1 ++ (ssort lt c2 ++ R3)) = P ++ ssort lt c1 ++ ssort lt c2 ++ R3 by simp, this, ← ssort_append hw _ _ _ rfl]
  refine ⟨⟨P ++ ssort lt (c1 ++ c2), O3, R3, rfl, by rw [List.length_append, ssort_len, List.length_append]; omega, by omega, hC3, fun Z h => ?_⟩⟩
  rw [List.append_assoc]
  refine hZ _ ?_
  rw [← List.append_assoc]
  exact CS.more _ _ _ (by rw [List.length_append]; omega) h
theorem MPairs.tail (hw : Weak lt) {bs a : Nat} {orig cur : List α} (h : MPairs lt bs orig cur a) (hb : 0 < bs) (ha : orig.length < a + 2 * bs) (hm : a + bs < orig.length) (f : Nat) (hf : orig.length - a ≤ f) : CS lt (2 * bs) orig (symM lt f cur a (a + bs) orig.length) := by
  obtain ⟨P, O, R, rfl, hP, hR, hC, hZ⟩ := h.go
  have hO := hC.len
  obtain ⟨c1, O2, R2, rfl, n1, rfl, hC2⟩ := hC.cut (by omega)
  have hO2 := hC2.len
  simp only [List.length_append, ssort_len] at hR hO
  have e := hC2.whole (by omega)
  subst e
  have := symM_eq hw f P (ssort lt c1) (ssort lt O2) [] a (a + bs) orig.length (by rw [ssort_len, ssort_len]; omega) (by rw [ssort_len]; omega) (by rw [ssort_len]; omega) hP (by rw [ssort_len]; omega) (by rw [ssort_len]; omega) (ssort_srt hw _ _ rfl) (ssort_srt hw _ _ rfl)
  simp only [List.append_nil] at this
  rw [← List.append_assoc, this, ← ssort_append hw _ _ _ rfl]
  exact hZ _ (CS.last _ (by rw [List.length_append]; omega))
theorem MPairs.none {bs a : Nat} {orig cur : List α} (h : MPairs lt bs orig cur a) (hm : orig.length ≤ a + bs) : CS lt (2 * bs) orig cur := by
  obtain ⟨P, O, R, rfl, hP, hR, hC, hZ⟩ := h.go
  have hO := hC.len
  have e := hC.whole (by omega)
  subst e
  exact hZ _ (CS.last _ (by omega))
end
end Go.Proofs.Ytnfgndapalkbcaa
