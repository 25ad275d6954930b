/-
  Positions' keys sorted by slices.SortFunc with pos.Before.
-/
import Derived.Test.YtgbgedaedcofcaaBefX
import Derived.Test.YtgbgedaedcofcaaSortK
import Derived.Test.YtgbgedaedcofcaaSortLayKey
namespace Go.Proofs.Ytgbgedaedcofcaa
open Go Go.RowKit Go.Sort

def encL (k : Key) : List Value := [.string k.1, .string k.2]
def ltK (x y : Key) : Bool := ltS x.1 y.1 || (decide (x.1 = y.1) && ltS x.2 y.2)
theorem cmpS_lt (a b : ByteArray) : (cmpS a b < 0 ↔ ltS a b = true) ∧ (cmpS a b = 0 ↔ a = b) := by
  unfold cmpS
  cases h : ltS a b with
  | true =>
    simp only [if_true]
    refine ⟨by simp, by simp, ?_⟩
    rintro rfl
    rw [ltS_irrefl] at h
    cases h
  | false =>
    cases h2 : ltS b a with
    | true =>
      simp only [Bool.false_eq_true, if_false, if_true]
      refine ⟨by simp, by simp, ?_⟩
      rintro rfl
      rw [ltS_irrefl] at h2
      cases h2
    | false =>
      simp only [Bool.false_eq_true, if_false]
      exact ⟨by simp, by simp [ltS_total h h2]⟩
theorem ltOf_cmpK (x y : Key) : ltOf cmpK x y = ltK x y := by
  obtain ⟨a, b⟩ := x
  obtain ⟨c, d⟩ := y
  unfold ltOf cmpK ltK orZ
  dsimp only
  by_cases e : a = c
  · subst e
    have h0 := (cmpS_lt a a).2.2 rfl
    rw [h0, if_pos rfl, ltS_irrefl]
    simp only [decide_true, Bool.true_and, Bool.false_or]
    rw [Bool.eq_iff_iff, decide_eq_true_iff]
    exact (cmpS_lt b d).1
  · have h0 : cmpS a c ≠ 0 := fun h => e ((cmpS_lt a c).2.1 h)
    rw [if_neg h0, decide_eq_false e, Bool.false_and, Bool.or_false, Bool.eq_iff_iff, decide_eq_true_iff]
    exact (cmpS_lt a c).1
theorem ltK_irrefl (x : Key) : ltK x x = false := by simp [ltK, ltS_irrefl]
theorem ltK_trans {x y z : Key} (h : ltK x y = true) (h' : ltK y z = true) : ltK x z = true := by
  obtain ⟨a, b⟩ := x
  obtain ⟨c, d⟩ := y
  obtain ⟨e, f⟩ := z
  simp only [ltK, Bool.or_eq_true, Bool.and_eq_true, decide_eq_true_eq] at *
  rcases h with h | ⟨rfl, h⟩ <;> rcases h' with h' | ⟨rfl, h'⟩
  · exact .inl (ltS_trans h h')
  · exact .inl h
  · exact .inl h'
  · exact .inr ⟨rfl, ltS_trans h h'⟩
theorem ltK_total {x y : Key} (h : ltK x y = false) (h' : ltK y x = false) : x = y := by
  obtain ⟨a, b⟩ := x
  obtain ⟨c, d⟩ := y
  simp only [ltK, Bool.or_eq_false_iff, Bool.and_eq_false_iff, decide_eq_false_iff_not] at *
  obtain ⟨h1, h2⟩ := h
  obtain ⟨h3, h4⟩ := h'
  have e := ltS_total h1 h3
  subst e
  rw [ltS_total (h2.resolve_left (fun h => h rfl)) (h4.resolve_left (fun h => h rfl))]
theorem swoK : SWO (ltOf cmpK) where
  irrefl x := by rw [ltOf_cmpK]; exact ltK_irrefl x
  trans x y z h1 h2 := by rw [ltOf_cmpK] at *; exact ltK_trans h1 h2
  ntrans x y z h1 h2 := by
    rw [ltOf_cmpK] at *
    cases h : ltK x z with
    | false => rfl
    | true =>
      cases h3 : ltK y x with
      | true => rw [ltK_trans h3 h] at h2; cases h2
      | false =>
        have e := ltK_total h1 h3
        subst e
        rw [h] at h2
        cases h2
def leK (x y : Key) : Bool := !ltK y x
def sortKs (ks : List Key) : List Key := ks.mergeSort leK
theorem sortKs_len (ks : List Key) : (sortKs ks).length = ks.length := List.length_mergeSort ..
theorem sortKeys_any (base n cp : Nat) (A : Option Addr) (ks : List Key) (w : World) (h : w.ownsRow base 24 2 (.slice A n cp) n (ks.flatMap encL)) (hl : ks.length = n) (hn : n < 4611686018427387904) :
    Calls Try.prog 38 #[.slice A n cp, .func (.func 39) #[] #[]] w fun e w' => e = .returned (.tuple #[]) ∧ w'.ownsRow base 24 2 (.slice A n cp) n ((sortKs ks).flatMap encL) ∧ Kept (inA A) w w' := by
  have hs : (fun x y => !(ltOf cmpK) y x) = leK := by funext x y; rw [ltOf_cmpK]; rfl
  cases A with
  | none =>
    have h0 : n = 0 := by
      rcases h.2 with ⟨_, h0⟩ | ⟨g, cap, cur, e, _⟩
      · exact h0
      · cases e
    subst h0
    have hk : ks = [] := List.eq_nil_of_length_eq_zero hl
    subst hk
    refine (AnyF.slices_SortFunc_none laysSKey none cp (.func (.func 39) #[] #[]) w).mono ?_
    rintro e w' ⟨he, rfl⟩
    rw [show sortKs [] = [] from List.mergeSort_nil ..]
    exact ⟨he, h, Kept.refl _ _⟩
  | some a =>
    obtain ⟨g, rfl⟩ : ∃ g, a = ⟨g, 0, none⟩ := by
      rcases h.2 with ⟨e, _⟩ | ⟨g, cap, cur, e, _⟩
      · cases e
      · injection e with e; injection e with e; exact ⟨g, e⟩
    have hg : g < w.heap.size := own_lt h rfl
    subst hl
    have hc := AnyQ.slices_SortFunc_total (P := Try.prog) laysSKey 2 (fun _ => by kernel_rfl) (fun _ => by kernel_rfl) encL (fun _ => rfl) (fun x v hv => by simp [encL] at hv; rcases hv with rfl | rfl <;> rfl) cmpK swoK 39 #[] g 0 cp ks.toArray w
      (enters_of Try.func39 (by kernel_rfl) rfl) (fun m os dk _ x y => before_x x y _) (holdsK_own (enc := encL) (k := 2) (fun _ => rfl) rfl h) hg (by simpa using hn) (fun x y h1 h2 => by rw [ltOf_cmpK] at *; exact ltK_total h1 h2)
    rw [hs, show renSKey.f 6 = 38 from rfl] at hc
    refine Calls.mono (by simpa using hc) ?_
    rintro e w' ⟨he, m, os, rfl⟩
    obtain ⟨h1, h2⟩ := own_sortWorld (enc := encL) (fun _ => rfl) rfl (sortKs_len ks) h m os
    exact ⟨he, h1, h2.mono (fun x hx => .inl ⟨_, rfl, hx.symm⟩)⟩
end Go.Proofs.Ytgbgedaedcofcaa
