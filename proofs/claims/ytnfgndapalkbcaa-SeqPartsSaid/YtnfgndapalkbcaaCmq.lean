/-
  Comparisons that are orders (plain); slices.Compare at ints as a function.
-/
import Derived.Test.YtnfgndapalkbcaaCmpI
import Derived.Test.YtnfgndapalkbcaaCmpO
import Derived.Test.YtnfgndapalkbcaaSortP
import Derived.Shelf.SlSortCmp.Insertion
namespace Go.Proofs.Ytnfgndapalkbcaa
open Go Go.RowKit Go.Sort
/-- a comparison that is an order, up to those that it does not part -/
structure Cm {α : Type} (c : α → α → Int) : Prop where
  anti : ∀ a b, c a b < 0 ↔ 0 < c b a
  trans : ∀ a b d, c a b < 0 → c b d < 0 → c a d < 0
  eqL : ∀ a b d, c a b = 0 → c b d < 0 → c a d < 0
  eqR : ∀ a b d, c a b < 0 → c b d = 0 → c a d < 0
  eqE : ∀ a b d, c a b = 0 → c b d = 0 → c a d = 0
namespace Cm
variable {α β : Type} {c c' : α → α → Int}
theorem sym (h : Cm c) {a b : α} (e : c a b = 0) : c b a = 0 := by
  have h1 := h.anti a b
  have h2 := h.anti b a
  omega
theorem refl (h : Cm c) (a : α) : c a a = 0 := by
  have h1 := h.anti a a
  omega
theorem map (h : Cm c) (f : β → α) : Cm (fun x y => c (f x) (f y)) := ⟨fun _ _ => h.anti _ _, fun _ _ _ => h.trans _ _ _, fun _ _ _ => h.eqL _ _ _, fun _ _ _ => h.eqR _ _ _, fun _ _ _ => h.eqE _ _ _⟩
theorem or_ (h : Cm c) (h' : Cm c') : Cm (fun x y => orZ (c x y) (c' x y)) := by
  unfold orZ
  refine ⟨fun a b => ?_, fun a b d h1 h2 => ?_, fun a b d h1 h2 => ?_, fun a b d h1 h2 => ?_, fun a b d h1 h2 => ?_⟩
  · have h1 := h.anti a b
    have h2 := h.anti b a
    have h3 := h'.anti a b
    split <;> split <;> omega
  all_goals
    have e1 := h.trans a b d
    have e2 := h.eqL a b d
    have e3 := h.eqR a b d
    have e4 := h.eqE a b d
    have e5 := h'.trans a b d
    have e6 := h'.eqL a b d
    have e7 := h'.eqR a b d
    have e8 := h'.eqE a b d
    split at h1 <;> split at h2 <;> split <;> omega
theorem swo (h : Cm c) : SWO (ltOf c) where
  irrefl x := decide_eq_false (by have := h.refl x; omega)
  trans x y z h1 h2 := decide_eq_true (h.trans x y z (of_decide_eq_true h1) (of_decide_eq_true h2))
  ntrans x y z h1 h2 := by
    have h1 := of_decide_eq_false h1
    have h2 := of_decide_eq_false h2
    refine decide_eq_false (fun h3 => ?_)
    have e1 := h.anti x y
    have e2 := h.anti y x
    have e3 := h.anti y z
    have e4 := h.anti z y
    have e5 := h.anti x z
    have e6 := h.anti z x
    rcases Int.lt_trichotomy (c y x) 0 with q | q | q
    · have := h.trans y x z q h3; omega
    · have := h.eqL y x z q h3; omega
    · omega
theorem total (h0 : ∀ x y, c x y = 0 → x = y) (h : Cm c) {x y : α} (h1 : ltOf c x y = false) (h2 : ltOf c y x = false) : x = y := by
  have h1 := of_decide_eq_false h1
  have h2 := of_decide_eq_false h2
  have e1 := h.anti x y
  have e2 := h.anti y x
  exact h0 x y (by omega)
theorem le_trans (h : Cm c) (x y z : α) (h1 : (!(ltOf c y x)) = true) (h2 : (!(ltOf c z y)) = true) : (!(ltOf c z x)) = true := by
  simp only [Bool.not_eq_true'] at *
  exact h.swo.ntrans z y x h2 h1
theorem le_total (h : Cm c) (x y : α) : ((!(ltOf c y x)) || (!(ltOf c x y))) = true := by
  cases h1 : ltOf c y x with
  | false => simp
  | true =>
    have h1 := of_decide_eq_true h1
    have e := (h.anti y x).1 h1
    have : ltOf c x y = false := decide_eq_false (by omega)
    rw [this]
    rfl
theorem sort_perm (h : Cm c) (h0 : ∀ x y, c x y = 0 → x = y) {xs ys : List α} (hp : xs.Perm ys) : xs.mergeSort (fun x y => !(ltOf c y x)) = ys.mergeSort (fun x y => !(ltOf c y x)) := by
  refine List.Perm.eq_of_pairwise (le := fun a b => (!(ltOf c b a)) = true) (fun a b _ _ h1 h2 => ?_) (List.pairwise_mergeSort h.le_trans h.le_total _) (List.pairwise_mergeSort h.le_trans h.le_total _) (((List.mergeSort_perm xs _).trans hp).trans (List.mergeSort_perm ys _).symm)
  simp only [Bool.not_eq_true'] at h1 h2
  exact h.total h0 h2 h1
end Cm
theorem cmZ : Cm cmpZ := by
  unfold cmpZ
  refine ⟨fun a b => ?_, fun a b d h1 h2 => ?_, fun a b d h1 h2 => ?_, fun a b d h1 h2 => ?_, fun a b d h1 h2 => ?_⟩
  · split <;> split <;> try split
    all_goals omega
  all_goals
    split at h1 <;> (try split at h1) <;> split at h2 <;> (try split at h2) <;> split <;> (try split) <;> omega
theorem cmpZ_zero {a b : Int} (h : cmpZ a b = 0) : a = b := by
  unfold cmpZ at h
  split at h
  · omega
  · split at h <;> omega
/-- slices.Compare at ints -/
def cmpL : List Int → List Int → Int
  | [], [] => 0
  | [], _ :: _ => -1
  | _ :: _, [] => 1
  | a :: at1, b :: bt => orZ (cmpZ a b) (cmpL at1 bt)
theorem cmpL_zero : ∀ {a b : List Int}, cmpL a b = 0 → a = b
  | [], [], _ => rfl
  | [], _ :: _, h => by simp [cmpL] at h
  | _ :: _, [], h => by simp [cmpL] at h
  | a :: at1, b :: bt, h => by
    unfold cmpL orZ at h
    split at h
    · rename_i h1
      rw [cmpZ_zero h1, cmpL_zero h]
    · rename_i h1
      exact absurd h h1
theorem cmpL_refl : ∀ a : List Int, cmpL a a = 0
  | [] => rfl
  | a :: at1 => by
    unfold cmpL orZ
    rw [if_pos (cmZ.refl a), cmpL_refl at1]
theorem cmL_anti : ∀ a b : List Int, cmpL a b < 0 ↔ 0 < cmpL b a
  | [], [] => by simp [cmpL]
  | [], _ :: _ => by simp [cmpL]
  | _ :: _, [] => by simp [cmpL]
  | a :: at1, b :: bt => by
    have h1 := cmZ.anti a b
    have h2 := cmZ.anti b a
    have h3 := cmL_anti at1 bt
    unfold cmpL orZ
    split <;> split <;> omega
theorem cmL_trans : ∀ a b d : List Int, cmpL a b < 0 → cmpL b d < 0 → cmpL a d < 0
  | [], [], _, h, _ => by simp [cmpL] at h
  | [], _ :: _, [], _, h => by simp [cmpL] at h
  | [], _ :: _, _ :: _, _, _ => by simp [cmpL]
  | _ :: _, [], _, h, _ => by simp [cmpL] at h
  | _ :: _, _ :: _, [], _, h => by simp [cmpL] at h
  | a :: at1, b :: bt, d :: dt, h1, h2 => by
    have e1 := cmZ.trans a b d
    have e2 := cmZ.eqL a b d
    have e3 := cmZ.eqR a b d
    have e4 := cmZ.eqE a b d
    have e5 := cmL_trans at1 bt dt
    unfold cmpL orZ at h1 h2 ⊢
    split at h1 <;> split at h2 <;> split <;> omega
theorem cmL : Cm cmpL where
  anti := cmL_anti
  trans := cmL_trans
  eqL a b d h1 h2 := by rw [cmpL_zero h1]; exact h2
  eqR a b d h1 h2 := by rw [← cmpL_zero h2]; exact h1
  eqE a b d h1 h2 := by rw [cmpL_zero h1]; exact h2
/-- as the stable sort asks it -/
theorem Cm.weak {α : Type} {c : α → α → Int} (h : Cm c) : Weak (fun x y => decide (c x y < 0)) where
  asym a b h1 := by
    have h1 := of_decide_eq_true h1
    have e := (h.anti a b).1 h1
    exact decide_eq_false (by omega)
  ntr a b d h1 h2 := h.swo.ntrans d b a h2 h1
end Go.Proofs.Ytnfgndapalkbcaa
