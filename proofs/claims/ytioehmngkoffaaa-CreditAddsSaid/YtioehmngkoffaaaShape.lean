/-
  The cells of a struct of ints, bools and texts, nested ones too: what each cell is. Over any program.
-/
import Derived.Test.YtioehmngkoffaaaWords
import Derived.Test.YtioehmngkoffaaaOpen
import Derived.ChangeArms
import Derived.ChangeMaps5
import Derived.Lib.SmallJoins
import Derived.SizedLaws
namespace Go.Proofs.Ytioehmngkoffaaa
open Go.ChangeShapes Go.WideShapes Go.ChangeAt Go.RowKit

inductive Leaf where
  | int
  | bool
  | text
  | any
def Is64 (z : Int) : Prop := -9223372036854775808 ≤ z ∧ z ≤ 9223372036854775807
/-- what a cell of such a kind is -/
def Leaf.fits (M : Nat) : Leaf → Value → Prop
  | .int, v => ∃ z : Int, v = .int .i64 z ∧ Is64 z
  | .bool, v => ∃ b : Bool, v = .bool b
  | .text, v => ∃ s : ByteArray, v = .string s ∧ s.size ≤ M
  | .any, _ => True
def AllFitM (M : Nat) : List Leaf → List Value → Prop
  | [], [] => True
  | k :: ks, v :: vs => k.fits M v ∧ AllFitM M ks vs
  | _, _ => False
abbrev AllFit : List Leaf → List Value → Prop := AllFitM maxLen
theorem allFit_append {M : Nat} : ∀ {ks ks' : List Leaf} {vs vs' : List Value}, AllFitM M ks vs → AllFitM M ks' vs' → AllFitM M (ks ++ ks') (vs ++ vs')
  | [], _, [], _, _, h => h
  | _ :: _, _, _ :: _, _, h, h' => ⟨h.1, allFit_append h.2 h'⟩
  | [], _, _ :: _, _, h, _ => h.elim
  | _ :: _, _, [], _, h, _ => h.elim
theorem allFit_length {M : Nat} : ∀ {ks : List Leaf} {vs : List Value}, AllFitM M ks vs → vs.length = ks.length
  | [], [], _ => rfl
  | _ :: _, _ :: _, h => by simp [allFit_length h.2]
  | [], _ :: _, h => h.elim
  | _ :: _, [], h => h.elim

theorem fit_int {M : Nat} {ks : List Leaf} {cs : List Value} (h : AllFitM M (.int :: ks) cs) : ∃ z vs, cs = .int .i64 z :: vs ∧ Is64 z ∧ AllFitM M ks vs := by
  cases cs with
  | nil => exact h.elim
  | cons v vs => obtain ⟨⟨z, e, hz⟩, h2⟩ := h; exact ⟨z, vs, by rw [e], hz, h2⟩
theorem fit_bool {M : Nat} {ks : List Leaf} {cs : List Value} (h : AllFitM M (.bool :: ks) cs) : ∃ z vs, cs = .bool z :: vs ∧ AllFitM M ks vs := by
  cases cs with
  | nil => exact h.elim
  | cons v vs => obtain ⟨⟨z, e⟩, h2⟩ := h; exact ⟨z, vs, by rw [e], h2⟩
theorem fit_text {M : Nat} {ks : List Leaf} {cs : List Value} (h : AllFitM M (.text :: ks) cs) : ∃ (z : ByteArray) (vs : List Value), cs = .string z :: vs ∧ z.size ≤ M ∧ AllFitM M ks vs := by
  cases cs with
  | nil => exact h.elim
  | cons v vs => obtain ⟨⟨z, e, hz⟩, h2⟩ := h; exact ⟨z, vs, by rw [e], hz, h2⟩
theorem fit_nil {M : Nat} {cs : List Value} (h : AllFitM M [] cs) : cs = [] := by
  cases cs with
  | nil => rfl
  | cons v vs => exact h.elim
def joinShapes : Nat → List (Nat × Nat × Option (List Leaf)) → Option (List Leaf)
  | _, [] => some []
  | off, (o, c, some ks) :: r => if o = off ∧ c = ks.length then (joinShapes (off + c) r).map (ks ++ ·) else none
  | _, (_, _, none) :: _ => none
/-- the kinds of a type's cells -/
def shapeOf (P : Program) : Nat → TypeId → Option (List Leaf)
  | 0, _ => none
  | n + 1, t =>
    match P.underlying t with
    | some (.int .i64) => some [.int]
    | some .bool => some [.bool]
    | some .string => some [.text]
    | some (.slice _) => some [.any]
    | some (.struct fs) =>
      match joinShapes 0 (fs.toList.map fun f => (f.offset, P.cellsOf f.type, shapeOf P n f.type)) with
      | some ks => if P.cellsOf t = ks.length then some ks else none
      | none => none
    | _ => none

theorem join_fits {M : Nat} {cs : List Value} : ∀ (l : List (Nat × Nat × Option (List Leaf))) (off : Nat) (ks : List Leaf), joinShapes off l = some ks →
    (∀ o c k, (o, c, some k) ∈ l → AllFitM M k ((cs.drop o).take c)) → AllFitM M ks ((cs.drop off).take ks.length)
  | [], off, ks, h, _ => by
    simp only [joinShapes, Option.some.injEq] at h
    subst h
    simp [AllFitM]
  | (o, c, some k) :: r, off, ks, h, hf => by
    simp only [joinShapes] at h
    split at h
    · rename_i hc
      obtain ⟨rfl, rfl⟩ := hc
      simp only [Option.map_eq_some_iff] at h
      obtain ⟨ks', h1, rfl⟩ := h
      have ih := join_fits r _ ks' h1 (fun o c k hm => hf o c k (List.mem_cons_of_mem _ hm))
      have h0 := hf o k.length k (by simp)
      have e : (cs.drop o).take (k ++ ks').length = (cs.drop o).take k.length ++ (cs.drop (o + k.length)).take ks'.length := by
        rw [List.length_append, List.take_add, List.drop_drop]
      rw [e]
      exact allFit_append h0 ih
    · cases h
  | (o, c, none) :: r, off, ks, h, _ => by simp [joinShapes] at h

theorem shape_fits {H : Type} {enc : TypeId × Value → H} {P : Program} {w : World} {base : Nat} {spare : Nat → Bool} {held : Bool} : ∀ (n : Nat) (t : TypeId) (ks : List Leaf) (fuel : Nat) (cs : List Value) (x : DataW H × List MemPlace),
    shapeOf P n t = some ks → DataW.trod enc P w base spare held fuel t cs = some x → AllFit ks cs
  | 0, _, _, _, _, _, h, _ => by simp [shapeOf] at h
  | n + 1, t, ks, fuel, cs, x, h, hx => by
    unfold shapeOf at h
    split at h
    · rename_i hu
      injection h with h
      subst h
      obtain ⟨z, rfl, _, hw⟩ := DataW.trod_int hu hx
      exact ⟨⟨z, rfl, bounds_of_wf hw⟩, trivial⟩
    · rename_i hu
      injection h with h
      subst h
      obtain ⟨b, rfl, _⟩ := DataW.trod_bool hu hx
      exact ⟨⟨b, rfl⟩, trivial⟩
    · rename_i hu
      injection h with h
      subst h
      obtain ⟨s, rfl, _, hs⟩ := DataW.trod_string hu hx
      exact ⟨⟨s, rfl, hs⟩, trivial⟩
    · rename_i e hu
      injection h with h
      subst h
      rcases DataW.trod_slice hu hx with ⟨hcs, _⟩ | ⟨a, len, cap, elems, rest, m, _, hcs, _⟩
      · subst hcs
        exact ⟨trivial, trivial⟩
      · subst hcs
        exact ⟨trivial, trivial⟩
    · rename_i fs hu
      obtain ⟨xs, m, _, _, hl, hlen, hf⟩ := DataW.trod_struct hu hx
      split at h
      · rename_i ks' hj
        split at h
        · rename_i hc
          injection h with h
          subst h
          have := join_fits (cs := cs) _ 0 ks' hj (fun o c k hm => by
            rw [List.mem_map] at hm
            obtain ⟨f, hm, e⟩ := hm
            injection e with e1 e
            injection e with e2 e3
            subst e1 e2
            obtain ⟨i, hi, he⟩ := List.mem_iff_getElem.1 hm
            have hfi : fs[i]? = some f := by
              rw [← he, ← Array.getElem?_toList, List.getElem?_eq_getElem hi]
            have hp := hf i f hfi
            have hil : i < xs.length := by rw [hlen]; simpa using hi
            rw [List.getElem?_eq_getElem hil] at hp
            exact shape_fits n f.type k m _ _ e3 hp)
          rw [List.drop_zero, List.take_of_length_le (by omega)] at this
          exact this
        · cases h
      · cases h
    · cases h


/-- the same, and each text no longer than what the argument weighs -/
theorem shape_sized {M : Nat} {H : Type} {enc : TypeId × Value → H} {P : Program} {w : World} {base : Nat} {spare : Nat → Bool} {held : Bool} : ∀ (n : Nat) (t : TypeId) (ks : List Leaf) (fuel : Nat) (cs : List Value) (x : DataW H × List MemPlace),
    shapeOf P n t = some ks → DataW.trod enc P w base spare held fuel t cs = some x → (∀ m ∈ x.1.weights P t, m ≤ M) → AllFitM M ks cs
  | 0, _, _, _, _, _, h, _, _ => by simp [shapeOf] at h
  | n + 1, t, ks, fuel, cs, x, h, hx, hw => by
    unfold shapeOf at h
    split at h
    · rename_i hu
      injection h with h
      subst h
      obtain ⟨z, rfl, _, hw⟩ := DataW.trod_int hu hx
      exact ⟨⟨z, rfl, bounds_of_wf hw⟩, trivial⟩
    · rename_i hu
      injection h with h
      subst h
      obtain ⟨b, rfl, _⟩ := DataW.trod_bool hu hx
      exact ⟨⟨b, rfl⟩, trivial⟩
    · rename_i hu
      injection h with h
      subst h
      obtain ⟨s, rfl, rfl, hs⟩ := DataW.trod_string hu hx
      exact ⟨⟨s, rfl, by have := hw s.data.toList.length (by simp [DataW.weights]); simpa using this⟩, trivial⟩
    · rename_i e hu
      injection h with h
      subst h
      rcases DataW.trod_slice hu hx with ⟨hcs, _⟩ | ⟨a, len, cap, elems, rest, m, _, hcs, _⟩
      · subst hcs
        exact ⟨trivial, trivial⟩
      · subst hcs
        exact ⟨trivial, trivial⟩
    · rename_i fs hu
      obtain ⟨xs, m, _, rfl, hl, hlen, hf⟩ := DataW.trod_struct hu hx
      split at h
      · rename_i ks' hj
        split at h
        · rename_i hc
          injection h with h
          subst h
          have := join_fits (cs := cs) _ 0 ks' hj (fun o c k hm => by
            rw [List.mem_map] at hm
            obtain ⟨f, hm, e⟩ := hm
            injection e with e1 e
            injection e with e2 e3
            subst e1 e2
            obtain ⟨i, hi, he⟩ := List.mem_iff_getElem.1 hm
            have hfi : fs[i]? = some f := by
              rw [← he, ← Array.getElem?_toList, List.getElem?_eq_getElem hi]
            have hp := hf i f hfi
            have hil : i < xs.length := by rw [hlen]; simpa using hi
            rw [List.getElem?_eq_getElem hil] at hp
            exact shape_sized n f.type k m _ _ e3 hp (fun q hq => hw q (by
              simp only [DataW.weights, hu]
              exact DataW.weights_mem_each (j := i) (t := f.type) (d := (xs[i]).1) (by rw [List.getElem?_map, Array.getElem?_toList, hfi]; rfl) (by rw [List.getElem?_map, List.getElem?_eq_getElem hil]; rfl) q hq)))
          rw [List.drop_zero, List.take_of_length_le (by omega)] at this
          exact this
        · cases h
      · cases h
    · cases h

end Go.Proofs.Ytioehmngkoffaaa
