/-
  Maps as lists of entries, plain: what is looked up. Over any program.
-/
import Derived.Test.YtioehmngkoffaaaMapAB
namespace Go.Proofs.Ytioehmngkoffaaa
open Go Go.RowKit
theorem look_mem {K V : Type} [DecidableEq K] {k : K} {v : V} : ∀ {l : List (Ent K V)}, look k l = some v → ∃ e ∈ l, e.key = k ∧ e.val = v
  | [], h => by cases h
  | e :: l, h => by
    simp only [look] at h
    split at h
    · rename_i hk
      injection h with h
      exact ⟨e, by simp, hk.symm, h⟩
    · obtain ⟨e', h1, h2⟩ := look_mem h
      exact ⟨e', List.mem_cons_of_mem _ h1, h2⟩
theorem nodup_map {α β : Type} {f : α → β} {l : List α} (h : (l.map f).Nodup) : l.Nodup := (List.pairwise_map.1 h).imp fun h e => h (congrArg _ e)
theorem look_ins {K V : Type} [DecidableEq K] (k k' : K) (v : V) (n : Nat) : ∀ (l : List (Ent K V)), look k' (ins k v n l) = if k' = k then some v else look k' l
  | [] => by
    by_cases h : k' = k
    · simp only [ins, look, h, if_true]
    · simp only [ins, look, h, if_false]
  | e :: l => by
    by_cases h1 : k = e.key
    · simp only [ins, if_pos h1, look]
      by_cases h2 : k' = k
      · rw [if_pos (h2.trans h1), if_pos h2]
      · rw [if_neg (fun e' => h2 (e'.trans h1.symm)), if_neg h2, if_neg (fun e' => h2 (e'.trans h1.symm))]
    · simp only [ins, if_neg h1, look]
      by_cases h2 : k' = e.key
      · rw [if_pos h2, if_neg (fun e' => h1 (e'.symm.trans h2)), if_pos h2]
      · rw [if_neg h2, look_ins k k' v n l, if_neg h2]
theorem own_row {w : World} {b : Nat} {e : TypeId} {s : Nat} {v : Value} {n : Nat} {xs : List Value} (h : w.ownsRow b e s v n xs) : ∃ A cp, v = .slice A n cp := by
  rcases h.2 with ⟨rfl, rfl⟩ | ⟨g, cap, cur, rfl, _⟩
  · exact ⟨none, 0, rfl⟩
  · exact ⟨_, cap, rfl⟩
theorem ItO.leG {K V : Type} {ρ : Nm} {rs : List Reg} {w : World} {it : Nat} {m : Option Nat} {l dn : List (Ent K V)} {clock : Nat} (h : ItO ρ rs w it m l clock dn) : dn.length ≤ l.length := (nodup_map h.nodup).length_le_of_subset h.sub
theorem ItO.ltG {K V : Type} {ρ : Nm} {rs : List Reg} {w : World} {it : Nat} {m : Option Nat} {l dn : List (Ent K V)} {clock : Nat} {e : Ent K V} (h : ItO ρ rs w it m l clock (dn ++ [e])) : dn.length + 1 ≤ l.length := by
  have := h.leG
  rw [List.length_append, List.length_singleton] at this
  exact this
end Go.Proofs.Ytioehmngkoffaaa
