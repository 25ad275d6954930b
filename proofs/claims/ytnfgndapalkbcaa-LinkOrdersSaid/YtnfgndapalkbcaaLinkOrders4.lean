/-
  LinkOrders, plain: the places that are filled in one by one; a store into a row of one's own.
-/
import Derived.Test.YtnfgndapalkbcaaGrL
namespace Go.Proofs.Ytnfgndapalkbcaa
open Go Go.RowKit
theorem nodup_ix {l : List Nat} (h : l.Nodup) {p r a : Nat} (h1 : l[p]? = some a) (h2 : l[r]? = some a) : p = r := by
  obtain ⟨l1, e1⟩ := List.getElem?_eq_some_iff.1 h1
  obtain ⟨l2, e2⟩ := List.getElem?_eq_some_iff.1 h2
  rcases Nat.lt_trichotomy p r with hh | hh | hh
  · exact absurd (e1.trans e2.symm) (List.pairwise_iff_getElem.1 h p r l1 l2 hh)
  · exact hh
  · exact absurd (e2.trans e1.symm) (List.pairwise_iff_getElem.1 h r p l2 l1 hh)
theorem cls_nodup (u : List Nat) (h : Nat) : (Uf.cls u h).Nodup := by
  unfold Uf.cls
  exact List.Pairwise.filter _ (List.Pairwise.imp (fun h => Nat.ne_of_lt h) List.pairwise_lt_range')
theorem take_snocO {l : List Nat} {s p : Nat} (h : l[s]? = some p) : l.take (s + 1) = l.take s ++ [p] := by rw [List.take_add_one, h]; rfl
/-- a number has its place by row i, column k -/
def doneP (u ord : List Nat) (i k j : Nat) : Prop := ∃ p, ord[p]? = some (Uf.hd u j) ∧ (p < i ∨ (p = i ∧ j ∈ (Uf.cls u (Uf.hd u j)).take k))
structure PlI (u ord : List Nat) (N i k : Nat) (pl : List Int) : Prop where
  len : pl.length = N + 1
  at_ : ∀ j, 1 ≤ j → j ≤ N → (∃ p : Nat, pl[j]? = some (p : Int) ∧ ord[p]? = some (Uf.hd u j) ∧ doneP u ord i k j) ∨ (pl[j]? = some (-1) ∧ ¬ doneP u ord i k j)
theorem PlI.start (u ord : List Nat) (N : Nat) : PlI u ord N 0 0 (List.replicate (N + 1) (-1)) := by
  refine ⟨List.length_replicate, fun j h1 h2 => .inr ⟨by rw [List.getElem?_replicate, if_pos (by omega)], ?_⟩⟩
  rintro ⟨p, _, h | ⟨_, h⟩⟩
  · omega
  · simp at h
section
variable {u ord : List Nat} {N i k x h0 : Nat} {pl : List Int}
theorem PlI.old (h : PlI u ord N i k pl) (hul : u.length = N) (hnd : ord.Nodup) (ho : ord[i]? = some h0) (hx : (Uf.cls u h0)[k]? = some x) : pl[x]? = some (-1) ∧ (1 ≤ x ∧ x ≤ N) ∧ Uf.hd u x = h0 := by
  obtain ⟨hr, he⟩ := Uf.mem_cls.1 (List.mem_of_getElem? hx)
  rw [hul] at hr
  refine ⟨?_, hr, he⟩
  rcases h.at_ x hr.1 hr.2 with ⟨p, _, _, q, h3, h4⟩ | ⟨h1, _⟩
  · rw [he] at h3 h4
    have := nodup_ix hnd h3 ho
    rcases h4 with h4 | ⟨_, h4⟩
    · omega
    · obtain ⟨j, hj, e⟩ := List.getElem_of_mem h4
      rw [List.getElem_take] at e
      have hjk : j < k := by simp at hj; omega
      have hjl : j < (Uf.cls u h0).length := by simp at hj; omega
      have := nodup_ix (cls_nodup u h0) (p := j) (by rw [List.getElem?_eq_getElem hjl, e]) hx
      omega
  · exact h1
theorem PlI.step (h : PlI u ord N i k pl) (hul : u.length = N) (hnd : ord.Nodup) (ho : ord[i]? = some h0) (hx : (Uf.cls u h0)[k]? = some x) : PlI u ord N i (k + 1) (pl.set x (i : Int)) := by
  obtain ⟨_, hr, he⟩ := h.old hul hnd ho hx
  refine ⟨by rw [List.length_set]; exact h.len, fun j h1 h2 => ?_⟩
  by_cases hj : j = x
  · subst hj
    refine .inl ⟨i, by rw [List.getElem?_set_self (by rw [h.len]; omega)], by rw [he]; exact ho, i, by rw [he]; exact ho, .inr ⟨rfl, ?_⟩⟩
    rw [he, take_snocO hx]
    simp
  · have hdn : doneP u ord i (k + 1) j ↔ doneP u ord i k j := by
      constructor
      · rintro ⟨p, h3, h4⟩
        refine ⟨p, h3, h4.imp id fun ⟨h5, h6⟩ => ⟨h5, ?_⟩⟩
        rw [h5, ho] at h3
        injection h3 with h3
        rw [← h3] at h6 ⊢
        rw [take_snocO hx, List.mem_append, List.mem_singleton] at h6
        exact h6.resolve_right hj
      · rintro ⟨p, h3, h4⟩
        exact ⟨p, h3, h4.imp id fun ⟨h5, h6⟩ => ⟨h5, (List.take_sublist_take_left (Nat.le_succ k)).subset h6⟩⟩
    rw [List.getElem?_set_ne (fun e => hj e.symm), hdn]
    exact h.at_ j h1 h2
theorem PlI.row (h : PlI u ord N i k pl) (hul : u.length = N) (ho : ord[i]? = some h0) (hk : k = (Uf.cls u h0).length) : PlI u ord N (i + 1) 0 pl := by
  refine ⟨h.len, fun j h1 h2 => ?_⟩
  have hdn : doneP u ord (i + 1) 0 j ↔ doneP u ord i k j := by
    constructor
    · rintro ⟨p, h3, h4 | ⟨_, h4⟩⟩
      · rcases Nat.lt_or_ge p i with h5 | h5
        · exact ⟨p, h3, .inl h5⟩
        · obtain rfl : p = i := by omega
          refine ⟨p, h3, .inr ⟨rfl, ?_⟩⟩
          rw [ho] at h3
          injection h3 with h3
          rw [← h3, hk, List.take_length]
          exact Uf.mem_cls.2 ⟨⟨h1, by omega⟩, h3.symm⟩
      · simp at h4
    · rintro ⟨p, h3, h4 | ⟨h4, _⟩⟩
      · exact ⟨p, h3, .inl (by omega)⟩
      · exact ⟨p, h3, .inl (by omega)⟩
  rw [hdn]
  exact h.at_ j h1 h2
theorem PlI.end_ (h : PlI u ord N i 0 pl) (hi : i = ord.length) (hall : ∀ j, 1 ≤ j → j ≤ N → Uf.hd u j ∈ ord) (j : Nat) (h1 : 1 ≤ j) (h2 : j ≤ N) : ∃ p : Nat, pl[j]? = some (p : Int) ∧ ord[p]? = some (Uf.hd u j) := by
  rcases h.at_ j h1 h2 with ⟨p, h3, h4, _⟩ | ⟨_, h4⟩
  · exact ⟨p, h3, h4⟩
  · obtain ⟨p, hp, e⟩ := List.getElem_of_mem (hall j h1 h2)
    exact absurd ⟨p, by rw [List.getElem?_eq_getElem hp, e], .inl (by omega)⟩ h4
end
section
variable {P : Program} {Q : Exit → Act → World → Prop} {T : List Nat} {w0 w : World} {ρ : Nm} {c : Cfg}
theorem overlay_one (l : List Value) (i : Nat) (v : Value) (h : i < l.length) : overlay l i [v] = l.set i v := by
  unfold overlay
  rw [List.set_eq_take_append_cons_drop, if_pos h, List.append_assoc]
  rfl
/-- a store into a row of numbers of one's own -/
theorem sim_storeR {a : LV} {z : Int} (h : storeOf P c = some (a, [LI z])) (hR : Rel T w0 ρ c.rs w) {g i n cp base : Nat} {e : TypeId} {pl : List Int} (hown : w.ownsRow base e 1 (.slice (some ⟨g, 0, none⟩) n cp) n (ints pl)) (ha : a.den ρ = .pointer (some ⟨g, i, none⟩)) (hi : i < n) (hT : w0.heap.size ≤ g)
    (hreg : ∀ (k : Nat) (r : Reg), c.rs[k]? = some r → r.cells ≠ [] → (ρ k).1 ≠ g)
    (next : ∀ w', w'.ownsRow base e 1 (.slice (some ⟨g, 0, none⟩) n cp) n (ints (pl.set i z)) → Kept (fun x => x = g) w w' → Rel T w0 ρ c.rs w' → At P Q (nextC c (.v undef) c.rs) ρ w') : At P Q c ρ w := by
  obtain ⟨hl, h2⟩ := hown
  rw [ints_length] at hl
  rcases h2 with ⟨h3, _⟩ | ⟨g', cap, cur, he, hb, hg, hn, hm, hsz, ht⟩
  · cases h3
  · injection he with he h4 h5
    injection he with he
    injection he with he
    subst he h5
    have hcl : i < cur.toList.length := by rw [Array.length_toList, hsz]; omega
    refine sim_store (cur := cur.toList) h hR ha (by rw [Array.toArray_toList]; exact hg) (by show i + 1 ≤ _; omega) (.inr hT) hreg (fun w' hb' hk hR' => next w' ⟨by rw [ints_length, List.length_set]; exact hl, .inr ⟨g, cp, _, rfl, hb, hb', hn, hm, ?_, ?_⟩⟩ hk hR')
    · show (overlay cur.toList i [Value.int .i64 z]).toArray.size = _
      rw [overlay_one _ _ _ hcl, List.size_toArray, List.length_set, Array.length_toList, hsz]
    · show ((overlay cur.toList i [Value.int .i64 z]).toArray.toList).take (n * 1) = _
      rw [overlay_one _ _ _ hcl, List.toList_toArray, List.take_set, ht]
      unfold ints
      rw [List.map_set]
end
end Go.Proofs.Ytnfgndapalkbcaa
