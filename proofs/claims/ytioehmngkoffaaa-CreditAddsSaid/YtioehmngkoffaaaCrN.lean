/-
  Pledges, plain: of each asset one; what lies beyond money's end.
-/
import Derived.Test.YtioehmngkoffaaaCrAP
import Derived.Test.YtioehmngkoffaaaMapL
import Derived.Test.YtioehmngkoffaaaRwsI
namespace Go.Proofs.Ytioehmngkoffaaa
open Go Go.RowKit
theorem zero_row (w : World) : (zeroValue 84).run Try.prog w = .ok nilRow w := by kernel_rfl
theorem int_ty : RowTy Try.prog 84 3 1 8 := RowTy.of Try.underlying84 (by kernel_rfl) (by kernel_rfl)
/-- how much of one asset, in turn -/
def qtyL (a : ByteArray) (ps : List Pl) : List Int := (ps.filter fun p => decide (p.asset = a)).map (·.qty)
theorem qtyL_app (a : ByteArray) (ps qs : List Pl) : qtyL a (ps ++ qs) = qtyL a ps ++ qtyL a qs := by
  unfold qtyL
  rw [List.filter_append, List.map_append]
theorem qtyL_snoc (a : ByteArray) (ps : List Pl) (p : Pl) : qtyL a (ps ++ [p]) = if p.asset = a then qtyL a ps ++ [p.qty] else qtyL a ps := by
  unfold qtyL
  rw [List.filter_append]
  split <;> rename_i h <;> simp [h]
theorem qtyL_eq {ps : List Pl} {i : Nat} {u : Pl} (h : ps[i]? = some u) : qtyL u.asset (ps.take (i + 1)) = qtyL u.asset (ps.take i) ++ [u.qty] := by
  rw [List.take_add_one, h]
  show qtyL _ (_ ++ [u]) = _
  rw [qtyL_snoc, if_pos rfl]
theorem qtyL_ne {ps : List Pl} {i : Nat} {u : Pl} (h : ps[i]? = some u) {q : ByteArray} (hq : q ≠ u.asset) : qtyL q (ps.take (i + 1)) = qtyL q (ps.take i) := by
  rw [List.take_add_one, h]
  show qtyL _ (_ ++ [u]) = _
  rw [qtyL_snoc, if_neg (fun e => hq e.symm)]
theorem qtyL_none {ps : List Pl} {i : Nat} {u : Pl} {v' : Value} {clock : Nat} {l : List (Ent ByteArray Value)} (hu : ps[i]? = some u) (h : ∀ a, look a l = none → qtyL a (ps.take i) = []) (a : ByteArray) (ha : look a (ins u.asset v' clock l) = none) : qtyL a (ps.take (i + 1)) = [] := by
  rw [look_ins] at ha
  split at ha
  · cases ha
  · rename_i hne
    rw [qtyL_ne hu hne]
    exact h a ha
theorem qtyL_some {ps : List Pl} {i : Nat} {u : Pl} {v' : Value} {clock : Nat} {l : List (Ent ByteArray Value)} (hu : ps[i]? = some u) (hk : l.Pairwise fun a b => a.key ≠ b.key) (h : ∀ e ∈ l, ∃ p ∈ ps.take i, p.asset = e.key) (e : Ent ByteArray Value) (he : e ∈ ins u.asset v' clock l) : ∃ p ∈ ps.take (i + 1), p.asset = e.key := by
  rw [List.take_add_one, hu]
  rcases ins_mem2 hk he with ⟨h1, _⟩ | ⟨h1, _⟩
  · obtain ⟨p, hp, hpe⟩ := h e h1
    exact ⟨p, List.mem_append_left _ hp, hpe⟩
  · exact ⟨u, List.mem_append_right _ (by simp), h1.symm⟩
theorem qtyL_all {ps : List Pl} {i : Nat} {u : Pl} {v' : Value} {clock : Nat} {l : List (Ent ByteArray Value)} (hu : ps[i]? = some u) (h : ∀ p ∈ ps.take i, p.asset ∈ l.map (·.key)) : ∀ p ∈ ps.take (i + 1), p.asset ∈ (ins u.asset v' clock l).map (·.key) := by
  rw [List.take_add_one, hu]
  intro p hp
  rw [ins_keys]
  cases hh : hasK u.asset l with
  | true =>
    rw [if_pos rfl]
    rcases List.mem_append.1 hp with h1 | h1
    · exact h p h1
    · simp at h1; subst h1; exact hasK_iff.1 hh
  | false =>
    rw [if_neg (by simp)]
    rcases List.mem_append.1 hp with h1 | h1
    · exact List.mem_append_left _ (h p h1)
    · simp at h1; subst h1; exact List.mem_append_right _ (by simp)
theorem qtyL_64 {ps : List Pl} (h : ∀ o ∈ ps, IsI64 o.qty) (a : ByteArray) : ∀ x ∈ qtyL a ps, IsI64 x := by
  intro x hx
  unfold qtyL at hx
  obtain ⟨o, ho, rfl⟩ := List.mem_map.1 hx
  exact h o (List.mem_filter.1 ho).1
theorem qtyL_len (a : ByteArray) (ps : List Pl) : (qtyL a ps).length ≤ ps.length := by
  unfold qtyL
  rw [List.length_map]
  exact List.length_filter_le _ _
theorem qtyL_lenT (a : ByteArray) (ps : List Pl) (i : Nat) : (qtyL a (ps.take i)).length ≤ i := by
  have h := qtyL_len a (ps.take i)
  rw [List.length_take] at h
  omega
/-- one pledge for each of some assets -/
def mrg (ps : List Pl) (ks : List ByteArray) : List Pl := (ks.map fun a => (⟨a, clampV (sumI (qtyL a ps))⟩ : Pl)).filter fun p => decide (p.qty ≠ 0)
theorem mrg_snoc (ps : List Pl) (ks : List ByteArray) (a : ByteArray) : mrg ps (ks ++ [a]) = if clampV (sumI (qtyL a ps)) = 0 then mrg ps ks else mrg ps ks ++ [⟨a, clampV (sumI (qtyL a ps))⟩] := by
  unfold mrg
  rw [List.map_append, List.filter_append]
  split <;> rename_i h <;> simp [h]
theorem mrg_len (ps : List Pl) (ks : List ByteArray) : (mrg ps ks).length ≤ ks.length := by
  unfold mrg
  refine Nat.le_trans (List.length_filter_le _ _) ?_
  rw [List.length_map]
  exact Nat.le_refl _
/-- of each asset one pledge, in some order -/
def IsMrg (ps out : List Pl) : Prop := ∃ ks : List ByteArray, ks.Nodup ∧ (∀ a, a ∈ ks ↔ ∃ p ∈ ps, p.asset = a) ∧ out = mrg ps ks
theorem IsMrg.len {ps out : List Pl} (h : IsMrg ps out) : out.length ≤ ps.length := by
  obtain ⟨ks, h1, h2, rfl⟩ := h
  refine Nat.le_trans (mrg_len _ _) ?_
  have h3 : ks.length ≤ (ps.map (·.asset)).length := h1.length_le_of_subset fun a ha => by
    obtain ⟨p, hp, rfl⟩ := (h2 a).1 ha
    exact List.mem_map_of_mem hp
  rwa [List.length_map] at h3
/-- whether, one behind the other, more comes together of an asset than money holds -/
def overB (ps : List Pl) : Bool := (List.range ps.length).any fun i => clampO (sumI (qtyL ((ps[i]?).map (·.asset)).get! (ps.take (i + 1))))
end Go.Proofs.Ytioehmngkoffaaa
