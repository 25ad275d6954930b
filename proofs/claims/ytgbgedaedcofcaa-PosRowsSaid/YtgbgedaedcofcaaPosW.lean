/-
  Plain: the keys of positions rise; those of some assets are those of all that are of them.
-/
import Derived.Test.YtgbgedaedcofcaaPosR
import Derived.Test.YtgbgedaedcofcaaCmpB
namespace Go.Proofs.Ytgbgedaedcofcaa
open Go Go.RowKit

theorem addL_keys {P : Key → Prop} {l : List (Ent Key B3)} {clock : Nat} {k : Key} {sub by' : Int} (h : ∀ e ∈ l, P e.key) (hk : P k) : ∀ e ∈ addL clock l k sub by', P e.key := by
  intro e he
  unfold addL at he
  split at he
  · split at he
    · exact h e ((del_sub k l).subset he)
    · rcases ins_mem he with ⟨h3, _⟩ | ⟨h3, _⟩ | h3
      · exact h e h3
      · rw [h3]
        exact hk
      · exact h e h3
  · exact h e he
def cntK (a b : ByteArray) (ks : List Key) (i : Nat) : Nat := ((ks.take i).filter (wantK [a, b])).length
theorem cntK_step {a b : ByteArray} {ks : List Key} {i : Nat} {k : Key} (h : ks[i]? = some k) : cntK a b ks (i + 1) = if wantK [a, b] k = true then cntK a b ks i + 1 else cntK a b ks i := by
  unfold cntK
  rw [List.take_add_one, h, List.filter_append]
  split <;> rename_i hw <;> simp [hw]
theorem filter_at {α : Type} (p : α → Bool) : ∀ (ks : List α) (i : Nat) (k : α), ks[i]? = some k → p k = true → (ks.filter p)[((ks.take i).filter p).length]? = some k
  | [], _, _, h, _ => by simp at h
  | x :: ks, 0, k, h, hp => by
    simp only [List.getElem?_cons_zero, Option.some.injEq] at h
    subst h
    simp [hp]
  | x :: ks, i + 1, k, h, hp => by
    simp only [List.getElem?_cons_succ] at h
    have ih := filter_at p ks i k h hp
    rw [List.take_succ_cons, List.filter_cons, List.filter_cons]
    split
    · simpa using ih
    · exact ih
structure RowsAt (l : List (Ent Key B3)) (a b : ByteArray) (ks ss : List Key) : Prop where
  nz : ∀ k ∈ ks, getM l k ≠ (0, 0, 0)
  lt : ∀ i x y, ks[i]? = some x → ks[i + 1]? = some y → ltK x y = true
  mem : ∀ k ∈ ks, k ∈ l.map (·.key)
  at_ : ∀ i k, ks[i]? = some k → wantK [a, b] k = true → ss[cntK a b ks i]? = some k
  all : cntK a b ks ks.length = ss.length
theorem leK_trans (x y z : Key) (h1 : leK x y = true) (h2 : leK y z = true) : leK x z = true := by
  unfold leK at *
  simp only [Bool.not_eq_true'] at *
  cases hzx : ltK z x with
  | false => rfl
  | true =>
    cases hxy : ltK x y with
    | true => rw [ltK_trans hzx hxy] at h2; cases h2
    | false =>
      have e := ltK_total hxy h1
      subst e
      rw [hzx] at h2
      cases h2
theorem leK_total (x y : Key) : (leK x y || leK y x) = true := by
  unfold leK
  cases h1 : ltK y x with
  | false => simp
  | true =>
    cases h2 : ltK x y with
    | false => simp
    | true => have := ltK_trans h1 h2; rw [ltK_irrefl] at this; cases this
theorem rows_at {l : List (Ent Key B3)} {clock : Nat} (hf : Fine l clock) (hnz : ∀ e ∈ l, e.val ≠ (0, 0, 0)) (a b : ByteArray) : RowsAt l a b (sortKs (pickKs [] l)) (sortKs (pickKs [a, b] l)) := by
  have hp : (sortKs (pickKs [] l)).Perm (pickKs [] l) := List.mergeSort_perm ..
  have hall : pickKs [] l = l.map (·.key) := by
    unfold pickKs
    exact List.filter_eq_self.2 fun x _ => by simp [wantK]
  have hpw : (sortKs (pickKs [] l)).Pairwise fun x y => leK x y = true := List.pairwise_mergeSort leK_trans leK_total _
  have hnd : (sortKs (pickKs [] l)).Nodup := by
    refine hp.nodup_iff.2 ?_
    rw [hall]
    exact List.pairwise_map.2 hf.keys
  have hmem : ∀ k ∈ sortKs (pickKs [] l), k ∈ l.map (·.key) := fun k hk => by rw [← hall]; exact hp.mem_iff.1 hk
  have hss : sortKs (pickKs [a, b] l) = (sortKs (pickKs [] l)).filter (wantK [a, b]) := by
    have h1 : (pickKs [a, b] l).Perm ((sortKs (pickKs [] l)).filter (wantK [a, b])) := by
      have h2 := (hp.filter (wantK [a, b])).symm
      have h3 : pickKs [a, b] l = (pickKs [] l).filter (wantK [a, b]) := by rw [hall]; rfl
      rw [h3]
      exact h2
    rw [sortKs_perm h1]
    exact List.mergeSort_of_pairwise (hpw.filter _)
  refine ⟨fun k hk => (keys_mem hf hnz k).1 (hmem k hk), fun i x y hx hy => ?_, hmem, fun i k hk hw => ?_, ?_⟩
  · obtain ⟨hi, rfl⟩ := List.getElem?_eq_some_iff.1 hx
    obtain ⟨hi', rfl⟩ := List.getElem?_eq_some_iff.1 hy
    have h1 := List.pairwise_iff_getElem.1 hpw i (i + 1) hi hi' (by omega)
    have h2 := List.pairwise_iff_getElem.1 hnd i (i + 1) hi hi' (by omega)
    unfold leK at h1
    simp only [Bool.not_eq_true'] at h1
    cases h3 : ltK (sortKs (pickKs [] l))[i] (sortKs (pickKs [] l))[i + 1] with
    | true => rfl
    | false => exact absurd (ltK_total h3 h1) h2
  · rw [hss]
    exact filter_at _ _ i k hk hw
  · rw [hss]
    unfold cntK
    rw [List.take_length]
end Go.Proofs.Ytgbgedaedcofcaa
