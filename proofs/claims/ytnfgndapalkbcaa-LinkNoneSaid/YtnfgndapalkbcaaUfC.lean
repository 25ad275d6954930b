/-
  Contracts of uf.New and uf.Join.
-/
import Derived.Test.YtnfgndapalkbcaaUfB
namespace Go.Proofs.Ytnfgndapalkbcaa
set_option maxRecDepth 100000
open Go.RowKit

theorem growF_fresh (n : Nat) : growF [] n = Uf.fresh n := by
  induction n with
  | zero => rfl
  | succ n ih =>
    simp only [growF, ih, Uf.fresh_length]
    unfold Uf.fresh
    rw [List.range'_concat]
    simp [Nat.add_comm]

theorem grow_nil (n : Int) (w : World) : Calls Try.prog 43 #[.pointer none, .int .i64 n] w fun e w' => e = .returned (.int .i64 1) ∧ w = w' := by
  go_enter Try.func43, Try.ntmps43
  go_wp2
  go_ret
  exact ⟨rfl, rfl⟩

/-- A Uf made by the call. -/
def NewN (w : World) (u : List Nat) (e : Ending) (w' : World) : Prop :=
  e = .returned (.tuple #[.pointer (some ⟨w.heap.size, 0, none⟩), .int .i64 0]) ∧ ∃ g A c, UfAt w' w.heap.size g u A c ∧ Below w.heap.size w w' ∧ w.heap.size ≤ g

theorem new_in (n : Nat) (h : n ≤ 1000) (w : World) : Calls Try.prog 28 #[.int .i64 n] w (NewN w (Uf.fresh n)) := by
  have hu : UfAt (w.alloc (.cells #[.slice none 0 0] 70)) w.heap.size w.heap.size [] none 0 := ⟨Blk.new w _ _, World.ownsRow_nil _ _ _ _, .inl ⟨rfl, rfl⟩⟩
  have HU := Lib.hid hu
  clear hu
  go_enter Try.func28, Try.ntmps28
  go_wp2_with fail
  refine (grow_in w.heap.size w.heap.size [] none 0 n _ HU.out (Nat.zero_le _) h).mono ?_
  rintro en w1 ⟨rfl, g', A', c', hu1, hk1, hg1⟩
  have HU1 := Lib.hid hu1
  have HK1 := Lib.hid hk1
  clear hu1 hk1
  go_wp2_with fail
  go_ret2
  have hu2 := HU1.out
  rw [show n - ([] : List Nat).length = n from rfl, growF_fresh] at hu2
  refine ⟨rfl, g', A', c', hu2, ?_, ?_⟩
  · exact ((Below.refl _ w).alloc (Nat.le_refl _) _).trans (HK1.out.below (by intro x hx; simp at hx; omega) (by simp))
  · rcases hg1 with rfl | h
    · exact Nat.le_refl _
    · simp at h; omega

/-! ### Join -/
def joinU (u : List Nat) (x0 : Nat) (xs : List Nat) : List Nat := xs.foldl (fun v x => Uf.step v x0 x) u
def joinC (u : List Nat) (x0 : Nat) : List Nat → Nat
  | [] => 0
  | x :: r => Uf.more u x0 x + joinC (Uf.step u x0 x) x0 r
theorem joinU_snoc (u : List Nat) (x0 : Nat) (xs : List Nat) (x : Nat) : joinU u x0 (xs ++ [x]) = Uf.step (joinU u x0 xs) x0 x := by simp [joinU]
theorem joinC_snoc (u : List Nat) (x0 : Nat) (xs : List Nat) (x : Nat) : joinC u x0 (xs ++ [x]) = joinC u x0 xs + Uf.more (joinU u x0 xs) x0 x := by
  induction xs generalizing u with
  | nil => simp [joinC, joinU]
  | cons y ys ih => simp only [List.cons_append, joinC, ih]; simp [joinU]; omega
theorem joinU_length (u : List Nat) (x0 : Nat) (xs : List Nat) : (joinU u x0 xs).length = u.length := by
  induction xs generalizing u with
  | nil => rfl
  | cons y ys ih => have := ih (Uf.step u x0 y); rw [Uf.step_length] at this; exact this
theorem joinC_le (u : List Nat) (x0 : Nat) (xs : List Nat) : joinC u x0 xs ≤ xs.length := by
  induction xs generalizing u with
  | nil => simp [joinC]
  | cons y ys ih => have := ih (Uf.step u x0 y); simp only [joinC, List.length_cons]; unfold Uf.more; split <;> omega
theorem joinU_good {u : List Nat} {x0 : Nat} (g : Uf.Good u) (h0 : 1 ≤ x0 ∧ x0 ≤ u.length) : ∀ (xs : List Nat), (∀ x ∈ xs, 1 ≤ x ∧ x ≤ u.length) → Uf.Good (joinU u x0 xs) := by
  intro xs
  induction xs generalizing u with
  | nil => intro _; exact g
  | cons y ys ih =>
    intro h
    exact ih (Uf.good_step g h0 (h y (by simp))) (by rw [Uf.step_length]; exact h0) (by rw [Uf.step_length]; exact fun x hx => h x (by simp [hx]))

/-- the numbers handed in, each in its bounds -/
def InN (u : List Nat) (xs : List Nat) : Prop := ∀ x ∈ xs, 1 ≤ x ∧ x ≤ u.length

def JoinN (w : World) (b g : Nat) (u : List Nat) (A : Option Addr) (c : Nat) (n : Nat) (e : Ending) (w' : World) : Prop :=
  e = .returned (.tuple #[.int .i64 (n : Int), .int .i64 0]) ∧ UfAt w' b g u A c ∧ Keeps [b, g] w w'

theorem UfAt.put {w : World} {b g : Nat} {u : List Nat} {A : Option Addr} {c : Nat} (h : UfAt w b g u A c) {i v : Nat} (hi : i < u.length) :
    g ≠ b ∧ A = some ⟨g, 0, none⟩ ∧ w.frozen? ⟨g, i, none⟩ = false ∧ (∃ old, w.cell? ⟨g, i, none⟩ = some old) ∧ UfAt (w.setCell ⟨g, i, none⟩ (.int .i64 (v : Int))) b g (u.set i v) A c := by
  rcases h.at_ with ⟨rfl, rfl⟩ | ⟨rfl, hne⟩
  · have := h.own.1
    rcases h.own.2 with ⟨_, h0⟩ | ⟨_, _, _, hv, _⟩
    · omega
    · cases hv
  · have ho := h.own
    refine ⟨hne, rfl, ho.frozenAt i, ?_, ?_⟩
    · have := ho.cellAt i (by simpa using hi)
      rw [this]
      exact ⟨_, List.getElem?_eq_getElem (by rw [nats_length]; exact hi)⟩
    · have hs := ho.stored i (.int .i64 (v : Int))
      refine ⟨?_, ?_, .inr ⟨rfl, hne⟩⟩
      · rw [List.length_set]
        exact h.blk.far (p := ⟨g, i, none⟩) (fun e => hne e.symm) _
      · rw [List.length_set]
        have e : nats (u.set i v) = (nats u).set i (.int .i64 (v : Int)) := by simp [nats, List.map_set]
        rw [e]
        exact hs.1
end Go.Proofs.Ytnfgndapalkbcaa
