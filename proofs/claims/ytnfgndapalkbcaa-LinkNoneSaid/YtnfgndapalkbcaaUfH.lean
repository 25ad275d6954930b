/-
  A join of whatever numbers; classes of what has grown.
-/
import Derived.Test.YtnfgndapalkbcaaUfG
namespace Go.Proofs.Ytnfgndapalkbcaa
set_option maxRecDepth 100000
open Go.RowKit

/-- numbers that are all in their bounds, as naturals -/
theorem nats_of_in {u : List Nat} : ∀ (xs : List Int), (∀ x ∈ xs, inU u x = true) → ∃ ys : List Nat, xs = ys.map Int.ofNat ∧ InN u ys
  | [], _ => ⟨[], rfl, by intro x hx; cases hx⟩
  | x :: xs, h => by
    obtain ⟨ys, e, hy⟩ := nats_of_in xs (fun y hy => h y (by simp [hy]))
    have hx := h x (by simp)
    simp [inU] at hx
    refine ⟨x.toNat :: ys, ?_, ?_⟩
    · rw [e]
      simp
      omega
    · intro z hz
      rcases List.mem_cons.1 hz with rfl | hz
      · omega
      · exact hy z hz

/-- A join of whatever numbers leaves classes. -/
def JoinAny (w : World) (b g : Nat) (u : List Nat) (A : Option Addr) (c : Nat) (e : Ending) (w' : World) : Prop :=
  ∃ (k e1 : Int) (v : List Nat), e = .returned (.tuple #[.int .i64 k, .int .i64 e1]) ∧ Uf.Good v ∧ v.length = u.length ∧ UfAt w' b g v A c ∧ Keeps [b, g] w w'

theorem join_zero (b : Nat) (A : Option Addr) (c : Nat) (u : List Nat) (L : Option Addr) (cl : Nat) (w : World) (_ : UfR w b A c u) :
    Calls Try.prog 29 #[.pointer (some ⟨b, 0, none⟩), .slice L 0 cl] w fun e w' => e = .returned (.tuple #[.int .i64 0, .int .i64 0]) ∧ w = w' := by
  go_enter Try.func29, Try.ntmps29
  go_wp2_with fail
  go_loop [7, 17] (fun _ i => i = .int .i64 0) (fun _ i => 0)
  case atStart => exact rfl
  case round =>
    subst hrel
    go_wp2_with fail
    go_loop [8, 10, 11, 12, 28] (fun cn _ _ _ i => cn = .int .i64 0 ∧ i = .int .i64 0) (fun _ _ _ _ i => 0)
    case atStart => exact ⟨rfl, rfl⟩
    case round =>
      obtain ⟨rfl, rfl⟩ := hrel
      go_wp2_with fail
      go_ret2
      exact ⟨rfl, rfl⟩

theorem join_any (b g : Nat) (u : List Nat) (A : Option Addr) (c : Nat) (L : Option Addr) (n cl B : Nat) (xs : List Int) (w : World) (h : UfAt w b g u A c) (hgood : Uf.Good u) (hbig : u.length ≤ 1000)
    (hr : Reads w B 1 L n (ints xs)) (hB : B ≤ w.heap.size) (hBb : ∀ ad, L = some ad → ad.block < B → ad.block ≠ b ∧ ad.block ≠ g) (hn : n ≤ 1000000) :
    Calls Try.prog 29 #[.pointer (some ⟨b, 0, none⟩), .slice L n cl] w (JoinAny w b g u A c) := by
  by_cases hall : ∀ x ∈ xs, inU u x = true
  · obtain ⟨ys, rfl, hy⟩ := nats_of_in xs hall
    rcases ys with _ | ⟨y, ys⟩
    · have hl := hr.int_len
      simp at hl
      subst hl
      refine (join_zero b A c u L cl w h.rd).mono ?_
      rintro en w1 ⟨rfl, rfl⟩
      exact ⟨0, 0, u, rfl, hgood, rfl, h, Keeps.refl _ _⟩
    · refine (join_in b g u A c L n cl B y (y :: ys) w h hgood hbig (by rw [nats_ints]; exact hr) hB hBb hy rfl hn).mono ?_
      rintro en w1 ⟨rfl, hu, hk⟩
      exact ⟨_, 0, _, rfl, joinU_good hgood (hy y (by simp)) _ hy, joinU_length _ _ _, hu, hk⟩
  · refine (join_out b g u A c L n cl B xs w h hr ?_ hn).mono ?_
    · apply Classical.byContradiction
      intro hno
      apply hall
      intro x hx
      cases hb : inU u x with
      | true => rfl
      | false => exact absurd ⟨x, hx, hb⟩ hno
    rintro en w1 ⟨rfl, rfl⟩
    exact ⟨0, 3, u, rfl, hgood, rfl, h, Keeps.refl _ _⟩

/-! ### Classes of what has grown -/
namespace Uf
theorem heads_grow {u : List Nat} (g : Good u) : heads (u ++ [u.length + 1]) = heads u ++ [u.length + 1] := by
  unfold heads
  rw [List.length_append, List.length_singleton, List.range'_concat, List.filter_append]
  congr 1
  · apply List.filter_congr
    intro x hx
    rw [List.mem_range'_1] at hx
    rw [hd_grow_old g x (by omega) (by omega)]
  · have := hd_grow_new g
    rw [show 1 + 1 * u.length = u.length + 1 by omega]
    simp [this]
theorem cls_grow {u : List Nat} (g : Good u) {h : Nat} (hh : h ≤ u.length) : cls (u ++ [u.length + 1]) h = cls u h := by
  unfold cls
  rw [List.length_append, List.length_singleton, List.range'_concat, List.filter_append]
  have := hd_grow_new g
  rw [show 1 + 1 * u.length = u.length + 1 by omega]
  have e : List.filter (fun j => decide (hd (u ++ [u.length + 1]) j = h)) [u.length + 1] = [] := by
    simp [this]; omega
  rw [e, List.append_nil]
  apply List.filter_congr
  intro x hx
  rw [List.mem_range'_1] at hx
  rw [hd_grow_old g x (by omega) (by omega)]
theorem cls_grow_new {u : List Nat} (g : Good u) : cls (u ++ [u.length + 1]) (u.length + 1) = [u.length + 1] := by
  unfold cls
  rw [List.length_append, List.length_singleton, List.range'_concat, List.filter_append]
  have := hd_grow_new g
  rw [show 1 + 1 * u.length = u.length + 1 by omega]
  have e : List.filter (fun j => decide (hd (u ++ [u.length + 1]) j = u.length + 1)) (List.range' 1 u.length) = [] := by
    rw [List.filter_eq_nil_iff]
    intro x hx
    rw [List.mem_range'_1] at hx
    rw [hd_grow_old g x (by omega) (by omega)]
    have := (hd_spec g x (by omega) (by omega)).2.1
    simp; omega
  rw [e]
  simp [this]
theorem mem_heads {u : List Nat} {h : Nat} (hm : h ∈ heads u) : 1 ≤ h ∧ h ≤ u.length := by
  unfold heads at hm
  have := List.mem_range'_1.1 (List.mem_filter.1 hm).1
  omega
theorem classes_grow {u : List Nat} (g : Good u) : classes (u ++ [u.length + 1]) = classes u ++ [[u.length + 1]] := by
  unfold classes
  rw [heads_grow g, List.map_append]
  congr 1
  · apply List.map_congr_left
    intro h hm
    exact cls_grow g (mem_heads hm).2
  · simp [cls_grow_new g]
theorem classes_row_len {u : List Nat} {k : Nat} (hk : k < (classes u).length) : ((classes u).getD k []).length ≤ u.length := by
  have hx : (classes u).getD k [] ∈ classes u := by
    rw [List.getD_eq_getElem?_getD, List.getElem?_eq_getElem hk]
    exact List.getElem_mem _
  generalize (classes u).getD k [] = x at *
  unfold classes at hx
  rw [List.mem_map] at hx
  obtain ⟨hd, _, hx⟩ := hx
  subst hx
  unfold cls
  refine Nat.le_trans (List.length_filter_le _ _) ?_
  simp
end Uf
theorem growF_good {u : List Nat} (g : Uf.Good u) (k : Nat) : Uf.Good (growF u k) := by
  induction k with
  | zero => exact g
  | succ k ih => exact Uf.good_grow ih
theorem growF_classes {u : List Nat} (g : Uf.Good u) (k : Nat) : ∃ l, Uf.classes (growF u k) = Uf.classes u ++ l ∧ l.length = k := by
  induction k with
  | zero => exact ⟨[], by simp [growF], rfl⟩
  | succ k ih =>
    obtain ⟨l, h1, h2⟩ := ih
    refine ⟨l ++ [[(growF u k).length + 1]], ?_, by simp [h2]⟩
    rw [growF, Uf.classes_grow (growF_good g k), h1, List.append_assoc]
theorem growF_new {u : List Nat} (g : Uf.Good u) (k : Nat) : ∀ i, u.length < i → i ≤ u.length + k → Uf.hd (growF u k) i = i ∧ Uf.cls (growF u k) i = [i] := by
  induction k with
  | zero => intro i h1 h2; omega
  | succ k ih =>
    intro i h1 h2
    have gg := growF_good g k
    have hl := growF_length u k
    rw [growF]
    by_cases e : i = u.length + k + 1
    · have e' : i = (growF u k).length + 1 := by omega
      rw [e']
      exact ⟨Uf.hd_grow_new gg, Uf.cls_grow_new gg⟩
    · obtain ⟨a, b⟩ := ih i h1 (by omega)
      rw [Uf.hd_grow_old gg i (by omega) (by omega), Uf.cls_grow gg (by omega)]
      exact ⟨a, b⟩
end Go.Proofs.Ytnfgndapalkbcaa
