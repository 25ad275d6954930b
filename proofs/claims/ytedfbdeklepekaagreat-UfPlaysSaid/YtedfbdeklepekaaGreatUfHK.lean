/-
  A join of whatever numbers; classes of what has grown.
  A class: its head is first, and it goes up: plain. What Same tells of a class.
  Counting classes: plain.
  Pairs joined from the front and from the back end the same: plain. What is told of a class by its place among the classes.
-/
import Derived.Test.YtedfbdeklepekaaGreatUfG
namespace Go.Proofs.YtedfbdeklepekaaGreat
section
set_option maxRecDepth 100000
open Go.RowKit

/-- numbers that are all in their bounds, as naturals -/
theorem nats_of_in {u : List Nat} : ∀ (xs : List Int), (∀ x ∈ xs, inU u x = true) → ∃ ys : List Nat, xs = ys.map Int.ofNat ∧ InN u ys
  | [], _ => ⟨[], rfl, by intro x hx; cases hx⟩
  | x :: xs, h => by
    obtain ⟨ys, e, hy⟩ := nats_of_in xs (fun y hy => h y (by simp [hy]))
    have hx := h x (by simp)
    simp [inU] at hx
    refine ⟨x.toNat :: ys, ?_, ?_⟩
    · rw [e]
      simp
      omega
    · intro z hz
      rcases List.mem_cons.1 hz with rfl | hz
      · omega
      · exact hy z hz

/-- A join of whatever numbers leaves classes. -/
def JoinAny (w : World) (b g : Nat) (u : List Nat) (A : Option Addr) (c : Nat) (e : Ending) (w' : World) : Prop :=
  ∃ (k e1 : Int) (v : List Nat), e = .returned (.tuple #[.int .i64 k, .int .i64 e1]) ∧ Uf.Good v ∧ v.length = u.length ∧ UfAt w' b g v A c ∧ Keeps [b, g] w w'

theorem join_zero (b : Nat) (A : Option Addr) (c : Nat) (u : List Nat) (L : Option Addr) (cl : Nat) (w : World) (_ : UfR w b A c u) :
    Calls Tryz.prog 10 #[.pointer (some ⟨b, 0, none⟩), .slice L 0 cl] w fun e w' => e = .returned (.tuple #[.int .i64 0, .int .i64 0]) ∧ w = w' := by
  go_enter Tryz.func10, Tryz.ntmps10
  go_wp2_with fail
  go_loop [7, 17] (fun _ i => i = .int .i64 0) (fun _ i => 0)
  case atStart => exact rfl
  case round =>
    subst hrel
    go_wp2_with fail
    go_loop [8, 10, 11, 12, 28] (fun cn _ _ _ i => cn = .int .i64 0 ∧ i = .int .i64 0) (fun _ _ _ _ i => 0)
    case atStart => exact ⟨rfl, rfl⟩
    case round =>
      obtain ⟨rfl, rfl⟩ := hrel
      go_wp2_with fail
      go_ret2
      exact ⟨rfl, rfl⟩

theorem join_any (b g : Nat) (u : List Nat) (A : Option Addr) (c : Nat) (L : Option Addr) (n cl B : Nat) (xs : List Int) (w : World) (h : UfAt w b g u A c) (hgood : Uf.Good u) (hbig : u.length ≤ 1000)
    (hr : Reads w B 1 L n (ints xs)) (hB : B ≤ w.heap.size) (hBb : ∀ ad, L = some ad → ad.block < B → ad.block ≠ b ∧ ad.block ≠ g) (hn : n ≤ 1000000) :
    Calls Tryz.prog 10 #[.pointer (some ⟨b, 0, none⟩), .slice L n cl] w (JoinAny w b g u A c) := by
  by_cases hall : ∀ x ∈ xs, inU u x = true
  · obtain ⟨ys, rfl, hy⟩ := nats_of_in xs hall
    rcases ys with _ | ⟨y, ys⟩
    · have hl := hr.int_len
      simp at hl
      subst hl
      refine (join_zero b A c u L cl w h.rd).mono ?_
      rintro en w1 ⟨rfl, rfl⟩
      exact ⟨0, 0, u, rfl, hgood, rfl, h, Keeps.refl _ _⟩
    · refine (join_in b g u A c L n cl B y (y :: ys) w h hgood hbig (by rw [nats_ints]; exact hr) hB hBb hy rfl hn).mono ?_
      rintro en w1 ⟨rfl, hu, hk⟩
      exact ⟨_, 0, _, rfl, joinU_good hgood (hy y (by simp)) _ hy, joinU_length _ _ _, hu, hk⟩
  · refine (join_out b g u A c L n cl B xs w h hr ?_ hn).mono ?_
    · apply Classical.byContradiction
      intro hno
      apply hall
      intro x hx
      cases hb : inU u x with
      | true => rfl
      | false => exact absurd ⟨x, hx, hb⟩ hno
    rintro en w1 ⟨rfl, rfl⟩
    exact ⟨0, 3, u, rfl, hgood, rfl, h, Keeps.refl _ _⟩

/-! ### Classes of what has grown -/
namespace Uf
theorem heads_grow {u : List Nat} (g : Good u) : heads (u ++ [u.length + 1]) = heads u ++ [u.length + 1] := by
  unfold heads
  rw [List.length_append, List.length_singleton, List.range'_concat, List.filter_append]
  congr 1
  · apply List.filter_congr
    intro x hx
    rw [List.mem_range'_1] at hx
    rw [hd_grow_old g x (by omega) (by omega)]
  · have := hd_grow_new g
    rw [show 1 + 1 * u.length = u.length + 1 by omega]
    simp [this]
theorem cls_grow {u : List Nat} (g : Good u) {h : Nat} (hh : h ≤ u.length) : cls (u ++ [u.length + 1]) h = cls u h := by
  unfold cls
  rw [List.length_append, List.length_singleton, List.range'_concat, List.filter_append]
  have := hd_grow_new g
  rw [show 1 + 1 * u.length = u.length + 1 by omega]
  have e : List.filter (fun j => decide (hd (u ++ [u.length + 1]) j = h)) [u.length + 1] = [] := by
    simp [this]; omega
  rw [e, List.append_nil]
  apply List.filter_congr
  intro x hx
  rw [List.mem_range'_1] at hx
  rw [hd_grow_old g x (by omega) (by omega)]
theorem cls_grow_new {u : List Nat} (g : Good u) : cls (u ++ [u.length + 1]) (u.length + 1) = [u.length + 1] := by
  unfold cls
  rw [List.length_append, List.length_singleton, List.range'_concat, List.filter_append]
  have := hd_grow_new g
  rw [show 1 + 1 * u.length = u.length + 1 by omega]
  have e : List.filter (fun j => decide (hd (u ++ [u.length + 1]) j = u.length + 1)) (List.range' 1 u.length) = [] := by
    rw [List.filter_eq_nil_iff]
    intro x hx
    rw [List.mem_range'_1] at hx
    rw [hd_grow_old g x (by omega) (by omega)]
    have := (hd_spec g x (by omega) (by omega)).2.1
    simp; omega
  rw [e]
  simp [this]
theorem mem_heads {u : List Nat} {h : Nat} (hm : h ∈ heads u) : 1 ≤ h ∧ h ≤ u.length := by
  unfold heads at hm
  have := List.mem_range'_1.1 (List.mem_filter.1 hm).1
  omega
theorem classes_grow {u : List Nat} (g : Good u) : classes (u ++ [u.length + 1]) = classes u ++ [[u.length + 1]] := by
  unfold classes
  rw [heads_grow g, List.map_append]
  congr 1
  · apply List.map_congr_left
    intro h hm
    exact cls_grow g (mem_heads hm).2
  · simp [cls_grow_new g]
theorem classes_row_len {u : List Nat} {k : Nat} (hk : k < (classes u).length) : ((classes u).getD k []).length ≤ u.length := by
  have hx : (classes u).getD k [] ∈ classes u := by
    rw [List.getD_eq_getElem?_getD, List.getElem?_eq_getElem hk]
    exact List.getElem_mem _
  generalize (classes u).getD k [] = x at *
  unfold classes at hx
  rw [List.mem_map] at hx
  obtain ⟨hd, _, hx⟩ := hx
  subst hx
  unfold cls
  refine Nat.le_trans (List.length_filter_le _ _) ?_
  simp
end Uf
theorem growF_good {u : List Nat} (g : Uf.Good u) (k : Nat) : Uf.Good (growF u k) := by
  induction k with
  | zero => exact g
  | succ k ih => exact Uf.good_grow ih
theorem growF_classes {u : List Nat} (g : Uf.Good u) (k : Nat) : ∃ l, Uf.classes (growF u k) = Uf.classes u ++ l ∧ l.length = k := by
  induction k with
  | zero => exact ⟨[], by simp [growF], rfl⟩
  | succ k ih =>
    obtain ⟨l, h1, h2⟩ := ih
    refine ⟨l ++ [[(growF u k).length + 1]], ?_, by simp [h2]⟩
    rw [growF, Uf.classes_grow (growF_good g k), h1, List.append_assoc]
theorem growF_new {u : List Nat} (g : Uf.Good u) (k : Nat) : ∀ i, u.length < i → i ≤ u.length + k → Uf.hd (growF u k) i = i ∧ Uf.cls (growF u k) i = [i] := by
  induction k with
  | zero => intro i h1 h2; omega
  | succ k ih =>
    intro i h1 h2
    have gg := growF_good g k
    have hl := growF_length u k
    rw [growF]
    by_cases e : i = u.length + k + 1
    · have e' : i = (growF u k).length + 1 := by omega
      rw [e']
      exact ⟨Uf.hd_grow_new gg, Uf.cls_grow_new gg⟩
    · obtain ⟨a, b⟩ := ih i h1 (by omega)
      rw [Uf.hd_grow_old gg i (by omega) (by omega), Uf.cls_grow gg (by omega)]
      exact ⟨a, b⟩
end

section
open Go.RowKit
namespace Uf
theorem cls_sorted (u : List Nat) (h : Nat) : (cls u h).Pairwise (· < ·) := by
  unfold cls
  exact List.Pairwise.filter _ List.pairwise_lt_range'
theorem mem_cls {u : List Nat} {h x : Nat} : x ∈ cls u h ↔ (1 ≤ x ∧ x ≤ u.length) ∧ hd u x = h := by
  unfold cls
  rw [List.mem_filter, List.mem_range'_1, decide_eq_true_iff]
  constructor
  · rintro ⟨⟨a, b⟩, c⟩; exact ⟨⟨a, by omega⟩, c⟩
  · rintro ⟨⟨a, b⟩, c⟩; exact ⟨⟨a, by omega⟩, c⟩
/-- a class's first number is its head -/
theorem cls_first {u : List Nat} (g : Good u) {i : Nat} (h1 : 1 ≤ i) (h2 : i ≤ u.length) : ∃ r, cls u (hd u i) = hd u i :: r := by
  obtain ⟨a1, a2, a3⟩ := hd_spec g i h1 h2
  have hp : hd u i ∈ cls u (hd u i) := mem_cls.2 ⟨⟨a1, by omega⟩, hd_hd g h1 h2⟩
  have hs := cls_sorted u (hd u i)
  have hmin : ∀ x ∈ cls u (hd u i), hd u i ≤ x := by
    intro x hx
    obtain ⟨⟨b1, b2⟩, b3⟩ := mem_cls.1 hx
    have := (hd_spec g x b1 b2).2.1
    omega
  generalize hd u i = p at *
  rcases hc : cls u p with _ | ⟨y, r⟩
  · rw [hc] at hp; cases hp
  · rw [hc] at hp hs hmin
    have hy := hmin y (by simp)
    rcases List.mem_cons.1 hp with e | hm
    · exact ⟨r, by rw [e]⟩
    · have := (List.pairwise_cons.1 hs).1 p hm
      omega
theorem sorted_at {xs : List Nat} (h : xs.Pairwise (· < ·)) {k : Nat} (hk : k + 1 < xs.length) : xs.getD k 0 < xs.getD (k + 1) 0 := by
  rw [List.getD_eq_getElem?_getD, List.getD_eq_getElem?_getD, List.getElem?_eq_getElem hk, List.getElem?_eq_getElem (by omega)]
  exact List.pairwise_iff_getElem.1 h k (k + 1) (by omega) hk (by omega)
end Uf

theorem same_of {u xs : List Nat} {p : Nat} (h : ∀ x ∈ xs, (1 ≤ x ∧ x ≤ u.length) ∧ Uf.hd u x = p) : sameI u (xs.map Int.ofNat) = true := by
  rcases xs with _ | ⟨y, r⟩
  · rfl
  have h0 := h y (by simp)
  unfold sameI
  rw [List.all_eq_true]
  intro z hz
  rw [List.mem_map] at hz
  obtain ⟨x, hx, rfl⟩ := hz
  obtain ⟨h1, h2⟩ := h x hx
  have e1 : headI u (Int.ofNat x) = (p : Int) := by rw [← h2]; exact headI_nat h1
  have e0 : headI u ((List.map Int.ofNat (y :: r)).headD 0) = (p : Int) := by rw [← h0.2]; exact headI_nat h0.1
  rw [e0, e1]
  have : inU u (Int.ofNat x) = true := by simp [inU]; omega
  rw [this]
  simp
end

section
namespace Uf

theorem filter_less {l : List Nat} (hn : l.Nodup) {f : Nat → Bool} {q : Nat} (hq : q ∈ l) (hf : f q = true) : (l.filter fun i => f i && decide (i ≠ q)).length + 1 = (l.filter f).length := by
  induction l with
  | nil => cases hq
  | cons x l ih =>
    rw [List.nodup_cons] at hn
    by_cases e : x = q
    · subst e
      have h1 : (l.filter fun i => f i && decide (i ≠ x)) = l.filter f := by
        apply List.filter_congr
        intro y hy
        have : y ≠ x := fun e => hn.1 (e ▸ hy)
        simp [this]
      rw [List.filter_cons_of_pos hf, List.filter_cons_of_neg (by simp), h1]
      rfl
    · have hq' : q ∈ l := by
        rcases List.mem_cons.1 hq with h | h
        · exact absurd h.symm e
        · exact h
      have := ih hn.2 hq'
      by_cases hx : f x = true
      · rw [List.filter_cons_of_pos hx, List.filter_cons_of_pos (by simp [hx, e])]
        simp only [List.length_cons]
        omega
      · rw [List.filter_cons_of_neg hx, List.filter_cons_of_neg (by simp [hx])]
        exact this

theorem heads_step {u : List Nat} (g : Good u) {x y : Nat} (hx : 1 ≤ x ∧ x ≤ u.length) (hy : 1 ≤ y ∧ y ≤ u.length) : (heads (step u x y)).length + more u x y = (heads u).length := by
  unfold more
  by_cases e : hd u x = hd u y
  · rw [if_pos e]
    unfold step
    rw [if_pos e]
    rfl
  · rw [if_neg e]
    obtain ⟨a1, a2, a3⟩ := hd_spec g x hx.1 hx.2
    obtain ⟨b1, b2, b3⟩ := hd_spec g y hy.1 hy.2
    have ha := hd_hd g hx.1 hx.2
    have hb := hd_hd g hy.1 hy.2
    have hst := fun (i : Nat) h1 hl => hd_stepped g hx hy (i := i) h1 hl
    unfold heads
    rw [step_length]
    generalize hp : hd u x = p at *
    generalize hq : hd u y = q at *
    have hm : max p q ∈ List.range' 1 u.length := by rw [List.mem_range'_1]; omega
    have hf : decide (hd u (max p q) = max p q) = true := by
      rw [decide_eq_true_iff]
      rcases Nat.lt_or_ge p q with h | h
      · rw [Nat.max_eq_right (by omega)]; exact hb
      · rw [Nat.max_eq_left h]; exact ha
    have hfl := filter_less (f := fun i => decide (hd u i = i)) (List.nodup_range' (s := 1) (n := u.length) (step := 1)) hm hf
    rw [← hfl]
    congr 2
    apply List.filter_congr
    intro i hi
    rw [List.mem_range'_1] at hi
    rw [hst i (by omega) (by omega)]
    by_cases h1 : hd u i = p ∨ hd u i = q
    · rw [if_pos h1]
      rw [Bool.eq_iff_iff, Bool.and_eq_true, decide_eq_true_iff, decide_eq_true_iff, decide_eq_true_iff]
      constructor
      · intro h
        subst h
        refine ⟨?_, by omega⟩
        rcases Nat.lt_or_ge p q with h | h
        · rw [Nat.min_eq_left (by omega)]; exact ha
        · rw [Nat.min_eq_right h]; exact hb
      · rintro ⟨h, h2⟩
        omega
    · rw [if_neg h1]
      rw [Bool.eq_iff_iff, Bool.and_eq_true, decide_eq_true_iff, decide_eq_true_iff]
      constructor
      · intro h
        exact ⟨h, by omega⟩
      · exact fun h => h.1

/-- each number is in one class: the lengths add up -/
theorem sum_classes (H : List Nat) (hn : H.Nodup) (f : Nat → Nat) : ∀ (l : List Nat), (∀ j ∈ l, f j ∈ H) → (H.map fun h => (l.filter fun j => decide (f j = h)).length).sum = l.length
  | [], _ => by
    simp only [List.filter_nil, List.length_nil]
    induction H with
    | nil => rfl
    | cons h H ih => simp [ih (List.nodup_cons.1 hn).2]
  | j :: l, hm => by
    have ih := sum_classes H hn f l (fun k hk => hm k (by simp [hk]))
    have hj := hm j (by simp)
    have key : ∀ (H : List Nat), H.Nodup → (H.map fun h => ((j :: l).filter fun j => decide (f j = h)).length).sum = (H.map fun h => (l.filter fun j => decide (f j = h)).length).sum + if f j ∈ H then 1 else 0 := by
      intro H
      induction H with
      | nil => intro _; rfl
      | cons h H ihH =>
        intro hn
        have hn' := List.nodup_cons.1 hn
        have := ihH hn'.2
        simp only [List.map_cons, List.sum_cons]
        rw [this]
        by_cases e : f j = h
        · have hnm : ¬ f j ∈ H := by rw [e]; exact hn'.1
          rw [List.filter_cons_of_pos (by simp [e]), if_neg hnm, if_pos (by simp [e])]
          simp only [List.length_cons]
          omega
        · rw [List.filter_cons_of_neg (by simp [e])]
          by_cases hm : f j ∈ H
          · rw [if_pos hm, if_pos (by simp [hm])]; omega
          · rw [if_neg hm, if_neg (by simp [hm, e])]; omega
    rw [key H hn, ih, if_pos hj]
    rfl
theorem sum_lengths {u : List Nat} (g : Good u) : ((classes u).map List.length).sum = u.length := by
  unfold classes cls
  rw [List.map_map]
  have := sum_classes (heads u) (by unfold heads; exact List.Pairwise.filter _ List.nodup_range') (hd u) (List.range' 1 u.length) (by
    intro j hj
    rw [List.mem_range'_1] at hj
    obtain ⟨a1, a2, a3⟩ := hd_spec g j (by omega) (by omega)
    unfold heads
    rw [List.mem_filter, List.mem_range'_1, decide_eq_true_iff]
    exact ⟨⟨a1, by omega⟩, hd_hd g (by omega) (by omega)⟩)
  rw [List.length_range'] at this
  exact this

/-- the same heads: the same classes -/
theorem classes_congr {u v : List Nat} (hl : u.length = v.length) (h : ∀ i, 1 ≤ i → i ≤ u.length → hd u i = hd v i) : classes u = classes v := by
  have hh : heads u = heads v := by
    unfold heads
    rw [hl]
    apply List.filter_congr
    intro i hi
    rw [List.mem_range'_1] at hi
    rw [h i (by omega) (by omega)]
  unfold classes
  rw [hh]
  apply List.map_congr_left
  intro x _
  unfold cls
  rw [hl]
  apply List.filter_congr
  intro i hi
  rw [List.mem_range'_1] at hi
  rw [h i (by omega) (by omega)]
end Uf
end

section
namespace Uf

/-- the first k pairs of a list -/
def prs (xs : List Nat) (k : Nat) : List (Nat × Nat) := (List.range k).map fun t => (xs.getD (2 * t) 0, xs.getD (2 * t + 1) 0)
/-- the last d pairs of the first h, from the back, turned -/
def qrs (xs : List Nat) (h d : Nat) : List (Nat × Nat) := (List.range d).map fun s => (xs.getD (2 * (h - 1 - s) + 1) 0, xs.getD (2 * (h - 1 - s)) 0)
theorem prs_succ (xs : List Nat) (k : Nat) : prs xs (k + 1) = prs xs k ++ [(xs.getD (2 * k) 0, xs.getD (2 * k + 1) 0)] := by simp [prs, List.range_succ]
theorem qrs_succ (xs : List Nat) (h d : Nat) : qrs xs h (d + 1) = qrs xs h d ++ [(xs.getD (2 * (h - 1 - d) + 1) 0, xs.getD (2 * (h - 1 - d)) 0)] := by simp [qrs, List.range_succ]
theorem joins_snoc (u : List Nat) (ps : List (Nat × Nat)) (p : Nat × Nat) : joins u (ps ++ [p]) = step (joins u ps) p.1 p.2 := by simp [joins, List.foldl_append]
theorem getD_in {n : Nat} {xs : List Nat} (h : ∀ x ∈ xs, 1 ≤ x ∧ x ≤ n) {k : Nat} (hk : k < xs.length) : 1 ≤ xs.getD k 0 ∧ xs.getD k 0 ≤ n := by
  rw [List.getD_eq_getElem?_getD, List.getElem?_eq_getElem hk]
  exact h _ (List.getElem_mem _)
theorem prs_in {n : Nat} {xs : List Nat} (h : ∀ x ∈ xs, 1 ≤ x ∧ x ≤ n) {k : Nat} (hk : 2 * k ≤ xs.length) : InR n (prs xs k) := by
  intro p hp
  unfold prs at hp
  rw [List.mem_map] at hp
  obtain ⟨t, ht, rfl⟩ := hp
  rw [List.mem_range] at ht
  exact ⟨getD_in h (by omega), getD_in h (by omega)⟩
theorem qrs_in {n : Nat} {xs : List Nat} (h : ∀ x ∈ xs, 1 ≤ x ∧ x ≤ n) {m d : Nat} (hm : 2 * m ≤ xs.length) (hd : d ≤ m) : InR n (qrs xs m d) := by
  intro p hp
  unfold qrs at hp
  rw [List.mem_map] at hp
  obtain ⟨t, ht, rfl⟩ := hp
  rw [List.mem_range] at ht
  exact ⟨getD_in h (by omega), getD_in h (by omega)⟩
theorem prs_qrs {xs : List Nat} {m x y : Nat} : (x, y) ∈ prs xs m ↔ (y, x) ∈ qrs xs m m := by
  unfold prs qrs
  rw [List.mem_map, List.mem_map]
  constructor
  · rintro ⟨t, ht, e⟩
    rw [List.mem_range] at ht
    injection e with e1 e2
    refine ⟨m - 1 - t, List.mem_range.2 (by omega), ?_⟩
    have : m - 1 - (m - 1 - t) = t := by omega
    rw [this, e1, e2]
  · rintro ⟨s, hs, e⟩
    rw [List.mem_range] at hs
    injection e with e1 e2
    exact ⟨m - 1 - s, List.mem_range.2 (by omega), by rw [e1, e2]⟩
theorem classes_back {n : Nat} {xs : List Nat} (h : ∀ x ∈ xs, 1 ≤ x ∧ x ≤ n) {m : Nat} (hm : 2 * m ≤ xs.length) : classes (joins (fresh n) (prs xs m)) = classes (joins (fresh n) (qrs xs m m)) := by
  have g1 : Good (joins (fresh n) (prs xs m)) := good_joins (fresh_good n) (by rw [fresh_length]; exact prs_in h hm)
  have g2 : Good (joins (fresh n) (qrs xs m m)) := good_joins (fresh_good n) (by rw [fresh_length]; exact qrs_in h hm (Nat.le_refl _))
  have hl : (joins (fresh n) (prs xs m)).length = (joins (fresh n) (qrs xs m m)).length := by rw [joins_length, joins_length]
  refine classes_congr hl fun i h1 h2 => hd_unique g1 g2 hl (fun i j => ?_) h1 h2
  rw [E_joins (fresh_good n) (by rw [fresh_length]; exact prs_in h hm), E_joins (fresh_good n) (by rw [fresh_length]; exact qrs_in h hm (Nat.le_refl _))]
  constructor
  · exact Con.same fun x y hxy => .inr (prs_qrs.1 hxy)
  · exact Con.same fun x y hxy => .inr (prs_qrs.2 hxy)

theorem heads_fresh (n : Nat) : (heads (fresh n)).length = n := by
  unfold heads
  rw [List.filter_eq_self.2 ?_, fresh_length, List.length_range']
  intro i hi
  rw [fresh_length, List.mem_range'_1] at hi
  rw [fresh_hd n i (by omega) (by omega)]
  simp

theorem heads_sorted (u : List Nat) : (heads u).Pairwise (· < ·) := by
  unfold heads
  exact List.Pairwise.filter _ List.pairwise_lt_range'
theorem hd_of_heads {u : List Nat} {h : Nat} (hm : h ∈ heads u) : hd u h = h := by
  unfold heads at hm
  simpa using (List.mem_filter.1 hm).2
/-- the k-th class: its numbers, and its first one -/
theorem class_at {u : List Nat} (g : Good u) {k : Nat} (hk : k < (classes u).length) :
    ∃ p r, (classes u).getD k [] = p :: r ∧ (1 ≤ p ∧ p ≤ u.length) ∧ hd u p = p ∧ (heads u).getD k 0 = p ∧ ∀ x ∈ p :: r, (1 ≤ x ∧ x ≤ u.length) ∧ hd u x = p := by
  have hk' : k < (heads u).length := by simpa [classes] using hk
  have e : (classes u).getD k [] = cls u (heads u)[k] := by
    rw [List.getD_eq_getElem?_getD, List.getElem?_eq_getElem hk]
    simp [classes]
  have hm : (heads u)[k] ∈ heads u := List.getElem_mem _
  have e2 : (heads u).getD k 0 = (heads u)[k] := by rw [List.getD_eq_getElem?_getD, List.getElem?_eq_getElem hk']; rfl
  rw [e, e2]
  generalize (heads u)[k] = p at *
  have hb : 1 ≤ p ∧ p ≤ u.length := by
    unfold heads at hm
    have := List.mem_range'_1.1 (List.mem_filter.1 hm).1
    omega
  have hp := hd_of_heads hm
  obtain ⟨r, hr⟩ := cls_first g hb.1 hb.2
  rw [hp] at hr
  refine ⟨p, r, hr, hb, hp, rfl, ?_⟩
  intro x hx
  rw [← hr] at hx
  exact mem_cls.1 hx
theorem heads_ne {u : List Nat} {k : Nat} (hk : k + 1 < (heads u).length) : (heads u).getD k 0 < (heads u).getD (k + 1) 0 := sorted_at (heads_sorted u) hk
theorem classes_length (u : List Nat) : (classes u).length = (heads u).length := by simp [classes]
/-- the lengths of the first k classes, added up -/
def cnt (u : List Nat) (k : Nat) : Nat := (((classes u).take k).map List.length).sum
theorem cnt_succ {u : List Nat} {k : Nat} (hk : k < (classes u).length) : cnt u (k + 1) = cnt u k + ((classes u).getD k []).length := by
  unfold cnt
  rw [List.take_succ_eq_append_getElem hk, List.map_append, List.sum_append, List.getD_eq_getElem?_getD, List.getElem?_eq_getElem hk]
  simp
theorem cnt_all {u : List Nat} (g : Good u) : cnt u (classes u).length = u.length := by
  unfold cnt
  rw [List.take_length]
  exact sum_lengths g
theorem cnt_le {u : List Nat} (g : Good u) : ∀ k, k ≤ (classes u).length → cnt u k ≤ u.length := by
  intro k hk
  obtain ⟨d, hd⟩ : ∃ d, k + d = (classes u).length := ⟨_, Nat.add_sub_cancel' hk⟩
  induction d generalizing k with
  | zero => have := cnt_all g; simp at hd; rw [hd, this]; exact Nat.le_refl _
  | succ d ih =>
    have h1 := cnt_succ (u := u) (k := k) (by omega)
    have h2 := ih (k + 1) (by omega) (by omega)
    omega
end Uf

open Go.RowKit
/-- one pair joined, as the call has it -/
theorem joinU_pair {u : List Nat} {x y : Nat} : joinU u x [x, y] = Uf.step u x y := by
  have : Uf.step u x x = u := by unfold Uf.step; rw [if_pos rfl]
  simp [joinU, this]
theorem joinC_pair {u : List Nat} {x y : Nat} : joinC u x [x, y] = Uf.more u x y := by
  have e1 : Uf.step u x x = u := by unfold Uf.step; rw [if_pos rfl]
  have e2 : Uf.more u x x = 0 := by unfold Uf.more; rw [if_pos rfl]
  simp [joinC, e1, e2]
theorem sameI_apart {u : List Nat} {x h p : Nat} (hx : 1 ≤ x ∧ x ≤ u.length) (hp : Uf.hd u x = p) (hh : 1 ≤ h ∧ h ≤ u.length) (hhh : Uf.hd u h = h) (hne : h ≠ p) : sameI u [(x : Int), (h : Int)] = false := by
  unfold sameI
  have e1 := headI_nat hx
  have e2 := headI_nat hh
  rw [hp] at e1
  rw [hhh] at e2
  simp [e1, e2]
  intro _ _
  omega
end
end Go.Proofs.YtedfbdeklepekaaGreat
