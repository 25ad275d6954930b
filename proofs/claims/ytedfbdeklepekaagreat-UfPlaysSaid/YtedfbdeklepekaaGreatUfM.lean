/-
  uf and complinebook: calls at classes at large, as the law of every call needs them.
-/
import Derived.Test.YtedfbdeklepekaaGreatUfL
import Derived.Test.YtedfbdeklepekaaGreatRfI
import Derived.Test.YtedfbdeklepekaaGreatLentI
namespace Go.Proofs.YtedfbdeklepekaaGreat
open Go Go.RowKit
/-- what a join answers: how many fewer classes, the error, the classes -/
def joinK (u : List Nat) (xs : List Int) : Int × Int × List Nat := if xs.all (fun x => inU u x) = true then ((joinN u (xs.map Int.toNat) : Int), 0, joinV u (xs.map Int.toNat)) else (0, 3, u)
theorem joinV_length (u ys : List Nat) : (joinV u ys).length = u.length := by
  cases ys with
  | nil => rfl
  | cons a r => rw [joinV_cons]; exact joinU_length _ _ _
theorem joinV_good {u ys : List Nat} (g : Uf.Good u) (h : InN u ys) : Uf.Good (joinV u ys) := by
  cases ys with
  | nil => exact g
  | cons a r => rw [joinV_cons]; exact joinU_good g (h a (List.mem_cons_self ..)) r (fun x hx => h x (List.mem_cons_of_mem _ hx))
theorem inN_of {u : List Nat} {xs : List Int} (h : xs.all (fun x => inU u x) = true) : InN u (xs.map Int.toNat) ∧ xs = (xs.map Int.toNat).map Int.ofNat := by
  have h1 : ∀ x ∈ xs, inU u x = true := fun x hx => List.all_eq_true.1 h x hx
  refine ⟨fun y hy => ?_, ?_⟩
  · obtain ⟨x, hx, rfl⟩ := List.mem_map.1 hy
    obtain ⟨k, e, hk⟩ := inU_true (h1 x hx)
    omega
  · rw [List.map_map]
    conv => lhs; rw [← List.map_id xs]
    refine List.map_congr_left fun x hx => ?_
    obtain ⟨k, e, hk⟩ := inU_true (h1 x hx)
    show x = Int.ofNat x.toNat
    rw [e]; rfl
theorem joinK_length (u : List Nat) (xs : List Int) : (joinK u xs).2.2.length = u.length := by
  unfold joinK
  split
  · exact joinV_length _ _
  · rfl
theorem joinK_good {u : List Nat} (xs : List Int) (g : Uf.Good u) : Uf.Good (joinK u xs).2.2 := by
  unfold joinK
  split
  · rename_i h
    exact joinV_good g (inN_of h).1
  · exact g
theorem not_all {u : List Nat} {xs : List Int} (h : ¬ xs.all (fun x => inU u x) = true) : ∃ x ∈ xs, inU u x = false := by
  rw [Bool.not_eq_true, List.all_eq_false] at h
  obtain ⟨x, hx, h1⟩ := h
  exact ⟨x, hx, by simpa using h1⟩
theorem kept_of_keeps {q : UfQ} {w w' : World} (h : Keeps [q.b, q.g] w w') : Kept q.has w w' := h.kept.mono fun y hy => .inl (by
  simp only [List.mem_cons, List.not_mem_nil, or_false] at hy
  exact hy)
theorem joinQ_any (q : UfQ) (u : List Nat) (L : Option Addr) (n cl B : Nat) (xs : List Int) (w : World) (h : UfV q u w) (hg : Uf.Good u) (hu : u.length ≤ 1000) (hr : Reads w B 1 L n (ints xs)) (hB : B ≤ w.heap.size) (hL : ∀ ad, L = some ad → ¬ q.has ad.block) (hn : n ≤ 1000000) :
    Calls Tryz.prog 10 #[.pointer (some ⟨q.b, 0, none⟩), .slice L n cl] w fun e w' => e = .returned (.tuple #[.int .i64 (joinK u xs).1, .int .i64 (joinK u xs).2.1]) ∧ UfV q (joinK u xs).2.2 w' ∧ Kept q.has w w' := by
  unfold joinK
  by_cases hall : xs.all (fun x => inU u x) = true
  · obtain ⟨hin, e⟩ := inN_of hall
    rw [if_pos hall]
    generalize xs.map Int.toNat = ys at *
    subst e
    cases ys with
    | nil =>
      have hl := hr.1
      rw [ints_length] at hl
      simp at hl
      subst hl
      refine (join_zero q.b q.A q.c u L cl w (UfAt.rd h)).mono ?_
      rintro e w' ⟨rfl, rfl⟩
      exact ⟨rfl, h, Kept.refl _ _⟩
    | cons a r =>
      rw [← nats_ints] at hr
      refine (join_in q.b q.g u q.A q.c L n cl B a (a :: r) w h hg hu hr hB (fun ad e _ => ⟨fun h1 => hL ad e (.inl h1), fun h1 => hL ad e (.inr h1)⟩) hin rfl hn).mono ?_
      rintro e w' ⟨rfl, h1, h2⟩
      refine ⟨rfl, ?_, kept_of_keeps h2⟩
      have h3 : UfAt w' q.b q.g (joinV u (a :: r)) q.A q.c := h1
      exact h3
  · rw [if_neg hall]
    refine (join_out q.b q.g u q.A q.c L n cl B xs w h hr (not_all hall) hn).mono ?_
    rintro e w' ⟨rfl, rfl⟩
    exact ⟨rfl, h, Kept.refl _ _⟩
theorem join12_any (q : RfP) (u : List Nat) (L : Option Addr) (n cl B : Nat) (xs : List Int) (w : World) (h : RfV q u w) (hg : Uf.Good u) (hu : u.length ≤ 1000) (hr : Reads w B 1 L n (ints xs)) (hB : B ≤ w.heap.size) (hL : ∀ ad, L = some ad → 0 < n → ad.block ≠ q.b) (hn : n ≤ 1000000) :
    Calls Tryz.prog 11 #[.pointer (some ⟨q.b, 0, none⟩), .slice L n cl] w fun e w' => e = .returned (.tuple #[.int .i64 (joinK u xs).1, .int .i64 (joinK u xs).2.1]) ∧ RfS w q (joinK u xs).2.2 w' := by
  unfold joinK
  by_cases hall : xs.all (fun x => inU u x) = true
  · obtain ⟨hin, e⟩ := inN_of hall
    rw [if_pos hall]
    generalize xs.map Int.toNat = ys at *
    subst e
    exact join12_in q u L n cl B ys w h hg hu hr hB hL hn hin
  · rw [if_neg hall]
    refine (join12_out q u L n cl B xs w h hr hB hn (not_all hall)).mono ?_
    rintro e w' ⟨rfl, hb⟩
    exact ⟨rfl, q.A, q.c, h.below hb, Kept.of_below _ hb, fun a ha => .inl ha⟩
theorem joinQ_eq (q : UfQ) (u : List Nat) (L : Option Addr) (n cl B : Nat) (xs : List Int) (kk ee : Int) (u2 : List Nat) (w : World) (h : UfV q u w) (hg : Uf.Good u) (hu : u.length ≤ 1000) (hr : Reads w B 1 L n (ints xs)) (hB : B ≤ w.heap.size) (hL : ∀ ad, L = some ad → ¬ q.has ad.block) (hn : n ≤ 1000000) (hj : joinK u xs = (kk, ee, u2)) :
    Calls Tryz.prog 10 #[.pointer (some ⟨q.b, 0, none⟩), .slice L n cl] w fun e w' => e = .returned (.tuple #[.int .i64 kk, .int .i64 ee]) ∧ UfV q u2 w' ∧ Kept q.has w w' := by
  have h1 := joinQ_any q u L n cl B xs w h hg hu hr hB hL hn
  rw [hj] at h1
  exact h1
theorem join12_eq (q : RfP) (u : List Nat) (L : Option Addr) (n cl B : Nat) (xs : List Int) (kk ee : Int) (u2 : List Nat) (w : World) (h : RfV q u w) (hg : Uf.Good u) (hu : u.length ≤ 1000) (hr : Reads w B 1 L n (ints xs)) (hB : B ≤ w.heap.size) (hL : ∀ ad, L = some ad → 0 < n → ad.block ≠ q.b) (hn : n ≤ 1000000) (hj : joinK u xs = (kk, ee, u2)) :
    Calls Tryz.prog 11 #[.pointer (some ⟨q.b, 0, none⟩), .slice L n cl] w fun e w' => e = .returned (.tuple #[.int .i64 kk, .int .i64 ee]) ∧ RfS w q u2 w' := by
  have h1 := join12_any q u L n cl B xs w h hg hu hr hB hL hn
  rw [hj] at h1
  exact h1
theorem sameQ_eq (q : UfQ) (u : List Nat) (L : Option Addr) (n cl B : Nat) (xs : List Int) (v : Bool) (w : World) (h : UfV q u w) (hg : Uf.Good u) (hu : u.length ≤ 1000) (hr : Reads w B 1 L n (ints xs)) (hn : n ≤ 1000000) (hv : sameI u xs = v) :
    Calls Tryz.prog 21 #[.pointer (some ⟨q.b, 0, none⟩), .slice L n cl] w fun e w' => e = .returned (.bool v) ∧ Below w.heap.size w w' := by
  subst hv
  refine (same_any q.b q.A q.c u L n cl B xs w (UfAt.rd h) hg (by omega) hr hn).mono ?_
  rintro e w' ⟨rfl, m, rfl⟩
  exact ⟨rfl, below_drewN (Below.refl _ _) m⟩
theorem lenQ_any (q : UfQ) (u : List Nat) (w : World) (h : UfV q u w) :
    Calls Tryz.prog 23 #[.pointer (some ⟨q.b, 0, none⟩)] w fun e w' => e = .returned (.int .i64 (u.length : Int)) ∧ Below w.heap.size w w' := by
  refine (len_any q.b q.A q.c u w (UfAt.rd h)).mono ?_
  rintro e w' ⟨rfl, rfl⟩
  exact ⟨rfl, Below.refl _ _⟩
theorem growQ_in (q : UfQ) (u : List Nat) (n : Nat) (w : World) (h : UfV q u w) (h1 : u.length ≤ n) (h2 : n ≤ 1000) :
    Calls Tryz.prog 13 #[.pointer (some ⟨q.b, 0, none⟩), .int .i64 n] w fun e w' => e = .returned (.int .i64 0) ∧ ∃ q' : UfQ, q'.b = q.b ∧ UfV q' (growF u (n - u.length)) w' ∧ Kept q.has w w' ∧ ∀ y, q'.has y → q.has y ∨ w.heap.size ≤ y := by
  refine (grow_in q.b q.g u q.A q.c n w h h1 h2).mono ?_
  rintro e w' ⟨rfl, g', A, c, h3, h4, h5⟩
  refine ⟨rfl, ⟨q.b, g', A, c⟩, rfl, h3, kept_of_keeps h4, fun y hy => ?_⟩
  rcases hy with rfl | rfl
  · exact .inl (.inl rfl)
  · exact h5.imp (fun e => .inr e) id
theorem stays_eq (g : Nat) (A : Option Addr) (n cap c B B' : Nat) (xs : List Int) (w : World) (h : Lent w B g n cap xs) (h' : Reads w B' 1 A n (ints xs)) (hn : n ≤ 100000) :
    Calls Tryz.prog 12 #[.slice (some ⟨g, 0, none⟩) n cap, .slice A n c] w fun e w' => e = .returned (.bool true) ∧ Below w.heap.size w w' := by
  refine (stays_any g A n cap c B xs w h B' h' hn).mono ?_
  rintro e w' ⟨rfl, m, rfl⟩
  exact ⟨rfl, below_drewN (Below.refl _ _) m⟩
theorem Lent.kept {w w' : World} {B g n cap : Nat} {xs : List Int} {S : Nat → Prop} (h : Lent w B g n cap xs) (hk : Kept S w w') (hn : ¬ S g) : Lent w' B g n cap xs := ⟨own_kept h.own hk (fun y hy => by injection hy with hy; have hy : g = y := hy; rw [← hy]; exact hn), h.len, h.room⟩
theorem Lent.same {B g n cap : Nat} {xs : List Int} : ∀ (w1 w2 : World) (S' : Nat → Prop), Lent w1 B g n cap xs → (∀ x, x = g → x < w1.heap.size) → Kept S' w1 w2 → (∀ x, x = g → ¬ S' x) → Lent w2 B g n cap xs := fun _ _ _ h _ hk hn => h.kept hk (hn g rfl)
attribute [local irreducible] run goO leaveK someK nextK nextT nextOT nextOD loopBody loopRest loopK fillJ tmplOf tmplJ mergeT At AtO drawOk ordOf gateOf callC callO topOp topO idxOf appOf storeOf clearOf sliceOf calleeOf calleeO topQ idxQ newRowOf resL stepOp seek
set_option maxRecDepth 100000 in
set_option maxHeartbeats 4000000 in
theorem growQ_out (q : UfQ) (u : List Nat) (n : Int) (w : World) (h : UfV q u w) (hn : n < u.length ∨ 1000 < n) :
    Calls Tryz.prog 13 #[.pointer (some ⟨q.b, 0, none⟩), .int .i64 n] w fun e w' => e = .returned (.int .i64 1) ∧ Below w.heap.size w w' := by
  obtain ⟨ρ, e0, hR⟩ := blk_open (cs := [.slice q.A u.length q.c]) h.blk false [] (by simp) (by kernel_rfl)
  refine sim_enter Tryz.func13 ρ [.ptr 0 0, LI n] [⟨[.v (.slice q.A u.length q.c)], false⟩] (by kernel_rfl) (by simp only [denL, LV.den, Nm.at_, e0]) ?_
  by_cases h1 : n < u.length
  · refine sim_run 19 [] (hR.cast (by kernel_rfl)) (by kernel_rfl) trivial (fun ρ100 w100 hm100 hR100 => ?_)
    refine sim_know 16 (decide (n < (↑u.length : Int))) true (by kernel_rfl) (decide_eq_true (by omega)) ?_
    refine sim_run 9 [] (hR100.cast (by kernel_rfl)) (by kernel_rfl) trivial (fun ρ101 w101 hm101 hR101 => ?_)
    refine sim_ret (LI 1) hR101 (by kernel_rfl) (by kernel_rfl) ?_
    exact ⟨rfl, hR101.toBelow⟩
    
  · have h2 := hn.resolve_left h1
    refine sim_run 19 [] (hR.cast (by kernel_rfl)) (by kernel_rfl) trivial (fun ρ200 w200 hm200 hR200 => ?_)
    refine sim_know 16 (decide (n < (↑u.length : Int))) false (by kernel_rfl) (decide_eq_false (by omega)) ?_
    refine sim_run 4 [] (hR200.cast (by kernel_rfl)) (by kernel_rfl) trivial (fun ρ201 w201 hm201 hR201 => ?_)
    refine sim_know 19 (decide (n > 1000)) true (by kernel_rfl) (decide_eq_true (by omega)) ?_
    refine sim_run 5 [] (hR201.cast (by kernel_rfl)) (by kernel_rfl) trivial (fun ρ202 w202 hm202 hR202 => ?_)
    refine sim_ret (LI 1) hR202 (by kernel_rfl) (by kernel_rfl) ?_
    exact ⟨rfl, hR202.toBelow⟩
    
end Go.Proofs.YtedfbdeklepekaaGreat
