/-
  A join and a test of numbers written out in a new block.
-/
import Derived.Test.YtedfbdeklepekaaGreatUfAF
import Derived.Test.YtedfbdeklepekaaGreatSameI
namespace Go.Proofs.YtedfbdeklepekaaGreat
set_option maxRecDepth 100000
open Go.RowKit

theorem reads_blk {w : World} {g : Nat} {t : TypeId} {cs : Array Value} {xs : List Value} {n : Nat} (h : Blk w g t cs) (hx : cs.toList = xs) (hn : xs.length = n) : Reads w w.heap.size 1 (some ⟨g, 0, none⟩) n xs := by
  refine ⟨by omega, fun _ => ⟨_, rfl, h.lt, fun j u hj => ?_⟩⟩
  have e : (⟨g, 0, none⟩ : Addr).add j = ⟨g, j, none⟩ := by unfold Addr.add; by_cases hi : j = 0 <;> simp [hi]
  rw [e, h.cell, ← hj, ← hx]
  simp
theorem reads_new (w : World) (t : TypeId) (cs : Array Value) {xs : List Value} {n : Nat} (hx : cs.toList = xs) (hn : xs.length = n) : Reads (w.alloc (.cells cs t)) (w.heap.size + 1) 1 (some ⟨w.heap.size, 0, none⟩) n xs := by
  have := reads_blk (Blk.new w t cs) hx hn
  simpa using this
theorem UfAt.alloc {w : World} {b g : Nat} {u : List Nat} {A : Option Addr} {c : Nat} (h : UfAt w b g u A c) (o : Obj) : UfAt (w.alloc o) b g u A c :=
  h.keeps ((Keeps.refl [] w).alloc o) (by simp) (by simp)
theorem UfAt.below {w w' : World} {b g : Nat} {u : List Nat} {A : Option Addr} {c : Nat} (h : UfAt w b g u A c) (hb : Below w.heap.size w w') : UfAt w' b g u A c :=
  h.keeps (Keeps.of_below hb []) (by simp) (by simp)

/-- a join of numbers written out in a new block -/
theorem join_new (b g : Nat) (u v : List Nat) (A : Option Addr) (c : Nat) (x0 : Nat) (xs : List Nat) (n k : Nat) (w : World) (cs : Array Value) (h : UfAt w b g u A c) (hgood : Uf.Good u) (hbig : u.length ≤ 1000)
    (hcs : cs.toList = nats xs) (hn : xs.length = n) (hin : InN u xs) (h0 : xs.head? = some x0) (hn0 : n ≤ 1000000) (hv : joinU u x0 xs = v) (hk : joinC u x0 xs = k) :
    Calls Tryz.prog 10 #[.pointer (some ⟨b, 0, none⟩), .slice (some ⟨w.heap.size, 0, none⟩) n n] (w.alloc (.cells cs 3)) (JoinN (w.alloc (.cells cs 3)) b g v A c k) := by
  subst hv hk
  have hlt := h.lt
  exact join_in b g u A c _ n n (w.heap.size + 1) x0 xs _ (h.alloc _) hgood hbig (reads_new w _ cs hcs (by rw [nats_length, hn])) (by simp) (by intro ad e _; injection e with e; subst e; simp; omega) hin h0 hn0

/-- a test of numbers written out in a new block -/
theorem same_new (b g : Nat) (u : List Nat) (A : Option Addr) (c : Nat) (xs : List Int) (n : Nat) (v : Bool) (w : World) (cs : Array Value) (h : UfAt w b g u A c) (hgood : Uf.Good u) (hbig : u.length ≤ 1000)
    (hcs : cs.toList = ints xs) (hn : xs.length = n) (hn0 : n ≤ 1000000) (hv : sameI u xs = v) :
    Calls Tryz.prog 21 #[.pointer (some ⟨b, 0, none⟩), .slice (some ⟨w.heap.size, 0, none⟩) n n] (w.alloc (.cells cs 3)) fun e w' => e = .returned (.bool v) ∧ UfAt w' b g u A c ∧ Below w.heap.size w w' := by
  subst hv
  refine (same_any b A c u _ n n (w.heap.size + 1) xs _ (h.alloc _).rd hgood (by omega) (reads_new w _ cs hcs (by simp [ints, hn])) hn0).mono ?_
  rintro en w' ⟨rfl, m, rfl⟩
  refine ⟨rfl, (h.alloc _).keeps ((Keeps.refl [] _).drewN m) (by simp) (by simp), ?_⟩
  exact (((Keeps.refl [] w).alloc _).drewN m).below (by simp) (Nat.le_refl _)
end Go.Proofs.YtedfbdeklepekaaGreat
