/-
  Worlds of which only named old blocks have turned: over any program.
-/
import Derived.Test.YtioehmngkoffaaaWords
namespace Go.Proofs.Ytioehmngkoffaaa
open Go.RowKit

/-- Of the blocks that were there only those of T may have turned. -/
structure Keeps (T : List Nat) (w w' : World) : Prop where
  os : w'.os = w.os
  tape : w'.tape = w.tape
  output : w'.output = w.output
  size : w.heap.size ≤ w'.heap.size
  block : ∀ k, k < w.heap.size → k ∉ T → w'.heap[k]? = w.heap[k]?

section
variable {T T' : List Nat} {w w' w'' : World}
theorem Keeps.refl (T : List Nat) (w : World) : Keeps T w w := ⟨rfl, rfl, rfl, Nat.le_refl _, fun _ _ _ => rfl⟩
/-- two steps: what the second one may turn was the first one's, or is new -/
theorem Keeps.trans (h : Keeps T w w') (k : Keeps T' w' w'') (hT : ∀ x ∈ T', x ∈ T ∨ w.heap.size ≤ x) : Keeps T w w'' :=
  ⟨k.os.trans h.os, k.tape.trans h.tape, k.output.trans h.output, Nat.le_trans h.size k.size, fun i hi hn =>
    (k.block i (Nat.lt_of_lt_of_le hi h.size) (fun hm => (hT i hm).elim hn (fun hx => by omega))).trans (h.block i hi hn)⟩
theorem Keeps.mono (h : Keeps T w w') (hT : ∀ x ∈ T, x ∈ T' ∨ w.heap.size ≤ x) : Keeps T' w w' :=
  ⟨h.os, h.tape, h.output, h.size, fun k hk hn => h.block k hk (fun hm => (hT k hm).elim hn (fun hx => by omega))⟩
theorem Keeps.of_below (h : Below w.heap.size w w') (T : List Nat) : Keeps T w w' := ⟨h.os, h.tape, h.output, h.size, fun k hk _ => h.block k hk⟩
theorem Keeps.below {B : Nat} (h : Keeps T w w') (hT : ∀ x ∈ T, B ≤ x) (hB : B ≤ w.heap.size) : Below B w w' :=
  ⟨h.os, h.tape, h.output, h.size, fun k hk => h.block k (by omega) (fun hm => by have := hT k hm; omega)⟩
theorem Keeps.alloc (h : Keeps T w w') (o : Obj) : Keeps T w (w'.alloc o) :=
  ⟨h.os, h.tape, h.output, Nat.le_trans h.size (by simp), fun k hk hn => (Below.heap_alloc w' o k (Nat.lt_of_lt_of_le hk h.size)).trans (h.block k hk hn)⟩
theorem Keeps.drewN (h : Keeps T w w') (n : Nat) : Keeps T w (w'.drewN n) := ⟨h.os, h.tape, h.output, h.size, h.block⟩
theorem Keeps.drew (h : Keeps T w w') : Keeps T w w'.drew := ⟨h.os, h.tape, h.output, h.size, h.block⟩
theorem Keeps.setCell (h : Keeps T w w') {p : Addr} (hp : p.block ∈ T ∨ w.heap.size ≤ p.block) (u : Value) : Keeps T w (w'.setCell p u) :=
  ⟨h.os, h.tape, h.output, by simpa [World.setCell] using h.size, fun k hk hn => (Below.heap_setCell w' p u k (by
    rintro rfl
    rcases hp with hp | hp
    · exact hn hp
    · omega)).trans (h.block k hk hn)⟩
theorem Keeps.grown {row : Option Nat} (h : Keeps T w w') (hg : w'.grownBy w'' row) (hr : ∀ k, row = some k → k ∈ T ∨ w.heap.size ≤ k) : Keeps T w w'' :=
  ⟨hg.os.trans h.os, hg.tape.trans h.tape, hg.output.trans h.output, Nat.le_trans h.size hg.size, fun k hk hn =>
    (hg.block k (Nat.lt_of_lt_of_le hk h.size) (fun e => (hr k e.symm).elim hn (fun hx => by omega))).trans (h.block k hk hn)⟩
theorem Blk.keeps {g : Nat} {t : TypeId} {cs : Array Value} (h : Blk w g t cs) (hk : Keeps T w w') (hg : g ∉ T) : Blk w' g t cs := (hk.block g h.lt hg).trans h
theorem Reads.keeps {B size n : Nat} {A : Option Addr} {xs : List Value} (h : Reads w B size A n xs) (hk : Keeps T w w') (hB : B ≤ w.heap.size) (hT : ∀ x ∈ T, B ≤ x) : Reads w' B size A n xs :=
  h.below (hk.below hT hB)
theorem Reads.keepsFar {B size n : Nat} {A : Option Addr} {xs : List Value} (h : Reads w B size A n xs) (hk : Keeps T w w') (hB : B ≤ w.heap.size) (hT : ∀ ad, A = some ad → ad.block < B → ad.block ∉ T) : Reads w' B size A n xs :=
  ⟨h.1, fun h0 => by
    obtain ⟨ad, e, hb, hc⟩ := h.2 h0
    refine ⟨ad, e, hb, fun j u hj => ?_⟩
    rw [← hc j u hj]
    refine World.cell?_of_block ?_
    have hbl : (ad.add j).block = ad.block := by unfold Addr.add; split <;> rfl
    rw [hbl]
    exact hk.block _ (by omega) (hT ad e hb)⟩
theorem own_keeps {base : Nat} {e : TypeId} {size n : Nat} {v : Value} {xs : List Value} (h : w.ownsRow base e size v n xs) (hk : Keeps T w w') (hT : ∀ g, v.ownBlock = some g → g ∉ T) : w'.ownsRow base e size v n xs := by
  refine ⟨h.1, ?_⟩
  rcases h.2 with h2 | ⟨g, cap, cur, rfl, hb, hg, r⟩
  · exact .inl h2
  · refine .inr ⟨g, cap, cur, rfl, hb, ?_, r⟩
    rw [hk.block g (by rcases Nat.lt_or_ge g w.heap.size with hl | hl; exact hl; rw [Array.getElem?_eq_none hl] at hg; cases hg) (hT g rfl)]
    exact hg
end
end Go.Proofs.Ytioehmngkoffaaa
