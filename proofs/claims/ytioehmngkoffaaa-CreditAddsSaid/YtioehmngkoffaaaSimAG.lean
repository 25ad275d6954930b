/-
  Values whose pointers name places of a list, and what is known of the memory behind these places. Over any program.
  The operations that only compute, over values whose pointers name places: what each leaves. Over any program.
  The operations that read, write or make memory, over values whose pointers name places. Over any program.
  A region that draws its order, in one order: what is read holds till an operation that waits for all that read. Over any program.
  The executor: a function's code, over values whose pointers name places, till it comes to what it does not do by itself. Over any program.
  The executor is right: what it comes to stands for where it began. Over any program.
  The rules for a proof by the executor: entering a function, going on, calling, looping, returning. Over any program.
-/
import Derived.Test.YtioehmngkoffaaaKeeps
import Derived.Test.YtioehmngkoffaaaOrds
import Derived.Laws.Tables
import Derived.LoopN
namespace Go.Proofs.Ytioehmngkoffaaa
section
open Go Go.RowKit

/-- a value; its pointers name places (number, offset) -/
inductive LV where
  | v (v : Value)
  | ptr (n off : Nat)
  | slc (n off len cap : Nat)
  | mp (n : Nat)
  | agg (l : List LV)
  | tup (l : List LV)
  | fnv (f : Fn) (a c : List LV)

/-- where the places lie: block, and offset in it -/
abbrev Nm := Nat → Nat × Nat
def Nm.at_ (ρ : Nm) (n o : Nat) : Addr := ⟨(ρ n).1, (ρ n).2 + o, none⟩

mutual
def LV.den (ρ : Nm) : LV → Value
  | .v x => x
  | .ptr n o => .pointer (some (ρ.at_ n o))
  | .slc n o l c => .slice (some (ρ.at_ n o)) l c
  | .mp n => .map (some (ρ n).1)
  | .agg l => .agg (denL ρ l).toArray
  | .tup l => .tuple (denL ρ l).toArray
  | .fnv f a c => .func f (denL ρ a).toArray (denL ρ c).toArray
def denL (ρ : Nm) : List LV → List Value
  | [] => []
  | x :: xs => x.den ρ :: denL ρ xs
end

mutual
def LV.und (k : Nat) : LV → Bool
  | .v _ => true
  | .ptr n _ => Nat.blt n k
  | .slc n _ _ _ => Nat.blt n k
  | .mp n => Nat.blt n k
  | .agg l => undL k l
  | .tup l => undL k l
  | .fnv _ a c => undL k a && undL k c
def undL (k : Nat) : List LV → Bool
  | [] => true
  | x :: xs => x.und k && undL k xs
end

/-- two ways of laying the places that agree below k -/
def Agree (k : Nat) (ρ ρ' : Nm) : Prop := ∀ n, n < k → ρ' n = ρ n
theorem Agree.refl (k : Nat) (ρ : Nm) : Agree k ρ ρ := fun _ _ => rfl
theorem Agree.trans {k k' : Nat} {ρ ρ' ρ'' : Nm} (h : Agree k ρ ρ') (h' : Agree k' ρ' ρ'') (hk : k ≤ k') : Agree k ρ ρ'' := fun n hn => (h' n (by omega)).trans (h n hn)
theorem Agree.mono {k k' : Nat} {ρ ρ' : Nm} (h : Agree k ρ ρ') (hk : k' ≤ k) : Agree k' ρ ρ' := fun n hn => h n (by omega)

theorem blt_lt {n k : Nat} (h : Nat.blt n k = true) : n < k := by
  unfold Nat.blt at h
  exact Nat.le_of_ble_eq_true h
mutual
theorem LV.den_ext {k : Nat} {ρ ρ' : Nm} (h : Agree k ρ ρ') : ∀ x : LV, x.und k = true → x.den ρ' = x.den ρ
  | .v _, _ => rfl
  | .ptr n o, hb => by simp only [LV.den, Nm.at_, h n (blt_lt hb)]
  | .slc n o l c, hb => by simp only [LV.den, Nm.at_, h n (blt_lt hb)]
  | .mp n, hb => by simp only [LV.den, h n (blt_lt hb)]
  | .agg l, hb => by simp only [LV.den, denL_ext h l hb]
  | .tup l, hb => by simp only [LV.den, denL_ext h l hb]
  | .fnv f a c, hb => by
    simp only [LV.und, Bool.and_eq_true] at hb
    simp only [LV.den, denL_ext h a hb.1, denL_ext h c hb.2]
theorem denL_ext {k : Nat} {ρ ρ' : Nm} (h : Agree k ρ ρ') : ∀ l : List LV, undL k l = true → denL ρ' l = denL ρ l
  | [], _ => rfl
  | x :: xs, hb => by
    simp only [undL, Bool.and_eq_true] at hb
    simp only [denL, LV.den_ext h x hb.1, denL_ext h xs hb.2]
end
theorem denL_eq (ρ : Nm) (l : List LV) : denL ρ l = l.map (LV.den ρ) := by
  induction l with
  | nil => rfl
  | cons x xs ih => simp only [denL, List.map_cons, ih]
theorem undL_mem {k : Nat} {l : List LV} (h : undL k l = true) {x : LV} (hx : x ∈ l) : x.und k = true := by
  induction l with
  | nil => cases hx
  | cons y ys ih =>
    simp only [undL, Bool.and_eq_true] at h
    rcases List.mem_cons.1 hx with rfl | hx
    · exact h.1
    · exact ih h.2 hx

/-- the cells of a value -/
def LV.cells : LV → List LV
  | .agg l => l
  | .v x => x.cells.toList.map .v
  | x => [x]
theorem denL_v (ρ : Nm) (l : List Value) : denL ρ (l.map .v) = l := by
  rw [denL_eq, List.map_map]
  have : (LV.den ρ ∘ LV.v) = id := rfl
  rw [this, List.map_id]
theorem LV.den_cells (ρ : Nm) (x : LV) : (x.den ρ).cells.toList = denL ρ x.cells := by
  cases x with
  | v x => simp only [LV.den, LV.cells, denL_v]
  | agg l => simp only [LV.den, LV.cells, Value.cells]
  | ptr n o => rfl
  | slc n o l c => rfl
  | mp n => rfl
  | tup l => rfl
  | fnv f a c => rfl

/-- what is known of a place: its first cells; and whether it may be written -/
structure Reg where
  cells : List LV
  wr : Bool
def undR (k : Nat) (rs : List Reg) : Bool := rs.all fun r => undL k r.cells

/-- Of the blocks that were there only those of S may have turned. -/
structure Kept (S : Nat → Prop) (w w' : World) : Prop where
  os : w'.os = w.os
  tape : w'.tape = w.tape
  output : w'.output = w.output
  size : w.heap.size ≤ w'.heap.size
  block : ∀ k, k < w.heap.size → ¬ S k → w'.heap[k]? = w.heap[k]?
theorem Kept.refl (S : Nat → Prop) (w : World) : Kept S w w := ⟨rfl, rfl, rfl, Nat.le_refl _, fun _ _ _ => rfl⟩
theorem Kept.trans {S S' : Nat → Prop} {w w' w'' : World} (h : Kept S w w') (h' : Kept S' w' w'') (hS : ∀ x, S' x → S x ∨ w.heap.size ≤ x) : Kept S w w'' :=
  ⟨h'.os.trans h.os, h'.tape.trans h.tape, h'.output.trans h.output, Nat.le_trans h.size h'.size, fun k hk hn =>
    (h'.block k (Nat.lt_of_lt_of_le hk h.size) (fun hs => (hS k hs).elim hn (fun hx => by omega))).trans (h.block k hk hn)⟩
theorem Kept.mono {S S' : Nat → Prop} {w w' : World} (h : Kept S w w') (hS : ∀ x, S x → S' x ∨ w.heap.size ≤ x) : Kept S' w w' :=
  ⟨h.os, h.tape, h.output, h.size, fun k hk hn => h.block k hk (fun hm => (hS k hm).elim hn (fun hx => by omega))⟩
theorem Kept.keeps {T : List Nat} {w w' : World} (h : Kept (· ∈ T) w w') : Keeps T w w' := ⟨h.os, h.tape, h.output, h.size, h.block⟩
theorem Keeps.kept {T : List Nat} {w w' : World} (h : Keeps T w w') : Kept (· ∈ T) w w' := ⟨h.os, h.tape, h.output, h.size, h.block⟩
theorem Kept.alloc (w : World) (S : Nat → Prop) (o : Obj) : Kept S w (w.alloc o) := ⟨rfl, rfl, rfl, by simp, fun k hk _ => Below.heap_alloc w o k hk⟩
theorem Kept.drew (w : World) (S : Nat → Prop) : Kept S w w.drew := ⟨rfl, rfl, rfl, Nat.le_refl _, fun _ _ _ => rfl⟩
theorem Kept.setCell {S : Nat → Prop} (w : World) {p : Addr} (hp : S p.block) (u : Value) : Kept S w (w.setCell p u) :=
  ⟨rfl, rfl, rfl, by simp, fun k _ hn => Below.heap_setCell w p u k (by rintro rfl; exact hn hp)⟩
theorem Kept.of_below {w w' : World} (S : Nat → Prop) (h : Below w.heap.size w w') : Kept S w w' := ⟨h.os, h.tape, h.output, h.size, fun k hk _ => h.block k hk⟩
theorem Kept.cell {S : Nat → Prop} {w w' : World} (h : Kept S w w') {p : Addr} (hp : p.block < w.heap.size) (hn : ¬ S p.block) : w'.cell? p = w.cell? p := World.cell?_of_block (h.block _ hp hn)
theorem Kept.below {S : Nat → Prop} {w w' : World} {B : Nat} (h : Kept S w w') (hB : B ≤ w.heap.size) (hS : ∀ x, S x → B ≤ x) : Below B w w' :=
  ⟨h.os, h.tape, h.output, h.size, fun k hk => h.block k (by omega) (fun hm => by have := hS k hm; omega)⟩

/-- What is known of the memory: w0 is the world at the beginning, of whose blocks those of T may turn. -/
structure Rel (T : List Nat) (w0 : World) (ρ : Nm) (rs : List Reg) (w : World) : Prop where
  keeps : Keeps T w0 w
  lt : ∀ n r, rs[n]? = some r → (ρ n).1 < w.heap.size
  cell : ∀ n r, rs[n]? = some r → ∀ i v, r.cells[i]? = some v → w.cell? (ρ.at_ n i) = some (v.den ρ)
  wr : ∀ n r, rs[n]? = some r → r.wr = true → ((ρ n).1 ∈ T ∨ w0.heap.size ≤ (ρ n).1) ∧ ∀ i, i < r.cells.length → w.frozen? (ρ.at_ n i) = false
  apart : ∀ n m r r', rs[n]? = some r → rs[m]? = some r' → n ≠ m → r.wr = true → (ρ n).1 = (ρ m).1 → (ρ n).2 + r.cells.length ≤ (ρ m).2 ∨ (ρ m).2 + r'.cells.length ≤ (ρ n).2

/-- the blocks that may be written -/
def wrS (ρ : Nm) (rs : List Reg) (g : Nat) : Prop := ∃ (n : Nat) (r : Reg), rs[n]? = some r ∧ r.wr = true ∧ (ρ n).1 = g

theorem frozen_of_block {w w' : World} {a : Addr} (h : w'.heap[a.block]? = w.heap[a.block]?) : w'.frozen? a = w.frozen? a := by
  unfold World.frozen?
  rw [h]

section
variable {T : List Nat} {w0 w w' : World} {ρ ρ' : Nm} {rs : List Reg}
/-- a world in which only what is new, or no known block, has turned -/
theorem Rel.kept {S : Nat → Prop} (h : Rel T w0 ρ rs w) (hk : Kept S w w') (hS : ∀ n r, rs[n]? = some r → r.cells ≠ [] → ¬ S (ρ n).1) (hT : ∀ x, S x → x ∈ T ∨ w0.heap.size ≤ x) : Rel T w0 ρ rs w' := by
  have hb : ∀ n r, rs[n]? = some r → r.cells ≠ [] → w'.heap[(ρ n).1]? = w.heap[(ρ n).1]? := fun n r hn hne => hk.block _ (h.lt n r hn) (hS n r hn hne)
  refine ⟨(h.keeps.kept.trans hk (fun x hx => hT x hx)).keeps, fun n r hn => Nat.lt_of_lt_of_le (h.lt n r hn) hk.size, fun n r hn i v hv => ?_, fun n r hn hw => ⟨(h.wr n r hn hw).1, fun i hi => ?_⟩, h.apart⟩
  · rw [← h.cell n r hn i v hv]
    exact World.cell?_of_block (hb n r hn (by rintro e; rw [e] at hv; simp at hv))
  · rw [← (h.wr n r hn hw).2 i hi]
    exact frozen_of_block (hb n r hn (by rintro e; rw [e] at hi; simp at hi))
theorem Rel.below (h : Rel T w0 ρ rs w) (hb : Below w.heap.size w w') : Rel T w0 ρ rs w' := h.kept (Kept.of_below (fun _ => False) hb) (fun _ _ _ _ h => h) (fun _ h => h.elim)
theorem Rel.drew (h : Rel T w0 ρ rs w) : Rel T w0 ρ rs w.drew := h.kept (Kept.drew w (fun _ => False)) (fun _ _ _ _ h => h) (fun _ h => h.elim)
theorem Rel.drewN (h : Rel T w0 ρ rs w) (n : Nat) : Rel T w0 ρ rs (w.drewN n) := h.kept (S := fun _ => False) ⟨rfl, rfl, rfl, Nat.le_refl _, fun _ _ _ => rfl⟩ (fun _ _ _ _ h => h) (fun _ h => h.elim)
/-- the same places, laid anew -/
theorem Rel.ext (h : Rel T w0 ρ rs w) (ha : Agree rs.length ρ ρ') (hb : undR rs.length rs = true) : Rel T w0 ρ' rs w := by
  have hl : ∀ n r, rs[n]? = some r → ρ' n = ρ n := fun n r hn => ha n (List.getElem?_eq_some_iff.1 hn).1
  refine ⟨h.keeps, fun n r hn => by rw [hl n r hn]; exact h.lt n r hn, fun n r hn i v hv => ?_, fun n r hn hw => ?_, fun n m r r' hn hm hne hw he => ?_⟩
  · have hmem : r ∈ rs := List.mem_of_getElem? hn
    have hbr : undL rs.length r.cells = true := List.all_eq_true.1 hb r hmem
    rw [LV.den_ext ha v (undL_mem hbr (List.mem_of_getElem? hv))]
    have := h.cell n r hn i v hv
    unfold Nm.at_ at *
    rw [hl n r hn]
    exact this
  · have := h.wr n r hn hw
    unfold Nm.at_ at *
    rw [hl n r hn]
    exact this
  · rw [hl n r hn, hl m r' hm] at *
    exact h.apart n m r r' hn hm hne hw he
/-- a new block -/
theorem Rel.alloc (h : Rel T w0 ρ rs w) (hb : undR rs.length rs = true) (cs : List LV) (e : TypeId) (hcs : undL rs.length cs = true) (wr : Bool) :
    ∃ ρ', Agree rs.length ρ ρ' ∧ ρ' rs.length = (w.heap.size, 0) ∧ Rel T w0 ρ' (rs ++ [⟨cs, wr⟩]) (w.alloc (.cells (denL ρ cs).toArray e)) := by
  refine ⟨fun n => if n = rs.length then (w.heap.size, 0) else ρ n, fun n hn => if_neg (by omega), if_pos rfl, ?_⟩
  generalize hρ : (fun n => if n = rs.length then (w.heap.size, 0) else ρ n) = ρ'
  have ha : Agree rs.length ρ ρ' := fun n hn => by rw [← hρ]; exact if_neg (by omega)
  have hnew : ρ' rs.length = (w.heap.size, 0) := by rw [← hρ]; exact if_pos rfl
  clear hρ
  have h2 := (h.ext ha hb).kept (Kept.alloc w (fun _ => False) (.cells (denL ρ cs).toArray e)) (fun _ _ _ _ h => h) (fun _ h => h.elim)
  have hcases : ∀ n r, (rs ++ [(⟨cs, wr⟩ : Reg)])[n]? = some r → rs[n]? = some r ∨ (n = rs.length ∧ r = ⟨cs, wr⟩) := by
    intro n r hn
    rcases Nat.lt_or_ge n rs.length with hl | hl
    · rw [List.getElem?_append_left hl] at hn; exact .inl hn
    · rw [List.getElem?_append_right hl] at hn
      have h0 : n - rs.length = 0 := by
        rcases Nat.eq_zero_or_pos (n - rs.length) with h0 | h0
        · exact h0
        · rw [List.getElem?_eq_none (by simp; omega)] at hn; cases hn
      rw [h0] at hn
      simp at hn
      exact .inr ⟨by omega, hn.symm⟩
  have hold : ∀ n r, rs[n]? = some r → (ρ' n).1 < w.heap.size := fun n r hn => (h.ext ha hb).lt n r hn
  refine ⟨h2.keeps, fun n r hn => ?_, fun n r hn i v hv => ?_, fun n r hn hw => ?_, fun n m r r' hn hm hne hw he => ?_⟩
  · rcases hcases n r hn with hn | ⟨rfl, rfl⟩
    · exact h2.lt n r hn
    · rw [hnew]; simp
  · rcases hcases n r hn with hn | ⟨rfl, rfl⟩
    · exact h2.cell n r hn i v hv
    · unfold Nm.at_
      rw [hnew, LV.den_ext ha v (undL_mem hcs (List.mem_of_getElem? hv)), Nat.zero_add, World.cell?_alloc_new]
      simp only [List.getElem?_toArray, denL_eq, List.getElem?_map]
      rw [show cs[i]? = some v from hv]
      rfl
  · rcases hcases n r hn with hn | ⟨rfl, rfl⟩
    · exact h2.wr n r hn hw
    · rw [hnew]
      refine ⟨.inr h.keeps.size, fun i _ => ?_⟩
      unfold Nm.at_
      rw [hnew]
      exact World.frozen?_alloc_new _ _ _ _
  · rcases hcases n r hn with hn1 | ⟨rfl, rfl⟩ <;> rcases hcases m r' hm with hm1 | ⟨rfl, rfl⟩
    · exact h2.apart n m r r' hn1 hm1 hne hw he
    · have := hold n r hn1
      rw [he, hnew] at this
      simp at this
    · have := hold m r' hm1
      rw [← he, hnew] at this
      simp at this
    · exact absurd rfl hne
end
/-! ### Cell by cell -/
/-- outside all places that may be written -/
def OutR (ρ : Nm) (rs : List Reg) (g i : Nat) : Prop := ∀ (n : Nat) (r : Reg), rs[n]? = some r → r.wr = true → (ρ n).1 = g → i < (ρ n).2 ∨ (ρ n).2 + r.cells.length ≤ i
/-- outside, the cells of the blocks stand -/
def Still (O : Nat → Nat → Prop) (w w' : World) : Prop := ∀ (g : Nat) (arr : Array Value) (t : TypeId) (m : Nat × Nat), w.heap[g]? = some (.cells arr t m) →
  ∃ arr' : Array Value, w'.heap[g]? = some (.cells arr' t m) ∧ arr'.size = arr.size ∧ ∀ i, O g i → arr'[i]? = arr[i]?
theorem Still.refl (O : Nat → Nat → Prop) (w : World) : Still O w w := fun _ arr _ _ h => ⟨arr, h, rfl, fun _ _ => rfl⟩
theorem Still.trans {O O' : Nat → Nat → Prop} {w w' w'' : World} (h : Still O w w') (h' : Still O' w' w'') (hO : ∀ g i, g < w.heap.size → O g i → O' g i) : Still O w w'' := by
  intro g arr t m hg
  obtain ⟨a1, h1, h2, h3⟩ := h g arr t m hg
  obtain ⟨a2, h4, h5, h6⟩ := h' g a1 t m h1
  refine ⟨a2, h4, h5.trans h2, fun i hi => (h6 i (hO g i ?_ hi)).trans (h3 i hi)⟩
  rcases Nat.lt_or_ge g w.heap.size with hl | hl
  · exact hl
  · rw [Array.getElem?_eq_none hl] at hg; cases hg
theorem Still.mono {O O' : Nat → Nat → Prop} {w w' : World} (h : Still O w w') (hO : ∀ g i, g < w.heap.size → O' g i → O g i) : Still O' w w' := by
  intro g arr t m hg
  obtain ⟨a1, h1, h2, h3⟩ := h g arr t m hg
  refine ⟨a1, h1, h2, fun i hi => h3 i (hO g i ?_ hi)⟩
  rcases Nat.lt_or_ge g w.heap.size with hl | hl
  · exact hl
  · rw [Array.getElem?_eq_none hl] at hg; cases hg
theorem Still.of_blocks {O : Nat → Nat → Prop} {w w' : World} (h : ∀ k, k < w.heap.size → w'.heap[k]? = w.heap[k]?) : Still O w w' := by
  intro g arr t m hg
  refine ⟨arr, ?_, rfl, fun _ _ => rfl⟩
  rcases Nat.lt_or_ge g w.heap.size with hl | hl
  · rw [h g hl]; exact hg
  · rw [Array.getElem?_eq_none hl] at hg; cases hg
theorem Still.setCell {O : Nat → Nat → Prop} (w : World) (p : Addr) (u : Value) (hO : ∀ i, O p.block i → i ≠ p.off) : Still O w (w.setCell p u) := by
  intro g arr t m hg
  by_cases hb : g = p.block
  · subst hb
    refine ⟨if p.spot.isSome then arr else arr.setIfInBounds p.off u, ?_, by split <;> simp, fun i hi => ?_⟩
    · simp [World.setCell, Array.getElem?_modify, hg]
    · split
      · rfl
      · rw [Array.getElem?_setIfInBounds_ne (Ne.symm (hO i hi))]
  · exact ⟨arr, (Below.heap_setCell w p u g hb).trans hg, rfl, fun _ _ => rfl⟩
end

section
open Go Go.RowKit

/-- what a computation that asks only the program answers -/
def pureRun {α : Type} (P : Program) : Sem α → Option α
  | .pure a => some a
  | .program k => pureRun P (k P)
  | .mark _ k => pureRun P k
  | _ => none
theorem pureRun_run {α : Type} {P : Program} {s : Sem α} {a : α} (h : pureRun P s = some a) (w : World) : s.run P w = .ok a w := by
  induction s generalizing w with
  | pure b => simp only [pureRun, Option.some.injEq] at h; subst h; rfl
  | program k ih => exact ih _ h w
  | mark m k ih => exact ih h w
  | _ => simp [pureRun] at h

def pickL (t : Bool) (a b : LV) : LV :=
  match a, b with
  | .v (.bool x), .v (.bool y) => .v (.bool (bif t then x else y))
  | a, b => bif t then a else b
theorem pickL_den (ρ : Nm) (t : Bool) (a b : LV) : (pickL t a b).den ρ = if t = true then a.den ρ else b.den ρ := by
  unfold pickL
  split
  · cases t <;> rfl
  · cases t <;> rfl

def LV.plain : LV → Option Value
  | .v x => some x
  | _ => none
theorem LV.plain_den {x : LV} {u : Value} (h : x.plain = some u) (ρ : Nm) : x.den ρ = u := by
  cases x <;> simp [LV.plain] at h
  exact h
def plains : List LV → Option (List Value)
  | [] => some []
  | x :: xs => match x.plain, plains xs with
    | some u, some us => some (u :: us)
    | _, _ => none
theorem plains_den {ρ : Nm} : ∀ {l : List LV} {us : List Value}, plains l = some us → denL ρ l = us
  | [], us, h => by simp only [plains, Option.some.injEq] at h; subst h; rfl
  | x :: xs, us, h => by
    simp only [plains] at h
    split at h
    · rename_i u us' h1 h2
      simp only [Option.some.injEq] at h
      subst h
      simp only [denL, LV.plain_den h1, plains_den h2]
    · cases h

/-- a part of a struct -/
def partL (P : Program) (t : TypeId) (l : List LV) (off : Nat) : Option LV :=
  match P.underlying t, P.info? t with
  | some (.struct _), some i => some (.agg ((l.drop off).take i.size))
  | some (.array _ _), some i => some (.agg ((l.drop off).take i.size))
  | some _, some _ => l[off]?
  | _, _ => none
theorem denL_length (ρ : Nm) (l : List LV) : (denL ρ l).length = l.length := by simp [denL_eq]
theorem denL_get (ρ : Nm) (l : List LV) (i : Nat) : (denL ρ l)[i]? = (l[i]?).map (LV.den ρ) := by simp [denL_eq]
theorem denL_append (ρ : Nm) (l m : List LV) : denL ρ (l ++ m) = denL ρ l ++ denL ρ m := by simp [denL_eq]
theorem denL_take (ρ : Nm) (l : List LV) (n : Nat) : denL ρ (l.take n) = (denL ρ l).take n := by simp [denL_eq, List.map_take]
theorem denL_drop (ρ : Nm) (l : List LV) (n : Nat) : denL ρ (l.drop n) = (denL ρ l).drop n := by simp [denL_eq, List.map_drop]
theorem extract_take (cs : List Value) (off n : Nat) : (cs.toArray.extract off (off + n)) = ((cs.drop off).take n).toArray := by
  apply Array.ext'
  simp [List.extract_eq_take_drop]
theorem partL_run {P : Program} {t : TypeId} {l : List LV} {off : Nat} {x : LV} (h : partL P t l off = some x) (ρ : Nm) (w : World) : (part t (denL ρ l).toArray off).run P w = .ok (x.den ρ) w := by
  unfold partL at h
  split at h
  · rename_i hu hi
    simp only [Option.some.injEq] at h
    subst h
    simp [part, isAgg, run_underlying hu, sizeOf, typeInfo, hi, LV.den, denL_take, denL_drop]
  · rename_i hu hi
    simp only [Option.some.injEq] at h
    subst h
    simp [part, isAgg, run_underlying hu, sizeOf, typeInfo, hi, LV.den, denL_take, denL_drop]
  · rename_i d i hns hna hu hi
    have hag : (isAgg t).run P w = .ok false w := by
      simp only [isAgg, Sem.run_bind, run_underlying hu, Result.andThen_ok]
      cases d <;> first | rfl | exact absurd hu (by intro; exact hns _ rfl) | exact absurd hu (by intro; exact hna _ _ rfl)
    simp only [part, Sem.run_bind, hag, Result.andThen_ok, Bool.false_eq_true, if_false, List.getElem?_toArray, denL_get, h, Option.map_some, Sem.run_pure]
  · cases h
def fieldL (P : Program) (t : TypeId) (l : List LV) (f : Nat) : Option LV :=
  match P.underlying t with
  | some (.struct fs) => match fs[f]? with
    | some fd => partL P fd.type l fd.offset
    | none => none
  | _ => none
theorem fieldL_run {P : Program} {t : TypeId} {l : List LV} {f : Nat} {x : LV} (h : fieldL P t l f = some x) (ρ : Nm) (w : World) : (Instr.field t (.agg (denL ρ l).toArray) f).run P w = .ok (x.den ρ) w := by
  unfold fieldL at h
  split at h
  · rename_i fs hu
    split at h
    · rename_i fd hf
      simp [Instr.field, run_underlying hu, hf, asAgg, partL_run h ρ w]
    · cases h
  · cases h

/-- an element of an array -/
def indexL (P : Program) (t : TypeId) (l : List LV) (z : Int) : Option LV :=
  match P.underlying t with
  | some (.array len e) => match P.info? e with
    | some i => match z with
      | .ofNat n => if Nat.blt n len then partL P e l (n * i.size) else none
      | _ => none
    | none => none
  | _ => none
theorem indexL_run {P : Program} {t : TypeId} {l : List LV} {z : Int} {x : LV} (h : indexL P t l z = some x) (ρ : Nm) (k : IntKind) (w : World) : (Instr.index t (.agg (denL ρ l).toArray) (.int k z)).run P w = .ok (x.den ρ) w := by
  unfold indexL at h
  split at h
  · rename_i len e hu
    split at h
    · rename_i i hi
      split at h
      · rename_i n
        split at h
        · rename_i hb
          have hlt := blt_lt hb
          show (Instr.index t (.agg (denL ρ l).toArray) (.int k (n : Int))).run P w = .ok (x.den ρ) w
          simp [Instr.index, asIntOf, run_underlying hu, hlt, sizeOf, typeInfo, hi, partL_run h ρ w]
        · cases h
      · cases h
    · cases h
  · cases h

/-- how far a field lies behind its struct -/
def fieldOff (P : Program) (s : TypeId) (f : Nat) : Option Nat :=
  match P.underlying s with
  | some (.struct fs) => match fs[f]? with
    | some fd => match P.info? fd.type with
      | some i => if Nat.beq i.size 0 then none else some fd.offset
      | none => none
    | none => none
  | _ => none
theorem at_add (ρ : Nm) (n o d : Nat) : (ρ.at_ n o).add d = ρ.at_ n (o + d) := by
  unfold Addr.add Nm.at_
  by_cases hd : d = 0
  · simp [hd]
  · simp [hd, Nat.add_assoc]
theorem fieldOff_run {P : Program} {s : TypeId} {f d : Nat} (h : fieldOff P s f = some d) (ρ : Nm) (n o : Nat) (w : World) : (Instr.fieldAt s (.pointer (some (ρ.at_ n o))) f).run P w = .ok (.pointer (some (ρ.at_ n (o + d)))) w := by
  unfold fieldOff at h
  split at h
  · rename_i fs hu
    split at h
    · rename_i fd hf
      split at h
      · rename_i i hi
        split at h
        · cases h
        · rename_i hz
          simp only [Option.some.injEq] at h
          subst h
          have hz' : i.size ≠ 0 := by
            intro e
            rw [e] at hz
            exact hz rfl
          simp [Instr.fieldAt, run_underlying hu, hf, Instr.sureAddr, fieldPlace, sizeOf, typeInfo, hi, hz', at_add]
      · cases h
    · cases h
  · cases h

/-- a place against nil -/
def nilCmp (P : Program) (op : BinOp) (t : TypeId) (x y : LV) : Option LV :=
  match op, P.underlying t, x, y with
  | .eql, some (.pointer _), .ptr _ _, .v (.pointer none) => some (.v (.bool false))
  | .neq, some (.pointer _), .ptr _ _, .v (.pointer none) => some (.v (.bool true))
  | .eql, some (.slice _), .slc _ _ _ _, .v (.slice none _ _) => some (.v (.bool false))
  | .neq, some (.slice _), .slc _ _ _ _, .v (.slice none _ _) => some (.v (.bool true))
  | .eql, some (.map _ _), .mp _, .v (.map none) => some (.v (.bool false))
  | .neq, some (.map _ _), .mp _, .v (.map none) => some (.v (.bool true))
  | .eql, some (.pointer e), .ptr n o, .ptr m p => match P.info? e with
    | some i => if Nat.beq i.size 0 then none else if Nat.beq n m && Nat.beq o p then some (.v (.bool true)) else none
    | none => none
  | _, _, _, _ => none
theorem maxDepth_succ : ∃ d, Op.maxDepth = d + 1 := ⟨9999, rfl⟩
section
variable {P : Program} {t : TypeId} (w : World) (a : Addr)
theorem equal_ptr_nil {e : TypeId} (hu : P.underlying t = some (.pointer e)) : (Op.equal t (.pointer (some a)) (.pointer none)).run P w = .ok false w := by
  obtain ⟨d, hd⟩ := maxDepth_succ
  rw [Op.equal, hd, Op.equalIn]
  simp [run_underlying hu]
theorem equal_slc_nil {e : TypeId} (hu : P.underlying t = some (.slice e)) (n c n' c' : Nat) : (Op.equal t (.slice (some a) n c) (.slice none n' c')).run P w = .ok false w := by
  obtain ⟨d, hd⟩ := maxDepth_succ
  rw [Op.equal, hd, Op.equalIn]
  simp [run_underlying hu]
theorem equal_mp_nil {k e : TypeId} (hu : P.underlying t = some (.map k e)) (g : Nat) : (Op.equal t (.map (some g)) (.map none)).run P w = .ok false w := by
  obtain ⟨d, hd⟩ := maxDepth_succ
  rw [Op.equal, hd, Op.equalIn]
  simp [run_underlying hu]
theorem equal_ptr_same {e : TypeId} {i : TypeInfo} (hu : P.underlying t = some (.pointer e)) (hi : P.info? e = some i) (_hz : i.size ≠ 0) : (Op.equal t (.pointer (some a)) (.pointer (some a))).run P w = .ok true w := by
  obtain ⟨d, hd⟩ := maxDepth_succ
  rw [Op.equal, hd, Op.equalIn]
  simp [run_underlying hu, sizeOf, typeInfo, hi, sameAddr]
end
theorem nilCmp_run {P : Program} {op : BinOp} {t : TypeId} {x y r : LV} (h : nilCmp P op t x y = some r) (ρ : Nm) (xo yo : Operand) (w : World) : (do eqGuard op t xo yo (x.den ρ) (y.den ρ); binOp op t (x.den ρ) (y.den ρ) : Sem Value).run P w = .ok (r.den ρ) w := by
  unfold nilCmp at h
  split at h <;> first
    | (cases h; done)
    | (rename_i hu; simp only [Option.some.injEq] at h; subst h; simp [eqGuard, binOp, LV.den, equal_ptr_nil w _ hu]; done)
    | (rename_i hu; simp only [Option.some.injEq] at h; subst h; simp [eqGuard, binOp, LV.den, equal_slc_nil w _ hu]; done)
    | (rename_i hu; simp only [Option.some.injEq] at h; subst h; simp [eqGuard, binOp, LV.den, equal_mp_nil w hu]; done)
    | skip
  rename_i e n o m p hu
  split at h
  · rename_i i hi
    split at h
    · cases h
    · rename_i hz
      have hz' : i.size ≠ 0 := by
        intro e
        rw [e] at hz
        exact hz rfl
      split at h
      · rename_i hnm
        simp only [Bool.and_eq_true] at hnm
        have e1 := Nat.eq_of_beq_eq_true hnm.1
        have e2 := Nat.eq_of_beq_eq_true hnm.2
        subst e1 e2
        simp only [Option.some.injEq] at h
        subst h
        simp [eqGuard, binOp, LV.den, equal_ptr_same w _ hu hi hz']
      · cases h
  · cases h

/-! ### Two structs are compared -/
def eqFs (g : Field → Option Bool) : List Field → Option Bool
  | [] => some true
  | f :: fs => if f.name = "_" then eqFs g fs else match g f, eqFs g fs with
    | some b, some r => some (b && r)
    | _, _ => none
def eqAs (g : Nat → Option Bool) : List Nat → Option Bool
  | [] => some true
  | k :: ks => match g k, eqAs g ks with
    | some b, some r => some (b && r)
    | _, _ => none
def eqIn (P : Program) : Nat → TypeId → Value → Value → Option Bool
  | 0, _, _, _ => none
  | d + 1, t, x, y => match P.underlying t, x, y with
    | some .bool, .bool a, .bool b => some (a == b)
    | some (.int _), .int k a, .int k' b => if k = k' then some (a == b) else none
    | some .string, .string a, .string b => some (a == b)
    | some (.struct fields), .agg xs, .agg ys => if P.stoodInHeld t then none else eqFs (fun f => match pureRun P (part f.type xs f.offset), pureRun P (part f.type ys f.offset) with
      | some a, some b => eqIn P d f.type a b
      | _, _ => none) fields.toList
    | some (.array len elem), .agg xs, .agg ys => match P.info? elem with
      | some i => eqAs (fun k => match pureRun P (part elem xs (k * i.size)), pureRun P (part elem ys (k * i.size)) with
        | some a, some b => eqIn P d elem a b
        | _, _ => none) (List.range len)
      | none => none
    | _, _, _ => none
theorem eqIn_run {P : Program} : ∀ (d : Nat) (t : TypeId) (x y : Value) (b : Bool) (w : World), eqIn P d t x y = some b → (Op.equalIn d t x y).run P w = .ok b w
  | 0, _, _, _, _, _, h => by cases h
  | d + 1, t, x, y, b, w, h => by
    unfold eqIn at h
    split at h
    · rename_i hu
      simp only [Option.some.injEq] at h
      subst h
      rw [Op.equalIn]
      simp [run_underlying hu]
    · rename_i hu
      split at h
      · rename_i hk
        subst hk
        simp only [Option.some.injEq] at h
        subst h
        rw [Op.equalIn]
        simp [run_underlying hu]
      · cases h
    · rename_i hu
      simp only [Option.some.injEq] at h
      subst h
      rw [Op.equalIn]
      simp [run_underlying hu]
    · rename_i fields xs ys hu
      split at h
      · cases h
      · rename_i hs
        rw [Op.equalIn]
        simp only [Sem.run_bind, run_underlying hu, Result.andThen_ok, run_program, hs, Bool.false_eq_true, if_false]
        rw [← Array.forIn_toList]
        have key : ∀ (fs : List Field) (b : Bool), eqFs (fun f => match pureRun P (part f.type xs f.offset), pureRun P (part f.type ys f.offset) with
            | some a, some b => eqIn P d f.type a b
            | _, _ => none) fs = some b →
            Sem.run P (forIn fs ((none : Option Bool), ()) fun f __s =>
              if f.name ≠ "_" then do
                let __do_lift ← part f.type xs f.offset
                let __do_lift_1 ← part f.type ys f.offset
                let __do_lift ← Op.equalIn d f.type __do_lift __do_lift_1
                if (!__do_lift) = true then pure (ForInStep.done (some false, ())) else pure (ForInStep.yield (none, ()))
              else pure (ForInStep.yield (none, ()))) w = .ok (if b = true then none else some false, ()) w := by
          intro fs
          induction fs with
          | nil =>
            intro b h
            simp only [eqFs, Option.some.injEq] at h
            subst h
            simp
          | cons f fs ih =>
            intro b h
            simp only [eqFs] at h
            rw [List.forIn_cons]
            split at h
            · rename_i hf
              simp only [hf, ne_eq, not_true_eq_false, if_false, Sem.run_bind, Sem.run_pure, Result.andThen_ok]
              exact ih b h
            · rename_i hf
              split at h
              · rename_i b1 r1 h1 h2
                simp only [Option.some.injEq] at h
                subst h
                split at h1
                · rename_i u v hu1 hv1
                  have p1 := pureRun_run hu1 w
                  have p2 := pureRun_run hv1 w
                  have p3 := eqIn_run d f.type u v b1 w h1
                  simp only [hf, ne_eq, not_false_eq_true, if_true, Sem.run_bind, p1, p2, p3, Result.andThen_ok]
                  cases b1 with
                  | true =>
                    simp only [Bool.not_true, Bool.false_eq_true, if_false, Sem.run_pure, Result.andThen_ok, Bool.true_and]
                    exact ih r1 h2
                  | false => simp
                · cases h1
              · cases h
        have hk := key fields.toList b h
        rw [hk]
        cases b <;> simp
    · rename_i len elem xs ys hu
      split at h
      · rename_i i hi
        rw [Op.equalIn]
        simp only [Sem.run_bind, run_underlying hu, Result.andThen_ok, sizeOf, typeInfo, run_program, hi, Sem.run_pure]
        rw [Std.Legacy.Range.forIn_eq_forIn_range']
        have key : ∀ (ks : List Nat) (b : Bool), eqAs (fun k => match pureRun P (part elem xs (k * i.size)), pureRun P (part elem ys (k * i.size)) with
            | some a, some b => eqIn P d elem a b
            | _, _ => none) ks = some b →
            Sem.run P (forIn ks ((none : Option Bool), ()) fun k __s => do
                let __do_lift ← part elem xs (k * i.size)
                let __do_lift_1 ← part elem ys (k * i.size)
                let __do_lift ← Op.equalIn d elem __do_lift __do_lift_1
                if (!__do_lift) = true then pure (ForInStep.done (some false, ())) else pure (ForInStep.yield (none, ()))) w = .ok (if b = true then none else some false, ()) w := by
          intro ks
          induction ks with
          | nil =>
            intro b h
            simp only [eqAs, Option.some.injEq] at h
            subst h
            simp
          | cons k ks ih =>
            intro b h
            simp only [eqAs] at h
            rw [List.forIn_cons]
            split at h
            · rename_i b1 r1 h1 h2
              simp only [Option.some.injEq] at h
              subst h
              split at h1
              · rename_i u v hu1 hv1
                have p1 := pureRun_run hu1 w
                have p2 := pureRun_run hv1 w
                have p3 := eqIn_run d elem u v b1 w h1
                simp only [Sem.run_bind, p1, p2, p3, Result.andThen_ok]
                cases b1 with
                | true =>
                  simp only [Bool.not_true, Bool.false_eq_true, if_false, Sem.run_pure, Result.andThen_ok, Bool.true_and]
                  exact ih r1 h2
                | false => simp
              · cases h1
            · cases h
        have e : List.range' 0 (Std.Legacy.Range.size [0:len]) 1 = List.range len := by simp [Std.Legacy.Range.size, List.range_eq_range']
        have hk := key (List.range len) b h
        rw [e, hk]
        cases b <;> simp
      · cases h
    · cases h
mutual
def plainV : LV → Option Value
  | .v x => some x
  | .agg l => match plainVs l with
    | some us => some (.agg us.toArray)
    | none => none
  | _ => none
def plainVs : List LV → Option (List Value)
  | [] => some []
  | x :: xs => match plainV x, plainVs xs with
    | some u, some us => some (u :: us)
    | _, _ => none
end
mutual
theorem plainV_den {ρ : Nm} : ∀ (x : LV) (u : Value), plainV x = some u → x.den ρ = u
  | .v _, u, h => by simp only [plainV, Option.some.injEq] at h; exact h
  | .agg l, u, h => by
    simp only [plainV] at h
    split at h
    · rename_i us hus
      simp only [Option.some.injEq] at h
      subst h
      simp only [LV.den, plainVs_den l us hus]
    · cases h
  | .ptr _ _, u, h => by simp [plainV] at h
  | .slc _ _ _ _, u, h => by simp [plainV] at h
  | .mp _, u, h => by simp [plainV] at h
  | .tup _, u, h => by simp [plainV] at h
  | .fnv _ _ _, u, h => by simp [plainV] at h
theorem plainVs_den {ρ : Nm} : ∀ (l : List LV) (us : List Value), plainVs l = some us → denL ρ l = us
  | [], us, h => by simp only [plainVs, Option.some.injEq] at h; subst h; rfl
  | x :: xs, us, h => by
    simp only [plainVs] at h
    split at h
    · rename_i u us' h1 h2
      simp only [Option.some.injEq] at h
      subst h
      simp only [denL, plainV_den x u h1, plainVs_den xs us' h2]
    · cases h
end
/-- two structs -/
def aggCmp (P : Program) (op : BinOp) (t : TypeId) (xo yo : Operand) (a b : Value) : Option LV :=
  match a, b with
  | .agg _, .agg _ => match pureRun P (eqGuard op t xo yo a b) with
    | some _ => match eqIn P Op.maxDepth t a b with
      | some r => match op with
        | .eql => some (.v (.bool r))
        | .neq => some (.v (.bool (!r)))
        | _ => none
      | none => none
    | none => none
  | _, _ => none
theorem aggCmp_run {P : Program} {op : BinOp} {t : TypeId} {a b : Value} {xo yo : Operand} {r : LV} (h : aggCmp P op t xo yo a b = some r) (ρ : Nm) (w : World) : (do eqGuard op t xo yo a b; binOp op t a b : Sem Value).run P w = .ok (r.den ρ) w := by
  unfold aggCmp at h
  split at h
  · split at h
    · rename_i u hg
      have p1 := pureRun_run hg w
      split at h
      · rename_i q hq
        have p2 := eqIn_run _ _ _ _ _ w hq
        split at h
        · simp only [Option.some.injEq] at h
          subst h
          rw [Sem.run_bind, p1, Result.andThen_ok]
          simp [binOp, Op.equal, p2, LV.den]
        · simp only [Option.some.injEq] at h
          subst h
          rw [Sem.run_bind, p1, Result.andThen_ok]
          simp [binOp, Op.equal, p2, LV.den]
        · cases h
      · cases h
    · cases h
  · cases h

/-- an element's place in an array -/
def arrOff (P : Program) (t : TypeId) (z : Int) : Option Nat := match P.underlying t with
  | some (.array len elem) => match P.info? elem with
    | some i => match z with
      | .ofNat k => if Nat.blt k len then some (k * i.size) else none
      | _ => none
    | none => none
  | _ => none
theorem arrOff_run {P : Program} {t : TypeId} {z : Int} {d : Nat} (h : arrOff P t z = some d) (ρ : Nm) (n o : Nat) (k : IntKind) (w : World) : (Instr.indexAt t (.pointer (some (ρ.at_ n o))) (.int k z)).run P w = .ok (.pointer (some (ρ.at_ n (o + d)))) w := by
  unfold arrOff at h
  split at h
  · rename_i len elem hu
    split at h
    · rename_i i hi
      split at h
      · rename_i q
        split at h
        · rename_i hlt
          simp only [Option.some.injEq] at h
          subst h
          have hlt' := blt_lt hlt
          unfold Instr.indexAt
          simp [asIntOf, run_underlying hu, Instr.sureAddr, hlt', sizeOf, typeInfo, hi, at_add]
        · cases h
      · cases h
    · cases h
  · cases h
/-- the builtins that only compute -/
def pureB : Builtin → Bool
  | .len => true
  | .cap => true
  | .min => true
  | .max => true
  | _ => false
def pureArgs (b : Builtin) (l : List LV) : Option (List Value) := if pureB b then plains l else none
/-- what an operation that only computes leaves -/
def opPure (P : Program) (o : Oper) (ev : Operand → LV) : Option LV :=
  match o.op with
  | .move x => some (ev x)
  | .assign x => some (ev x)
  | .pick c a b => match ev c with
    | .v (.bool t) => some (pickL t (ev a) (ev b))
    | _ => none
  | .binOp op t x y _ => match ev x, ev y with
    | .v a, .v b => match aggCmp P op t x y a b with
      | some r => some r
      | none => (pureRun P (do eqGuard op t x y a b; binOp op t a b)).map .v
    | a, b => match nilCmp P op t a b with
      | some r => some r
      | none => match plainV a, plainV b with
        | some u, some v => aggCmp P op t x y u v
        | _, _ => none
  | .unOp op _ x => match ev x with
    | .v a => (pureRun P (Op.unary op a)).map .v
    | _ => none
  | .convert s d x => match ev x with
    | .v a => (pureRun P (convert s d a)).map .v
    | _ => none
  | .index t x i => match ev x, ev i with
    | .v (.agg cs), .v b => (pureRun P (Instr.index t (.agg cs) b)).map .v
    | .agg l, .v (.int _ z) => indexL P t l z
    | _, _ => none
  | .extract t i => match ev t with
    | .tup l => l[i]?
    | .v a => (pureRun P (Instr.extract a i)).map .v
    | _ => none
  | .field t x f => match ev x with
    | .agg l => fieldL P t l f
    | .v a => (pureRun P (Instr.field t a f)).map .v
    | _ => none
  | .fieldAddr s x f => match ev x with
    | .ptr n o => (fieldOff P s f).map fun d => .ptr n (o + d)
    | _ => none
  | .nilCheck x => match ev x with
    | .ptr n o => some (.ptr n o)
    | _ => none
  | .makeFunc fn first cap => some (.fnv fn (first.toList.map ev) (cap.toList.map ev))
  | .call { callee := .builtin b, args, argTypes } => match pureArgs b (args.toList.map ev) with
    | some us => match pureRun P (invoke (.builtin b argTypes o.type (args.map fun | .const _ => true | _ => false)) us.toArray) with
      | some (.value u) => some (.v u)
      | _ => none
    | none => match b, argTypes.toList, args.toList.map ev with
      | .len, [t], [.slc _ _ l _] => match P.underlying t with
        | some (.slice _) => some (.v (.int .i64 l))
        | _ => none
      | .cap, [t], [.slc _ _ _ c] => match P.underlying t with
        | some (.slice _) => some (.v (.int .i64 c))
        | _ => none
      | _, _, _ => none
  | .indexAddr t x i => match ev x, ev i with
    | .ptr n o, .v (.int _ z) => (arrOff P t z).map fun d => .ptr n (o + d)
    | _, _ => none
  | _ => none

theorem map_v {x : Option Value} {r : LV} (h : x.map LV.v = some r) : ∃ u, x = some u ∧ r = .v u := by
  cases x with
  | none => cases h
  | some u => exact ⟨u, rfl, by simpa using h.symm⟩
theorem evals_toList {ρ : Nm} {ev : Operand → LV} {ev' : Operand → Value} (he : ∀ x, ev' x = (ev x).den ρ) (l : List Operand) : l.map ev' = denL ρ (l.map ev) := by
  rw [denL_eq, List.map_map]
  exact List.map_congr_left fun x _ => he x
theorem opt_head {ρ : Nm} {ev : Operand → LV} {ev' : Operand → Value} (he : ∀ x, ev' x = (ev x).den ρ) (lo : Option Operand) {us : List Value} (h : plains (lo.toList.map ev) = some us) : lo.map ev' = us.head? := by
  have h2 := plains_den (ρ := ρ) h
  cases lo with
  | none => simp [plains] at h; subst h; rfl
  | some x => simp [denL] at h2; subst h2; simp [he]

theorem opPure_run {P : Program} {o : Oper} {ev : Operand → LV} {r : LV} (h : opPure P o ev = some r) {ρ : Nm} {ev' : Operand → Value} (he : ∀ x, ev' x = (ev x).den ρ) (w : World) :
    (execOp ev' o).run P w = .ok (.value (r.den ρ)) w := by
  unfold opPure at h
  unfold execOp
  split at h
  · rename_i x ho
    simp only [Option.some.injEq] at h
    subst h
    simp [ho, he]
  · rename_i x ho
    simp only [Option.some.injEq] at h
    subst h
    simp [ho, he]
  · rename_i c a b ho
    split at h
    · rename_i t hc
      simp only [Option.some.injEq] at h
      subst h
      simp [ho, he, hc, LV.den, asBool, pickL_den]
    · cases h
  · rename_i op t x y yt ho
    split at h
    · rename_i a b ha hb
      split at h
      · rename_i q hq
        simp only [Option.some.injEq] at h
        subst h
        have := aggCmp_run hq ρ w
        simp only [ho, he, ha, hb, LV.den]
        rw [Sem.run_bind, this]
        rfl
      · obtain ⟨u, hu, rfl⟩ := map_v h
        have := pureRun_run hu w
        simp only [ho, he, ha, hb, LV.den]
        rw [Sem.run_bind, this]
        rfl
    · split at h
      · rename_i q hq
        simp only [Option.some.injEq] at h
        subst h
        have := nilCmp_run hq ρ x y w
        simp only [ho, he]
        rw [Sem.run_bind, this]
        rfl
      · split at h
        · rename_i u v hu hv
          have := aggCmp_run h ρ w
          rw [← plainV_den (ρ := ρ) _ _ hu, ← plainV_den (ρ := ρ) _ _ hv] at this
          simp only [ho, he]
          rw [Sem.run_bind, this]
          rfl
        · cases h
  · rename_i op t x ho
    split at h
    · rename_i a ha
      obtain ⟨u, hu, rfl⟩ := map_v h
      simp only [ho, he, ha, LV.den, Sem.run_bind, pureRun_run hu w, Result.andThen_ok, Sem.run_pure]
    · cases h
  · rename_i s d x ho
    split at h
    · rename_i a ha
      obtain ⟨u, hu, rfl⟩ := map_v h
      simp only [ho, he, ha, LV.den, Sem.run_bind, pureRun_run hu w, Result.andThen_ok, Sem.run_pure]
    · cases h
  · rename_i t x i ho
    split at h
    · rename_i a b ha hb
      obtain ⟨u, hu, rfl⟩ := map_v h
      simp only [ho, he, ha, hb, LV.den, Sem.run_bind, pureRun_run hu w, Result.andThen_ok, Sem.run_pure]
    · rename_i l k z ha hb
      simp only [ho, he, ha, hb, LV.den, Sem.run_bind, indexL_run h ρ k w, Result.andThen_ok, Sem.run_pure]
    · cases h
  · rename_i t i ho
    split at h
    · rename_i l hl
      have hg : (denL ρ l)[i]? = some (r.den ρ) := by rw [denL_get, h]; rfl
      simp [ho, he, hl, LV.den, Instr.extract, hg]
    · rename_i a ha
      obtain ⟨u, hu, rfl⟩ := map_v h
      simp only [ho, he, ha, LV.den, Sem.run_bind, pureRun_run hu w, Result.andThen_ok, Sem.run_pure]
    · cases h
  · rename_i t x f ho
    split at h
    · rename_i l hl
      simp only [ho, he, hl, LV.den, Sem.run_bind, fieldL_run h ρ w, Result.andThen_ok, Sem.run_pure]
    · rename_i a ha
      obtain ⟨u, hu, rfl⟩ := map_v h
      simp only [ho, he, ha, LV.den, Sem.run_bind, pureRun_run hu w, Result.andThen_ok, Sem.run_pure]
    · cases h
  · rename_i s x f ho
    split at h
    · rename_i n p hp
      cases hf : fieldOff P s f with
      | none => rw [hf] at h; cases h
      | some d =>
        rw [hf] at h
        simp only [Option.map_some, Option.some.injEq] at h
        subst h
        simp only [ho, he, hp, LV.den, Sem.run_bind, fieldOff_run hf ρ n p w, Result.andThen_ok, Sem.run_pure]
    · cases h
  · rename_i x ho
    split at h
    · rename_i n p hp
      simp only [Option.some.injEq] at h
      subst h
      simp only [ho, he, hp, LV.den, Sem.run_pure]
    · cases h
  · rename_i fn first cap ho
    simp only [Option.some.injEq] at h
    subst h
    have e1 : first.map ev' = (denL ρ (first.toList.map ev)).toArray := Array.ext' (by rw [Array.toList_map, evals_toList he])
    have e2 : cap.map ev' = (denL ρ (cap.toList.map ev)).toArray := Array.ext' (by rw [Array.toList_map, evals_toList he])
    simp [ho, Instr.makeFunc, e1, e2, LV.den]
  · rename_i b args ats ho
    have e1 : args.map ev' = (denL ρ (args.toList.map ev)).toArray := Array.ext' (by rw [Array.toList_map, evals_toList he])
    split at h
    · rename_i us hus0
      have hus : plains (args.toList.map ev) = some us := by
        unfold pureArgs at hus0
        split at hus0
        · exact hus0
        · cases hus0
      split at h
      · rename_i u hu
        simp only [Option.some.injEq] at h
        subst h
        have := pureRun_run hu w
        simp only [ho, resolve, e1, plains_den hus, Sem.run_bind, Sem.run_pure, Result.andThen_ok, LV.den]
        exact this
      · cases h
    · split at h
      · rename_i t n p l c hat hargs _
        split at h
        · rename_i e hu
          simp only [Option.some.injEq] at h
          subst h
          have hat' : ats = #[t] := by cases ats; simp_all
          simp [ho, resolve, e1, hargs, hat', invoke, builtin, Builtin.len_, denL, LV.den, run_underlying hu, goInt]
        · cases h
      · rename_i t n p l c hat hargs _
        split at h
        · rename_i e hu
          simp only [Option.some.injEq] at h
          subst h
          have hat' : ats = #[t] := by cases ats; simp_all
          simp [ho, resolve, e1, hargs, hat', invoke, builtin, Builtin.cap_, denL, LV.den, run_underlying hu, goInt]
        · cases h
      · cases h
  · rename_i t x i ho
    split at h
    · rename_i n p kk z hx hi
      cases hf : arrOff P t z with
      | none => rw [hf] at h; cases h
      | some d =>
        rw [hf] at h
        simp only [Option.map_some, Option.some.injEq] at h
        subst h
        simp only [ho, he, hx, hi, LV.den, Sem.run_bind, arrOff_run hf ρ n p kk w, Result.andThen_ok, Sem.run_pure]
    · cases h
  · cases h
end

section
open Go Go.RowKit

def setAll {α : Type} : List α → Nat → List α → List α
  | l, _, [] => l
  | l, off, c :: cs => setAll (l.set off c) (off + 1) cs
theorem setAll_length {α : Type} : ∀ (cs l : List α) (off : Nat), (setAll l off cs).length = l.length
  | [], _, _ => rfl
  | c :: cs, l, off => by simp only [setAll, setAll_length cs, List.length_set]
theorem setAll_map {α β : Type} (f : α → β) : ∀ (cs l : List α) (off : Nat), (setAll l off cs).map f = setAll (l.map f) off (cs.map f)
  | [], _, _ => rfl
  | c :: cs, l, off => by simp only [setAll, setAll_map f cs, List.map_cons, List.map_set]
theorem foldl_setAll (off : Nat) : ∀ (cs : List Value) (k : Nat) (arr : Array Value), ((cs.zipIdx k).foldl (fun a p => a.setIfInBounds (off + p.2) p.1) arr).toList = setAll arr.toList (off + k) cs
  | [], _, _ => rfl
  | c :: cs, k, arr => by
    simp only [List.zipIdx_cons, List.foldl_cons, setAll]
    rw [foldl_setAll off cs (k + 1), Array.toList_setIfInBounds]
    rfl

/-- what a struct | an array has at its places -/
def fillL (place : Nat → Option (Nat × Nat)) (cells : List LV) : List (Nat × LV) → Option (List LV)
  | [] => some cells
  | (i, x) :: rest => match place i with
    | none => none
    | some (off, size) => if Nat.beq x.cells.length size && Nat.ble (off + size) cells.length then fillL place (setAll cells off x.cells) rest else none
def denP (ρ : Nm) (l : List (Nat × LV)) : List (Nat × Value) := l.map fun p => (p.1, p.2.den ρ)
theorem cells_size (ρ : Nm) (x : LV) : (x.den ρ).cells.size = x.cells.length := by
  rw [← Array.length_toList, LV.den_cells, denL_length]
theorem fillL_fill {ρ : Nm} {place : Nat → Option (Nat × Nat)} : ∀ (parts : List (Nat × LV)) (cells r : List LV), fillL place cells parts = some r → Instr.fill place (denL ρ cells).toArray (denP ρ parts) = some (denL ρ r).toArray
  | [], cells, r, h => by
    simp only [fillL, Option.some.injEq] at h
    subst h
    rfl
  | (i, x) :: rest, cells, r, h => by
    simp only [fillL] at h
    cases hp : place i with
    | none => rw [hp] at h; cases h
    | some os =>
      obtain ⟨off, size⟩ := os
      rw [hp] at h
      simp only at h
      split at h
      · rename_i hc
        simp only [Bool.and_eq_true] at hc
        have e1 := Nat.eq_of_beq_eq_true hc.1
        have e2 := Nat.le_of_ble_eq_true hc.2
        have hs : (x.den ρ).cells.size = size := by rw [cells_size, e1]
        simp only [denP, List.map_cons, Instr.fill, hp]
        have hno : (decide ((x.den ρ).cells.size ≠ size) || decide (off + (x.den ρ).cells.size > (denL ρ cells).toArray.size)) = false := by
          simp [hs, denL_length]; omega
        simp only [hno, Bool.false_eq_true, if_false]
        have ih := fillL_fill (ρ := ρ) rest _ r h
        rw [show denL ρ (setAll cells off x.cells) = setAll (denL ρ cells) off (denL ρ x.cells) from by rw [denL_eq, denL_eq, denL_eq, setAll_map]] at ih
        rw [← LV.den_cells] at ih
        have hf := foldl_setAll off (x.den ρ).cells.toList 0 (denL ρ cells).toArray
        rw [Nat.add_zero] at hf
        rw [← hf] at ih
        rw [← ih]
        congr 1
        rw [← Array.foldl_toList, Array.toList_zipIdx]
      · cases h
def buildL (P : Program) (t : TypeId) (parts : List (Nat × LV)) : Option (List LV) :=
  match P.info? t, P.underlying t with
  | some it, some (.array _ e) => match it.zero, P.info? e with
    | some z, some ie => fillL (fun i => some (i * ie.size, ie.size)) (z.cells.toList.map .v) parts
    | _, _ => none
  | some it, some (.struct fields) => match it.zero, fields.toList.mapM (fun f => (P.info? f.type).map fun i => (f.offset, i.size)) with
    | some z, some places => fillL (places[·]?) (z.cells.toList.map .v) parts
    | _, _ => none
  | _, _ => none
theorem denL_vs (ρ : Nm) (z : Array Value) : (denL ρ (z.toList.map .v)).toArray = z := by rw [denL_v]
theorem buildL_built {P : Program} {t : TypeId} {parts : List (Nat × LV)} {r : List LV} (h : buildL P t parts = some r) (ρ : Nm) : P.built t (denP ρ parts) = some (denL ρ r).toArray := by
  unfold buildL at h
  unfold Program.built
  split at h
  · rename_i it n e hi hu
    split at h
    · rename_i z ie hz hie
      have := fillL_fill (ρ := ρ) _ _ _ h
      rw [denL_vs] at this
      simp only [hi, hu, hz, hie, this]
    · cases h
  · rename_i it fs hi hu
    split at h
    · rename_i z places hz hp
      have := fillL_fill (ρ := ρ) _ _ _ h
      rw [denL_vs] at this
      simp only [hi, hu, hz, hp, List.getElem?_toArray, this]
    · cases h
  · cases h

/-- the cells of a new row of literals -/
def rowL (P : Program) (t : TypeId) (len : Nat) (parts : List (Nat × LV)) : Option (List LV) :=
  match P.underlying t with
  | some (.slice e) => match P.info? e with
    | some ie => match ie.zero with
      | some z => if Nat.ble (len * ie.size) 16777216 && !Nat.beq (len * ie.size) 0 then
          fillL (fun i => some (i * ie.size, ie.size)) (((Array.range (len * ie.size)).map (z.cells[· % z.cells.size]!)).toList.map .v) parts else none
      | none => none
    | none => none
  | _ => none
def rowElem (P : Program) (t : TypeId) : TypeId := match P.underlying t with
  | some (.slice e) => e
  | _ => 0
theorem rowL_run {P : Program} {t : TypeId} {len : Nat} {parts : List (Nat × LV)} {r : List LV} (h : rowL P t len parts = some r) (ρ : Nm) (w : World) :
    (Instr.buildSlice t len (denP ρ parts).toArray).run P w = .ok (.slice (some ⟨w.heap.size, 0, none⟩) len len) (w.alloc (.cells (denL ρ r).toArray (rowElem P t))) := by
  unfold rowL at h
  unfold rowElem
  split at h
  · rename_i e hu
    split at h
    · rename_i ie hi
      split at h
      · rename_i z hz
        split at h
        · rename_i hc
          simp only [Bool.and_eq_true, Bool.not_eq_true'] at hc
          have e1 := Nat.le_of_ble_eq_true hc.1
          have e2 : len * ie.size ≠ 0 := by
            intro e
            rw [e] at hc
            exact absurd hc.2 (by decide)
          have := fillL_fill (ρ := ρ) _ _ _ h
          rw [denL_vs] at this
          have e3 : ¬ (len * ie.size > 2 ^ 24) := by
            intro hg
            have : (2 : Nat) ^ 24 = 16777216 := by decide
            omega
          simp only [Instr.buildSlice, Sem.run_bind, run_underlying hu, Result.andThen_ok, sizeOf, typeInfo, hi, run_program, Sem.run_pure, e3, e2, if_false, zeroValue, hz, this, newRow, run_newObj]
          rfl
        · cases h
      · cases h
    · cases h
  · cases h

/-! ### Reading -/
def takeN : Nat → List LV → Option (List LV)
  | 0, _ => some []
  | n + 1, x :: xs => match takeN n xs with
    | some r => some (x :: r)
    | none => none
  | _ + 1, [] => none
theorem takeN_spec : ∀ {n : Nat} {l r : List LV}, takeN n l = some r → r.length = n ∧ ∀ (j : Nat) (v : LV), r[j]? = some v → l[j]? = some v
  | 0, l, r, h => by simp only [takeN, Option.some.injEq] at h; subst h; simp
  | n + 1, [], r, h => by simp [takeN] at h
  | n + 1, x :: xs, r, h => by
    simp only [takeN] at h
    split at h
    · rename_i r' hr
      simp only [Option.some.injEq] at h
      subst h
      have ih := takeN_spec hr
      refine ⟨by simp [ih.1], fun j v hv => ?_⟩
      cases j with
      | zero => exact hv
      | succ j => exact ih.2 j v hv
    · cases h
def loadL (P : Program) (t : TypeId) (cs : List LV) : Option LV :=
  match P.underlying t, P.info? t with
  | some (.struct _), some i => (takeN i.size cs).map .agg
  | some (.array _ _), some i => (takeN i.size cs).map .agg
  | some _, some _ => cs.head?
  | _, _ => none
theorem loadL_run {P : Program} {t : TypeId} {cs : List LV} {x : LV} (h : loadL P t cs = some x) {ρ : Nm} {n o : Nat} {w : World} (hc : ∀ j v, cs[j]? = some v → w.cell? (ρ.at_ n (o + j)) = some (v.den ρ)) :
    (Instr.loadAt t (.pointer (some (ρ.at_ n o)))).run P w = .ok (x.den ρ) w := by
  unfold loadL at h
  have key : ∀ (i : TypeInfo), P.info? t = some i → (isAgg t).run P w = .ok true w → (takeN i.size cs).map LV.agg = some x → (Instr.loadAt t (.pointer (some (ρ.at_ n o)))).run P w = .ok (x.den ρ) w := by
    intro i hi hag h
    cases ht : takeN i.size cs with
    | none => rw [ht] at h; cases h
    | some r =>
      rw [ht] at h
      simp only [Option.map_some, Option.some.injEq] at h
      subst h
      have hs := takeN_spec ht
      have hl := run_loadCells_list (P := P) w (ρ.at_ n o) (denL ρ r) (fun j v hv => by
        rw [denL_get] at hv
        cases hrj : r[j]? with
        | none => rw [hrj] at hv; cases hv
        | some u =>
          rw [hrj] at hv
          simp only [Option.map_some, Option.some.injEq] at hv
          subst hv
          rw [at_add]
          exact hc j u (hs.2 j u hrj))
      rw [denL_length, hs.1] at hl
      simp [Instr.loadAt, Instr.sureAddr, loadVar, hag, sizeOf, typeInfo, hi, hl, LV.den]
  split at h
  · rename_i fs i hu hi
    exact key i hi (by simp [isAgg, run_underlying hu]) h
  · rename_i a b i hu hi
    exact key i hi (by simp [isAgg, run_underlying hu]) h
  · rename_i d i hns hna hu hi
    have hag : (isAgg t).run P w = .ok false w := by
      simp only [isAgg, Sem.run_bind, run_underlying hu, Result.andThen_ok]
      cases d <;> first | rfl | exact absurd hu (by intro; exact hns _ rfl) | exact absurd hu (by intro; exact hna _ _ rfl)
    cases cs with
    | nil => cases h
    | cons c cs =>
      simp only [List.head?_cons, Option.some.injEq] at h
      subst h
      have := hc 0 c rfl
      rw [Nat.add_zero] at this
      simp [Instr.loadAt, Instr.sureAddr, loadVar, hag, this]
  · cases h

/-! ### Writing -/
def oneL : LV → Bool
  | .v x => x.oneCell'
  | .agg _ => false
  | .tup _ => false
  | _ => true
theorem oneL_den {x : LV} (h : oneL x = true) (ρ : Nm) : (x.den ρ).oneCell' = true := by
  cases x <;> first | exact h | rfl | cases h

section
variable {P : Program} {T : List Nat} {w0 w : World} {ρ : Nm} {rs : List Reg}
theorem Rel.set1 (h : Rel T w0 ρ rs w) {n : Nat} {r : Reg} (hn : rs[n]? = some r) (hw : r.wr = true) {i : Nat} (hi : i < r.cells.length) (x : LV) : Rel T w0 ρ (rs.set n ⟨r.cells.set i x, r.wr⟩) (w.setCell (ρ.at_ n i) (x.den ρ)) := by
  have hnl : n < rs.length := (List.getElem?_eq_some_iff.1 hn).1
  have hcases : ∀ m q, (rs.set n ⟨r.cells.set i x, r.wr⟩)[m]? = some q → (m = n ∧ q = ⟨r.cells.set i x, r.wr⟩) ∨ (m ≠ n ∧ rs[m]? = some q) := by
    intro m q hm
    rw [List.getElem?_set] at hm
    split at hm
    · rename_i e
      simp only [Option.some.injEq] at hm
      exact .inl ⟨e.symm, hm.symm⟩
    · rename_i e
      exact .inr ⟨fun e' => e e'.symm, hm⟩
  have hk := (h.wr n r hn hw).1
  refine ⟨h.keeps.setCell hk _, fun m q hm => ?_, fun m q hm j v hv => ?_, fun m q hm hq => ?_, fun a b q q' ha hb hab hq he => ?_⟩
  · rw [World.size_setCell]
    rcases hcases m q hm with ⟨rfl, rfl⟩ | ⟨_, hm⟩
    · exact h.lt _ _ hn
    · exact h.lt _ _ hm
  · rcases hcases m q hm with ⟨rfl, rfl⟩ | ⟨hne, hm⟩
    · simp only at hv
      rw [List.getElem?_set] at hv
      split at hv
      · rename_i e
        subst e
        simp only [Option.some.injEq] at hv
        subst hv
        exact World.cell?_setCell_same _ _ _ (h.cell _ _ hn i _ (List.getElem?_eq_getElem hi))
      · rename_i e
        rw [World.cell?_setCell_other]
        · exact h.cell _ _ hn j v hv
        · intro e'
          unfold Nm.at_ at e'
          injection e' with _ e' _
          omega
    · rw [World.cell?_setCell_other]
      · exact h.cell _ _ hm j v hv
      · intro e'
        unfold Nm.at_ at e'
        injection e' with e1 e2 _
        have hj := (List.getElem?_eq_some_iff.1 hv).1
        have := h.apart n m r q hn hm (Ne.symm hne) hw e1
        omega
  · rcases hcases m q hm with ⟨rfl, rfl⟩ | ⟨hne, hm⟩
    · refine ⟨hk, fun j hj => ?_⟩
      rw [World.frozen?_setCell]
      simp only [List.length_set] at hj
      exact (h.wr _ _ hn hw).2 j hj
    · refine ⟨(h.wr _ _ hm hq).1, fun j hj => ?_⟩
      rw [World.frozen?_setCell]
      exact (h.wr _ _ hm hq).2 j hj
  · rcases hcases a q ha with ⟨rfl, rfl⟩ | ⟨_, ha1⟩ <;> rcases hcases b q' hb with ⟨rfl, rfl⟩ | ⟨_, hb1⟩
    · exact absurd rfl hab
    · simp only [List.length_set]
      exact h.apart _ _ _ _ hn hb1 hab hw he
    · simp only [List.length_set]
      exact h.apart _ _ _ _ ha1 hn hab hq he
    · exact h.apart _ _ _ _ ha1 hb1 hab hq he
theorem Rel.stores : ∀ (cs : List LV) (j : Nat) {rs : List Reg} {w : World}, Rel T w0 ρ rs w → ∀ {n o : Nat} {r : Reg}, rs[n]? = some r → r.wr = true → cs.all oneL = true → o + j + cs.length ≤ r.cells.length →
    ∃ w', (storeCells (ρ.at_ n o) (denL ρ cs) j).run P w = .ok () w' ∧ Rel T w0 ρ (rs.set n ⟨setAll r.cells (o + j) cs, r.wr⟩) w' ∧ Kept (fun g => g = (ρ n).1) w w' ∧ Still (fun g i => g = (ρ n).1 → i < (ρ n).2 ∨ (ρ n).2 + r.cells.length ≤ i) w w'
  | [], j, rs, w, h, n, o, r, hn, _, _, _ => ⟨w, rfl, by
      rw [show rs.set n ⟨setAll r.cells (o + j) [], r.wr⟩ = rs from by
        obtain ⟨hl, he⟩ := List.getElem?_eq_some_iff.1 hn
        subst he
        exact List.set_getElem_self hl]
      exact h, Kept.refl _ _, Still.refl _ _⟩
  | c :: cs, j, rs, w, h, n, o, r, hn, hw, hone, hlen => by
    simp only [List.all_cons, Bool.and_eq_true, List.length_cons] at hone hlen
    have hnl := (List.getElem?_eq_some_iff.1 hn).1
    have hi : o + j < r.cells.length := by omega
    have h1 := h.set1 hn hw hi c
    have hn1 : (rs.set n ⟨r.cells.set (o + j) c, r.wr⟩)[n]? = some ⟨r.cells.set (o + j) c, r.wr⟩ := by simp [hnl]
    obtain ⟨w', hrun, hrel, hkept, hstill⟩ := Rel.stores cs (j + 1) h1 (o := o) hn1 hw hone.2 (by simp only [List.length_set]; omega)
    refine ⟨w', ?_, ?_, (Kept.setCell (S := fun g => g = (ρ n).1) w rfl _).trans hkept (fun x hx => .inl hx), (Still.setCell w (ρ.at_ n (o + j)) _ (fun i hi e => by
      have h2 := hi rfl
      have h3 : i = (ρ n).2 + (o + j) := e
      omega)).trans hstill (fun g i _ hi => by simpa only [List.length_set] using hi)⟩
    · simp only [denL, storeCells, Sem.run_bind, at_add]
      rw [run_store P w _ _ _ (oneL_den hone.1 ρ), h.cell n r hn _ _ (List.getElem?_eq_getElem hi)]
      simp only [(h.wr n r hn hw).2 _ hi, Bool.false_eq_true, if_false, Result.andThen_ok]
      exact hrun
    · simp only [List.set_set] at hrel
      exact hrel
end

/-- what an operation on memory leaves -/
def opMem (P : Program) (o : Oper) (ev : Operand → LV) (tmps : List LV) (rs : List Reg) : Option (LV × List Reg) :=
  match o.op with
  | .load t a => match ev a with
    | .ptr n off => match rs[n]? with
      | some r => (loadL P t (r.cells.drop off)).map fun x => (x, rs)
      | none => none
    | _ => none
  | .store t a x => match ev a with
    | .ptr n off => match rs[n]?, P.info? t with
      | some r, some i => if r.wr && (Nat.beq (ev x).cells.length i.size && ((ev x).cells.all oneL && Nat.ble (off + (ev x).cells.length) r.cells.length)) then some (.v undef, rs.set n ⟨setAll r.cells off (ev x).cells, r.wr⟩) else none
      | _, _ => none
    | _ => none
  | .alloc e => match P.info? e with
    | some i => match i.zero with
      | some z => if undL rs.length tmps && undR rs.length rs then some (.ptr rs.length 0, rs ++ [⟨z.cells.toList.map .v, true⟩]) else none
      | none => none
    | none => none
  | .box _ x => if undL rs.length tmps && (undR rs.length rs && undL rs.length (ev x).cells) then some (.ptr rs.length 0, rs ++ [⟨(ev x).cells, true⟩]) else none
  | .build t parts => (buildL P t (parts.toList.map fun p => (p.1, ev p.2))).map fun cs => (.agg cs, rs)
  | .buildSlice t len parts => match rowL P t len (parts.toList.map fun p => (p.1, ev p.2)) with
    | some cs => if undL rs.length tmps && (undR rs.length rs && undL rs.length cs) then some (.slc rs.length 0 len len, rs ++ [⟨cs, true⟩]) else none
    | none => none
  | _ => none

def act (ρ : Nm) (tmps : List LV) : Act := ⟨(denL ρ tmps).toArray, []⟩
def evalL (tmps : List LV) : Operand → LV
  | .tmp t => match tmps[t]? with
    | some x => x
    | none => .v undef
  | .const x => .v x
  | .global g => .v (.pointer (some ⟨g, 0, none⟩))
  | .func f => .v (.func (.func f) #[] #[])
theorem act_eval (ρ : Nm) (tmps : List LV) (x : Operand) : (act ρ tmps).eval x = (evalL tmps x).den ρ := by
  cases x with
  | tmp t =>
    simp only [Act.eval, act, evalL, Array.getD_eq_getD_getElem?, List.getElem?_toArray, denL_get]
    cases tmps[t]? <;> rfl
  | const x => rfl
  | global g => rfl
  | func f => rfl
theorem act_ext {k : Nat} {ρ ρ' : Nm} (h : Agree k ρ ρ') {tmps : List LV} (hb : undL k tmps = true) : act ρ' tmps = act ρ tmps := by
  unfold act
  rw [denL_ext h tmps hb]
def putL (tmps : List LV) (dst : Option Tmp) (x : LV) : List LV := match dst with
  | some d => tmps.set d x
  | none => tmps
theorem act_put (ρ : Nm) (tmps : List LV) (dst : Option Tmp) (x : LV) : (act ρ tmps).put dst (x.den ρ) = act ρ (putL tmps dst x) := by
  cases dst with
  | none => rfl
  | some d =>
    simp only [Act.put, act, putL, List.setIfInBounds_toArray, denL_eq, List.map_set]

def stepOp (P : Program) (o : Oper) (tmps : List LV) (rs : List Reg) : Option (LV × List Reg) :=
  match opPure P o (evalL tmps) with
  | some x => some (x, rs)
  | none => opMem P o (evalL tmps) tmps rs

/-- what a step has done -/
structure Stepped (P : Program) (T : List Nat) (w0 : World) (ρ : Nm) (tmps : List LV) (rs : List Reg) (w : World) (o : Oper) (x : LV) (rs' : List Reg) (ρ' : Nm) (w' : World) : Prop where
  agree : Agree rs.length ρ ρ'
  rel : Rel T w0 ρ' rs' w'
  kept : Kept (wrS ρ rs) w w'
  wrs : ∀ g, wrS ρ' rs' g → wrS ρ rs g ∨ w.heap.size ≤ g
  same : act ρ' tmps = act ρ tmps
  size : rs.length ≤ rs'.length
  stl : Still (OutR ρ rs) w w'
  out : ∀ g i, g < w.heap.size → OutR ρ rs g i → OutR ρ' rs' g i
  back : ∀ g i, OutR ρ' rs' g i → OutR ρ rs g i
  shape : ∀ (n : Nat) (r' : Reg), rs'[n]? = some r' → r'.wr = true → (∃ r, rs[n]? = some r ∧ r.wr = true ∧ r.cells.length = r'.cells.length) ∨ w.heap.size ≤ (ρ' n).1
  run : (execOp (act ρ tmps).eval o).run P w = .ok (.value (x.den ρ')) w' ∨ ((execOp (act ρ tmps).eval o).run P w = .ok .skip w' ∧ x.den ρ' = undef)

theorem wrS_app {ρ ρ' : Nm} {rs : List Reg} {c : Reg} {w : World} (ha : Agree rs.length ρ ρ') (hn : ρ' rs.length = (w.heap.size, 0)) (g : Nat) (h : wrS ρ' (rs ++ [c]) g) : wrS ρ rs g ∨ w.heap.size ≤ g := by
  obtain ⟨n, r, h1, h2, h3⟩ := h
  rcases Nat.lt_or_ge n rs.length with hl | hl
  · rw [List.getElem?_append_left hl] at h1
    exact .inl ⟨n, r, h1, h2, by rw [← h3, ha n hl]⟩
  · right
    have : n = rs.length := by
      rcases Nat.lt_or_ge n (rs.length + 1) with h0 | h0
      · omega
      · rw [List.getElem?_eq_none (by simp; omega)] at h1; cases h1
    subst this
    rw [← h3, hn]
    exact Nat.le_refl _
theorem denP_eq {ρ : Nm} {tmps : List LV} (parts : Array (Nat × Operand)) : (parts.map fun (i, x) => (i, (act ρ tmps).eval x)) = (denP ρ (parts.toList.map fun p => (p.1, evalL tmps p.2))).toArray := by
  apply Array.ext'
  simp only [Array.toList_map, denP, List.map_map]
  exact List.map_congr_left fun p _ => by simp only [Function.comp, act_eval]

section
variable {P : Program} {T : List Nat} {w0 w : World} {ρ : Nm} {rs : List Reg} {tmps : List LV} {o : Oper}
theorem Stepped.still {x : LV} (hR : Rel T w0 ρ rs w) (h : (execOp (act ρ tmps).eval o).run P w = .ok (.value (x.den ρ)) w) : Stepped P T w0 ρ tmps rs w o x rs ρ w :=
  ⟨Agree.refl _ _, hR, Kept.refl _ _, fun _ h => .inl h, rfl, Nat.le_refl _, Still.refl _ _, fun _ _ _ h => h, fun _ _ h => h, fun _ r hn hw => .inl ⟨r, hn, hw, rfl⟩, .inl h⟩
theorem OutR.app {ρ ρ' : Nm} {rs : List Reg} {c : Reg} {w : World} (ha : Agree rs.length ρ ρ') (hn : ρ' rs.length = (w.heap.size, 0)) (g i : Nat) (hg : g < w.heap.size) (h : OutR ρ rs g i) : OutR ρ' (rs ++ [c]) g i := by
  intro n r hr hw he
  rcases Nat.lt_or_ge n rs.length with hl | hl
  · rw [List.getElem?_append_left hl] at hr
    rw [ha n hl] at he ⊢
    exact h n r hr hw he
  · have : n = rs.length := by
      rcases Nat.lt_or_ge n (rs.length + 1) with h0 | h0
      · omega
      · rw [List.getElem?_eq_none (by simp; omega)] at hr; cases hr
    subst this
    rw [hn] at he
    simp only at he
    omega
theorem OutR.pre {ρ ρ' : Nm} {rs : List Reg} {c : Reg} (ha : Agree rs.length ρ ρ') (g i : Nat) (h : OutR ρ' (rs ++ [c]) g i) : OutR ρ rs g i := by
  intro n r hr hw he
  have hl := (List.getElem?_eq_some_iff.1 hr).1
  have := h n r (by rw [List.getElem?_append_left hl]; exact hr) hw (by rw [ha n hl]; exact he)
  rw [ha n hl] at this
  exact this
theorem shape_app {ρ' : Nm} {rs : List Reg} {c : Reg} {w : World} (hn : ρ' rs.length = (w.heap.size, 0)) (n : Nat) (r' : Reg) (h : (rs ++ [c])[n]? = some r') (hw : r'.wr = true) : (∃ r, rs[n]? = some r ∧ r.wr = true ∧ r.cells.length = r'.cells.length) ∨ w.heap.size ≤ (ρ' n).1 := by
  rcases Nat.lt_or_ge n rs.length with hl | hl
  · rw [List.getElem?_append_left hl] at h
    exact .inl ⟨r', h, hw, rfl⟩
  · right
    have : n = rs.length := by
      rcases Nat.lt_or_ge n (rs.length + 1) with h0 | h0
      · omega
      · rw [List.getElem?_eq_none (by simp; omega)] at h; cases h
    subst this
    rw [hn]
    exact Nat.le_refl _
theorem Stepped.made (hR : Rel T w0 ρ rs w) (ht : undL rs.length tmps = true) (hr : undR rs.length rs = true) {cs : List LV} (hc : undL rs.length cs = true) {e : TypeId} {x : LV}
    (h : ∀ ρ', ρ' rs.length = (w.heap.size, 0) → (execOp (act ρ tmps).eval o).run P w = .ok (.value (x.den ρ')) (w.alloc (.cells (denL ρ cs).toArray e))) :
    ∃ ρ' w', Stepped P T w0 ρ tmps rs w o x (rs ++ [⟨cs, true⟩]) ρ' w' := by
  obtain ⟨ρ', ha, hn, hR'⟩ := hR.alloc hr cs e hc true
  exact ⟨ρ', _, ha, hR', Kept.alloc _ _ _, wrS_app ha hn, act_ext ha ht, by simp, Still.of_blocks (fun k hk => Below.heap_alloc w _ k hk), OutR.app ha hn, OutR.pre ha, shape_app hn, .inl (h ρ' hn)⟩
theorem denV_und (k : Nat) (l : List Value) : undL k (l.map .v) = true := by
  induction l with
  | nil => rfl
  | cons x xs ih => simp only [List.map_cons, undL, LV.und, ih, Bool.and_self]
theorem stepOp_run {x : LV} {rs' : List Reg} (h : stepOp P o tmps rs = some (x, rs')) (hR : Rel T w0 ρ rs w) : ∃ ρ' w', Stepped P T w0 ρ tmps rs w o x rs' ρ' w' := by
  unfold stepOp at h
  split at h
  · rename_i y hy
    simp only [Option.some.injEq, Prod.mk.injEq] at h
    obtain ⟨rfl, rfl⟩ := h
    exact ⟨ρ, w, .still hR (opPure_run hy (act_eval ρ tmps) w)⟩
  · unfold opMem at h
    split at h
    · rename_i t a ho
      split at h
      · rename_i n off ha
        split at h
        · rename_i r hr
          cases hl : loadL P t (r.cells.drop off) with
          | none => rw [hl] at h; cases h
          | some y =>
            rw [hl] at h
            simp only [Option.map_some, Option.some.injEq, Prod.mk.injEq] at h
            obtain ⟨rfl, rfl⟩ := h
            have := loadL_run hl (ρ := ρ) (n := n) (o := off) (w := w) (fun j v hv => by
              rw [List.getElem?_drop] at hv
              exact hR.cell n r hr _ v hv)
            refine ⟨ρ, w, .still hR ?_⟩
            unfold execOp
            simp only [ho, act_eval, ha, LV.den, Sem.run_bind, this, Result.andThen_ok, Sem.run_pure]
        · cases h
      · cases h
    · rename_i t a y ho
      split at h
      · rename_i n off ha
        split at h
        · rename_i r i hr hi
          split at h
          · rename_i hc
            simp only [Bool.and_eq_true] at hc
            obtain ⟨hw, hsz, hone, hle⟩ := hc
            simp only [Option.some.injEq, Prod.mk.injEq] at h
            obtain ⟨rfl, rfl⟩ := h
            obtain ⟨w', hrun, hrel, hkept, hstill⟩ := Rel.stores (P := P) (evalL tmps y).cells 0 hR (o := off) hr hw hone (by have := Nat.le_of_ble_eq_true hle; omega)
            rw [Nat.add_zero] at hrel
            refine ⟨ρ, w', Agree.refl _ _, hrel, hkept.mono (fun x hx => .inl ⟨n, r, hr, hw, hx.symm⟩), fun g hg => ?_, rfl, by simp, hstill.mono (fun g i _ hi he => hi n r hr hw he.symm), fun g i _ hi m q hm hq he => ?_, fun g i hi m q hm hq he => ?_, fun m q hm hq => .inl ?_, .inr ⟨?_, rfl⟩⟩
            · obtain ⟨m, q, h1, h2, h3⟩ := hg
              left
              rw [List.getElem?_set] at h1
              split at h1
              · rename_i e
                subst e
                exact ⟨_, r, hr, hw, h3⟩
              · exact ⟨m, q, h1, h2, h3⟩
            · rw [List.getElem?_set] at hm
              split at hm
              · rename_i e
                subst e
                split at hm
                · injection hm with hm
                  rw [← hm, setAll_length]
                  exact hi _ r hr hw he
                · cases hm
              · exact hi m q hm hq he
            · by_cases e : n = m
              · subst e
                rw [hr] at hm
                injection hm with hm
                subst hm
                have h2 := hi n ⟨setAll r.cells off (evalL tmps y).cells, r.wr⟩ (by rw [List.getElem?_set, if_pos rfl, if_pos (List.getElem?_eq_some_iff.1 hr).1]) hw he
                simp only [setAll_length] at h2
                exact h2
              · exact hi m q (by rw [List.getElem?_set, if_neg e]; exact hm) hq he
            · rw [List.getElem?_set] at hm
              split at hm
              · rename_i e
                subst e
                split at hm
                · injection hm with hm
                  exact ⟨r, hr, hw, by rw [← hm, setAll_length]⟩
                · cases hm
              · exact ⟨q, hm, hq, rfl⟩
            · have hs : (LV.den ρ (evalL tmps y)).cells.size = i.size := by rw [cells_size]; exact Nat.eq_of_beq_eq_true hsz
              unfold execOp
              simp only [ho, act_eval, ha, LV.den, Instr.storeAt, Instr.sureAddr, storeVar, Sem.run_bind, Sem.run_pure, Result.andThen_ok, sizeOf, typeInfo, run_program, hi, hs, LV.den_cells, ne_eq, not_true_eq_false, if_false, hrun]
          · cases h
        · cases h
      · cases h
    · rename_i e ho
      split at h
      · rename_i i hi
        split at h
        · rename_i z hz
          split at h
          · rename_i hc
            simp only [Bool.and_eq_true] at hc
            simp only [Option.some.injEq, Prod.mk.injEq] at h
            obtain ⟨rfl, rfl⟩ := h
            refine Stepped.made (e := e) hR hc.1 hc.2 (denV_und _ _) (fun ρ' hn => ?_)
            unfold execOp
            simp [ho, Instr.alloc, zeroValue, typeInfo, hi, hz, newVar, newRow, LV.den, Nm.at_, hn, denL_v]
          · cases h
        · cases h
      · cases h
    · rename_i e y ho
      split at h
      · rename_i hc
        simp only [Bool.and_eq_true] at hc
        simp only [Option.some.injEq, Prod.mk.injEq] at h
        obtain ⟨rfl, rfl⟩ := h
        refine Stepped.made (e := e) hR hc.1 hc.2.1 hc.2.2 (fun ρ' hn => ?_)
        unfold execOp
        simp [ho, Instr.box, newVar, newRow, LV.den, Nm.at_, hn, act_eval, ← LV.den_cells]
      · cases h
    · rename_i t parts ho
      cases hb : buildL P t (parts.toList.map fun p => (p.1, evalL tmps p.2)) with
      | none => rw [hb] at h; cases h
      | some cs =>
        rw [hb] at h
        simp only [Option.map_some, Option.some.injEq, Prod.mk.injEq] at h
        obtain ⟨rfl, rfl⟩ := h
        refine ⟨ρ, w, .still hR ?_⟩
        have := run_build (P := P) w t (denP ρ (parts.toList.map fun p => (p.1, evalL tmps p.2))).toArray _ (buildL_built hb ρ)
        unfold execOp
        simp only [ho, denP_eq, Sem.run_bind, this, Result.andThen_ok, Sem.run_pure, LV.den]
    · rename_i t len parts ho
      split at h
      · rename_i cs hcs
        split at h
        · rename_i hc
          simp only [Bool.and_eq_true] at hc
          simp only [Option.some.injEq, Prod.mk.injEq] at h
          obtain ⟨rfl, rfl⟩ := h
          refine Stepped.made (e := rowElem P t) hR hc.1 hc.2.1 hc.2.2 (fun ρ' hn => ?_)
          have := rowL_run hcs ρ w
          unfold execOp
          simp only [ho, denP_eq, Sem.run_bind, this, Result.andThen_ok, Sem.run_pure, LV.den, Nm.at_, hn, Nat.add_zero]
        · cases h
      · cases h
    · cases h
end
end

section
open Go Go.RowKit

section
variable {P : Program} {ops : Array Oper} {Q : Exit → Act → World → Prop} {md : Region.Mode} {S : World → Prop} {u : Option Nat}

/-- the facts hold as long as u has not come up -/
def SL (u : Option Nat) (S : World → Prop) (listed : Array Bool) (w : World) : Prop := (∀ x, u = some x → listed.getD x false = false) → S w
def wpAnyL (P : Program) (md : Region.Mode) (ops : Array Oper) (Q : Exit → Act → World → Prop) (u : Option Nat) (S : World → Prop) : Nat → Array Bool → Act → World → Prop
  | 0, listed, a, w => Region.ready md ops listed = [] ∧ Q .normal a w
  | fuel + 1, listed, a, w =>
    (Region.ready md ops listed = [] → Q .normal a w) ∧
    ∀ i ∈ Region.ready md ops listed, wpOp P ops Q i (fun a' w' => SL u S (listed.setIfInBounds i true) w' ∧ wpAnyL P md ops Q u S fuel (listed.setIfInBounds i true) a' w') a w
theorem wpAny_of_L : ∀ (fuel : Nat) (listed : Array Bool) (a : Act) (w : World), wpAnyL P md ops Q u S fuel listed a w → wpAny P md ops Q fuel listed a w
  | 0, _, _, _, h => h
  | fuel + 1, _, _, _, h => ⟨h.1, fun i hi => wpOp_mono (fun a' w' h' => wpAny_of_L fuel _ a' w' h'.2) (h.2 i hi)⟩

/-- what has come up has come up behind what it waits for -/
def Closed (md : Region.Mode) (ops : Array Oper) (listed : Array Bool) : Prop := ∀ j oj, ops[j]? = some oj → listed.getD j false = true → ∀ e ∈ oj.after, Region.binds md e = true → listed.getD e.on false = true
theorem Closed.next {listed : Array Bool} (h : Closed md ops listed) {i : Nat} (hi : i ∈ Region.ready md ops listed) : Closed md ops (listed.setIfInBounds i true) := by
  intro j oj hj hl e he hb
  obtain ⟨_, o, ho, hall⟩ := mem_ready.1 hi
  by_cases hij : i = j
  · subst hij
    rw [ho] at hj
    injection hj with hj
    subst hj
    exact getD_set_true (hall e he hb)
  · rw [getD_set_ne false hij] at hl
    exact getD_set_true (h j oj hj hl e he hb)
theorem Closed.start (n : Nat) : Closed md ops (Array.replicate n false) := by
  intro j oj _ hl
  simp [Array.getElem?_replicate] at hl
  split at hl <;> simp at hl

/-- u waits for all of the set m -/
def okMask (md : Region.Mode) (ops : Array Oper) (u m : Nat) : Bool :=
  (List.range ops.size).all fun i => !m.testBit i || (List.range ops.size).any fun j => (Nat.beq j u || m.testBit j) && (Nat.blt i j && match ops[j]? with
    | some o => o.after.any fun e => Region.binds md e && Nat.beq e.on i
    | none => false)
theorem okMask_listed {x m : Nat} (h : okMask md ops x m = true) {listed : Array Bool} (hc : Closed md ops listed) (hx : ∀ o, ops[x]? = some o → ∀ e ∈ o.after, Region.binds md e = true → listed.getD e.on false = true) :
    ∀ (d i : Nat), ops.size ≤ i + d → i < ops.size → m.testBit i = true → listed.getD i false = true
  | 0, i, hd, hi, _ => by omega
  | d + 1, i, hd, hi, hm => by
    have h1 := List.all_eq_true.1 h i (List.mem_range.2 hi)
    rw [hm] at h1
    simp only [Bool.not_true, Bool.false_or, List.any_eq_true, List.mem_range, Bool.and_eq_true, Bool.or_eq_true] at h1
    obtain ⟨j, hj, hju, hij, h2⟩ := h1
    have hlt := blt_lt hij
    cases ho : ops[j]? with
    | none => rw [ho] at h2; cases h2
    | some o =>
      rw [ho] at h2
      simp only [Array.any_eq_true', Bool.and_eq_true] at h2
      obtain ⟨e, he, hb, hon⟩ := h2
      have hon' := Nat.eq_of_beq_eq_true hon
      subst hon'
      rcases hju with hju | hju
      · have := Nat.eq_of_beq_eq_true hju
        subst this
        exact hx o ho e he hb
      · exact hc j o ho (okMask_listed h hc hx d j (by omega) hj hju) e he hb

theorem wpAnyL_first {i m : Nat} {oi : Oper} {v : Value} (hi : ops[i]? = some oi) (hsel : ∀ (j : Nat) (o : Oper) cs b, ops[j]? = some o → o.op ≠ .select cs b)
    (hQ : ∀ c a w, Q (.panic c) (a.put oi.dst v) w → Q (.panic c) a w) (hu : ∀ x, u = some x → okMask md ops x m = true ∧ m.testBit i = true ∧ x ≠ i) :
    ∀ (fuel : Nat) (listed : Array Bool) (a : Act) (w : World), Closed md ops listed →
      (∀ j oj, ops[j]? = some oj → j ≠ i → listed.getD j true = false → (∀ e ∈ oj.after, Region.binds md e = true → e.on ≠ i) → oi.apart ops oj = true) →
      i ∈ Region.ready md ops listed → YieldsIf P ops S oi v a → S w →
      wpAnyL P md ops Q u S fuel (listed.setIfInBounds i true) (a.put oi.dst v) w → wpAnyL P md ops Q u S (fuel + 1) listed a w := by
  have hil : i < ops.size := (Array.getElem?_eq_some_iff.1 hi).1
  intro fuel
  induction fuel with
  | zero =>
    intro listed a w _ _ hr hy hS H
    refine ⟨fun h => (by rw [h] at hr; cases hr), fun j hj => ?_⟩
    by_cases hji : j = i
    · subst hji; exact hy.wpOp hi hS ⟨fun _ => hS, H⟩
    · have := ready_mono hj hji
      rw [H.1] at this
      cases this
  | succ fuel ih =>
    intro listed a w hcl hfree hr hy hS H
    refine ⟨fun h => (by rw [h] at hr; cases hr), fun j hj => ?_⟩
    by_cases hji : j = i
    · subst hji; exact hy.wpOp hi hS ⟨fun _ => hS, H⟩
    · have h1 := H.2 j (ready_mono hj hji)
      obtain ⟨hjun, oj, hoj, hall⟩ := mem_ready.1 hj
      have hiun := (mem_ready.1 hr).1
      have hiun' : listed.getD i false = false := by
        rcases Nat.lt_or_ge i listed.size with h' | h'
        · simp [h'] at hiun ⊢; exact hiun
        · simp [Array.getElem?_eq_none h']
      have hnot : ∀ e ∈ oj.after, Region.binds md e = true → e.on ≠ i := fun e he hb heq => by
        have h1 := hall e he hb
        rw [heq, hiun'] at h1
        cases h1
      have hju : ∀ x, u = some x → x ≠ j ∧ listed.getD x false = false := by
        intro x hx
        obtain ⟨ho, hm, _⟩ := hu x hx
        refine ⟨?_, ?_⟩
        · rintro rfl
          have := okMask_listed ho hcl (fun o ho' e he hb => hall e (by rw [hoj] at ho'; injection ho' with ho'; rw [ho']; exact he) hb) ops.size i (by omega) hil hm
          rw [hiun'] at this
          cases this
        · cases hl : listed.getD x false with
          | false => rfl
          | true =>
            have := okMask_listed ho hcl (fun o ho' e he hb => hcl x o ho' hl e he hb) ops.size i (by omega) hil hm
            rw [hiun'] at this
            cases this
      have h2 := wpOp_putIf hoj (hfree j oj hoj hji hjun hnot) (fun cs b => hsel i oi cs b hi) (fun cs b => hsel j oj cs b hoj) hQ hy h1
      have hfree' : ∀ k ok, ops[k]? = some ok → k ≠ i → (listed.setIfInBounds j true).getD k true = false →
          (∀ e ∈ ok.after, Region.binds md e = true → e.on ≠ i) → oi.apart ops ok = true := fun k ok hk hki hun hno => by
        refine hfree k ok hk hki ?_ hno
        by_cases hjk : j = k
        · subst hjk; exact hjun
        · rw [getD_set_ne true hjk] at hun; exact hun
      refine wpOp_mono (fun a' w' h3 => ?_) h2
      have hSw : S w' := h3.2.1 (fun x hx => by
        obtain ⟨hxj, hxl⟩ := hju x hx
        obtain ⟨_, _, hxi⟩ := hu x hx
        rw [getD_set_ne false (Ne.symm hxj), getD_set_ne false (Ne.symm hxi)]
        exact hxl)
      refine ⟨fun _ => hSw, ih (listed.setIfInBounds j true) a' w' (hcl.next hj) hfree' (ready_mono hr (Ne.symm hji)) h3.1 hSw ?_⟩
      rw [Array.setIfInBounds_comm _ _ hji]
      exact h3.2.2

/-- an operation that does not look at the memory may be taken at any time -/
theorem wpAnyL_pure {i : Nat} {oi : Oper} {v : Value} (hi : ops[i]? = some oi) (hsel : ∀ (j : Nat) (o : Oper) cs b, ops[j]? = some o → o.op ≠ .select cs b)
    (hQ : ∀ c a w, Q (.panic c) (a.put oi.dst v) w → Q (.panic c) a w) (hu : ∀ x, u = some x → x ≠ i) :
    ∀ (fuel : Nat) (listed : Array Bool) (a : Act) (w : World),
      (∀ j oj, ops[j]? = some oj → j ≠ i → listed.getD j true = false → (∀ e ∈ oj.after, Region.binds md e = true → e.on ≠ i) → oi.apart ops oj = true) →
      i ∈ Region.ready md ops listed → YieldsIf P ops (fun _ => True) oi v a → SL u S listed w →
      wpAnyL P md ops Q u S fuel (listed.setIfInBounds i true) (a.put oi.dst v) w → wpAnyL P md ops Q u S (fuel + 1) listed a w := by
  have hset : ∀ (l : Array Bool) (w : World), SL u S l w → SL u S (l.setIfInBounds i true) w := fun l w h hx => h fun x hux => by
    have := hx x hux
    rw [getD_set_ne false (Ne.symm (hu x hux))] at this
    exact this
  have hunset : ∀ (l : Array Bool) (w : World), SL u S (l.setIfInBounds i true) w → SL u S l w := fun l w h hx => h fun x hux => by
    rw [getD_set_ne false (Ne.symm (hu x hux))]
    exact hx x hux
  intro fuel
  induction fuel with
  | zero =>
    intro listed a w _ hr hy hS H
    refine ⟨fun h => (by rw [h] at hr; cases hr), fun j hj => ?_⟩
    by_cases hji : j = i
    · subst hji; exact hy.wpOp hi trivial ⟨hset _ _ hS, H⟩
    · have := ready_mono hj hji
      rw [H.1] at this
      cases this
  | succ fuel ih =>
    intro listed a w hfree hr hy hS H
    refine ⟨fun h => (by rw [h] at hr; cases hr), fun j hj => ?_⟩
    by_cases hji : j = i
    · subst hji; exact hy.wpOp hi trivial ⟨hset _ _ hS, H⟩
    · have h1 := H.2 j (ready_mono hj hji)
      obtain ⟨hjun, oj, hoj, hall⟩ := mem_ready.1 hj
      have hiun := (mem_ready.1 hr).1
      have hiun' : listed.getD i false = false := by
        rcases Nat.lt_or_ge i listed.size with h' | h'
        · simp [h'] at hiun ⊢; exact hiun
        · simp [Array.getElem?_eq_none h']
      have hnot : ∀ e ∈ oj.after, Region.binds md e = true → e.on ≠ i := fun e he hb heq => by
        have h1 := hall e he hb
        rw [heq, hiun'] at h1
        cases h1
      have h2 := wpOp_putIf hoj (hfree j oj hoj hji hjun hnot) (fun cs b => hsel i oi cs b hi) (fun cs b => hsel j oj cs b hoj) hQ hy h1
      have hfree' : ∀ k ok, ops[k]? = some ok → k ≠ i → (listed.setIfInBounds j true).getD k true = false →
          (∀ e ∈ ok.after, Region.binds md e = true → e.on ≠ i) → oi.apart ops ok = true := fun k ok hk hki hun hno => by
        refine hfree k ok hk hki ?_ hno
        by_cases hjk : j = k
        · subst hjk; exact hjun
        · rw [getD_set_ne true hjk] at hun; exact hun
      refine wpOp_mono (fun a' w' h3 => ?_) h2
      have hSw : SL u S (listed.setIfInBounds j true) w' := by
        have h4 := h3.2.1
        rw [Array.setIfInBounds_comm _ _ (Ne.symm hji)] at h4
        exact hunset _ _ h4
      refine ⟨hSw, ih (listed.setIfInBounds j true) a' w' hfree' (ready_mono hr (Ne.symm hji)) h3.1 hSw ?_⟩
      rw [Array.setIfInBounds_comm _ _ hji]
      exact h3.2.2

/-- it does not look at the memory -/
def pureOp (o : Oper) : Bool := match o.op with
  | .load _ _ => false
  | _ => true
def pureAt (ops : Array Oper) (i : Nat) : Bool := match ops[i]? with
  | some o => pureOp o
  | none => false
/-- what holds while it may come up -/
abbrev YS (o : Oper) (S : World → Prop) : World → Prop := fun w => pureOp o = false → S w
/-- one order: each operation's number, and whether it comes up alone; d: whether u has come up -/
def wpOrdU (P : Program) (ops : Array Oper) (Q : Exit → Act → World → Prop) (u : Option Nat) (S : World → Prop) : List (Nat × Bool) → Bool → Act → World → Prop
  | [], _, a, w => Q .normal a w
  | (i, false) :: r, d, a, w => ∃ o v, ops[i]? = some o ∧ YieldsIf P ops (YS o S) o v a ∧ wpOrdU P ops Q u S r d (a.put o.dst v) w
  | (i, true) :: r, d, a, w => wpOp P ops Q i (fun a' w' => ((d || u == some i) = false → S w') ∧ wpOrdU P ops Q u S r (d || u == some i) a' w') a w
/-- the order fits u: what is taken first is among those u waits for -/
def okU (ops : Array Oper) (u : Option Nat) (m : Nat) : List (Nat × Bool) → Bool → Bool
  | [], _ => true
  | (i, false) :: r, d => ((!d && (match u with | some x => m.testBit i && !Nat.beq x i | none => true)) || (pureAt ops i && match u with | some x => !Nat.beq x i | none => true)) && okU ops u m r d
  | (i, true) :: r, d => okU ops u m r (d || u == some i)

theorem wpAnyL_of_ord (hs : Region.noSelect ops = true) (hQ : ∀ c a d v w, Q (.panic c) (Act.put a d v) w → Q (.panic c) a w) {m : Nat} (hm : ∀ x, u = some x → okMask md ops x m = true) :
    ∀ (ord : List (Nat × Bool)) (d : Bool) (listed : Array Bool) (fuel : Nat) (a : Act) (w : World), okOrd md ops ord listed = true → okU ops u m ord d = true → ord.length ≤ fuel → Closed md ops listed →
      (d = true ↔ ∃ x, u = some x ∧ listed.getD x false = true) → (d = false → S w) → wpOrdU P ops Q u S ord d a w → wpAnyL P md ops Q u S fuel listed a w
  | [], d, listed, fuel, a, w, hok, _, _, _, _, _, h => by
    have hr : Region.ready md ops listed = [] := by simpa [okOrd] using hok
    cases fuel with
    | zero => exact ⟨hr, h⟩
    | succ n => exact ⟨fun _ => h, by rw [hr]; simp⟩
  | (i, false) :: r, d, listed, 0, a, w, _, _, hl, _, _, _, _ => absurd hl (by simp)
  | (i, true) :: r, d, listed, 0, a, w, _, _, hl, _, _, _, _ => absurd hl (by simp)
  | (i, false) :: r, d, listed, fuel + 1, a, w, hok, hu, hl, hcl, hd, hS, h => by
    obtain ⟨o, v, ho, hy, h⟩ := h
    simp only [okOrd, Bool.and_eq_true] at hok
    simp only [okU, Bool.and_eq_true, Bool.or_eq_true, Bool.not_eq_true'] at hu
    have hri : i ∈ Region.ready md ops listed := by simpa using hok.1.2
    have hui : ∀ x, u = some x → x ≠ i := by
      intro x hx
      have h2 : m.testBit i = true ∧ Nat.beq x i = false ∨ Nat.beq x i = false := by
        rcases hu.1 with h2 | h2
        · have h3 := h2.2
          rw [hx] at h3
          simp only [Bool.and_eq_true, Bool.not_eq_true'] at h3
          exact .inl h3
        · have h3 := h2.2
          rw [hx] at h3
          simp only [Bool.not_eq_true'] at h3
          exact .inr h3
      intro e
      rw [e] at h2
      simp at h2
    have hd2 : d = true ↔ ∃ x, u = some x ∧ (listed.setIfInBounds i true).getD x false = true := by
      rw [hd]
      constructor
      · rintro ⟨x, hx, hl⟩
        exact ⟨x, hx, getD_set_true hl⟩
      · rintro ⟨x, hx, hl⟩
        rw [getD_set_ne false (Ne.symm (hui x hx))] at hl
        exact ⟨x, hx, hl⟩
    have hrec := wpAnyL_of_ord hs hQ hm r d _ fuel _ w hok.2 hu.2 (by simpa using hl) (hcl.next hri) hd2 hS h
    cases hp : pureOp o with
    | true =>
      refine wpAnyL_pure ho (Region.noSelect_spec hs) (fun c a w => hQ c a _ _ w) hui fuel listed a w (Region.free_spec ho hok.1.1) hri ?_ (fun hx => hS ?_) hrec
      · exact hy.imp (fun ⟨h1, h2⟩ => ⟨h1, fun w _ => h2 w (fun h => by rw [hp] at h; cases h)⟩) id
      · cases d with
        | false => rfl
        | true =>
          obtain ⟨x, hux, hlx⟩ := hd.1 rfl
          rw [hx x hux] at hlx
          cases hlx
    | false =>
      have h0 := hu.1.resolve_right (fun h2 => by
        have h3 := h2.1
        unfold pureAt at h3
        rw [ho] at h3
        simp only [hp] at h3
        cases h3)
      have hux : ∀ x, u = some x → okMask md ops x m = true ∧ m.testBit i = true ∧ x ≠ i := by
        intro x hx
        have h2 := h0.2
        rw [hx] at h2
        simp only [Bool.and_eq_true] at h2
        exact ⟨hm x hx, h2.1, hui x hx⟩
      refine wpAnyL_first ho (Region.noSelect_spec hs) (fun c a w => hQ c a _ _ w) hux fuel listed a w hcl (Region.free_spec ho hok.1.1) hri ?_ (hS h0.1) hrec
      exact hy.imp (fun ⟨h1, h2⟩ => ⟨h1, fun w hS => h2 w (fun _ => hS)⟩) id
  | (i, true) :: r, d, listed, fuel + 1, a, w, hok, hu, hl, hcl, hd, _, h => by
    simp only [okOrd, Bool.and_eq_true, beq_iff_eq] at hok
    simp only [okU] at hu
    have hri : i ∈ Region.ready md ops listed := by rw [hok.1]; simp
    have hil : i < listed.size := by
      have := (mem_ready.1 hri).1
      rcases Nat.lt_or_ge i listed.size with h' | h'
      · exact h'
      · simp [Array.getElem?_eq_none h'] at this
    have hd' : (d || u == some i) = true ↔ ∃ x, u = some x ∧ (listed.setIfInBounds i true).getD x false = true := by
      rw [Bool.or_eq_true, hd, beq_iff_eq]
      constructor
      · rintro (⟨x, hx, hl⟩ | hx)
        · exact ⟨x, hx, getD_set_true hl⟩
        · exact ⟨i, hx, by simp [hil]⟩
      · rintro ⟨x, hx, hl⟩
        by_cases hxi : i = x
        · exact .inr (by rw [hx, hxi])
        · rw [getD_set_ne false hxi] at hl
          exact .inl ⟨x, hx, hl⟩
    refine ⟨fun h0 => absurd hri (by rw [h0]; simp), fun j hj => ?_⟩
    obtain rfl : j = i := by rw [hok.1] at hj; simpa using hj
    refine wpOp_mono (fun a' w' ⟨hS', h'⟩ => ⟨fun hno => ?_, ?_⟩) h
    · refine hS' ?_
      cases hdd : (d || u == some j) with
      | false => rfl
      | true =>
        obtain ⟨x, hx, hl⟩ := hd'.1 hdd
        rw [hno x hx] at hl
        cases hl
    · exact wpAnyL_of_ord hs hQ hm r _ _ fuel a' w' hok.2 hu (by simpa using hl) (hcl.next hri) hd' hS' h'

def okMaskU (ops : Array Oper) (u : Option Nat) (m : Nat) : Bool := match u with
  | some x => okMask .any ops x m
  | none => true
/-- THE BEGINNING -/
theorem wp_region_U {id : Nat} {a : Act} {w : World} (ord : List (Nat × Bool)) (u : Option Nat) (m : Nat) (S : World → Prop) (hmo : P.follows .mixedOrders = true) (hs : Region.noSelect ops = true)
    (hok : ordFast .any ops 0 ord = true) (hall : hasAll ops.size ord = true) (hlen : Nat.ble ord.length ops.size = true) (hu : okU ops u m ord false = true) (hm : okMaskU ops u m = true)
    (hQ : ∀ c a d v w, Q (.panic c) (Act.put a d v) w → Q (.panic c) a w)
    (hS : S w.drew) (h : wpOrdU P ops Q u S ord false a w.drew) : (Code.region id ops true).wp P Q a w := by
  refine wp_region_any hmo (wpAny_of_L (u := u) (S := S) _ _ _ _ ?_)
  refine wpAnyL_of_ord hs hQ (fun x hx => by subst hx; exact hm) ord false _ _ a _ (ord_of_fast hok hall) hu (Nat.le_of_ble_eq_true hlen) (Closed.start _) ?_ (fun _ => hS) h
  constructor
  · intro h; cases h
  · rintro ⟨x, _, hl⟩
    simp [Array.getElem?_replicate] at hl
    split at hl <;> simp at hl
end
end

section
open Go Go.RowKit

/-- what is still to be done, innermost first -/
inductive It where
  | code (c : Code)
  | blk (id : Nat)
  | ops (id : Nat) (ops : Array Oper) (i : Nat) (rest : List Oper)
  | rnd (n : Nat) (c : Code)
structure Cfg where
  k : List It
  tmps : List LV
  rs : List Reg
/-- at an operation (its region, its number) the value is written otherwise -/
structure Hint where
  r : Nat
  i : Nat
  old : LV
  new : LV

def post (P : Program) (Q : Exit → Act → World → Prop) : List It → Exit → Act → World → Prop
  | [] => Q
  | .code c :: k => Exit.then (c.wp P (post P Q k)) (post P Q k)
  | .blk id :: k => Exit.inBlock id (post P Q k)
  | .ops _ ops _ rest :: k => Exit.then (wpList P ops (post P Q k) rest) (post P Q k)
  | .rnd n c :: k => Exit.then (Code.rounds P c (post P Q k) n) (post P Q k)

def exitK (id : Nat) : List It → Option (List It)
  | [] => none
  | .blk id' :: k => if Nat.beq id id' then some k else exitK id k
  | _ :: k => exitK id k
section
variable {P : Program} {Q : Exit → Act → World → Prop}
theorem post_panic {c : List PanicEntry} {a : Act} {w : World} : ∀ k, post P Q k (.panic c) a w ↔ Q (.panic c) a w
  | [] => Iff.rfl
  | .code _ :: k => post_panic k
  | .blk _ :: k => post_panic k
  | .ops _ _ _ _ :: k => post_panic k
  | .rnd _ _ :: k => post_panic k
theorem post_ret {a : Act} {w : World} : ∀ k, post P Q k .ret a w ↔ Q .ret a w
  | [] => Iff.rfl
  | .code _ :: k => post_ret k
  | .blk _ :: k => post_ret k
  | .ops _ _ _ _ :: k => post_ret k
  | .rnd _ _ :: k => post_ret k
theorem post_exit {id : Nat} {a : Act} {w : World} : ∀ {k k'}, exitK id k = some k' → post P Q k' .normal a w → post P Q k (.exit id) a w
  | [], _, h, _ => by cases h
  | .code _ :: k, k', h, hp => post_exit (k := k) h hp
  | .ops _ _ _ _ :: k, k', h, hp => post_exit (k := k) h hp
  | .rnd _ _ :: k, k', h, hp => post_exit (k := k) h hp
  | .blk id' :: k, k', h, hp => by
    simp only [exitK] at h
    split at h
    · rename_i hb
      have := Nat.eq_of_beq_eq_true hb
      subst this
      injection h with h
      subst h
      simp only [post, Exit.inBlock, if_true]
      exact hp
    · rename_i hb
      have hne : id ≠ id' := by rintro rfl; simp at hb
      simp only [post, Exit.inBlock, hne, if_false]
      exact post_exit (k := k) h hp
theorem post_exit_none {id : Nat} {a : Act} {w : World} : ∀ {k}, exitK id k = none → Q (.exit id) a w → post P Q k (.exit id) a w
  | [], _, hp => hp
  | .code _ :: k, h, hp => post_exit_none (k := k) h hp
  | .ops _ _ _ _ :: k, h, hp => post_exit_none (k := k) h hp
  | .rnd _ _ :: k, h, hp => post_exit_none (k := k) h hp
  | .blk id' :: k, h, hp => by
    simp only [exitK] at h
    split at h
    · cases h
    · rename_i hb
      have hne : id ≠ id' := by rintro rfl; simp at hb
      simp only [post, Exit.inBlock, hne, if_false]
      exact post_exit_none (k := k) h hp
end

/-- is the operation wanted? -/
def wantL (ops : Array Oper) (tmps : List LV) (o : Oper) : Option Bool :=
  match o.guard with
  | none => some true
  | some (j, want) => match ops[j]? with
    | some oj => match oj.dst with
      | some d => match tmps[d]? with
        | some (.v (.bool b)) => some (b == want)
        | some (.v (.tuple _)) => some false
        | _ => none
      | none => some false
    | none => some false
theorem wantL_spec {ops : Array Oper} {tmps : List LV} {o : Oper} {b : Bool} (h : wantL ops tmps o = some b) (ρ : Nm) : Region.wanted o (yielded ops (act ρ tmps).tmps) = b := by
  unfold wantL at h
  unfold Region.wanted
  split at h
  · rename_i hg
    simp only [Option.some.injEq] at h
    subst h
    rw [hg]
  · rename_i j want hg
    rw [hg]
    unfold yielded act
    split at h
    · rename_i oj hoj
      split at h
      · rename_i d hd
        split at h
        · rename_i t ht
          simp only [Option.some.injEq] at h
          subst h
          simp [hoj, hd, denL_get, ht, LV.den]
        · rename_i t ht
          simp only [Option.some.injEq] at h
          subst h
          simp [hoj, hd, denL_get, ht, LV.den]
        · cases h
      · rename_i hd
        simp only [Option.some.injEq] at h
        subst h
        simp [hoj, hd]
    · rename_i hoj
      simp only [Option.some.injEq] at h
      subst h
      simp [hoj]

def findH : List Hint → Nat → Nat → Option Hint
  | [], _, _ => none
  | h :: hs, r, i => if Nat.beq h.r r && Nat.beq h.i i then some h else findH hs r i
/-- the value as it is written on, and the pair that is to be one -/
def hinted (hs : List Hint) (r i : Nat) (x : LV) : LV × List (LV × LV) :=
  match findH hs r i with
  | some h => (h.new, [(x, h.new)])
  | none => (x, [])

/-! ### Regions that draw -/
def isQuiet (o : Oper) : Bool := match o.op with
  | .call { callee := .builtin .len, .. } => true
  | .call { callee := .builtin .cap, .. } => true
  | .call { callee := .builtin .min, .. } => true
  | .call { callee := .builtin .max, .. } => true
  | .call _ => false
  | .alloc _ => false
  | .box _ _ => false
  | .buildSlice _ _ _ => false
  | .store _ _ _ => false
  | .makeMap _ _ => false
  | .makeSlice _ _ _ => false
  | .mapUpdate _ _ _ _ => false
  | .insert _ _ _ _ => false
  | .mapEntry _ _ _ => false
  | .entryStore _ _ _ _ => false
  | .range _ _ => false
  | .next _ _ => false
  | .lookup _ _ _ _ => false
  | _ => true
def readyB (m : Nat) (o : Oper) : Bool := o.after.toList.all fun e => !Region.binds .any e || m.testBit e.on
def passQ (sp : List Nat) : List (Nat × Oper) → Nat → List (Nat × Bool) → List (Nat × Oper) → Nat × List (Nat × Bool) × List (Nat × Oper)
  | [], m, acc, rem => (m, acc, rem.reverse)
  | (i, o) :: l, m, acc, rem => if isQuiet o && (readyB m o && !sp.contains i) then passQ sp l (m ||| 2 ^ i) ((i, false) :: acc) rem else passQ sp l m acc ((i, o) :: rem)
def mkOrdB (sp : List Nat) : Nat → List (Nat × Oper) → Nat → List (Nat × Bool) → List (Nat × Bool)
  | 0, _, _, acc => acc.reverse
  | f + 1, l, m, acc =>
    match passQ sp l m acc [] with
    | (m', acc', rem) => match rem.find? (fun p => readyB m' p.2) with
      | some p => mkOrdB sp f (rem.filter fun q => !Nat.beq q.1 p.1) (m' ||| 2 ^ p.1) ((p.1, true) :: acc')
      | none => acc'.reverse
def enumFrom : Nat → List Oper → List (Nat × Oper)
  | _, [] => []
  | i, o :: l => (i, o) :: enumFrom (i + 1) l
/-- the order; sp: numbers that come up alone though they only read -/
def ordOf (sp : List Nat) (ops : Array Oper) : List (Nat × Bool) := mkOrdB sp ops.size (enumFrom 0 ops.toList) 0 []
/-- the first of the last operations, which all come up alone -/
def gateOld : List (Nat × Bool) → Option Nat → Option Nat
  | [], g => g
  | (_, false) :: r, _ => gateOld r none
  | (i, true) :: r, none => gateOld r (some i)
  | (_, true) :: r, some g => gateOld r (some g)
/-- the same, where behind it there are operations that do not look at the memory -/
def gateP (ops : Array Oper) : List (Nat × Bool) → Option Nat → Option Nat
  | [], g => g
  | (i, false) :: r, g => gateP ops r (match pureAt ops i with | true => g | false => none)
  | (i, true) :: r, none => gateP ops r (some i)
  | (_, true) :: r, some g => gateP ops r (some g)
/-- all that u waits for -/
def maskOf (ops : Array Oper) (u : Nat) : Nat := (Region.before ops).getD u 0
/-- (where a store would come ahead of it: that store, if it may be) -/
def gateOf (ops : Array Oper) (l : List (Nat × Bool)) : Option Nat := match gateP ops l none with
  | some x => match ops[x]? with
    | some o => match o.op with
      | .store _ _ _ => match okU ops (some x) (maskOf ops x) l false with
        | true => some x
        | false => gateOld l none
      | _ => gateOld l none
    | none => gateOld l none
  | none => gateOld l none
def hasFalse (l : List (Nat × Bool)) : Bool := l.any fun p => !p.2
/-- is the order one? -/
def drawOk (P : Program) (ops : Array Oper) (ord : List (Nat × Bool)) (u : Option Nat) : Bool :=
  P.follows .mixedOrders && (Region.noSelect ops && (ordMask .any ops ord && (hasMask ops.size ord && (Nat.ble ord.length ops.size &&
    (okU ops u (match u with | some x => maskOf ops x | none => 0) ord false && okMaskU ops u (match u with | some x => maskOf ops x | none => 0))))))

/-- an operation that only reads what was there -/
def quietOp (P : Program) (o : Oper) (tmps : List LV) (snap : List Reg) : Option LV :=
  match opPure P o (evalL tmps) with
  | some x => some x
  | none => match o.op with
    | .load t a => match evalL tmps a with
      | .ptr n off => match snap[n]? with
        | some r => loadL P t (r.cells.drop off)
        | none => none
      | _ => none
    | .build t parts => (buildL P t (parts.toList.map fun p => (p.1, evalL tmps p.2))).map .agg
    | _ => none
/-- an operation that leaves what was there -/
def keepOp (P : Program) (o : Oper) (tmps : List LV) (rs : List Reg) (base : Nat) : Option (LV × List Reg) :=
  match o.op with
  | .store _ a _ => match evalL tmps a with
    | .ptr n _ => if Nat.ble base n then stepOp P o tmps rs else none
    | _ => none
  | _ => stepOp P o tmps rs
def ordStep (P : Program) (hs : List Hint) (id : Nat) (ops : Array Oper) (u : Option Nat) (snap : List Reg) (p : Nat × Bool) (d : Bool) (tmps : List LV) (rs : List Reg) : Option (List LV × List Reg × List (LV × LV)) :=
  match ops[p.1]? with
  | none => none
  | some o => match wantL ops tmps o with
    | none => none
    | some false => some (putL tmps o.dst (.v undef), rs, [])
    | some true => match p.2 with
      | false => match quietOp P o tmps snap with
        | some x => match hinted hs id p.1 x with
          | (x', prs) => some (putL tmps o.dst x', rs, prs)
        | none => none
      | true => match (bif d || u == some p.1 then stepOp P o tmps rs else keepOp P o tmps rs snap.length) with
        | some (x, rs') => match hinted hs id p.1 x with
          | (x', prs) => some (putL tmps o.dst x', rs', prs)
        | none => none

/-- the list written out -/
def spine {α β : Type} : List α → (List α → β) → β
  | [], k => k []
  | x :: xs, k => spine xs fun ys => k (x :: ys)
theorem spine_eq {α β : Type} (l : List α) (k : List α → β) : spine l k = k l := by
  induction l generalizing k with
  | nil => rfl
  | cons x xs ih => exact ih _
def nextD (u : Option Nat) (p : Nat × Bool) (d : Bool) : Bool := match p.2 with
  | true => d || u == some p.1
  | false => d
def ordRun (P : Program) (hs : List Hint) (id : Nat) (ops : Array Oper) (u : Option Nat) (snap : List Reg) : List (Nat × Bool) → Bool → List LV → List Reg → Option (List LV × List Reg × List (LV × LV))
  | [], _, t, rs => some (t, rs, [])
  | p :: r, d, t, rs => match ordStep P hs id ops u snap p d t rs with
    | some (t', rs', prs) => spine t' fun t' => match ordRun P hs id ops u snap r (nextD u p d) t' rs' with
      | some (t2, rs2, prs2) => some (t2, rs2, prs ++ prs2)
      | none => none
    | none => none
/-- the same, as far as it goes -/
def ordGo (P : Program) (hs : List Hint) (id : Nat) (ops : Array Oper) (u : Option Nat) (snap : List Reg) : List (Nat × Bool) → Bool → List LV → List Reg → (List (Nat × Bool) × Bool × List LV × List Reg) × List (LV × LV)
  | [], d, t, rs => (([], d, t, rs), [])
  | p :: r, d, t, rs => match ordStep P hs id ops u snap p d t rs with
    | some (t', rs', prs) => spine t' fun t' => match ordGo P hs id ops u snap r (nextD u p d) t' rs' with
      | (c, prs2) => (c, prs ++ prs2)
    | none => ((p :: r, d, t, rs), [])
def drawRun (P : Program) (hs : List Hint) (id : Nat) (ops : Array Oper) (ord : List (Nat × Bool)) (u : Option Nat) (t : List LV) (rs : List Reg) : Option (List LV × List Reg × List (LV × LV)) :=
  if drawOk P ops ord u && undR rs.length rs then ordRun P hs id ops u rs ord false t rs else none
def step1 (P : Program) (hs : List Hint) : Cfg → Option (Cfg × List (LV × LV))
  | ⟨[], _, _⟩ => none
  | ⟨.blk _ :: k, t, rs⟩ => some (⟨k, t, rs⟩, [])
  | ⟨.code c :: k, t, rs⟩ => match c with
    | .skip => some (⟨k, t, rs⟩, [])
    | .label _ => some (⟨k, t, rs⟩, [])
    | .seq a b => some (⟨.code a :: .code b :: k, t, rs⟩, [])
    | .cond c a b => match evalL t c with
      | .v (.bool true) => some (⟨.code a :: k, t, rs⟩, [])
      | .v (.bool false) => some (⟨.code b :: k, t, rs⟩, [])
      | _ => none
    | .block id c => some (⟨.code c :: .blk id :: k, t, rs⟩, [])
    | .exit id => match exitK id k with
      | some k' => some (⟨k', t, rs⟩, [])
      | none => none
    | .region id ops false => some (⟨.ops id ops 0 ops.toList :: k, t, rs⟩, [])
    | .region id ops true => match drawRun P hs id ops (ordOf [] ops) (gateOf ops (ordOf [] ops)) t rs with
      | some (t', rs', prs) => some (⟨k, t', rs'⟩, prs)
      | none => none
    | _ => none
  | ⟨.rnd n c :: k, t, rs⟩ => match n with
    | 0 => none
    | n + 1 => some (⟨.code c :: .rnd n c :: k, t, rs⟩, [])
  | ⟨.ops _ _ _ [] :: k, t, rs⟩ => some (⟨k, t, rs⟩, [])
  | ⟨.ops id ops i (o :: rest) :: k, t, rs⟩ => match wantL ops t o with
    | some true => match stepOp P o t rs with
      | some (x, rs') => match hinted hs id i x with
        | (x', prs) => some (⟨.ops id ops (i + 1) rest :: k, putL t o.dst x', rs'⟩, prs)
      | none => none
    | some false => some (⟨.ops id ops (i + 1) rest :: k, putL t o.dst (.v undef), rs⟩, [])
    | none => none
def run (P : Program) (hs : List Hint) : Nat → Cfg → Cfg × List (LV × LV)
  | 0, c => (c, [])
  | n + 1, c => match step1 P hs c with
    | none => (c, [])
    | some (⟨k, t, rs⟩, prs) => spine t fun t => spine rs fun rs => match run P hs n ⟨k, t, rs⟩ with
      | (c', prs') => (c', prs ++ prs')
end

section
open Go Go.RowKit

/-- how the places and the world have moved on -/
structure Moved (ρ : Nm) (rs : List Reg) (w : World) (ρ' : Nm) (rs' : List Reg) (w' : World) : Prop where
  agree : Agree rs.length ρ ρ'
  kept : Kept (wrS ρ rs) w w'
  wrs : ∀ g, wrS ρ' rs' g → wrS ρ rs g ∨ w.heap.size ≤ g
  size : rs.length ≤ rs'.length
  still : Still (OutR ρ rs) w w'
  out : ∀ g i, g < w.heap.size → OutR ρ rs g i → OutR ρ' rs' g i
  back : ∀ g i, OutR ρ' rs' g i → OutR ρ rs g i
  shape : ∀ (n : Nat) (r' : Reg), rs'[n]? = some r' → r'.wr = true → (∃ r, rs[n]? = some r ∧ r.wr = true ∧ r.cells.length = r'.cells.length) ∨ w.heap.size ≤ (ρ' n).1
theorem Moved.refl (ρ : Nm) (rs : List Reg) (w : World) : Moved ρ rs w ρ rs w := ⟨Agree.refl _ _, Kept.refl _ _, fun _ h => .inl h, Nat.le_refl _, Still.refl _ _, fun _ _ _ h => h, fun _ _ h => h, fun _ r hn hw => .inl ⟨r, hn, hw, rfl⟩⟩
theorem Moved.trans {ρ ρ' ρ'' : Nm} {rs rs' rs'' : List Reg} {w w' w'' : World} (h : Moved ρ rs w ρ' rs' w') (h' : Moved ρ' rs' w' ρ'' rs'' w'') : Moved ρ rs w ρ'' rs'' w'' :=
  ⟨h.agree.trans h'.agree h.size, h.kept.trans h'.kept h.wrs, fun g hg => (h'.wrs g hg).elim (h.wrs g) (fun hx => .inr (Nat.le_trans h.kept.size hx)), Nat.le_trans h.size h'.size, h.still.trans h'.still h.out, fun g i hg ho => h'.out g i (Nat.lt_of_lt_of_le hg h.kept.size) (h.out g i hg ho), fun g i ho => h.back g i (h'.back g i ho), fun n r hn hw => (h'.shape n r hn hw).elim (fun ⟨q, h1, h2, h3⟩ => (h.shape n q h1 h2).elim (fun ⟨q', h4, h5, h6⟩ => .inl ⟨q', h4, h5, h6.trans h3⟩) (fun h4 => .inr (by rw [h'.agree n (List.getElem?_eq_some_iff.1 h1).1]; exact h4))) (fun hx => .inr (Nat.le_trans h.kept.size hx))⟩

/-- what was read at the beginning of a region still stands -/
def Snap (ρ : Nm) (snap : List Reg) (w : World) : Prop := ∀ (n : Nat) (r : Reg), snap[n]? = some r → ∀ (i : Nat) (v : LV), r.cells[i]? = some v → w.cell? (ρ.at_ n i) = some (v.den ρ)
theorem undR_den {k : Nat} {rs : List Reg} (h : undR k rs = true) {n i : Nat} {r : Reg} {v : LV} (hn : rs[n]? = some r) (hv : r.cells[i]? = some v) : v.und k = true :=
  undL_mem (List.all_eq_true.1 h r (List.mem_of_getElem? hn)) (List.mem_of_getElem? hv)
theorem Rel.snap {T : List Nat} {w0 w : World} {ρ ρs : Nm} {rs snap : List Reg} (h : Rel T w0 ρ rs w) (hp : rs.take snap.length = snap) (ha : Agree snap.length ρs ρ) (hu : undR snap.length snap = true) : Snap ρs snap w := by
  intro n r hn i v hv
  have hl : n < snap.length := (List.getElem?_eq_some_iff.1 hn).1
  have hr : rs[n]? = some r := by
    have e := congrArg (fun l => l[n]?) hp
    simp only [List.getElem?_take, if_pos hl] at e
    rw [e]
    exact hn
  have := h.cell n r hr i v hv
  unfold Nm.at_ at *
  rw [ha n hl, LV.den_ext ha v (undR_den hu hn hv)] at this
  exact this

/-- the pairs are one, wherever the places lie that agree with these -/
def Pairs (k0 : Nat) (ρ0 : Nm) (prs : List (LV × LV)) : Prop := ∀ p ∈ prs, ∀ ρ', Agree k0 ρ0 ρ' → p.1.den ρ' = p.2.den ρ'
theorem hinted_den {hs : List Hint} {r i : Nat} {x : LV} {k0 : Nat} {ρ0 ρ : Nm} (hp : Pairs k0 ρ0 (hinted hs r i x).2) (ha : Agree k0 ρ0 ρ) : (hinted hs r i x).1.den ρ = x.den ρ := by
  unfold hinted at hp ⊢
  split at hp
  · rename_i h hf
    exact (hp (x, h.new) (List.mem_singleton.2 rfl) ρ ha).symm
  · rfl

section
variable {P : Program} {Q : Exit → Act → World → Prop} {T : List Nat} {w0 : World}
theorem putL_act {ρ ρ' : Nm} {t : List LV} (hs : act ρ' t = act ρ t) (dst : Option Tmp) (x x' : LV) (hx : x'.den ρ' = x.den ρ') : (act ρ t).put dst (x.den ρ') = act ρ' (putL t dst x') := by
  rw [← act_put ρ' t dst x', hx, hs]
theorem upon_stepped {o : Oper} {ρ ρ' : Nm} {t : List LV} {rs rs' : List Reg} {w w' : World} {x x' : LV} {K : Act → World → Prop} (h : Stepped P T w0 ρ t rs w o x rs' ρ' w') (hx : x'.den ρ' = x.den ρ') (hK : K (act ρ' (putL t o.dst x')) w') : o.wp P (act ρ t) w K Q := by
  unfold Oper.wp
  rcases h.run with h1 | ⟨h1, h2⟩
  · rw [h1]
    simp only [Oper.upon, putL_act h.same o.dst x x' hx]
    exact hK
  · rw [h1]
    simp only [Oper.upon]
    rw [← h2, putL_act h.same o.dst x x' hx]
    exact hK

theorem stepOp_prefix {o : Oper} {t : List LV} {rs rs' : List Reg} {x : LV} (h : stepOp P o t rs = some (x, rs')) (hno : ∀ ty a y, o.op ≠ .store ty a y) : rs' = rs ∨ ∃ c, rs' = rs ++ [c] := by
  unfold stepOp at h
  split at h
  · simp only [Option.some.injEq, Prod.mk.injEq] at h
    exact .inl h.2.symm
  · unfold opMem at h
    split at h
    · split at h
      · split at h
        · rename_i r _
          cases hl : loadL P _ (r.cells.drop _) with
          | none => rw [hl] at h; cases h
          | some y =>
            rw [hl] at h
            simp only [Option.map_some, Option.some.injEq, Prod.mk.injEq] at h
            exact .inl h.2.symm
        · cases h
      · cases h
    · rename_i ho
      exact absurd ho (hno _ _ _)
    · split at h
      · split at h
        · split at h
          · simp only [Option.some.injEq, Prod.mk.injEq] at h
            exact .inr ⟨_, h.2.symm⟩
          · cases h
        · cases h
      · cases h
    · split at h
      · simp only [Option.some.injEq, Prod.mk.injEq] at h
        exact .inr ⟨_, h.2.symm⟩
      · cases h
    · rename_i parts _
      cases hb : buildL P _ (parts.toList.map fun p => (p.1, evalL t p.2)) with
      | none => rw [hb] at h; cases h
      | some cs =>
        rw [hb] at h
        simp only [Option.map_some, Option.some.injEq, Prod.mk.injEq] at h
        exact .inl h.2.symm
    · split at h
      · split at h
        · simp only [Option.some.injEq, Prod.mk.injEq] at h
          exact .inr ⟨_, h.2.symm⟩
        · cases h
      · cases h
    · cases h
theorem keepOp_spec {o : Oper} {t : List LV} {rs rs' : List Reg} {x : LV} {base : Nat} (h : keepOp P o t rs base = some (x, rs')) (hb : base ≤ rs.length) : stepOp P o t rs = some (x, rs') ∧ rs'.take base = rs.take base := by
  unfold keepOp at h
  split at h
  · rename_i ty a y ho
    split at h
    · rename_i n off ha
      split at h
      · rename_i hn
        refine ⟨h, ?_⟩
        have hnb := Nat.le_of_ble_eq_true hn
        unfold stepOp at h
        split at h
        · simp only [Option.some.injEq, Prod.mk.injEq] at h
          rw [h.2]
        · simp only [opMem, ho, ha] at h
          split at h
          · split at h
            · simp only [Option.some.injEq, Prod.mk.injEq] at h
              rw [← h.2, List.take_set, List.set_eq_of_length_le (by simp; omega)]
            · cases h
          · cases h
      · cases h
    · cases h
  · rename_i hno
    refine ⟨h, ?_⟩
    rcases stepOp_prefix h (fun ty a y e => hno ty a y e) with rfl | ⟨c, rfl⟩
    · rfl
    · rw [List.take_append_of_le_length hb]

theorem quietOp_yields {o : Oper} {t : List LV} {snap : List Reg} {x : LV} (h : quietOp P o t snap = some x) {ρ ρs : Nm} (ha : Agree snap.length ρs ρ) (hu : undR snap.length snap = true) (w : World) (hS : YS o (Snap ρs snap) w) :
    (execOp (act ρ t).eval o).run P w = .ok (.value (x.den ρ)) w := by
  unfold quietOp at h
  split at h
  · rename_i y hy
    simp only [Option.some.injEq] at h
    subst h
    exact opPure_run hy (act_eval ρ t) w
  · split at h
    · rename_i ty a ho
      split at h
      · rename_i n off hev
        split at h
        · rename_i r hr
          have := loadL_run h (ρ := ρ) (n := n) (o := off) (w := w) (fun j v hv => by
            rw [List.getElem?_drop] at hv
            have h1 := hS (by simp only [pureOp, ho]) n r hr _ v hv
            have hl : n < snap.length := (List.getElem?_eq_some_iff.1 hr).1
            unfold Nm.at_ at *
            rw [ha n hl, LV.den_ext ha v (undR_den hu hr hv)]
            exact h1)
          unfold execOp
          simp only [ho, act_eval, hev, LV.den, Sem.run_bind, this, Result.andThen_ok, Sem.run_pure]
        · cases h
      · cases h
    · rename_i ty parts ho
      cases hb : buildL P ty (parts.toList.map fun p => (p.1, evalL t p.2)) with
      | none => rw [hb] at h; cases h
      | some cs =>
        rw [hb] at h
        simp only [Option.map_some, Option.some.injEq] at h
        subst h
        have := run_build (P := P) w ty (denP ρ (parts.toList.map fun p => (p.1, evalL t p.2))).toArray _ (buildL_built hb ρ)
        unfold execOp
        simp only [ho, denP_eq, Sem.run_bind, this, Result.andThen_ok, Sem.run_pure, LV.den]
    · cases h

theorem ordStep_sound {hs : List Hint} {id : Nat} {ops : Array Oper} {u : Option Nat} {snap : List Reg} {p : Nat × Bool} {d : Bool} {t t' : List LV} {rs rs' : List Reg} {prs : List (LV × LV)} {r : List (Nat × Bool)} {ρ ρs ρ0 : Nm} {k0 : Nat} {w : World}
    (h : ordStep P hs id ops u snap p d t rs = some (t', rs', prs)) (hp : Pairs k0 ρ0 prs) (h0 : Agree k0 ρ0 ρ) (hk : k0 ≤ rs.length) (hR : Rel T w0 ρ rs w) (ha : Agree snap.length ρs ρ) (hu : undR snap.length snap = true)
    (hb : snap.length ≤ rs.length) (hpre : d = false → rs.take snap.length = snap)
    (next : ∀ ρ' w', Moved ρ rs w ρ' rs' w' → Rel T w0 ρ' rs' w' → (nextD u p d = false → rs'.take snap.length = snap) → wpOrdU P ops Q u (Snap ρs snap) r (nextD u p d) (act ρ' t') w') :
    wpOrdU P ops Q u (Snap ρs snap) (p :: r) d (act ρ t) w := by
  obtain ⟨i, b⟩ := p
  unfold ordStep at h
  simp only at h
  split at h
  · cases h
  · rename_i o ho
    split at h
    · cases h
    · rename_i hw
      simp only [Option.some.injEq, Prod.mk.injEq] at h
      obtain ⟨rfl, rfl, rfl⟩ := h
      have hw' := wantL_spec hw ρ
      cases b with
      | false =>
        refine ⟨o, undef, ho, .inr ⟨hw', rfl⟩, ?_⟩
        have := next ρ w (Moved.refl _ _ _) hR hpre
        rw [← act_put ρ t o.dst (.v undef)] at this
        exact this
      | true =>
        show wpOp P ops Q i _ (act ρ t) w
        unfold wpOp
        simp only [ho, hw', Bool.false_eq_true, if_false]
        have hpre' : nextD u (i, true) d = false → rs.take snap.length = snap := by
          intro hd
          simp only [nextD, Bool.or_eq_false_iff] at hd
          exact hpre hd.1
        have := next ρ w (Moved.refl _ _ _) hR hpre'
        rw [← act_put ρ t o.dst (.v undef)] at this
        exact ⟨fun hd => hR.snap (hpre' hd) ha hu, this⟩
    · rename_i hw
      have hw' := wantL_spec hw ρ
      cases b with
      | false =>
        simp only at h
        split at h
        · rename_i x hx
          simp only [Option.some.injEq, Prod.mk.injEq] at h
          obtain ⟨rfl, rfl, rfl⟩ := h
          have hd := hinted_den hp h0
          refine ⟨o, x.den ρ, ho, .inl ⟨hw', fun w hS => quietOp_yields hx ha hu w hS⟩, ?_⟩
          rw [putL_act rfl o.dst x _ hd]
          exact next ρ w (Moved.refl _ _ _) hR hpre
        · cases h
      | true =>
        simp only at h
        split at h
        · rename_i x rs2 hx
          simp only [Option.some.injEq, Prod.mk.injEq] at h
          obtain ⟨rfl, rfl, rfl⟩ := h
          show wpOp P ops Q i _ (act ρ t) w
          unfold wpOp
          simp only [ho, hw', if_true]
          left
          have hst : stepOp P o t rs = some (x, rs2) ∧ (nextD u (i, true) d = false → rs2.take snap.length = snap) := by
            have e : nextD u (i, true) d = (d || u == some i) := rfl
            rw [e]
            cases hdd : (d || u == some i) with
            | true =>
              rw [hdd] at hx
              exact ⟨hx, fun hc => by cases hc⟩
            | false =>
              rw [hdd] at hx
              obtain ⟨h1, h2⟩ := keepOp_spec hx hb
              refine ⟨h1, fun _ => ?_⟩
              rw [h2]
              simp only [Bool.or_eq_false_iff] at hdd
              exact hpre hdd.1
          obtain ⟨ρ', w', hS⟩ := stepOp_run hst.1 hR
          have hd := hinted_den hp (h0.trans hS.agree hk)
          refine upon_stepped hS hd ⟨fun hc => hS.rel.snap (hst.2 hc) (ha.trans hS.agree hb) hu, next ρ' w' ⟨hS.agree, hS.kept, hS.wrs, hS.size, hS.stl, hS.out, hS.back, hS.shape⟩ hS.rel hst.2⟩
        · cases h

theorem ordRun_sound {hs : List Hint} {id : Nat} {ops : Array Oper} {u : Option Nat} {snap : List Reg} {ρs ρ0 : Nm} {k0 : Nat} (hu : undR snap.length snap = true) :
    ∀ (r : List (Nat × Bool)) (d : Bool) (t t' : List LV) (rs rs' : List Reg) (prs : List (LV × LV)) (ρ : Nm) (w : World),
    ordRun P hs id ops u snap r d t rs = some (t', rs', prs) → Pairs k0 ρ0 prs → Agree k0 ρ0 ρ → k0 ≤ rs.length → Rel T w0 ρ rs w → Agree snap.length ρs ρ → snap.length ≤ rs.length → (d = false → rs.take snap.length = snap) →
    (∀ ρ' w', Moved ρ rs w ρ' rs' w' → Rel T w0 ρ' rs' w' → Q .normal (act ρ' t') w') → wpOrdU P ops Q u (Snap ρs snap) r d (act ρ t) w
  | [], d, t, t', rs, rs', prs, ρ, w, h, _, _, _, hR, _, _, _, next => by
    simp only [ordRun, Option.some.injEq, Prod.mk.injEq] at h
    obtain ⟨rfl, rfl, rfl⟩ := h
    exact next ρ w (Moved.refl _ _ _) hR
  | p :: r, d, t, t', rs, rs', prs, ρ, w, h, hp, h0, hk, hR, ha, hb, hpre, next => by
    simp only [ordRun] at h
    split at h
    · rename_i t1 rs1 prs1 h1
      rw [spine_eq] at h
      split at h
      · rename_i t2 rs2 prs2 h2
        simp only [Option.some.injEq, Prod.mk.injEq] at h
        obtain ⟨rfl, rfl, rfl⟩ := h
        refine ordStep_sound h1 (fun q hq => hp q (List.mem_append_left _ hq)) h0 hk hR ha hu hb hpre (fun ρ' w' hm hR' hpre' => ?_)
        exact ordRun_sound hu r _ t1 t2 rs1 rs2 prs2 ρ' w' h2 (fun q hq => hp q (List.mem_append_right _ hq)) (h0.trans hm.agree hk) (Nat.le_trans hk hm.size) hR' (ha.trans hm.agree hb) (Nat.le_trans hb hm.size) hpre'
          (fun ρ'' w'' hm' hR'' => next ρ'' w'' (hm.trans hm') hR'')
      · cases h
    · cases h

theorem drawOk_spec {ops : Array Oper} {ord : List (Nat × Bool)} {u : Option Nat} (h : drawOk P ops ord u = true) {S : World → Prop} {id : Nat} {a : Act} {w : World} (hQ : ∀ c a d v w, Q (.panic c) (Act.put a d v) w → Q (.panic c) a w) (hS : S w.drew)
    (hn : wpOrdU P ops Q u S ord false a w.drew) : (Code.region id ops true).wp P Q a w := by
  unfold drawOk at h
  simp only [Bool.and_eq_true] at h
  obtain ⟨h1, h2, h3, h4, h5, h6, h7⟩ := h
  exact wp_region_U ord u _ S h1 h2 (ordMask_fast h3) (hasMask_all h4) h5 h6 h7 hQ hS hn

theorem ordGo_sound {hs : List Hint} {id : Nat} {ops : Array Oper} {u : Option Nat} {snap : List Reg} {ρs ρ0 : Nm} {k0 : Nat} (hu : undR snap.length snap = true) :
    ∀ (r : List (Nat × Bool)) (d : Bool) (t : List LV) (rs : List Reg) (r' : List (Nat × Bool)) (d' : Bool) (t' : List LV) (rs' : List Reg) (prs : List (LV × LV)) (ρ : Nm) (w : World),
    ordGo P hs id ops u snap r d t rs = ((r', d', t', rs'), prs) → Pairs k0 ρ0 prs → Agree k0 ρ0 ρ → k0 ≤ rs.length → Rel T w0 ρ rs w → Agree snap.length ρs ρ → snap.length ≤ rs.length → (d = false → rs.take snap.length = snap) →
    (∀ ρ' w', Moved ρ rs w ρ' rs' w' → Rel T w0 ρ' rs' w' → Agree snap.length ρs ρ' → (d' = false → rs'.take snap.length = snap) → wpOrdU P ops Q u (Snap ρs snap) r' d' (act ρ' t') w') → wpOrdU P ops Q u (Snap ρs snap) r d (act ρ t) w
  | [], d, t, rs, r', d', t', rs', prs, ρ, w, h, _, _, _, hR, ha, _, hpre, next => by
    simp only [ordGo, Prod.mk.injEq] at h
    obtain ⟨⟨rfl, rfl, rfl, rfl⟩, rfl⟩ := h
    exact next ρ w (Moved.refl _ _ _) hR ha hpre
  | p :: r, d, t, rs, r', d', t', rs', prs, ρ, w, h, hp, h0, hk, hR, ha, hb, hpre, next => by
    simp only [ordGo] at h
    split at h
    · rename_i t1 rs1 prs1 h1
      rw [spine_eq] at h
      generalize h2 : ordGo P hs id ops u snap r (nextD u p d) t1 rs1 = q at h
      obtain ⟨⟨r2, d2, t2, rs2⟩, prs2⟩ := q
      simp only [Prod.mk.injEq] at h
      obtain ⟨⟨rfl, rfl, rfl, rfl⟩, rfl⟩ := h
      refine ordStep_sound h1 (fun q hq => hp q (List.mem_append_left _ hq)) h0 hk hR ha hu hb hpre (fun ρ' w' hm hR' hpre' => ?_)
      exact ordGo_sound hu r _ t1 rs1 _ _ _ _ prs2 ρ' w' h2 (fun q hq => hp q (List.mem_append_right _ hq)) (h0.trans hm.agree hk) (Nat.le_trans hk hm.size) hR' (ha.trans hm.agree hb) (Nat.le_trans hb hm.size) hpre'
        (fun ρ'' w'' hm' hR'' => next ρ'' w'' (hm.trans hm') hR'')
    · simp only [Prod.mk.injEq] at h
      obtain ⟨⟨rfl, rfl, rfl, rfl⟩, rfl⟩ := h
      exact next ρ w (Moved.refl _ _ _) hR ha hpre

/-- a panic's post does not look at the temporaries -/
def PanicFree (Q : Exit → Act → World → Prop) : Prop := ∀ c a d v w, Q (.panic c) (Act.put a d v) w → Q (.panic c) a w
theorem PanicFree.post (h : PanicFree Q) (k : List It) : PanicFree (post P Q k) := fun c a d v w hp => (post_panic k).2 (h c a d v w ((post_panic k).1 hp))

theorem drawRun_sound (hQ : PanicFree Q) {hs : List Hint} {id : Nat} {ops : Array Oper} {ord : List (Nat × Bool)} {u : Option Nat} {t t' : List LV} {rs rs' : List Reg} {prs : List (LV × LV)} {ρ ρ0 : Nm} {k0 : Nat} {w : World}
    (h : drawRun P hs id ops ord u t rs = some (t', rs', prs)) (hp : Pairs k0 ρ0 prs) (h0 : Agree k0 ρ0 ρ) (hk : k0 ≤ rs.length) (hR : Rel T w0 ρ rs w) (next : ∀ ρ' w', Moved ρ rs w ρ' rs' w' → Rel T w0 ρ' rs' w' → Q .normal (act ρ' t') w') :
    (Code.region id ops true).wp P Q (act ρ t) w := by
  unfold drawRun at h
  split at h
  · rename_i hc
    simp only [Bool.and_eq_true] at hc
    have hpre : rs.take rs.length = rs := List.take_length
    have hR' := hR.drew
    refine drawOk_spec (S := Snap ρ rs) hc.1 hQ (hR'.snap hpre (Agree.refl _ _) hc.2) ?_
    refine ordRun_sound hc.2 ord false t t' rs rs' prs ρ w.drew h hp h0 hk hR' (Agree.refl _ _) (Nat.le_refl _) (fun _ => hpre) (fun ρ' w' hm hR'' => next ρ' w' ?_ hR'')
    exact (⟨Agree.refl _ _, Kept.drew w _, fun _ h => .inl h, Nat.le_refl _, Still.of_blocks (fun _ _ => rfl), fun _ _ _ h => h, fun _ _ h => h, fun _ r hn hw => .inl ⟨r, hn, hw, rfl⟩⟩ : Moved ρ rs w ρ rs w.drew).trans hm
  · cases h

theorem step1_sound (hQ : PanicFree Q) {hs : List Hint} {c c' : Cfg} {prs : List (LV × LV)} {ρ ρ0 : Nm} {k0 : Nat} {w : World} (h : step1 P hs c = some (c', prs)) (hp : Pairs k0 ρ0 prs) (h0 : Agree k0 ρ0 ρ) (hk : k0 ≤ c.rs.length) (hR : Rel T w0 ρ c.rs w)
    (next : ∀ ρ' w', Moved ρ c.rs w ρ' c'.rs w' → Rel T w0 ρ' c'.rs w' → post P Q c'.k .normal (act ρ' c'.tmps) w') : post P Q c.k .normal (act ρ c.tmps) w := by
  obtain ⟨k, t, rs⟩ := c
  simp only at hR next hk ⊢
  unfold step1 at h
  split at h
  · cases h
  · rename_i heq
    simp only [Cfg.mk.injEq] at heq
    obtain ⟨rfl, rfl, rfl⟩ := heq
    simp only [Option.some.injEq, Prod.mk.injEq] at h
    obtain ⟨rfl, rfl⟩ := h
    exact next ρ w (Moved.refl _ _ _) hR
  · rename_i cd k t rs heq
    simp only [Cfg.mk.injEq] at heq
    obtain ⟨rfl, rfl, rfl⟩ := heq
    show cd.wp P (post P Q k) (act ρ t) w
    split at h
    · simp only [Option.some.injEq, Prod.mk.injEq] at h
      obtain ⟨rfl, rfl⟩ := h
      exact wp_skip (next ρ w (Moved.refl _ _ _) hR)
    · simp only [Option.some.injEq, Prod.mk.injEq] at h
      obtain ⟨rfl, rfl⟩ := h
      exact wp_label (next ρ w (Moved.refl _ _ _) hR)
    · simp only [Option.some.injEq, Prod.mk.injEq] at h
      obtain ⟨rfl, rfl⟩ := h
      exact wp_seq (next ρ w (Moved.refl _ _ _) hR)
    · split at h
      · rename_i hc
        simp only [Option.some.injEq, Prod.mk.injEq] at h
        obtain ⟨rfl, rfl⟩ := h
        exact wp_cond_true (by rw [act_eval, hc]; rfl) (next ρ w (Moved.refl _ _ _) hR)
      · rename_i hc
        simp only [Option.some.injEq, Prod.mk.injEq] at h
        obtain ⟨rfl, rfl⟩ := h
        exact wp_cond_false (by rw [act_eval, hc]; rfl) (next ρ w (Moved.refl _ _ _) hR)
      · cases h
    · simp only [Option.some.injEq, Prod.mk.injEq] at h
      obtain ⟨rfl, rfl⟩ := h
      exact wp_block (next ρ w (Moved.refl _ _ _) hR)
    · split at h
      · rename_i k' hk'
        simp only [Option.some.injEq, Prod.mk.injEq] at h
        obtain ⟨rfl, rfl⟩ := h
        exact wp_exit (post_exit hk' (next ρ w (Moved.refl _ _ _) hR))
      · cases h
    · simp only [Option.some.injEq, Prod.mk.injEq] at h
      obtain ⟨rfl, rfl⟩ := h
      exact wp_region_list (next ρ w (Moved.refl _ _ _) hR)
    · split at h
      · rename_i hd
        simp only [Option.some.injEq, Prod.mk.injEq] at h
        obtain ⟨rfl, rfl⟩ := h
        exact drawRun_sound (hQ.post k) hd hp h0 hk hR next
      · cases h
    · cases h
  · rename_i n cd k t rs heq
    simp only [Cfg.mk.injEq] at heq
    obtain ⟨rfl, rfl, rfl⟩ := heq
    split at h
    · cases h
    · simp only [Option.some.injEq, Prod.mk.injEq] at h
      obtain ⟨rfl, rfl⟩ := h
      exact next ρ w (Moved.refl _ _ _) hR
  · rename_i heq
    simp only [Cfg.mk.injEq] at heq
    obtain ⟨rfl, rfl, rfl⟩ := heq
    simp only [Option.some.injEq, Prod.mk.injEq] at h
    obtain ⟨rfl, rfl⟩ := h
    exact next ρ w (Moved.refl _ _ _) hR
  · rename_i id ops i o rest k t rs heq
    simp only [Cfg.mk.injEq] at heq
    obtain ⟨rfl, rfl, rfl⟩ := heq
    show wpList P ops (post P Q k) (o :: rest) (act ρ t) w
    unfold wpList
    split at h
    · rename_i hw
      rw [wantL_spec hw ρ, if_pos rfl]
      left
      split at h
      · rename_i x rs' hx
        simp only [Option.some.injEq, Prod.mk.injEq] at h
        obtain ⟨rfl, rfl⟩ := h
        obtain ⟨ρ', w', hS⟩ := stepOp_run hx hR
        have hd := hinted_den hp (h0.trans hS.agree hk)
        exact upon_stepped hS hd (next ρ' w' ⟨hS.agree, hS.kept, hS.wrs, hS.size, hS.stl, hS.out, hS.back, hS.shape⟩ hS.rel)
      · cases h
    · rename_i hw
      rw [wantL_spec hw ρ, if_neg (by simp)]
      simp only [Option.some.injEq, Prod.mk.injEq] at h
      obtain ⟨rfl, rfl⟩ := h
      have := next ρ w (Moved.refl _ _ _) hR
      show wpList P ops (post P Q k) rest ((act ρ t).put o.dst ((LV.v undef).den ρ)) w
      rw [act_put]
      exact this
    · cases h

theorem run_sound (hQ : PanicFree Q) {hs : List Hint} {ρ0 : Nm} {k0 : Nat} : ∀ (n : Nat) (c c' : Cfg) (prs : List (LV × LV)) (ρ : Nm) (w : World), run P hs n c = (c', prs) → Pairs k0 ρ0 prs → Agree k0 ρ0 ρ → k0 ≤ c.rs.length → Rel T w0 ρ c.rs w →
    (∀ ρ' w', Moved ρ c.rs w ρ' c'.rs w' → Rel T w0 ρ' c'.rs w' → post P Q c'.k .normal (act ρ' c'.tmps) w') → post P Q c.k .normal (act ρ c.tmps) w
  | 0, c, c', prs, ρ, w, h, _, _, _, hR, next => by
    simp only [run, Prod.mk.injEq] at h
    obtain ⟨rfl, rfl⟩ := h
    exact next ρ w (Moved.refl _ _ _) hR
  | n + 1, c, c', prs, ρ, w, h, hp, h0, hk, hR, next => by
    simp only [run] at h
    split at h
    · simp only [Prod.mk.injEq] at h
      obtain ⟨rfl, rfl⟩ := h
      exact next ρ w (Moved.refl _ _ _) hR
    · rename_i k t rs prs1 h1
      rw [spine_eq, spine_eq] at h
      simp only [Prod.mk.injEq] at h
      obtain ⟨rfl, rfl⟩ := h
      refine step1_sound hQ h1 (fun q hq => hp q (List.mem_append_left _ hq)) h0 hk hR (fun ρ' w' hm hR' => ?_)
      exact run_sound hQ n ⟨k, t, rs⟩ _ _ ρ' w' rfl (fun q hq => hp q (List.mem_append_right _ hq)) (h0.trans hm.agree hk) (Nat.le_trans hk hm.size) hR' (fun ρ'' w'' hm' hR'' => next ρ'' w'' (hm.trans hm') hR'')
end
end

section
open Go Go.RowKit

def At (P : Program) (Q : Exit → Act → World → Prop) (c : Cfg) (ρ : Nm) (w : World) : Prop := post P Q c.k .normal (act ρ c.tmps) w

/-- what a body's post allows -/
class Body (P : Program) (Q : Exit → Act → World → Prop) (fn : outParam Func) (R : outParam (Ending → World → Prop)) : Prop where
  pf : PanicFree Q
  ret : ∀ a w, bodyPost P fn R .ret a w → Q .ret a w
instance (P : Program) (fn : Func) (R : Ending → World → Prop) : Body P (bodyPost P fn R) fn R where
  pf := fun c a d v w h => by
    cases d with
    | none => exact h
    | some d => exact h
  ret := fun _ _ h => h

def bodyOf (fn : Func) : Code := match fn.body with
  | some c => c
  | none => .skip
def startC (fn : Func) (args : List LV) (rs : List Reg) : Cfg := ⟨[.code (bodyOf fn)], args ++ List.replicate (fn.ntmps - args.length) (.v undef), rs⟩
theorem sim_enter {P : Program} {f : FuncId} {fn : Func} {R : Ending → World → Prop} {w : World} {argsV : Array Value} (hf : P.funcs[f]? = some fn) (ρ : Nm) (args : List LV) (rs : List Reg) (hb : fn.body.isSome = true) (ha : argsV = (denL ρ args).toArray)
    (h : At P (bodyPost P fn R) (startC fn args rs) ρ w) : Calls P f argsV w R := by
  cases hc : fn.body with
  | none => rw [hc] at hb; cases hb
  | some c =>
    subst ha
    refine calls_of_wp hf hc ?_
    have e : (denL ρ args).toArray ++ Array.replicate (fn.ntmps - (denL ρ args).toArray.size) undef = (denL ρ (args ++ List.replicate (fn.ntmps - args.length) (.v undef))).toArray := by
      rw [denL_append]
      apply Array.ext'
      simp only [Array.toList_append, Array.toList_replicate, List.size_toArray, denL_length]
      congr 1
      simp only [denL_eq, List.map_replicate, LV.den]
    rw [e]
    unfold At startC post bodyOf at h
    rw [hc] at h
    exact h

/-- each hint's two values are one -/
def AllEq (k : Nat) (ρ : Nm) : List Hint → Prop
  | [] => True
  | h :: hs => (∀ ρ', Agree k ρ ρ' → h.old.den ρ' = h.new.den ρ') ∧ AllEq k ρ hs
theorem AllEq.pairs {k : Nat} {ρ : Nm} : ∀ {hs : List Hint}, AllEq k ρ hs → Pairs k ρ (hs.map fun h => (h.old, h.new))
  | [], _, p, hp => by cases hp
  | h :: hs, ha, p, hp => by
    rcases List.mem_cons.1 hp with rfl | hp
    · exact ha.1
    · exact ha.2.pairs p hp
theorem eqv {a b : Value} (h : a = b) {k : Nat} {ρ : Nm} : ∀ ρ', Agree k ρ ρ' → (LV.v a).den ρ' = (LV.v b).den ρ' := fun _ _ => h
theorem eqb {a b : Bool} (h : a = b) {k : Nat} {ρ : Nm} : ∀ ρ', Agree k ρ ρ' → (LV.v (.bool a)).den ρ' = (LV.v (.bool b)).den ρ' := fun _ _ => by rw [h]
theorem eqi {t : IntKind} {a b : Int} (h : a = b) {k : Nat} {ρ : Nm} : ∀ ρ', Agree k ρ ρ' → (LV.v (.int t a)).den ρ' = (LV.v (.int t b)).den ρ' := fun _ _ => by rw [h]
theorem eqs {a b : ByteArray} (h : a = b) {k : Nat} {ρ : Nm} : ∀ ρ', Agree k ρ ρ' → (LV.v (.string a)).den ρ' = (LV.v (.string b)).den ρ' := fun _ _ => by rw [h]

section
variable {P : Program} {Q : Exit → Act → World → Prop} {T : List Nat} {w0 w : World} {ρ : Nm} {c : Cfg} {fn : Func} {R : Ending → World → Prop}
theorem sim_run [hB : Body P Q fn R] (n : Nat) (hs : List Hint) (hR : Rel T w0 ρ c.rs w) (h2 : (run P hs n c).2 = hs.map fun h => (h.old, h.new)) (he : AllEq c.rs.length ρ hs)
    (next : ∀ ρ' w', Moved ρ c.rs w ρ' (run P hs n c).1.rs w' → Rel T w0 ρ' (run P hs n c).1.rs w' → At P Q (run P hs n c).1 ρ' w') : At P Q c ρ w := by
  refine run_sound hB.pf n c (run P hs n c).1 (run P hs n c).2 ρ w rfl ?_ (Agree.refl _ _) (Nat.le_refl _) hR next
  rw [h2]
  exact he.pairs

/-! ### Returning -/
def resL1 (P : Program) (tmps : List LV) (rs : List Reg) : ResultVar → Option LV
  | .tmp t => some (evalL tmps (.tmp t))
  | .cell a t => match evalL tmps (.tmp a) with
    | .ptr n off => match rs[n]? with
      | some r => loadL P t (r.cells.drop off)
      | none => none
    | _ => none
def resLs (P : Program) (tmps : List LV) (rs : List Reg) : List ResultVar → Option (List LV)
  | [] => some []
  | x :: xs => match resL1 P tmps rs x, resLs P tmps rs xs with
    | some y, some ys => some (y :: ys)
    | _, _ => none
def tupL : List LV → LV
  | [x] => x
  | l => .tup l
def resL (P : Program) (fn : Func) (c : Cfg) : Option LV := (resLs P c.tmps c.rs fn.results.toList).map tupL
def resSem (tmps : Array Value) : ResultVar → Sem Value
  | .tmp t => pure (tmps.getD t undef)
  | .cell a t => do loadVar t (← asAddr (tmps.getD a undef))
theorem results_eq (fn : Func) (tmps : Array Value) : results fn tmps = (do let vs ← fn.results.mapM (resSem tmps); pure (if h : vs.size = 1 then vs[0] else .tuple vs)) := rfl
theorem resL1_run (hR : Rel T w0 ρ c.rs w) {x : ResultVar} {y : LV} (h1 : resL1 P c.tmps c.rs x = some y) : (resSem (act ρ c.tmps).tmps x).run P w = .ok (y.den ρ) w := by
  have ev := fun t => act_eval ρ c.tmps (.tmp t)
  simp only [Act.eval] at ev
  cases x with
  | tmp t =>
    simp only [resL1, Option.some.injEq] at h1
    subst h1
    simp only [resSem, ev, Sem.run_pure]
  | cell a t =>
    simp only [resL1] at h1
    split at h1
    · rename_i n off ha
      split at h1
      · rename_i r hr
        have := loadL_run h1 (ρ := ρ) (n := n) (o := off) (w := w) (fun j v hv => by
          rw [List.getElem?_drop] at hv
          exact hR.cell n r hr _ v hv)
        simp only [Instr.loadAt, Instr.sureAddr, Sem.run_bind, Sem.run_pure, Result.andThen_ok] at this
        simp only [resSem, ev, ha, LV.den, asAddr, Sem.run_bind, Sem.run_pure, Result.andThen_ok]
        exact this
      · cases h1
    · cases h1
theorem resLs_run (hR : Rel T w0 ρ c.rs w) : ∀ (l : List ResultVar) (ys : List LV), resLs P c.tmps c.rs l = some ys → (l.mapM (resSem (act ρ c.tmps).tmps)).run P w = .ok (denL ρ ys) w
  | [], ys, h => by
    simp only [resLs, Option.some.injEq] at h
    subst h
    rfl
  | x :: xs, ys, h => by
    simp only [resLs] at h
    split at h
    · rename_i y ys' h1 h2
      simp only [Option.some.injEq] at h
      subst h
      simp only [List.mapM_cons, Sem.run_bind, resL1_run hR h1, Result.andThen_ok, resLs_run hR xs ys' h2, Sem.run_pure, denL]
    · cases h
theorem resL_run (hR : Rel T w0 ρ c.rs w) {x : LV} (h : resL P fn c = some x) : (results fn (act ρ c.tmps).tmps).run P w = .ok (x.den ρ) w := by
  unfold resL at h
  cases hl : resLs P c.tmps c.rs fn.results.toList with
  | none => rw [hl] at h; cases h
  | some ys =>
    rw [hl] at h
    simp only [Option.map_some, Option.some.injEq] at h
    subst h
    have := resLs_run hR _ _ hl
    rw [results_eq, Array.mapM_eq_mapM_toList]
    simp only [Sem.run_bind, Sem.run_map, this, Result.andThen_ok]
    match ys with
    | [] => rfl
    | [y] => rfl
    | y :: z :: l => simp [tupL, denL, LV.den]
def atRet (c : Cfg) : Bool := match c.k with
  | .code .ret :: _ => true
  | _ => false
theorem sim_ret [hB : Body P Q fn R] (x : LV) (hR : Rel T w0 ρ c.rs w) (h1 : atRet c = true) (h2 : resL P fn c = some x) (h : R (.returned (x.den ρ)) w) : At P Q c ρ w := by
  obtain ⟨k, t, rs⟩ := c
  unfold atRet at h1
  split at h1
  · rename_i k' hk
    simp only at hk
    subst hk
    show Code.wp P .ret (post P Q k') (act ρ t) w
    exact wp_ret ((post_ret k').2 (hB.ret _ _ ⟨rfl, _, resL_run hR h2, h⟩))
  · cases h1
/-- a function without a result that comes to its end -/
theorem sim_end (x : LV) (hR : Rel T w0 ρ c.rs w) (h1 : c.k = []) (h2 : resL P fn c = some x) (h : R (.returned (x.den ρ)) w) : At P (bodyPost P fn R) c ρ w := by
  unfold At
  rw [h1]
  exact ⟨rfl, _, resL_run hR h2, h⟩

/-! ### Calling -/
def calleeL (f : LV) (args : List LV) : Option (FuncId × List LV) := match f with
  | .v (.func (.func g) fs cs) => some (g, fs.toList.map .v ++ args ++ cs.toList.map .v)
  | .fnv (.func g) fs cs => some (g, fs ++ args ++ cs)
  | _ => none
def callOp (P : Program) (o : Oper) (tmps : List LV) : Option (FuncId × List LV) := match o.op with
  | .call { callee := .value f, args, .. } => match calleeL (evalL tmps f) (args.toList.map (evalL tmps)) with
    | some (g, as) => match P.funcs[g]? with
      | some fn => if (!fn.body.isNone) && !(fn.name == "runtime.NumGoroutine") then some (g, as) else none
      | none => none
    | none => none
  | _ => none
theorem callFunc_run {f : FuncId} {fn : Func} (hf : P.funcs[f]? = some fn) (hb : fn.body.isNone = false) (hn : (fn.name == "runtime.NumGoroutine") = false) (args : Array Value) (w : World) : (callFunc f args).run P w = .ok (.enter f args) w := by
  unfold callFunc
  simp only [Sem.run_bind, run_program, Result.andThen_ok, hf, hn, hb, Bool.false_eq_true, if_false, Sem.run_pure]
theorem callOp_run {o : Oper} {t : List LV} {f : FuncId} {as : List LV} (h : callOp P o t = some (f, as)) (ρ : Nm) (w : World) : (execOp (act ρ t).eval o).run P w = .ok (.enter f (denL ρ as).toArray) w := by
  unfold callOp at h
  split at h
  · rename_i fo args ats ho
    split at h
    · rename_i g as' hc
      split at h
      · rename_i fn hf
        split at h
        · rename_i hb
          simp only [Option.some.injEq, Prod.mk.injEq] at h
          obtain ⟨rfl, rfl⟩ := h
          simp only [Bool.and_eq_true, Bool.not_eq_true'] at hb
          have e1 : args.map (act ρ t).eval = (denL ρ (args.toList.map (evalL t))).toArray := Array.ext' (by rw [Array.toList_map, evals_toList (act_eval ρ t)])
          unfold calleeL at hc
          unfold execOp
          split at hc
          · rename_i g' fs cs hev
            simp only [Option.some.injEq, Prod.mk.injEq] at hc
            obtain ⟨rfl, rfl⟩ := hc
            simp only [ho, resolve, e1, act_eval, hev, LV.den, Deferred.ofValue, Sem.run_bind, Sem.run_pure, Result.andThen_ok, invoke, callFunc_run hf hb.1 hb.2]
            congr 2
            apply Array.ext'
            simp [denL_append, denL_v]
          · rename_i g' fs cs hev
            simp only [Option.some.injEq, Prod.mk.injEq] at hc
            obtain ⟨rfl, rfl⟩ := hc
            simp only [ho, resolve, e1, act_eval, hev, LV.den, Deferred.ofValue, Sem.run_bind, Sem.run_pure, Result.andThen_ok, invoke, callFunc_run hf hb.1 hb.2]
            congr 2
            apply Array.ext'
            simp [denL_append]
          · cases hc
        · cases h
      · cases h
    · cases h
  · cases h
/-- the operation that stands next, if it is wanted -/
def topOp (c : Cfg) : Option Oper := match c.k with
  | .ops _ ops _ (o :: _) :: _ => match wantL ops c.tmps o with
    | some true => some o
    | _ => none
  | _ => none
/-- behind it -/
def nextK (c : Cfg) : List It := match c.k with
  | .ops id ops i (_ :: rest) :: k => .ops id ops (i + 1) rest :: k
  | k => k
def nextT (c : Cfg) (x : LV) : List LV := match c.k with
  | .ops _ _ _ (o :: _) :: _ => putL c.tmps o.dst x
  | _ => c.tmps
abbrev nextC (c : Cfg) (x : LV) (rs : List Reg) : Cfg := ⟨nextK c, nextT c x, rs⟩
def callC (P : Program) (c : Cfg) : Option (FuncId × List LV) := match topOp c with
  | some o => callOp P o c.tmps
  | none => none
def nextAt (P : Program) (Q : Exit → Act → World → Prop) (c : Cfg) : Act → World → Prop := match c.k with
  | .ops _ ops _ (_ :: rest) :: k => wpList P ops (post P Q k) rest
  | _ => fun _ _ => False
def nextQ (P : Program) (Q : Exit → Act → World → Prop) (c : Cfg) : Exit → Act → World → Prop := match c.k with
  | .ops _ _ _ _ :: k => post P Q k
  | _ => fun _ _ _ => False
theorem top_step {o : Oper} (h : topOp c = some o) (hn : o.wp P (act ρ c.tmps) w (nextAt P Q c) (nextQ P Q c)) : At P Q c ρ w := by
  obtain ⟨k, t, rs⟩ := c
  unfold topOp at h
  split at h
  · rename_i id ops i o' rest k' hk
    simp only at hk
    subst hk
    split at h
    · rename_i hw
      simp only [Option.some.injEq] at h
      subst h
      show wpList P ops (post P Q k') (o' :: rest) (act ρ t) w
      unfold wpList
      rw [wantL_spec hw ρ, if_pos rfl]
      exact .inl hn
    · cases h
  · cases h
theorem nextAt_of {o : Oper} (h : topOp c = some o) {x : LV} {rs' : List Reg} {ρ' : Nm} {w' : World} (hs : act ρ' c.tmps = act ρ c.tmps) (hA : At P Q (nextC c x rs') ρ' w') : nextAt P Q c ((act ρ c.tmps).put o.dst (x.den ρ')) w' := by
  obtain ⟨k, t, rs⟩ := c
  unfold topOp at h
  split at h
  · rename_i id ops i o' rest k' hk
    simp only at hk
    subst hk
    split at h
    · simp only [Option.some.injEq] at h
      subst h
      rw [putL_act hs o'.dst x x rfl]
      exact hA
    · cases h
  · cases h
/-- what stands behind a call -/
def Back (P : Program) (Q : Exit → Act → World → Prop) (c : Cfg) (ρ : Nm) (e : Ending) (w'' : World) : Prop :=
  ∃ (x : LV) (rs'' : List Reg) (ρ'' : Nm), e = .returned (x.den ρ'') ∧ act ρ'' c.tmps = act ρ c.tmps ∧ At P Q (nextC c x rs'') ρ'' w''
theorem sim_call (f : FuncId) (args : List LV) (hc : callC P c = some (f, args)) (h : Calls P f (denL ρ args).toArray w (Back P Q c ρ)) : At P Q c ρ w := by
  unfold callC at hc
  split at hc
  · rename_i o ho
    refine top_step ho ?_
    unfold Oper.wp
    rw [callOp_run hc]
    simp only [Oper.upon]
    refine h.mono ?_
    rintro e w'' ⟨x, rs'', ρ'', rfl, hs, hA⟩
    exact nextAt_of ho hs hA
  · cases hc
/-- any operation, by hand -/
theorem sim_op (o : Oper) (ho : topOp c = some o) (x : LV) (rs' : List Reg) (ρ' : Nm) (w' : World) (hrun : (execOp (act ρ c.tmps).eval o).run P w = .ok (.value (x.den ρ')) w') (hs : act ρ' c.tmps = act ρ c.tmps) (hA : At P Q (nextC c x rs') ρ' w') : At P Q c ρ w := by
  refine top_step ho ?_
  unfold Oper.wp
  rw [hrun]
  exact nextAt_of ho hs hA
end
end
end Go.Proofs.Ytioehmngkoffaaa
