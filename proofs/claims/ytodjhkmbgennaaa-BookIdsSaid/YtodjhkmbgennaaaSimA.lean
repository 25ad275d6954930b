/-
  Values whose pointers name places of a list, and what is known of the memory behind these places. Over any program.
-/
import Derived.Test.YtodjhkmbgennaaaKeeps
import Derived.Test.YtodjhkmbgennaaaOrdMask
namespace Go.Proofs.Ytodjhkmbgennaaa
open Go Go.RowKit

/-- a value; its pointers name places (number, offset) -/
inductive LV where
  | v (v : Value)
  | ptr (n off : Nat)
  | slc (n off len cap : Nat)
  | mp (n : Nat)
  | agg (l : List LV)
  | tup (l : List LV)
  | fnv (f : Fn) (a c : List LV)

/-- where the places lie: block, and offset in it -/
abbrev Nm := Nat → Nat × Nat
def Nm.at_ (ρ : Nm) (n o : Nat) : Addr := ⟨(ρ n).1, (ρ n).2 + o, none⟩

mutual
def LV.den (ρ : Nm) : LV → Value
  | .v x => x
  | .ptr n o => .pointer (some (ρ.at_ n o))
  | .slc n o l c => .slice (some (ρ.at_ n o)) l c
  | .mp n => .map (some (ρ n).1)
  | .agg l => .agg (denL ρ l).toArray
  | .tup l => .tuple (denL ρ l).toArray
  | .fnv f a c => .func f (denL ρ a).toArray (denL ρ c).toArray
def denL (ρ : Nm) : List LV → List Value
  | [] => []
  | x :: xs => x.den ρ :: denL ρ xs
end

mutual
def LV.und (k : Nat) : LV → Bool
  | .v _ => true
  | .ptr n _ => Nat.blt n k
  | .slc n _ _ _ => Nat.blt n k
  | .mp n => Nat.blt n k
  | .agg l => undL k l
  | .tup l => undL k l
  | .fnv _ a c => undL k a && undL k c
def undL (k : Nat) : List LV → Bool
  | [] => true
  | x :: xs => x.und k && undL k xs
end

/-- two ways of laying the places that agree below k -/
def Agree (k : Nat) (ρ ρ' : Nm) : Prop := ∀ n, n < k → ρ' n = ρ n
theorem Agree.refl (k : Nat) (ρ : Nm) : Agree k ρ ρ := fun _ _ => rfl
theorem Agree.trans {k k' : Nat} {ρ ρ' ρ'' : Nm} (h : Agree k ρ ρ') (h' : Agree k' ρ' ρ'') (hk : k ≤ k') : Agree k ρ ρ'' := fun n hn => (h' n (by omega)).trans (h n hn)
theorem Agree.mono {k k' : Nat} {ρ ρ' : Nm} (h : Agree k ρ ρ') (hk : k' ≤ k) : Agree k' ρ ρ' := fun n hn => h n (by omega)

theorem blt_lt {n k : Nat} (h : Nat.blt n k = true) : n < k := by
  unfold Nat.blt at h
  exact Nat.le_of_ble_eq_true h
mutual
theorem LV.den_ext {k : Nat} {ρ ρ' : Nm} (h : Agree k ρ ρ') : ∀ x : LV, x.und k = true → x.den ρ' = x.den ρ
  | .v _, _ => rfl
  | .ptr n o, hb => by simp only [LV.den, Nm.at_, h n (blt_lt hb)]
  | .slc n o l c, hb => by simp only [LV.den, Nm.at_, h n (blt_lt hb)]
  | .mp n, hb => by simp only [LV.den, h n (blt_lt hb)]
  | .agg l, hb => by simp only [LV.den, denL_ext h l hb]
  | .tup l, hb => by simp only [LV.den, denL_ext h l hb]
  | .fnv f a c, hb => by
    simp only [LV.und, Bool.and_eq_true] at hb
    simp only [LV.den, denL_ext h a hb.1, denL_ext h c hb.2]
theorem denL_ext {k : Nat} {ρ ρ' : Nm} (h : Agree k ρ ρ') : ∀ l : List LV, undL k l = true → denL ρ' l = denL ρ l
  | [], _ => rfl
  | x :: xs, hb => by
    simp only [undL, Bool.and_eq_true] at hb
    simp only [denL, LV.den_ext h x hb.1, denL_ext h xs hb.2]
end
theorem denL_eq (ρ : Nm) (l : List LV) : denL ρ l = l.map (LV.den ρ) := by
  induction l with
  | nil => rfl
  | cons x xs ih => simp only [denL, List.map_cons, ih]
theorem undL_mem {k : Nat} {l : List LV} (h : undL k l = true) {x : LV} (hx : x ∈ l) : x.und k = true := by
  induction l with
  | nil => cases hx
  | cons y ys ih =>
    simp only [undL, Bool.and_eq_true] at h
    rcases List.mem_cons.1 hx with rfl | hx
    · exact h.1
    · exact ih h.2 hx

/-- the cells of a value -/
def LV.cells : LV → List LV
  | .agg l => l
  | .v x => x.cells.toList.map .v
  | x => [x]
theorem denL_v (ρ : Nm) (l : List Value) : denL ρ (l.map .v) = l := by
  rw [denL_eq, List.map_map]
  have : (LV.den ρ ∘ LV.v) = id := rfl
  rw [this, List.map_id]
theorem LV.den_cells (ρ : Nm) (x : LV) : (x.den ρ).cells.toList = denL ρ x.cells := by
  cases x with
  | v x => simp only [LV.den, LV.cells, denL_v]
  | agg l => simp only [LV.den, LV.cells, Value.cells]
  | ptr n o => rfl
  | slc n o l c => rfl
  | mp n => rfl
  | tup l => rfl
  | fnv f a c => rfl

/-- what is known of a place: its first cells; and whether it may be written -/
structure Reg where
  cells : List LV
  wr : Bool
def undR (k : Nat) (rs : List Reg) : Bool := rs.all fun r => undL k r.cells

/-- Of the blocks that were there only those of S may have turned. -/
structure Kept (S : Nat → Prop) (w w' : World) : Prop where
  os : w'.os = w.os
  tape : w'.tape = w.tape
  output : w'.output = w.output
  size : w.heap.size ≤ w'.heap.size
  block : ∀ k, k < w.heap.size → ¬ S k → w'.heap[k]? = w.heap[k]?
theorem Kept.refl (S : Nat → Prop) (w : World) : Kept S w w := ⟨rfl, rfl, rfl, Nat.le_refl _, fun _ _ _ => rfl⟩
theorem Kept.trans {S S' : Nat → Prop} {w w' w'' : World} (h : Kept S w w') (h' : Kept S' w' w'') (hS : ∀ x, S' x → S x ∨ w.heap.size ≤ x) : Kept S w w'' :=
  ⟨h'.os.trans h.os, h'.tape.trans h.tape, h'.output.trans h.output, Nat.le_trans h.size h'.size, fun k hk hn =>
    (h'.block k (Nat.lt_of_lt_of_le hk h.size) (fun hs => (hS k hs).elim hn (fun hx => by omega))).trans (h.block k hk hn)⟩
theorem Kept.mono {S S' : Nat → Prop} {w w' : World} (h : Kept S w w') (hS : ∀ x, S x → S' x ∨ w.heap.size ≤ x) : Kept S' w w' :=
  ⟨h.os, h.tape, h.output, h.size, fun k hk hn => h.block k hk (fun hm => (hS k hm).elim hn (fun hx => by omega))⟩
theorem Kept.keeps {T : List Nat} {w w' : World} (h : Kept (· ∈ T) w w') : Keeps T w w' := ⟨h.os, h.tape, h.output, h.size, h.block⟩
theorem Keeps.kept {T : List Nat} {w w' : World} (h : Keeps T w w') : Kept (· ∈ T) w w' := ⟨h.os, h.tape, h.output, h.size, h.block⟩
theorem Kept.alloc (w : World) (S : Nat → Prop) (o : Obj) : Kept S w (w.alloc o) := ⟨rfl, rfl, rfl, by simp, fun k hk _ => Below.heap_alloc w o k hk⟩
theorem Kept.drew (w : World) (S : Nat → Prop) : Kept S w w.drew := ⟨rfl, rfl, rfl, Nat.le_refl _, fun _ _ _ => rfl⟩
theorem Kept.setCell {S : Nat → Prop} (w : World) {p : Addr} (hp : S p.block) (u : Value) : Kept S w (w.setCell p u) :=
  ⟨rfl, rfl, rfl, by simp, fun k _ hn => Below.heap_setCell w p u k (by rintro rfl; exact hn hp)⟩
theorem Kept.of_below {w w' : World} (S : Nat → Prop) (h : Below w.heap.size w w') : Kept S w w' := ⟨h.os, h.tape, h.output, h.size, fun k hk _ => h.block k hk⟩
theorem Kept.cell {S : Nat → Prop} {w w' : World} (h : Kept S w w') {p : Addr} (hp : p.block < w.heap.size) (hn : ¬ S p.block) : w'.cell? p = w.cell? p := World.cell?_of_block (h.block _ hp hn)
theorem Kept.below {S : Nat → Prop} {w w' : World} {B : Nat} (h : Kept S w w') (hB : B ≤ w.heap.size) (hS : ∀ x, S x → B ≤ x) : Below B w w' :=
  ⟨h.os, h.tape, h.output, h.size, fun k hk => h.block k (by omega) (fun hm => by have := hS k hm; omega)⟩

/-- What is known of the memory: w0 is the world at the beginning, of whose blocks those of T may turn. -/
structure Rel (T : List Nat) (w0 : World) (ρ : Nm) (rs : List Reg) (w : World) : Prop where
  keeps : Keeps T w0 w
  lt : ∀ n r, rs[n]? = some r → (ρ n).1 < w.heap.size
  cell : ∀ n r, rs[n]? = some r → ∀ i v, r.cells[i]? = some v → w.cell? (ρ.at_ n i) = some (v.den ρ)
  wr : ∀ n r, rs[n]? = some r → r.wr = true → ((ρ n).1 ∈ T ∨ w0.heap.size ≤ (ρ n).1) ∧ ∀ i, i < r.cells.length → w.frozen? (ρ.at_ n i) = false
  apart : ∀ n m r r', rs[n]? = some r → rs[m]? = some r' → n ≠ m → r.wr = true → (ρ n).1 = (ρ m).1 → (ρ n).2 + r.cells.length ≤ (ρ m).2 ∨ (ρ m).2 + r'.cells.length ≤ (ρ n).2

/-- the blocks that may be written -/
def wrS (ρ : Nm) (rs : List Reg) (g : Nat) : Prop := ∃ (n : Nat) (r : Reg), rs[n]? = some r ∧ r.wr = true ∧ (ρ n).1 = g

theorem frozen_of_block {w w' : World} {a : Addr} (h : w'.heap[a.block]? = w.heap[a.block]?) : w'.frozen? a = w.frozen? a := by
  unfold World.frozen?
  rw [h]

section
variable {T : List Nat} {w0 w w' : World} {ρ ρ' : Nm} {rs : List Reg}
/-- a world in which only what is new, or no known block, has turned -/
theorem Rel.kept {S : Nat → Prop} (h : Rel T w0 ρ rs w) (hk : Kept S w w') (hS : ∀ n r, rs[n]? = some r → r.cells ≠ [] → ¬ S (ρ n).1) (hT : ∀ x, S x → x ∈ T ∨ w0.heap.size ≤ x) : Rel T w0 ρ rs w' := by
  have hb : ∀ n r, rs[n]? = some r → r.cells ≠ [] → w'.heap[(ρ n).1]? = w.heap[(ρ n).1]? := fun n r hn hne => hk.block _ (h.lt n r hn) (hS n r hn hne)
  refine ⟨(h.keeps.kept.trans hk (fun x hx => hT x hx)).keeps, fun n r hn => Nat.lt_of_lt_of_le (h.lt n r hn) hk.size, fun n r hn i v hv => ?_, fun n r hn hw => ⟨(h.wr n r hn hw).1, fun i hi => ?_⟩, h.apart⟩
  · rw [← h.cell n r hn i v hv]
    exact World.cell?_of_block (hb n r hn (by rintro e; rw [e] at hv; simp at hv))
  · rw [← (h.wr n r hn hw).2 i hi]
    exact frozen_of_block (hb n r hn (by rintro e; rw [e] at hi; simp at hi))
theorem Rel.below (h : Rel T w0 ρ rs w) (hb : Below w.heap.size w w') : Rel T w0 ρ rs w' := h.kept (Kept.of_below (fun _ => False) hb) (fun _ _ _ _ h => h) (fun _ h => h.elim)
theorem Rel.drew (h : Rel T w0 ρ rs w) : Rel T w0 ρ rs w.drew := h.kept (Kept.drew w (fun _ => False)) (fun _ _ _ _ h => h) (fun _ h => h.elim)
theorem Rel.drewN (h : Rel T w0 ρ rs w) (n : Nat) : Rel T w0 ρ rs (w.drewN n) := h.kept (S := fun _ => False) ⟨rfl, rfl, rfl, Nat.le_refl _, fun _ _ _ => rfl⟩ (fun _ _ _ _ h => h) (fun _ h => h.elim)
/-- the same places, laid anew -/
theorem Rel.ext (h : Rel T w0 ρ rs w) (ha : Agree rs.length ρ ρ') (hb : undR rs.length rs = true) : Rel T w0 ρ' rs w := by
  have hl : ∀ n r, rs[n]? = some r → ρ' n = ρ n := fun n r hn => ha n (List.getElem?_eq_some_iff.1 hn).1
  refine ⟨h.keeps, fun n r hn => by rw [hl n r hn]; exact h.lt n r hn, fun n r hn i v hv => ?_, fun n r hn hw => ?_, fun n m r r' hn hm hne hw he => ?_⟩
  · have hmem : r ∈ rs := List.mem_of_getElem? hn
    have hbr : undL rs.length r.cells = true := List.all_eq_true.1 hb r hmem
    rw [LV.den_ext ha v (undL_mem hbr (List.mem_of_getElem? hv))]
    have := h.cell n r hn i v hv
    unfold Nm.at_ at *
    rw [hl n r hn]
    exact this
  · have := h.wr n r hn hw
    unfold Nm.at_ at *
    rw [hl n r hn]
    exact this
  · rw [hl n r hn, hl m r' hm] at *
    exact h.apart n m r r' hn hm hne hw he
/-- a new block -/
theorem Rel.alloc (h : Rel T w0 ρ rs w) (hb : undR rs.length rs = true) (cs : List LV) (e : TypeId) (hcs : undL rs.length cs = true) (wr : Bool) :
    ∃ ρ', Agree rs.length ρ ρ' ∧ ρ' rs.length = (w.heap.size, 0) ∧ Rel T w0 ρ' (rs ++ [⟨cs, wr⟩]) (w.alloc (.cells (denL ρ cs).toArray e)) := by
  refine ⟨fun n => if n = rs.length then (w.heap.size, 0) else ρ n, fun n hn => if_neg (by omega), if_pos rfl, ?_⟩
  generalize hρ : (fun n => if n = rs.length then (w.heap.size, 0) else ρ n) = ρ'
  have ha : Agree rs.length ρ ρ' := fun n hn => by rw [← hρ]; exact if_neg (by omega)
  have hnew : ρ' rs.length = (w.heap.size, 0) := by rw [← hρ]; exact if_pos rfl
  clear hρ
  have h2 := (h.ext ha hb).kept (Kept.alloc w (fun _ => False) (.cells (denL ρ cs).toArray e)) (fun _ _ _ _ h => h) (fun _ h => h.elim)
  have hcases : ∀ n r, (rs ++ [(⟨cs, wr⟩ : Reg)])[n]? = some r → rs[n]? = some r ∨ (n = rs.length ∧ r = ⟨cs, wr⟩) := by
    intro n r hn
    rcases Nat.lt_or_ge n rs.length with hl | hl
    · rw [List.getElem?_append_left hl] at hn; exact .inl hn
    · rw [List.getElem?_append_right hl] at hn
      have h0 : n - rs.length = 0 := by
        rcases Nat.eq_zero_or_pos (n - rs.length) with h0 | h0
        · exact h0
        · rw [List.getElem?_eq_none (by simp; omega)] at hn; cases hn
      rw [h0] at hn
      simp at hn
      exact .inr ⟨by omega, hn.symm⟩
  have hold : ∀ n r, rs[n]? = some r → (ρ' n).1 < w.heap.size := fun n r hn => (h.ext ha hb).lt n r hn
  refine ⟨h2.keeps, fun n r hn => ?_, fun n r hn i v hv => ?_, fun n r hn hw => ?_, fun n m r r' hn hm hne hw he => ?_⟩
  · rcases hcases n r hn with hn | ⟨rfl, rfl⟩
    · exact h2.lt n r hn
    · rw [hnew]; simp
  · rcases hcases n r hn with hn | ⟨rfl, rfl⟩
    · exact h2.cell n r hn i v hv
    · unfold Nm.at_
      rw [hnew, LV.den_ext ha v (undL_mem hcs (List.mem_of_getElem? hv)), Nat.zero_add, World.cell?_alloc_new]
      simp only [List.getElem?_toArray, denL_eq, List.getElem?_map]
      rw [show cs[i]? = some v from hv]
      rfl
  · rcases hcases n r hn with hn | ⟨rfl, rfl⟩
    · exact h2.wr n r hn hw
    · rw [hnew]
      refine ⟨.inr h.keeps.size, fun i _ => ?_⟩
      unfold Nm.at_
      rw [hnew]
      exact World.frozen?_alloc_new _ _ _ _
  · rcases hcases n r hn with hn1 | ⟨rfl, rfl⟩ <;> rcases hcases m r' hm with hm1 | ⟨rfl, rfl⟩
    · exact h2.apart n m r r' hn1 hm1 hne hw he
    · have := hold n r hn1
      rw [he, hnew] at this
      simp at this
    · have := hold m r' hm1
      rw [← he, hnew] at this
      simp at this
    · exact absurd rfl hne
end
/-! ### Cell by cell -/
/-- outside all places that may be written -/
def OutR (ρ : Nm) (rs : List Reg) (g i : Nat) : Prop := ∀ (n : Nat) (r : Reg), rs[n]? = some r → r.wr = true → (ρ n).1 = g → i < (ρ n).2 ∨ (ρ n).2 + r.cells.length ≤ i
/-- outside, the cells of the blocks stand -/
def Still (O : Nat → Nat → Prop) (w w' : World) : Prop := ∀ (g : Nat) (arr : Array Value) (t : TypeId) (m : Nat × Nat), w.heap[g]? = some (.cells arr t m) →
  ∃ arr' : Array Value, w'.heap[g]? = some (.cells arr' t m) ∧ arr'.size = arr.size ∧ ∀ i, O g i → arr'[i]? = arr[i]?
theorem Still.refl (O : Nat → Nat → Prop) (w : World) : Still O w w := fun _ arr _ _ h => ⟨arr, h, rfl, fun _ _ => rfl⟩
theorem Still.trans {O O' : Nat → Nat → Prop} {w w' w'' : World} (h : Still O w w') (h' : Still O' w' w'') (hO : ∀ g i, g < w.heap.size → O g i → O' g i) : Still O w w'' := by
  intro g arr t m hg
  obtain ⟨a1, h1, h2, h3⟩ := h g arr t m hg
  obtain ⟨a2, h4, h5, h6⟩ := h' g a1 t m h1
  refine ⟨a2, h4, h5.trans h2, fun i hi => (h6 i (hO g i ?_ hi)).trans (h3 i hi)⟩
  rcases Nat.lt_or_ge g w.heap.size with hl | hl
  · exact hl
  · rw [Array.getElem?_eq_none hl] at hg; cases hg
theorem Still.mono {O O' : Nat → Nat → Prop} {w w' : World} (h : Still O w w') (hO : ∀ g i, g < w.heap.size → O' g i → O g i) : Still O' w w' := by
  intro g arr t m hg
  obtain ⟨a1, h1, h2, h3⟩ := h g arr t m hg
  refine ⟨a1, h1, h2, fun i hi => h3 i (hO g i ?_ hi)⟩
  rcases Nat.lt_or_ge g w.heap.size with hl | hl
  · exact hl
  · rw [Array.getElem?_eq_none hl] at hg; cases hg
theorem Still.of_blocks {O : Nat → Nat → Prop} {w w' : World} (h : ∀ k, k < w.heap.size → w'.heap[k]? = w.heap[k]?) : Still O w w' := by
  intro g arr t m hg
  refine ⟨arr, ?_, rfl, fun _ _ => rfl⟩
  rcases Nat.lt_or_ge g w.heap.size with hl | hl
  · rw [h g hl]; exact hg
  · rw [Array.getElem?_eq_none hl] at hg; cases hg
theorem Still.setCell {O : Nat → Nat → Prop} (w : World) (p : Addr) (u : Value) (hO : ∀ i, O p.block i → i ≠ p.off) : Still O w (w.setCell p u) := by
  intro g arr t m hg
  by_cases hb : g = p.block
  · subst hb
    refine ⟨if p.spot.isSome then arr else arr.setIfInBounds p.off u, ?_, by split <;> simp, fun i hi => ?_⟩
    · simp [World.setCell, Array.getElem?_modify, hg]
    · split
      · rfl
      · rw [Array.getElem?_setIfInBounds_ne (Ne.symm (hO i hi))]
  · exact ⟨arr, (Below.heap_setCell w p u g hb).trans hg, rfl, fun _ _ => rfl⟩
end Go.Proofs.Ytodjhkmbgennaaa