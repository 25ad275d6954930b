/-
  Rows of instructions: their cells, one of them read, a copy.
-/
import Derived.Test.YtnfgndapalkbcaaInst
import Derived.Test.YtnfgndapalkbcaaSimHN
import Derived.Test.YtnfgndapalkbcaaAppAny
import Derived.IntWalk
namespace Go.Proofs.Ytnfgndapalkbcaa
open Go Go.RowKit
attribute [local irreducible] run goO goN ordGoN eqlOf eqlOper eqlOfO cellL leaveK someK nextK nextT nextOT nextOD loopBody loopRest loopK fillJ tmplOf tmplJ mergeT At AtO drawOk ordOf gateOf callC callO topOp topO idxOf appOf storeOf clearOf sliceOf calleeOf calleeO topQ idxQ newRowOf resL stepOp seek

def insts (xs : List In) : List Value := xs.flatMap In.cells
theorem In.cells_length (x : In) : x.cells.length = 21 := rfl
theorem In.den_cells (x : In) (ρ : Nm) : denL ρ (x.cells.map .v) = x.cells := denL_v ρ x.cells
theorem insts_length (xs : List In) : (insts xs).length = xs.length * 21 := by
  induction xs with
  | nil => rfl
  | cons x xs ih =>
    have : insts (x :: xs) = x.cells ++ insts xs := rfl
    rw [this, List.length_append, ih, In.cells_length, List.length_cons]
    omega
theorem insts_append (xs ys : List In) : insts (xs ++ ys) = insts xs ++ insts ys := by simp [insts]
theorem insts_one (xs : List In) : ∀ u ∈ insts xs, u.oneCell' = true := by
  intro u hu
  unfold insts at hu
  rw [List.mem_flatMap] at hu
  obtain ⟨x, _, hu⟩ := hu
  have : x.cells.all (·.oneCell') = true := rfl
  exact List.all_eq_true.1 this u hu
theorem insts_at : ∀ (xs : List In) (k : Nat) (x : In), xs[k]? = some x → ∀ (j : Nat) (v : Value), x.cells[j]? = some v → (insts xs)[k * 21 + j]? = some v
  | [], k, x, h, _, _, _ => by simp at h
  | y :: ys, 0, x, h, j, v, hv => by
    simp only [List.getElem?_cons_zero, Option.some.injEq] at h
    subst h
    have hj : j < y.cells.length := (List.getElem?_eq_some_iff.1 hv).1
    have : insts (y :: ys) = y.cells ++ insts ys := rfl
    rw [this, List.getElem?_append_left (by omega)]
    rw [show 0 * 21 + j = j by omega]
    exact hv
  | y :: ys, k + 1, x, h, j, v, hv => by
    simp only [List.getElem?_cons_succ] at h
    have ih := insts_at ys k x h j v hv
    have : insts (y :: ys) = y.cells ++ insts ys := rfl
    rw [this, List.getElem?_append_right (by rw [In.cells_length]; omega), In.cells_length]
    rw [← ih]
    congr 1
    omega
theorem insts_overlay (xs : List In) (k : Nat) (x : In) (rest : List Value) (hk : k < xs.length) : overlay (insts xs ++ rest) (k * 21) x.cells = insts (xs.set k x) ++ rest := by
  have e : xs = xs.take k ++ xs[k] :: xs.drop (k + 1) := by rw [List.getElem_cons_drop, List.take_append_drop]
  have hl : (insts (xs.take k)).length = k * 21 := by rw [insts_length, List.length_take, Nat.min_eq_left (by omega)]
  have e1 : insts xs = insts (xs.take k) ++ (xs[k].cells ++ insts (xs.drop (k + 1))) := by
    conv => lhs; rw [e]
    rw [insts_append]
    rfl
  have e2 : xs.set k x = xs.take k ++ x :: xs.drop (k + 1) := by
    rw [List.set_eq_take_append_cons_drop, if_pos hk]
  rw [e2, insts_append, e1]
  unfold overlay
  have e3 : insts (x :: xs.drop (k + 1)) = x.cells ++ insts (xs.drop (k + 1)) := rfl
  rw [e3]
  generalize insts (xs.take k) = a at *
  generalize insts (xs.drop (k + 1)) = b at *
  have h21 := In.cells_length x
  have h21' := In.cells_length xs[k]
  generalize x.cells = m at *
  generalize xs[k].cells = m' at *
  simp only [List.append_assoc]
  rw [← hl, List.take_left, show a.length + m.length = a.length + m'.length by omega, ← List.drop_drop, List.drop_left, List.drop_left]
/-- of a slice of instructions: the element's cells -/
theorem Reads.inst {w : World} {B n k : Nat} {A : Option Addr} {xs : List In} (h : Reads w B 21 A n (insts xs)) (hk : k < n) :
    ∃ g o x, A = some ⟨g, o, none⟩ ∧ g < B ∧ xs[k]? = some x ∧ ∀ (j : Nat) (v : Value), x.cells[j]? = some v → w.cell? ⟨g, o + k * 21 + j, none⟩ = some v := by
  have hl : xs.length = n := by have := h.1; rw [insts_length] at this; omega
  obtain ⟨ad, rfl, hb, hc⟩ := h.2 (by omega)
  obtain ⟨g, o, sp⟩ := ad
  have hx : xs[k]? = some (xs[k]'(by omega)) := List.getElem?_eq_getElem (by omega)
  have h0 := hc 0 _ (insts_at xs 0 (xs[0]'(by omega)) (List.getElem?_eq_getElem (by omega)) 0 _ rfl)
  have hsp : sp = none := by
    cases sp with
    | none => rfl
    | some s =>
      unfold World.cell? Addr.add at h0
      simp at h0
      split at h0 <;> simp at h0
  subst hsp
  have hb : g < B := hb
  refine ⟨g, o, _, rfl, hb, hx, fun j v hv => ?_⟩
  have := hc _ v (insts_at xs k _ hx j v hv)
  unfold Addr.add at this
  split at this
  · rename_i h0
    have e : o + k * 21 + j = o := by omega
    rw [e]
    exact this
  · have e : o + k * 21 + j = o + (k * 21 + j) := by omega
    rw [e]
    exact this
theorem Reads.insts_len {w : World} {B n : Nat} {A : Option Addr} {xs : List In} (h : Reads w B 21 A n (insts xs)) : xs.length = n := by
  have := h.1; rw [insts_length] at this; omega
theorem inst_info : (Try.prog.info? 55).map (fun i => (i.zero, i.size, i.bytes)) = some (some (.agg #[.int .i64 0, .string ⟨#[]⟩, .string ⟨#[]⟩, .string ⟨#[]⟩, .string ⟨#[]⟩, .bool false, .string ⟨#[]⟩, .string ⟨#[]⟩, .string ⟨#[]⟩, .int .i64 0, .int .i64 0, .int .i64 0, .int .i64 0, .int .i64 0, .bool false, .bool false, .bool false, .int .i64 0, .int .i64 0, .int .i64 0, .int .i64 0]), 21, 208) := by kernel_rfl

/-- a row of instructions of one's own, as a whole block -/
def InstsN (w : World) (xs : List In) (e : Ending) (w' : World) : Prop := ∃ A cap, e = .returned (.slice A xs.length cap) ∧ w'.ownsRow w.heap.size 55 21 (.slice A xs.length cap) xs.length (insts xs) ∧ Below w.heap.size w w'
theorem instsN_of {w0 w' : World} {base : Nat} {v : Value} {xs : List In} (h : w'.ownsRow base 55 21 v xs.length (insts xs)) (hb : w0.heap.size ≤ base) (hw : Below w0.heap.size w0 w') : InstsN w0 xs (.returned v) w' := by
  have h2 : w'.ownsRow w0.heap.size 55 21 v xs.length (insts xs) := by
    refine ⟨h.1, ?_⟩
    rcases h.2 with h2 | ⟨g, cap, cur, e, hg, r⟩
    · exact .inl h2
    · exact .inr ⟨g, cap, cur, e, Nat.le_trans hb hg, r⟩
  rcases h.2 with ⟨rfl, h0⟩ | ⟨g, cap, cur, rfl, r⟩
  · refine ⟨none, 0, by rw [h0], ?_, hw⟩
    rw [h0] at h2 ⊢
    exact h2
  · exact ⟨_, cap, rfl, h2, hw⟩
set_option maxRecDepth 100000 in
set_option maxHeartbeats 1000000 in
theorem clone_any (A : Option Addr) (n cp B : Nat) (xs : List In) (w : World) (h : Reads w B 21 A n (insts xs)) (hB : B ≤ w.heap.size) (hn : n ≤ 100000) (hA : A = none → n = 0 ∧ cp = 0) :
    Calls Try.prog 45 #[.slice A n cp] w (InstsN w xs) := by
  obtain ⟨i0, hi0, hz0, hz1, hz2⟩ := info_parts inst_info
  have hl := h.insts_len
  refine sim_enter Try.func45 ρ0 [.v (.slice A n cp)] [] (by kernel_rfl) rfl ?_
  cases A with
  | none =>
    obtain ⟨rfl, rfl⟩ := hA rfl
    obtain rfl := List.eq_nil_of_length_eq_zero hl
    refine sim_run 1000 [] (Rel.start [] w ρ0) (by kernel_rfl) trivial (fun ρ1 w1 hm1 hR1 => ?_)
    refine sim_ret (.v (.slice none 0 0)) hR1 (by kernel_rfl) (by kernel_rfl) ⟨none, 0, rfl, World.ownsRow_nil _ _ _ _, hR1.toBelow⟩
  | some ad =>
    refine sim_run 1000 [] (Rel.start [] w ρ0) (by kernel_rfl) trivial (fun ρ1 w1 hm1 hR1 => ?_)
    refine sim_newRow (e := 55) (by kernel_rfl) hR1 (fun hR2 => ?_)
    refine sim_run 1000 [] hR2 (by kernel_rfl) trivial (fun ρ3 w3 hm3 hR3 => ?_)
    have hbel : Below w.heap.size w w3 := hR3.toBelow
    have hown : w3.ownsRow w1.heap.size 55 21 (.slice (some ⟨w1.heap.size, 0, none⟩) 0 0) 0 [] := own_kept (own_new w1 55 21) hm3.kept (fun g _ h => wrS_allRo (by kernel_rfl) h)
    have hrd : Reads w3 B 21 (some ad) n (insts xs) := h.below ⟨hbel.os, hbel.tape, hbel.output, by have := hbel.size; omega, fun k hk => hbel.block k (by omega)⟩
    have hone : ((insts xs).map LV.v).all oneL = true := by
      rw [List.all_eq_true]
      intro u hu
      rw [List.mem_map] at hu
      obtain ⟨u', hu', rfl⟩ := hu
      exact insts_one xs u' hu'
    refine sim_append 48 (.v (.slice (some ⟨w1.heap.size, 0, none⟩) 0 0)) (.v (.slice (some ad) n cp)) (by kernel_rfl) hR3 Try.underlying48 hi0 hz0 hz1 hz2 rfl (by omega) rfl hown rfl ((insts xs).map .v) (by rw [List.length_map, insts_length, hl]) (fun j u hu => ?_) hone (by rw [Nat.zero_add]; unfold maxLen; omega) (by omega) ?_ ?_ (fun g hg k r hk _ => ?_) (fun v' w4 hown' hgr hat hR4 => ?_)
    · rw [List.getElem?_map] at hu
      cases hj : (insts xs)[j]? with
      | none => rw [hj] at hu; cases hu
      | some u' =>
        rw [hj] at hu
        simp only [Option.map_some, Option.some.injEq] at hu
        subst hu
        obtain ⟨ad', e, _, hc⟩ := hrd.2 (by
          have := (List.getElem?_eq_some_iff.1 hj).1
          rw [insts_length, hl] at this
          omega)
        injection e with e
        subst e
        exact hc j u' hj
    · have := hm3.kept.size
      simp at this
      omega
    · exact hm1.kept.size
    · have : allEmpty (run Try.prog [] 1000 (nextC (run Try.prog [] 1000 (startC Try.f45 [.v (.slice (some ad) n cp)] [])).1 (.v (.slice (some ⟨w1.heap.size, 0, none⟩) 0 0)) (run Try.prog [] 1000 (startC Try.f45 [.v (.slice (some ad) n cp)] [])).1.rs)).1.rs = true := by kernel_rfl
      exact absurd hk (by rw [allEmpty_spec this]; simp)
    · refine sim_run 1000 [] hR4 (by kernel_rfl) trivial (fun ρ5 w5 hm5 hR5 => ?_)
      refine sim_ret (.v v') hR5 (by kernel_rfl) (by kernel_rfl) ?_
      have h5 := own_kept hown' hm5.kept (fun g _ h => wrS_allRo (by kernel_rfl) h)
      rw [Nat.zero_add, List.nil_append, denL_v] at h5
      subst hl
      exact instsN_of h5 hm1.kept.size hR5.toBelow

/-! ### IndexFunc -/
/-- a function value that answers p, as long as the blocks below B stand as in w -/
theorem below_mono {B B' : Nat} {w w' : World} (h : Below B w w') (hB : B' ≤ B) : Below B' w w' := ⟨h.os, h.tape, h.output, h.size, fun k hk => h.block k (by omega)⟩
theorem Reads.belowN {w w' : World} {B N size n : Nat} {A : Option Addr} {xs : List Value} (h : Reads w B size A n xs) (hb : Below N w w') (hB : B ≤ N) : Reads w' B size A n xs := h.below (below_mono hb hB)

theorem own_of_blk {w : World} {g t n cp base : Nat} {xs : List In} {cur : List Value} (h : Blk w g t cur.toArray) (hb : base ≤ g) (hn : n ≤ cp) (hm : cp ≤ maxLen) (hs : cur.length = cp * 21) (hx : cur.take (n * 21) = insts xs) (hl : xs.length = n) : w.ownsRow base t 21 (.slice (some ⟨g, 0, none⟩) n cp) n (insts xs) :=
  ⟨by rw [insts_length, hl], .inr ⟨g, cp, cur.toArray, rfl, hb, h, hn, hm, by simpa using hs, by simpa using hx⟩⟩
section
variable {Q : Exit → Act → World → Prop} {c : Cfg} {ρ : Nm} {w0 w : World}
theorem old_not {w0 w : World} {ρ : Nm} {rs : List Reg} (hR : Rel [] w0 ρ rs w) {g : Nat} (hg : g < w0.heap.size) : ∀ (n : Nat) (r : Reg), rs[n]? = some r → r.wr = true → (ρ n).1 = g → False := fun n r hn hw e => by
  rcases (hR.wr n r hn hw).1 with h | h
  · simp at h
  · omega
end
def noText : ByteArray := ⟨#[]⟩
def zeroIn : In := ⟨0, ⟨noText, noText, noText, noText, false, noText, noText, noText, 0, 0, 0, 0⟩, 0, false, false, false, 0, 0, 0, 0⟩
/-- the cells of an instruction from a place on -/
def InAt (w : World) (g o : Nat) (x : In) : Prop := ∀ (j : Nat) (v : Value), x.cells[j]? = some v → w.cell? ⟨g, o + j, none⟩ = some v
theorem InAt.lt {w : World} {g o : Nat} {x : In} (h : InAt w g o x) : g < w.heap.size := World.block_lt_of_cell? _ _ (h 0 _ rfl)
theorem InAt.below {w w' : World} {g o B : Nat} {x : In} (h : InAt w g o x) (hb : Below B w w') (hg : g < B) : InAt w' g o x := fun j v hv => by rw [← h j v hv]; exact hb.cell hg
theorem InAt.lv {w : World} {g o : Nat} {x : In} (h : InAt w g o x) (ρ : Nm) (j : Nat) (v : LV) (hv : (x.cells.map LV.v)[j]? = some v) : w.cell? ⟨g, o + j, none⟩ = some (v.den ρ) := by
  rw [List.getElem?_map] at hv
  cases hq : x.cells[j]? with
  | none => rw [hq] at hv; cases hv
  | some u =>
    rw [hq] at hv
    simp only [Option.map_some, Option.some.injEq] at hv
    subst hv
    exact h j u hq
theorem Rel.inAt {T : List Nat} {w0 w : World} {ρ : Nm} {rs : List Reg} (hR : Rel T w0 ρ rs w) {n : Nat} {x : In} {b : Bool} (hn : rs[n]? = some ⟨x.cells.map .v, b⟩) : InAt w (ρ n).1 (ρ n).2 x := fun j v hv => hR.cell n _ hn j (.v v) (by simp only [List.getElem?_map, hv, Option.map_some])
end Go.Proofs.Ytnfgndapalkbcaa
