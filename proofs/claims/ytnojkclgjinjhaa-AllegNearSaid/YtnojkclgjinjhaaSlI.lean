/-
  Slices of instructions: slices.Clone, IndexFunc, DeleteFunc, MinFunc.
-/
import Derived.Test.YtnojkclgjinjhaaInst
import Derived.Test.YtnojkclgjinjhaaSimHN
import Derived.Test.YtnojkclgjinjhaaAppAny
import Derived.IntWalk
namespace Go.Proofs.Ytnojkclgjinjhaa
open Go Go.RowKit
attribute [local irreducible] run goO goN ordGoN eqlOf eqlOper eqlOfO cellL leaveK someK nextK nextT nextOT nextOD loopBody loopRest loopK fillJ tmplOf tmplJ mergeT At AtO drawOk ordOf gateOf callC callO topOp topO idxOf appOf storeOf clearOf sliceOf calleeOf calleeO topQ idxQ newRowOf resL stepOp seek

def insts (xs : List In) : List Value := xs.flatMap In.cells
theorem In.cells_length (x : In) : x.cells.length = 21 := rfl
theorem In.den_cells (x : In) (ρ : Nm) : denL ρ (x.cells.map .v) = x.cells := denL_v ρ x.cells
theorem insts_length (xs : List In) : (insts xs).length = xs.length * 21 := by
  induction xs with
  | nil => rfl
  | cons x xs ih =>
    have : insts (x :: xs) = x.cells ++ insts xs := rfl
    rw [this, List.length_append, ih, In.cells_length, List.length_cons]
    omega
theorem insts_append (xs ys : List In) : insts (xs ++ ys) = insts xs ++ insts ys := by simp [insts]
theorem insts_one (xs : List In) : ∀ u ∈ insts xs, u.oneCell' = true := by
  intro u hu
  unfold insts at hu
  rw [List.mem_flatMap] at hu
  obtain ⟨x, _, hu⟩ := hu
  have : x.cells.all (·.oneCell') = true := rfl
  exact List.all_eq_true.1 this u hu
theorem insts_at : ∀ (xs : List In) (k : Nat) (x : In), xs[k]? = some x → ∀ (j : Nat) (v : Value), x.cells[j]? = some v → (insts xs)[k * 21 + j]? = some v
  | [], k, x, h, _, _, _ => by simp at h
  | y :: ys, 0, x, h, j, v, hv => by
    simp only [List.getElem?_cons_zero, Option.some.injEq] at h
    subst h
    have hj : j < y.cells.length := (List.getElem?_eq_some_iff.1 hv).1
    have : insts (y :: ys) = y.cells ++ insts ys := rfl
    rw [this, List.getElem?_append_left (by omega)]
    rw [show 0 * 21 + j = j by omega]
    exact hv
  | y :: ys, k + 1, x, h, j, v, hv => by
    simp only [List.getElem?_cons_succ] at h
    have ih := insts_at ys k x h j v hv
    have : insts (y :: ys) = y.cells ++ insts ys := rfl
    rw [this, List.getElem?_append_right (by rw [In.cells_length]; omega), In.cells_length]
    rw [← ih]
    congr 1
    omega
theorem insts_overlay (xs : List In) (k : Nat) (x : In) (rest : List Value) (hk : k < xs.length) : overlay (insts xs ++ rest) (k * 21) x.cells = insts (xs.set k x) ++ rest := by
  have e : xs = xs.take k ++ xs[k] :: xs.drop (k + 1) := by rw [List.getElem_cons_drop, List.take_append_drop]
  have hl : (insts (xs.take k)).length = k * 21 := by rw [insts_length, List.length_take, Nat.min_eq_left (by omega)]
  have e1 : insts xs = insts (xs.take k) ++ (xs[k].cells ++ insts (xs.drop (k + 1))) := by
    conv => lhs; rw [e]
    rw [insts_append]
    rfl
  have e2 : xs.set k x = xs.take k ++ x :: xs.drop (k + 1) := by
    rw [List.set_eq_take_append_cons_drop, if_pos hk]
  rw [e2, insts_append, e1]
  unfold overlay
  have e3 : insts (x :: xs.drop (k + 1)) = x.cells ++ insts (xs.drop (k + 1)) := rfl
  rw [e3]
  generalize insts (xs.take k) = a at *
  generalize insts (xs.drop (k + 1)) = b at *
  have h21 := In.cells_length x
  have h21' := In.cells_length xs[k]
  generalize x.cells = m at *
  generalize xs[k].cells = m' at *
  simp only [List.append_assoc]
  rw [← hl, List.take_left, show a.length + m.length = a.length + m'.length by omega, ← List.drop_drop, List.drop_left, List.drop_left]
/-- of a slice of instructions: the element's cells -/
theorem Reads.inst {w : World} {B n k : Nat} {A : Option Addr} {xs : List In} (h : Reads w B 21 A n (insts xs)) (hk : k < n) :
    ∃ g o x, A = some ⟨g, o, none⟩ ∧ g < B ∧ xs[k]? = some x ∧ ∀ (j : Nat) (v : Value), x.cells[j]? = some v → w.cell? ⟨g, o + k * 21 + j, none⟩ = some v := by
  have hl : xs.length = n := by have := h.1; rw [insts_length] at this; omega
  obtain ⟨ad, rfl, hb, hc⟩ := h.2 (by omega)
  obtain ⟨g, o, sp⟩ := ad
  have hx : xs[k]? = some (xs[k]'(by omega)) := List.getElem?_eq_getElem (by omega)
  have h0 := hc 0 _ (insts_at xs 0 (xs[0]'(by omega)) (List.getElem?_eq_getElem (by omega)) 0 _ rfl)
  have hsp : sp = none := by
    cases sp with
    | none => rfl
    | some s =>
      unfold World.cell? Addr.add at h0
      simp at h0
      split at h0 <;> simp at h0
  subst hsp
  have hb : g < B := hb
  refine ⟨g, o, _, rfl, hb, hx, fun j v hv => ?_⟩
  have := hc _ v (insts_at xs k _ hx j v hv)
  unfold Addr.add at this
  split at this
  · rename_i h0
    have e : o + k * 21 + j = o := by omega
    rw [e]
    exact this
  · have e : o + k * 21 + j = o + (k * 21 + j) := by omega
    rw [e]
    exact this
theorem Reads.insts_len {w : World} {B n : Nat} {A : Option Addr} {xs : List In} (h : Reads w B 21 A n (insts xs)) : xs.length = n := by
  have := h.1; rw [insts_length] at this; omega
theorem inst_info : (Try.prog.info? 27).map (fun i => (i.zero, i.size, i.bytes)) = some (some (.agg #[.int .i64 0, .string ⟨#[]⟩, .string ⟨#[]⟩, .string ⟨#[]⟩, .string ⟨#[]⟩, .bool false, .string ⟨#[]⟩, .string ⟨#[]⟩, .string ⟨#[]⟩, .int .i64 0, .int .i64 0, .int .i64 0, .int .i64 0, .int .i64 0, .bool false, .bool false, .bool false, .int .i64 0, .int .i64 0, .int .i64 0, .int .i64 0]), 21, 208) := by kernel_rfl

/-- a row of instructions of one's own, as a whole block -/
def InstsN (w : World) (xs : List In) (e : Ending) (w' : World) : Prop := ∃ A cap, e = .returned (.slice A xs.length cap) ∧ w'.ownsRow w.heap.size 27 21 (.slice A xs.length cap) xs.length (insts xs) ∧ Below w.heap.size w w'
theorem instsN_of {w0 w' : World} {base : Nat} {v : Value} {xs : List In} (h : w'.ownsRow base 27 21 v xs.length (insts xs)) (hb : w0.heap.size ≤ base) (hw : Below w0.heap.size w0 w') : InstsN w0 xs (.returned v) w' := by
  have h2 : w'.ownsRow w0.heap.size 27 21 v xs.length (insts xs) := by
    refine ⟨h.1, ?_⟩
    rcases h.2 with h2 | ⟨g, cap, cur, e, hg, r⟩
    · exact .inl h2
    · exact .inr ⟨g, cap, cur, e, Nat.le_trans hb hg, r⟩
  rcases h.2 with ⟨rfl, h0⟩ | ⟨g, cap, cur, rfl, r⟩
  · refine ⟨none, 0, by rw [h0], ?_, hw⟩
    rw [h0] at h2 ⊢
    exact h2
  · exact ⟨_, cap, rfl, h2, hw⟩
set_option maxRecDepth 100000 in
set_option maxHeartbeats 1000000 in
theorem clone_any (A : Option Addr) (n cp B : Nat) (xs : List In) (w : World) (h : Reads w B 21 A n (insts xs)) (hB : B ≤ w.heap.size) (hn : n ≤ 100000) (hA : A = none → n = 0 ∧ cp = 0) :
    Calls Try.prog 31 #[.slice A n cp] w (InstsN w xs) := by
  obtain ⟨i0, hi0, hz0, hz1, hz2⟩ := info_parts inst_info
  have hl := h.insts_len
  refine sim_enter Try.func31 ρ0 [.v (.slice A n cp)] [] (by kernel_rfl) rfl ?_
  cases A with
  | none =>
    obtain ⟨rfl, rfl⟩ := hA rfl
    obtain rfl := List.eq_nil_of_length_eq_zero hl
    refine sim_run 1000 [] (Rel.start [] w ρ0) (by kernel_rfl) trivial (fun ρ1 w1 hm1 hR1 => ?_)
    refine sim_ret (.v (.slice none 0 0)) hR1 (by kernel_rfl) (by kernel_rfl) ⟨none, 0, rfl, World.ownsRow_nil _ _ _ _, hR1.toBelow⟩
  | some ad =>
    refine sim_run 1000 [] (Rel.start [] w ρ0) (by kernel_rfl) trivial (fun ρ1 w1 hm1 hR1 => ?_)
    refine sim_newRow (e := 27) (by kernel_rfl) hR1 (fun hR2 => ?_)
    refine sim_run 1000 [] hR2 (by kernel_rfl) trivial (fun ρ3 w3 hm3 hR3 => ?_)
    have hbel : Below w.heap.size w w3 := hR3.toBelow
    have hown : w3.ownsRow w1.heap.size 27 21 (.slice (some ⟨w1.heap.size, 0, none⟩) 0 0) 0 [] := own_kept (own_new w1 27 21) hm3.kept (fun g _ h => wrS_allRo (by kernel_rfl) h)
    have hrd : Reads w3 B 21 (some ad) n (insts xs) := h.below ⟨hbel.os, hbel.tape, hbel.output, by have := hbel.size; omega, fun k hk => hbel.block k (by omega)⟩
    have hone : ((insts xs).map LV.v).all oneL = true := by
      rw [List.all_eq_true]
      intro u hu
      rw [List.mem_map] at hu
      obtain ⟨u', hu', rfl⟩ := hu
      exact insts_one xs u' hu'
    refine sim_append 22 (.v (.slice (some ⟨w1.heap.size, 0, none⟩) 0 0)) (.v (.slice (some ad) n cp)) (by kernel_rfl) hR3 Try.underlying22 hi0 hz0 hz1 hz2 rfl (by omega) rfl hown rfl ((insts xs).map .v) (by rw [List.length_map, insts_length, hl]) (fun j u hu => ?_) hone (by rw [Nat.zero_add]; unfold maxLen; omega) (by omega) ?_ ?_ (fun g hg k r hk _ => ?_) (fun v' w4 hown' hgr hat hR4 => ?_)
    · rw [List.getElem?_map] at hu
      cases hj : (insts xs)[j]? with
      | none => rw [hj] at hu; cases hu
      | some u' =>
        rw [hj] at hu
        simp only [Option.map_some, Option.some.injEq] at hu
        subst hu
        obtain ⟨ad', e, _, hc⟩ := hrd.2 (by
          have := (List.getElem?_eq_some_iff.1 hj).1
          rw [insts_length, hl] at this
          omega)
        injection e with e
        subst e
        exact hc j u' hj
    · have := hm3.kept.size
      simp at this
      omega
    · exact hm1.kept.size
    · have : allEmpty (run Try.prog [] 1000 (nextC (run Try.prog [] 1000 (startC Try.f31 [.v (.slice (some ad) n cp)] [])).1 (.v (.slice (some ⟨w1.heap.size, 0, none⟩) 0 0)) (run Try.prog [] 1000 (startC Try.f31 [.v (.slice (some ad) n cp)] [])).1.rs)).1.rs = true := by kernel_rfl
      exact absurd hk (by rw [allEmpty_spec this]; simp)
    · refine sim_run 1000 [] hR4 (by kernel_rfl) trivial (fun ρ5 w5 hm5 hR5 => ?_)
      refine sim_ret (.v v') hR5 (by kernel_rfl) (by kernel_rfl) ?_
      have h5 := own_kept hown' hm5.kept (fun g _ h => wrS_allRo (by kernel_rfl) h)
      rw [Nat.zero_add, List.nil_append, denL_v] at h5
      subst hl
      exact instsN_of h5 hm1.kept.size hR5.toBelow

/-! ### IndexFunc -/
/-- a function value that answers p, as long as the blocks below B stand as in w -/
def PredOk (B : Nat) (w : World) (f : FuncId) (caps : Array Value) (p : In → Bool) : Prop :=
  ∀ (x : In) (w1 : World), x.ok → Below B w w1 → Calls Try.prog f (#[x.val] ++ caps) w1 fun e w2 => e = .returned (.bool (p x)) ∧ Below w1.heap.size w1 w2
def idxP (p : In → Bool) : List In → Nat → Int
  | [], _ => -1
  | x :: xs, i => if p x then (i : Int) else idxP p xs (i + 1)
theorem idxP_skip (p : In → Bool) : ∀ (xs : List In) (k i : Nat), (xs.take k).all (fun x => !p x) = true → idxP p xs i = idxP p (xs.drop k) (i + k) ∨ xs.length ≤ k
  | xs, 0, i, _ => .inl rfl
  | [], k + 1, i, _ => .inr (by simp)
  | x :: xs, k + 1, i, h => by
    simp only [List.take_succ_cons, List.all_cons, Bool.and_eq_true, Bool.not_eq_true'] at h
    rcases idxP_skip p xs k (i + 1) h.2 with e | e
    · left
      simp only [idxP, h.1, List.drop_succ_cons]
      rw [show i + (k + 1) = i + 1 + k by omega]
      exact e
    · exact .inr (by simp; omega)
theorem idxP_hit (p : In → Bool) (xs : List In) (k : Nat) (x : In) (hx : xs[k]? = some x) (h : (xs.take k).all (fun x => !p x) = true) (hp : p x = true) : idxP p xs 0 = k := by
  have hl : k < xs.length := (List.getElem?_eq_some_iff.1 hx).1
  rcases idxP_skip p xs k 0 h with e | e
  · rw [e, List.drop_eq_getElem_cons hl]
    have : xs[k] = x := (List.getElem?_eq_some_iff.1 hx).2
    simp [idxP, this, hp]
  · omega
theorem idxP_none (p : In → Bool) : ∀ (xs : List In) (i : Nat), xs.all (fun x => !p x) = true → idxP p xs i = -1
  | [], _, _ => rfl
  | x :: xs, i, h => by
    simp only [List.all_cons, Bool.and_eq_true, Bool.not_eq_true'] at h
    simp only [idxP, h.1]
    exact idxP_none p xs (i + 1) h.2
theorem below_mono {B B' : Nat} {w w' : World} (h : Below B w w') (hB : B' ≤ B) : Below B' w w' := ⟨h.os, h.tape, h.output, h.size, fun k hk => h.block k (by omega)⟩
theorem Reads.belowN {w w' : World} {B N size n : Nat} {A : Option Addr} {xs : List Value} (h : Reads w B size A n xs) (hb : Below N w w') (hB : B ≤ N) : Reads w' B size A n xs := h.below (below_mono hb hB)

set_option maxRecDepth 100000 in
set_option maxHeartbeats 1000000 in
theorem index_any (f : FuncId) (hf : Enters Try.prog f) (caps : Array Value) (p : In → Bool) (A : Option Addr) (n cp B : Nat) (xs : List In) (w : World) (h : Reads w B 21 A n (insts xs)) (hB : B ≤ w.heap.size) (hok : ∀ x ∈ xs, x.ok) (hn : n ≤ 100000) (hp : PredOk w.heap.size w f caps p) :
    Calls Try.prog 40 #[.slice A n cp, .func (.func f) #[] caps] w fun e w' => e = .returned (.int .i64 (idxP p xs 0)) ∧ Below w.heap.size w w' := by
  have hl := h.insts_len
  refine sim_enter Try.func40 ρ0 [.v (.slice A n cp), .v (.func (.func f) #[] caps)] [] (by kernel_rfl) rfl ?_
  refine sim_run 1000 [] (Rel.start [] w ρ0) (by kernel_rfl) trivial (fun ρ1 w1 hm1 hR1 => ?_)
  refine sim_loop (ι := Nat) (T := []) (w0 := w) 0 [0, 1, 6, 7] (fun k => [(8, LI k)]) (fun _ => []) (fun k _ => k ≤ n ∧ (xs.take k).all (fun x => !p x) = true) (fun k => n - k) (by kernel_rfl) (by kernel_rfl) (hR1.cast (by kernel_rfl)) ⟨Nat.zero_le _, rfl⟩ ?_
  rintro k d w2 hR2 ⟨hk, hall⟩
  by_cases hlt : k < n
  · refine sim_run 1000 [⟨2, 0, LB (decide ((k : Int) < (n : Int))), LB true⟩] hR2 (by kernel_rfl) ⟨eqb (by simp; omega), trivial⟩ (fun ρ3 w3 hm3 hR3 => ?_)
    have hb3 : Below w.heap.size w w3 := hR3.toBelow
    obtain ⟨g, o, x, rfl, hg, hx, hc⟩ := (h.belowN hb3 hB).inst hlt
    refine sim_index (.v (.slice (some ⟨g, o, none⟩) n cp)) n 21 k 0 (by kernel_rfl) (by kernel_rfl) (by omega) (by omega) rfl hR3 (x.cells.map .v) (by kernel_rfl) (by have := hb3.size; omega) (fun j v hv => ?_) (fun i r hi hw _ => wrS_allRo (ρ := ρ3) (g := (ρ3 i).1) (by kernel_rfl) ⟨i, r, hi, hw, rfl⟩) (fun ρ4 ha4 hn4 hR4 => ?_)
    · rw [List.getElem?_map] at hv
      cases hj : x.cells[j]? with
      | none => rw [hj] at hv; cases hv
      | some u =>
        rw [hj] at hv
        simp only [Option.map_some, Option.some.injEq] at hv
        subst hv
        have := hc j u hj
        rw [Int.toNat_natCast]
        exact this
    · refine sim_run 1000 [] hR4 (by kernel_rfl) trivial (fun ρ5 w5 hm5 hR5 => ?_)
      have hb5 : Below w.heap.size w w5 := hR5.toBelow
      refine sim_callF f caps (.v (.func (.func f) #[] caps)) [.agg (x.cells.map .v)] (by kernel_rfl) rfl hf ?_
      refine (hp x w5 (hok x (List.mem_of_getElem? hx)) hb5).mono ?_
      rintro e w6 ⟨rfl, hb6⟩
      have hR6 := hR5.below hb6
      refine Back.of (LB (p x)) hR6 rfl ?_
      cases hpx : p x with
      | true =>
        refine sim_run 1000 [] hR6 (by kernel_rfl) trivial (fun ρ7 w7 hm7 hR7 => ?_)
        refine sim_ret (LI k) hR7 (by kernel_rfl) (by kernel_rfl) ⟨?_, hR7.toBelow⟩
        rw [idxP_hit p xs k x hx hall hpx]
        rfl
      | false =>
        refine sim_run 1000 [⟨6, 0, LI (IntKind.i64.wrap ((k : Int) + 1)), LI ((k + 1 : Nat) : Int)⟩] hR6 (by kernel_rfl) ⟨eqi (by rw [IntWalk.i64_in _ (by omega)]; omega), trivial⟩ (fun ρ7 w7 hm7 hR7 => ?_)
        refine sim_again (k + 1) (by kernel_rfl) (show n - (k + 1) < n - k by omega) (by kernel_rfl) (by kernel_rfl) (by kernel_rfl) (fun i hi => absurd hi (by simp)) hR7 (by kernel_rfl) (by kernel_rfl) ⟨hlt, ?_⟩
        rw [List.take_add_one, hx, List.all_append, hall]
        simp [hpx]
  · refine sim_run 1000 [⟨2, 0, LB (decide ((k : Int) < (n : Int))), LB false⟩] hR2 (by kernel_rfl) ⟨eqb (by simp; omega), trivial⟩ (fun ρ3 w3 hm3 hR3 => ?_)
    refine sim_leave (by kernel_rfl) ?_
    refine sim_run 1000 [] hR3 (by kernel_rfl) trivial (fun ρ4 w4 hm4 hR4 => ?_)
    refine sim_ret (LI (-1)) hR4 (by kernel_rfl) (by kernel_rfl) ⟨?_, hR4.toBelow⟩
    rw [List.take_of_length_le (by omega)] at hall
    rw [idxP_none p xs 0 hall]
    rfl

/-! ### DeleteFunc -/
theorem idxP_cases (p : In → Bool) : ∀ (xs : List In) (i : Nat), (idxP p xs i = -1 ∧ xs.all (fun x => !p x) = true) ∨ ∃ (k : Nat) (x : In), idxP p xs i = ((i + k : Nat) : Int) ∧ xs[k]? = some x ∧ p x = true ∧ (xs.take k).all (fun x => !p x) = true
  | [], _ => .inl ⟨rfl, rfl⟩
  | x :: xs, i => by
    cases hp : p x with
    | true => exact .inr ⟨0, x, by simp [idxP, hp], rfl, hp, rfl⟩
    | false =>
      rcases idxP_cases p xs (i + 1) with ⟨h1, h2⟩ | ⟨k, y, h1, h2, h3, h4⟩
      · exact .inl ⟨by simp [idxP, hp, h1], by simp [hp, h2]⟩
      · refine .inr ⟨k + 1, y, ?_, h2, h3, by simp [hp, h4]⟩
        have e : idxP p (x :: xs) i = idxP p xs (i + 1) := by simp [idxP, hp]
        rw [e, h1]
        congr 1
        omega
theorem filter_all {p : In → Bool} {xs : List In} (h : xs.all (fun x => !p x) = true) : xs.filter (fun x => !p x) = xs := List.filter_eq_self.2 (fun x hx => List.all_eq_true.1 h x hx)
theorem filter_take (q : In → Bool) (xs : List In) (k : Nat) (x : In) (hx : xs[k]? = some x) : (xs.take (k + 1)).filter q = (xs.take k).filter q ++ if q x then [x] else [] := by
  rw [List.take_add_one, hx, List.filter_append]
  cases h : q x <;> simp [h]
theorem own_of_blk {w : World} {g t n cp base : Nat} {xs : List In} {cur : List Value} (h : Blk w g t cur.toArray) (hb : base ≤ g) (hn : n ≤ cp) (hm : cp ≤ maxLen) (hs : cur.length = cp * 21) (hx : cur.take (n * 21) = insts xs) (hl : xs.length = n) : w.ownsRow base t 21 (.slice (some ⟨g, 0, none⟩) n cp) n (insts xs) :=
  ⟨by rw [insts_length, hl], .inr ⟨g, cp, cur.toArray, rfl, hb, h, hn, hm, by simpa using hs, by simpa using hx⟩⟩
/-- what is left is a row in the same place -/
def DelN (base : Nat) (w : World) (A : Option Addr) (cp : Nat) (ys : List In) (e : Ending) (w' : World) : Prop :=
  e = .returned (.slice A ys.length cp) ∧ w'.ownsRow base 27 21 (.slice A ys.length cp) ys.length (insts ys) ∧ Kept (fun x => ∃ a, A = some a ∧ a.block = x) w w'

set_option maxRecDepth 100000 in
set_option maxHeartbeats 2000000 in
theorem delete_some (f : FuncId) (hf : Enters Try.prog f) (caps : Array Value) (p : In → Bool) (g n cp base : Nat) (xs : List In) (rest : List Value) (w : World) (hb : Blk w g 27 (insts xs ++ rest).toArray) (hl : xs.length = n) (hbase : base ≤ g) (hcp : n ≤ cp) (hm : cp ≤ maxLen) (hcur : (insts xs ++ rest).length = cp * 21)
    (hok : ∀ x ∈ xs, x.ok) (hn : n ≤ 100000) (hp : PredOk g w f caps p) :
    Calls Try.prog 37 #[.slice (some ⟨g, 0, none⟩) n cp, .func (.func f) #[] caps] w (DelN base w (some ⟨g, 0, none⟩) cp (xs.filter fun x => !p x)) := by
  obtain ⟨i0, hi0, hz0, hz1, hz2⟩ := info_parts inst_info
  have hgl := hb.lt
  have hrd0 : Reads w w.heap.size 21 (some ⟨g, 0, none⟩) n (insts xs) := by
    refine ⟨by rw [insts_length, hl], fun _ => ⟨_, rfl, hgl, fun j u hu => ?_⟩⟩
    have e : (⟨g, 0, none⟩ : Addr).add j = ⟨g, j, none⟩ := by unfold Addr.add; by_cases hj : j = 0 <;> simp [hj]
    rw [e, hb.cell]
    have hj := (List.getElem?_eq_some_iff.1 hu).1
    simp only [List.getElem?_toArray, List.getElem?_append_left hj]
    exact hu
  refine sim_enter Try.func37 ρ0 [.v (.slice (some ⟨g, 0, none⟩) n cp), .v (.func (.func f) #[] caps)] [] (by kernel_rfl) rfl ?_
  refine sim_run 1000 [] (Rel.start [g] w ρ0) (by kernel_rfl) trivial (fun ρ1 w1 hm1 hR1 => ?_)
  have hk1 : Kept (fun _ => False) w w1 := hm1.kept.mono (fun x hx => .inl (wrS_allRo (by kernel_rfl) hx))
  have hb1 : Below w.heap.size w w1 := hk1.below (Nat.le_refl _) (fun x hx => hx.elim)
  refine sim_call 40 [.v (.slice (some ⟨g, 0, none⟩) n cp), .v (.func (.func f) #[] caps)] (by kernel_rfl) ?_
  refine (index_any f hf caps p _ n cp w.heap.size xs w1 (hrd0.below hb1) hb1.size hok hn (fun x w2 hx hb2 => hp x w2 hx ((below_mono hb1 (by omega)).trans (below_mono hb2 (by have := hb1.size; omega))))).mono ?_
  rintro e w2 ⟨rfl, hb2⟩
  have hR2 := hR1.below hb2
  have hbk2 : Blk w2 g 27 (insts xs ++ rest).toArray := (hb.below hb1 hgl).below hb2 (by have := hb1.size; omega)
  refine Back.of (LI (idxP p xs 0)) hR2 rfl ?_
  rcases idxP_cases p xs 0 with ⟨hi, hall⟩ | ⟨k0, x0, hi, hx0, hp0, hall⟩
  · rw [hi]
    refine sim_run 1000 [] hR2 (by kernel_rfl) trivial (fun ρ3 w3 hm3 hR3 => ?_)
    refine sim_ret (.v (.slice (some ⟨g, 0, none⟩) n cp)) hR3 (by kernel_rfl) (by kernel_rfl) ?_
    rw [filter_all hall]
    have hbk3 := hbk2.kept hm3.kept (fun h => wrS_allRo (by kernel_rfl) h)
    refine ⟨by rw [hl]; rfl, ?_, hR3.keeps.kept.mono (fun x hx => .inl ⟨_, rfl, (List.mem_singleton.1 hx).symm⟩)⟩
    rw [hl]
    exact own_of_blk hbk3 hbase hcp hm hcur (by rw [← hl, ← insts_length, List.take_left]) hl
  · have hk0 : k0 < n := by have := (List.getElem?_eq_some_iff.1 hx0).1; omega
    rw [Nat.zero_add] at hi
    rw [hi]
    refine sim_run 1000 [⟨2, 1, LB ((k0 : Int) == -1), LB false⟩, ⟨4, 1, LI (IntKind.i64.wrap ((k0 : Int) + 1)), LI ((k0 + 1 : Nat) : Int)⟩] hR2 (by kernel_rfl) ⟨eqb (by rw [beq_eq_false_iff_ne]; omega), eqi (by rw [IntWalk.i64_in _ (by omega)]; omega), trivial⟩ (fun ρ3 w3 hm3 hR3 => ?_)
    have hbk3 := hbk2.kept hm3.kept (fun h => wrS_allRo (by kernel_rfl) h)
    refine sim_loop (ι := Nat × Nat × List In) (T := [g]) (w0 := w) (k0, k0 + 1, xs) [0, 1] (fun x => [(5, LI x.1), (6, LI x.2.1)]) (fun _ => [])
      (fun x w' => x.1 < x.2.1 ∧ x.2.1 ≤ n ∧ x.2.2.length = n ∧ x.2.2.take x.1 = (xs.take x.2.1).filter (fun x => !p x) ∧ x.2.2.drop x.2.1 = xs.drop x.2.1 ∧ Blk w' g 27 (insts x.2.2 ++ rest).toArray)
      (fun x => n - x.2.1) (by kernel_rfl) (by kernel_rfl) (hR3.cast (by kernel_rfl)) ⟨Nat.lt_succ_self _, hk0, hl, ?_, rfl, hbk3⟩ ?_
    · show xs.take k0 = (xs.take (k0 + 1)).filter _
      rw [filter_take _ xs k0 x0 hx0, filter_all hall]
      simp [hp0]
    rintro ⟨i, j, zs⟩ d w4 hR4 ⟨hij, hjn, hzl, hzt, hzd, hbk4⟩
    simp only at hij hjn hzl hzt hzd hbk4
    by_cases hlt : j < n
    · have hx : xs[j]? = some (xs[j]'(by omega)) := List.getElem?_eq_getElem (by omega)
      generalize xs[j]'(by omega) = x at hx
      have hzx : zs[j]? = some x := by
        have := congrArg (fun l => l[0]?) hzd
        simp only [List.getElem?_drop, Nat.add_zero] at this
        rw [this, hx]
      refine sim_run 1000 [⟨5, 3, LB (decide ((j : Int) < (n : Int))), LB true⟩] hR4 (by kernel_rfl) ⟨eqb (by simp; omega), trivial⟩ (fun ρ5 w5 hm5 hR5 => ?_)
      have hbk5 := hbk4.kept hm5.kept (fun h => wrS_allRo (by kernel_rfl) h)
      refine sim_index (.v (.slice (some ⟨g, 0, none⟩) n cp)) n 21 j 0 (by kernel_rfl) (by kernel_rfl) (by omega) (by omega) rfl hR5 (x.cells.map .v) (by kernel_rfl) hbk5.lt (fun q v hv => ?_) (fun i r hi hw _ => wrS_allRo (ρ := ρ5) (g := (ρ5 i).1) (by kernel_rfl) ⟨i, r, hi, hw, rfl⟩) (fun ρ6 ha6 hn6 hR6 => ?_)
      · rw [List.getElem?_map] at hv
        cases hq : x.cells[q]? with
        | none => rw [hq] at hv; cases hv
        | some u =>
          rw [hq] at hv
          simp only [Option.map_some, Option.some.injEq] at hv
          subst hv
          have := insts_at zs j x hzx q u hq
          have hlen := (List.getElem?_eq_some_iff.1 this).1
          rw [Int.toNat_natCast, Nat.zero_add, hbk5.cell]
          simp only [List.getElem?_toArray, List.getElem?_append_left hlen]
          exact this
      · refine sim_run 1000 [] hR6 (by kernel_rfl) trivial (fun ρ7 w7 hm7 hR7 => ?_)
        have hbk7 := hbk5.kept hm7.kept (fun h => wrS_allRo (by kernel_rfl) h)
        refine sim_callF f caps (.v (.func (.func f) #[] caps)) [.agg (x.cells.map .v)] (by kernel_rfl) rfl hf ?_
        refine (hp x w7 (hok x (List.mem_of_getElem? hx)) (hR7.keeps.below (by simp) (by omega))).mono ?_
        rintro e w8 ⟨rfl, hb8⟩
        have hR8 := hR7.below hb8
        have hbk8 := hbk7.below hb8 hbk7.lt
        refine Back.of (LB (p x)) hR8 rfl ?_
        have hft := filter_take (fun x => !p x) xs j x hx
        cases hpx : p x with
        | true =>
          refine sim_run 1000 [⟨6, 1, LI (IntKind.i64.wrap ((j : Int) + 1)), LI ((j + 1 : Nat) : Int)⟩] hR8 (by kernel_rfl) ⟨eqi (by rw [IntWalk.i64_in _ (by omega)]; omega), trivial⟩ (fun ρ9 w9 hm9 hR9 => ?_)
          refine sim_again (i, j + 1, zs) (by kernel_rfl) (show n - (j + 1) < n - j by omega) (by kernel_rfl) (by kernel_rfl) (by kernel_rfl) (fun i hi => absurd hi (by simp)) hR9 (by kernel_rfl) (by kernel_rfl) ⟨Nat.lt_succ_of_lt hij, hlt, hzl, ?_, ?_, ?_⟩
          · rw [hft, ← hzt]
            simp [hpx]
          · show zs.drop (j + 1) = xs.drop (j + 1)
            rw [← List.drop_drop, ← List.drop_drop, hzd]
          · exact hbk8.kept hm9.kept (fun h => (hm7.wrs g h).elim (fun h => wrS_allRo (by kernel_rfl) h) (fun h => by have := hbk5.lt; omega))
        | false =>
          refine sim_run 1000 [] hR8 (by kernel_rfl) trivial (fun ρ9 w9 hm9 hR9 => ?_)
          have hbk9 := hbk8.kept hm9.kept (fun h => (hm7.wrs g h).elim (fun h => wrS_allRo (by kernel_rfl) h) (fun h => by have := hbk5.lt; omega))
          refine sim_addr (.v (.slice (some ⟨g, 0, none⟩) n cp)) n 21 i (by kernel_rfl) (by omega) (by omega) rfl ?_
          refine sim_run 1000 [] hR9 (by kernel_rfl) trivial (fun ρ10 w10 hm10 hR10 => ?_)
          have hbk10 := hbk9.kept hm10.kept (fun h => ((hm7.trans (⟨Agree.refl _ _, Kept.of_below _ hb8, fun _ h => .inl h, Nat.le_refl _, Still.of_blocks (fun k hk => hb8.block k hk), fun _ _ _ h => h, fun _ _ h => h, fun _ r hn hw => .inl ⟨r, hn, hw, rfl⟩⟩ : Moved ρ7 _ w7 ρ7 _ w8)).trans hm9).wrs g h |>.elim (fun h => wrS_allRo (by kernel_rfl) h) (fun h => by have := hbk5.lt; omega))
          refine sim_rs [] ?_
          refine sim_store (a := .v (.pointer (some ⟨g, 0 + (i : Int).toNat * 21, none⟩))) (vs := x.cells.map .v) (by kernel_rfl) hR10.none_ rfl hbk10 ?_ (.inl (by simp)) (fun k r hk => by simp at hk) (fun w11 hbk11 hk11 hR11 => ?_)
          · rw [List.length_append, insts_length, hzl, List.length_map, In.cells_length, Int.toNat_natCast]
            omega
          · rw [Int.toNat_natCast, Nat.zero_add, In.den_cells, insts_overlay zs i x rest (by omega)] at hbk11
            refine sim_run 1000 [⟨10, 1, LI (IntKind.i64.wrap ((i : Int) + 1)), LI ((i + 1 : Nat) : Int)⟩, ⟨6, 1, LI (IntKind.i64.wrap ((j : Int) + 1)), LI ((j + 1 : Nat) : Int)⟩] hR11 (by kernel_rfl) ⟨eqi (by rw [IntWalk.i64_in _ (by omega)]; omega), eqi (by rw [IntWalk.i64_in _ (by omega)]; omega), trivial⟩ (fun ρ12 w12 hm12 hR12 => ?_)
            refine sim_again (i + 1, j + 1, zs.set i x) (by kernel_rfl) (show n - (j + 1) < n - j by omega) (by kernel_rfl) (by kernel_rfl) (by kernel_rfl) (fun i hi => absurd hi (by simp)) hR12 (by kernel_rfl) (by kernel_rfl) ⟨Nat.succ_lt_succ hij, hlt, by rw [List.length_set]; exact hzl, ?_, ?_, ?_⟩
            · show (zs.set i x).take (i + 1) = _
              rw [hft, ← hzt, List.take_succ_eq_append_getElem (by rw [List.length_set]; omega), List.take_set_of_le (Nat.le_refl _), List.getElem_set_self]
              simp [hpx]
            · show (zs.set i x).drop (j + 1) = xs.drop (j + 1)
              rw [List.drop_set_of_lt (by omega), ← List.drop_drop, ← List.drop_drop, hzd]
            · exact hbk11.kept hm12.kept (fun h => wrS_allRo (by kernel_rfl) h)
    · have hjn' : j = n := by omega
      subst hjn'
      have hzt2 : zs.take i = xs.filter (fun x => !p x) := by rw [hzt, List.take_of_length_le (by omega)]
      have hfl : (xs.filter (fun x => !p x)).length = i := by rw [← hzt2, List.length_take]; omega
      refine sim_run 1000 [⟨5, 3, LB (decide ((j : Int) < (j : Int))), LB false⟩] hR4 (by kernel_rfl) ⟨eqb (by simp), trivial⟩ (fun ρ5 w5 hm5 hR5 => ?_)
      have hbk5 := hbk4.kept hm5.kept (fun h => wrS_allRo (by kernel_rfl) h)
      refine sim_leave (by kernel_rfl) ?_
      refine sim_run 1000 [] hR5 (by kernel_rfl) trivial (fun ρ6 w6 hm6 hR6 => ?_)
      have hbk6 := hbk5.kept hm6.kept (fun h => wrS_allRo (by kernel_rfl) h)
      refine sim_slice (ty := 22) (x := .v (.slice (some ⟨g, 0, none⟩) j cp)) (lo := [LI i]) (hi := []) (by kernel_rfl) Try.underlying22 hi0 rfl i j rfl rfl (by omega) hcp ?_
      refine sim_run 1000 [] hR6 (by kernel_rfl) trivial (fun ρ7 w7 hm7 hR7 => ?_)
      have hbk7 := hbk6.kept hm7.kept (fun h => wrS_allRo (by kernel_rfl) h)
      have hA : (if cp = i then (some ⟨g, 0, none⟩ : Option Addr) else (some ⟨g, 0, none⟩ : Option Addr).map (·.add (i * i0.size))) = some ⟨g, i * 21, none⟩ := by
        rw [if_neg (by omega), hz1]
        simp only [Option.map_some, Addr.add]
        split
        · rename_i h0
          rw [h0]
        · simp
      refine sim_clear (ty := 22) (s := .v (.slice (if cp = i then (some ⟨g, 0, none⟩ : Option Addr) else (some ⟨g, 0, none⟩ : Option Addr).map (·.add (i * i0.size))) (j - i) (cp - i))) (by kernel_rfl) Try.underlying22 hi0 hz0 rfl hR7 rfl hbk7 (fun _ => hA) ?_ (.inl (by simp)) (fun k r hk => ?_) (fun w8 vs hvs hbk8 hk8 hR8 => ?_)
      · rw [List.length_append, insts_length, hzl]
        show i * 21 + (j - i) * 21 ≤ _
        omega
      · exact fun _ => (noReg (by kernel_rfl) hk).elim
      · refine sim_run 1000 [] hR8 (by kernel_rfl) trivial (fun ρ9 w9 hm9 hR9 => ?_)
        have hbk9 := hbk8.kept hm9.kept (fun h => wrS_allRo (by kernel_rfl) h)
        refine sim_slice (ty := 22) (x := .v (.slice (some ⟨g, 0, none⟩) j cp)) (lo := []) (hi := [LI i]) (by kernel_rfl) Try.underlying22 hi0 rfl 0 i rfl rfl (by omega) (by omega) ?_
        have hA2 : (if cp = 0 then (some ⟨g, 0, none⟩ : Option Addr) else (some ⟨g, 0, none⟩ : Option Addr).map (·.add (0 * i0.size))) = some ⟨g, 0, none⟩ := by
          rw [if_neg (by omega), Nat.zero_mul]
          rfl
        rw [hA2]
        refine sim_run 1000 [] hR9 (by kernel_rfl) trivial (fun ρ10 w10 hm10 hR10 => ?_)
        have hbk10 := hbk9.kept hm10.kept (fun h => wrS_allRo (by kernel_rfl) h)
        refine sim_ret (.v (.slice (some ⟨g, 0, none⟩) i cp)) hR10 (by kernel_rfl) (by kernel_rfl) ?_
        refine ⟨by rw [hfl]; rfl, ?_, hR10.keeps.kept.mono (fun x hx => .inl ⟨_, rfl, (List.mem_singleton.1 hx).symm⟩)⟩
        rw [hfl]
        have hol : (overlay (insts zs ++ rest) (i * 21) vs).length = cp * 21 := by
          rw [overlay_length _ _ _ (by rw [hvs, List.length_append, insts_length, hzl]; show i * 21 + (j - i) * 21 ≤ _; omega), ← hcur, List.length_append, List.length_append, insts_length, insts_length, hzl, hl]
        refine own_of_blk hbk10 hbase (by omega) hm hol ?_ hfl
        rw [← hzt2]
        unfold overlay
        have e : insts zs = insts (zs.take i) ++ insts (zs.drop i) := by rw [← insts_append, List.take_append_drop]
        have hil : (insts (zs.take i)).length = i * 21 := by rw [insts_length, List.length_take]; omega
        rw [e, List.append_assoc, List.append_assoc, ← hil, List.take_left, List.take_left]
end Go.Proofs.Ytnojkclgjinjhaa
