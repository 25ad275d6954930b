/-
  The contracts of match: Fits, Far, Mate; and slices.MinFunc at instructions.
-/
import Derived.Test.YtnojkclgjinjhaaMatchC
import Derived.Test.YtnojkclgjinjhaaSlI
import Derived.Test.YtnojkclgjinjhaaCmp
namespace Go.Proofs.Ytnojkclgjinjhaa
open Go Go.RowKit
attribute [local irreducible] run goO leaveK someK nextK nextT nextOT nextOD loopBody loopRest loopK fillJ tmplOf tmplJ mergeT At AtO drawOk ordOf gateOf callC callO topOp topO idxOf appOf storeOf clearOf sliceOf calleeOf calleeO topQ idxQ newRowOf resL stepOp seek

def fitsB (x y : In) (c : Int) : Bool := (((differ x y c).length : Nat) : Int) == 0
set_option maxRecDepth 100000 in
theorem fits_any (x y : In) (hx : x.ok) (hy : y.ok) (c : Int) (hc : Is64 c) (w : World) : Calls Try.prog 14 #[x.val, y.val, .int .i64 c] w fun e w' => e = .returned (.bool (fitsB x y c)) ∧ Below w.heap.size w w' := by
  refine sim_enter Try.func14 ρ0 [.v x.val, .v y.val, LI c] [] (by kernel_rfl) rfl ?_
  refine sim_run 1000 [] (Rel.start [] w ρ0) (by kernel_rfl) trivial (fun ρ1 w1 hm1 hR1 => ?_)
  refine sim_call 8 [.agg (x.cells.map .v), .agg (y.cells.map .v), LI c] (by kernel_rfl) ?_
  refine (differ_any x y hx hy c hc w1).mono ?_
  rintro e w2 ⟨A, cap, rfl, _, hb2⟩
  refine Back.of (.v (.slice A (differ x y c).length cap)) (hR1.below hb2) rfl ?_
  refine sim_run 1000 [] (hR1.below hb2) (by kernel_rfl) trivial (fun ρ3 w3 hm3 hR3 => ?_)
  refine sim_ret (LB (fitsB x y c)) hR3 (by kernel_rfl) (by kernel_rfl) ⟨rfl, hR3.toBelow⟩

def farM (a b : Int) : Int := if 9223372036854775807 < farI a b then 9223372036854775807 else farI a b
theorem farM_64 (a b : Int) : IntKind.i64.wrap (farM a b) = farM a b := by
  have : 0 ≤ farI a b := Int.natCast_nonneg _
  exact IntWalk.i64_in _ (by unfold farM; split <;> omega)
set_option maxRecDepth 100000 in
theorem far2_any (x y : In) (hx : x.ok) (hy : y.ok) (w : World) : Calls Try.prog 30 #[x.val, y.val] w fun e w' => e = .returned (.int .i64 (farM x.term.amount y.term.amount)) ∧ Below w.heap.size w w' := by
  refine sim_enter Try.func30 ρ0 [.v x.val, .v y.val] [] (by kernel_rfl) rfl ?_
  refine sim_run 1000 [] (Rel.start [] w ρ0) (by kernel_rfl) trivial (fun ρ1 w1 hm1 hR1 => ?_)
  refine sim_call 19 [LI x.term.amount, LI y.term.amount] (by kernel_rfl) ?_
  refine (far_any x.term.amount y.term.amount hx.term.amount hy.term.amount w1).mono ?_
  rintro e w2 ⟨rfl, rfl⟩
  refine Back.of (.v (.int .u64 (farI x.term.amount y.term.amount))) hR1 rfl ?_
  refine sim_run 1000 [⟨1, 8, LI (IntKind.i64.wrap (farM x.term.amount y.term.amount)), LI (farM x.term.amount y.term.amount)⟩] hR1 (by kernel_rfl) ⟨eqi (farM_64 _ _), trivial⟩ (fun ρ3 w3 hm3 hR3 => ?_)
  refine sim_ret (LI (farM x.term.amount y.term.amount)) hR3 (by kernel_rfl) (by kernel_rfl) ⟨rfl, hR3.toBelow⟩

/-! ### The two closures of Mate -/
/-- the cells of an instruction from a place on -/
def InAt (w : World) (g o : Nat) (x : In) : Prop := ∀ (j : Nat) (v : Value), x.cells[j]? = some v → w.cell? ⟨g, o + j, none⟩ = some v
theorem InAt.lt {w : World} {g o : Nat} {x : In} (h : InAt w g o x) : g < w.heap.size := World.block_lt_of_cell? _ _ (h 0 _ rfl)
theorem InAt.below {w w' : World} {g o B : Nat} {x : In} (h : InAt w g o x) (hb : Below B w w') (hg : g < B) : InAt w' g o x := fun j v hv => by rw [← h j v hv]; exact hb.cell hg
theorem InAt.lv {w : World} {g o : Nat} {x : In} (h : InAt w g o x) (ρ : Nm) (j : Nat) (v : LV) (hv : (x.cells.map LV.v)[j]? = some v) : w.cell? ⟨g, o + j, none⟩ = some (v.den ρ) := by
  rw [List.getElem?_map] at hv
  cases hq : x.cells[j]? with
  | none => rw [hq] at hv; cases hv
  | some u =>
    rw [hq] at hv
    simp only [Option.map_some, Option.some.injEq] at hv
    subst hv
    exact h j u hq
theorem Rel.inAt {T : List Nat} {w0 w : World} {ρ : Nm} {rs : List Reg} (hR : Rel T w0 ρ rs w) {n : Nat} {x : In} {b : Bool} (hn : rs[n]? = some ⟨x.cells.map .v, b⟩) : InAt w (ρ n).1 (ρ n).2 x := fun j v hv => hR.cell n _ hn j (.v v) (by simp only [List.getElem?_map, hv, Option.map_some])
def mateB (x : In) (c : Int) (y : In) : Bool := (y.id == x.id) || !fitsB x y c
set_option maxRecDepth 100000 in
theorem mate1_any (x y : In) (hx : x.ok) (hy : y.ok) (c : Int) (hc : Is64 c) (g o g' o' : Nat) (w : World) (h : InAt w g o x) (h' : w.cell? ⟨g', o' + 0, none⟩ = some (.int .i64 c)) :
    Calls Try.prog 65 #[y.val, .pointer (some ⟨g, o + 0, none⟩), .pointer (some ⟨g', o' + 0, none⟩)] w fun e w' => e = .returned (.bool (mateB x c y)) ∧ Below w.heap.size w w' := by
  obtain ⟨ρa, _, hn0, hRa⟩ := (Rel.start [] w ρ0).open_ rfl g o (x.cells.map .v) (denV_und _ _) false h.lt (fun j v hv => h.lv ρ0 j v hv) (fun h => by cases h) (fun n r hn => by simp at hn)
  obtain ⟨ρ, hag, hn1, hR⟩ := hRa.open_ (by kernel_rfl) g' o' [LI c] rfl false (World.block_lt_of_cell? _ _ h') (fun j v hv => by
    match j, hv with
    | 0, hv => injection hv with hv; rw [← hv]; exact h') (fun h => by cases h) (fun n r hn hw => by
    rcases hw with hw | hw
    · cases hw
    · exact absurd hw (by
        match n, hn with
        | 0, hn => injection hn with hn; rw [← hn]; simp))
  have e0 : ρ 0 = (g, o) := (hag 0 (by show 0 < 1; decide)).trans hn0
  have e1 : ρ 1 = (g', o') := hn1
  refine sim_enter Try.func65 ρ [.v y.val, .ptr 0 0, .ptr 1 0] [⟨x.cells.map .v, false⟩, ⟨[LI c], false⟩] (by kernel_rfl) (by simp only [denL, LV.den, Nm.at_, e0, e1]) ?_
  by_cases hid : y.id = x.id
  · refine sim_run 1000 [⟨1, 4, LB (y.id == x.id), LB true⟩] (hR.cast rfl) (by kernel_rfl) ⟨eqb (by simp [hid]), trivial⟩ (fun ρ1 w1 hm1 hR1 => ?_)
    refine sim_ret (LB true) hR1 (by kernel_rfl) (by kernel_rfl) ⟨?_, hR1.toBelow⟩
    rw [show mateB x c y = true from by simp [mateB, hid]]
    rfl
  · refine sim_run 1000 [⟨1, 4, LB (y.id == x.id), LB false⟩] (hR.cast rfl) (by kernel_rfl) ⟨eqb (by simp [hid]), trivial⟩ (fun ρ1 w1 hm1 hR1 => ?_)
    refine sim_call 14 [.agg (x.cells.map .v), .agg (y.cells.map .v), LI c] (by kernel_rfl) ?_
    refine (fits_any x y hx hy c hc w1).mono ?_
    rintro e w2 ⟨rfl, hb2⟩
    refine Back.of (LB (fitsB x y c)) (hR1.below hb2) rfl ?_
    refine sim_run 1000 [] (hR1.below hb2) (by kernel_rfl) trivial (fun ρ3 w3 hm3 hR3 => ?_)
    refine sim_ret (LB (!fitsB x y c)) hR3 (by kernel_rfl) (by kernel_rfl) ⟨?_, hR3.toBelow⟩
    rw [show mateB x c y = !fitsB x y c from by simp [mateB, hid]]
    rfl
def cmpM (x y z : In) : Int := orZ (cmpZ (farI x.term.amount y.term.amount) (farI x.term.amount z.term.amount)) (cmpZ y.id z.id)
set_option maxRecDepth 100000 in
theorem mate2_any (x y z : In) (hx : x.ok) (hy : y.ok) (hz : z.ok) (g o : Nat) (w : World) (h : InAt w g o x) :
    Calls Try.prog 67 #[y.val, z.val, .pointer (some ⟨g, o + 0, none⟩)] w fun e w' => e = .returned (.int .i64 (cmpM x y z)) ∧ Below w.heap.size w w' := by
  obtain ⟨ρ, _, hn0, hR⟩ := (Rel.start [] w ρ0).open_ rfl g o (x.cells.map .v) (denV_und _ _) false h.lt (fun j v hv => h.lv ρ0 j v hv) (fun h => by cases h) (fun n r hn => by simp at hn)
  have e0 : ρ 0 = (g, o) := hn0
  refine sim_enter Try.func67 ρ [.v y.val, .v z.val, .ptr 0 0] [⟨x.cells.map .v, false⟩] (by kernel_rfl) (by simp only [denL, LV.den, Nm.at_, e0]) ?_
  refine sim_run 1000 [] (hR.cast rfl) (by kernel_rfl) trivial (fun ρ1 w1 hm1 hR1 => ?_)
  refine sim_draw [] (by kernel_rfl) (by kernel_rfl) hR1 (fun hO => ?_)
  refine sim_ord [] hO (by kernel_rfl) trivial (fun ρ2 w2 hm2 hR2 => ?_)
  refine sim_ord_call (T := []) (w0 := w) 19 [LI x.term.amount, LI y.term.amount] (by kernel_rfl) ?_
  refine (far_any x.term.amount y.term.amount hx.term.amount hy.term.amount w2).mono ?_
  rintro e w3 ⟨rfl, rfl⟩
  have hR3 := hR2.call (Below.refl _ _) (.v (.int .u64 (farI x.term.amount y.term.amount)))
  refine BackO.of _ hR3 rfl ?_
  refine sim_ord [] hR3 (by kernel_rfl) trivial (fun ρ4 w4 hm4 hR4 => ?_)
  refine sim_ord_call (T := []) (w0 := w) 19 [LI x.term.amount, LI z.term.amount] (by kernel_rfl) ?_
  refine (far_any x.term.amount z.term.amount hx.term.amount hz.term.amount w4).mono ?_
  rintro e w5 ⟨rfl, rfl⟩
  have hR5 := hR4.call (Below.refl _ _) (.v (.int .u64 (farI x.term.amount z.term.amount)))
  refine BackO.of _ hR5 rfl ?_
  refine sim_ord [] hR5 (by kernel_rfl) trivial (fun ρ6 w6 hm6 hR6 => ?_)
  refine sim_ord_call (T := []) (w0 := w) 69 [.v (.int .u64 (farI x.term.amount y.term.amount)), .v (.int .u64 (farI x.term.amount z.term.amount))] (by kernel_rfl) ?_
  refine (compareU_any _ _ w6).mono ?_
  rintro e w7 ⟨rfl, hb7⟩
  have hR7 := hR6.call hb7 (LI (cmpZ (farI x.term.amount y.term.amount) (farI x.term.amount z.term.amount)))
  refine BackO.of _ hR7 rfl ?_
  refine sim_ord [] hR7 (by kernel_rfl) trivial (fun ρ8 w8 hm8 hR8 => ?_)
  refine sim_ord_call (T := []) (w0 := w) 34 [LI y.id, LI z.id] (by kernel_rfl) ?_
  refine (compare_any _ _ w8).mono ?_
  rintro e w9 ⟨rfl, hb9⟩
  have hR9 := hR8.call hb9 (LI (cmpZ y.id z.id))
  refine BackO.of _ hR9 rfl ?_
  refine sim_ord [] hR9 (by kernel_rfl) trivial (fun ρ10 w10 hm10 hR10 => ?_)
  refine sim_ord_call (T := []) (w0 := w) 68 [.slc 3 0 2 2] (by kernel_rfl) ?_
  have hc := hR10.rel.cell 3 ⟨[LI (cmpZ (farI x.term.amount y.term.amount) (farI x.term.amount z.term.amount)), LI (cmpZ y.id z.id)], true⟩ (by kernel_rfl)
  refine (or_any (cmpZ (farI x.term.amount y.term.amount) (farI x.term.amount z.term.amount)) (cmpZ y.id z.id) (ρ10 3).1 (ρ10 3).2 w10 (hc 0 _ rfl) (hc 1 _ rfl)).mono ?_
  rintro e w11 ⟨rfl, hb11⟩
  have hR11 := hR10.call hb11 (LI (cmpM x y z))
  refine BackO.of _ hR11 rfl ?_
  refine sim_ord [] hR11 (by kernel_rfl) trivial (fun ρ12 w12 hm12 hR12 => ?_)
  refine sim_ord_end (by kernel_rfl) ?_
  refine sim_run 1000 [] hR12.rel (by kernel_rfl) trivial (fun ρ13 w13 hm13 hR13 => ?_)
  refine sim_ret (LI (cmpM x y z)) hR13 (by kernel_rfl) (by kernel_rfl) ⟨rfl, hR13.toBelow⟩

/-! ### MinFunc -/
def CmpOk (B : Nat) (w : World) (f : FuncId) (caps : Array Value) (cmp : In → In → Int) : Prop :=
  ∀ (a b : In) (w1 : World), a.ok → b.ok → Below B w w1 → Calls Try.prog f (#[a.val, b.val] ++ caps) w1 fun e w2 => e = .returned (.int .i64 (cmp a b)) ∧ Below w1.heap.size w1 w2
def minF (cmp : In → In → Int) (xs : List In) (m : In) : In := xs.foldl (fun m x => if cmp x m < 0 then x else m) m
theorem minF_snoc (cmp : In → In → Int) (xs : List In) (x m : In) : minF cmp (xs ++ [x]) m = if cmp x (minF cmp xs m) < 0 then x else minF cmp xs m := by
  unfold minF
  rw [List.foldl_append]
  rfl
theorem minF_mem (cmp : In → In → Int) : ∀ (xs : List In) (m : In), minF cmp xs m = m ∨ minF cmp xs m ∈ xs
  | [], _ => .inl rfl
  | x :: xs, m => by
    show minF cmp xs (if cmp x m < 0 then x else m) = m ∨ _
    rcases minF_mem cmp xs (if cmp x m < 0 then x else m) with h | h
    · rw [h]
      split
      · exact .inr (by show minF cmp xs (if cmp x m < 0 then x else m) ∈ x :: xs; rw [h]; simp [*])
      · exact .inl rfl
    · exact .inr (List.mem_cons_of_mem _ h)
def zeroI : List LV := [LI 0, LS ⟨#[]⟩, LS ⟨#[]⟩, LS ⟨#[]⟩, LS ⟨#[]⟩, LB false, LS ⟨#[]⟩, LS ⟨#[]⟩, LS ⟨#[]⟩, LI 0, LI 0, LI 0, LI 0, LI 0, LB false, LB false, LB false, LI 0, LI 0, LI 0, LI 0]
set_option maxRecDepth 100000 in
set_option maxHeartbeats 1000000 in
theorem min_any (f : FuncId) (hf : Enters Try.prog f) (caps : Array Value) (cmp : In → In → Int) (A : Option Addr) (n cp B : Nat) (x0 : In) (xs : List In) (w : World) (h : Reads w B 21 A n (insts (x0 :: xs))) (hB : B ≤ w.heap.size) (hok : ∀ x ∈ x0 :: xs, x.ok) (hn : n ≤ 100000) (hp : CmpOk w.heap.size w f caps cmp) :
    Calls Try.prog 66 #[.slice A n cp, .func (.func f) #[] caps] w fun e w' => e = .returned (minF cmp xs x0).val ∧ Below w.heap.size w w' := by
  have hl := h.insts_len
  rw [List.length_cons] at hl
  refine sim_enter Try.func66 ρ0 [.v (.slice A n cp), .v (.func (.func f) #[] caps)] [] (by kernel_rfl) rfl ?_
  refine sim_run 1000 [⟨1, 2, LB (decide ((n : Int) < 1)), LB false⟩] (Rel.start [] w ρ0) (by kernel_rfl) ⟨eqb (by simp; omega), trivial⟩ (fun ρ1 w1 hm1 hR1 => ?_)
  have hb1 : Below w.heap.size w w1 := hR1.toBelow
  obtain ⟨g, o, x, rfl, hg, hx, hc⟩ := (h.belowN hb1 hB).inst (k := 0) (by omega)
  simp only [List.getElem?_cons_zero, Option.some.injEq] at hx
  subst hx
  have hnot : ∀ {ρ : Nm} {rs : List Reg} {w2 : World}, Rel [] w ρ rs w2 → ∀ (n : Nat) (r : Reg), rs[n]? = some r → r.wr = true → (ρ n).1 = g → False := fun hR n r hn hw e => by
    rcases (hR.wr n r hn hw).1 with h | h
    · simp at h
    · omega
  refine sim_index (.v (.slice (some ⟨g, o, none⟩) n cp)) n 21 0 1 (by kernel_rfl) (by kernel_rfl) (by omega) (by omega) rfl hR1 (x0.cells.map .v) (by kernel_rfl) (by have := hb1.size; omega) (fun j v hv => InAt.lv (fun j v hv => by have := hc j v hv; exact this) ρ1 j v hv) (hnot hR1) (fun ρ2 ha2 hn2 hR2 => ?_)
  refine sim_run 1000 [] hR2 (by kernel_rfl) trivial (fun ρ3 w3 hm3 hR3 => ?_)
  refine sim_loop (ι := Nat × In) (T := []) (w0 := w) (1, x0) [0, 1, 4, 5] (fun x => [(6, LI x.1)]) (fun x => [⟨zeroI, true⟩, ⟨[], false⟩, ⟨x.2.cells.map .v, true⟩])
    (fun x _ => 1 ≤ x.1 ∧ x.1 ≤ n ∧ x.2 = minF cmp (xs.take (x.1 - 1)) x0) (fun x => n - x.1) (by kernel_rfl) (by kernel_rfl) ((hR3.forget (fun i => Nat.beq i 1)).cast (by kernel_rfl)) ⟨Nat.le_refl _, by omega, rfl⟩ ?_
  rintro ⟨k, y⟩ d w4 hR4 ⟨hk1, hkn, hy⟩
  simp only at hk1 hkn hy
  have hyok : y.ok := by
    rcases minF_mem cmp (xs.take (k - 1)) x0 with e | e
    · rw [hy, e]; exact hok x0 (by simp)
    · rw [hy]; exact hok _ (List.mem_cons_of_mem _ (List.mem_of_mem_take e))
  by_cases hlt : k < n
  · refine sim_run 1000 [⟨5, 3, LB (decide ((k : Int) < (n : Int))), LB true⟩] hR4 (by kernel_rfl) ⟨eqb (by simp; omega), trivial⟩ (fun ρ5 w5 hm5 hR5 => ?_)
    have hb5 : Below w.heap.size w w5 := hR5.toBelow
    obtain ⟨g', o', x, e, _, hx, hcx⟩ := (h.belowN hb5 hB).inst (k := k) hlt
    simp only [Option.some.injEq, Addr.mk.injEq] at e
    obtain ⟨rfl, rfl, _⟩ := e
    have hxs : xs[k - 1]? = some x := by
      obtain ⟨m, rfl⟩ : ∃ m, k = m + 1 := ⟨k - 1, by omega⟩
      exact hx
    have hxok : x.ok := hok x (List.mem_of_getElem? hx)
    have hsn : minF cmp (xs.take (k + 1 - 1)) x0 = if cmp x y < 0 then x else y := by
      rw [show k + 1 - 1 = k - 1 + 1 by omega, List.take_add_one, hxs, hy]
      exact minF_snoc _ _ _ _
    refine sim_open 3 (by kernel_rfl) hR5 g (o + k * 21) (x.cells.map .v) (by kernel_rfl) (by have := hb5.size; omega) (fun j v hv => InAt.lv hcx ρ5 j v hv) (hnot hR5) (fun ρ6 ha6 hn6 hR6 => ?_)
    have hat : ρ6.at_ 3 0 = ⟨g, o + (k : Int).toNat * 21, none⟩ := by unfold Nm.at_; rw [hn6, Int.toNat_natCast, Nat.add_zero]
    refine sim_draw [] (by kernel_rfl) (by kernel_rfl) hR6 (fun hO => ?_)
    refine sim_ord [] hO (by kernel_rfl) trivial (fun ρ7 w7 hm7 hR7 => ?_)
    have hat7 : ρ7.at_ 3 0 = ⟨g, o + (k : Int).toNat * 21, none⟩ := by rw [← hat]; unfold Nm.at_; rw [hm7.at_ 3 (by kernel_rfl)]
    refine sim_ord_index (.v (.slice (some ⟨g, o, none⟩) n cp)) n 21 k 3 0 (by kernel_rfl) (by omega) (by omega) rfl hR7 hat7 (fun hR8 => ?_)
    refine sim_ord [] hR8 (by kernel_rfl) trivial (fun ρ9 w9 hm9 hR9 => ?_)
    have hb9 : Below w.heap.size w w9 := hR9.rel.toBelow
    refine sim_ord_callF (T := []) (w0 := w) f caps (.v (.func (.func f) #[] caps)) [.agg (x.cells.map .v), .agg (y.cells.map .v)] (by kernel_rfl) rfl hf ?_
    refine (hp x y w9 hxok hyok hb9).mono ?_
    rintro e w10 ⟨rfl, hb10⟩
    have hR10 := hR9.call hb10 (LI (cmp x y))
    refine BackO.of _ hR10 rfl ?_
    have hat9 : ρ9.at_ 3 0 = ⟨g, o + (k : Int).toNat * 21, none⟩ := by rw [← hat7]; unfold Nm.at_; rw [hm9.at_ 3 (by kernel_rfl)]
    cases hcm : decide (cmp x y < 0) with
    | true =>
      refine sim_ord [⟨7, 7, LB (decide (cmp x y < 0)), LB true⟩] hR10 (by kernel_rfl) ⟨eqb hcm, trivial⟩ (fun ρ11 w11 hm11 hR11 => ?_)
      refine sim_ord_end (by kernel_rfl) ?_
      refine sim_run 1000 [] hR11.rel (by kernel_rfl) trivial (fun ρ12 w12 hm12 hR12 => ?_)
      have hat12 : ρ12.at_ 3 0 = ⟨g, o + (k : Int).toNat * 21, none⟩ := by rw [← hat9]; unfold Nm.at_; rw [hm12.at_ 3 (by kernel_rfl), hm11.at_ 3 (by kernel_rfl)]
      refine sim_place (.v (.slice (some ⟨g, o, none⟩) n cp)) n 21 k 3 0 (by kernel_rfl) (by omega) (by omega) rfl hat12 ?_
      refine sim_run 1000 [⟨6, 1, LI (IntKind.i64.wrap ((k : Int) + 1)), LI ((k + 1 : Nat) : Int)⟩] hR12 (by kernel_rfl) ⟨eqi (by rw [IntWalk.i64_in _ (by omega)]; omega), trivial⟩ (fun ρ13 w13 hm13 hR13 => ?_)
      have hag : Agree 3 ρ3 ρ13 := (((((((hm5.agN 3 (by kernel_rfl)).tr ha6).tr (hm7.agN 3 (by kernel_rfl))).tr (hm9.agN 3 (by kernel_rfl))).tr (hm11.agN 3 (by kernel_rfl))).tr (hm12.agN 3 (by kernel_rfl))).tr (hm13.agN 3 (by kernel_rfl)))
      refine sim_again (k + 1, x) (by kernel_rfl) (show n - (k + 1) < n - k by omega) (by kernel_rfl) (by kernel_rfl) (by kernel_rfl) hag hR13 (by kernel_rfl) (by kernel_rfl) ⟨by omega, hlt, ?_⟩
      rw [hsn, if_pos (of_decide_eq_true hcm)]
    | false =>
      refine sim_ord [⟨7, 7, LB (decide (cmp x y < 0)), LB false⟩] hR10 (by kernel_rfl) ⟨eqb hcm, trivial⟩ (fun ρ11 w11 hm11 hR11 => ?_)
      refine sim_ord_end (by kernel_rfl) ?_
      refine sim_run 1000 [⟨6, 1, LI (IntKind.i64.wrap ((k : Int) + 1)), LI ((k + 1 : Nat) : Int)⟩] hR11.rel (by kernel_rfl) ⟨eqi (by rw [IntWalk.i64_in _ (by omega)]; omega), trivial⟩ (fun ρ12 w12 hm12 hR12 => ?_)
      have hag : Agree 3 ρ3 ρ12 := ((((((hm5.agN 3 (by kernel_rfl)).tr ha6).tr (hm7.agN 3 (by kernel_rfl))).tr (hm9.agN 3 (by kernel_rfl))).tr (hm11.agN 3 (by kernel_rfl))).tr (hm12.agN 3 (by kernel_rfl)))
      refine sim_again (k + 1, y) (by kernel_rfl) (show n - (k + 1) < n - k by omega) (by kernel_rfl) (by kernel_rfl) (by kernel_rfl) hag hR12 (by kernel_rfl) (by kernel_rfl) ⟨by omega, hlt, ?_⟩
      rw [hsn, if_neg (of_decide_eq_false hcm)]
  · refine sim_run 1000 [⟨5, 3, LB (decide ((k : Int) < (n : Int))), LB false⟩] hR4 (by kernel_rfl) ⟨eqb (by simp; omega), trivial⟩ (fun ρ5 w5 hm5 hR5 => ?_)
    refine sim_leave (by kernel_rfl) ?_
    refine sim_run 1000 [] hR5 (by kernel_rfl) trivial (fun ρ6 w6 hm6 hR6 => ?_)
    refine sim_ret (.agg (y.cells.map .v)) hR6 (by kernel_rfl) (by kernel_rfl) ⟨?_, hR6.toBelow⟩
    rw [List.take_of_length_le (by omega)] at hy
    rw [← hy]
    rfl

/-! ### Mate -/
theorem PredOk.mono {B B' : Nat} {w : World} {f : FuncId} {caps : Array Value} {p : In → Bool} (h : PredOk B w f caps p) (hB : B ≤ B') : PredOk B' w f caps p := fun x w1 hx hb => h x w1 hx (below_mono hb hB)
set_option maxRecDepth 100000 in
theorem delete_any (f : FuncId) (hf : Enters Try.prog f) (caps : Array Value) (p : In → Bool) (A : Option Addr) (n cp base : Nat) (xs : List In) (w : World) (h : w.ownsRow base 27 21 (.slice A n cp) n (insts xs)) (hok : ∀ x ∈ xs, x.ok) (hn : n ≤ 100000) (hp : PredOk base w f caps p) (hbase : base ≤ w.heap.size) :
    Calls Try.prog 37 #[.slice A n cp, .func (.func f) #[] caps] w (DelN base w A cp (xs.filter fun x => !p x)) := by
  have hl : xs.length = n := by have := h.1; rw [insts_length] at this; omega
  rcases h.2 with ⟨e, hn0⟩ | ⟨g, cap, cur, e, hg, hh, h1, h2, h3, h4⟩
  · injection e with e1 e2 e3
    subst e1 e2 e3
    obtain rfl := List.eq_nil_of_length_eq_zero hl
    refine sim_enter Try.func37 ρ0 [.v (.slice none 0 0), .v (.func (.func f) #[] caps)] [] (by kernel_rfl) rfl ?_
    refine sim_run 1000 [] (Rel.start [] w ρ0) (by kernel_rfl) trivial (fun ρ1 w1 hm1 hR1 => ?_)
    refine sim_call 40 [.v (.slice none 0 0), .v (.func (.func f) #[] caps)] (by kernel_rfl) ?_
    refine (index_any f hf caps p none 0 0 w1.heap.size [] w1 Reads.none_ (Nat.le_refl _) (by simp) (by omega) (fun x w2 hx hb2 => hp x w2 hx ((below_mono hR1.toBelow hbase).trans (below_mono hb2 (Nat.le_trans hbase hR1.toBelow.size))))).mono ?_
    rintro e w2 ⟨rfl, hb2⟩
    refine Back.of (LI (-1)) (hR1.below hb2) rfl ?_
    refine sim_run 1000 [] (hR1.below hb2) (by kernel_rfl) trivial (fun ρ3 w3 hm3 hR3 => ?_)
    exact sim_ret (.v (.slice none 0 0)) hR3 (by kernel_rfl) (by kernel_rfl) ⟨rfl, World.ownsRow_nil _ _ _ _, hR3.keeps.kept.mono (fun x hx => by simp at hx)⟩
  · injection e with e1 e2 e3
    subst e1 e3
    have hcl : cur.toList = insts xs ++ cur.toList.drop (n * 21) := by rw [← h4, List.take_append_drop]
    have hb : Blk w g 27 (insts xs ++ cur.toList.drop (n * 21)).toArray := by rw [← hcl]; exact hh
    exact delete_some f hf caps p g n cp base xs _ w hb hl hg h1 h2 (by rw [← hcl, Array.length_toList, h3]) hok hn (hp.mono hg)
theorem old_lt {T : List Nat} {w0 w w' : World} {ρ ρ' : Nm} {rs rs' : List Reg} (hR : Rel T w0 ρ rs w) (hm : Moved ρ rs w ρ' rs' w') (hl : rs'.length = rs.length) (n : Nat) (r : Reg) (hn : rs'[n]? = some r) : (ρ' n).1 < w.heap.size := by
  have h1 := (List.getElem?_eq_some_iff.1 hn).1
  rw [hm.agree n (by omega)]
  exact hR.lt n _ (List.getElem?_eq_getElem (by omega))
def mateR (x : In) (c : Int) (l : List In) : Int × Bool := match l.filter (fun y => !mateB x c y) with
  | [] => (0, false)
  | y :: ys => ((minF (cmpM x) ys y).id, true)
theorem enters1 : Enters Try.prog 65 := ⟨_, Try.func65, by kernel_rfl, by kernel_rfl⟩
theorem enters2 : Enters Try.prog 67 := ⟨_, Try.func67, by kernel_rfl, by kernel_rfl⟩
set_option maxRecDepth 100000 in
set_option maxHeartbeats 1000000 in
theorem mate_any (x : In) (hx : x.ok) (c : Int) (hc : Is64 c) (A : Option Addr) (n cp B : Nat) (l : List In) (w : World) (h : Reads w B 21 A n (insts l)) (hB : B ≤ w.heap.size) (hok : ∀ y ∈ l, y.ok) (hn : n ≤ 100000) (hA : A = none → n = 0 ∧ cp = 0) :
    Calls Try.prog 29 #[x.val, .int .i64 c, .slice A n cp] w fun e w' => e = .returned (.tuple #[.int .i64 (mateR x c l).1, .bool (mateR x c l).2]) ∧ Below w.heap.size w w' := by
  have hl := h.insts_len
  refine sim_enter Try.func29 ρ0 [.v x.val, LI c, .v (.slice A n cp)] [] (by kernel_rfl) rfl ?_
  refine sim_run 1000 [] (Rel.start [] w ρ0) (by kernel_rfl) trivial (fun ρ1 w1 hm1 hR1 => ?_)
  have hb1 : Below w.heap.size w w1 := hR1.toBelow
  refine sim_call 31 [.v (.slice A n cp)] (by kernel_rfl) ?_
  refine (clone_any A n cp B l w1 (h.belowN hb1 hB) (by have := hb1.size; omega) hn hA).mono ?_
  rintro e w2 ⟨A', cap, rfl, hown, hb2⟩
  have hR2 := hR1.below hb2
  refine Back.of (.v (.slice A' l.length cap)) hR2 rfl ?_
  refine sim_run 1000 [] hR2 (by kernel_rfl) trivial (fun ρ3 w3 hm3 hR3 => ?_)
  have hold := fun k r hk => old_lt hR1 ((⟨Agree.refl _ _, Kept.of_below _ hb2, fun _ h => .inl h, Nat.le_refl _, Still.of_blocks (fun k hk => hb2.block k hk), fun _ _ _ h => h, fun _ _ h => h, fun _ r hn hw => .inl ⟨r, hn, hw, rfl⟩⟩ : Moved ρ1 _ w1 ρ1 _ w2).trans hm3) (by kernel_rfl) k r hk
  have hown3 : w3.ownsRow w1.heap.size 27 21 (.slice A' l.length cap) l.length (insts l) := own_kept hown hm3.kept (fun g hg ⟨k, r, hk, _, e⟩ => by
    have := hR1.lt k r hk
    have := (hown.lt g hg).1
    omega)
  have hin := hR3.inAt (n := 0) (x := x) (b := true) (by kernel_rfl)
  have hcc := hR3.cell 1 ⟨[LI c], true⟩ (by kernel_rfl) 0 (LI c) rfl
  have hl0 : (ρ3 0).1 < w1.heap.size := hold 0 ⟨x.cells.map .v, true⟩ (by kernel_rfl)
  have hl1 : (ρ3 1).1 < w1.heap.size := hold 1 ⟨[LI c], true⟩ (by kernel_rfl)
  have hs3 : w1.heap.size ≤ w3.heap.size := Nat.le_trans hb2.size hm3.kept.size
  refine sim_call 37 [.v (.slice A' l.length cap), .fnv (.func 65) [] [.ptr 0 0, .ptr 1 0]] (by kernel_rfl) ?_
  refine (delete_any 65 enters1 #[.pointer (some ⟨(ρ3 0).1, (ρ3 0).2 + 0, none⟩), .pointer (some ⟨(ρ3 1).1, (ρ3 1).2 + 0, none⟩)] (mateB x c) A' l.length cap w1.heap.size l w3 hown3 hok (by omega) (fun y w4 hy hb4 => mate1_any x y hx hy c hc _ _ _ _ w4 (hin.below hb4 hl0) ((hb4.cell (p := ⟨(ρ3 1).1, (ρ3 1).2 + 0, none⟩) hl1).trans hcc)) hs3).mono ?_
  rintro e w4 ⟨rfl, hown4, hk4⟩
  generalize hys : (l.filter fun y => !mateB x c y) = ys at hown4
  have hR4 : Rel [] w ρ3 _ w4 := hR3.kept hk4 (fun k r hk _ ⟨a, ha, e⟩ => by
    have := hold k r hk
    have := (hown3.lt a.block (by rw [ha]; rfl)).1
    omega) (fun g ⟨a, ha, e⟩ => .inr (by
    have := (hown3.lt a.block (by rw [ha]; rfl)).1
    have := hb1.size
    omega))
  have hyok : ∀ y ∈ ys, y.ok := fun y hy => hok y (by rw [← hys] at hy; exact (List.mem_filter.1 hy).1)
  have hylen : ys.length ≤ n := by rw [← hys, ← hl]; exact List.length_filter_le _ _
  refine Back.of (.v (.slice A' ys.length cap)) hR4 rfl ?_
  unfold mateR
  rw [hys]
  cases ys with
  | nil =>
    refine sim_run 1000 [⟨2, 2, LB (((([] : List In).length : Nat) : Int) == 0), LB true⟩] hR4 (by kernel_rfl) ⟨eqb rfl, trivial⟩ (fun ρ5 w5 hm5 hR5 => ?_)
    exact sim_ret (.tup [LI 0, LB false]) hR5 (by kernel_rfl) (by kernel_rfl) ⟨rfl, hR5.toBelow⟩
  | cons y ys =>
    refine sim_run 1000 [⟨2, 2, LB ((((y :: ys).length : Nat) : Int) == 0), LB false⟩] hR4 (by kernel_rfl) ⟨eqb (by rw [beq_eq_false_iff_ne, List.length_cons]; omega), trivial⟩ (fun ρ5 w5 hm5 hR5 => ?_)
    have hown5 := own_kept hown4 hm5.kept (fun g hg h => by
      obtain ⟨k, r, hk, _, e⟩ := h
      have := hold k r hk
      have := (hown4.lt g hg).1
      omega)
    have hin5 := hR5.inAt (n := 0) (x := x) (b := true) (by kernel_rfl)
    refine sim_call 66 [.v (.slice A' (y :: ys).length cap), .fnv (.func 67) [] [.ptr 0 0]] (by kernel_rfl) ?_
    refine (min_any 67 enters2 #[.pointer (some ⟨(ρ5 0).1, (ρ5 0).2 + 0, none⟩)] (cmpM x) A' (y :: ys).length cap w5.heap.size y ys w5 (Reads.of_own hown5) (Nat.le_refl _) hyok (by omega) (fun a b w6 ha hb hb6 => mate2_any x a b hx ha hb _ _ w6 (hin5.below hb6 hin5.lt))).mono ?_
    rintro e w6 ⟨rfl, hb6⟩
    refine Back.of (.v (minF (cmpM x) ys y).val) (hR5.below hb6) rfl ?_
    refine sim_run 1000 [] (hR5.below hb6) (by kernel_rfl) trivial (fun ρ7 w7 hm7 hR7 => ?_)
    exact sim_ret (.tup [LI (minF (cmpM x) ys y).id, LB true]) hR7 (by kernel_rfl) (by kernel_rfl) ⟨rfl, hR7.toBelow⟩
end Go.Proofs.Ytnojkclgjinjhaa
