/-
  slices.IndexFunc, DeleteFunc at rows of rows of ints.
  seq.Classes.
  seq.Tops: is there one of the instructions ahead of a class?
  seq.Tops.
-/
import Derived.Test.YtnfgndapalkbcaaSeqGM
namespace Go.Proofs.Ytnfgndapalkbcaa
section
open Go Go.RowKit
/-- a slice, as a value -/
structure Sv where
  A : Option Addr
  n : Nat
  c : Nat
def Sv.val (x : Sv) : Value := .slice x.A x.n x.c
def sls (xs : List Sv) : List Value := xs.map Sv.val
theorem sls_length (xs : List Sv) : (sls xs).length = xs.length * 1 := by simp [sls]
theorem sls_append (a b : List Sv) : sls (a ++ b) = sls a ++ sls b := by simp [sls]
theorem sls_at (xs : List Sv) (k : Nat) (x : Sv) (h : xs[k]? = some x) : (sls xs)[k]? = some x.val := by unfold sls; rw [List.getElem?_map, h]; rfl
theorem denL_sv (x : Sv) (ρ : Nm) : denL ρ [.v x.val] = [x.val] := rfl
theorem sv_len (x : Sv) : [LV.v x.val].length = 1 := rfl
theorem one_get {x : LV} {j : Nat} {v : LV} (h : [x][j]? = some v) : j = 0 ∧ v = x := by
  match j, h with
  | 0, h => exact ⟨rfl, by injection h with h; exact h.symm⟩
  | j + 1, h => simp at h
theorem Reads.sls_len {w : World} {B n : Nat} {A : Option Addr} {xs : List Sv} (h : Reads w B 1 A n (sls xs)) : xs.length = n := by
  have := h.1; rw [sls_length] at this; omega
theorem Reads.sv {w : World} {B n k : Nat} {A : Option Addr} {xs : List Sv} (h : Reads w B 1 A n (sls xs)) (hk : k < n) :
    ∃ g o x, A = some ⟨g, o, none⟩ ∧ g < B ∧ xs[k]? = some x ∧ w.cell? ⟨g, o + k * 1 + 0, none⟩ = some x.val := by
  have hl := h.sls_len
  obtain ⟨g, o, rfl, hg, hc⟩ := h.spot (by omega) (by omega)
  have hx : xs[k]? = some (xs[k]'(by omega)) := List.getElem?_eq_getElem (by omega)
  exact ⟨g, o, _, rfl, hg, hx, by rw [Nat.mul_one, Nat.add_zero]; exact hc k _ (sls_at xs k _ hx)⟩
theorem sls_overlay (xs : List Sv) (k : Nat) (x : Sv) (rest : List Value) (hk : k < xs.length) : overlay (sls xs ++ rest) (k * 1) [x.val] = sls (xs.set k x) ++ rest := by
  rw [Nat.mul_one]
  unfold overlay sls
  rw [List.map_set, List.take_append_of_le_length (by simp; omega), List.set_eq_take_append_cons_drop, if_pos (by simpa using hk), List.drop_append_of_le_length (by simp; omega)]
  simp
theorem own_of_blkS {w : World} {g t n cp base : Nat} {xs : List Sv} {cur : List Value} (h : Blk w g t cur.toArray) (hb : base ≤ g) (hn : n ≤ cp) (hm : cp ≤ maxLen) (hs : cur.length = cp * 1) (hx : cur.take (n * 1) = sls xs) (hl : xs.length = n) : w.ownsRow base t 1 (.slice (some ⟨g, 0, none⟩) n cp) n (sls xs) :=
  ⟨by rw [sls_length, hl], .inr ⟨g, cp, cur.toArray, rfl, hb, h, hn, hm, by simpa using hs, by simpa using hx⟩⟩
theorem sv_info : (Try.prog.info? 31).map (fun i => (i.zero, i.size, i.bytes)) = some (some (.slice none 0 0), 1, 24) := by kernel_rfl
attribute [local irreducible] run goO leaveK someK nextK nextT nextOT nextOD loopBody loopRest loopK fillJ tmplOf tmplJ mergeT At AtO drawOk ordOf gateOf callC callO topOp topO idxOf appOf storeOf clearOf sliceOf calleeOf calleeO topQ idxQ newRowOf resL stepOp seek
def PredS (ok : Sv → Prop) (B : Nat) (w : World) (f : FuncId) (caps : Array Value) (p : Sv → Bool) : Prop :=
  ∀ (x : Sv) (w1 : World), ok x → Below B w w1 → Calls Try.prog f (#[x.val] ++ caps) w1 fun e w2 => e = .returned (.bool (p x)) ∧ Below w1.heap.size w1 w2
def idxS (p : Sv → Bool) : List Sv → Nat → Int
  | [], _ => -1
  | x :: xs, i => if p x then (i : Int) else idxS p xs (i + 1)
theorem idxS_skip (p : Sv → Bool) : ∀ (xs : List Sv) (k i : Nat), (xs.take k).all (fun x => !p x) = true → idxS p xs i = idxS p (xs.drop k) (i + k) ∨ xs.length ≤ k
  | xs, 0, i, _ => .inl rfl
  | [], k + 1, i, _ => .inr (by simp)
  | x :: xs, k + 1, i, h => by
    simp only [List.take_succ_cons, List.all_cons, Bool.and_eq_true, Bool.not_eq_true'] at h
    rcases idxS_skip p xs k (i + 1) h.2 with e | e
    · left
      simp only [idxS, h.1, List.drop_succ_cons]
      rw [show i + (k + 1) = i + 1 + k by omega]
      exact e
    · exact .inr (by simp; omega)
theorem idxS_hit (p : Sv → Bool) (xs : List Sv) (k : Nat) (x : Sv) (hx : xs[k]? = some x) (h : (xs.take k).all (fun x => !p x) = true) (hp : p x = true) : idxS p xs 0 = k := by
  have hl : k < xs.length := (List.getElem?_eq_some_iff.1 hx).1
  rcases idxS_skip p xs k 0 h with e | e
  · rw [e, List.drop_eq_getElem_cons hl]
    have : xs[k] = x := (List.getElem?_eq_some_iff.1 hx).2
    simp [idxS, this, hp]
  · omega
theorem idxS_none (p : Sv → Bool) : ∀ (xs : List Sv) (i : Nat), xs.all (fun x => !p x) = true → idxS p xs i = -1
  | [], _, _ => rfl
  | x :: xs, i, h => by
    simp only [List.all_cons, Bool.and_eq_true, Bool.not_eq_true'] at h
    simp only [idxS, h.1]
    exact idxS_none p xs (i + 1) h.2
set_option maxRecDepth 100000 in
set_option maxHeartbeats 1000000 in
theorem idxS_any (ok : Sv → Prop) (f : FuncId) (hf : Enters Try.prog f) (caps : Array Value) (p : Sv → Bool) (A : Option Addr) (n cp B : Nat) (xs : List Sv) (w : World) (h : Reads w B 1 A n (sls xs)) (hB : B ≤ w.heap.size) (hok : ∀ x ∈ xs, ok x) (hn : n ≤ 100000) (hp : PredS ok w.heap.size w f caps p) :
    Calls Try.prog 59 #[.slice A n cp, .func (.func f) #[] caps] w fun e w' => e = .returned (.int .i64 (idxS p xs 0)) ∧ Below w.heap.size w w' := by
  have hl := h.sls_len
  refine sim_enter Try.func59 ρ0 [.v (.slice A n cp), .v (.func (.func f) #[] caps)] [] (by kernel_rfl) rfl ?_
  refine sim_run 1000 [] (Rel.start [] w ρ0) (by kernel_rfl) trivial (fun ρ1 w1 hm1 hR1 => ?_)
  refine sim_loop (ι := Nat) (T := []) (w0 := w) 0 [0, 1, 6, 7] (fun k => [(8, LI k)]) (fun _ => []) (fun k _ => k ≤ n ∧ (xs.take k).all (fun x => !p x) = true) (fun k => n - k) (by kernel_rfl) (by kernel_rfl) (hR1.cast (by kernel_rfl)) ⟨Nat.zero_le _, rfl⟩ ?_
  rintro k d w2 hR2 ⟨hk, hall⟩
  by_cases hlt : k < n
  · refine sim_run 1000 [⟨2, 0, LB (decide ((k : Int) < (n : Int))), LB true⟩] hR2 (by kernel_rfl) ⟨eqb (by simp; omega), trivial⟩ (fun ρ3 w3 hm3 hR3 => ?_)
    have hb3 : Below w.heap.size w w3 := hR3.toBelow
    obtain ⟨g, o, x, rfl, hg, hx, hc⟩ := (h.belowN hb3 hB).sv hlt
    refine sim_index (.v (.slice (some ⟨g, o, none⟩) n cp)) n 1 k 0 (by kernel_rfl) (by kernel_rfl) (by omega) (by omega) rfl hR3 [.v x.val] (by kernel_rfl) (by have := hb3.size; omega) (fun j v hv => ?_) (fun i r hi hw _ => wrS_allRo (ρ := ρ3) (g := (ρ3 i).1) (by kernel_rfl) ⟨i, r, hi, hw, rfl⟩) (fun ρ4 ha4 hn4 hR4 => ?_)
    · obtain ⟨rfl, rfl⟩ := one_get hv
      rw [Int.toNat_natCast]
      exact hc
    · refine sim_run 1000 [] hR4 (by kernel_rfl) trivial (fun ρ5 w5 hm5 hR5 => ?_)
      have hb5 : Below w.heap.size w w5 := hR5.toBelow
      refine sim_callF f caps (.v (.func (.func f) #[] caps)) [.v x.val] (by kernel_rfl) rfl hf ?_
      refine (hp x w5 (hok x (List.mem_of_getElem? hx)) hb5).mono ?_
      rintro e w6 ⟨rfl, hb6⟩
      have hR6 := hR5.below hb6
      refine Back.of (LB (p x)) hR6 rfl ?_
      cases hpx : p x with
      | true =>
        refine sim_run 1000 [] hR6 (by kernel_rfl) trivial (fun ρ7 w7 hm7 hR7 => ?_)
        refine sim_ret (LI k) hR7 (by kernel_rfl) (by kernel_rfl) ⟨?_, hR7.toBelow⟩
        rw [idxS_hit p xs k x hx hall hpx]
        rfl
      | false =>
        refine sim_run 1000 [⟨6, 0, LI (IntKind.i64.wrap ((k : Int) + 1)), LI ((k + 1 : Nat) : Int)⟩] hR6 (by kernel_rfl) ⟨eqi (by rw [IntWalk.i64_in _ (by omega)]; omega), trivial⟩ (fun ρ7 w7 hm7 hR7 => ?_)
        refine sim_again (k + 1) (by kernel_rfl) (show n - (k + 1) < n - k by omega) (by kernel_rfl) (by kernel_rfl) (by kernel_rfl) (fun i hi => absurd hi (by simp)) hR7 (by kernel_rfl) (by kernel_rfl) ⟨hlt, ?_⟩
        rw [List.take_add_one, hx, List.all_append, hall]
        simp [hpx]
  · refine sim_run 1000 [⟨2, 0, LB (decide ((k : Int) < (n : Int))), LB false⟩] hR2 (by kernel_rfl) ⟨eqb (by simp; omega), trivial⟩ (fun ρ3 w3 hm3 hR3 => ?_)
    refine sim_leave (by kernel_rfl) ?_
    refine sim_run 1000 [] hR3 (by kernel_rfl) trivial (fun ρ4 w4 hm4 hR4 => ?_)
    refine sim_ret (LI (-1)) hR4 (by kernel_rfl) (by kernel_rfl) ⟨?_, hR4.toBelow⟩
    rw [List.take_of_length_le (by omega)] at hall
    rw [idxS_none p xs 0 hall]
    rfl

/-! ### DeleteFunc -/
theorem idxS_cases (p : Sv → Bool) : ∀ (xs : List Sv) (i : Nat), (idxS p xs i = -1 ∧ xs.all (fun x => !p x) = true) ∨ ∃ (k : Nat) (x : Sv), idxS p xs i = ((i + k : Nat) : Int) ∧ xs[k]? = some x ∧ p x = true ∧ (xs.take k).all (fun x => !p x) = true
  | [], _ => .inl ⟨rfl, rfl⟩
  | x :: xs, i => by
    cases hp : p x with
    | true => exact .inr ⟨0, x, by simp [idxS, hp], rfl, hp, rfl⟩
    | false =>
      rcases idxS_cases p xs (i + 1) with ⟨h1, h2⟩ | ⟨k, y, h1, h2, h3, h4⟩
      · exact .inl ⟨by simp [idxS, hp, h1], by simp [hp, h2]⟩
      · refine .inr ⟨k + 1, y, ?_, h2, h3, by simp [hp, h4]⟩
        have e : idxS p (x :: xs) i = idxS p xs (i + 1) := by simp [idxS, hp]
        rw [e, h1]
        congr 1
        omega
theorem filter_allS {p : Sv → Bool} {xs : List Sv} (h : xs.all (fun x => !p x) = true) : xs.filter (fun x => !p x) = xs := List.filter_eq_self.2 (fun x hx => List.all_eq_true.1 h x hx)
theorem filter_takeS (q : Sv → Bool) (xs : List Sv) (k : Nat) (x : Sv) (hx : xs[k]? = some x) : (xs.take (k + 1)).filter q = (xs.take k).filter q ++ if q x then [x] else [] := by
  rw [List.take_add_one, hx, List.filter_append]
  cases h : q x <;> simp [h]
/-- what is left is a row in the same place -/
def DelS (base : Nat) (w : World) (A : Option Addr) (cp : Nat) (ys : List Sv) (e : Ending) (w' : World) : Prop :=
  e = .returned (.slice A ys.length cp) ∧ w'.ownsRow base 31 1 (.slice A ys.length cp) ys.length (sls ys) ∧ Kept (fun x => ∃ a, A = some a ∧ a.block = x) w w'

set_option maxRecDepth 100000 in
set_option maxHeartbeats 2000000 in
theorem delS_some (ok : Sv → Prop) (f : FuncId) (hf : Enters Try.prog f) (caps : Array Value) (p : Sv → Bool) (g n cp base : Nat) (xs : List Sv) (rest : List Value) (w : World) (hb : Blk w g 31 (sls xs ++ rest).toArray) (hl : xs.length = n) (hbase : base ≤ g) (hcp : n ≤ cp) (hm : cp ≤ maxLen) (hcur : (sls xs ++ rest).length = cp * 1)
    (hok : ∀ x ∈ xs, ok x) (hn : n ≤ 100000) (hp : PredS ok g w f caps p) :
    Calls Try.prog 50 #[.slice (some ⟨g, 0, none⟩) n cp, .func (.func f) #[] caps] w (DelS base w (some ⟨g, 0, none⟩) cp (xs.filter fun x => !p x)) := by
  obtain ⟨i0, hi0, hz0, hz1, hz2⟩ := info_parts sv_info
  have hgl := hb.lt
  have hrd0 : Reads w w.heap.size 1 (some ⟨g, 0, none⟩) n (sls xs) := by
    refine ⟨by rw [sls_length, hl], fun _ => ⟨_, rfl, hgl, fun j u hu => ?_⟩⟩
    have e : (⟨g, 0, none⟩ : Addr).add j = ⟨g, j, none⟩ := by unfold Addr.add; by_cases hj : j = 0 <;> simp [hj]
    rw [e, hb.cell]
    have hj := (List.getElem?_eq_some_iff.1 hu).1
    simp only [List.getElem?_toArray, List.getElem?_append_left hj]
    exact hu
  refine sim_enter Try.func50 ρ0 [.v (.slice (some ⟨g, 0, none⟩) n cp), .v (.func (.func f) #[] caps)] [] (by kernel_rfl) rfl ?_
  refine sim_run 1000 [] (Rel.start [g] w ρ0) (by kernel_rfl) trivial (fun ρ1 w1 hm1 hR1 => ?_)
  have hk1 : Kept (fun _ => False) w w1 := hm1.kept.mono (fun x hx => .inl (wrS_allRo (by kernel_rfl) hx))
  have hb1 : Below w.heap.size w w1 := hk1.below (Nat.le_refl _) (fun x hx => hx.elim)
  refine sim_call 59 [.v (.slice (some ⟨g, 0, none⟩) n cp), .v (.func (.func f) #[] caps)] (by kernel_rfl) ?_
  refine (idxS_any ok f hf caps p _ n cp w.heap.size xs w1 (hrd0.below hb1) hb1.size hok hn (fun x w2 hx hb2 => hp x w2 hx ((below_mono hb1 (by omega)).trans (below_mono hb2 (by have := hb1.size; omega))))).mono ?_
  rintro e w2 ⟨rfl, hb2⟩
  have hR2 := hR1.below hb2
  have hbk2 : Blk w2 g 31 (sls xs ++ rest).toArray := (hb.below hb1 hgl).below hb2 (by have := hb1.size; omega)
  refine Back.of (LI (idxS p xs 0)) hR2 rfl ?_
  rcases idxS_cases p xs 0 with ⟨hi, hall⟩ | ⟨k0, x0, hi, hx0, hp0, hall⟩
  · rw [hi]
    refine sim_run 1000 [] hR2 (by kernel_rfl) trivial (fun ρ3 w3 hm3 hR3 => ?_)
    refine sim_ret (.v (.slice (some ⟨g, 0, none⟩) n cp)) hR3 (by kernel_rfl) (by kernel_rfl) ?_
    rw [filter_allS hall]
    have hbk3 := hbk2.kept hm3.kept (fun h => wrS_allRo (by kernel_rfl) h)
    refine ⟨by rw [hl]; rfl, ?_, hR3.keeps.kept.mono (fun x hx => .inl ⟨_, rfl, (List.mem_singleton.1 hx).symm⟩)⟩
    rw [hl]
    exact own_of_blkS hbk3 hbase hcp hm hcur (by rw [← hl, ← sls_length, List.take_left]) hl
  · have hk0 : k0 < n := by have := (List.getElem?_eq_some_iff.1 hx0).1; omega
    rw [Nat.zero_add] at hi
    rw [hi]
    refine sim_run 1000 [⟨2, 1, LB ((k0 : Int) == -1), LB false⟩, ⟨4, 1, LI (IntKind.i64.wrap ((k0 : Int) + 1)), LI ((k0 + 1 : Nat) : Int)⟩] hR2 (by kernel_rfl) ⟨eqb (by rw [beq_eq_false_iff_ne]; omega), eqi (by rw [IntWalk.i64_in _ (by omega)]; omega), trivial⟩ (fun ρ3 w3 hm3 hR3 => ?_)
    have hbk3 := hbk2.kept hm3.kept (fun h => wrS_allRo (by kernel_rfl) h)
    refine sim_loop (ι := Nat × Nat × List Sv) (T := [g]) (w0 := w) (k0, k0 + 1, xs) [0, 1] (fun x => [(5, LI x.1), (6, LI x.2.1)]) (fun _ => [])
      (fun x w' => x.1 < x.2.1 ∧ x.2.1 ≤ n ∧ x.2.2.length = n ∧ x.2.2.take x.1 = (xs.take x.2.1).filter (fun x => !p x) ∧ x.2.2.drop x.2.1 = xs.drop x.2.1 ∧ Blk w' g 31 (sls x.2.2 ++ rest).toArray)
      (fun x => n - x.2.1) (by kernel_rfl) (by kernel_rfl) (hR3.cast (by kernel_rfl)) ⟨Nat.lt_succ_self _, hk0, hl, ?_, rfl, hbk3⟩ ?_
    · show xs.take k0 = (xs.take (k0 + 1)).filter _
      rw [filter_takeS _ xs k0 x0 hx0, filter_allS hall]
      simp [hp0]
    rintro ⟨i, j, zs⟩ d w4 hR4 ⟨hij, hjn, hzl, hzt, hzd, hbk4⟩
    simp only at hij hjn hzl hzt hzd hbk4
    by_cases hlt : j < n
    · have hx : xs[j]? = some (xs[j]'(by omega)) := List.getElem?_eq_getElem (by omega)
      generalize xs[j]'(by omega) = x at hx
      have hzx : zs[j]? = some x := by
        have := congrArg (fun l => l[0]?) hzd
        simp only [List.getElem?_drop, Nat.add_zero] at this
        rw [this, hx]
      refine sim_run 1000 [⟨5, 3, LB (decide ((j : Int) < (n : Int))), LB true⟩] hR4 (by kernel_rfl) ⟨eqb (by simp; omega), trivial⟩ (fun ρ5 w5 hm5 hR5 => ?_)
      have hbk5 := hbk4.kept hm5.kept (fun h => wrS_allRo (by kernel_rfl) h)
      refine sim_index (.v (.slice (some ⟨g, 0, none⟩) n cp)) n 1 j 0 (by kernel_rfl) (by kernel_rfl) (by omega) (by omega) rfl hR5 [.v x.val] (by kernel_rfl) hbk5.lt (fun q v hv => ?_) (fun i r hi hw _ => wrS_allRo (ρ := ρ5) (g := (ρ5 i).1) (by kernel_rfl) ⟨i, r, hi, hw, rfl⟩) (fun ρ6 ha6 hn6 hR6 => ?_)
      · obtain ⟨rfl, rfl⟩ := one_get hv
        have := sls_at zs j x hzx
        have hlen := (List.getElem?_eq_some_iff.1 this).1
        rw [Int.toNat_natCast, Nat.zero_add, hbk5.cell]
        simp only [List.getElem?_toArray, Nat.mul_one, Nat.add_zero, List.getElem?_append_left hlen]
        exact this
      · refine sim_run 1000 [] hR6 (by kernel_rfl) trivial (fun ρ7 w7 hm7 hR7 => ?_)
        have hbk7 := hbk5.kept hm7.kept (fun h => wrS_allRo (by kernel_rfl) h)
        refine sim_callF f caps (.v (.func (.func f) #[] caps)) [.v x.val] (by kernel_rfl) rfl hf ?_
        refine (hp x w7 (hok x (List.mem_of_getElem? hx)) (hR7.keeps.below (by simp) (by omega))).mono ?_
        rintro e w8 ⟨rfl, hb8⟩
        have hR8 := hR7.below hb8
        have hbk8 := hbk7.below hb8 hbk7.lt
        refine Back.of (LB (p x)) hR8 rfl ?_
        have hft := filter_takeS (fun x => !p x) xs j x hx
        cases hpx : p x with
        | true =>
          refine sim_run 1000 [⟨6, 1, LI (IntKind.i64.wrap ((j : Int) + 1)), LI ((j + 1 : Nat) : Int)⟩] hR8 (by kernel_rfl) ⟨eqi (by rw [IntWalk.i64_in _ (by omega)]; omega), trivial⟩ (fun ρ9 w9 hm9 hR9 => ?_)
          refine sim_again (i, j + 1, zs) (by kernel_rfl) (show n - (j + 1) < n - j by omega) (by kernel_rfl) (by kernel_rfl) (by kernel_rfl) (fun i hi => absurd hi (by simp)) hR9 (by kernel_rfl) (by kernel_rfl) ⟨Nat.lt_succ_of_lt hij, hlt, hzl, ?_, ?_, ?_⟩
          · rw [hft, ← hzt]
            simp [hpx]
          · show zs.drop (j + 1) = xs.drop (j + 1)
            rw [← List.drop_drop, ← List.drop_drop, hzd]
          · exact hbk8.kept hm9.kept (fun h => (hm7.wrs g h).elim (fun h => wrS_allRo (by kernel_rfl) h) (fun h => by have := hbk5.lt; omega))
        | false =>
          refine sim_run 1000 [] hR8 (by kernel_rfl) trivial (fun ρ9 w9 hm9 hR9 => ?_)
          have hbk9 := hbk8.kept hm9.kept (fun h => (hm7.wrs g h).elim (fun h => wrS_allRo (by kernel_rfl) h) (fun h => by have := hbk5.lt; omega))
          refine sim_addr (.v (.slice (some ⟨g, 0, none⟩) n cp)) n 1 i (by kernel_rfl) (by omega) (by omega) rfl ?_
          refine sim_run 1000 [] hR9 (by kernel_rfl) trivial (fun ρ10 w10 hm10 hR10 => ?_)
          have hbk10 := hbk9.kept hm10.kept (fun h => ((hm7.trans (⟨Agree.refl _ _, Kept.of_below _ hb8, fun _ h => .inl h, Nat.le_refl _, Still.of_blocks (fun k hk => hb8.block k hk), fun _ _ _ h => h, fun _ _ h => h, fun _ r hn hw => .inl ⟨r, hn, hw, rfl⟩⟩ : Moved ρ7 _ w7 ρ7 _ w8)).trans hm9).wrs g h |>.elim (fun h => wrS_allRo (by kernel_rfl) h) (fun h => by have := hbk5.lt; omega))
          refine sim_rs [] ?_
          refine sim_store (a := .v (.pointer (some ⟨g, 0 + (i : Int).toNat * 1, none⟩))) (vs := [.v x.val]) (by kernel_rfl) hR10.none_ rfl hbk10 ?_ (.inl (by simp)) (fun k r hk => by simp at hk) (fun w11 hbk11 hk11 hR11 => ?_)
          · rw [List.length_append, sls_length, hzl, sv_len, Int.toNat_natCast]
            omega
          · rw [Int.toNat_natCast, Nat.zero_add, denL_sv, sls_overlay zs i x rest (by omega)] at hbk11
            refine sim_run 1000 [⟨10, 1, LI (IntKind.i64.wrap ((i : Int) + 1)), LI ((i + 1 : Nat) : Int)⟩, ⟨6, 1, LI (IntKind.i64.wrap ((j : Int) + 1)), LI ((j + 1 : Nat) : Int)⟩] hR11 (by kernel_rfl) ⟨eqi (by rw [IntWalk.i64_in _ (by omega)]; omega), eqi (by rw [IntWalk.i64_in _ (by omega)]; omega), trivial⟩ (fun ρ12 w12 hm12 hR12 => ?_)
            refine sim_again (i + 1, j + 1, zs.set i x) (by kernel_rfl) (show n - (j + 1) < n - j by omega) (by kernel_rfl) (by kernel_rfl) (by kernel_rfl) (fun i hi => absurd hi (by simp)) hR12 (by kernel_rfl) (by kernel_rfl) ⟨Nat.succ_lt_succ hij, hlt, by rw [List.length_set]; exact hzl, ?_, ?_, ?_⟩
            · show (zs.set i x).take (i + 1) = _
              rw [hft, ← hzt, List.take_succ_eq_append_getElem (by rw [List.length_set]; omega), List.take_set_of_le (Nat.le_refl _), List.getElem_set_self]
              simp [hpx]
            · show (zs.set i x).drop (j + 1) = xs.drop (j + 1)
              rw [List.drop_set_of_lt (by omega), ← List.drop_drop, ← List.drop_drop, hzd]
            · exact hbk11.kept hm12.kept (fun h => wrS_allRo (by kernel_rfl) h)
    · have hjn' : j = n := by omega
      subst hjn'
      have hzt2 : zs.take i = xs.filter (fun x => !p x) := by rw [hzt, List.take_of_length_le (by omega)]
      have hfl : (xs.filter (fun x => !p x)).length = i := by rw [← hzt2, List.length_take]; omega
      refine sim_run 1000 [⟨5, 3, LB (decide ((j : Int) < (j : Int))), LB false⟩] hR4 (by kernel_rfl) ⟨eqb (by simp), trivial⟩ (fun ρ5 w5 hm5 hR5 => ?_)
      have hbk5 := hbk4.kept hm5.kept (fun h => wrS_allRo (by kernel_rfl) h)
      refine sim_leave (by kernel_rfl) ?_
      refine sim_run 1000 [] hR5 (by kernel_rfl) trivial (fun ρ6 w6 hm6 hR6 => ?_)
      have hbk6 := hbk5.kept hm6.kept (fun h => wrS_allRo (by kernel_rfl) h)
      refine sim_slice (ty := 38) (x := .v (.slice (some ⟨g, 0, none⟩) j cp)) (lo := [LI i]) (hi := []) (by kernel_rfl) Try.underlying38 hi0 rfl i j rfl rfl (by omega) hcp ?_
      refine sim_run 1000 [] hR6 (by kernel_rfl) trivial (fun ρ7 w7 hm7 hR7 => ?_)
      have hbk7 := hbk6.kept hm7.kept (fun h => wrS_allRo (by kernel_rfl) h)
      have hA : (if cp = i then (some ⟨g, 0, none⟩ : Option Addr) else (some ⟨g, 0, none⟩ : Option Addr).map (·.add (i * i0.size))) = some ⟨g, i * 1, none⟩ := by
        rw [if_neg (by omega), hz1]
        simp only [Option.map_some, Addr.add]
        split
        · rename_i h0
          rw [h0]
        · simp
      refine sim_clear (ty := 38) (s := .v (.slice (if cp = i then (some ⟨g, 0, none⟩ : Option Addr) else (some ⟨g, 0, none⟩ : Option Addr).map (·.add (i * i0.size))) (j - i) (cp - i))) (by kernel_rfl) Try.underlying38 hi0 hz0 rfl hR7 rfl hbk7 (fun _ => hA) ?_ (.inl (by simp)) (fun k r hk => ?_) (fun w8 vs hvs hbk8 hk8 hR8 => ?_)
      · rw [List.length_append, sls_length, hzl]
        show i * 1 + (j - i) * 1 ≤ _
        omega
      · exact fun _ => (noReg (by kernel_rfl) hk).elim
      · refine sim_run 1000 [] hR8 (by kernel_rfl) trivial (fun ρ9 w9 hm9 hR9 => ?_)
        have hbk9 := hbk8.kept hm9.kept (fun h => wrS_allRo (by kernel_rfl) h)
        refine sim_slice (ty := 38) (x := .v (.slice (some ⟨g, 0, none⟩) j cp)) (lo := []) (hi := [LI i]) (by kernel_rfl) Try.underlying38 hi0 rfl 0 i rfl rfl (by omega) (by omega) ?_
        have hA2 : (if cp = 0 then (some ⟨g, 0, none⟩ : Option Addr) else (some ⟨g, 0, none⟩ : Option Addr).map (·.add (0 * i0.size))) = some ⟨g, 0, none⟩ := by
          rw [if_neg (by omega), Nat.zero_mul]
          rfl
        rw [hA2]
        refine sim_run 1000 [] hR9 (by kernel_rfl) trivial (fun ρ10 w10 hm10 hR10 => ?_)
        have hbk10 := hbk9.kept hm10.kept (fun h => wrS_allRo (by kernel_rfl) h)
        refine sim_ret (.v (.slice (some ⟨g, 0, none⟩) i cp)) hR10 (by kernel_rfl) (by kernel_rfl) ?_
        refine ⟨by rw [hfl]; rfl, ?_, hR10.keeps.kept.mono (fun x hx => .inl ⟨_, rfl, (List.mem_singleton.1 hx).symm⟩)⟩
        rw [hfl]
        have hol : (overlay (sls zs ++ rest) (i * 1) vs).length = cp * 1 := by
          rw [overlay_length _ _ _ (by rw [hvs, List.length_append, sls_length, hzl]; show i * 1 + (j - i) * 1 ≤ _; omega), ← hcur, List.length_append, List.length_append, sls_length, sls_length, hzl, hl]
        refine own_of_blkS hbk10 hbase (by omega) hm hol ?_ hfl
        rw [← hzt2]
        unfold overlay
        have e : sls zs = sls (zs.take i) ++ sls (zs.drop i) := by rw [← sls_append, List.take_append_drop]
        have hil : (sls (zs.take i)).length = i * 1 := by rw [sls_length, List.length_take]; omega
        rw [e, List.append_assoc, List.append_assoc, ← hil, List.take_left, List.take_left]
theorem PredS.mono {ok : Sv → Prop} {B B' : Nat} {w : World} {f : FuncId} {caps : Array Value} {p : Sv → Bool} (h : PredS ok B w f caps p) (hB : B ≤ B') : PredS ok B' w f caps p := fun x w1 hx hb => h x w1 hx (below_mono hb hB)
set_option maxRecDepth 100000 in
theorem delS_any (ok : Sv → Prop) (f : FuncId) (hf : Enters Try.prog f) (caps : Array Value) (p : Sv → Bool) (A : Option Addr) (n cp base : Nat) (xs : List Sv) (w : World) (h : w.ownsRow base 31 1 (.slice A n cp) n (sls xs)) (hok : ∀ x ∈ xs, ok x) (hn : n ≤ 100000) (hp : PredS ok base w f caps p) (hbase : base ≤ w.heap.size) :
    Calls Try.prog 50 #[.slice A n cp, .func (.func f) #[] caps] w (DelS base w A cp (xs.filter fun x => !p x)) := by
  have hl : xs.length = n := by have := h.1; rw [sls_length] at this; omega
  rcases h.2 with ⟨e, hn0⟩ | ⟨g, cap, cur, e, hg, hh, h1, h2, h3, h4⟩
  · injection e with e1 e2 e3
    subst e1 e2 e3
    obtain rfl := List.eq_nil_of_length_eq_zero hl
    refine sim_enter Try.func50 ρ0 [.v (.slice none 0 0), .v (.func (.func f) #[] caps)] [] (by kernel_rfl) rfl ?_
    refine sim_run 1000 [] (Rel.start [] w ρ0) (by kernel_rfl) trivial (fun ρ1 w1 hm1 hR1 => ?_)
    refine sim_call 59 [.v (.slice none 0 0), .v (.func (.func f) #[] caps)] (by kernel_rfl) ?_
    refine (idxS_any ok f hf caps p none 0 0 w1.heap.size [] w1 Reads.none_ (Nat.le_refl _) (by simp) (by omega) (fun x w2 hx hb2 => hp x w2 hx ((below_mono hR1.toBelow hbase).trans (below_mono hb2 (Nat.le_trans hbase hR1.toBelow.size))))).mono ?_
    rintro e w2 ⟨rfl, hb2⟩
    refine Back.of (LI (-1)) (hR1.below hb2) rfl ?_
    refine sim_run 1000 [] (hR1.below hb2) (by kernel_rfl) trivial (fun ρ3 w3 hm3 hR3 => ?_)
    exact sim_ret (.v (.slice none 0 0)) hR3 (by kernel_rfl) (by kernel_rfl) ⟨rfl, World.ownsRow_nil _ _ _ _, hR3.keeps.kept.mono (fun x hx => by simp at hx)⟩
  · injection e with e1 e2 e3
    subst e1 e3
    have hcl : cur.toList = sls xs ++ cur.toList.drop (n * 1) := by rw [← h4, List.take_append_drop]
    have hb : Blk w g 31 (sls xs ++ cur.toList.drop (n * 1)).toArray := by rw [← hcl]; exact hh
    exact delS_some ok f hf caps p g n cp base xs _ w hb hl hg h1 h2 (by rw [← hcl, Array.length_toList, h3]) hok hn (hp.mono hg)
end

section
open Go Go.RowKit
/-- a value that is a slice -/
def svOf : Value → Sv
  | .slice A n c => ⟨A, n, c⟩
  | _ => ⟨none, 0, 0⟩
theorem svOf_val {w : World} {b n s : Nat} {e : TypeId} {v : Value} {xs : List Value} (h : w.ownsRow b e s v n xs) : (svOf v).val = v := by
  obtain ⟨A, c, rfl⟩ := own_row h
  rfl
/-- classes of Ids: a row of rows, each one's own -/
def ClsN (w : World) (gs : List (List Int)) (e : Ending) (w' : World) : Prop :=
  ∃ A cap B3 Fs, e = .returned (.slice A gs.length cap) ∧ w.heap.size ≤ B3 ∧ B3 ≤ w'.heap.size ∧ w'.ownsRow B3 31 1 (.slice A gs.length cap) gs.length (sls (gs.map Fs)) ∧ (∀ g ∈ gs, w'.ownsRow w.heap.size 3 1 (Fs g).val g.length (ints g) ∧ ∀ b, (Fs g).val.ownBlock = some b → b < B3) ∧ (∀ a ∈ gs, ∀ b ∈ gs, a ≠ b → ∀ g, (Fs a).val.ownBlock = some g → (Fs b).val.ownBlock ≠ some g) ∧ Below w.heap.size w w'
theorem take_mapS {gs : List (List Int)} {i : Nat} {g : List Int} (h : gs[i]? = some g) (F : List Int → Sv) : sls ((gs.take (i + 1)).map F) = sls ((gs.take i).map F) ++ [(F g).val] := by
  rw [List.take_add_one, h, List.map_append, sls_append]
  rfl
theorem rows_ty : RowTy Try.prog 38 31 1 24 := RowTy.of Try.underlying38 (by kernel_rfl) (by kernel_rfl)
theorem clsM_le (u : List Nat) (l : List In) : (clsM u l).length ≤ l.length := by
  unfold clsM
  rw [(sortG_perm _ _).length_eq]
  have := grps_len u (firstM l) (l.map (·.id))
  rw [List.length_map] at this
  exact this
theorem Own.new0 {ρ : Nm} {w : World} {base n : Nat} {e : TypeId} {size : Nat} {v : Value} {xs : List Value} (h : w.ownsRow base e size v n xs) : Own ρ [] w base e size v n xs := ⟨h, fun _ _ hw => noW0 hw⟩
theorem rws_of {ρ : Nm} {w : World} {B : Nat} {gs : List (List Int)} {Fv : List Int → Value} (h : ∀ g ∈ gs, w.ownsRow B 3 1 (Fv g) g.length (ints g)) (hn : gs.Nodup) (ha : ∀ a ∈ gs, ∀ b ∈ gs, a ≠ b → ∀ g, (Fv a).ownBlock = some g → (Fv b).ownBlock ≠ some g) : Rws ρ [] w B (gs.map fun g => Ent.mk g (Fv g) 0) id := by
  refine ⟨fun e he => ?_, List.pairwise_map.2 ((List.Pairwise.and_mem.1 hn).imp fun {a b} hab => ?_)⟩
  · obtain ⟨g, hg, rfl⟩ := List.mem_map.1 he
    exact Own.new0 (h g hg)
  · exact ha a hab.1 b hab.2.1 hab.2.2
theorem own_take {ρ ρ' : Nm} {rs : List Reg} {w : World} {B i c : Nat} {v : Value} {A : Option Addr} {gs : List (List Int)} {g : List Int} {Fv : List Int → Value} (hg : gs[i]? = some g) (hA : Fv g = .slice A g.length c) (h : Own ρ rs w B 31 1 v (i + 1) (sls ((gs.take i).map fun g => svOf (Fv g)) ++ denL ρ' [.v (.slice A g.length c)])) : Own ρ rs w B 31 1 v (i + 1) (sls ((gs.take (i + 1)).map fun g => svOf (Fv g))) := by
  rw [take_mapS hg (fun g => svOf (Fv g))]
  have e : (svOf (Fv g)).val = .slice A g.length c := by rw [hA]; rfl
  rw [e]
  exact h
attribute [local irreducible] run goO leaveK someK nextK nextT nextOT nextOD loopBody loopRest loopK fillJ tmplOf tmplJ mergeT At AtO drawOk ordOf gateOf callC callO topOp topO idxOf appOf storeOf clearOf sliceOf calleeOf calleeO topQ idxQ newRowOf resL stepOp seek
set_option maxRecDepth 100000 in
set_option maxHeartbeats 4000000 in
theorem classes_any (gp : Value) (u : List Nat) (l : List In) (A : Option Addr) (n cp B : Nat) (S : Nat → Prop) (V : World → Prop) (w : World) (hr : Reads w B 21 A n (insts l)) (hB : B ≤ w.heap.size) (hs : Sta S V ρ0 [] w) (hcls : ∀ (w' : World) (i : Int), V w' → Calls Try.prog 66 #[gp, .int .i64 i] w' (IntsN w' (clsI u i))) (hu : u.length ≤ 1000) (hl : l.length ≤ 1000) : Calls Try.prog 26 #[gp, .slice A n cp] w (ClsN w (clsM u l)) := by
  have hln := hr.insts_len
  refine sim_enter Try.func26 ρ0 [.v gp, .v (.slice A n cp)] [] (by kernel_rfl) rfl ?_
  have hR := Rel.start [] w ρ0
  refine sim_run 13 [] (hR.cast (by kernel_rfl)) (by kernel_rfl) trivial (fun ρ100 w100 hm100 hR100 => ?_)
  have hs := hs.moved (hm100.castL (by kernel_rfl))
  
  have hb1 : Below w.heap.size w w100 := hR100.toBelow
  refine sim_call 49 [.v (.slice A n cp)] (by kernel_rfl) ?_
  refine (first_any A n cp B l _ (hr.belowN hb1 hB) (Nat.le_trans hB hb1.size) (by omega)).mono ?_
  rintro e w2 ⟨gm, m, ck, rfl, hgm, hM, hb2⟩
  have hR2 := hR100.below hb2
  have hs := hs.below hb2
  refine Back.of (.v (.map (some gm))) hR2 rfl ?_
  
  have hb3 : Below w.heap.size w w2 := hR2.toBelow
  refine sim_call 48 [.v gp, .v (.map (some gm))] (by kernel_rfl) ?_
  refine (groups_any gp u l gm m ck S V w2 hM (hs.over (fun _ _ hw => noW0 hw)) hcls hu hl).mono ?_
  rintro e w3 ⟨Ag, cg, Fv, rfl, hog, hids, hap, hb4⟩
  have hR3 := hR2.below hb4
  have hcl : (clsM u l).length ≤ n := by rw [← hln]; exact clsM_le u l
  have hnd : (clsM u l).Nodup := by
    unfold clsM
    exact (sortG_perm _ _).nodup_iff.2 (grps_nodup ids_has)
  have hE := rws_of (ρ := ρ100) hids hnd hap
  have hgr := Own.new0 (ρ := ρ100) hog
  clear hs hM
  refine Back.of (.v (.slice Ag (clsM u l).length cg)) hR3 rfl ?_
  refine sim_run 4 [] (hR3.cast (by kernel_rfl)) (by kernel_rfl) trivial (fun ρ400 w400 hm400 hR400 => ?_)
  have hE := hE.moved (hm400.castL (by kernel_rfl))
  have hgr := hgr.moved (hm400.castL (by kernel_rfl))
  
  have hs1 := hb3.size
  have hs2 := hb4.size
  refine sim_loop (ι := Nat × Value) (T := []) (w0 := w) (0, .slice none 0 0) [11, 12] (fun s => [(5, .v s.2), (13, LI s.1)]) (fun _ => []) (fun s w4 => s.1 ≤ (clsM u l).length ∧ Rws ρ400 [] w4 w2.heap.size ((clsM u l).map fun g => Ent.mk g (Fv g) 0) id ∧ Own ρ400 [] w4 w2.heap.size 86 4 (.slice Ag (clsM u l).length cg) (clsM u l).length ((clsM u l).flatMap (encG Fv (firstM l))) ∧ Own ρ400 [] w4 w3.heap.size 31 1 s.2 s.1 (sls (((clsM u l).take s.1).map (fun g => svOf (Fv g)))) ∧ w3.heap.size ≤ w4.heap.size) (fun s => (clsM u l).length - s.1) (by kernel_rfl) (by kernel_rfl) ((by assumption : Rel _ _ _ _ _).cast (by kernel_rfl)) ⟨Nat.zero_le _, hE.castR (by kernel_rfl), hgr.castR (by kernel_rfl), ⟨World.ownsRow_nil _ _ _ _, fun g hg => by cases hg⟩, hm400.kept.size⟩ ?_
  iterate 8 (try clear hE)
  iterate 8 (try clear hs)
  iterate 8 (try clear hgr)
  rintro ⟨i, vo⟩ d5 w5 hR5 ⟨hi, hE, hgr, hvo, hsz⟩
  dsimp only at hi hE hgr hvo hsz
  have hag := hR5.ag_ 0 (by kernel_rfl)
  have hold : OldR 0 w3.heap.size ρ400 [] w5 := ⟨fun _ h => absurd h (Nat.not_lt_zero _), Nat.zero_le _, hsz⟩
  by_cases hlt : i < (clsM u l).length
  · obtain ⟨g, hg⟩ : ∃ g, (clsM u l)[i]? = some g := ⟨_, List.getElem?_eq_getElem hlt⟩
    have hgm2 := List.mem_of_getElem? hg
    obtain ⟨Ai, ci, hAi⟩ := own_row (hids g hgm2)
    obtain ⟨bg, hAg⟩ : ∃ bg, Ag = some ⟨bg, 0, none⟩ := by
      rcases hog.2 with ⟨_, h0⟩ | ⟨q, cap, cur, e, _⟩
      · omega
      · injection e with e
        exact ⟨q, e⟩
    subst hAg
    refine sim_seeO (xss := (clsM u l).map (encG Fv (firstM l))) (sz := 4) [.slice Ai g.length ci, .int .i64 (rkF (firstM l) g).prio, .int .i64 (rkF (firstM l) g).day, .int .i64 (rkF (firstM l) g).id] i 0 (by kernel_rfl) (by rw [List.getElem?_map, hg, ← hAi]; rfl) (by rw [← List.flatMap_def]; exact hgr) (by intro y hy; obtain ⟨o, _, rfl⟩ := List.mem_map.1 hy; rfl) (by omega) hlt hR5 (by kernel_rfl) (fun ρE hmE eE hRE => ?_)
    have hE := hE.moved hmE
    have hgr := hgr.moved hmE
    have hvo := hvo.moved hmE
    have hold := hold.moved hmE
    have hag0 := hag.moved hmE
    have hag := hRE.ag_ 1 (by kernel_rfl)
    refine sim_run 5 [] (hRE.cast (by kernel_rfl)) (by kernel_rfl) trivial (fun ρ600 w600 hm600 hR600 => ?_)
    have hE := hE.moved (hm600.castL (by kernel_rfl))
    have hgr := hgr.moved (hm600.castL (by kernel_rfl))
    have hvo := hvo.moved (hm600.castL (by kernel_rfl))
    have hold := hold.moved (hm600.castL (by kernel_rfl))
    have hag0 := hag0.moved (hm600.castL (by kernel_rfl))
    have hag := hag.moved (hm600.castL (by kernel_rfl))
    refine sim_know 14 (decide ((↑(i, vo).fst : Int) < (↑(clsM u l).length : Int))) true (by kernel_rfl) (decide_eq_true (by omega)) ?_
    refine sim_run 6 [] (hR600.cast (by kernel_rfl)) (by kernel_rfl) trivial (fun ρ601 w601 hm601 hR601 => ?_)
    have hE := hE.moved (hm601.castL (by kernel_rfl))
    have hgr := hgr.moved (hm601.castL (by kernel_rfl))
    have hvo := hvo.moved (hm601.castL (by kernel_rfl))
    have hold := hold.moved (hm601.castL (by kernel_rfl))
    have hag0 := hag0.moved (hm601.castL (by kernel_rfl))
    have hag := hag.moved (hm601.castL (by kernel_rfl))
    refine sim_place (.v (.slice (some ⟨bg, 0, none⟩) (clsM u l).length cg)) (clsM u l).length 4 i 0 0 (by kernel_rfl) (by omega) (by omega) rfl (by simp only [Nm.at_, hag.at_ 0 (by omega), eE, Nat.add_zero, Nat.zero_add, Int.toNat_natCast]) ?_
    refine sim_run 9 [] (hR601.cast (by kernel_rfl)) (by kernel_rfl) trivial (fun ρ603 w603 hm603 hR603 => ?_)
    have hE := hE.moved (hm603.castL (by kernel_rfl))
    have hgr := hgr.moved (hm603.castL (by kernel_rfl))
    have hvo := hvo.moved (hm603.castL (by kernel_rfl))
    have hold := hold.moved (hm603.castL (by kernel_rfl))
    have hag0 := hag0.moved (hm603.castL (by kernel_rfl))
    have hag := hag.moved (hm603.castL (by kernel_rfl))
    
    refine sim_appendO 38 vo (.slc 2 0 1 1) (by kernel_rfl) hR603 rows_ty hvo 2 1 1 rfl [.v (.slice Ai g.length ci)] (by kernel_rfl) rfl (by kernel_rfl) (by unfold maxLen; omega) (by omega) hold.sz (fun g' hg' => .inr (by
      have h1 := own_ge hvo.own hg'
      omega)) [0] (by kernel_rfl) (fun k0 hk0 g' hg' h2 => by
      obtain rfl := List.mem_singleton.1 hk0
      rw [hag.at_ 0 (by omega), eE] at h2
      exact own_ne hgr.own hvo.own (by decide) bg rfl (by rw [hg']; exact congrArg some h2.symm)) (fun vo' w7 hvo' hgw hR7 => ?_)
    have hE := hE.grownO hvo.own (by decide) hgw
    have hgr := hgr.grown hgw (own_ne hgr.own hvo.own (by decide))
    have hsz7 : w3.heap.size ≤ w7.heap.size := Nat.le_trans hold.sz hgw.size
    have hold : OldR 0 w3.heap.size ρ603 _ w7 := ⟨hold.lt, hold.le, hsz7⟩
    have hvo := own_take hg hAi hvo'
    clear hvo' hsz7
    refine sim_run 7 [⟨6, 0, LI (IntKind.i64.wrap ((↑(i, vo).fst : Int) + 1)), LI ((↑(i, vo).fst : Int) + 1)⟩] (hR7.cast (by kernel_rfl)) (by kernel_rfl) ⟨eqi (IntWalk.i64_in _ (by omega)), trivial⟩ (fun ρ800 w800 hm800 hR800 => ?_)
    have hag0 := hag0.moved (hm800.castL (by kernel_rfl))
    have hag := hag.moved (hm800.castL (by kernel_rfl))
    have hE := hE.moved (hm800.castL (by kernel_rfl))
    have hgr := hgr.moved (hm800.castL (by kernel_rfl))
    have hold := hold.moved (hm800.castL (by kernel_rfl))
    have hvo := hvo.moved (hm800.castL (by kernel_rfl))
    
    exact sim_again (i + 1, vo') (by kernel_rfl) (by show (clsM u l).length - (i + 1) < (clsM u l).length - i; omega) (by kernel_rfl) (by kernel_rfl) (by kernel_rfl) hag0.ag (Rel.cast (by assumption) (by kernel_rfl)) (by kernel_rfl) (by kernel_rfl) ⟨hlt, hE.cut hag0 rfl (by kernel_rfl), hgr.cut hag0 rfl (by kernel_rfl), hvo.cut hag0 rfl (by kernel_rfl), hold.sz⟩
  · rw [List.take_of_length_le (by omega)] at hvo
    have hil : i = (clsM u l).length := by omega
    subst hil
    obtain ⟨Av, cv, hve⟩ := own_row hvo.own
    subst hve
    refine sim_run 5 [] (hR5.cast (by kernel_rfl)) (by kernel_rfl) trivial (fun ρ700 w700 hm700 hR700 => ?_)
    have hE := hE.moved (hm700.castL (by kernel_rfl))
    have hgr := hgr.moved (hm700.castL (by kernel_rfl))
    have hag := hag.moved (hm700.castL (by kernel_rfl))
    have hold := hold.moved (hm700.castL (by kernel_rfl))
    have hvo := hvo.moved (hm700.castL (by kernel_rfl))
    refine sim_know 14 (decide ((↑((clsM u l).length, Value.slice Av (clsM u l).length cv).fst : Int) < (↑(clsM u l).length : Int))) false (by kernel_rfl) (decide_eq_false (by omega)) ?_
    refine sim_run 1 [] (hR700.cast (by kernel_rfl)) (by kernel_rfl) trivial (fun ρ701 w701 hm701 hR701 => ?_)
    have hE := hE.moved (hm701.castL (by kernel_rfl))
    have hgr := hgr.moved (hm701.castL (by kernel_rfl))
    have hag := hag.moved (hm701.castL (by kernel_rfl))
    have hold := hold.moved (hm701.castL (by kernel_rfl))
    have hvo := hvo.moved (hm701.castL (by kernel_rfl))
    refine sim_leave (by kernel_rfl) ?_
    refine sim_run 5 [] (hR701.cast (by kernel_rfl)) (by kernel_rfl) trivial (fun ρ702 w702 hm702 hR702 => ?_)
    have hE := hE.moved (hm702.castL (by kernel_rfl))
    have hgr := hgr.moved (hm702.castL (by kernel_rfl))
    have hag := hag.moved (hm702.castL (by kernel_rfl))
    have hold := hold.moved (hm702.castL (by kernel_rfl))
    have hvo := hvo.moved (hm702.castL (by kernel_rfl))
    refine sim_ret (.v (Value.slice Av (clsM u l).length cv)) hR702 (by kernel_rfl) (by kernel_rfl) ?_
    
    refine ⟨Av, cv, w3.heap.size, fun g => svOf (Fv g), rfl, by omega, hold.sz, hvo.own, fun g hg => ?_, fun a ha b hb hab g hg => ?_, (by assumption : Rel _ _ _ _ _).toBelow⟩
    · have h1 := (hE.own _ (List.mem_map.2 ⟨g, hg, rfl⟩)).own
      have e1 := svOf_val (hids g hg)
      refine ⟨by rw [e1]; exact own_base h1 (by omega), fun b hb => ?_⟩
      rw [e1] at hb
      exact own_lt (hids g hg) hb
    · rw [svOf_val (hids a ha)] at hg
      rw [svOf_val (hids b hb)]
      exact hap a ha b hb hab g hg
end

section
open Go Go.RowKit
theorem top11_enters : Enters Try.prog 53 := ⟨_, Try.func53, by kernel_rfl, by kernel_rfl⟩
theorem top1_enters : Enters Try.prog 51 := ⟨_, Try.func51, by kernel_rfl, by kernel_rfl⟩
theorem any_hasK {m : List (Ent Int In)} {F : Int → Option In} (hm : ∀ z, look z m = F z) (l : List Nat) : ((l.map Int.ofNat).any fun z => hasK z m) = l.any fun x => (F (x : Int)).isSome := by
  rw [List.any_map]
  congr 1
  funext x
  show hasK (Int.ofNat x) m = _
  unfold hasK
  rw [hm]
  rfl
theorem numsM_le (u hs : List Nat) : (numsM u hs).length ≤ u.length := by
  unfold numsM
  refine Nat.le_trans (List.length_filter_le _ _) ?_
  rw [List.length_range']
  exact Nat.le_refl _
theorem aheadOf_le (u : List Nat) (ls : List Lk) (i : Int) : (aheadOf u ls i).length ≤ u.length := by
  unfold aheadOf
  split
  · exact numsM_le _ _
  · exact Nat.zero_le _
theorem contF_nats (f : FuncId) (hf : Enters Try.prog f) (caps : Array Value) (p : Int → Bool) (base : Nat) (A : Option Addr) (c : Nat) (l : List Nat) (b0 : Bool) (w : World) (hO : w.ownsRow base 3 1 (.slice A l.length c) l.length (nats l)) (hb0 : (l.map Int.ofNat).any p = b0) (hl : l.length ≤ 100000) (hp : PredZ w f caps p (l.map Int.ofNat)) : Calls Try.prog 52 #[.slice A l.length c, .func (.func f) #[] caps] w fun e w2 => e = .returned (.bool b0) ∧ Below w.heap.size w w2 :=
  containsFI_row f hf caps p base _ (l.map Int.ofNat) b0 w (by rw [List.length_map, nats_ofNat]; exact hO) hb0 (by rw [List.length_map]; exact hl) hp
attribute [local irreducible] run goO leaveK someK nextK nextT nextOT nextOD loopBody loopRest loopK fillJ tmplOf tmplJ mergeT At AtO drawOk ordOf gateOf callC callO topOp topO idxOf appOf storeOf clearOf sliceOf calleeOf calleeO topQ idxQ newRowOf resL stepOp seek
set_option maxRecDepth 100000 in
set_option maxHeartbeats 4000000 in
theorem top11_any (pd od gm : Nat) (m : List (Ent Int In)) (ck : Nat) (z : Int) (w : World) (hc : w.cell? ⟨pd, od, none⟩ = some (.map (some gm))) (hM : Mp encZ In.val w gm m ck) : Calls Try.prog 53 #[.int .i64 z, .pointer (some ⟨pd, od + 0, none⟩)] w fun e w' => e = .returned (.bool (hasK z m)) ∧ Below w.heap.size w w' := by
  obtain ⟨ρ, _, e0, hR⟩ := open_cell (Rel.start [] w ρ0) rfl (by kernel_rfl) pd od _ hc
  have e0 : ρ 0 = (pd, od) := e0
  have hM := mpo_in hM (ρ := ρ) (rs := [⟨[.v (.map (some gm))], false⟩]) (by kernel_rfl)
  refine sim_enter Try.func53 ρ [LI z, .ptr 0 0] [⟨[.v (.map (some gm))], false⟩] (by kernel_rfl) (by simp only [denL, LV.den, Nm.at_, e0]) ?_
  have hR := hR.cast rfl
  refine sim_run 8 [] (hR.cast (by kernel_rfl)) (by kernel_rfl) trivial (fun ρ100 w100 hm100 hR100 => ?_)
  have hM := hM.moved (hm100.castL (by kernel_rfl))
  refine sim_look (enc := encZ) (encV := In.val) (mx := .v (Value.map (some gm))) (kx := LI z) (ok := true) z (.tup [.v ((look z m).getD zeroIn).val, LB (hasK z m)]) (by kernel_rfl) mi_ty kt_int zero_in hM rfl rfl (by rfl) ?_
  refine sim_run 12 [] (hR100.cast (by kernel_rfl)) (by kernel_rfl) trivial (fun ρ102 w102 hm102 hR102 => ?_)
  have hM := hM.moved (hm102.castL (by kernel_rfl))
  refine sim_ret (LB (hasK z m)) hR102 (by kernel_rfl) (by kernel_rfl) ?_
  exact ⟨rfl, hR102.toBelow⟩
  
theorem top11_pred {pd od gm : Nat} {m : List (Ent Int In)} {ck : Nat} {w : World} (hc : w.cell? ⟨pd, od, none⟩ = some (.map (some gm))) (hM : Mp encZ In.val w gm m ck) {w1 : World} (hb : Below w.heap.size w w1) (zs : List Int) : PredZ w1 53 #[.pointer (some ⟨pd, od + 0, none⟩)] (fun z => hasK z m) zs := by
  intro x w3 _ hb3
  have hb4 : Below w.heap.size w w3 := hb.trans (below_mono hb3 hb.size)
  exact top11_any pd od gm m ck x w3 (by rw [← hc]; exact hb4.cell (World.block_lt_of_cell? _ _ hc)) (hM.same (hb4.block _ hM.size))
set_option maxRecDepth 100000 in
set_option maxHeartbeats 4000000 in
theorem topZ_any (pa oa pb ob : Nat) (x : Value) (w : World) (ha : w.cell? ⟨pa, oa, none⟩ = some (.pointer none)) : Calls Try.prog 51 #[x, .pointer (some ⟨pa, oa + 0, none⟩), .pointer (some ⟨pb, ob + 0, none⟩)] w fun e w' => e = .returned (.bool false) ∧ Below w.heap.size w w' := by
  obtain ⟨ρ, _, e0, hR⟩ := open_cell (Rel.start [] w ρ0) rfl (by kernel_rfl) pa oa _ ha
  have e0 : ρ 0 = (pa, oa) := e0
  refine sim_enter Try.func51 ρ [.v x, .ptr 0 0, .v (.pointer (some ⟨pb, ob + 0, none⟩))] [⟨[.v (.pointer none)], false⟩] (by kernel_rfl) (by simp only [denL, LV.den, Nm.at_, e0]) ?_
  have hR := hR.cast rfl
  refine sim_run 15 [] (hR.cast (by kernel_rfl)) (by kernel_rfl) trivial (fun ρ200 w200 hm200 hR200 => ?_)
  refine sim_ret (LB false) hR200 (by kernel_rfl) (by kernel_rfl) ?_
  exact ⟨rfl, hR200.toBelow⟩
  
set_option maxRecDepth 100000 in
set_option maxHeartbeats 4000000 in
theorem topG_any (q : GrP) (u : List Nat) (ls : List Lk) (F : Int → Option In) (pa oa pb ob gm : Nat) (m : List (Ent Int In)) (ck : Nat) (A : Option Addr) (c B : Nat) (ids : List Int) (w : World) (h : GrV q u ls w) (hi : GInv u ls) (ha : w.cell? ⟨pa, oa, none⟩ = some (.pointer (some ⟨q.b, 0, none⟩))) (hb : w.cell? ⟨pb, ob, none⟩ = some (.map (some gm))) (hM : Mp encZ In.val w gm m ck) (hm : ∀ z, look z m = F z) (hr : Reads w B 1 A ids.length (ints ids)) (hne : ids ≠ []) : Calls Try.prog 51 #[.slice A ids.length c, .pointer (some ⟨pa, oa + 0, none⟩), .pointer (some ⟨pb, ob + 0, none⟩)] w fun e w' => e = .returned (.bool (!topB u ls F ids)) ∧ Below w.heap.size w w' := by
  obtain ⟨x, r, rfl⟩ : ∃ x r, ids = x :: r := by
    cases ids with
    | nil => exact absurd rfl hne
    | cons x r => exact ⟨x, r, rfl⟩
  obtain ⟨g1, o1, rfl, hg1, hcs⟩ := hr.spot (by rw [List.length_cons]; omega) (by omega)
  have hc0 := hcs 0 (.int .i64 x) rfl
  have hle := hi.le
  have hal := aheadOf_le u ls x
  have htop : (!topB u ls F (x :: r)) = ((aheadOf u ls x).map Int.ofNat).any fun z => hasK z m := by
    rw [any_hasK hm]
    unfold topB
    rw [Bool.not_not]
    rfl
  rw [htop]
  obtain ⟨ρ1, _, e0, hR1⟩ := open_cell (Rel.start [] w ρ0) rfl (by kernel_rfl) pa oa _ ha
  have e0 : ρ1 0 = (pa, oa) := e0
  obtain ⟨ρ2, a2, e1, hR2⟩ := open_cell hR1 rfl (by kernel_rfl) pb ob _ hb
  have e1 : ρ2 1 = (pb, ob) := e1
  have e0 := (a2 0 (by show 0 < 1; omega)).trans e0
  obtain ⟨ρ3, a3, e2, hR3⟩ := open_cell hR2 rfl (by kernel_rfl) g1 (o1 + 0) _ hc0
  have e2 : ρ3 2 = (g1, o1 + 0) := e2
  have e1 := (a3 1 (by show 1 < 2; omega)).trans e1
  have e0 := (a3 0 (by show 0 < 2; omega)).trans e0
  have hR := hR3.cast (rs' := [⟨[.v (.pointer (some ⟨q.b, 0, none⟩))], false⟩, ⟨[.v (.map (some gm))], false⟩, ⟨[LI x], false⟩]) rfl
  have hMr := hM
  have hM := mpo_in hM (ρ := ρ3) (rs := [⟨[.v (.pointer (some ⟨q.b, 0, none⟩))], false⟩, ⟨[.v (.map (some gm))], false⟩, ⟨[LI x], false⟩]) (by kernel_rfl)
  have hs := h.sta (ρ := ρ3) (rs := [⟨[.v (.pointer (some ⟨q.b, 0, none⟩))], false⟩, ⟨[.v (.map (some gm))], false⟩, ⟨[LI x], false⟩]) (by kernel_rfl)
  have hag := hR.ag_ 3 (by kernel_rfl)
  refine sim_enter Try.func51 ρ3 [.v (.slice (some ⟨g1, o1, none⟩) (x :: r).length c), .ptr 0 0, .ptr 1 0] [⟨[.v (.pointer (some ⟨q.b, 0, none⟩))], false⟩, ⟨[.v (.map (some gm))], false⟩, ⟨[LI x], false⟩] (by kernel_rfl) (by simp only [denL, LV.den, Nm.at_, e0, e1]) ?_
  have hlen : 0 < (x :: r).length := by rw [List.length_cons]; omega
  refine sim_run 13 [] (hR.cast (by kernel_rfl)) (by kernel_rfl) trivial (fun ρ300 w300 hm300 hR300 => ?_)
  have hM := hM.moved (hm300.castL (by kernel_rfl))
  have hs := hs.moved (hm300.castL (by kernel_rfl))
  have hag := hag.moved (hm300.castL (by kernel_rfl))
  refine sim_draw [] (by kernel_rfl) (by kernel_rfl) hR300 (fun hR301 => ?_)
  have hM := hM.drew
  have hs := hs.drew
  refine sim_ordN 2 [] hR301 (by kernel_rfl) trivial (fun ρ302 w302 hm302 hR302 => ?_)
  have hag := hag.moved (hm302.castL (by kernel_rfl))
  have hM := hM.moved (hm302.castL (by kernel_rfl))
  have hs := hs.moved (hm302.castL (by kernel_rfl))
  refine sim_ord_index (.v (.slice (some ⟨g1, o1, none⟩) (x :: r).length c)) (x :: r).length 1 0 2 0 (by kernel_rfl) (by omega) (by omega) rfl hR302 (by simp only [Nm.at_, hag.at_ 2 (by omega), e2]; rfl) (fun hR303 => ?_)
  refine sim_ordN 2 [] hR303 (by kernel_rfl) trivial (fun ρ304 w304 hm304 hR304 => ?_)
  have hag := hag.moved (hm304.castL (by kernel_rfl))
  have hM := hM.moved (hm304.castL (by kernel_rfl))
  have hs := hs.moved (hm304.castL (by kernel_rfl))
  refine sim_ord_call (T := []) (w0 := w) 12 [.v (Value.pointer (some (Addr.mk q.b 0 none))), LI x] (by kernel_rfl) ?_
  refine Calls.mono (ahead_any (q) (u) (ls) (x) _ (hs.is) (hi)) ?_
  rintro e305 w305 ⟨A3, c3, rfl, ho3, hb305⟩
  have hown := Own.start (hR304).rel ho3
  have hR305 := (hR304).call hb305 (.v (.slice A3 (aheadOf u ls x).length c3))
  have hM := hM.below hb305
  have hs := hs.below hb305
  refine BackO.of (.v (.slice A3 (aheadOf u ls x).length c3)) hR305 rfl ?_
  refine sim_ord_call (T := []) (w0 := w) 52 [.v (Value.slice A3 (aheadOf u ls x).length c3), .fnv (Fn.func 53) [] [.ptr 1 0]] (by kernel_rfl) ?_
  have ez1_306 := (hag.at_ 1 (by omega)).trans e1
  simp only [denL, LV.den, Nm.at_, ez1_306, Nat.add_zero]
  refine Calls.mono (contF_nats _ (top11_enters) _ ((fun z => hasK z m)) _ (A3) (c3) (aheadOf u ls x) _ _ (hown.own) (rfl) ((by omega)) ((top11_pred hb hMr (RelO.rel (by assumption)).toBelow _))) ?_
  rintro e306 w306 ⟨rfl, hb306⟩
  have hR306 := hR305.call hb306 (LB ((List.map Int.ofNat (aheadOf u ls x)).any fun z => hasK z m))
  have hown := hown.below hb306
  have hM := hM.below hb306
  have hs := hs.below hb306
  refine BackO.of (LB ((List.map Int.ofNat (aheadOf u ls x)).any fun z => hasK z m)) hR306 rfl ?_
  refine sim_ordN 1 [] hR306 (by kernel_rfl) trivial (fun ρ307 w307 hm307 hR307 => ?_)
  have hag := hag.moved (hm307.castL (by kernel_rfl))
  have hown := hown.moved (hm307.castL (by kernel_rfl))
  have hM := hM.moved (hm307.castL (by kernel_rfl))
  have hs := hs.moved (hm307.castL (by kernel_rfl))
  refine sim_ord_endR hR307 (by kernel_rfl) (fun hR308 => ?_)
  refine sim_ret (LB ((List.map Int.ofNat (aheadOf u ls x)).any fun z => hasK z m)) (hR308.cast (by kernel_rfl)) (by kernel_rfl) (by kernel_rfl) ?_
  exact ⟨rfl, hR308.toBelow⟩
  
end

section
open Go Go.RowKit
/-- which class a row is -/
theorem find_own {gs : List (List Int)} {Fs : List Int → Sv} (hne : ∀ g ∈ gs, ∃ b, (Fs g).val.ownBlock = some b) (hap : ∀ a ∈ gs, ∀ b ∈ gs, a ≠ b → ∀ g, (Fs a).val.ownBlock = some g → (Fs b).val.ownBlock ≠ some g) {g : List Int} (hg : g ∈ gs) : (gs.find? fun x => (Fs x).val.ownBlock == (Fs g).val.ownBlock).getD [] = g := by
  have hs : (gs.find? fun x => (Fs x).val.ownBlock == (Fs g).val.ownBlock).isSome = true := List.find?_isSome.2 ⟨g, hg, by simp⟩
  obtain ⟨y, hy⟩ := Option.isSome_iff_exists.1 hs
  rw [hy, Option.getD_some]
  have h1 := List.find?_some hy
  have h2 := List.mem_of_find?_eq_some hy
  have h1 := eq_of_beq h1
  by_cases e : y = g
  · exact e
  · obtain ⟨b, hb⟩ := hne y h2
    exact absurd (h1 ▸ hb) (hap y h2 g hg e b hb)
theorem filter_mapS {gs : List (List Int)} {Fs : List Int → Sv} {p : Sv → Bool} {q : List Int → Bool} (h : ∀ g ∈ gs, p (Fs g) = q g) : (gs.map Fs).filter p = (gs.filter q).map Fs := by
  rw [List.filter_map]
  congr 1
  exact List.filter_congr h
theorem tops_sub {u : List Nat} {ls : List Lk} {l : List In} {g : List Int} (h : g ∈ topsM u ls l) : g ∈ clsM u l := (List.mem_filter.1 h).1
theorem MpO.fresh {K V : Type} {enc : K → Value} {encV : V → Value} {T : List Nat} {w0 w1 w2 : World} {ρ : Nm} {rs : List Reg} (hR : Rel T w0 ρ rs w1) {g : Nat} {l : List (Ent K V)} {ck : Nat} (hM : Mp enc encV w2 g l ck) (hg : w1.heap.size ≤ g) : MpO enc encV ρ rs w2 (some g) l ck :=
  ⟨fun q hq => by
    injection hq with hq
    subst hq
    exact ⟨hM, fun hw => by have := hR.wr_lt hw; omega⟩, fun h => by cases h⟩
theorem Own.above {T : List Nat} {w0 w w' : World} {ρ : Nm} {rs : List Reg} (hR : Rel T w0 ρ rs w) {base n : Nat} {e : TypeId} {size : Nat} {v : Value} {xs : List Value} (h : w'.ownsRow base e size v n xs) (hb : w.heap.size ≤ base) : Own ρ rs w' base e size v n xs := ⟨h, fun g hg hw => by
  have h1 := own_ge h hg
  have h2 := hR.wr_lt hw
  omega⟩
theorem Own.above6 {T : List Nat} {w0 w w' : World} {ρ : Nm} {rs : List Reg} (_ : Rel T w0 ρ rs w) {k B : Nat} (hold : OldR k B ρ rs w) {base n : Nat} {e : TypeId} {size : Nat} {v : Value} {xs : List Value} (h : w'.ownsRow base e size v n xs) (hb : B ≤ base) (hl : Nat.ble rs.length k = true) : Own ρ rs w' base e size v n xs := ⟨h, fun g hg ⟨m, r, hr, _, he⟩ => by
  have h1 := own_ge h hg
  have h2 := hold.lt m (Nat.lt_of_lt_of_le (List.getElem?_eq_some_iff.1 hr).1 (Nat.le_of_ble_eq_true hl))
  omega⟩
theorem own_some {w : World} {base n : Nat} {e : TypeId} {size : Nat} {v : Value} {xs : List Value} (h : w.ownsRow base e size v n xs) (hn : 0 < n) : ∃ b, v.ownBlock = some b := by
  rcases h.2 with ⟨_, h0⟩ | ⟨g, cap, cur, rfl, _⟩
  · omega
  · exact ⟨g, rfl⟩
attribute [local irreducible] run goO leaveK someK nextK nextT nextOT nextOD loopBody loopRest loopK fillJ tmplOf tmplJ mergeT At AtO drawOk ordOf gateOf callC callO topOp topO idxOf appOf storeOf clearOf sliceOf calleeOf calleeO topQ idxQ newRowOf resL stepOp seek
set_option maxRecDepth 100000 in
set_option maxHeartbeats 4000000 in
theorem tops_any (gq : Option Addr) (u : List Nat) (ls : List Lk) (l : List In) (A : Option Addr) (n cp B : Nat) (S : Nat → Prop) (V : World → Prop) (w : World) (hr : Reads w B 21 A n (insts l)) (hB : B ≤ w.heap.size) (hs : Sta S V ρ0 [] w) (hcls : ∀ (w' : World) (i : Int), V w' → Calls Try.prog 66 #[.pointer gq, .int .i64 i] w' (IntsN w' (clsI u i)))
    (htop : ∀ (pa oa pb ob gm ck : Nat) (m : List (Ent Int In)) (A : Option Addr) (c B : Nat) (ids : List Int) (w' : World), V w' → w'.cell? ⟨pa, oa, none⟩ = some (.pointer gq) → w'.cell? ⟨pb, ob, none⟩ = some (.map (some gm)) → Mp encZ In.val w' gm m ck → (∀ z, look z m = firstM l z) → Reads w' B 1 A ids.length (ints ids) → ids ≠ [] → Calls Try.prog 51 #[.slice A ids.length c, .pointer (some ⟨pa, oa + 0, none⟩), .pointer (some ⟨pb, ob + 0, none⟩)] w' fun e w2 => e = .returned (.bool (!topB u ls (firstM l) ids)) ∧ Below w'.heap.size w' w2)
    (hu : u.length ≤ 1000) (hl : l.length ≤ 1000) : Calls Try.prog 27 #[.pointer gq, .slice A n cp] w (ClsN w (topsM u ls l)) := by
  have hln := hr.insts_len
  have hsame := hs.same
  have hslt := hs.lt
  have hV0 := hs.is
  refine sim_enter Try.func27 ρ0 [.v (.pointer gq), .v (.slice A n cp)] [] (by kernel_rfl) rfl ?_
  have hR := Rel.start [] w ρ0
  refine sim_run 8 [] (hR.cast (by kernel_rfl)) (by kernel_rfl) trivial (fun ρ100 w100 hm100 hR100 => ?_)
  have hs := hs.moved (hm100.castL (by kernel_rfl))
  
  have hb1 : Below w.heap.size w w100 := ⟨hm100.kept.os, hm100.kept.tape, hm100.kept.output, hm100.kept.size, fun k hk => hm100.kept.block k hk (fun h => noW0 h)⟩
  refine sim_call 49 [.v (.slice A n cp)] (by kernel_rfl) ?_
  refine (first_any A n cp B l _ (hr.belowN hb1 hB) (Nat.le_trans hB hb1.size) (by omega)).mono ?_
  rintro e w2 ⟨gm, m, ck, rfl, hgm, hM, hb2⟩
  have hR2 := hR100.below hb2
  have hs := hs.below hb2
  have hb12 := hb1.trans (below_mono hb2 hb1.size)
  have hmz := hM.2
  have hMo := MpO.fresh hR100 hM.1 hgm
  clear hM
  refine Back.of (.v (.map (some gm))) hR2 rfl ?_
  refine sim_run 7 [] (hR2.cast (by kernel_rfl)) (by kernel_rfl) trivial (fun ρ300 w300 hm300 hR300 => ?_)
  have hs := hs.moved (hm300.castL (by kernel_rfl))
  have hMo := hMo.moved (hm300.castL (by kernel_rfl))
  
  have hb3 := hR300.toBelow
  have hold := hR300.old 2 (by kernel_rfl)
  have hgl := (hMo.is _ rfl).1.size
  refine sim_call 26 [.v (.pointer gq), .v (.slice A n cp)] (by kernel_rfl) ?_
  refine (classes_any (.pointer gq) u l A n cp B S V w300 (hr.belowN hb3 hB) (Nat.le_trans hB hb3.size) (hs.over (fun _ _ hw => noW0 hw)) hcls hu hl).mono ?_
  rintro e w4 ⟨A4, c4, B3, Fs, rfl, hB3, hbz, hrow, hids, hap, hb4⟩
  have hR4 := hR300.below hb4
  have hs := hs.below hb4
  have hMo := hMo.below hb4
  have hold := hold.below hb4
  have hrw := Own.above hR300 hrow hB3
  have hidO := fun g hg => Own.above hR300 (hids g hg).1 (Nat.le_refl _)
  have hz3 := hb3.size
  refine Back.of (.v (.slice A4 (clsM u l).length c4)) hR4 rfl ?_
  refine sim_run 1 [] (hR4.cast (by kernel_rfl)) (by kernel_rfl) trivial (fun ρ500 w500 hm500 hR500 => ?_)
  have hs := hs.moved (hm500.castL (by kernel_rfl))
  have hMo := hMo.moved (hm500.castL (by kernel_rfl))
  have hold := hold.moved (hm500.castL (by kernel_rfl))
  have hrw := hrw.moved (hm500.castL (by kernel_rfl))
  
  have hidO := fun g hg => (hidO g hg).moved (hm500.castL (by kernel_rfl))
  have hz5 := hm500.kept.size
  refine sim_call 50 [.v (.slice A4 (clsM u l).length c4), .fnv (.func 51) [] [.ptr 0 0, .ptr 1 0]] (by kernel_rfl) ?_
  have hc0 : w500.cell? ⟨(ρ500 0).1, (ρ500 0).2, none⟩ = some (.pointer gq) := hR500.at_cell 0 0 (.v (.pointer gq)) (by kernel_rfl)
  have hc1 : w500.cell? ⟨(ρ500 1).1, (ρ500 1).2, none⟩ = some (.map (some gm)) := hR500.at_cell 1 0 (.v (.map (some gm))) (by kernel_rfl)
  have hne : ∀ g ∈ clsM u l, ∃ b, (Fs g).val.ownBlock = some b := fun g hg => own_some (hids g hg).1 (by
    have := List.length_pos_iff.2 (cls_self hg)
    omega)
  have hlen : ((clsM u l).map Fs).length = (clsM u l).length := List.length_map _
  have hcl := clsM_le u l
  refine (delS_any (fun x => ∃ g ∈ clsM u l, Fs g = x) 51 top1_enters #[.pointer (some ⟨(ρ500 0).1, (ρ500 0).2 + 0, none⟩), .pointer (some ⟨(ρ500 1).1, (ρ500 1).2 + 0, none⟩)] (fun x => !topB u ls (firstM l) (((clsM u l).find? fun y => (Fs y).val.ownBlock == x.val.ownBlock).getD [])) A4 (clsM u l).length c4 B3 ((clsM u l).map Fs) w500 hrw.own (fun x hx => by
    obtain ⟨g, hg, e⟩ := List.mem_map.1 hx
    exact ⟨g, hg, e⟩) (by omega) (fun x w6 hx hb6 => ?_) (Nat.le_trans hbz hz5)).mono ?_
  · obtain ⟨g, hg, rfl⟩ := hx
    obtain ⟨A', c', hA⟩ := own_row (hids g hg).1
    dsimp only
    rw [find_own hne hap hg, hA]
    have hk6 : Kept (fun k => B3 ≤ k) w500 w6 := ⟨hb6.os, hb6.tape, hb6.output, hb6.size, fun k _ hn => hb6.block k (by omega)⟩
    have hi5 := (hidO g hg).own
    rw [hA] at hi5
    have hAB : ∀ ad, A' = some ad → ad.block < B3 := fun ad had => (hids g hg).2 ad.block (by rw [hA, had]; rfl)
    have hr6 := (Reads.of_own hi5).keptFar hk6 (fun ad had h => ⟨h, fun h2 => by have := hAB ad had; omega⟩)
    exact htop (ρ500 0).1 (ρ500 0).2 (ρ500 1).1 (ρ500 1).2 gm ck m A' c' _ g w6 (hsame w500 w6 _ hs.is hs.lt hk6 (fun x hx h2 => by have := hslt x hx; omega)) (by
      rw [← hc0]
      exact hb6.cell (Nat.lt_of_lt_of_le (hold.lt 0 (by omega)) hB3)) (by
      rw [← hc1]
      exact hb6.cell (Nat.lt_of_lt_of_le (hold.lt 1 (by omega)) hB3)) ((hMo.is _ rfl).1.same (hb6.block gm (by omega))) hmz hr6 (cls_self hg)
  · rintro e w6 ⟨rfl, ho6, hk6⟩
    have hft : (((clsM u l).map Fs).filter fun x => !(fun x : Sv => !topB u ls (firstM l) (((clsM u l).find? fun y => (Fs y).val.ownBlock == x.val.ownBlock).getD [])) x) = (topsM u ls l).map Fs := filter_mapS fun g hg => by
      dsimp only
      rw [find_own hne hap hg, Bool.not_not]
    have hR6 := hR500.keptOwn hrw.own hold (by kernel_rfl) hB3 (by omega) hk6
    rw [hft, List.length_map] at ho6
    rw [hft, List.length_map]
    have hid6 : ∀ g ∈ topsM u ls l, w6.ownsRow w300.heap.size 3 1 (Fs g).val g.length (ints g) := fun g hg => own_kept (hidO g (tops_sub hg)).own hk6 (fun q hq hin => by
      obtain ⟨a, rfl, ha⟩ := hin
      exact own_ne (hidO g (tops_sub hg)).own hrw.own (by decide) q hq (by rw [← ha]; rfl))
    have hrw := Own.above6 hR500 hold ho6 hB3 (by kernel_rfl)
    have hid6 := fun g hg => Own.above6 hR500 hold (hid6 g hg) (Nat.le_refl _) (by kernel_rfl)
    clear hs hMo hold
    refine Back.of (.v (.slice A4 (topsM u ls l).length c4)) hR6 rfl ?_
    refine sim_run 2 [] (hR6.cast (by kernel_rfl)) (by kernel_rfl) trivial (fun ρ700 w700 hm700 hR700 => ?_)
    have hrw := hrw.moved (hm700.castL (by kernel_rfl))
    refine sim_ret (.v (Value.slice A4 (topsM u ls l).length c4)) hR700 (by kernel_rfl) (by kernel_rfl) ?_
    
    have hid6 := fun g hg => (hid6 g hg).moved (hm700.castL (by kernel_rfl))
    have hz7 := hm700.kept.size
    have hz6 := hk6.size
    exact ⟨A4, c4, B3, Fs, rfl, by omega, by omega, hrw.own, fun g hg => ⟨own_base (hid6 g hg).own hz3, (hids g (tops_sub hg)).2⟩, fun a ha b hb => hap a (tops_sub ha) b (tops_sub hb), (by assumption : Rel _ _ _ _ _).toBelow⟩
end
end Go.Proofs.Ytnfgndapalkbcaa
