/-
  A row of instructions: elements of it come into view, to be read or written. Over any program.
-/
import Derived.Test.YtnfgndapalkbcaaInP
import Derived.Test.YtnfgndapalkbcaaSimHN
namespace Go.Proofs.Ytnfgndapalkbcaa
open Go Go.RowKit
attribute [local irreducible] run goO goN ordGoN eqlOf eqlOper eqlOfO cellL leaveK someK nextK nextT nextOT nextOD loopBody loopRest loopK fillJ tmplOf tmplJ mergeT At AtO drawOk ordOf gateOf callC callO topOp topO idxOf appOf storeOf clearOf sliceOf calleeOf calleeO topQ idxQ newRowOf resL stepOp seek

section
variable {P : Program} {Q : Exit → Act → World → Prop} {c : Cfg} {ρ : Nm} {w0 w : World}
/-- an element of a given row of instructions comes into view behind a call that tells its place -/
theorem Back.view {A : Option Addr} {n B : Nat} {l : List In} (k N : Nat) (hN : c.rs.length = N) (hk : k < n) (hrd : Reads w0 B 21 A n (insts l)) (hB : B ≤ w0.heap.size) (hR : Rel [] w0 ρ c.rs w) (hu : (undR N c.rs && undL N c.tmps) = true) {v : Value}
    (hv : ∀ g o, A = some ⟨g, o, none⟩ → v = .pointer (some ⟨g, o + k * 21, none⟩))
    (next : ∀ x ρ', l[k]? = some x → Moved ρ c.rs w ρ' (c.rs ++ [⟨x.cells.map .v, false⟩]) w → Rel [] w0 ρ' (c.rs ++ [⟨x.cells.map .v, false⟩]) w → At P Q (nextC c (.ptr N 0) (c.rs ++ [⟨x.cells.map .v, false⟩])) ρ' w) : Back P Q c ρ (.returned v) w := by
  have hb : Below w0.heap.size w0 w := hR.toBelow
  obtain ⟨g, o, x, rfl, hg, hx, hc⟩ := (hrd.belowN hb hB).inst hk
  simp only [Bool.and_eq_true] at hu
  subst hN
  obtain ⟨ρ', ha, hn, hR'⟩ := hR.open_ hu.1 g (o + k * 21) (x.cells.map .v) (denV_und _ _) false (by have := hb.size; omega) (fun j v hv => InAt.lv hc ρ j v hv) (fun h => by cases h) (fun n r hn hw he => by
    rcases hw with hw | hw
    · cases hw
    · exact (old_not hR (by omega) n r hn hw he).elim)
  refine ⟨.ptr c.rs.length 0, _, ρ', ?_, act_ext ha hu.2, next x ρ' hx (Moved.ext_ro ha rfl) hR'⟩
  rw [hv g o rfl]
  simp only [LV.den, Nm.at_, hn, Nat.add_zero]
end

def atI (xs : List In) (id : Int) : In := xs.getD (id - 1).toNat zeroIn
theorem atI_of {xs : List In} {id : Int} {x : In} (h : xs[(id - 1).toNat]? = some x) : atI xs id = x := by unfold atI; rw [List.getD_eq_getElem?_getD, h]; rfl
def outB (xs : List In) (id : Int) : Prop := id < 1 ∨ id > xs.length
instance (xs : List In) (id : Int) : Decidable (outB xs id) := by unfold outB; infer_instance
/-! ### The book's row, some elements of which are places in view that may be written -/
def outE (ks : List Nat) (i : Nat) : Prop := ∀ k ∈ ks, i < k * 21 ∨ k * 21 + 21 ≤ i
structure RowI (ρ : Nm) (rs : List Reg) (w : World) (h : Nat) (xs : List In) (rest : List Value) (ks : List Nat) : Prop where
  row : RowV ρ rs w h 55 (insts xs ++ rest)
  free : ∀ i, outE ks i → OutR ρ rs h i
  wfar : ∀ (n : Nat) (r : Reg), rs[n]? = some r → r.wr = true → (ρ n).1 = h → ∃ m ∈ ks, (ρ n).2 = m * 21 ∧ r.cells.length = 21
theorem RowI.moved {ρ ρ' : Nm} {rs rs' : List Reg} {w w' : World} {h : Nat} {xs : List In} {rest : List Value} {ks : List Nat} (hr : RowI ρ rs w h xs rest ks) (hm : Moved ρ rs w ρ' rs' w') : RowI ρ' rs' w' h xs rest ks :=
  ⟨hr.row.moved hm, fun i hi => hm.out h i hr.row.lt (hr.free i hi), fun n r hn hw he => by
    rcases hm.shape n r hn hw with ⟨q, h1, h2, h3⟩ | h4
    · have hl := (List.getElem?_eq_some_iff.1 h1).1
      rw [hm.agree n hl] at he ⊢
      obtain ⟨m, h5, h6, h7⟩ := hr.wfar n q h1 h2 he
      exact ⟨m, h5, h6, h3.symm.trans h7⟩
    · rw [he] at h4
      have := hr.row.lt
      omega⟩
theorem RowI.below {ρ : Nm} {rs : List Reg} {w w' : World} {h : Nat} {xs : List In} {rest : List Value} {ks : List Nat} (hr : RowI ρ rs w h xs rest ks) (hb : Below w.heap.size w w') : RowI ρ rs w' h xs rest ks := ⟨hr.row.below hb, hr.free, hr.wfar⟩
theorem RowI.drew {ρ : Nm} {rs : List Reg} {w : World} {h : Nat} {xs : List In} {rest : List Value} {ks : List Nat} (hr : RowI ρ rs w h xs rest ks) : RowI ρ rs w.drew h xs rest ks := ⟨⟨hr.row.is⟩, hr.free, hr.wfar⟩
theorem RowI.start {w : World} {h : Nat} {xs : List In} {rest : List Value} (hb : Blk w h 55 (insts xs ++ rest).toArray) (ρ : Nm) (rs : List Reg) (hro : allRo rs = true) : RowI ρ rs w h xs rest [] :=
  have hf : ∀ (n : Nat) (r : Reg), rs[n]? = some r → r.wr = true → False := fun n r hn hw => wrS_allRo hro ⟨n, r, hn, hw, rfl⟩ (ρ := ρ)
  ⟨RowV.start hb ρ rs, fun _ _ n r hn hw _ => (hf n r hn hw).elim, fun n r hn hw _ => (hf n r hn hw).elim⟩
def roAll : List Reg → Nat → List Nat
  | [], _ => []
  | r :: rs, i => if r.wr then roAll rs (i + 1) else i :: roAll rs (i + 1)
theorem roAll_mem : ∀ (rs : List Reg) (i k : Nat) (r : Reg), rs[k]? = some r → r.wr = false → i + k ∈ roAll rs i
  | [], _, _, _, h, _ => by simp at h
  | q :: rs, _, 0, r, h, hw => by
    simp only [List.getElem?_cons_zero, Option.some.injEq] at h
    subst h
    simp [roAll, hw]
  | q :: rs, i, k + 1, r, h, hw => by
    simp only [List.getElem?_cons_succ] at h
    have ih := roAll_mem rs (i + 1) k r h hw
    rw [show i + 1 + k = i + (k + 1) by omega] at ih
    simp only [roAll]
    split
    · exact ih
    · exact List.mem_cons_of_mem _ ih
/-- an element that is not in view is as it was -/
theorem RowI.cell {ρ : Nm} {rs : List Reg} {w : World} {h : Nat} {xs : List In} {rest : List Value} {ks : List Nat} (hr : RowI ρ rs w h xs rest ks) {k : Nat} {x : In} (hx : xs[k]? = some x) (hk : k ∉ ks) (j : Nat) (v : Value) (hv : x.cells[j]? = some v) : w.cell? ⟨h, k * 21 + j, none⟩ = some v ∧ w.frozen? ⟨h, k * 21 + j, none⟩ = false ∧ h < w.heap.size := by
  obtain ⟨arr, h1, _, h3⟩ := hr.row.is
  have hj : j < 21 := by
    have := (List.getElem?_eq_some_iff.1 hv).1
    rw [In.cells_length] at this
    exact this
  refine ⟨?_, ?_, hr.row.lt⟩
  · rw [cell_of_row w h (k * 21 + j) arr _ (0, 0) h1, h3 _ (hr.free _ (fun m hm => by
      have hne : m ≠ k := fun e => hk (e ▸ hm)
      rcases Nat.lt_or_ge m k with hl | hl
      · right; have : m * 21 + 21 ≤ k * 21 := by omega
        omega
      · left; have : k * 21 + 21 ≤ m * 21 := by omega
        omega))]
    have := insts_at xs k x hx j v hv
    rw [List.getElem?_append_left (by exact (List.getElem?_eq_some_iff.1 this).1)]
    exact this
  · exact Blk.frozen (t := 55) (cs := arr) h1 _
section
variable {P : Program} {Q : Exit → Act → World → Prop} {T : List Nat} {c : Cfg} {ρ : Nm} {w0 w : World}
/-- an element comes into view behind a call that tells its place, to be written -/
theorem Back.elem {h : Nat} {xs : List In} {rest : List Value} {ks : List Nat} (k N : Nat) (hr : RowI ρ c.rs w h xs rest ks) {N0 : Nat} {ρb : Nm} (hag : Ag N0 ρb ρ c.rs) (hN : c.rs.length = N) (hk : k < xs.length) (hks : k ∉ ks) (hT : h ∈ T ∨ w0.heap.size ≤ h) (hR : Rel T w0 ρ c.rs w) (hu : (undR N c.rs && undL N c.tmps) = true)
    (l : List Nat) (hl : roAll c.rs 0 = l) (hidx : ∀ k ∈ l, k < N0 ∧ (ρb k).1 ≠ h) {v : Value} (hv : v = .pointer (some ⟨h, k * 21, none⟩))
    (next : ∀ x ρ', xs[k]? = some x → (∀ n, n < N0 → ρ' n = ρb n) → ρ' N = (h, k * 21) → Ag (N + 1) ρ' ρ' (c.rs ++ [⟨x.cells.map .v, true⟩]) → Rel T w0 ρ' (c.rs ++ [⟨x.cells.map .v, true⟩]) w → RowI ρ' (c.rs ++ [⟨x.cells.map .v, true⟩]) w h xs rest (k :: ks) → At P Q (nextC c (.ptr N 0) (c.rs ++ [⟨x.cells.map .v, true⟩])) ρ' w) : Back P Q c ρ (.returned v) w := by
  subst hN
  have hro : ∀ (n : Nat) (r : Reg), c.rs[n]? = some r → (ρ n).1 = h → ∃ m ∈ ks, (ρ n).2 = m * 21 ∧ r.cells.length = 21 := fun n r hn he => by
    cases hw : r.wr with
    | true => exact hr.wfar n r hn hw he
    | false =>
      have := roAll_mem c.rs 0 n r hn hw
      rw [hl, Nat.zero_add] at this
      obtain ⟨h1, h2⟩ := hidx n this
      rw [hag.at_ n h1] at he
      exact (h2 he).elim
  have hx : xs[k]? = some xs[k] := List.getElem?_eq_getElem hk
  simp only [Bool.and_eq_true] at hu
  have hap : ∀ m ∈ ks, k * 21 + 21 ≤ m * 21 ∨ m * 21 + 21 ≤ k * 21 := fun m hm => by
    have hne : m ≠ k := fun e => hks (e ▸ hm)
    omega
  have hlen : (List.map LV.v xs[k].cells).length = 21 := by rw [List.length_map, In.cells_length]
  obtain ⟨ρ', ha, hn, hR'⟩ := hR.open_ hu.1 h (k * 21) (xs[k].cells.map .v) (denV_und _ _) true hr.row.lt (fun j v hv => by
      rw [List.getElem?_map] at hv
      cases hj : xs[k].cells[j]? with
      | none => rw [hj] at hv; cases hv
      | some u =>
        rw [hj] at hv
        injection hv with hv
        rw [← hv]
        exact (hr.cell hx hks j u hj).1)
    (fun _ => ⟨hT, fun i hi => by
      rw [hlen] at hi
      exact (hr.cell hx hks i _ (List.getElem?_eq_getElem (by rw [In.cells_length]; exact hi))).2.1⟩)
    (fun n r hn hw he => by
      obtain ⟨m, hm, e1, e2⟩ := hro n r hn he
      rw [e1, e2, hlen]
      rcases hap m hm with h1 | h1 <;> omega)
  refine ⟨.ptr c.rs.length 0, _, ρ', ?_, act_ext ha hu.2, next xs[k] ρ' hx (fun n hn0 => (ha n (Nat.lt_of_lt_of_le hn0 hag.le)).trans (hag.at_ n hn0)) hn ⟨Agree.refl _ _, by simp⟩ hR' ⟨hr.row.open_ ha _, fun i hi => ?_, fun n r hr' hw he => ?_⟩⟩
  · rw [hv]
    simp only [LV.den, Nm.at_, hn, Nat.add_zero]
  · intro n r hr' hw he
    rcases Nat.lt_or_ge n c.rs.length with hl | hl
    · rw [List.getElem?_append_left hl] at hr'
      rw [ha n hl] at he ⊢
      exact hr.free i (fun m hm => hi m (List.mem_cons_of_mem _ hm)) n r hr' hw he
    · have : n = c.rs.length := by
        rcases Nat.lt_or_ge n (c.rs.length + 1) with h0 | h0
        · omega
        · rw [List.getElem?_eq_none (by simp; omega)] at hr'; cases hr'
      subst this
      simp only [List.getElem?_append_right (Nat.le_refl _), Nat.sub_self, List.getElem?_cons_zero, Option.some.injEq] at hr'
      rw [← hr', hn]
      simp only [hlen]
      exact hi k (List.mem_cons_self ..)
  · rcases Nat.lt_or_ge n c.rs.length with hl | hl
    · rw [List.getElem?_append_left hl] at hr'
      rw [ha n hl] at he ⊢
      obtain ⟨m, h5, h6⟩ := hr.wfar n r hr' hw he
      exact ⟨m, List.mem_cons_of_mem _ h5, h6⟩
    · have : n = c.rs.length := by
        rcases Nat.lt_or_ge n (c.rs.length + 1) with h0 | h0
        · omega
        · rw [List.getElem?_eq_none (by simp; omega)] at hr'; cases hr'
      subst this
      simp only [List.getElem?_append_right (Nat.le_refl _), Nat.sub_self, List.getElem?_cons_zero, Option.some.injEq] at hr'
      exact ⟨k, List.mem_cons_self .., by rw [hn], by rw [← hr']; exact hlen⟩
end
/-- the row when no element is in view any more: what stands in view is written into the list -/
theorem RowI.close0 {ρ : Nm} {rs : List Reg} {w : World} {h : Nat} {xs : List In} {rest : List Value} (hr : RowI ρ rs w h xs rest []) : Blk w h 55 (insts xs ++ rest).toArray := by
  obtain ⟨arr, h1, _, h3⟩ := hr.row.is
  have : arr = (insts xs ++ rest).toArray := by
    apply Array.ext_getElem?
    intro i
    rw [h3 i (hr.free i (fun m hm => by cases hm))]
    simp
  rw [← this]
  exact h1
theorem blk_in {w : World} {h : Nat} {arr : Array Value} (h1 : w.heap[h]? = some (.cells arr 55 (0, 0))) {xs : List In} {rest : List Value} {k : Nat} (hk : k < xs.length) {y : In} (hy : ∀ (j : Nat) (v : Value), y.cells[j]? = some v → w.cell? ⟨h, k * 21 + j, none⟩ = some v) (i : Nat) (hi : k * 21 ≤ i) (hi' : i < k * 21 + 21) : arr[i]? = (insts (xs.set k y) ++ rest)[i]? := by
  have hj : i - k * 21 < y.cells.length := by rw [In.cells_length]; omega
  have h4 := hy (i - k * 21) _ (List.getElem?_eq_getElem hj)
  rw [cell_of_row w h _ arr _ (0, 0) h1, show k * 21 + (i - k * 21) = i by omega] at h4
  have h5 := insts_at (xs.set k y) k y (by rw [List.getElem?_set]; simp [hk]) (i - k * 21) _ (List.getElem?_eq_getElem hj)
  rw [show k * 21 + (i - k * 21) = i by omega] at h5
  rw [h4, List.getElem?_append_left (by exact (List.getElem?_eq_some_iff.1 h5).1), h5]
theorem insts_set_other (xs : List In) (rest : List Value) (k : Nat) (y : In) (i : Nat) (hk : k < xs.length) (hi : i < k * 21 ∨ k * 21 + 21 ≤ i) : (insts (xs.set k y) ++ rest)[i]? = (insts xs ++ rest)[i]? := by
  rw [← insts_overlay xs k y rest hk]
  unfold overlay
  rw [In.cells_length]
  rcases hi with hi | hi
  · rw [List.getElem?_append_left (by rw [List.length_append, List.length_take, In.cells_length]; have := insts_length xs; rw [List.length_append]; omega)]
    rw [List.getElem?_append_left (by rw [List.length_take]; have := insts_length xs; rw [List.length_append]; omega), List.getElem?_take]
    simp [hi]
  · have hl : (List.take (k * 21) (insts xs ++ rest)).length = k * 21 := by rw [List.length_take]; have := insts_length xs; rw [List.length_append]; omega
    rw [List.getElem?_append_right (by rw [List.length_append, hl, In.cells_length]; omega), List.length_append, hl, In.cells_length, List.getElem?_drop]
    congr 1
    omega
theorem RowI.close1 {ρ : Nm} {rs : List Reg} {w : World} {h : Nat} {xs : List In} {rest : List Value} {k : Nat} (hr : RowI ρ rs w h xs rest [k]) (hk : k < xs.length) (y : In) (hy : ∀ (j : Nat) (v : Value), y.cells[j]? = some v → w.cell? ⟨h, k * 21 + j, none⟩ = some v) : Blk w h 55 (insts (xs.set k y) ++ rest).toArray := by
  obtain ⟨arr, h1, _, h3⟩ := hr.row.is
  have : arr = (insts (xs.set k y) ++ rest).toArray := by
    apply Array.ext_getElem?
    intro i
    simp only [List.getElem?_toArray]
    by_cases hi : k * 21 ≤ i ∧ i < k * 21 + 21
    · exact blk_in h1 hk hy i hi.1 hi.2
    · rw [h3 i (hr.free i (fun m hm => by simp only [List.mem_singleton] at hm; subst hm; omega)), insts_set_other xs rest k y i hk (by omega)]
  rw [← this]
  exact h1
theorem RowI.close2 {ρ : Nm} {rs : List Reg} {w : World} {h : Nat} {xs : List In} {rest : List Value} {k m : Nat} (hr : RowI ρ rs w h xs rest [m, k]) (hk : k < xs.length) (hm : m < xs.length) (hne : k ≠ m) (y z : In) (hy : ∀ (j : Nat) (v : Value), y.cells[j]? = some v → w.cell? ⟨h, k * 21 + j, none⟩ = some v)
    (hz : ∀ (j : Nat) (v : Value), z.cells[j]? = some v → w.cell? ⟨h, m * 21 + j, none⟩ = some v) : Blk w h 55 (insts ((xs.set k y).set m z) ++ rest).toArray := by
  obtain ⟨arr, h1, _, h3⟩ := hr.row.is
  have : arr = (insts ((xs.set k y).set m z) ++ rest).toArray := by
    apply Array.ext_getElem?
    intro i
    simp only [List.getElem?_toArray]
    by_cases hi : m * 21 ≤ i ∧ i < m * 21 + 21
    · exact blk_in h1 (xs := xs.set k y) (rest := rest) (by rw [List.length_set]; exact hm) hz i hi.1 hi.2
    · rw [insts_set_other (xs.set k y) rest m z i (by rw [List.length_set]; exact hm) (by omega)]
      by_cases hi2 : k * 21 ≤ i ∧ i < k * 21 + 21
      · exact blk_in h1 hk hy i hi2.1 hi2.2
      · rw [h3 i (hr.free i (fun q hq => by simp only [List.mem_cons, List.not_mem_nil, or_false] at hq; rcases hq with rfl | rfl <;> omega)), insts_set_other xs rest k y i hk (by omega)]
  rw [← this]
  exact h1
/-- an element written -/
def updI (xs : List In) (id : Int) (f : In → In) : List In := xs.set (id - 1).toNat (f (atI xs id))
theorem bk_cell {ρ ρb : Nm} {n k N0 : Nat} {w : World} {T : List Nat} {w0 : World} {rs : List Reg} {h : Nat} (hR : Rel T w0 ρ rs w) (hag : Ag N0 ρb ρ rs) (e0 : ρb n = (h, k * 21)) (y : In) (hc : rs[n]? = some ⟨y.cells.map .v, true⟩) (j : Nat) (v : Value) (hv : y.cells[j]? = some v) (hn : n < N0 := by omega) : w.cell? ⟨h, k * 21 + j, none⟩ = some v := by
  have e := (hag.at_ n hn).trans e0
  have := hR.cell n _ hc j (.v v) (by simp only [List.getElem?_map, hv, Option.map_some])
  simp only [Nm.at_, e, LV.den] at this
  exact this
end Go.Proofs.Ytnfgndapalkbcaa
