/-
  A row of instructions that is sorted in place: two elements come into view; swaps.
  A row of instructions that is sorted in place: insertion, rotation.
  A row of instructions that is sorted in place: rotation.
  A row of instructions that is sorted in place: symmetric merging.
  A row of instructions that is sorted in place: merging of one that stands behind.
  A row of instructions that is sorted in place: symmetric merging, whole.
  A row of instructions that is sorted in place, stably.
  slices.SortStableFunc at instructions.
-/
import Derived.Test.YtnfgndapalkbcaaRowI
import Derived.Test.YtnfgndapalkbcaaSimO
import Derived.Test.YtnfgndapalkbcaaSortP
namespace Go.Proofs.Ytnfgndapalkbcaa
section
open Go Go.RowKit
attribute [local irreducible] run goO goN ordGoN eqlOf eqlOper eqlOfO cellL leaveK someK nextK nextT nextOT nextOD loopBody loopRest loopK fillJ tmplOf tmplJ mergeT At AtO drawOk ordOf gateOf callC callO topOp topO idxOf appOf storeOf clearOf sliceOf calleeOf calleeO topQ idxQ newRowOf resL stepOp seek

section
variable {P : Program} {Q : Exit → Act → World → Prop} {T : List Nat} {c : Cfg} {ρ : Nm} {w0 w : World}
/-- an element of a row of one's own comes into view, to be written -/
theorem sim_seeI {h : Nat} {xs : List In} {rest : List Value} {ks : List Nat} (k N : Nat) (hr : RowI ρ c.rs w h xs rest ks) {N0 : Nat} {ρb : Nm} (hag : Ag N0 ρb ρ c.rs) (hN : c.rs.length = N) (hk : k < xs.length) (hks : k ∉ ks) (hT : h ∈ T ∨ w0.heap.size ≤ h) (hR : Rel T w0 ρ c.rs w) (hu : (undR N c.rs && undL N c.tmps) = true)
    (l : List Nat) (hl : roAll c.rs 0 = l) (hidx : ∀ k ∈ l, k < N0 ∧ (ρb k).1 ≠ h)
    (next : ∀ x ρ', xs[k]? = some x → (∀ n, n < N0 → ρ' n = ρb n) → ρ' N = (h, k * 21) → Ag (N + 1) ρ' ρ' (c.rs ++ [⟨x.cells.map .v, true⟩]) → Rel T w0 ρ' (c.rs ++ [⟨x.cells.map .v, true⟩]) w → RowI ρ' (c.rs ++ [⟨x.cells.map .v, true⟩]) w h xs rest (k :: ks) → At P Q ⟨c.k, c.tmps, c.rs ++ [⟨x.cells.map .v, true⟩]⟩ ρ' w) : At P Q c ρ w := by
  subst hN
  have hro : ∀ (n : Nat) (r : Reg), c.rs[n]? = some r → (ρ n).1 = h → ∃ m ∈ ks, (ρ n).2 = m * 21 ∧ r.cells.length = 21 := fun n r hn he => by
    cases hw : r.wr with
    | true => exact hr.wfar n r hn hw he
    | false =>
      have := roAll_mem c.rs 0 n r hn hw
      rw [hl, Nat.zero_add] at this
      obtain ⟨h1, h2⟩ := hidx n this
      rw [hag.at_ n h1] at he
      exact (h2 he).elim
  have hx : xs[k]? = some xs[k] := List.getElem?_eq_getElem hk
  simp only [Bool.and_eq_true] at hu
  have hap : ∀ m ∈ ks, k * 21 + 21 ≤ m * 21 ∨ m * 21 + 21 ≤ k * 21 := fun m hm => by
    have hne : m ≠ k := fun e => hks (e ▸ hm)
    omega
  have hlen : (List.map LV.v xs[k].cells).length = 21 := by rw [List.length_map, In.cells_length]
  obtain ⟨ρ', ha, hn, hR'⟩ := hR.open_ hu.1 h (k * 21) (xs[k].cells.map .v) (denV_und _ _) true hr.row.lt (fun j v hv => by
      rw [List.getElem?_map] at hv
      cases hj : xs[k].cells[j]? with
      | none => rw [hj] at hv; cases hv
      | some u =>
        rw [hj] at hv
        injection hv with hv
        rw [← hv]
        exact (hr.cell hx hks j u hj).1)
    (fun _ => ⟨hT, fun i hi => by
      rw [hlen] at hi
      exact (hr.cell hx hks i _ (List.getElem?_eq_getElem (by rw [In.cells_length]; exact hi))).2.1⟩)
    (fun n r hn hw he => by
      obtain ⟨m, hm, e1, e2⟩ := hro n r hn he
      rw [e1, e2, hlen]
      rcases hap m hm with h1 | h1 <;> omega)
  have := next xs[k] ρ' hx (fun n hn0 => (ha n (Nat.lt_of_lt_of_le hn0 hag.le)).trans (hag.at_ n hn0)) hn ⟨Agree.refl _ _, by simp⟩ hR' ⟨hr.row.open_ ha _, fun i hi => ?_, fun n r hr' hw he => ?_⟩
  · unfold At at this ⊢
    have e := act_ext (ρ := ρ) (ρ' := ρ') ha hu.2
    rw [← e]
    exact this
  · intro n r hr' hw he
    rcases Nat.lt_or_ge n c.rs.length with hl | hl
    · rw [List.getElem?_append_left hl] at hr'
      rw [ha n hl] at he ⊢
      exact hr.free i (fun m hm => hi m (List.mem_cons_of_mem _ hm)) n r hr' hw he
    · have : n = c.rs.length := by
        rcases Nat.lt_or_ge n (c.rs.length + 1) with h0 | h0
        · omega
        · rw [List.getElem?_eq_none (by simp; omega)] at hr'; cases hr'
      subst this
      simp only [List.getElem?_append_right (Nat.le_refl _), Nat.sub_self, List.getElem?_cons_zero, Option.some.injEq] at hr'
      rw [← hr', hn]
      simp only [hlen]
      exact hi k (List.mem_cons_self ..)
  · rcases Nat.lt_or_ge n c.rs.length with hl | hl
    · rw [List.getElem?_append_left hl] at hr'
      rw [ha n hl] at he ⊢
      obtain ⟨m, h5, h6⟩ := hr.wfar n r hr' hw he
      exact ⟨m, List.mem_cons_of_mem _ h5, h6⟩
    · have : n = c.rs.length := by
        rcases Nat.lt_or_ge n (c.rs.length + 1) with h0 | h0
        · omega
        · rw [List.getElem?_eq_none (by simp; omega)] at hr'; cases hr'
      subst this
      simp only [List.getElem?_append_right (Nat.le_refl _), Nat.sub_self, List.getElem?_cons_zero, Option.some.injEq] at hr'
      exact ⟨k, List.mem_cons_self .., by rw [hn], by rw [← hr']; exact hlen⟩
end
/-! ### What stays through swaps -/
section
variable {α : Type} {p : α → Prop}
theorem swp_all {xs : List α} (h : ∀ x ∈ xs, p x) (i j : Nat) : ∀ x ∈ swp xs i j, p x := by
  unfold swp
  split
  · rename_i x y hx hy
    intro z hz
    rcases List.mem_or_eq_of_mem_set hz with hz | rfl
    · rcases List.mem_or_eq_of_mem_set hz with hz | rfl
      · exact h z hz
      · exact h z (List.mem_of_getElem? hy)
    · exact h z (List.mem_of_getElem? hx)
  · exact h
theorem insJ_len (lt : α → α → Bool) (a : Nat) : ∀ (f : Nat) (xs : List α) (j : Nat), (insJ lt a f xs j).length = xs.length
  | 0, _, _ => rfl
  | f + 1, xs, j => by
    unfold insJ
    split
    · rw [insJ_len lt a f, swp_len]
    · rfl
theorem insJ_all (lt : α → α → Bool) (a : Nat) : ∀ (f : Nat) (xs : List α) (j : Nat), (∀ x ∈ xs, p x) → ∀ x ∈ insJ lt a f xs j, p x
  | 0, _, _, h => h
  | f + 1, xs, j, h => by
    unfold insJ
    split
    · exact insJ_all lt a f _ _ (swp_all h _ _)
    · exact h
theorem insM_len (lt : α → α → Bool) (xs : List α) (a : Nat) : ∀ n, (insM lt xs a n).length = xs.length
  | 0 => rfl
  | n + 1 => by rw [insM, insJ_len, insM_len lt xs a n]
theorem insM_all (lt : α → α → Bool) (xs : List α) (a : Nat) (h : ∀ x ∈ xs, p x) : ∀ n, ∀ x ∈ insM lt xs a n, p x
  | 0 => h
  | n + 1 => insJ_all lt a _ _ _ (insM_all lt xs a h n)
theorem swapM_all (xs : List α) (a b : Nat) (h : ∀ x ∈ xs, p x) : ∀ n, ∀ x ∈ swapM xs a b n, p x
  | 0 => h
  | n + 1 => swp_all (swapM_all xs a b h n) _ _
theorem rotM_len (m : Nat) : ∀ (f : Nat) (xs : List α) (i j : Nat), (rotM m f xs i j).length = xs.length
  | 0, _, _, _ => rfl
  | f + 1, xs, i, j => by
    unfold rotM
    split
    · exact swapM_len ..
    · split
      · rw [rotM_len m f, swapM_len]
      · rw [rotM_len m f, swapM_len]
theorem rotM_all (m : Nat) : ∀ (f : Nat) (xs : List α) (i j : Nat), (∀ x ∈ xs, p x) → ∀ x ∈ rotM m f xs i j, p x
  | 0, _, _, _, h => h
  | f + 1, xs, i, j, h => by
    unfold rotM
    split
    · exact swapM_all _ _ _ h _
    · split
      · exact rotM_all m f _ _ _ (swapM_all _ _ _ h _)
      · exact rotM_all m f _ _ _ (swapM_all _ _ _ h _)
theorem shUp_len (xs : List α) (a : Nat) : ∀ n, (shUp xs a n).length = xs.length
  | 0 => rfl
  | n + 1 => by rw [shUp, swp_len, shUp_len xs a n]
theorem shUp_all (xs : List α) (a : Nat) (h : ∀ x ∈ xs, p x) : ∀ n, ∀ x ∈ shUp xs a n, p x
  | 0 => h
  | n + 1 => swp_all (shUp_all xs a h n) _ _
theorem shDn_len (xs : List α) (a : Nat) : ∀ n, (shDn xs a n).length = xs.length
  | 0 => rfl
  | n + 1 => by rw [shDn, swp_len, shDn_len xs a n]
theorem shDn_all (xs : List α) (a : Nat) (h : ∀ x ∈ xs, p x) : ∀ n, ∀ x ∈ shDn xs a n, p x
  | 0 => h
  | n + 1 => swp_all (shDn_all xs a h n) _ _
theorem symM_len (lt : α → α → Bool) : ∀ (f : Nat) (xs : List α) (a m b : Nat), (symM lt f xs a m b).length = xs.length
  | 0, _, _, _, _ => rfl
  | f + 1, xs, a, m, b => by
    unfold symM
    split
    · exact shUp_len ..
    · split
      · exact shDn_len ..
      · dsimp only
        repeat' split
        all_goals simp only [symM_len lt f, rotM_len]
theorem symM_all (lt : α → α → Bool) : ∀ (f : Nat) (xs : List α) (a m b : Nat), (∀ x ∈ xs, p x) → ∀ x ∈ symM lt f xs a m b, p x
  | 0, _, _, _, _, h => h
  | f + 1, xs, a, m, b, h => by
    unfold symM
    split
    · exact shUp_all _ _ h _
    · split
      · exact shDn_all _ _ h _
      · dsimp only
        repeat' split
        all_goals first | exact h | exact rotM_all _ _ _ _ _ h | exact symM_all lt f _ _ _ _ h | exact symM_all lt f _ _ _ _ (rotM_all _ _ _ _ _ h) | exact symM_all lt f _ _ _ _ (symM_all lt f _ _ _ _ h) | exact symM_all lt f _ _ _ _ (symM_all lt f _ _ _ _ (rotM_all _ _ _ _ _ h))
end
/-- what a function leaves that only writes the row -/
def RowPost (w : World) (h : Nat) (rest : List Value) (xs' : List In) (e : Ending) (w' : World) : Prop := e = .returned (.tuple #[]) ∧ Blk w' h 55 (insts xs' ++ rest).toArray ∧ Kept (· ∈ [h]) w w'
theorem swp_get {xs : List In} {i j : Nat} {x y : In} (hx : xs[i]? = some x) (hy : xs[j]? = some y) : (xs.set i y).set j x = swp xs i j := by
  unfold swp
  rw [hx, hy]
/-- a function that compares -/
def CmpAll (g : FuncId) (caps : Array Value) (cmp : In → In → Int) : Prop :=
  ∀ (a b : In) (w1 : World), a.ok → b.ok → Calls Try.prog g (#[a.val, b.val] ++ caps) w1 fun e w2 => e = .returned (.int .i64 (cmp a b)) ∧ Below w1.heap.size w1 w2
def ltC (cmp : In → In → Int) (x y : In) : Bool := decide (cmp x y < 0)
set_option maxRecDepth 100000 in
theorem swapRange_any (h len cap : Nat) (xs : List In) (rest : List Value) (a b n : Nat) (fv : Value) (ha : a + n ≤ len) (hb : b + n ≤ len) (hab : a + n ≤ b ∨ b + n ≤ a) (hl : xs.length = len) (hmax : len ≤ 1000000) (w : World) (hblk : Blk w h 55 (insts xs ++ rest).toArray) :
    Calls Try.prog 103 #[.slice (some ⟨h, 0, none⟩) len cap, .int .i64 a, .int .i64 b, .int .i64 n, fv] w (RowPost w h rest (swapM xs a b n)) := by
  refine sim_enter Try.func103 ρ0 [.v (.slice (some ⟨h, 0, none⟩) len cap), LI a, LI b, LI n, .v fv] [] (by kernel_rfl) rfl ?_
  have hR := Rel.start [h] w ρ0
  have hrow : RowI ρ0 [] w h xs rest [] := .start hblk _ _ rfl
  refine sim_run 5 [] hR (by kernel_rfl) trivial (fun ρ100 w100 hm100 hR100 => ?_)
  have hrow := hrow.moved hm100
  
  have hrow := hrow.close0
  refine sim_loop (ι := Nat) (T := [h]) (w0 := w) 0 [0, 1, 2, 3] (fun k => [(10, LI k)]) (fun _ => []) (fun k w1 => k ≤ n ∧ Blk w1 h 55 (insts (swapM xs a b k) ++ rest).toArray) (fun k => n - k) (by kernel_rfl) (by kernel_rfl) (hR100.cast (by kernel_rfl)) ⟨Nat.zero_le _, hrow⟩ ?_
  iterate 6 (try clear hrow)
  clear hR100 hm100
  rintro k d w2 hR2 ⟨hk, hblk⟩
  have hlen := swapM_len xs a b k
  obtain ⟨ys, hys⟩ : ∃ ys, swapM xs a b k = ys := ⟨_, rfl⟩
  rw [hys] at hblk hlen
  have hrow : RowI ρ100 [] w2 h ys rest [] := .start hblk _ _ rfl
  have hag := hR2.ag_ 0 (by kernel_rfl)
  by_cases hlt : k < n
  · refine sim_seeI (a + k) 0 hrow hag (by kernel_rfl) (by omega) (by simp) (.inl (by simp)) hR2 (by kernel_rfl) [] (by kernel_rfl) (by simp) (fun x ρ1 hx ha1 e1 hag hR1 hrow => ?_)
    refine sim_seeI (b + k) 1 hrow hag (by kernel_rfl) (by omega) (by simp; omega) (.inl (by simp)) hR1 (by kernel_rfl) [] (by kernel_rfl) (by simp) (fun y ρ2 hy ha2 e2 hag hR3 hrow => ?_)
    have e1 := (ha2 0 (by omega)).trans e1
    refine sim_run 7 [] hR3 (by kernel_rfl) trivial (fun ρ200 w200 hm200 hR200 => ?_)
    have hag := hag.moved hm200
    have hrow := hrow.moved hm200
    refine sim_know 13 (decide ((↑k : Int) < (↑n : Int))) true (by kernel_rfl) (decide_eq_true (by omega)) ?_
    refine sim_run 4 [] hR200 (by kernel_rfl) trivial (fun ρ201 w201 hm201 hR201 => ?_)
    have hag := hag.moved hm201
    have hrow := hrow.moved hm201
    refine sim_draw [] (by kernel_rfl) (by kernel_rfl) hR201 (fun hR202 => ?_)
    have hrow := hrow.drew
    refine sim_ordN 12 [⟨3, 3, LI (IntKind.i64.wrap ((↑a : Int) + (↑k : Int))), LI ((↑a : Int) + (↑k : Int))⟩, ⟨3, 7, LI (IntKind.i64.wrap ((↑b : Int) + (↑k : Int))), LI ((↑b : Int) + (↑k : Int))⟩, ⟨3, 11, LI (IntKind.i64.wrap ((↑b : Int) + (↑k : Int))), LI ((↑b : Int) + (↑k : Int))⟩] hR202 (by kernel_rfl) ⟨eqi (IntWalk.i64_in _ (by omega)), eqi (IntWalk.i64_in _ (by omega)), eqi (IntWalk.i64_in _ (by omega)), trivial⟩ (fun ρ203 w203 hm203 hR203 => ?_)
    have hag := hag.moved hm203
    have hrow := hrow.moved hm203
    refine sim_ord_index (.v (.slice (some ⟨h, 0, none⟩) len cap)) len 21 ((b : Int) + k) 1 0 (by kernel_rfl) (by omega) (by omega) rfl hR203 (by simp only [Nm.at_, hag.at_ 1 (by omega), e2]; congr 1; omega) (fun hR204 => ?_)
    refine sim_ordN 5 [⟨3, 17, LI (IntKind.i64.wrap ((↑a : Int) + (↑k : Int))), LI ((↑a : Int) + (↑k : Int))⟩] hR204 (by kernel_rfl) ⟨eqi (IntWalk.i64_in _ (by omega)), trivial⟩ (fun ρ205 w205 hm205 hR205 => ?_)
    have hag := hag.moved hm205
    have hrow := hrow.moved hm205
    refine sim_ord_index (.v (.slice (some ⟨h, 0, none⟩) len cap)) len 21 ((a : Int) + k) 0 0 (by kernel_rfl) (by omega) (by omega) rfl hR205 (by simp only [Nm.at_, hag.at_ 0 (by omega), e1]; congr 1; omega) (fun hR206 => ?_)
    refine sim_ordN 1 [] hR206 (by kernel_rfl) trivial (fun ρ207 w207 hm207 hR207 => ?_)
    have hag := hag.moved hm207
    have hrow := hrow.moved hm207
    refine sim_ord_index (.v (.slice (some ⟨h, 0, none⟩) len cap)) len 21 ((a : Int) + k) 0 0 (by kernel_rfl) (by omega) (by omega) rfl hR207 (by simp only [Nm.at_, hag.at_ 0 (by omega), e1]; congr 1; omega) (fun hR208 => ?_)
    refine sim_ordN 1 [] hR208 (by kernel_rfl) trivial (fun ρ209 w209 hm209 hR209 => ?_)
    have hag := hag.moved hm209
    have hrow := hrow.moved hm209
    refine sim_ord_index (.v (.slice (some ⟨h, 0, none⟩) len cap)) len 21 ((b : Int) + k) 1 0 (by kernel_rfl) (by omega) (by omega) rfl hR209 (by simp only [Nm.at_, hag.at_ 1 (by omega), e2]; congr 1; omega) (fun hR210 => ?_)
    refine sim_ordN 1 [] hR210 (by kernel_rfl) trivial (fun ρ211 w211 hm211 hR211 => ?_)
    have hag := hag.moved hm211
    have hrow := hrow.moved hm211
    refine sim_ord_endR hR211 (by kernel_rfl) (fun hR212 => ?_)
    refine sim_run 6 [⟨2, 1, LI (IntKind.i64.wrap ((↑k : Int) + 1)), LI ((↑k : Int) + 1)⟩] hR212 (by kernel_rfl) ⟨eqi (IntWalk.i64_in _ (by omega)), trivial⟩ (fun ρ213 w213 hm213 hR213 => ?_)
    have hag := hag.moved hm213
    have hrow := hrow.moved hm213
    
    refine sim_again (k + 1) (by kernel_rfl) (by show n - (k + 1) < n - k; omega) (by kernel_rfl) (by kernel_rfl) (by kernel_rfl) (fun m hm => absurd hm (by simp)) hR213 (by kernel_rfl) (by kernel_rfl) ⟨hlt, ?_⟩
    rw [swapM, hys, ← swp_get hx hy]
    exact hrow.close2 (by omega) (by omega) (by omega) y x (bk_cell hR213 hag e1 y (by kernel_rfl)) (bk_cell hR213 hag e2 x (by kernel_rfl))
  · refine sim_run 7 [] hR2 (by kernel_rfl) trivial (fun ρ300 w300 hm300 hR300 => ?_)
    have hrow := hrow.moved hm300
    have hag := hag.moved hm300
    refine sim_know 13 (decide ((↑k : Int) < (↑n : Int))) false (by kernel_rfl) (decide_eq_false (by omega)) ?_
    refine sim_run 1 [] hR300 (by kernel_rfl) trivial (fun ρ301 w301 hm301 hR301 => ?_)
    have hrow := hrow.moved hm301
    have hag := hag.moved hm301
    refine sim_leave (by kernel_rfl) ?_
    refine sim_end (.tup []) hR301 (by kernel_rfl) (by kernel_rfl) ?_
    
    obtain rfl : k = n := by omega
    rw [hys]
    exact ⟨rfl, hrow.close0, hR301.keeps.kept⟩
end

section
open Go Go.RowKit
attribute [local irreducible] run goO goN ordGoN eqlOf eqlOper eqlOfO cellL leaveK someK nextK nextT nextOT nextOD loopBody loopRest loopK fillJ tmplOf tmplJ mergeT At AtO drawOk ordOf gateOf callC callO topOp topO idxOf appOf storeOf clearOf sliceOf calleeOf calleeO topQ idxQ newRowOf resL stepOp seek

set_option maxRecDepth 100000 in
theorem set_same {α : Type} {xs : List α} {k : Nat} {x : α} (h : xs[k]? = some x) : xs.set k x = xs := by
  apply List.ext_getElem?
  intro i
  rw [List.getElem?_set]
  split
  · rename_i e
    subst e
    have := (List.getElem?_eq_some_iff.1 h).1
    rw [if_pos this, h]
  · rfl
theorem insJ_at (lt : In → In → Bool) (a f : Nat) (zs : List In) (j : Nat) (h : ¬(a < j ∧ ltAt lt zs j (j - 1) = true)) : insJ lt a f zs j = zs := by
  cases f with
  | zero => rfl
  | succ f => rw [insJ, if_neg h]
set_option maxHeartbeats 4000000 in
theorem insertion_any (g : FuncId) (hg : Enters Try.prog g) (caps : Array Value) (cmp : In → In → Int) (hcmp : CmpAll g caps cmp) (h len cap : Nat) (xs : List In) (rest : List Value) (hok : ∀ x ∈ xs, x.ok) (a b : Nat) (hb : b ≤ len) (ha : a ≤ len) (hl : xs.length = len) (hmax : len ≤ 1000000) (w : World) (hblk : Blk w h 55 (insts xs ++ rest).toArray) :
    Calls Try.prog 75 #[.slice (some ⟨h, 0, none⟩) len cap, .int .i64 a, .int .i64 b, .func (.func g) #[] caps] w (RowPost w h rest (insM (ltC cmp) xs a (b - a - 1))) := by
  refine sim_enter Try.func75 ρ0 [.v (.slice (some ⟨h, 0, none⟩) len cap), LI a, LI b, .v (.func (.func g) #[] caps)] [] (by kernel_rfl) rfl ?_
  have hR := Rel.start [h] w ρ0
  have hrow : RowI ρ0 [] w h xs rest [] := .start hblk _ _ rfl
  refine sim_run 7 [⟨0, 1, LI (IntKind.i64.wrap ((↑a : Int) + 1)), LI ((↑a : Int) + 1)⟩] (hR.cast (by kernel_rfl)) (by kernel_rfl) ⟨eqi (IntWalk.i64_in _ (by omega)), trivial⟩ (fun ρ100 w100 hm100 hR100 => ?_)
  have hrow := hrow.moved (hm100.castL (by kernel_rfl))
  
  have hrow := hrow.close0
  refine sim_loop (ι := Nat) (T := [h]) (w0 := w) 0 [0, 1, 2, 3] (fun k => [(8, LI ((a : Int) + 1 + k))]) (fun _ => []) (fun k w1 => k ≤ b - a - 1 ∧ Blk w1 h 55 (insts (insM (ltC cmp) xs a k) ++ rest).toArray) (fun k => b - a - k) (by kernel_rfl) (by kernel_rfl) (hR100.cast (by kernel_rfl)) ⟨Nat.zero_le _, hrow⟩ ?_
  iterate 6 (try clear hrow)
  clear hR100 hm100
  rintro k d w2 hR2 ⟨hk, hblk⟩
  have hlen := insM_len (ltC cmp) xs a k
  have hall := insM_all (ltC cmp) xs a hok k
  obtain ⟨ys, hys⟩ : ∃ ys, insM (ltC cmp) xs a k = ys := ⟨_, rfl⟩
  rw [hys] at hblk hlen hall
  have hrow : RowI ρ100 [] w2 h ys rest [] := .start hblk _ _ rfl
  have hag := hR2.ag_ 0 (by kernel_rfl)
  by_cases hlt : k < b - a - 1
  · refine sim_run 7 [] (hR2.cast (by kernel_rfl)) (by kernel_rfl) trivial (fun ρ200 w200 hm200 hR200 => ?_)
    have hrow := hrow.moved (hm200.castL (by kernel_rfl))
    have hag := hag.moved (hm200.castL (by kernel_rfl))
    refine sim_know 14 (decide ((↑a : Int) + 1 + (↑k : Int) < (↑b : Int))) true (by kernel_rfl) (decide_eq_true (by omega)) ?_
    refine sim_run 10 [] (hR200.cast (by kernel_rfl)) (by kernel_rfl) trivial (fun ρ201 w201 hm201 hR201 => ?_)
    have hrow := hrow.moved (hm201.castL (by kernel_rfl))
    have hag := hag.moved (hm201.castL (by kernel_rfl))
    
    refine sim_loop (ι := Nat) (T := [h]) (w0 := w) (a + 1 + k) [0, 1, 2, 3, 8] (fun j => [(9, LI j)]) (fun _ => []) (fun j w1 => j ≤ a + 1 + k ∧ a ≤ j ∧ ∃ zs, zs.length = len ∧ (∀ x ∈ zs, x.ok) ∧ insJ (ltC cmp) a (k + 1) ys (a + 1 + k) = insJ (ltC cmp) a (j - a) zs j ∧ Blk w1 h 55 (insts zs ++ rest).toArray) (fun j => j) (by kernel_rfl) (by kernel_rfl) (hR201.cast (by kernel_rfl)) ⟨Nat.le_refl _, by omega, ys, by omega, hall, by rw [show a + 1 + k - a = k + 1 by omega], hrow.close0⟩ ?_
    iterate 6 (try clear hrow)
    clear hR200 hm200 hR201 hm201
    rintro j d w3 hR3 ⟨hj, haj, zs, hzl, hzok, hzs, hblk⟩
    have hrow : RowI ρ201 [] w3 h zs rest [] := .start hblk _ _ rfl
    have hag := hR3.ag_ 0 (by kernel_rfl)
    by_cases hja : a < j
    · refine sim_seeI j 0 hrow hag (by kernel_rfl) (by omega) (by simp) (.inl (by simp)) hR3 (by kernel_rfl) [] (by kernel_rfl) (by simp) (fun x ρ1 hx ha1 e1 hag hR1 hrow => ?_)
      refine sim_seeI (j - 1) 1 hrow hag (by kernel_rfl) (by omega) (by simp; omega) (.inl (by simp)) hR1 (by kernel_rfl) [] (by kernel_rfl) (by simp) (fun y ρ2 hy ha2 e2 hag hR4 hrow => ?_)
      have e1 := (ha2 0 (by omega)).trans e1
      refine sim_run 2 [] hR4 (by kernel_rfl) trivial (fun ρ400 w400 hm400 hR400 => ?_)
      have hag := hag.moved (hm400.castL (by kernel_rfl))
      have hrow := hrow.moved (hm400.castL (by kernel_rfl))
      refine sim_draw [] (by kernel_rfl) (by kernel_rfl) hR400 (fun hR401 => ?_)
      have hrow := hrow.drew
      refine sim_ordN 4 [] hR401 (by kernel_rfl) trivial (fun ρ402 w402 hm402 hR402 => ?_)
      have hag := hag.moved (hm402.castL (by kernel_rfl))
      have hrow := hrow.moved (hm402.castL (by kernel_rfl))
      refine sim_knowO hR402 21 (decide ((↑j : Int) > (↑a : Int))) true (by kernel_rfl) (decide_eq_true (by omega)) (fun hR403 => ?_)
      refine sim_ordN 3 [] hR403 (by kernel_rfl) trivial (fun ρ404 w404 hm404 hR404 => ?_)
      have hag := hag.moved (hm404.castL (by kernel_rfl))
      have hrow := hrow.moved (hm404.castL (by kernel_rfl))
      refine sim_ord_index (.v (.slice (some ⟨h, 0, none⟩) len cap)) len 21 (j : Int) 0 0 (by kernel_rfl) (by omega) (by omega) rfl hR404 (by simp only [Nm.at_, hag.at_ 0 (by omega), e1]; congr 1; omega) (fun hR405 => ?_)
      refine sim_ordN 4 [⟨4, 11, LI (IntKind.i64.wrap ((↑j : Int) - 1)), LI ((↑j : Int) - 1)⟩] hR405 (by kernel_rfl) ⟨eqi (IntWalk.i64_in _ (by omega)), trivial⟩ (fun ρ406 w406 hm406 hR406 => ?_)
      have hag := hag.moved (hm406.castL (by kernel_rfl))
      have hrow := hrow.moved (hm406.castL (by kernel_rfl))
      refine sim_ord_index (.v (.slice (some ⟨h, 0, none⟩) len cap)) len 21 ((j : Int) - 1) 1 0 (by kernel_rfl) (by omega) (by omega) rfl hR406 (by simp only [Nm.at_, hag.at_ 1 (by omega), e2]; congr 1; omega) (fun hR407 => ?_)
      refine sim_ordN 1 [] hR407 (by kernel_rfl) trivial (fun ρ408 w408 hm408 hR408 => ?_)
      have hag := hag.moved (hm408.castL (by kernel_rfl))
      have hrow := hrow.moved (hm408.castL (by kernel_rfl))
      refine sim_ord_callF (T := [h]) (w0 := w) g caps (.v (Value.func (Fn.func g) (Array.mk []) caps)) [.agg [LI x.id, LS x.term.party, LS x.term.account, LS x.term.money, LS x.term.other, LB x.term.deliver, LS x.term.asset, LS x.term.ccy, LS x.term.ref, LI x.term.qty, LI x.term.amount, LI x.term.day, LI x.term.trade, LI x.prio, LB x.part, LB x.held, LB x.wish, LI x.state, LI x.mate, LI x.done, LI x.paid], .agg [LI y.id, LS y.term.party, LS y.term.account, LS y.term.money, LS y.term.other, LB y.term.deliver, LS y.term.asset, LS y.term.ccy, LS y.term.ref, LI y.term.qty, LI y.term.amount, LI y.term.day, LI y.term.trade, LI y.prio, LB y.part, LB y.held, LB y.wish, LI y.state, LI y.mate, LI y.done, LI y.paid]] (by kernel_rfl) rfl hg (Calls.mono (hcmp x y _ (hzok _ (List.mem_of_getElem? hx)) (hzok _ (List.mem_of_getElem? hy))) ?_)
      rintro e409 w409 ⟨rfl, hb409⟩
      have hR409 := hR408.call hb409 (LI (cmp x y))
      have hrow := hrow.below hb409
      refine BackO.of _ hR409 rfl ?_
      refine sim_ordN 2 [] hR409 (by kernel_rfl) trivial (fun ρ410 w410 hm410 hR410 => ?_)
      have hag := hag.moved (hm410.castL (by kernel_rfl))
      have hrow := hrow.moved (hm410.castL (by kernel_rfl))
      refine sim_ord_endR hR410 (by kernel_rfl) (fun hR411 => ?_)
      refine sim_fork 34 (decide (cmp x y < 0)) (by kernel_rfl) (fun hq412 => ?_) (fun hq412 => ?_)
      have hq412 := of_decide_eq_true hq412
      refine sim_run 4 [] (hR411.cast (by kernel_rfl)) (by kernel_rfl) trivial (fun ρ413 w413 hm413 hR413 => ?_)
      have hag := hag.moved (hm413.castL (by kernel_rfl))
      have hrow := hrow.moved (hm413.castL (by kernel_rfl))
      refine sim_draw [] (by kernel_rfl) (by kernel_rfl) hR413 (fun hR414 => ?_)
      have hrow := hrow.drew
      refine sim_ordN 8 [⟨6, 4, LI (IntKind.i64.wrap ((↑j : Int) - 1)), LI ((↑j : Int) - 1)⟩, ⟨6, 7, LI (IntKind.i64.wrap ((↑j : Int) - 1)), LI ((↑j : Int) - 1)⟩] hR414 (by kernel_rfl) ⟨eqi (IntWalk.i64_in _ (by omega)), eqi (IntWalk.i64_in _ (by omega)), trivial⟩ (fun ρ415 w415 hm415 hR415 => ?_)
      have hag := hag.moved (hm415.castL (by kernel_rfl))
      have hrow := hrow.moved (hm415.castL (by kernel_rfl))
      refine sim_ord_index (.v (.slice (some ⟨h, 0, none⟩) len cap)) len 21 ((j : Int) - 1) 1 0 (by kernel_rfl) (by omega) (by omega) rfl hR415 (by simp only [Nm.at_, hag.at_ 1 (by omega), e2]; congr 1; omega) (fun hR416 => ?_)
      refine sim_ordN 3 [] hR416 (by kernel_rfl) trivial (fun ρ417 w417 hm417 hR417 => ?_)
      have hag := hag.moved (hm417.castL (by kernel_rfl))
      have hrow := hrow.moved (hm417.castL (by kernel_rfl))
      refine sim_ord_index (.v (.slice (some ⟨h, 0, none⟩) len cap)) len 21 (j : Int) 0 0 (by kernel_rfl) (by omega) (by omega) rfl hR417 (by simp only [Nm.at_, hag.at_ 0 (by omega), e1]; congr 1; omega) (fun hR418 => ?_)
      refine sim_ordN 1 [] hR418 (by kernel_rfl) trivial (fun ρ419 w419 hm419 hR419 => ?_)
      have hag := hag.moved (hm419.castL (by kernel_rfl))
      have hrow := hrow.moved (hm419.castL (by kernel_rfl))
      refine sim_ord_index (.v (.slice (some ⟨h, 0, none⟩) len cap)) len 21 (j : Int) 0 0 (by kernel_rfl) (by omega) (by omega) rfl hR419 (by simp only [Nm.at_, hag.at_ 0 (by omega), e1]; congr 1; omega) (fun hR420 => ?_)
      refine sim_ordN 1 [] hR420 (by kernel_rfl) trivial (fun ρ421 w421 hm421 hR421 => ?_)
      have hag := hag.moved (hm421.castL (by kernel_rfl))
      have hrow := hrow.moved (hm421.castL (by kernel_rfl))
      refine sim_ord_index (.v (.slice (some ⟨h, 0, none⟩) len cap)) len 21 ((j : Int) - 1) 1 0 (by kernel_rfl) (by omega) (by omega) rfl hR421 (by simp only [Nm.at_, hag.at_ 1 (by omega), e2]; congr 1; omega) (fun hR422 => ?_)
      refine sim_ordN 1 [] hR422 (by kernel_rfl) trivial (fun ρ423 w423 hm423 hR423 => ?_)
      have hag := hag.moved (hm423.castL (by kernel_rfl))
      have hrow := hrow.moved (hm423.castL (by kernel_rfl))
      refine sim_ord_endR hR423 (by kernel_rfl) (fun hR424 => ?_)
      refine sim_run 6 [⟨5, 1, LI (IntKind.i64.wrap ((↑j : Int) - 1)), LI ((↑j : Int) - 1)⟩] hR424 (by kernel_rfl) ⟨eqi (IntWalk.i64_in _ (by omega)), trivial⟩ (fun ρ425 w425 hm425 hR425 => ?_)
      have hag := hag.moved (hm425.castL (by kernel_rfl))
      have hrow := hrow.moved (hm425.castL (by kernel_rfl))
      rotate_left
      have hq412 := of_decide_eq_false hq412
      refine sim_run 1 [] (hR411.cast (by kernel_rfl)) (by kernel_rfl) trivial (fun ρ426 w426 hm426 hR426 => ?_)
      have hag := hag.moved (hm426.castL (by kernel_rfl))
      have hrow := hrow.moved (hm426.castL (by kernel_rfl))
      refine sim_leave (by kernel_rfl) ?_
      refine sim_run 6 [⟨2, 1, LI (IntKind.i64.wrap ((↑a : Int) + 1 + (↑k : Int) + 1)), LI ((↑a : Int) + 1 + (↑k : Int) + 1)⟩] (hR426.cast (by kernel_rfl)) (by kernel_rfl) ⟨eqi (IntWalk.i64_in _ (by omega)), trivial⟩ (fun ρ427 w427 hm427 hR427 => ?_)
      have hag := hag.moved (hm427.castL (by kernel_rfl))
      have hrow := hrow.moved (hm427.castL (by kernel_rfl))
      rotate_left
      
      · refine sim_int 9 (k := .i64) ((j : Int) - 1) ((j - 1 : Nat) : Int) (by kernel_rfl) (by omega) ?_
        refine sim_again (j - 1) (by kernel_rfl) (by show j - 1 < j; omega) (by kernel_rfl) (by kernel_rfl) (by kernel_rfl) (fun m hm => absurd hm (by simp)) (hR425.cast (by kernel_rfl)) (by kernel_rfl) (by kernel_rfl) ⟨by omega, by omega, swp zs j (j - 1), by rw [swp_len]; exact hzl, swp_all hzok _ _, ?_, ?_⟩
        · obtain ⟨f, hf⟩ : ∃ f, j - a = f + 1 := ⟨j - a - 1, by omega⟩
          rw [hzs, hf, insJ, if_pos ⟨hja, by rw [ltAt_of hx hy]; exact decide_eq_true hq412⟩, show j - 1 - a = f by omega]
        · rw [← swp_get hx hy]
          exact hrow.close2 (by omega) (by omega) (by omega) y x (bk_cell hR425 hag e1 y (by kernel_rfl)) (bk_cell hR425 hag e2 x (by kernel_rfl))
      · refine sim_again (k + 1) (by kernel_rfl) (by show b - a - (k + 1) < b - a - k; omega) (by kernel_rfl) (by kernel_rfl) (by kernel_rfl) (fun m hm => absurd hm (by simp)) hR427 (by kernel_rfl) (by kernel_rfl) ⟨by omega, ?_⟩
        rw [insM, hys, hzs, insJ_at _ _ _ _ _ (fun hc => by rw [ltAt_of hx hy] at hc; exact hq412 (of_decide_eq_true hc.2))]
        have := hrow.close2 (by omega) (by omega) (by omega) x y (bk_cell hR427 hag e1 x (by kernel_rfl)) (bk_cell hR427 hag e2 y (by kernel_rfl))
        rw [set_same hx, set_same hy] at this
        exact this
    · refine sim_run 2 [] (hR3.cast (by kernel_rfl)) (by kernel_rfl) trivial (fun ρ500 w500 hm500 hR500 => ?_)
      have hrow := hrow.moved (hm500.castL (by kernel_rfl))
      have hag := hag.moved (hm500.castL (by kernel_rfl))
      refine sim_draw [] (by kernel_rfl) (by kernel_rfl) hR500 (fun hR501 => ?_)
      have hrow := hrow.drew
      refine sim_ordN 4 [] hR501 (by kernel_rfl) trivial (fun ρ502 w502 hm502 hR502 => ?_)
      have hag := hag.moved (hm502.castL (by kernel_rfl))
      have hrow := hrow.moved (hm502.castL (by kernel_rfl))
      refine sim_knowO hR502 21 (decide ((↑j : Int) > (↑a : Int))) false (by kernel_rfl) (decide_eq_false (by omega)) (fun hR503 => ?_)
      refine sim_ordN 13 [] hR503 (by kernel_rfl) trivial (fun ρ504 w504 hm504 hR504 => ?_)
      have hag := hag.moved (hm504.castL (by kernel_rfl))
      have hrow := hrow.moved (hm504.castL (by kernel_rfl))
      refine sim_ord_endR hR504 (by kernel_rfl) (fun hR505 => ?_)
      refine sim_run 1 [] hR505 (by kernel_rfl) trivial (fun ρ506 w506 hm506 hR506 => ?_)
      have hag := hag.moved (hm506.castL (by kernel_rfl))
      have hrow := hrow.moved (hm506.castL (by kernel_rfl))
      refine sim_leave (by kernel_rfl) ?_
      refine sim_run 6 [⟨2, 1, LI (IntKind.i64.wrap ((↑a : Int) + 1 + (↑k : Int) + 1)), LI ((↑a : Int) + 1 + (↑k : Int) + 1)⟩] (hR506.cast (by kernel_rfl)) (by kernel_rfl) ⟨eqi (IntWalk.i64_in _ (by omega)), trivial⟩ (fun ρ507 w507 hm507 hR507 => ?_)
      have hag := hag.moved (hm507.castL (by kernel_rfl))
      have hrow := hrow.moved (hm507.castL (by kernel_rfl))
      
      refine sim_again (k + 1) (by kernel_rfl) (by show b - a - (k + 1) < b - a - k; omega) (by kernel_rfl) (by kernel_rfl) (by kernel_rfl) (fun m hm => absurd hm (by simp)) hR507 (by kernel_rfl) (by kernel_rfl) ⟨by omega, ?_⟩
      rw [insM, hys, hzs, insJ_at _ _ _ _ _ (fun hc => hja hc.1)]
      exact hrow.close0
  · refine sim_run 7 [] (hR2.cast (by kernel_rfl)) (by kernel_rfl) trivial (fun ρ300 w300 hm300 hR300 => ?_)
    have hrow := hrow.moved (hm300.castL (by kernel_rfl))
    have hag := hag.moved (hm300.castL (by kernel_rfl))
    refine sim_know 14 (decide ((↑a : Int) + 1 + (↑k : Int) < (↑b : Int))) false (by kernel_rfl) (decide_eq_false (by omega)) ?_
    refine sim_run 1 [] (hR300.cast (by kernel_rfl)) (by kernel_rfl) trivial (fun ρ301 w301 hm301 hR301 => ?_)
    have hrow := hrow.moved (hm301.castL (by kernel_rfl))
    have hag := hag.moved (hm301.castL (by kernel_rfl))
    refine sim_leave (by kernel_rfl) ?_
    refine sim_end (.tup []) (hR301.cast (by kernel_rfl)) (by kernel_rfl) (by kernel_rfl) ?_
    
    obtain rfl : k = b - a - 1 := by omega
    rw [hys]
    exact ⟨rfl, hrow.close0, hR301.keeps.kept⟩
end

section
open Go Go.RowKit
attribute [local irreducible] run goO goN ordGoN eqlOf eqlOper eqlOfO cellL leaveK someK nextK nextT nextOT nextOD loopBody loopRest loopK fillJ tmplOf tmplJ mergeT At AtO drawOk ordOf gateOf callC callO topOp topO idxOf appOf storeOf clearOf sliceOf calleeOf calleeO topQ idxQ newRowOf resL stepOp seek

theorem RowI.at_ {T : List Nat} {w0 w : World} {ρ : Nm} {rs : List Reg} {h : Nat} {xs : List In} {rest : List Value} (_ : Rel T w0 ρ rs w) (hb : Blk w h 55 (insts xs ++ rest).toArray) (hro : allRo rs = true) : RowI ρ rs w h xs rest [] := .start hb ρ rs hro
set_option maxRecDepth 100000 in
theorem rotate_any (h len cap : Nat) (xs : List In) (rest : List Value) (a m b : Nat) (fv : Value) (ham : a < m) (hmb : m < b) (hb : b ≤ len) (hl : xs.length = len) (hmax : len ≤ 1000000) (w : World) (hblk : Blk w h 55 (insts xs ++ rest).toArray) :
    Calls Try.prog 89 #[.slice (some ⟨h, 0, none⟩) len cap, .int .i64 a, .int .i64 m, .int .i64 b, fv] w (RowPost w h rest (rotM m (b - a) xs (m - a) (b - m))) := by
  refine sim_enter Try.func89 ρ0 [.v (.slice (some ⟨h, 0, none⟩) len cap), LI a, LI m, LI b, .v fv] [] (by kernel_rfl) rfl ?_
  have hR := Rel.start [h] w ρ0
  have hrow : RowI ρ0 [] w h xs rest [] := .start hblk _ _ rfl
  refine sim_run 16 [⟨0, 2, LI (IntKind.i64.wrap ((↑m : Int) - (↑a : Int))), LI ((↑m : Int) - (↑a : Int))⟩, ⟨1, 2, LI (IntKind.i64.wrap ((↑b : Int) - (↑m : Int))), LI ((↑b : Int) - (↑m : Int))⟩] (hR.cast (by kernel_rfl)) (by kernel_rfl) ⟨eqi (IntWalk.i64_in _ (by omega)), eqi (IntWalk.i64_in _ (by omega)), trivial⟩ (fun ρ100 w100 hm100 hR100 => ?_)
  have hrow := hrow.moved (hm100.castL (by kernel_rfl))
  
  refine sim_int 10 (k := .i64) ((m : Int) - a) ((m - a : Nat) : Int) (by kernel_rfl) (by omega) ?_
  refine sim_int 11 (k := .i64) ((b : Int) - m) ((b - m : Nat) : Int) (by kernel_rfl) (by omega) ?_
  have hrow := hrow.close0
  refine sim_loop (ι := Nat × Nat) (T := [h]) (w0 := w) (m - a, b - m) [0, 1, 2, 3, 4] (fun x => [(10, LI x.1), (11, LI x.2)]) (fun _ => []) (fun x w1 => 0 < x.1 ∧ 0 < x.2 ∧ x.1 ≤ m ∧ m + x.2 ≤ len ∧ ∃ zs f, zs.length = len ∧ x.1 + x.2 ≤ f ∧ rotM m (b - a) xs (m - a) (b - m) = rotM m f zs x.1 x.2 ∧ Blk w1 h 55 (insts zs ++ rest).toArray) (fun x => x.1 + x.2) (by kernel_rfl) (by kernel_rfl) (hR100.cast (by kernel_rfl)) ⟨by show 0 < m - a; omega, by show 0 < b - m; omega, by show m - a ≤ m; omega, by show m + (b - m) ≤ len; omega, xs, b - a, hl, by show m - a + (b - m) ≤ b - a; omega, rfl, hrow⟩ ?_
  iterate 6 (try clear hrow)
  clear hR100 hm100 hblk
  rintro ⟨i, j⟩ d w2 hR2 ⟨hi, hj, him, hjl, zs, f, hzl, hf, hzs, hblk⟩
  dsimp only at hi hj him hjl hf hzs
  obtain ⟨f, rfl⟩ : ∃ f', f = f' + 1 := ⟨f - 1, by omega⟩
  have hrow : RowI ρ100 [] w2 h zs rest [] := .start hblk _ _ rfl
  clear hblk
  rw [rotM] at hzs
  by_cases hij : i = j
  · subst hij
    rw [if_pos rfl] at hzs
    rw [hzs]
    refine sim_run 7 [] (hR2.cast (by kernel_rfl)) (by kernel_rfl) trivial (fun ρ200 w200 hm200 hR200 => ?_)
    have hrow := hrow.moved (hm200.castL (by kernel_rfl))
    refine sim_know 20 ((↑(i, i).fst : Int) != (↑(i, i).snd : Int)) false (by kernel_rfl) (by simp) ?_
    refine sim_run 1 [] (hR200.cast (by kernel_rfl)) (by kernel_rfl) trivial (fun ρ201 w201 hm201 hR201 => ?_)
    have hrow := hrow.moved (hm201.castL (by kernel_rfl))
    refine sim_leave (by kernel_rfl) ?_
    refine sim_run 8 [⟨8, 3, LI (IntKind.i64.wrap ((↑m : Int) - (↑(i, i).fst : Int))), LI ((↑m : Int) - (↑(i, i).fst : Int))⟩] (hR201.cast (by kernel_rfl)) (by kernel_rfl) ⟨eqi (IntWalk.i64_in _ (by omega)), trivial⟩ (fun ρ202 w202 hm202 hR202 => ?_)
    have hrow := hrow.moved (hm202.castL (by kernel_rfl))
    
    refine sim_int 53 (k := .i64) ((m : Int) - i) ((m - i : Nat) : Int) (by kernel_rfl) (by omega) ?_
    refine sim_call 103 [.v (Value.slice (some (Addr.mk h 0 none)) len cap), LI ((↑(m - i) : Int)), LI ((↑m : Int)), LI ((↑(i, i).fst : Int)), .v fv] (by kernel_rfl) ?_
    refine Calls.mono (swapRange_any (h) (len) (cap) (zs) (rest) (m - i) (m) (i) (fv) ((by omega)) ((by omega)) ((by omega)) (hzl) (hmax) _ (hrow.close0)) ?_
    rintro e300 w300 ⟨rfl, hblk300, hk300⟩
    have hR300 := hR202.kept hk300 (fun n r hn => (noReg (by kernel_rfl) hn).elim) (fun x hx => .inl hx)
    have hrow := RowI.at_ hR300 hblk300 (by kernel_rfl)
    refine Back.of (.tup []) hR300 rfl ?_
    refine sim_run 1 [] (hR300.cast (by kernel_rfl)) (by kernel_rfl) trivial (fun ρ301 w301 hm301 hR301 => ?_)
    have hrow := hrow.moved (hm301.castL (by kernel_rfl))
    refine sim_end (.tup []) hR301 (by kernel_rfl) (by kernel_rfl) ?_
    
    exact ⟨rfl, hrow.close0, hR301.keeps.kept⟩
  · rw [if_neg hij] at hzs
    by_cases hgt : i > j
    · rw [if_pos hgt] at hzs
      refine sim_run 7 [] (hR2.cast (by kernel_rfl)) (by kernel_rfl) trivial (fun ρ400 w400 hm400 hR400 => ?_)
      have hrow := hrow.moved (hm400.castL (by kernel_rfl))
      refine sim_know 20 ((↑(i, j).fst : Int) != (↑(i, j).snd : Int)) true (by kernel_rfl) (by simp; omega) ?_
      refine sim_run 9 [] (hR400.cast (by kernel_rfl)) (by kernel_rfl) trivial (fun ρ401 w401 hm401 hR401 => ?_)
      have hrow := hrow.moved (hm401.castL (by kernel_rfl))
      refine sim_know 23 (decide ((↑(i, j).fst : Int) > (↑(i, j).snd : Int))) true (by kernel_rfl) (decide_eq_true (by omega)) ?_
      refine sim_run 10 [⟨4, 3, LI (IntKind.i64.wrap ((↑m : Int) - (↑(i, j).fst : Int))), LI ((↑m : Int) - (↑(i, j).fst : Int))⟩] (hR401.cast (by kernel_rfl)) (by kernel_rfl) ⟨eqi (IntWalk.i64_in _ (by omega)), trivial⟩ (fun ρ402 w402 hm402 hR402 => ?_)
      have hrow := hrow.moved (hm402.castL (by kernel_rfl))
      
      refine sim_int 27 (k := .i64) ((m : Int) - i) ((m - i : Nat) : Int) (by kernel_rfl) (by omega) ?_
      refine sim_call 103 [.v (Value.slice (some (Addr.mk h 0 none)) len cap), LI ((↑(m - i) : Int)), LI ((↑m : Int)), LI ((↑(i, j).snd : Int)), .v fv] (by kernel_rfl) ?_
      refine Calls.mono (swapRange_any (h) (len) (cap) (zs) (rest) (m - i) (m) (j) (fv) ((by omega)) ((by omega)) ((by omega)) (hzl) (hmax) _ (hrow.close0)) ?_
      rintro e600 w600 ⟨rfl, hblk600, hk600⟩
      have hR600 := hR402.kept hk600 (fun n r hn => (noReg (by kernel_rfl) hn).elim) (fun x hx => .inl hx)
      have hrow := RowI.at_ hR600 hblk600 (by kernel_rfl)
      refine Back.of (.tup []) hR600 rfl ?_
      refine sim_run 8 [⟨5, 2, LI (IntKind.i64.wrap ((↑(i, j).fst : Int) - (↑(i, j).snd : Int))), LI ((↑(i, j).fst : Int) - (↑(i, j).snd : Int))⟩] (hR600.cast (by kernel_rfl)) (by kernel_rfl) ⟨eqi (IntWalk.i64_in _ (by omega)), trivial⟩ (fun ρ601 w601 hm601 hR601 => ?_)
      have hrow := hrow.moved (hm601.castL (by kernel_rfl))
      
      refine sim_int 10 (k := .i64) ((i : Int) - j) ((i - j : Nat) : Int) (by kernel_rfl) (by omega) ?_
      refine sim_again (i - j, j) (by kernel_rfl) (by show i - j + j < i + j; omega) (by kernel_rfl) (by kernel_rfl) (by kernel_rfl) (fun m hm => absurd hm (by simp)) (hR601.cast (by kernel_rfl)) (by kernel_rfl) (by kernel_rfl) ⟨by show 0 < i - j; omega, hj, by show i - j ≤ m; omega, hjl, _, f, by rw [swapM_len]; exact hzl, by show i - j + j ≤ f; omega, hzs, hrow.close0⟩
    · rw [if_neg hgt] at hzs
      refine sim_run 7 [] (hR2.cast (by kernel_rfl)) (by kernel_rfl) trivial (fun ρ500 w500 hm500 hR500 => ?_)
      have hrow := hrow.moved (hm500.castL (by kernel_rfl))
      refine sim_know 20 ((↑(i, j).fst : Int) != (↑(i, j).snd : Int)) true (by kernel_rfl) (by simp; omega) ?_
      refine sim_run 9 [] (hR500.cast (by kernel_rfl)) (by kernel_rfl) trivial (fun ρ501 w501 hm501 hR501 => ?_)
      have hrow := hrow.moved (hm501.castL (by kernel_rfl))
      refine sim_know 23 (decide ((↑(i, j).fst : Int) > (↑(i, j).snd : Int))) false (by kernel_rfl) (decide_eq_false (by omega)) ?_
      refine sim_run 14 [⟨6, 3, LI (IntKind.i64.wrap ((↑m : Int) - (↑(i, j).fst : Int))), LI ((↑m : Int) - (↑(i, j).fst : Int))⟩, ⟨6, 6, LI (IntKind.i64.wrap ((↑m : Int) + (↑(i, j).snd : Int))), LI ((↑m : Int) + (↑(i, j).snd : Int))⟩, ⟨6, 8, LI (IntKind.i64.wrap ((↑m : Int) + (↑(i, j).snd : Int) - (↑(i, j).fst : Int))), LI ((↑m : Int) + (↑(i, j).snd : Int) - (↑(i, j).fst : Int))⟩] (hR501.cast (by kernel_rfl)) (by kernel_rfl) ⟨eqi (IntWalk.i64_in _ (by omega)), eqi (IntWalk.i64_in _ (by omega)), eqi (IntWalk.i64_in _ (by omega)), trivial⟩ (fun ρ502 w502 hm502 hR502 => ?_)
      have hrow := hrow.moved (hm502.castL (by kernel_rfl))
      
      refine sim_int 38 (k := .i64) ((m : Int) - i) ((m - i : Nat) : Int) (by kernel_rfl) (by omega) ?_
      refine sim_int 43 (k := .i64) ((m : Int) + j - i) ((m + j - i : Nat) : Int) (by kernel_rfl) (by omega) ?_
      refine sim_call 103 [.v (Value.slice (some (Addr.mk h 0 none)) len cap), LI ((↑(m - i) : Int)), LI ((↑(m + j - i) : Int)), LI ((↑(i, j).fst : Int)), .v fv] (by kernel_rfl) ?_
      refine Calls.mono (swapRange_any (h) (len) (cap) (zs) (rest) (m - i) (m + j - i) (i) (fv) ((by omega)) ((by omega)) ((by omega)) (hzl) (hmax) _ (hrow.close0)) ?_
      rintro e700 w700 ⟨rfl, hblk700, hk700⟩
      have hR700 := hR502.kept hk700 (fun n r hn => (noReg (by kernel_rfl) hn).elim) (fun x hx => .inl hx)
      have hrow := RowI.at_ hR700 hblk700 (by kernel_rfl)
      refine Back.of (.tup []) hR700 rfl ?_
      refine sim_run 8 [⟨7, 2, LI (IntKind.i64.wrap ((↑(i, j).snd : Int) - (↑(i, j).fst : Int))), LI ((↑(i, j).snd : Int) - (↑(i, j).fst : Int))⟩] (hR700.cast (by kernel_rfl)) (by kernel_rfl) ⟨eqi (IntWalk.i64_in _ (by omega)), trivial⟩ (fun ρ701 w701 hm701 hR701 => ?_)
      have hrow := hrow.moved (hm701.castL (by kernel_rfl))
      
      refine sim_int 11 (k := .i64) ((j : Int) - i) ((j - i : Nat) : Int) (by kernel_rfl) (by omega) ?_
      refine sim_again (i, j - i) (by kernel_rfl) (by show i + (j - i) < i + j; omega) (by kernel_rfl) (by kernel_rfl) (by kernel_rfl) (fun m hm => absurd hm (by simp)) (hR701.cast (by kernel_rfl)) (by kernel_rfl) (by kernel_rfl) ⟨hi, by show 0 < j - i; omega, him, by show m + (j - i) ≤ len; omega, _, f, by rw [swapM_len]; exact hzl, by show i + (j - i) ≤ f; omega, hzs, hrow.close0⟩
end

section
open Go Go.RowKit
attribute [local irreducible] run goO goN ordGoN eqlOf eqlOper eqlOfO cellL leaveK someK nextK nextT nextOT nextOD loopBody loopRest loopK fillJ tmplOf tmplJ mergeT At AtO drawOk ordOf gateOf callC callO topOp topO idxOf appOf storeOf clearOf sliceOf calleeOf calleeO topQ idxQ newRowOf resL stepOp seek

theorem bs_on {P : Nat → Bool} {f i j : Nat} (h : i < j) (_hf : j - i ≤ f + 1) : bsM P (f + 1) i j = if P ((i + j) / 2) = true then bsM P f ((i + j) / 2 + 1) j else bsM P f i ((i + j) / 2) := by
  rw [bsM, if_pos h]
theorem bs_off {P : Nat → Bool} {f i j : Nat} (h : ¬ i < j) : bsM P f i j = i := by
  cases f with
  | zero => rfl
  | succ f => rw [bsM, if_neg h]
def MrgAt (g : FuncId) (caps : Array Value) (cmp : In → In → Int) (h len cap : Nat) (rest : List Value) (f : Nat) : Prop := ∀ (xs : List In) (a m b : Nat) (w : World), b - a ≤ f → a < m → m < b → b ≤ len → xs.length = len → (∀ x ∈ xs, x.ok) → Blk w h 55 (insts xs ++ rest).toArray →
    Calls Try.prog 76 #[.slice (some ⟨h, 0, none⟩) len cap, .int .i64 a, .int .i64 m, .int .i64 b, .func (.func g) #[] caps] w (RowPost w h rest (symM (ltC cmp) f xs a m b))
section
variable (g : FuncId) (hg : Enters Try.prog g) (caps : Array Value) (cmp : In → In → Int) (hcmp : CmpAll g caps cmp) (h len cap : Nat) (rest : List Value) (hmax : len ≤ 1000000)
include hg hcmp hmax
set_option maxHeartbeats 4000000 in
set_option maxRecDepth 100000 in
theorem merge_up (f : Nat) (xs : List In) (a m b : Nat) (w : World) (ham : a < m) (hmb : m < b) (hb : b ≤ len) (hl : xs.length = len) (hok : ∀ x ∈ xs, x.ok) (hblk : Blk w h 55 (insts xs ++ rest).toArray) (h1 : m - a = 1) :
    Calls Try.prog 76 #[.slice (some ⟨h, 0, none⟩) len cap, .int .i64 a, .int .i64 m, .int .i64 b, .func (.func g) #[] caps] w (RowPost w h rest (symM (ltC cmp) (f + 1) xs a m b)) := by
  refine sim_enter Try.func76 ρ0 [.v (.slice (some ⟨h, 0, none⟩) len cap), LI a, LI m, LI b, .v (.func (.func g) #[] caps)] [] (by kernel_rfl) rfl ?_
  have hR := Rel.start [h] w ρ0
  have hrow : RowI ρ0 [] w h xs rest [] := .start hblk _ _ rfl
  rw [symM, if_pos h1]
  refine sim_run 8 [⟨0, 2, LI (IntKind.i64.wrap ((↑m : Int) - (↑a : Int))), LI ((↑m : Int) - (↑a : Int))⟩] (hR.cast (by kernel_rfl)) (by kernel_rfl) ⟨eqi (IntWalk.i64_in _ (by omega)), trivial⟩ (fun ρ100 w100 hm100 hR100 => ?_)
  have hrow := hrow.moved (hm100.castL (by kernel_rfl))
  refine sim_know 28 ((↑m : Int) - (↑a : Int) == 1) true (by kernel_rfl) (decide_eq_true (by omega)) ?_
  refine sim_run 13 [] (hR100.cast (by kernel_rfl)) (by kernel_rfl) trivial (fun ρ101 w101 hm101 hR101 => ?_)
  have hrow := hrow.moved (hm101.castL (by kernel_rfl))
  
  obtain ⟨q, hq⟩ : ∃ q, bsM (fun h => ltAt (ltC cmp) xs h a) (b - m) m b = q := ⟨_, rfl⟩
  rw [hq]
  refine sim_loop (ι := Nat × Nat) (T := [h]) (w0 := w) (m, b) [0, 1, 2, 3, 4] (fun x => [(10, LI x.1), (11, LI x.2)]) (fun _ => []) (fun x w1 => m ≤ x.1 ∧ x.1 ≤ x.2 ∧ x.2 ≤ b ∧ (∃ f, x.2 - x.1 ≤ f ∧ bsM (fun h => ltAt (ltC cmp) xs h a) f x.1 x.2 = q) ∧ Blk w1 h 55 (insts xs ++ rest).toArray) (fun x => x.2 - x.1) (by kernel_rfl) (by kernel_rfl) (hR101.cast (by kernel_rfl)) ⟨Nat.le_refl _, by show m ≤ b; omega, Nat.le_refl _, ⟨b - m, Nat.le_refl _, hq⟩, hrow.close0⟩ ?_
  iterate 6 (try clear hrow)
  clear hR100 hm100 hR101 hm101 hblk
  rintro ⟨i, j⟩ d w2 hR2 ⟨hi, hij, hj, ⟨f, hf, hqf⟩, hblk⟩
  dsimp only at hi hij hj hf hqf
  have hrow : RowI ρ101 [] w2 h xs rest [] := .start hblk _ _ rfl
  have hag := hR2.ag_ 0 (by kernel_rfl)
  by_cases hlt : i < j
  · obtain ⟨f, rfl⟩ : ∃ f', f = f' + 1 := ⟨f - 1, by omega⟩
    rw [bs_on hlt hf] at hqf
    obtain ⟨c, hc⟩ : ∃ c, (i + j) / 2 = c := ⟨_, rfl⟩
    rw [hc] at hqf
    refine sim_seeI c 0 hrow hag (by kernel_rfl) (by omega) (by simp) (.inl (by simp)) hR2 (by kernel_rfl) [] (by kernel_rfl) (by simp) (fun x ρ1 hx ha1 e1 hag hR1 hrow => ?_)
    refine sim_seeI a 1 hrow hag (by kernel_rfl) (by omega) (by simp; omega) (.inl (by simp)) hR1 (by kernel_rfl) [] (by kernel_rfl) (by simp) (fun y ρ2 hy ha2 e2 hag hR3 hrow => ?_)
    have e1 := (ha2 0 (by omega)).trans e1
    refine sim_run 7 [] hR3 (by kernel_rfl) trivial (fun ρ200 w200 hm200 hR200 => ?_)
    have hag := hag.moved (hm200.castL (by kernel_rfl))
    have hrow := hrow.moved (hm200.castL (by kernel_rfl))
    refine sim_know 33 (decide ((↑(i, j).fst : Int) < (↑(i, j).snd : Int))) true (by kernel_rfl) (decide_eq_true (by omega)) ?_
    refine sim_run 11 [⟨4, 2, LI (IntKind.i64.wrap ((↑(i, j).fst : Int) + (↑(i, j).snd : Int))), LI ((↑(i, j).fst : Int) + (↑(i, j).snd : Int))⟩, ⟨4, 3, (.v (.int .u64 (IntKind.u64.wrap ((↑(i, j).fst : Int) + (↑(i, j).snd : Int))))), (.v (.int .u64 ((↑(i, j).fst : Int) + (↑(i, j).snd : Int))))⟩, ⟨4, 4, (.v (.int .u64 (((↑(i, j).fst : Int) + (↑(i, j).snd : Int)).fdiv (2 ^ min (Int.toNat 1) IntKind.u64.bits)))), (.v (.int .u64 (((↑(i, j).fst : Int) + (↑(i, j).snd : Int)) / 2)))⟩, ⟨4, 5, LI (IntKind.i64.wrap (((↑(i, j).fst : Int) + (↑(i, j).snd : Int)) / 2)), LI (((↑(i, j).fst : Int) + (↑(i, j).snd : Int)) / 2)⟩] (hR200.cast (by kernel_rfl)) (by kernel_rfl) ⟨eqi (IntWalk.i64_in _ (by omega)), eqi (IntWalk.u64_in _ (by omega)), eqi (shr_lit _ _ 2 (by kernel_rfl)), eqi (IntWalk.i64_in _ (by omega)), trivial⟩ (fun ρ201 w201 hm201 hR201 => ?_)
    have hag := hag.moved (hm201.castL (by kernel_rfl))
    have hrow := hrow.moved (hm201.castL (by kernel_rfl))
    
    refine sim_int 39 (k := .i64) (((i : Int) + j) / 2) (c : Int) (by kernel_rfl) (by omega) ?_
    rw [ltAt_of hx hy, show ltC cmp x y = decide (cmp x y < 0) from rfl] at hqf
    refine sim_run 3 [] (hR201.cast (by kernel_rfl)) (by kernel_rfl) trivial (fun ρ300 w300 hm300 hR300 => ?_)
    have hag := hag.moved (hm300.castL (by kernel_rfl))
    have hrow := hrow.moved (hm300.castL (by kernel_rfl))
    refine sim_draw [] (by kernel_rfl) (by kernel_rfl) hR300 (fun hR301 => ?_)
    have hrow := hrow.drew
    refine sim_ordN 3 [] hR301 (by kernel_rfl) trivial (fun ρ302 w302 hm302 hR302 => ?_)
    have hag := hag.moved (hm302.castL (by kernel_rfl))
    have hrow := hrow.moved (hm302.castL (by kernel_rfl))
    refine sim_ord_index (.v (.slice (some ⟨h, 0, none⟩) len cap)) len 21 ((c : Int)) 0 0 (by kernel_rfl) (by omega) (by omega) rfl hR302 (by simp only [Nm.at_, hag.at_ 0 (by omega), e1]; congr 1; omega) (fun hR303 => ?_)
    refine sim_ordN 3 [] hR303 (by kernel_rfl) trivial (fun ρ304 w304 hm304 hR304 => ?_)
    have hag := hag.moved (hm304.castL (by kernel_rfl))
    have hrow := hrow.moved (hm304.castL (by kernel_rfl))
    refine sim_ord_index (.v (.slice (some ⟨h, 0, none⟩) len cap)) len 21 ((a : Int)) 1 0 (by kernel_rfl) (by omega) (by omega) rfl hR304 (by simp only [Nm.at_, hag.at_ 1 (by omega), e2]; congr 1; omega) (fun hR305 => ?_)
    refine sim_ordN 1 [] hR305 (by kernel_rfl) trivial (fun ρ306 w306 hm306 hR306 => ?_)
    have hag := hag.moved (hm306.castL (by kernel_rfl))
    have hrow := hrow.moved (hm306.castL (by kernel_rfl))
    refine sim_ord_callF (T := [h]) (w0 := w) g caps (.v (Value.func (Fn.func g) (Array.mk []) caps)) [.agg [LI x.id, LS x.term.party, LS x.term.account, LS x.term.money, LS x.term.other, LB x.term.deliver, LS x.term.asset, LS x.term.ccy, LS x.term.ref, LI x.term.qty, LI x.term.amount, LI x.term.day, LI x.term.trade, LI x.prio, LB x.part, LB x.held, LB x.wish, LI x.state, LI x.mate, LI x.done, LI x.paid], .agg [LI y.id, LS y.term.party, LS y.term.account, LS y.term.money, LS y.term.other, LB y.term.deliver, LS y.term.asset, LS y.term.ccy, LS y.term.ref, LI y.term.qty, LI y.term.amount, LI y.term.day, LI y.term.trade, LI y.prio, LB y.part, LB y.held, LB y.wish, LI y.state, LI y.mate, LI y.done, LI y.paid]] (by kernel_rfl) rfl hg (Calls.mono (hcmp x y _ (hok _ (List.mem_of_getElem? hx)) (hok _ (List.mem_of_getElem? hy))) ?_)
    rintro e307 w307 ⟨rfl, hb307⟩
    have hR307 := hR306.call hb307 (LI (cmp x y))
    have hrow := hrow.below hb307
    refine BackO.of _ hR307 rfl ?_
    refine sim_ordN 1 [] hR307 (by kernel_rfl) trivial (fun ρ308 w308 hm308 hR308 => ?_)
    have hag := hag.moved (hm308.castL (by kernel_rfl))
    have hrow := hrow.moved (hm308.castL (by kernel_rfl))
    refine sim_ord_endR hR308 (by kernel_rfl) (fun hR309 => ?_)
    refine sim_fork 50 (decide (cmp x y < 0)) (by kernel_rfl) (fun hq310 => ?_) (fun hq310 => ?_)
    have hq310 := of_decide_eq_true hq310
    refine sim_run 7 [⟨6, 1, LI (IntKind.i64.wrap ((↑c : Int) + 1)), LI ((↑c : Int) + 1)⟩] (hR309.cast (by kernel_rfl)) (by kernel_rfl) ⟨eqi (IntWalk.i64_in _ (by omega)), trivial⟩ (fun ρ311 w311 hm311 hR311 => ?_)
    have hag := hag.moved (hm311.castL (by kernel_rfl))
    have hrow := hrow.moved (hm311.castL (by kernel_rfl))
    rotate_left
    have hq310 := of_decide_eq_false hq310
    refine sim_run 6 [] (hR309.cast (by kernel_rfl)) (by kernel_rfl) trivial (fun ρ312 w312 hm312 hR312 => ?_)
    have hag := hag.moved (hm312.castL (by kernel_rfl))
    have hrow := hrow.moved (hm312.castL (by kernel_rfl))
    rotate_left
    
    · rw [if_pos (decide_eq_true (by assumption))] at hqf
      refine sim_again (c + 1, j) (by kernel_rfl) (by show j - (c + 1) < j - i; omega) (by kernel_rfl) (by kernel_rfl) (by kernel_rfl) (fun m hm => absurd hm (by simp)) (hR311.cast (by kernel_rfl)) (by kernel_rfl) (by kernel_rfl) ⟨by show m ≤ c + 1; omega, by show c + 1 ≤ j; omega, hj, ⟨f, by show j - (c + 1) ≤ f; omega, hqf⟩, ?_⟩
      have := hrow.close2 (by omega) (by omega) (by omega) x y (bk_cell hR311 hag e1 x (by kernel_rfl)) (bk_cell hR311 hag e2 y (by kernel_rfl))
      rw [set_same hx, set_same hy] at this
      exact this
    · rw [if_neg (by rw [decide_eq_true_eq]; assumption)] at hqf
      refine sim_again (i, c) (by kernel_rfl) (by show c - i < j - i; omega) (by kernel_rfl) (by kernel_rfl) (by kernel_rfl) (fun m hm => absurd hm (by simp)) (hR312.cast (by kernel_rfl)) (by kernel_rfl) (by kernel_rfl) ⟨hi, by show i ≤ c; omega, by show c ≤ b; omega, ⟨f, by show c - i ≤ f; omega, hqf⟩, ?_⟩
      have := hrow.close2 (by omega) (by omega) (by omega) x y (bk_cell hR312 hag e1 x (by kernel_rfl)) (bk_cell hR312 hag e2 y (by kernel_rfl))
      rw [set_same hx, set_same hy] at this
      exact this
  · have hqi : i = q := by rw [← hqf, bs_off hlt]
    subst hqi
    refine sim_run 7 [] (hR2.cast (by kernel_rfl)) (by kernel_rfl) trivial (fun ρ600 w600 hm600 hR600 => ?_)
    have hrow := hrow.moved (hm600.castL (by kernel_rfl))
    have hag := hag.moved (hm600.castL (by kernel_rfl))
    refine sim_know 33 (decide ((↑(i, j).fst : Int) < (↑(i, j).snd : Int))) false (by kernel_rfl) (decide_eq_false (by omega)) ?_
    refine sim_run 1 [] (hR600.cast (by kernel_rfl)) (by kernel_rfl) trivial (fun ρ601 w601 hm601 hR601 => ?_)
    have hrow := hrow.moved (hm601.castL (by kernel_rfl))
    have hag := hag.moved (hm601.castL (by kernel_rfl))
    refine sim_leave (by kernel_rfl) ?_
    refine sim_run 7 [] (hR601.cast (by kernel_rfl)) (by kernel_rfl) trivial (fun ρ602 w602 hm602 hR602 => ?_)
    have hrow := hrow.moved (hm602.castL (by kernel_rfl))
    have hag := hag.moved (hm602.castL (by kernel_rfl))
    
    refine sim_loop (ι := Nat) (T := [h]) (w0 := w) 0 [0, 1, 2, 3, 4, 10] (fun n => [(13, LI ((a : Int) + n))]) (fun _ => []) (fun n w1 => n ≤ i - 1 - a ∧ Blk w1 h 55 (insts (shUp xs a n) ++ rest).toArray) (fun n => i - n) (by kernel_rfl) (by kernel_rfl) (hR602.cast (by kernel_rfl)) ⟨Nat.zero_le _, hrow.close0⟩ ?_
    iterate 12 (try clear hrow)
    iterate 12 (try clear hag)
    clear hm602 hR602 hblk
    rintro n d w6 hR6 ⟨hn, hblk⟩
    have hlen := shUp_len xs a n
    obtain ⟨ys, hys⟩ : ∃ ys, shUp xs a n = ys := ⟨_, rfl⟩
    rw [hys] at hblk hlen
    have hrow : RowI ρ602 [] w6 h ys rest [] := .start hblk _ _ rfl
    have hag := hR6.ag_ 0 (by kernel_rfl)
    by_cases hn2 : n < i - 1 - a
    · refine sim_seeI (a + n) 0 hrow hag (by kernel_rfl) (by omega) (by simp) (.inl (by simp)) hR6 (by kernel_rfl) [] (by kernel_rfl) (by simp) (fun x ρ1 hx ha1 e1 hag hR1 hrow => ?_)
      refine sim_seeI (a + n + 1) 1 hrow hag (by kernel_rfl) (by omega) (by simp) (.inl (by simp)) hR1 (by kernel_rfl) [] (by kernel_rfl) (by simp) (fun y ρ2 hy ha2 e2 hag hR3 hrow => ?_)
      have e1 := (ha2 0 (by omega)).trans e1
      refine sim_run 8 [⟨9, 2, LI (IntKind.i64.wrap ((↑(i, j).fst : Int) - 1)), LI ((↑(i, j).fst : Int) - 1)⟩] hR3 (by kernel_rfl) ⟨eqi (IntWalk.i64_in _ (by omega)), trivial⟩ (fun ρ700 w700 hm700 hR700 => ?_)
      have hag := hag.moved (hm700.castL (by kernel_rfl))
      have hrow := hrow.moved (hm700.castL (by kernel_rfl))
      refine sim_know 58 (decide ((↑a : Int) + (↑n : Int) < (↑(i, j).fst : Int) - 1)) true (by kernel_rfl) (decide_eq_true (by omega)) ?_
      refine sim_run 4 [] (hR700.cast (by kernel_rfl)) (by kernel_rfl) trivial (fun ρ701 w701 hm701 hR701 => ?_)
      have hag := hag.moved (hm701.castL (by kernel_rfl))
      have hrow := hrow.moved (hm701.castL (by kernel_rfl))
      refine sim_draw [] (by kernel_rfl) (by kernel_rfl) hR701 (fun hR702 => ?_)
      have hrow := hrow.drew
      refine sim_ordN 8 [⟨11, 4, LI (IntKind.i64.wrap ((↑a : Int) + (↑n : Int) + 1)), LI ((↑a : Int) + (↑n : Int) + 1)⟩, ⟨11, 7, LI (IntKind.i64.wrap ((↑a : Int) + (↑n : Int) + 1)), LI ((↑a : Int) + (↑n : Int) + 1)⟩] hR702 (by kernel_rfl) ⟨eqi (IntWalk.i64_in _ (by omega)), eqi (IntWalk.i64_in _ (by omega)), trivial⟩ (fun ρ703 w703 hm703 hR703 => ?_)
      have hag := hag.moved (hm703.castL (by kernel_rfl))
      have hrow := hrow.moved (hm703.castL (by kernel_rfl))
      refine sim_ord_index (.v (.slice (some ⟨h, 0, none⟩) len cap)) len 21 ((a : Int) + n + 1) 1 0 (by kernel_rfl) (by omega) (by omega) rfl hR703 (by simp only [Nm.at_, hag.at_ 1 (by omega), e2]; congr 1; omega) (fun hR704 => ?_)
      refine sim_ordN 3 [] hR704 (by kernel_rfl) trivial (fun ρ705 w705 hm705 hR705 => ?_)
      have hag := hag.moved (hm705.castL (by kernel_rfl))
      have hrow := hrow.moved (hm705.castL (by kernel_rfl))
      refine sim_ord_index (.v (.slice (some ⟨h, 0, none⟩) len cap)) len 21 ((a : Int) + n) 0 0 (by kernel_rfl) (by omega) (by omega) rfl hR705 (by simp only [Nm.at_, hag.at_ 0 (by omega), e1]; congr 1; omega) (fun hR706 => ?_)
      refine sim_ordN 1 [] hR706 (by kernel_rfl) trivial (fun ρ707 w707 hm707 hR707 => ?_)
      have hag := hag.moved (hm707.castL (by kernel_rfl))
      have hrow := hrow.moved (hm707.castL (by kernel_rfl))
      refine sim_ord_index (.v (.slice (some ⟨h, 0, none⟩) len cap)) len 21 ((a : Int) + n) 0 0 (by kernel_rfl) (by omega) (by omega) rfl hR707 (by simp only [Nm.at_, hag.at_ 0 (by omega), e1]; congr 1; omega) (fun hR708 => ?_)
      refine sim_ordN 1 [] hR708 (by kernel_rfl) trivial (fun ρ709 w709 hm709 hR709 => ?_)
      have hag := hag.moved (hm709.castL (by kernel_rfl))
      have hrow := hrow.moved (hm709.castL (by kernel_rfl))
      refine sim_ord_index (.v (.slice (some ⟨h, 0, none⟩) len cap)) len 21 ((a : Int) + n + 1) 1 0 (by kernel_rfl) (by omega) (by omega) rfl hR709 (by simp only [Nm.at_, hag.at_ 1 (by omega), e2]; congr 1; omega) (fun hR710 => ?_)
      refine sim_ordN 1 [] hR710 (by kernel_rfl) trivial (fun ρ711 w711 hm711 hR711 => ?_)
      have hag := hag.moved (hm711.castL (by kernel_rfl))
      have hrow := hrow.moved (hm711.castL (by kernel_rfl))
      refine sim_ord_endR hR711 (by kernel_rfl) (fun hR712 => ?_)
      refine sim_run 6 [⟨10, 1, LI (IntKind.i64.wrap ((↑a : Int) + (↑n : Int) + 1)), LI ((↑a : Int) + (↑n : Int) + 1)⟩] hR712 (by kernel_rfl) ⟨eqi (IntWalk.i64_in _ (by omega)), trivial⟩ (fun ρ713 w713 hm713 hR713 => ?_)
      have hag := hag.moved (hm713.castL (by kernel_rfl))
      have hrow := hrow.moved (hm713.castL (by kernel_rfl))
      
      refine sim_again (n + 1) (by kernel_rfl) (by show i - (n + 1) < i - n; omega) (by kernel_rfl) (by kernel_rfl) (by kernel_rfl) (fun m hm => absurd hm (by simp)) hR713 (by kernel_rfl) (by kernel_rfl) ⟨hn2, ?_⟩
      rw [shUp, hys, ← swp_get hx hy]
      exact hrow.close2 (by omega) (by omega) (by omega) y x (bk_cell hR713 hag e1 y (by kernel_rfl)) (bk_cell hR713 hag e2 x (by kernel_rfl))
    · refine sim_run 8 [⟨9, 2, LI (IntKind.i64.wrap ((↑(i, j).fst : Int) - 1)), LI ((↑(i, j).fst : Int) - 1)⟩] (hR6.cast (by kernel_rfl)) (by kernel_rfl) ⟨eqi (IntWalk.i64_in _ (by omega)), trivial⟩ (fun ρ800 w800 hm800 hR800 => ?_)
      have hrow := hrow.moved (hm800.castL (by kernel_rfl))
      have hag := hag.moved (hm800.castL (by kernel_rfl))
      refine sim_know 58 (decide ((↑a : Int) + (↑n : Int) < (↑(i, j).fst : Int) - 1)) false (by kernel_rfl) (decide_eq_false (by omega)) ?_
      refine sim_run 1 [] (hR800.cast (by kernel_rfl)) (by kernel_rfl) trivial (fun ρ801 w801 hm801 hR801 => ?_)
      have hrow := hrow.moved (hm801.castL (by kernel_rfl))
      have hag := hag.moved (hm801.castL (by kernel_rfl))
      refine sim_leave (by kernel_rfl) ?_
      refine sim_ret (.tup []) (hR801.cast (by kernel_rfl)) (by kernel_rfl) (by kernel_rfl) ?_
      
      obtain rfl : n = i - 1 - a := by omega
      rw [hys]
      exact ⟨rfl, hrow.close0, hR801.keeps.kept⟩
end
end

section
open Go Go.RowKit
attribute [local irreducible] run goO goN ordGoN eqlOf eqlOper eqlOfO cellL leaveK someK nextK nextT nextOT nextOD loopBody loopRest loopK fillJ tmplOf tmplJ mergeT At AtO drawOk ordOf gateOf callC callO topOp topO idxOf appOf storeOf clearOf sliceOf calleeOf calleeO topQ idxQ newRowOf resL stepOp seek

section
variable (g : FuncId) (hg : Enters Try.prog g) (caps : Array Value) (cmp : In → In → Int) (hcmp : CmpAll g caps cmp) (h len cap : Nat) (rest : List Value) (hmax : len ≤ 1000000)
include hg hcmp hmax
set_option maxHeartbeats 4000000 in
set_option maxRecDepth 100000 in
theorem merge_dn (f : Nat) (xs : List In) (a m b : Nat) (w : World) (ham : a < m) (hmb : m < b) (hb : b ≤ len) (hl : xs.length = len) (hok : ∀ x ∈ xs, x.ok) (hblk : Blk w h 55 (insts xs ++ rest).toArray) (h1 : ¬m - a = 1) (h2 : b - m = 1) :
    Calls Try.prog 76 #[.slice (some ⟨h, 0, none⟩) len cap, .int .i64 a, .int .i64 m, .int .i64 b, .func (.func g) #[] caps] w (RowPost w h rest (symM (ltC cmp) (f + 1) xs a m b)) := by
  refine sim_enter Try.func76 ρ0 [.v (.slice (some ⟨h, 0, none⟩) len cap), LI a, LI m, LI b, .v (.func (.func g) #[] caps)] [] (by kernel_rfl) rfl ?_
  have hR := Rel.start [h] w ρ0
  have hrow : RowI ρ0 [] w h xs rest [] := .start hblk _ _ rfl
  rw [symM, if_neg h1, if_pos h2]
  refine sim_run 8 [⟨0, 2, LI (IntKind.i64.wrap ((↑m : Int) - (↑a : Int))), LI ((↑m : Int) - (↑a : Int))⟩] (hR.cast (by kernel_rfl)) (by kernel_rfl) ⟨eqi (IntWalk.i64_in _ (by omega)), trivial⟩ (fun ρ100 w100 hm100 hR100 => ?_)
  have hrow := hrow.moved (hm100.castL (by kernel_rfl))
  refine sim_know 28 ((↑m : Int) - (↑a : Int) == 1) false (by kernel_rfl) (decide_eq_false (by omega)) ?_
  refine sim_run 10 [⟨12, 2, LI (IntKind.i64.wrap ((↑b : Int) - (↑m : Int))), LI ((↑b : Int) - (↑m : Int))⟩] (hR100.cast (by kernel_rfl)) (by kernel_rfl) ⟨eqi (IntWalk.i64_in _ (by omega)), trivial⟩ (fun ρ101 w101 hm101 hR101 => ?_)
  have hrow := hrow.moved (hm101.castL (by kernel_rfl))
  refine sim_know 80 ((↑b : Int) - (↑m : Int) == 1) true (by kernel_rfl) (decide_eq_true (by omega)) ?_
  refine sim_run 13 [] (hR101.cast (by kernel_rfl)) (by kernel_rfl) trivial (fun ρ102 w102 hm102 hR102 => ?_)
  have hrow := hrow.moved (hm102.castL (by kernel_rfl))
  
  obtain ⟨q, hq⟩ : ∃ q, bsM (fun h => !ltAt (ltC cmp) xs m h) (m - a) a m = q := ⟨_, rfl⟩
  rw [hq]
  refine sim_loop (ι := Nat × Nat) (T := [h]) (w0 := w) (a, m) [0, 1, 2, 3, 4] (fun x => [(14, LI x.1), (15, LI x.2)]) (fun _ => []) (fun x w1 => a ≤ x.1 ∧ x.1 ≤ x.2 ∧ x.2 ≤ m ∧ (∃ f, x.2 - x.1 ≤ f ∧ bsM (fun h => !ltAt (ltC cmp) xs m h) f x.1 x.2 = q) ∧ Blk w1 h 55 (insts xs ++ rest).toArray) (fun x => x.2 - x.1) (by kernel_rfl) (by kernel_rfl) (hR102.cast (by kernel_rfl)) ⟨Nat.le_refl _, by show a ≤ m; omega, Nat.le_refl _, ⟨m - a, Nat.le_refl _, hq⟩, hrow.close0⟩ ?_
  iterate 6 (try clear hrow)
  clear hR100 hm100 hR101 hm101 hR102 hm102 hblk
  rintro ⟨i, j⟩ d w2 hR2 ⟨hi, hij, hj, ⟨f, hf, hqf⟩, hblk⟩
  dsimp only at hi hij hj hf hqf
  have hrow : RowI ρ102 [] w2 h xs rest [] := .start hblk _ _ rfl
  have hag := hR2.ag_ 0 (by kernel_rfl)
  by_cases hlt : i < j
  · obtain ⟨f, rfl⟩ : ∃ f', f = f' + 1 := ⟨f - 1, by omega⟩
    rw [bs_on hlt hf] at hqf
    obtain ⟨c, hc⟩ : ∃ c, (i + j) / 2 = c := ⟨_, rfl⟩
    rw [hc] at hqf
    refine sim_seeI m 0 hrow hag (by kernel_rfl) (by omega) (by simp) (.inl (by simp)) hR2 (by kernel_rfl) [] (by kernel_rfl) (by simp) (fun x ρ1 hx ha1 e1 hag hR1 hrow => ?_)
    refine sim_seeI c 1 hrow hag (by kernel_rfl) (by omega) (by simp; omega) (.inl (by simp)) hR1 (by kernel_rfl) [] (by kernel_rfl) (by simp) (fun y ρ2 hy ha2 e2 hag hR3 hrow => ?_)
    have e1 := (ha2 0 (by omega)).trans e1
    refine sim_run 7 [] hR3 (by kernel_rfl) trivial (fun ρ200 w200 hm200 hR200 => ?_)
    have hag := hag.moved (hm200.castL (by kernel_rfl))
    have hrow := hrow.moved (hm200.castL (by kernel_rfl))
    refine sim_know 85 (decide ((↑(i, j).fst : Int) < (↑(i, j).snd : Int))) true (by kernel_rfl) (decide_eq_true (by omega)) ?_
    refine sim_run 11 [⟨16, 2, LI (IntKind.i64.wrap ((↑(i, j).fst : Int) + (↑(i, j).snd : Int))), LI ((↑(i, j).fst : Int) + (↑(i, j).snd : Int))⟩, ⟨16, 3, (.v (.int .u64 (IntKind.u64.wrap ((↑(i, j).fst : Int) + (↑(i, j).snd : Int))))), (.v (.int .u64 ((↑(i, j).fst : Int) + (↑(i, j).snd : Int))))⟩, ⟨16, 4, (.v (.int .u64 (((↑(i, j).fst : Int) + (↑(i, j).snd : Int)).fdiv (2 ^ min (Int.toNat 1) IntKind.u64.bits)))), (.v (.int .u64 (((↑(i, j).fst : Int) + (↑(i, j).snd : Int)) / 2)))⟩, ⟨16, 5, LI (IntKind.i64.wrap (((↑(i, j).fst : Int) + (↑(i, j).snd : Int)) / 2)), LI (((↑(i, j).fst : Int) + (↑(i, j).snd : Int)) / 2)⟩] (hR200.cast (by kernel_rfl)) (by kernel_rfl) ⟨eqi (IntWalk.i64_in _ (by omega)), eqi (IntWalk.u64_in _ (by omega)), eqi (shr_lit _ _ 2 (by kernel_rfl)), eqi (IntWalk.i64_in _ (by omega)), trivial⟩ (fun ρ201 w201 hm201 hR201 => ?_)
    have hag := hag.moved (hm201.castL (by kernel_rfl))
    have hrow := hrow.moved (hm201.castL (by kernel_rfl))
    
    refine sim_int 91 (k := .i64) (((i : Int) + j) / 2) (c : Int) (by kernel_rfl) (by omega) ?_
    rw [ltAt_of hx hy, show (!ltC cmp x y) = !decide (cmp x y < 0) from rfl] at hqf
    refine sim_run 3 [] (hR201.cast (by kernel_rfl)) (by kernel_rfl) trivial (fun ρ300 w300 hm300 hR300 => ?_)
    have hag := hag.moved (hm300.castL (by kernel_rfl))
    have hrow := hrow.moved (hm300.castL (by kernel_rfl))
    refine sim_draw [] (by kernel_rfl) (by kernel_rfl) hR300 (fun hR301 => ?_)
    have hrow := hrow.drew
    refine sim_ordN 3 [] hR301 (by kernel_rfl) trivial (fun ρ302 w302 hm302 hR302 => ?_)
    have hag := hag.moved (hm302.castL (by kernel_rfl))
    have hrow := hrow.moved (hm302.castL (by kernel_rfl))
    refine sim_ord_index (.v (.slice (some ⟨h, 0, none⟩) len cap)) len 21 ((m : Int)) 0 0 (by kernel_rfl) (by omega) (by omega) rfl hR302 (by simp only [Nm.at_, hag.at_ 0 (by omega), e1]; congr 1; omega) (fun hR303 => ?_)
    refine sim_ordN 3 [] hR303 (by kernel_rfl) trivial (fun ρ304 w304 hm304 hR304 => ?_)
    have hag := hag.moved (hm304.castL (by kernel_rfl))
    have hrow := hrow.moved (hm304.castL (by kernel_rfl))
    refine sim_ord_index (.v (.slice (some ⟨h, 0, none⟩) len cap)) len 21 ((c : Int)) 1 0 (by kernel_rfl) (by omega) (by omega) rfl hR304 (by simp only [Nm.at_, hag.at_ 1 (by omega), e2]; congr 1; omega) (fun hR305 => ?_)
    refine sim_ordN 1 [] hR305 (by kernel_rfl) trivial (fun ρ306 w306 hm306 hR306 => ?_)
    have hag := hag.moved (hm306.castL (by kernel_rfl))
    have hrow := hrow.moved (hm306.castL (by kernel_rfl))
    refine sim_ord_callF (T := [h]) (w0 := w) g caps (.v (Value.func (Fn.func g) (Array.mk []) caps)) [.agg [LI x.id, LS x.term.party, LS x.term.account, LS x.term.money, LS x.term.other, LB x.term.deliver, LS x.term.asset, LS x.term.ccy, LS x.term.ref, LI x.term.qty, LI x.term.amount, LI x.term.day, LI x.term.trade, LI x.prio, LB x.part, LB x.held, LB x.wish, LI x.state, LI x.mate, LI x.done, LI x.paid], .agg [LI y.id, LS y.term.party, LS y.term.account, LS y.term.money, LS y.term.other, LB y.term.deliver, LS y.term.asset, LS y.term.ccy, LS y.term.ref, LI y.term.qty, LI y.term.amount, LI y.term.day, LI y.term.trade, LI y.prio, LB y.part, LB y.held, LB y.wish, LI y.state, LI y.mate, LI y.done, LI y.paid]] (by kernel_rfl) rfl hg (Calls.mono (hcmp x y _ (hok _ (List.mem_of_getElem? hx)) (hok _ (List.mem_of_getElem? hy))) ?_)
    rintro e307 w307 ⟨rfl, hb307⟩
    have hR307 := hR306.call hb307 (LI (cmp x y))
    have hrow := hrow.below hb307
    refine BackO.of _ hR307 rfl ?_
    refine sim_ordN 2 [] hR307 (by kernel_rfl) trivial (fun ρ308 w308 hm308 hR308 => ?_)
    have hag := hag.moved (hm308.castL (by kernel_rfl))
    have hrow := hrow.moved (hm308.castL (by kernel_rfl))
    refine sim_ord_endR hR308 (by kernel_rfl) (fun hR309 => ?_)
    refine sim_fork 103 (!decide (cmp x y < 0)) (by kernel_rfl) (fun hq310 => ?_) (fun hq310 => ?_)
    have hq310 := nb_t hq310
    have hq310 := of_decide_eq_false hq310
    refine sim_run 7 [⟨18, 1, LI (IntKind.i64.wrap ((↑c : Int) + 1)), LI ((↑c : Int) + 1)⟩] (hR309.cast (by kernel_rfl)) (by kernel_rfl) ⟨eqi (IntWalk.i64_in _ (by omega)), trivial⟩ (fun ρ311 w311 hm311 hR311 => ?_)
    have hag := hag.moved (hm311.castL (by kernel_rfl))
    have hrow := hrow.moved (hm311.castL (by kernel_rfl))
    rotate_left
    have hq310 := nb_f hq310
    have hq310 := of_decide_eq_true hq310
    refine sim_run 6 [] (hR309.cast (by kernel_rfl)) (by kernel_rfl) trivial (fun ρ312 w312 hm312 hR312 => ?_)
    have hag := hag.moved (hm312.castL (by kernel_rfl))
    have hrow := hrow.moved (hm312.castL (by kernel_rfl))
    rotate_left
    
    · rw [if_pos (by simpa using (by assumption : ¬cmp x y < 0))] at hqf
      refine sim_again (c + 1, j) (by kernel_rfl) (by show j - (c + 1) < j - i; omega) (by kernel_rfl) (by kernel_rfl) (by kernel_rfl) (fun m hm => absurd hm (by simp)) (hR311.cast (by kernel_rfl)) (by kernel_rfl) (by kernel_rfl) ⟨by show a ≤ c + 1; omega, by show c + 1 ≤ j; omega, hj, ⟨f, by show j - (c + 1) ≤ f; omega, hqf⟩, ?_⟩
      have := hrow.close2 (by omega) (by omega) (by omega) x y (bk_cell hR311 hag e1 x (by kernel_rfl)) (bk_cell hR311 hag e2 y (by kernel_rfl))
      rw [set_same hx, set_same hy] at this
      exact this
    · rw [if_neg (by simpa using (by assumption : cmp x y < 0))] at hqf
      refine sim_again (i, c) (by kernel_rfl) (by show c - i < j - i; omega) (by kernel_rfl) (by kernel_rfl) (by kernel_rfl) (fun m hm => absurd hm (by simp)) (hR312.cast (by kernel_rfl)) (by kernel_rfl) (by kernel_rfl) ⟨hi, by show i ≤ c; omega, by show c ≤ m; omega, ⟨f, by show c - i ≤ f; omega, hqf⟩, ?_⟩
      have := hrow.close2 (by omega) (by omega) (by omega) x y (bk_cell hR312 hag e1 x (by kernel_rfl)) (bk_cell hR312 hag e2 y (by kernel_rfl))
      rw [set_same hx, set_same hy] at this
      exact this
  · have hqi : i = q := by rw [← hqf, bs_off hlt]
    subst hqi
    refine sim_run 7 [] (hR2.cast (by kernel_rfl)) (by kernel_rfl) trivial (fun ρ600 w600 hm600 hR600 => ?_)
    have hrow := hrow.moved (hm600.castL (by kernel_rfl))
    have hag := hag.moved (hm600.castL (by kernel_rfl))
    refine sim_know 85 (decide ((↑(i, j).fst : Int) < (↑(i, j).snd : Int))) false (by kernel_rfl) (decide_eq_false (by omega)) ?_
    refine sim_run 1 [] (hR600.cast (by kernel_rfl)) (by kernel_rfl) trivial (fun ρ601 w601 hm601 hR601 => ?_)
    have hrow := hrow.moved (hm601.castL (by kernel_rfl))
    have hag := hag.moved (hm601.castL (by kernel_rfl))
    refine sim_leave (by kernel_rfl) ?_
    refine sim_run 7 [] (hR601.cast (by kernel_rfl)) (by kernel_rfl) trivial (fun ρ602 w602 hm602 hR602 => ?_)
    have hrow := hrow.moved (hm602.castL (by kernel_rfl))
    have hag := hag.moved (hm602.castL (by kernel_rfl))
    
    refine sim_loop (ι := Nat) (T := [h]) (w0 := w) 0 [0, 1, 2, 3, 4, 14] (fun n => [(17, LI ((m : Int) - n))]) (fun _ => []) (fun n w1 => n ≤ m - i ∧ Blk w1 h 55 (insts (shDn xs m n) ++ rest).toArray) (fun n => m - n) (by kernel_rfl) (by kernel_rfl) (hR602.cast (by kernel_rfl)) ⟨Nat.zero_le _, hrow.close0⟩ ?_
    iterate 12 (try clear hrow)
    iterate 12 (try clear hag)
    clear hm602 hR602 hblk
    rintro n d w6 hR6 ⟨hn, hblk⟩
    have hlen := shDn_len xs m n
    obtain ⟨ys, hys⟩ : ∃ ys, shDn xs m n = ys := ⟨_, rfl⟩
    rw [hys] at hblk hlen
    have hrow : RowI ρ602 [] w6 h ys rest [] := .start hblk _ _ rfl
    have hag := hR6.ag_ 0 (by kernel_rfl)
    by_cases hn2 : n < m - i
    · refine sim_seeI (m - n) 0 hrow hag (by kernel_rfl) (by omega) (by simp) (.inl (by simp)) hR6 (by kernel_rfl) [] (by kernel_rfl) (by simp) (fun x ρ1 hx ha1 e1 hag hR1 hrow => ?_)
      refine sim_seeI (m - n - 1) 1 hrow hag (by kernel_rfl) (by omega) (by simp; omega) (.inl (by simp)) hR1 (by kernel_rfl) [] (by kernel_rfl) (by simp) (fun y ρ2 hy ha2 e2 hag hR3 hrow => ?_)
      have e1 := (ha2 0 (by omega)).trans e1
      refine sim_run 7 [] hR3 (by kernel_rfl) trivial (fun ρ700 w700 hm700 hR700 => ?_)
      have hag := hag.moved (hm700.castL (by kernel_rfl))
      have hrow := hrow.moved (hm700.castL (by kernel_rfl))
      refine sim_know 110 (decide ((↑m : Int) - (↑n : Int) > (↑(i, j).fst : Int))) true (by kernel_rfl) (decide_eq_true (by omega)) ?_
      refine sim_run 4 [] (hR700.cast (by kernel_rfl)) (by kernel_rfl) trivial (fun ρ701 w701 hm701 hR701 => ?_)
      have hag := hag.moved (hm701.castL (by kernel_rfl))
      have hrow := hrow.moved (hm701.castL (by kernel_rfl))
      refine sim_draw [] (by kernel_rfl) (by kernel_rfl) hR701 (fun hR702 => ?_)
      have hrow := hrow.drew
      refine sim_ordN 8 [⟨23, 4, LI (IntKind.i64.wrap ((↑m : Int) - (↑n : Int) - 1)), LI ((↑m : Int) - (↑n : Int) - 1)⟩, ⟨23, 7, LI (IntKind.i64.wrap ((↑m : Int) - (↑n : Int) - 1)), LI ((↑m : Int) - (↑n : Int) - 1)⟩] hR702 (by kernel_rfl) ⟨eqi (IntWalk.i64_in _ (by omega)), eqi (IntWalk.i64_in _ (by omega)), trivial⟩ (fun ρ703 w703 hm703 hR703 => ?_)
      have hag := hag.moved (hm703.castL (by kernel_rfl))
      have hrow := hrow.moved (hm703.castL (by kernel_rfl))
      refine sim_ord_index (.v (.slice (some ⟨h, 0, none⟩) len cap)) len 21 ((m : Int) - n - 1) 1 0 (by kernel_rfl) (by omega) (by omega) rfl hR703 (by simp only [Nm.at_, hag.at_ 1 (by omega), e2]; congr 1; omega) (fun hR704 => ?_)
      refine sim_ordN 3 [] hR704 (by kernel_rfl) trivial (fun ρ705 w705 hm705 hR705 => ?_)
      have hag := hag.moved (hm705.castL (by kernel_rfl))
      have hrow := hrow.moved (hm705.castL (by kernel_rfl))
      refine sim_ord_index (.v (.slice (some ⟨h, 0, none⟩) len cap)) len 21 ((m : Int) - n) 0 0 (by kernel_rfl) (by omega) (by omega) rfl hR705 (by simp only [Nm.at_, hag.at_ 0 (by omega), e1]; congr 1; omega) (fun hR706 => ?_)
      refine sim_ordN 1 [] hR706 (by kernel_rfl) trivial (fun ρ707 w707 hm707 hR707 => ?_)
      have hag := hag.moved (hm707.castL (by kernel_rfl))
      have hrow := hrow.moved (hm707.castL (by kernel_rfl))
      refine sim_ord_index (.v (.slice (some ⟨h, 0, none⟩) len cap)) len 21 ((m : Int) - n) 0 0 (by kernel_rfl) (by omega) (by omega) rfl hR707 (by simp only [Nm.at_, hag.at_ 0 (by omega), e1]; congr 1; omega) (fun hR708 => ?_)
      refine sim_ordN 1 [] hR708 (by kernel_rfl) trivial (fun ρ709 w709 hm709 hR709 => ?_)
      have hag := hag.moved (hm709.castL (by kernel_rfl))
      have hrow := hrow.moved (hm709.castL (by kernel_rfl))
      refine sim_ord_index (.v (.slice (some ⟨h, 0, none⟩) len cap)) len 21 ((m : Int) - n - 1) 1 0 (by kernel_rfl) (by omega) (by omega) rfl hR709 (by simp only [Nm.at_, hag.at_ 1 (by omega), e2]; congr 1; omega) (fun hR710 => ?_)
      refine sim_ordN 1 [] hR710 (by kernel_rfl) trivial (fun ρ711 w711 hm711 hR711 => ?_)
      have hag := hag.moved (hm711.castL (by kernel_rfl))
      have hrow := hrow.moved (hm711.castL (by kernel_rfl))
      refine sim_ord_endR hR711 (by kernel_rfl) (fun hR712 => ?_)
      refine sim_run 6 [⟨22, 1, LI (IntKind.i64.wrap ((↑m : Int) - (↑n : Int) - 1)), LI ((↑m : Int) - (↑n : Int) - 1)⟩] hR712 (by kernel_rfl) ⟨eqi (IntWalk.i64_in _ (by omega)), trivial⟩ (fun ρ713 w713 hm713 hR713 => ?_)
      have hag := hag.moved (hm713.castL (by kernel_rfl))
      have hrow := hrow.moved (hm713.castL (by kernel_rfl))
      
      refine sim_int 17 (k := .i64) ((m : Int) - n - 1) ((m : Int) - ((n + 1 : Nat) : Int)) (by kernel_rfl) (by omega) ?_
      refine sim_again (n + 1) (by kernel_rfl) (by show m - (n + 1) < m - n; omega) (by kernel_rfl) (by kernel_rfl) (by kernel_rfl) (fun m hm => absurd hm (by simp)) (hR713.cast (by kernel_rfl)) (by kernel_rfl) (by kernel_rfl) ⟨hn2, ?_⟩
      rw [shDn, hys, ← swp_get hx hy]
      exact hrow.close2 (by omega) (by omega) (by omega) y x (bk_cell hR713 hag e1 y (by kernel_rfl)) (bk_cell hR713 hag e2 x (by kernel_rfl))
    · refine sim_run 7 [] (hR6.cast (by kernel_rfl)) (by kernel_rfl) trivial (fun ρ800 w800 hm800 hR800 => ?_)
      have hrow := hrow.moved (hm800.castL (by kernel_rfl))
      have hag := hag.moved (hm800.castL (by kernel_rfl))
      refine sim_know 110 (decide ((↑m : Int) - (↑n : Int) > (↑(i, j).fst : Int))) false (by kernel_rfl) (decide_eq_false (by omega)) ?_
      refine sim_run 1 [] (hR800.cast (by kernel_rfl)) (by kernel_rfl) trivial (fun ρ801 w801 hm801 hR801 => ?_)
      have hrow := hrow.moved (hm801.castL (by kernel_rfl))
      have hag := hag.moved (hm801.castL (by kernel_rfl))
      refine sim_leave (by kernel_rfl) ?_
      refine sim_ret (.tup []) (hR801.cast (by kernel_rfl)) (by kernel_rfl) (by kernel_rfl) ?_
      
      obtain rfl : n = m - i := by omega
      rw [hys]
      exact ⟨rfl, hrow.close0, hR801.keeps.kept⟩
end
end

section
open Go Go.RowKit
attribute [local irreducible] run goO goN ordGoN eqlOf eqlOper eqlOfO cellL leaveK someK nextK nextT nextOT nextOD loopBody loopRest loopK fillJ tmplOf tmplJ mergeT At AtO drawOk ordOf gateOf callC callO topOp topO idxOf appOf storeOf clearOf sliceOf calleeOf calleeO topQ idxQ newRowOf resL stepOp seek

section
variable (g : FuncId) (hg : Enters Try.prog g) (caps : Array Value) (cmp : In → In → Int) (hcmp : CmpAll g caps cmp) (h len cap : Nat) (rest : List Value) (hmax : len ≤ 1000000)
include hg hcmp hmax
set_option maxHeartbeats 4000000 in
set_option maxRecDepth 100000 in
theorem merge_mid (f : Nat) (ih : MrgAt g caps cmp h len cap rest f) (xs : List In) (a m b : Nat) (w : World) (hbf : b - a ≤ f + 1) (ham : a < m) (hmb : m < b) (hb : b ≤ len) (hl : xs.length = len) (hok : ∀ x ∈ xs, x.ok) (hblk : Blk w h 55 (insts xs ++ rest).toArray) (h1 : ¬m - a = 1) (h2 : ¬b - m = 1) :
    Calls Try.prog 76 #[.slice (some ⟨h, 0, none⟩) len cap, .int .i64 a, .int .i64 m, .int .i64 b, .func (.func g) #[] caps] w (RowPost w h rest (symM (ltC cmp) (f + 1) xs a m b)) := by
  refine sim_enter Try.func76 ρ0 [.v (.slice (some ⟨h, 0, none⟩) len cap), LI a, LI m, LI b, .v (.func (.func g) #[] caps)] [] (by kernel_rfl) rfl ?_
  have hR := Rel.start [h] w ρ0
  have hrow : RowI ρ0 [] w h xs rest [] := .start hblk _ _ rfl
  rw [symM, if_neg h1, if_neg h2]
  dsimp only
  obtain ⟨mid, hmid⟩ : ∃ q, (a + b) / 2 = q := ⟨_, rfl⟩
  rw [hmid]
  obtain ⟨s0, r0, hs0, hq⟩ : ∃ s0 r0, (if m > mid then s0 = mid + m - b ∧ r0 = mid else s0 = a ∧ r0 = m) ∧ (if m > mid then bsM (fun c => !ltAt (ltC cmp) xs (mid + m - 1 - c) c) (mid - (mid + m - b)) (mid + m - b) mid else bsM (fun c => !ltAt (ltC cmp) xs (mid + m - 1 - c) c) (m - a) a m) = bsM (fun c => !ltAt (ltC cmp) xs (mid + m - 1 - c) c) (r0 - s0) s0 r0 := by
    by_cases hm : m > mid
    · exact ⟨mid + m - b, mid, by rw [if_pos hm]; exact ⟨rfl, rfl⟩, by rw [if_pos hm]⟩
    · exact ⟨a, m, by rw [if_neg hm]; exact ⟨rfl, rfl⟩, by rw [if_neg hm]⟩
  rw [hq]
  obtain ⟨s, hs⟩ : ∃ s, bsM (fun c => !ltAt (ltC cmp) xs (mid + m - 1 - c) c) (r0 - s0) s0 r0 = s := ⟨_, rfl⟩
  rw [hs]
  have hb0 : a ≤ s0 ∧ s0 ≤ r0 ∧ r0 ≤ m ∧ r0 ≤ mid + 1 ∧ mid + m ≤ b + s0 ∧ r0 + r0 ≤ mid + m := by
    split at hs0 <;> omega
  refine sim_meet (ι := Unit) (T := [h]) (w0 := w) (regK Try.f76 32) (fun _ => tmplJ Try.f76.ntmps 0 [(0, .v (.slice (some ⟨h, 0, none⟩) len cap)), (1, LI a), (2, LI m), (3, LI b), (4, .v (.func (.func g) #[] caps)), (18, LI mid), (19, LI ((mid : Int) + m)), (20, LI s0), (21, LI r0)]) [] (fun _ _ w1 => Blk w1 h 55 (insts xs ++ rest).toArray) (fun _ ρ1 w1 d hR1 hblk => ?_) (fun meet => ?_)
  rotate_left
  · refine sim_run 8 [⟨0, 2, LI (IntKind.i64.wrap ((↑m : Int) - (↑a : Int))), LI ((↑m : Int) - (↑a : Int))⟩] (hR.cast (by kernel_rfl)) (by kernel_rfl) ⟨eqi (IntWalk.i64_in _ (by omega)), trivial⟩ (fun ρ100 w100 hm100 hR100 => ?_)
    have hrow := hrow.moved (hm100.castL (by kernel_rfl))
    refine sim_know 28 ((↑m : Int) - (↑a : Int) == 1) false (by kernel_rfl) (decide_eq_false (by omega)) ?_
    refine sim_run 10 [⟨12, 2, LI (IntKind.i64.wrap ((↑b : Int) - (↑m : Int))), LI ((↑b : Int) - (↑m : Int))⟩] (hR100.cast (by kernel_rfl)) (by kernel_rfl) ⟨eqi (IntWalk.i64_in _ (by omega)), trivial⟩ (fun ρ101 w101 hm101 hR101 => ?_)
    have hrow := hrow.moved (hm101.castL (by kernel_rfl))
    refine sim_know 80 ((↑b : Int) - (↑m : Int) == 1) false (by kernel_rfl) (decide_eq_false (by omega)) ?_
    refine sim_run 14 [⟨24, 2, LI (IntKind.i64.wrap ((↑a : Int) + (↑b : Int))), LI ((↑a : Int) + (↑b : Int))⟩, ⟨24, 3, (.v (.int .u64 (IntKind.u64.wrap ((↑a : Int) + (↑b : Int))))), (.v (.int .u64 ((↑a : Int) + (↑b : Int))))⟩, ⟨24, 4, (.v (.int .u64 (((↑a : Int) + (↑b : Int)).fdiv (2 ^ min (Int.toNat 1) IntKind.u64.bits)))), (.v (.int .u64 (((↑a : Int) + (↑b : Int)) / 2)))⟩, ⟨24, 5, LI (IntKind.i64.wrap (((↑a : Int) + (↑b : Int)) / 2)), LI (((↑a : Int) + (↑b : Int)) / 2)⟩] (hR101.cast (by kernel_rfl)) (by kernel_rfl) ⟨eqi (IntWalk.i64_in _ (by omega)), eqi (IntWalk.u64_in _ (by omega)), eqi (shr_lit _ _ 2 (by kernel_rfl)), eqi (IntWalk.i64_in _ (by omega)), trivial⟩ (fun ρ102 w102 hm102 hR102 => ?_)
    have hrow := hrow.moved (hm102.castL (by kernel_rfl))
    
    refine sim_int 18 (k := .i64) (((a : Int) + b) / 2) (mid : Int) (by kernel_rfl) (by omega) ?_
    by_cases hm : m > mid
    · rw [if_pos hm] at hs0
      refine sim_run 17 [⟨25, 2, LI (IntKind.i64.wrap ((↑mid : Int) + (↑m : Int))), LI ((↑mid : Int) + (↑m : Int))⟩] (hR102.cast (by kernel_rfl)) (by kernel_rfl) ⟨eqi (IntWalk.i64_in _ (by omega)), trivial⟩ (fun ρ200 w200 hm200 hR200 => ?_)
      have hrow := hrow.moved (hm200.castL (by kernel_rfl))
      refine sim_know 140 (decide ((↑m : Int) > (↑mid : Int))) true (by kernel_rfl) (decide_eq_true (by omega)) ?_
      refine sim_run 14 [⟨28, 2, LI (IntKind.i64.wrap ((↑mid : Int) + (↑m : Int) - (↑b : Int))), LI ((↑mid : Int) + (↑m : Int) - (↑b : Int))⟩] (hR200.cast (by kernel_rfl)) (by kernel_rfl) ⟨eqi (IntWalk.i64_in _ (by omega)), trivial⟩ (fun ρ201 w201 hm201 hR201 => ?_)
      have hrow := hrow.moved (hm201.castL (by kernel_rfl))
      
      refine sim_int 20 (k := .i64) ((mid : Int) + m - b) (s0 : Int) (by kernel_rfl) (by omega) ?_
      refine sim_int 21 (k := .i64) (mid : Int) (r0 : Int) (by kernel_rfl) (by omega) ?_
      exact meet _ () _ _ (by kernel_rfl) (by kernel_rfl) (by kernel_rfl) (hR201.cast (by kernel_rfl)) hrow.close0
    · rw [if_neg hm] at hs0
      refine sim_run 17 [⟨25, 2, LI (IntKind.i64.wrap ((↑mid : Int) + (↑m : Int))), LI ((↑mid : Int) + (↑m : Int))⟩] (hR102.cast (by kernel_rfl)) (by kernel_rfl) ⟨eqi (IntWalk.i64_in _ (by omega)), trivial⟩ (fun ρ300 w300 hm300 hR300 => ?_)
      have hrow := hrow.moved (hm300.castL (by kernel_rfl))
      refine sim_know 140 (decide ((↑m : Int) > (↑mid : Int))) false (by kernel_rfl) (decide_eq_false (by omega)) ?_
      refine sim_run 12 [] (hR300.cast (by kernel_rfl)) (by kernel_rfl) trivial (fun ρ301 w301 hm301 hR301 => ?_)
      have hrow := hrow.moved (hm301.castL (by kernel_rfl))
      
      refine sim_int 20 (k := .i64) (a : Int) (s0 : Int) (by kernel_rfl) (by omega) ?_
      refine sim_int 21 (k := .i64) (m : Int) (r0 : Int) (by kernel_rfl) (by omega) ?_
      exact meet _ () _ _ (by kernel_rfl) (by kernel_rfl) (by kernel_rfl) (hR301.cast (by kernel_rfl)) hrow.close0
  iterate 3 (try clear hrow)
  clear hs0 hq hR
  have hrow : RowI ρ1 [] w1 h xs rest [] := .start hblk _ _ rfl
  refine sim_run 6 [⟨32, 1, LI (IntKind.i64.wrap ((↑mid : Int) + (↑m : Int) - 1)), LI ((↑mid : Int) + (↑m : Int) - 1)⟩] hR1 (by kernel_rfl) ⟨eqi (IntWalk.i64_in _ (by omega)), trivial⟩ (fun ρ400 w400 hm400 hR400 => ?_)
  have hrow := hrow.moved (hm400.castL (by kernel_rfl))
  
  refine sim_loop (ι := Nat × Nat) (T := [h]) (w0 := w) (s0, r0) [0, 1, 2, 3, 4, 18, 19, 22] (fun x => [(20, LI x.1), (21, LI x.2)]) (fun _ => []) (fun x w1 => s0 ≤ x.1 ∧ x.1 ≤ x.2 ∧ x.2 ≤ r0 ∧ (∃ f, x.2 - x.1 ≤ f ∧ bsM (fun c => !ltAt (ltC cmp) xs (mid + m - 1 - c) c) f x.1 x.2 = s) ∧ Blk w1 h 55 (insts xs ++ rest).toArray) (fun x => x.2 - x.1) (by kernel_rfl) (by kernel_rfl) (hR400.cast (by kernel_rfl)) ⟨Nat.le_refl _, by show s0 ≤ r0; omega, Nat.le_refl _, ⟨r0 - s0, Nat.le_refl _, hs⟩, hrow.close0⟩ ?_
  iterate 6 (try clear hrow)
  clear hR400 hm400 hR1 hblk
  rintro ⟨i, j⟩ d5 w2 hR2 ⟨hi, hij, hj, ⟨f5, hf, hqf⟩, hblk⟩
  dsimp only at hi hij hj hf hqf
  have hrow : RowI ρ400 [] w2 h xs rest [] := .start hblk _ _ rfl
  have hag := hR2.ag_ 0 (by kernel_rfl)
  by_cases hlt : i < j
  · obtain ⟨f5, rfl⟩ : ∃ f', f5 = f' + 1 := ⟨f5 - 1, by omega⟩
    rw [bs_on hlt hf] at hqf
    obtain ⟨c, hc⟩ : ∃ c, (i + j) / 2 = c := ⟨_, rfl⟩
    rw [hc] at hqf
    refine sim_seeI (mid + m - 1 - c) 0 hrow hag (by kernel_rfl) (by omega) (by simp) (.inl (by simp)) hR2 (by kernel_rfl) [] (by kernel_rfl) (by simp) (fun x ρ1 hx ha1 e1 hag hR1 hrow => ?_)
    refine sim_seeI c 1 hrow hag (by kernel_rfl) (by omega) (by simp; omega) (.inl (by simp)) hR1 (by kernel_rfl) [] (by kernel_rfl) (by simp) (fun y ρ2 hy ha2 e2 hag hR3 hrow => ?_)
    have e1 := (ha2 0 (by omega)).trans e1
    rw [ltAt_of hx hy, show (!ltC cmp x y) = !decide (cmp x y < 0) from rfl] at hqf
    refine sim_run 7 [] hR3 (by kernel_rfl) trivial (fun ρ500 w500 hm500 hR500 => ?_)
    have hag := hag.moved (hm500.castL (by kernel_rfl))
    have hrow := hrow.moved (hm500.castL (by kernel_rfl))
    refine sim_know 151 (decide ((↑(i, j).fst : Int) < (↑(i, j).snd : Int))) true (by kernel_rfl) (decide_eq_true (by omega)) ?_
    refine sim_run 11 [⟨34, 2, LI (IntKind.i64.wrap ((↑(i, j).fst : Int) + (↑(i, j).snd : Int))), LI ((↑(i, j).fst : Int) + (↑(i, j).snd : Int))⟩, ⟨34, 3, (.v (.int .u64 (IntKind.u64.wrap ((↑(i, j).fst : Int) + (↑(i, j).snd : Int))))), (.v (.int .u64 ((↑(i, j).fst : Int) + (↑(i, j).snd : Int))))⟩, ⟨34, 4, (.v (.int .u64 (((↑(i, j).fst : Int) + (↑(i, j).snd : Int)).fdiv (2 ^ min (Int.toNat 1) IntKind.u64.bits)))), (.v (.int .u64 (((↑(i, j).fst : Int) + (↑(i, j).snd : Int)) / 2)))⟩, ⟨34, 5, LI (IntKind.i64.wrap (((↑(i, j).fst : Int) + (↑(i, j).snd : Int)) / 2)), LI (((↑(i, j).fst : Int) + (↑(i, j).snd : Int)) / 2)⟩] (hR500.cast (by kernel_rfl)) (by kernel_rfl) ⟨eqi (IntWalk.i64_in _ (by omega)), eqi (IntWalk.u64_in _ (by omega)), eqi (shr_lit _ _ 2 (by kernel_rfl)), eqi (IntWalk.i64_in _ (by omega)), trivial⟩ (fun ρ501 w501 hm501 hR501 => ?_)
    have hag := hag.moved (hm501.castL (by kernel_rfl))
    have hrow := hrow.moved (hm501.castL (by kernel_rfl))
    
    refine sim_int 157 (k := .i64) (((i : Int) + j) / 2) (c : Int) (by kernel_rfl) (by omega) ?_
    refine sim_run 3 [] (hR501.cast (by kernel_rfl)) (by kernel_rfl) trivial (fun ρ600 w600 hm600 hR600 => ?_)
    have hag := hag.moved (hm600.castL (by kernel_rfl))
    have hrow := hrow.moved (hm600.castL (by kernel_rfl))
    refine sim_draw [] (by kernel_rfl) (by kernel_rfl) hR600 (fun hR601 => ?_)
    have hrow := hrow.drew
    refine sim_ordN 5 [⟨35, 4, LI (IntKind.i64.wrap ((↑mid : Int) + (↑m : Int) - 1 - (↑c : Int))), LI ((↑mid : Int) + (↑m : Int) - 1 - (↑c : Int))⟩] hR601 (by kernel_rfl) ⟨eqi (IntWalk.i64_in _ (by omega)), trivial⟩ (fun ρ602 w602 hm602 hR602 => ?_)
    have hag := hag.moved (hm602.castL (by kernel_rfl))
    have hrow := hrow.moved (hm602.castL (by kernel_rfl))
    refine sim_ord_index (.v (.slice (some ⟨h, 0, none⟩) len cap)) len 21 ((mid : Int) + m - 1 - c) 0 0 (by kernel_rfl) (by omega) (by omega) rfl hR602 (by simp only [Nm.at_, hag.at_ 0 (by omega), e1]; congr 1; omega) (fun hR603 => ?_)
    refine sim_ordN 3 [] hR603 (by kernel_rfl) trivial (fun ρ604 w604 hm604 hR604 => ?_)
    have hag := hag.moved (hm604.castL (by kernel_rfl))
    have hrow := hrow.moved (hm604.castL (by kernel_rfl))
    refine sim_ord_index (.v (.slice (some ⟨h, 0, none⟩) len cap)) len 21 ((c : Int)) 1 0 (by kernel_rfl) (by omega) (by omega) rfl hR604 (by simp only [Nm.at_, hag.at_ 1 (by omega), e2]; congr 1; omega) (fun hR605 => ?_)
    refine sim_ordN 1 [] hR605 (by kernel_rfl) trivial (fun ρ606 w606 hm606 hR606 => ?_)
    have hag := hag.moved (hm606.castL (by kernel_rfl))
    have hrow := hrow.moved (hm606.castL (by kernel_rfl))
    refine sim_ord_callF (T := [h]) (w0 := w) g caps (.v (Value.func (Fn.func g) (Array.mk []) caps)) [.agg [LI x.id, LS x.term.party, LS x.term.account, LS x.term.money, LS x.term.other, LB x.term.deliver, LS x.term.asset, LS x.term.ccy, LS x.term.ref, LI x.term.qty, LI x.term.amount, LI x.term.day, LI x.term.trade, LI x.prio, LB x.part, LB x.held, LB x.wish, LI x.state, LI x.mate, LI x.done, LI x.paid], .agg [LI y.id, LS y.term.party, LS y.term.account, LS y.term.money, LS y.term.other, LB y.term.deliver, LS y.term.asset, LS y.term.ccy, LS y.term.ref, LI y.term.qty, LI y.term.amount, LI y.term.day, LI y.term.trade, LI y.prio, LB y.part, LB y.held, LB y.wish, LI y.state, LI y.mate, LI y.done, LI y.paid]] (by kernel_rfl) rfl hg (Calls.mono (hcmp x y _ (hok _ (List.mem_of_getElem? hx)) (hok _ (List.mem_of_getElem? hy))) ?_)
    rintro e607 w607 ⟨rfl, hb607⟩
    have hR607 := hR606.call hb607 (LI (cmp x y))
    have hrow := hrow.below hb607
    refine BackO.of _ hR607 rfl ?_
    refine sim_ordN 2 [] hR607 (by kernel_rfl) trivial (fun ρ608 w608 hm608 hR608 => ?_)
    have hag := hag.moved (hm608.castL (by kernel_rfl))
    have hrow := hrow.moved (hm608.castL (by kernel_rfl))
    refine sim_ord_endR hR608 (by kernel_rfl) (fun hR609 => ?_)
    refine sim_fork 171 (!decide (cmp x y < 0)) (by kernel_rfl) (fun hq610 => ?_) (fun hq610 => ?_)
    have hq610 := nb_t hq610
    have hq610 := of_decide_eq_false hq610
    refine sim_run 7 [⟨36, 1, LI (IntKind.i64.wrap ((↑c : Int) + 1)), LI ((↑c : Int) + 1)⟩] (hR609.cast (by kernel_rfl)) (by kernel_rfl) ⟨eqi (IntWalk.i64_in _ (by omega)), trivial⟩ (fun ρ611 w611 hm611 hR611 => ?_)
    have hag := hag.moved (hm611.castL (by kernel_rfl))
    have hrow := hrow.moved (hm611.castL (by kernel_rfl))
    rotate_left
    have hq610 := nb_f hq610
    have hq610 := of_decide_eq_true hq610
    refine sim_run 6 [] (hR609.cast (by kernel_rfl)) (by kernel_rfl) trivial (fun ρ612 w612 hm612 hR612 => ?_)
    have hag := hag.moved (hm612.castL (by kernel_rfl))
    have hrow := hrow.moved (hm612.castL (by kernel_rfl))
    rotate_left
    
    · rw [if_pos (by simpa using (by assumption : ¬cmp x y < 0))] at hqf
      refine sim_again (c + 1, j) (by kernel_rfl) (by show j - (c + 1) < j - i; omega) (by kernel_rfl) (by kernel_rfl) (by kernel_rfl) (fun m hm => absurd hm (by simp)) (hR611.cast (by kernel_rfl)) (by kernel_rfl) (by kernel_rfl) ⟨by show s0 ≤ c + 1; omega, by show c + 1 ≤ j; omega, hj, ⟨f5, by show j - (c + 1) ≤ f5; omega, hqf⟩, ?_⟩
      have := hrow.close2 (by omega) (by omega) (by omega) x y (bk_cell hR611 hag e1 x (by kernel_rfl)) (bk_cell hR611 hag e2 y (by kernel_rfl))
      rw [set_same hx, set_same hy] at this
      exact this
    · rw [if_neg (by simpa using (by assumption : cmp x y < 0))] at hqf
      refine sim_again (i, c) (by kernel_rfl) (by show c - i < j - i; omega) (by kernel_rfl) (by kernel_rfl) (by kernel_rfl) (fun m hm => absurd hm (by simp)) (hR612.cast (by kernel_rfl)) (by kernel_rfl) (by kernel_rfl) ⟨hi, by show i ≤ c; omega, by show c ≤ r0; omega, ⟨f5, by show c - i ≤ f5; omega, hqf⟩, ?_⟩
      have := hrow.close2 (by omega) (by omega) (by omega) x y (bk_cell hR612 hag e1 x (by kernel_rfl)) (bk_cell hR612 hag e2 y (by kernel_rfl))
      rw [set_same hx, set_same hy] at this
      exact this
  · have hqi : i = s := by rw [← hqf, bs_off hlt]
    subst hqi
    refine sim_run 7 [] (hR2.cast (by kernel_rfl)) (by kernel_rfl) trivial (fun ρ700 w700 hm700 hR700 => ?_)
    have hrow := hrow.moved (hm700.castL (by kernel_rfl))
    have hag := hag.moved (hm700.castL (by kernel_rfl))
    refine sim_know 151 (decide ((↑(i, j).fst : Int) < (↑(i, j).snd : Int))) false (by kernel_rfl) (decide_eq_false (by omega)) ?_
    refine sim_run 1 [] (hR700.cast (by kernel_rfl)) (by kernel_rfl) trivial (fun ρ701 w701 hm701 hR701 => ?_)
    have hrow := hrow.moved (hm701.castL (by kernel_rfl))
    have hag := hag.moved (hm701.castL (by kernel_rfl))
    refine sim_leave (by kernel_rfl) ?_
    refine sim_run 10 [⟨38, 2, LI (IntKind.i64.wrap ((↑mid : Int) + (↑m : Int) - (↑(i, j).fst : Int))), LI ((↑mid : Int) + (↑m : Int) - (↑(i, j).fst : Int))⟩] (hR701.cast (by kernel_rfl)) (by kernel_rfl) ⟨eqi (IntWalk.i64_in _ (by omega)), trivial⟩ (fun ρ702 w702 hm702 hR702 => ?_)
    have hrow := hrow.moved (hm702.castL (by kernel_rfl))
    have hag := hag.moved (hm702.castL (by kernel_rfl))
    
    obtain ⟨e, he⟩ : ∃ e, mid + m - i = e := ⟨_, rfl⟩
    rw [he]
    refine sim_int 24 (k := .i64) ((mid : Int) + m - i) (e : Int) (by kernel_rfl) (by omega) ?_
    have hR7 := hR702
    have hb2 : a ≤ i ∧ i ≤ m := by omega
    have hrow7 := hrow.close0
    iterate 6 (try clear hrow)
    iterate 6 (try clear hag)
    clear hqf hs hf hblk hR2
    have hrow := RowI.at_ hR7 hrow7 (by kernel_rfl)
    obtain ⟨ys, hys⟩ : ∃ ys, (if i < m ∧ m < e then rotM m (e - i) xs (m - i) (e - m) else xs) = ys := ⟨_, rfl⟩
    have hyl : ys.length = len := by rw [← hys]; split; rw [rotM_len]; exact hl; exact hl
    have hyok : ∀ x ∈ ys, x.ok := by rw [← hys]; split; exact rotM_all _ _ _ _ _ hok; exact hok
    rw [hys]
    refine sim_meet (ι := Unit) (T := [h]) (w0 := w) (regK Try.f76 41) (fun _ => tmplJ Try.f76.ntmps 0 [(0, .v (.slice (some ⟨h, 0, none⟩) len cap)), (1, LI a), (2, LI m), (3, LI b), (4, .v (.func (.func g) #[] caps)), (18, LI mid), (20, LI i), (24, LI e)]) [] (fun _ _ w1 => Blk w1 h 55 (insts ys ++ rest).toArray) (fun _ ρ8 w8 d8 hR8 hblk8 => ?_) (fun meet => ?_)
    rotate_left
    · by_cases c1 : i < m ∧ m < e
      · rw [if_pos c1] at hys
        have c11 := c1.1
        have c12 := c1.2
        refine sim_run 4 [] (hR7.cast (by kernel_rfl)) (by kernel_rfl) trivial (fun ρ800 w800 hm800 hR800 => ?_)
        have hrow := hrow.moved (hm800.castL (by kernel_rfl))
        refine sim_know 181 (decide ((↑(i, j).fst : Int) < (↑m : Int))) true (by kernel_rfl) (decide_eq_true (by omega)) ?_
        refine sim_run 5 [] (hR800.cast (by kernel_rfl)) (by kernel_rfl) trivial (fun ρ801 w801 hm801 hR801 => ?_)
        have hrow := hrow.moved (hm801.castL (by kernel_rfl))
        refine sim_know 185 (decide ((↑m : Int) < (↑e : Int))) true (by kernel_rfl) (decide_eq_true (by omega)) ?_
        refine sim_run 7 [] (hR801.cast (by kernel_rfl)) (by kernel_rfl) trivial (fun ρ802 w802 hm802 hR802 => ?_)
        have hrow := hrow.moved (hm802.castL (by kernel_rfl))
        refine sim_call 89 [.v (Value.slice (some (Addr.mk h 0 none)) len cap), LI ((↑(i, j).fst : Int)), LI ((↑m : Int)), LI ((↑e : Int)), .v (Value.func (Fn.func g) (Array.mk []) caps)] (by kernel_rfl) ?_
        refine Calls.mono (rotate_any (h) (len) (cap) (xs) (rest) (i) (m) (e) _ ((by omega)) ((by omega)) ((by omega)) (hl) (hmax) _ (hrow.close0)) ?_
        rintro e803 w803 ⟨rfl, hblk803, hk803⟩
        have hR803 := hR802.kept hk803 (fun n r hn => (noReg (by kernel_rfl) hn).elim) (fun x hx => .inl hx)
        have hrow := RowI.at_ hR803 hblk803 (by kernel_rfl)
        refine Back.of (.tup []) hR803 rfl ?_
        refine sim_run 4 [] (hR803.cast (by kernel_rfl)) (by kernel_rfl) trivial (fun ρ804 w804 hm804 hR804 => ?_)
        have hrow := hrow.moved (hm804.castL (by kernel_rfl))
        
        rw [hys] at hrow
        exact meet _ () _ _ (by kernel_rfl) (by kernel_rfl) (by kernel_rfl) (hR804.cast (by kernel_rfl)) hrow.close0
      · rw [if_neg c1] at hys
        subst hys
        refine sim_run 4 [] (hR7.cast (by kernel_rfl)) (by kernel_rfl) trivial (fun ρ900 w900 hm900 hR900 => ?_)
        have hrow := hrow.moved (hm900.castL (by kernel_rfl))
        refine sim_fork 181 (decide ((↑(i, j).fst : Int) < (↑m : Int))) (by kernel_rfl) (fun hq901 => ?_) (fun hq901 => ?_)
        have hq901 := of_decide_eq_true hq901
        refine sim_run 5 [] (hR900.cast (by kernel_rfl)) (by kernel_rfl) trivial (fun ρ902 w902 hm902 hR902 => ?_)
        have hrow := hrow.moved (hm902.castL (by kernel_rfl))
        refine sim_know 185 (decide ((↑m : Int) < (↑e : Int))) false (by kernel_rfl) (decide_eq_false (by omega)) ?_
        refine sim_run 5 [] (hR902.cast (by kernel_rfl)) (by kernel_rfl) trivial (fun ρ903 w903 hm903 hR903 => ?_)
        have hrow := hrow.moved (hm903.castL (by kernel_rfl))
        rotate_left
        have hq901 := of_decide_eq_false hq901
        refine sim_run 10 [] (hR900.cast (by kernel_rfl)) (by kernel_rfl) trivial (fun ρ904 w904 hm904 hR904 => ?_)
        have hrow := hrow.moved (hm904.castL (by kernel_rfl))
        rotate_left
        
        all_goals exact meet _ () _ _ (by kernel_rfl) (by kernel_rfl) (by kernel_rfl) (Rel.cast (by assumption) (by kernel_rfl)) hrow.close0
    iterate 9 (try clear hrow)
    clear hys hrow7 hR7
    have hrow : RowI ρ8 [] w8 h ys rest [] := .start hblk8 _ _ rfl
    obtain ⟨zs, hzs⟩ : ∃ zs, (if a < i ∧ i < mid then symM (ltC cmp) f ys a i mid else ys) = zs := ⟨_, rfl⟩
    have hzl : zs.length = len := by rw [← hzs]; split; rw [symM_len]; exact hyl; exact hyl
    have hzok : ∀ x ∈ zs, x.ok := by rw [← hzs]; split; exact symM_all _ _ _ _ _ _ hyok; exact hyok
    rw [hzs]
    refine sim_meet (ι := Unit) (T := [h]) (w0 := w) (regK Try.f76 43) (fun _ => tmplJ Try.f76.ntmps 0 [(0, .v (.slice (some ⟨h, 0, none⟩) len cap)), (1, LI a), (2, LI m), (3, LI b), (4, .v (.func (.func g) #[] caps)), (18, LI mid), (20, LI i), (24, LI e)]) [] (fun _ _ w1 => Blk w1 h 55 (insts zs ++ rest).toArray) (fun _ ρ10 w10 d10 hR10 hblk10 => ?_) (fun meet => ?_)
    rotate_left
    · by_cases c2 : a < i ∧ i < mid
      · rw [if_pos c2] at hzs
        have c21 := c2.1
        have c22 := c2.2
        refine sim_run 4 [] hR8 (by kernel_rfl) trivial (fun ρ1000 w1000 hm1000 hR1000 => ?_)
        have hrow := hrow.moved (hm1000.castL (by kernel_rfl))
        refine sim_know 195 (decide ((↑a : Int) < (↑i : Int))) true (by kernel_rfl) (decide_eq_true (by omega)) ?_
        refine sim_run 5 [] (hR1000.cast (by kernel_rfl)) (by kernel_rfl) trivial (fun ρ1001 w1001 hm1001 hR1001 => ?_)
        have hrow := hrow.moved (hm1001.castL (by kernel_rfl))
        refine sim_know 199 (decide ((↑i : Int) < (↑mid : Int))) true (by kernel_rfl) (decide_eq_true (by omega)) ?_
        refine sim_run 7 [] (hR1001.cast (by kernel_rfl)) (by kernel_rfl) trivial (fun ρ1002 w1002 hm1002 hR1002 => ?_)
        have hrow := hrow.moved (hm1002.castL (by kernel_rfl))
        
        refine sim_call 76 [.v (.slice (some ⟨h, 0, none⟩) len cap), LI a, LI i, LI mid, .v (.func (.func g) #[] caps)] (by kernel_rfl) ?_
        refine (ih ys a i mid _ (by omega) c2.1 c2.2 (by omega) (by assumption) (by assumption) hrow.close0).mono ?_
        rintro ee w910 ⟨rfl, hblk9, hk9⟩
        have hR910 := hR1002.kept hk9 (fun n r hn => (noReg (by kernel_rfl) hn).elim) (fun x hx => .inl hx)
        have hrow := RowI.at_ hR910 hblk9 (by kernel_rfl)
        refine Back.of (.tup []) hR910 rfl ?_
        refine sim_run 3 [] (hR910.cast (by kernel_rfl)) (by kernel_rfl) trivial (fun ρ1100 w1100 hm1100 hR1100 => ?_)
        have hrow := hrow.moved (hm1100.castL (by kernel_rfl))
        
        rw [hzs] at hrow
        exact meet _ () _ _ (by kernel_rfl) (by kernel_rfl) (by kernel_rfl) (hR1100.cast (by kernel_rfl)) hrow.close0
      · rw [if_neg c2] at hzs
        subst hzs
        refine sim_run 4 [] hR8 (by kernel_rfl) trivial (fun ρ1200 w1200 hm1200 hR1200 => ?_)
        have hrow := hrow.moved (hm1200.castL (by kernel_rfl))
        refine sim_fork 195 (decide ((↑a : Int) < (↑i : Int))) (by kernel_rfl) (fun hq1201 => ?_) (fun hq1201 => ?_)
        have hq1201 := of_decide_eq_true hq1201
        refine sim_run 5 [] (hR1200.cast (by kernel_rfl)) (by kernel_rfl) trivial (fun ρ1202 w1202 hm1202 hR1202 => ?_)
        have hrow := hrow.moved (hm1202.castL (by kernel_rfl))
        refine sim_know 199 (decide ((↑i : Int) < (↑mid : Int))) false (by kernel_rfl) (decide_eq_false (by omega)) ?_
        refine sim_run 4 [] (hR1202.cast (by kernel_rfl)) (by kernel_rfl) trivial (fun ρ1203 w1203 hm1203 hR1203 => ?_)
        have hrow := hrow.moved (hm1203.castL (by kernel_rfl))
        rotate_left
        have hq1201 := of_decide_eq_false hq1201
        refine sim_run 9 [] (hR1200.cast (by kernel_rfl)) (by kernel_rfl) trivial (fun ρ1204 w1204 hm1204 hR1204 => ?_)
        have hrow := hrow.moved (hm1204.castL (by kernel_rfl))
        rotate_left
        
        all_goals exact meet _ () _ _ (by kernel_rfl) (by kernel_rfl) (by kernel_rfl) (Rel.cast (by assumption) (by kernel_rfl)) hrow.close0
    iterate 9 (try clear hrow)
    clear hzs
    have hrow : RowI ρ10 [] w10 h zs rest [] := .start hblk10 _ _ rfl
    by_cases c3 : mid < e ∧ e < b
    · rw [if_pos c3]
      have c31 := c3.1
      have c32 := c3.2
      refine sim_run 4 [] hR10 (by kernel_rfl) trivial (fun ρ1300 w1300 hm1300 hR1300 => ?_)
      have hrow := hrow.moved (hm1300.castL (by kernel_rfl))
      refine sim_know 209 (decide ((↑mid : Int) < (↑e : Int))) true (by kernel_rfl) (decide_eq_true (by omega)) ?_
      refine sim_run 5 [] (hR1300.cast (by kernel_rfl)) (by kernel_rfl) trivial (fun ρ1301 w1301 hm1301 hR1301 => ?_)
      have hrow := hrow.moved (hm1301.castL (by kernel_rfl))
      refine sim_know 213 (decide ((↑e : Int) < (↑b : Int))) true (by kernel_rfl) (decide_eq_true (by omega)) ?_
      refine sim_run 7 [] (hR1301.cast (by kernel_rfl)) (by kernel_rfl) trivial (fun ρ1302 w1302 hm1302 hR1302 => ?_)
      have hrow := hrow.moved (hm1302.castL (by kernel_rfl))
      
      refine sim_call 76 [.v (.slice (some ⟨h, 0, none⟩) len cap), LI mid, LI e, LI b, .v (.func (.func g) #[] caps)] (by kernel_rfl) ?_
      refine (ih zs mid e b _ (by omega) c3.1 c3.2 (by omega) (by assumption) (by assumption) hrow.close0).mono ?_
      rintro ee w913 ⟨rfl, hblk9, hk9⟩
      have hR913 := hR1302.kept hk9 (fun n r hn => (noReg (by kernel_rfl) hn).elim) (fun x hx => .inl hx)
      have hrow := RowI.at_ hR913 hblk9 (by kernel_rfl)
      refine Back.of (.tup []) hR913 rfl ?_
      refine sim_run 1 [] (hR913.cast (by kernel_rfl)) (by kernel_rfl) trivial (fun ρ1400 w1400 hm1400 hR1400 => ?_)
      have hrow := hrow.moved (hm1400.castL (by kernel_rfl))
      refine sim_end (.tup []) hR1400 (by kernel_rfl) (by kernel_rfl) ?_
      
      exact ⟨rfl, hrow.close0, hR1400.keeps.kept⟩
    · rw [if_neg c3]
      refine sim_run 4 [] hR10 (by kernel_rfl) trivial (fun ρ1500 w1500 hm1500 hR1500 => ?_)
      have hrow := hrow.moved (hm1500.castL (by kernel_rfl))
      refine sim_fork 209 (decide ((↑mid : Int) < (↑e : Int))) (by kernel_rfl) (fun hq1501 => ?_) (fun hq1501 => ?_)
      have hq1501 := of_decide_eq_true hq1501
      refine sim_run 5 [] (hR1500.cast (by kernel_rfl)) (by kernel_rfl) trivial (fun ρ1502 w1502 hm1502 hR1502 => ?_)
      have hrow := hrow.moved (hm1502.castL (by kernel_rfl))
      refine sim_know 213 (decide ((↑e : Int) < (↑b : Int))) false (by kernel_rfl) (decide_eq_false (by omega)) ?_
      refine sim_run 2 [] (hR1502.cast (by kernel_rfl)) (by kernel_rfl) trivial (fun ρ1503 w1503 hm1503 hR1503 => ?_)
      have hrow := hrow.moved (hm1503.castL (by kernel_rfl))
      refine sim_end (.tup []) hR1503 (by kernel_rfl) (by kernel_rfl) ?_
      rotate_left
      have hq1501 := of_decide_eq_false hq1501
      refine sim_run 7 [] (hR1500.cast (by kernel_rfl)) (by kernel_rfl) trivial (fun ρ1504 w1504 hm1504 hR1504 => ?_)
      have hrow := hrow.moved (hm1504.castL (by kernel_rfl))
      refine sim_end (.tup []) hR1504 (by kernel_rfl) (by kernel_rfl) ?_
      rotate_left
      
      all_goals exact ⟨rfl, hrow.close0, (by assumption : Rel _ _ _ _ _).keeps.kept⟩
theorem symMerge_any : ∀ f, MrgAt g caps cmp h len cap rest f
  | 0, xs, a, m, b, w, hf, ham, hmb, _, _, _, _ => by omega
  | f + 1, xs, a, m, b, w, hf, ham, hmb, hb, hl, hok, hblk => by
    by_cases h1 : m - a = 1
    · exact merge_up g hg caps cmp hcmp h len cap rest hmax f xs a m b w ham hmb hb hl hok hblk h1
    · by_cases h2 : b - m = 1
      · exact merge_dn g hg caps cmp hcmp h len cap rest hmax f xs a m b w ham hmb hb hl hok hblk h1 h2
      · exact merge_mid g hg caps cmp hcmp h len cap rest hmax f (symMerge_any f) xs a m b w hf ham hmb hb hl hok hblk h1 h2
end
end

section
open Go Go.RowKit
attribute [local irreducible] run goO goN ordGoN eqlOf eqlOper eqlOfO cellL leaveK someK nextK nextT nextOT nextOD loopBody loopRest loopK fillJ tmplOf tmplJ mergeT At AtO drawOk ordOf gateOf callC callO topOp topO idxOf appOf storeOf clearOf sliceOf calleeOf calleeO topQ idxQ newRowOf resL stepOp seek

section
variable (g : FuncId) (hg : Enters Try.prog g) (caps : Array Value) (cmp : In → In → Int) (hcmp : CmpAll g caps cmp) (hw : Weak (ltC cmp)) (h len cap : Nat) (rest : List Value) (hmax : len ≤ 1000000)
include hg hcmp hmax hw
set_option maxHeartbeats 4000000 in
set_option maxRecDepth 100000 in
theorem stable_any (xs : List In) (w : World) (hl : xs.length = len) (hok : ∀ x ∈ xs, x.ok) (hblk : Blk w h 55 (insts xs ++ rest).toArray) :
    Calls Try.prog 65 #[.slice (some ⟨h, 0, none⟩) len cap, .int .i64 len, .func (.func g) #[] caps] w (RowPost w h rest (ssort (ltC cmp) xs)) := by
  refine sim_enter Try.func65 ρ0 [.v (.slice (some ⟨h, 0, none⟩) len cap), LI len, .v (.func (.func g) #[] caps)] [] (by kernel_rfl) rfl ?_
  have hR := Rel.start [h] w ρ0
  have hrow : RowI ρ0 [] w h xs rest [] := .start hblk _ _ rfl
  refine sim_run 12 [] (hR.cast (by kernel_rfl)) (by kernel_rfl) trivial (fun ρ100 w100 hm100 hR100 => ?_)
  have hrow := hrow.moved (hm100.castL (by kernel_rfl))
  
  refine sim_loop (ι := Nat) (T := [h]) (w0 := w) 0 [0, 1, 2, 6] (fun a => [(7, LI a), (8, LI ((a : Int) + 20))]) (fun _ => []) (fun a w1 => a ≤ len ∧ ∃ cur, cur.length = len ∧ (∀ x ∈ cur, x.ok) ∧ Blocks (ltC cmp) 20 xs cur a ∧ Blk w1 h 55 (insts cur ++ rest).toArray) (fun a => len - a) (by kernel_rfl) (by kernel_rfl) (hR100.cast (by kernel_rfl)) ⟨Nat.zero_le _, xs, hl, hok, Blocks.start 20 xs, hrow.close0⟩ ?_
  iterate 6 (try clear hrow)
  clear hR100 hm100 hblk
  rintro a d w2 hR2 ⟨hal, cur, hcl, hcok, hbs, hblk⟩
  have hrow : RowI ρ100 [] w2 h cur rest [] := .start hblk _ _ rfl
  by_cases hlt : a + 20 ≤ len
  · refine sim_run 7 [] (hR2.cast (by kernel_rfl)) (by kernel_rfl) trivial (fun ρ200 w200 hm200 hR200 => ?_)
    have hrow := hrow.moved (hm200.castL (by kernel_rfl))
    refine sim_know 13 (decide ((↑a : Int) + 20 ≤ (↑len : Int))) true (by kernel_rfl) (decide_eq_true (by omega)) ?_
    refine sim_run 9 [] (hR200.cast (by kernel_rfl)) (by kernel_rfl) trivial (fun ρ201 w201 hm201 hR201 => ?_)
    have hrow := hrow.moved (hm201.castL (by kernel_rfl))
    refine sim_call 75 [.v (Value.slice (some (Addr.mk h 0 none)) len cap), LI ((↑a : Int)), LI ((↑a : Int) + 20), .v (Value.func (Fn.func g) (Array.mk []) caps)] (by kernel_rfl) ?_
    refine Calls.mono (insertion_any (g) (hg) (caps) (cmp) (hcmp) (h) (len) (cap) (cur) (rest) (hcok) (a) (a + 20) ((by omega)) ((by omega)) (hcl) (hmax) _ (hrow.close0)) ?_
    rintro e202 w202 ⟨rfl, hblk202, hk202⟩
    have hR202 := hR201.kept hk202 (fun n r hn => (noReg (by kernel_rfl) hn).elim) (fun x hx => .inl hx)
    have hrow := RowI.at_ hR202 hblk202 (by kernel_rfl)
    refine Back.of (.tup []) hR202 rfl ?_
    refine sim_run 13 [⟨5, 2, LI (IntKind.i64.wrap ((↑a : Int) + 20 + 20)), LI ((↑a : Int) + 20 + 20)⟩] (hR202.cast (by kernel_rfl)) (by kernel_rfl) ⟨eqi (IntWalk.i64_in _ (by omega)), trivial⟩ (fun ρ203 w203 hm203 hR203 => ?_)
    have hrow := hrow.moved (hm203.castL (by kernel_rfl))
    
    refine sim_again (a + 20) (by kernel_rfl) (by show len - (a + 20) < len - a; omega) (by kernel_rfl) (by kernel_rfl) (by kernel_rfl) (fun m hm => absurd hm (by simp)) (hR203.cast (by kernel_rfl)) (by kernel_rfl) (by kernel_rfl) ⟨hlt, _, ?_, ?_, ?_, hrow.close0⟩
    · rw [insM_len]; exact hcl
    · exact insM_all _ _ _ hcok _
    · have := hbs.step hw (by omega) (by omega)
      rw [show a + 20 - a - 1 = 20 - 1 by omega]
      exact this
  · refine sim_run 7 [] (hR2.cast (by kernel_rfl)) (by kernel_rfl) trivial (fun ρ300 w300 hm300 hR300 => ?_)
    have hrow := hrow.moved (hm300.castL (by kernel_rfl))
    refine sim_know 13 (decide ((↑a : Int) + 20 ≤ (↑len : Int))) false (by kernel_rfl) (decide_eq_false (by omega)) ?_
    refine sim_run 1 [] (hR300.cast (by kernel_rfl)) (by kernel_rfl) trivial (fun ρ301 w301 hm301 hR301 => ?_)
    have hrow := hrow.moved (hm301.castL (by kernel_rfl))
    refine sim_leave (by kernel_rfl) ?_
    refine sim_run 6 [] (hR301.cast (by kernel_rfl)) (by kernel_rfl) trivial (fun ρ302 w302 hm302 hR302 => ?_)
    have hrow := hrow.moved (hm302.castL (by kernel_rfl))
    refine sim_call 75 [.v (Value.slice (some (Addr.mk h 0 none)) len cap), LI ((↑a : Int)), LI ((↑len : Int)), .v (Value.func (Fn.func g) (Array.mk []) caps)] (by kernel_rfl) ?_
    refine Calls.mono (insertion_any (g) (hg) (caps) (cmp) (hcmp) (h) (len) (cap) (cur) (rest) (hcok) (a) (len) ((by omega)) ((by omega)) (hcl) (hmax) _ (hrow.close0)) ?_
    rintro e303 w303 ⟨rfl, hblk303, hk303⟩
    have hR303 := hR302.kept hk303 (fun n r hn => (noReg (by kernel_rfl) hn).elim) (fun x hx => .inl hx)
    have hrow := RowI.at_ hR303 hblk303 (by kernel_rfl)
    refine Back.of (.tup []) hR303 rfl ?_
    refine sim_run 2 [] (hR303.cast (by kernel_rfl)) (by kernel_rfl) trivial (fun ρ304 w304 hm304 hR304 => ?_)
    have hrow := hrow.moved (hm304.castL (by kernel_rfl))
    
    have hcs := hbs.done hw (by omega)
    rw [hl] at hcs
    have hcl2 := insM_len (ltC cmp) cur a (len - a - 1)
    have hcok2 := insM_all (ltC cmp) cur a hcok (len - a - 1)
    obtain ⟨c2, hc2⟩ : ∃ c2, insM (ltC cmp) cur a (len - a - 1) = c2 := ⟨_, rfl⟩
    rw [hc2] at hrow hcs hcl2 hcok2
    rw [hcl] at hcl2
    refine sim_loop (ι := Nat) (T := [h]) (w0 := w) 20 [0, 1, 2] (fun s => [(6, LI s)]) (fun _ => []) (fun s w1 => 0 < s ∧ s ≤ 2 * len + 20 ∧ ∃ cur, cur.length = len ∧ (∀ x ∈ cur, x.ok) ∧ CS (ltC cmp) s xs cur ∧ Blk w1 h 55 (insts cur ++ rest).toArray) (fun s => 2 * len + 21 - s) (by kernel_rfl) (by kernel_rfl) (hR304.cast (by kernel_rfl)) ⟨by omega, by omega, c2, hcl2, hcok2, hcs, hrow.close0⟩ ?_
    iterate 12 (try clear hrow)
    clear hR304 hm304 hblk hbs hcl hcok
    rintro s d3 w3 hR3 ⟨hs0, hs1, cur, hcl, hcok, hbs, hblk⟩
    have hrow : RowI ρ304 [] w3 h cur rest [] := .start hblk _ _ rfl
    by_cases hsl : s < len
    · refine sim_run 7 [] (hR3.cast (by kernel_rfl)) (by kernel_rfl) trivial (fun ρ400 w400 hm400 hR400 => ?_)
      have hrow := hrow.moved (hm400.castL (by kernel_rfl))
      refine sim_know 30 (decide ((↑s : Int) < (↑len : Int))) true (by kernel_rfl) (decide_eq_true (by omega)) ?_
      refine sim_run 12 [⟨8, 1, LI (IntKind.i64.wrap (2 * (↑s : Int))), LI (2 * (↑s : Int))⟩] (hR400.cast (by kernel_rfl)) (by kernel_rfl) ⟨eqi (IntWalk.i64_in _ (by omega)), trivial⟩ (fun ρ401 w401 hm401 hR401 => ?_)
      have hrow := hrow.moved (hm401.castL (by kernel_rfl))
      
      refine sim_loop (ι := Nat) (T := [h]) (w0 := w) 0 [0, 1, 2, 6] (fun a => [(7, LI a), (8, LI (2 * (s : Int) + a))]) (fun _ => []) (fun a w1 => a ≤ len ∧ ∃ cur, cur.length = len ∧ (∀ x ∈ cur, x.ok) ∧ MPairs (ltC cmp) s xs cur a ∧ Blk w1 h 55 (insts cur ++ rest).toArray) (fun a => len - a) (by kernel_rfl) (by kernel_rfl) (hR401.cast (by kernel_rfl)) ⟨Nat.zero_le _, cur, hcl, hcok, MPairs.start hbs, hrow.close0⟩ ?_
      iterate 12 (try clear hrow)
      clear hblk hbs hcl hcok
      rintro a d6 w6 hR6 ⟨ha6, cur, hcl, hcok, hbs, hblk⟩
      have hrow : RowI ρ401 [] w6 h cur rest [] := .start hblk _ _ rfl
      by_cases hal2 : a + 2 * s ≤ len
      · refine sim_run 7 [] (hR6.cast (by kernel_rfl)) (by kernel_rfl) trivial (fun ρ500 w500 hm500 hR500 => ?_)
        have hrow := hrow.moved (hm500.castL (by kernel_rfl))
        refine sim_know 35 (decide (2 * (↑s : Int) + (↑a : Int) ≤ (↑len : Int))) true (by kernel_rfl) (decide_eq_true (by omega)) ?_
        refine sim_run 12 [⟨10, 4, LI (IntKind.i64.wrap ((↑a : Int) + (↑s : Int))), LI ((↑a : Int) + (↑s : Int))⟩] (hR500.cast (by kernel_rfl)) (by kernel_rfl) ⟨eqi (IntWalk.i64_in _ (by omega)), trivial⟩ (fun ρ501 w501 hm501 hR501 => ?_)
        have hrow := hrow.moved (hm501.castL (by kernel_rfl))
        
        refine sim_call 76 [.v (.slice (some ⟨h, 0, none⟩) len cap), LI a, LI ((a + s : Nat) : Int), LI ((2 * s + a : Nat) : Int), .v (.func (.func g) #[] caps)] (by kernel_rfl) ?_
        refine (symMerge_any g hg caps cmp hcmp h len cap rest hmax (2 * s) cur a (a + s) (2 * s + a) _ (by omega) (by omega) (by omega) (by omega) hcl hcok hrow.close0).mono ?_
        rintro ee w95 ⟨rfl, hblk9, hk9⟩
        have hR95 := (by assumption : Rel _ _ _ _ _).kept hk9 (fun n r hn => (noReg (by kernel_rfl) hn).elim) (fun x hx => .inl hx)
        have hrow := RowI.at_ hR95 hblk9 (by kernel_rfl)
        refine Back.of (.tup []) hR95 rfl ?_
        refine sim_run 14 [⟨12, 2, LI (IntKind.i64.wrap (2 * (↑s : Int))), LI (2 * (↑s : Int))⟩, ⟨12, 3, LI (IntKind.i64.wrap (2 * (↑s : Int) + (↑a : Int) + 2 * (↑s : Int))), LI (2 * (↑s : Int) + (↑a : Int) + 2 * (↑s : Int))⟩] (hR95.cast (by kernel_rfl)) (by kernel_rfl) ⟨eqi (IntWalk.i64_in _ (by omega)), eqi (IntWalk.i64_in _ (by omega)), trivial⟩ (fun ρ800 w800 hm800 hR800 => ?_)
        have hrow := hrow.moved (hm800.castL (by kernel_rfl))
        
        refine sim_int 8 (k := .i64) (2 * (s : Int) + a + 2 * s) (2 * (s : Int) + ((2 * s + a : Nat) : Int)) (by kernel_rfl) (by omega) ?_
        refine sim_again (2 * s + a) (by kernel_rfl) (by show len - (2 * s + a) < len - a; omega) (by kernel_rfl) (by kernel_rfl) (by kernel_rfl) (fun m hm => absurd hm (by simp)) (Rel.cast (by assumption) (by kernel_rfl)) (by kernel_rfl) (by kernel_rfl) ⟨by omega, _, ?_, ?_, ?_, hrow.close0⟩
        · rw [symM_len]; exact hcl
        · exact symM_all _ _ _ _ _ _ hcok
        · rw [show 2 * s + a = a + 2 * s by omega]
          exact hbs.step hw hs0 (by rw [hl]; exact hal2) (2 * s) (Nat.le_refl _)
      · refine sim_run 7 [] (hR6.cast (by kernel_rfl)) (by kernel_rfl) trivial (fun ρ600 w600 hm600 hR600 => ?_)
        have hrow := hrow.moved (hm600.castL (by kernel_rfl))
        refine sim_know 35 (decide (2 * (↑s : Int) + (↑a : Int) ≤ (↑len : Int))) false (by kernel_rfl) (decide_eq_false (by omega)) ?_
        refine sim_run 1 [] (hR600.cast (by kernel_rfl)) (by kernel_rfl) trivial (fun ρ601 w601 hm601 hR601 => ?_)
        have hrow := hrow.moved (hm601.castL (by kernel_rfl))
        refine sim_leave (by kernel_rfl) ?_
        refine sim_run 14 [⟨13, 2, LI (IntKind.i64.wrap ((↑a : Int) + (↑s : Int))), LI ((↑a : Int) + (↑s : Int))⟩] (hR601.cast (by kernel_rfl)) (by kernel_rfl) ⟨eqi (IntWalk.i64_in _ (by omega)), trivial⟩ (fun ρ602 w602 hm602 hR602 => ?_)
        have hrow := hrow.moved (hm602.castL (by kernel_rfl))
        refine sim_fork 54 (decide ((↑a : Int) + (↑s : Int) < (↑len : Int))) (by kernel_rfl) (fun hq603 => ?_) (fun hq603 => ?_)
        have hq603 := of_decide_eq_true hq603
        refine sim_run 2 [] (hR602.cast (by kernel_rfl)) (by kernel_rfl) trivial (fun ρ604 w604 hm604 hR604 => ?_)
        have hrow := hrow.moved (hm604.castL (by kernel_rfl))
        rotate_left
        have hq603 := of_decide_eq_false hq603
        refine sim_run 8 [⟨16, 1, LI (IntKind.i64.wrap ((↑s : Int) * 2)), LI ((↑s : Int) * 2)⟩] (hR602.cast (by kernel_rfl)) (by kernel_rfl) ⟨eqi (IntWalk.i64_in _ (by omega)), trivial⟩ (fun ρ605 w605 hm605 hR605 => ?_)
        have hrow := hrow.moved (hm605.castL (by kernel_rfl))
        rotate_left
        
        · have hm : a + s < len := by omega
          refine sim_run 5 [] hR604 (by kernel_rfl) trivial (fun ρ900 w900 hm900 hR900 => ?_)
          have hrow := hrow.moved hm900
          
          refine sim_call 76 [.v (.slice (some ⟨h, 0, none⟩) len cap), LI a, LI ((a + s : Nat) : Int), LI ((len : Nat) : Int), .v (.func (.func g) #[] caps)] (by kernel_rfl) ?_
          refine (symMerge_any g hg caps cmp hcmp h len cap rest hmax (len - a) cur a (a + s) (len) _ (by omega) (by omega) (by omega) (by omega) hcl hcok hrow.close0).mono ?_
          rintro ee w99 ⟨rfl, hblk9, hk9⟩
          have hR99 := (by assumption : Rel _ _ _ _ _).kept hk9 (fun n r hn => (noReg (by kernel_rfl) hn).elim) (fun x hx => .inl hx)
          have hrow := RowI.at_ hR99 hblk9 (by kernel_rfl)
          refine Back.of (.tup []) hR99 rfl ?_
          refine sim_run 7 [⟨16, 1, LI (IntKind.i64.wrap ((↑s : Int) * 2)), LI ((↑s : Int) * 2)⟩] (hR99.cast (by kernel_rfl)) (by kernel_rfl) ⟨eqi (IntWalk.i64_in _ (by omega)), trivial⟩ (fun ρ1000 w1000 hm1000 hR1000 => ?_)
          have hrow := hrow.moved (hm1000.castL (by kernel_rfl))
          
          refine sim_int 6 (k := .i64) ((s : Int) * 2) ((2 * s : Nat) : Int) (by kernel_rfl) (by omega) ?_
          refine sim_again (2 * s) (by kernel_rfl) (by show 2 * len + 21 - 2 * s < 2 * len + 21 - s; omega) (by kernel_rfl) (by kernel_rfl) (by kernel_rfl) (fun m hm => absurd hm (by simp)) (Rel.cast (by assumption) (by kernel_rfl)) (by kernel_rfl) (by kernel_rfl) ⟨by omega, by omega, _, by rw [symM_len]; exact hcl, symM_all _ _ _ _ _ _ hcok, by have := hbs.tail hw hs0 (by rw [hl]; omega) (by rw [hl]; exact hm) (len - a) (by rw [hl]; exact Nat.le_refl _); rw [hl] at this; exact this, hrow.close0⟩
        · have hm : len ≤ a + s := by omega
          refine sim_int 6 (k := .i64) ((s : Int) * 2) ((2 * s : Nat) : Int) (by kernel_rfl) (by omega) ?_
          refine sim_again (2 * s) (by kernel_rfl) (by show 2 * len + 21 - 2 * s < 2 * len + 21 - s; omega) (by kernel_rfl) (by kernel_rfl) (by kernel_rfl) (fun m hm => absurd hm (by simp)) (Rel.cast (by assumption) (by kernel_rfl)) (by kernel_rfl) (by kernel_rfl) ⟨by omega, by omega, _, hcl, hcok, hbs.none (by rw [hl]; exact hm), hrow.close0⟩
    · refine sim_run 7 [] (hR3.cast (by kernel_rfl)) (by kernel_rfl) trivial (fun ρ700 w700 hm700 hR700 => ?_)
      have hrow := hrow.moved (hm700.castL (by kernel_rfl))
      refine sim_know 30 (decide ((↑s : Int) < (↑len : Int))) false (by kernel_rfl) (decide_eq_false (by omega)) ?_
      refine sim_run 1 [] (hR700.cast (by kernel_rfl)) (by kernel_rfl) trivial (fun ρ701 w701 hm701 hR701 => ?_)
      have hrow := hrow.moved (hm701.castL (by kernel_rfl))
      refine sim_leave (by kernel_rfl) ?_
      refine sim_end (.tup []) (hR701.cast (by kernel_rfl)) (by kernel_rfl) (by kernel_rfl) ?_
      
      refine ⟨rfl, ?_, hR701.keeps.kept⟩
      rw [← hbs.whole (by rw [hl]; omega)]
      exact hrow.close0
end
end

section
open Go Go.RowKit
attribute [local irreducible] run goO goN ordGoN eqlOf eqlOper eqlOfO cellL leaveK someK nextK nextT nextOT nextOD loopBody loopRest loopK fillJ tmplOf tmplJ mergeT At AtO drawOk ordOf gateOf callC callO topOp topO idxOf appOf storeOf clearOf sliceOf calleeOf calleeO topQ idxQ newRowOf resL stepOp seek

/-- the row in its place, sorted -/
def SrtN (base : Nat) (w : World) (A : Option Addr) (cp : Nat) (ys : List In) (e : Ending) (w' : World) : Prop :=
  e = .returned (.tuple #[]) ∧ w'.ownsRow base 55 21 (.slice A ys.length cp) ys.length (insts ys) ∧ Kept (fun x => ∃ a, A = some a ∧ a.block = x) w w'
theorem own_len {w : World} {base n cp : Nat} {A : Option Addr} {xs : List In} (h : w.ownsRow base 55 21 (.slice A n cp) n (insts xs)) : xs.length = n := by
  have := h.1
  rw [insts_length] at this
  omega
section
variable (g : FuncId) (hg : Enters Try.prog g) (caps : Array Value) (cmp : In → In → Int) (hcmp : CmpAll g caps cmp) (hw : Weak (ltC cmp))
include hg hcmp hw
set_option maxHeartbeats 4000000 in
set_option maxRecDepth 100000 in
theorem sortStable_any (A : Option Addr) (n cp base : Nat) (xs : List In) (w : World) (h : w.ownsRow base 55 21 (.slice A n cp) n (insts xs)) (hok : ∀ x ∈ xs, x.ok) (hn : n ≤ 1000000) :
    Calls Try.prog 46 #[.slice A n cp, .func (.func g) #[] caps] w (SrtN base w A cp (ssort (ltC cmp) xs)) := by
  have hl := own_len h
  rcases h.2 with ⟨e, hn0⟩ | ⟨b, cap, cur, e, hb, hh, h1, h2, h3, h4⟩
  · injection e with e1 e2 e3
    subst e1 e2 e3
    obtain rfl := List.eq_nil_of_length_eq_zero hl
    refine sim_enter Try.func46 ρ0 [.v (.slice none 0 0), .v (.func (.func g) #[] caps)] [] (by kernel_rfl) rfl ?_
    have hR := Rel.start [] w ρ0
    refine sim_run 5 [] (hR.cast (by kernel_rfl)) (by kernel_rfl) trivial (fun ρ100 w100 hm100 hR100 => ?_)
    refine sim_into Try.func65 [.v (Value.slice none 0 0), LI 0, .v (Value.func (Fn.func g) (Array.mk []) caps)] (by kernel_rfl) (by kernel_rfl) ?_
    have hag101 := hR100.ag_ 0 (by kernel_rfl)
    refine sim_run 12 [] (hR100.cast (by kernel_rfl)) (by kernel_rfl) trivial (fun ρ102 w102 hm102 hR102 => ?_)
    have hag101 := hag101.moved (hm102.castL (by kernel_rfl))
    refine sim_unroll 3 (by kernel_rfl) ?_
    refine sim_run 16 [] (hR102.cast (by kernel_rfl)) (by kernel_rfl) trivial (fun ρ103 w103 hm103 hR103 => ?_)
    have hag101 := hag101.moved (hm103.castL (by kernel_rfl))
    refine sim_into Try.func75 [.v (Value.slice none 0 0), LI 0, LI 0, .v (Value.func (Fn.func g) (Array.mk []) caps)] (by kernel_rfl) (by kernel_rfl) ?_
    have hag104 := hR103.ag_ 0 (by kernel_rfl)
    refine sim_run 7 [] (hR103.cast (by kernel_rfl)) (by kernel_rfl) trivial (fun ρ105 w105 hm105 hR105 => ?_)
    have hag101 := hag101.moved (hm105.castL (by kernel_rfl))
    have hag104 := hag104.moved (hm105.castL (by kernel_rfl))
    refine sim_unroll 3 (by kernel_rfl) ?_
    refine sim_run 10 [] (hR105.cast (by kernel_rfl)) (by kernel_rfl) trivial (fun ρ106 w106 hm106 hR106 => ?_)
    have hag101 := hag101.moved (hm106.castL (by kernel_rfl))
    have hag104 := hag104.moved (hm106.castL (by kernel_rfl))
    refine sim_outE 0 (.tup []) hR106 (by kernel_rfl) (by kernel_rfl) hag104.ag (by kernel_rfl) ?_
    refine sim_run 2 [] (hR106.cast (by kernel_rfl)) (by kernel_rfl) trivial (fun ρ107 w107 hm107 hR107 => ?_)
    have hag101 := hag101.moved (hm107.castL (by kernel_rfl))
    have hag104 := hag104.moved (hm107.castL (by kernel_rfl))
    refine sim_unroll 3 (by kernel_rfl) ?_
    refine sim_run 10 [] (hR107.cast (by kernel_rfl)) (by kernel_rfl) trivial (fun ρ108 w108 hm108 hR108 => ?_)
    have hag101 := hag101.moved (hm108.castL (by kernel_rfl))
    have hag104 := hag104.moved (hm108.castL (by kernel_rfl))
    refine sim_outE 0 (.tup []) hR108 (by kernel_rfl) (by kernel_rfl) hag101.ag (by kernel_rfl) ?_
    refine sim_run 1 [] (hR108.cast (by kernel_rfl)) (by kernel_rfl) trivial (fun ρ109 w109 hm109 hR109 => ?_)
    have hag101 := hag101.moved (hm109.castL (by kernel_rfl))
    have hag104 := hag104.moved (hm109.castL (by kernel_rfl))
    refine sim_end (.tup []) hR109 (by kernel_rfl) (by kernel_rfl) ?_
    
    exact ⟨rfl, World.ownsRow_nil _ _ _ _, (by assumption : Rel _ _ _ _ _).keeps.kept.mono (fun x hx => by simp at hx)⟩
  · injection e with e1 e2 e3
    subst e1 e3
    have hcl : cur.toList = insts xs ++ cur.toList.drop (n * 21) := by rw [← h4, List.take_append_drop]
    have hblk : Blk w b 55 (insts xs ++ cur.toList.drop (n * 21)).toArray := by rw [← hcl]; exact hh
    have hlen2 : (insts xs ++ cur.toList.drop (n * 21)).length = cp * 21 := by rw [← hcl, Array.length_toList, h3]
    generalize cur.toList.drop (n * 21) = rest at hblk hlen2 hcl
    refine sim_enter Try.func46 ρ0 [.v (.slice (some ⟨b, 0, none⟩) n cp), .v (.func (.func g) #[] caps)] [] (by kernel_rfl) rfl ?_
    have hR := Rel.start [b] w ρ0
    have hrow : RowI ρ0 [] w b xs rest [] := .start hblk _ _ rfl
    refine sim_run 5 [] (hR.cast (by kernel_rfl)) (by kernel_rfl) trivial (fun ρ200 w200 hm200 hR200 => ?_)
    have hrow := hrow.moved (hm200.castL (by kernel_rfl))
    refine sim_call 65 [.v (Value.slice (some (Addr.mk b 0 none)) n cp), LI ((↑n : Int)), .v (Value.func (Fn.func g) (Array.mk []) caps)] (by kernel_rfl) ?_
    refine Calls.mono (stable_any (g) (hg) (caps) (cmp) (hcmp) (hw) (b) (n) (cp) (rest) (hn) (xs) _ (hl) (hok) (hrow.close0)) ?_
    rintro e201 w201 ⟨rfl, hblk201, hk201⟩
    have hR201 := hR200.kept hk201 (fun n r hn => (noReg (by kernel_rfl) hn).elim) (fun x hx => .inl hx)
    have hrow := RowI.at_ hR201 hblk201 (by kernel_rfl)
    refine Back.of (.tup []) hR201 rfl ?_
    refine sim_run 1 [] (hR201.cast (by kernel_rfl)) (by kernel_rfl) trivial (fun ρ202 w202 hm202 hR202 => ?_)
    have hrow := hrow.moved (hm202.castL (by kernel_rfl))
    refine sim_end (.tup []) hR202 (by kernel_rfl) (by kernel_rfl) ?_
    
    have hr := hrow.close0
    refine ⟨rfl, ?_, (by assumption : Rel _ _ _ _ _).keeps.kept.mono (fun x hx => ?_)⟩
    · rw [ssort_len, hl]
      refine own_of_blk (cur := insts (ssort (ltC cmp) xs) ++ rest) hr hb h1 h2 ?_ ?_ (by rw [ssort_len, hl])
      · rw [← hlen2, List.length_append, List.length_append, insts_length, insts_length, ssort_len]
      · rw [List.take_append_of_le_length (by rw [insts_length, ssort_len, hl]; exact Nat.le_refl _), List.take_of_length_le (by rw [insts_length, ssort_len, hl]; exact Nat.le_refl _)]
    · simp only [List.mem_singleton] at hx
      exact .inl ⟨_, rfl, hx.symm⟩
end
end
end Go.Proofs.Ytnfgndapalkbcaa
