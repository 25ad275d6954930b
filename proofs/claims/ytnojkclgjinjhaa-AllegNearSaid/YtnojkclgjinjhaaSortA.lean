/-
  A row of instructions that is sorted in place: two elements come into view; swaps.
-/
import Derived.Test.YtnojkclgjinjhaaRowI
import Derived.Test.YtnojkclgjinjhaaSimO
import Derived.Test.YtnojkclgjinjhaaSortP
namespace Go.Proofs.Ytnojkclgjinjhaa
open Go Go.RowKit
attribute [local irreducible] run goO goN ordGoN eqlOf eqlOper eqlOfO cellL leaveK someK nextK nextT nextOT nextOD loopBody loopRest loopK fillJ tmplOf tmplJ mergeT At AtO drawOk ordOf gateOf callC callO topOp topO idxOf appOf storeOf clearOf sliceOf calleeOf calleeO topQ idxQ newRowOf resL stepOp seek

section
variable {P : Program} {Q : Exit → Act → World → Prop} {T : List Nat} {c : Cfg} {ρ : Nm} {w0 w : World}
/-- an element of a row of one's own comes into view, to be written -/
theorem sim_seeI {h : Nat} {xs : List In} {rest : List Value} {ks : List Nat} (k N : Nat) (hr : RowI ρ c.rs w h xs rest ks) {N0 : Nat} {ρb : Nm} (hag : Ag N0 ρb ρ c.rs) (hN : c.rs.length = N) (hk : k < xs.length) (hks : k ∉ ks) (hT : h ∈ T ∨ w0.heap.size ≤ h) (hR : Rel T w0 ρ c.rs w) (hu : (undR N c.rs && undL N c.tmps) = true)
    (l : List Nat) (hl : roAll c.rs 0 = l) (hidx : ∀ k ∈ l, k < N0 ∧ (ρb k).1 ≠ h)
    (next : ∀ x ρ', xs[k]? = some x → (∀ n, n < N0 → ρ' n = ρb n) → ρ' N = (h, k * 21) → Ag (N + 1) ρ' ρ' (c.rs ++ [⟨x.cells.map .v, true⟩]) → Rel T w0 ρ' (c.rs ++ [⟨x.cells.map .v, true⟩]) w → RowI ρ' (c.rs ++ [⟨x.cells.map .v, true⟩]) w h xs rest (k :: ks) → At P Q ⟨c.k, c.tmps, c.rs ++ [⟨x.cells.map .v, true⟩]⟩ ρ' w) : At P Q c ρ w := by
  subst hN
  have hro : ∀ (n : Nat) (r : Reg), c.rs[n]? = some r → (ρ n).1 = h → ∃ m ∈ ks, (ρ n).2 = m * 21 ∧ r.cells.length = 21 := fun n r hn he => by
    cases hw : r.wr with
    | true => exact hr.wfar n r hn hw he
    | false =>
      have := roAll_mem c.rs 0 n r hn hw
      rw [hl, Nat.zero_add] at this
      obtain ⟨h1, h2⟩ := hidx n this
      rw [hag.at_ n h1] at he
      exact (h2 he).elim
  have hx : xs[k]? = some xs[k] := List.getElem?_eq_getElem hk
  simp only [Bool.and_eq_true] at hu
  have hap : ∀ m ∈ ks, k * 21 + 21 ≤ m * 21 ∨ m * 21 + 21 ≤ k * 21 := fun m hm => by
    have hne : m ≠ k := fun e => hks (e ▸ hm)
    omega
  have hlen : (List.map LV.v xs[k].cells).length = 21 := by rw [List.length_map, In.cells_length]
  obtain ⟨ρ', ha, hn, hR'⟩ := hR.open_ hu.1 h (k * 21) (xs[k].cells.map .v) (denV_und _ _) true hr.row.lt (fun j v hv => by
      rw [List.getElem?_map] at hv
      cases hj : xs[k].cells[j]? with
      | none => rw [hj] at hv; cases hv
      | some u =>
        rw [hj] at hv
        injection hv with hv
        rw [← hv]
        exact (hr.cell hx hks j u hj).1)
    (fun _ => ⟨hT, fun i hi => by
      rw [hlen] at hi
      exact (hr.cell hx hks i _ (List.getElem?_eq_getElem (by rw [In.cells_length]; exact hi))).2.1⟩)
    (fun n r hn hw he => by
      obtain ⟨m, hm, e1, e2⟩ := hro n r hn he
      rw [e1, e2, hlen]
      rcases hap m hm with h1 | h1 <;> omega)
  have := next xs[k] ρ' hx (fun n hn0 => (ha n (Nat.lt_of_lt_of_le hn0 hag.le)).trans (hag.at_ n hn0)) hn ⟨Agree.refl _ _, by simp⟩ hR' ⟨hr.row.open_ ha _, fun i hi => ?_, fun n r hr' hw he => ?_⟩
  · unfold At at this ⊢
    have e := act_ext (ρ := ρ) (ρ' := ρ') ha hu.2
    rw [← e]
    exact this
  · intro n r hr' hw he
    rcases Nat.lt_or_ge n c.rs.length with hl | hl
    · rw [List.getElem?_append_left hl] at hr'
      rw [ha n hl] at he ⊢
      exact hr.free i (fun m hm => hi m (List.mem_cons_of_mem _ hm)) n r hr' hw he
    · have : n = c.rs.length := by
        rcases Nat.lt_or_ge n (c.rs.length + 1) with h0 | h0
        · omega
        · rw [List.getElem?_eq_none (by simp; omega)] at hr'; cases hr'
      subst this
      simp only [List.getElem?_append_right (Nat.le_refl _), Nat.sub_self, List.getElem?_cons_zero, Option.some.injEq] at hr'
      rw [← hr', hn]
      simp only [hlen]
      exact hi k (List.mem_cons_self ..)
  · rcases Nat.lt_or_ge n c.rs.length with hl | hl
    · rw [List.getElem?_append_left hl] at hr'
      rw [ha n hl] at he ⊢
      obtain ⟨m, h5, h6⟩ := hr.wfar n r hr' hw he
      exact ⟨m, List.mem_cons_of_mem _ h5, h6⟩
    · have : n = c.rs.length := by
        rcases Nat.lt_or_ge n (c.rs.length + 1) with h0 | h0
        · omega
        · rw [List.getElem?_eq_none (by simp; omega)] at hr'; cases hr'
      subst this
      simp only [List.getElem?_append_right (Nat.le_refl _), Nat.sub_self, List.getElem?_cons_zero, Option.some.injEq] at hr'
      exact ⟨k, List.mem_cons_self .., by rw [hn], by rw [← hr']; exact hlen⟩
end
/-! ### What stays through swaps -/
section
variable {α : Type} {p : α → Prop}
theorem swp_all {xs : List α} (h : ∀ x ∈ xs, p x) (i j : Nat) : ∀ x ∈ swp xs i j, p x := by
  unfold swp
  split
  · rename_i x y hx hy
    intro z hz
    rcases List.mem_or_eq_of_mem_set hz with hz | rfl
    · rcases List.mem_or_eq_of_mem_set hz with hz | rfl
      · exact h z hz
      · exact h z (List.mem_of_getElem? hy)
    · exact h z (List.mem_of_getElem? hx)
  · exact h
theorem insJ_len (lt : α → α → Bool) (a : Nat) : ∀ (f : Nat) (xs : List α) (j : Nat), (insJ lt a f xs j).length = xs.length
  | 0, _, _ => rfl
  | f + 1, xs, j => by
    unfold insJ
    split
    · rw [insJ_len lt a f, swp_len]
    · rfl
theorem insJ_all (lt : α → α → Bool) (a : Nat) : ∀ (f : Nat) (xs : List α) (j : Nat), (∀ x ∈ xs, p x) → ∀ x ∈ insJ lt a f xs j, p x
  | 0, _, _, h => h
  | f + 1, xs, j, h => by
    unfold insJ
    split
    · exact insJ_all lt a f _ _ (swp_all h _ _)
    · exact h
theorem insM_len (lt : α → α → Bool) (xs : List α) (a : Nat) : ∀ n, (insM lt xs a n).length = xs.length
  | 0 => rfl
  | n + 1 => by rw [insM, insJ_len, insM_len lt xs a n]
theorem insM_all (lt : α → α → Bool) (xs : List α) (a : Nat) (h : ∀ x ∈ xs, p x) : ∀ n, ∀ x ∈ insM lt xs a n, p x
  | 0 => h
  | n + 1 => insJ_all lt a _ _ _ (insM_all lt xs a h n)
theorem swapM_all (xs : List α) (a b : Nat) (h : ∀ x ∈ xs, p x) : ∀ n, ∀ x ∈ swapM xs a b n, p x
  | 0 => h
  | n + 1 => swp_all (swapM_all xs a b h n) _ _
theorem rotM_len (m : Nat) : ∀ (f : Nat) (xs : List α) (i j : Nat), (rotM m f xs i j).length = xs.length
  | 0, _, _, _ => rfl
  | f + 1, xs, i, j => by
    unfold rotM
    split
    · exact swapM_len ..
    · split
      · rw [rotM_len m f, swapM_len]
      · rw [rotM_len m f, swapM_len]
theorem rotM_all (m : Nat) : ∀ (f : Nat) (xs : List α) (i j : Nat), (∀ x ∈ xs, p x) → ∀ x ∈ rotM m f xs i j, p x
  | 0, _, _, _, h => h
  | f + 1, xs, i, j, h => by
    unfold rotM
    split
    · exact swapM_all _ _ _ h _
    · split
      · exact rotM_all m f _ _ _ (swapM_all _ _ _ h _)
      · exact rotM_all m f _ _ _ (swapM_all _ _ _ h _)
theorem shUp_len (xs : List α) (a : Nat) : ∀ n, (shUp xs a n).length = xs.length
  | 0 => rfl
  | n + 1 => by rw [shUp, swp_len, shUp_len xs a n]
theorem shUp_all (xs : List α) (a : Nat) (h : ∀ x ∈ xs, p x) : ∀ n, ∀ x ∈ shUp xs a n, p x
  | 0 => h
  | n + 1 => swp_all (shUp_all xs a h n) _ _
theorem shDn_len (xs : List α) (a : Nat) : ∀ n, (shDn xs a n).length = xs.length
  | 0 => rfl
  | n + 1 => by rw [shDn, swp_len, shDn_len xs a n]
theorem shDn_all (xs : List α) (a : Nat) (h : ∀ x ∈ xs, p x) : ∀ n, ∀ x ∈ shDn xs a n, p x
  | 0 => h
  | n + 1 => swp_all (shDn_all xs a h n) _ _
theorem symM_len (lt : α → α → Bool) : ∀ (f : Nat) (xs : List α) (a m b : Nat), (symM lt f xs a m b).length = xs.length
  | 0, _, _, _, _ => rfl
  | f + 1, xs, a, m, b => by
    unfold symM
    split
    · exact shUp_len ..
    · split
      · exact shDn_len ..
      · dsimp only
        repeat' split
        all_goals simp only [symM_len lt f, rotM_len]
theorem symM_all (lt : α → α → Bool) : ∀ (f : Nat) (xs : List α) (a m b : Nat), (∀ x ∈ xs, p x) → ∀ x ∈ symM lt f xs a m b, p x
  | 0, _, _, _, _, h => h
  | f + 1, xs, a, m, b, h => by
    unfold symM
    split
    · exact shUp_all _ _ h _
    · split
      · exact shDn_all _ _ h _
      · dsimp only
        repeat' split
        all_goals first | exact h | exact rotM_all _ _ _ _ _ h | exact symM_all lt f _ _ _ _ h | exact symM_all lt f _ _ _ _ (rotM_all _ _ _ _ _ h) | exact symM_all lt f _ _ _ _ (symM_all lt f _ _ _ _ h) | exact symM_all lt f _ _ _ _ (symM_all lt f _ _ _ _ (rotM_all _ _ _ _ _ h))
end
/-- what a function leaves that only writes the row -/
def RowPost (w : World) (h : Nat) (rest : List Value) (xs' : List In) (e : Ending) (w' : World) : Prop := e = .returned (.tuple #[]) ∧ Blk w' h 27 (insts xs' ++ rest).toArray ∧ Kept (· ∈ [h]) w w'
theorem swp_get {xs : List In} {i j : Nat} {x y : In} (hx : xs[i]? = some x) (hy : xs[j]? = some y) : (xs.set i y).set j x = swp xs i j := by
  unfold swp
  rw [hx, hy]
/-- a function that compares -/
def CmpAll (g : FuncId) (caps : Array Value) (cmp : In → In → Int) : Prop :=
  ∀ (a b : In) (w1 : World), a.ok → b.ok → Calls Try.prog g (#[a.val, b.val] ++ caps) w1 fun e w2 => e = .returned (.int .i64 (cmp a b)) ∧ Below w1.heap.size w1 w2
def ltC (cmp : In → In → Int) (x y : In) : Bool := decide (cmp x y < 0)
set_option maxRecDepth 100000 in
theorem swapRange_any (h len cap : Nat) (xs : List In) (rest : List Value) (a b n : Nat) (fv : Value) (ha : a + n ≤ len) (hb : b + n ≤ len) (hab : a + n ≤ b ∨ b + n ≤ a) (hl : xs.length = len) (hmax : len ≤ 1000000) (w : World) (hblk : Blk w h 27 (insts xs ++ rest).toArray) :
    Calls Try.prog 95 #[.slice (some ⟨h, 0, none⟩) len cap, .int .i64 a, .int .i64 b, .int .i64 n, fv] w (RowPost w h rest (swapM xs a b n)) := by
  refine sim_enter Try.func95 ρ0 [.v (.slice (some ⟨h, 0, none⟩) len cap), LI a, LI b, LI n, .v fv] [] (by kernel_rfl) rfl ?_
  have hR := Rel.start [h] w ρ0
  have hrow : RowI ρ0 [] w h xs rest [] := .start hblk _ _ rfl
  refine sim_run 5 [] hR (by kernel_rfl) trivial (fun ρ100 w100 hm100 hR100 => ?_)
  have hrow := hrow.moved hm100
  
  have hrow := hrow.close0
  refine sim_loop (ι := Nat) (T := [h]) (w0 := w) 0 [0, 1, 2, 3] (fun k => [(10, LI k)]) (fun _ => []) (fun k w1 => k ≤ n ∧ Blk w1 h 27 (insts (swapM xs a b k) ++ rest).toArray) (fun k => n - k) (by kernel_rfl) (by kernel_rfl) (hR100.cast (by kernel_rfl)) ⟨Nat.zero_le _, hrow⟩ ?_
  iterate 6 (try clear hrow)
  clear hR100 hm100
  rintro k d w2 hR2 ⟨hk, hblk⟩
  have hlen := swapM_len xs a b k
  obtain ⟨ys, hys⟩ : ∃ ys, swapM xs a b k = ys := ⟨_, rfl⟩
  rw [hys] at hblk hlen
  have hrow : RowI ρ100 [] w2 h ys rest [] := .start hblk _ _ rfl
  have hag := hR2.ag_ 0 (by kernel_rfl)
  by_cases hlt : k < n
  · refine sim_seeI (a + k) 0 hrow hag (by kernel_rfl) (by omega) (by simp) (.inl (by simp)) hR2 (by kernel_rfl) [] (by kernel_rfl) (by simp) (fun x ρ1 hx ha1 e1 hag hR1 hrow => ?_)
    refine sim_seeI (b + k) 1 hrow hag (by kernel_rfl) (by omega) (by simp; omega) (.inl (by simp)) hR1 (by kernel_rfl) [] (by kernel_rfl) (by simp) (fun y ρ2 hy ha2 e2 hag hR3 hrow => ?_)
    have e1 := (ha2 0 (by omega)).trans e1
    refine sim_run 7 [] hR3 (by kernel_rfl) trivial (fun ρ200 w200 hm200 hR200 => ?_)
    have hag := hag.moved hm200
    have hrow := hrow.moved hm200
    refine sim_know 13 (decide ((↑k : Int) < (↑n : Int))) true (by kernel_rfl) (decide_eq_true (by omega)) ?_
    refine sim_run 4 [] hR200 (by kernel_rfl) trivial (fun ρ201 w201 hm201 hR201 => ?_)
    have hag := hag.moved hm201
    have hrow := hrow.moved hm201
    refine sim_draw [] (by kernel_rfl) (by kernel_rfl) hR201 (fun hR202 => ?_)
    have hrow := hrow.drew
    refine sim_ordN 12 [⟨3, 3, LI (IntKind.i64.wrap ((↑a : Int) + (↑k : Int))), LI ((↑a : Int) + (↑k : Int))⟩, ⟨3, 7, LI (IntKind.i64.wrap ((↑b : Int) + (↑k : Int))), LI ((↑b : Int) + (↑k : Int))⟩, ⟨3, 11, LI (IntKind.i64.wrap ((↑b : Int) + (↑k : Int))), LI ((↑b : Int) + (↑k : Int))⟩] hR202 (by kernel_rfl) ⟨eqi (IntWalk.i64_in _ (by omega)), eqi (IntWalk.i64_in _ (by omega)), eqi (IntWalk.i64_in _ (by omega)), trivial⟩ (fun ρ203 w203 hm203 hR203 => ?_)
    have hag := hag.moved hm203
    have hrow := hrow.moved hm203
    refine sim_ord_index (.v (.slice (some ⟨h, 0, none⟩) len cap)) len 21 ((b : Int) + k) 1 0 (by kernel_rfl) (by omega) (by omega) rfl hR203 (by simp only [Nm.at_, hag.at_ 1 (by omega), e2]; congr 1; omega) (fun hR204 => ?_)
    refine sim_ordN 5 [⟨3, 17, LI (IntKind.i64.wrap ((↑a : Int) + (↑k : Int))), LI ((↑a : Int) + (↑k : Int))⟩] hR204 (by kernel_rfl) ⟨eqi (IntWalk.i64_in _ (by omega)), trivial⟩ (fun ρ205 w205 hm205 hR205 => ?_)
    have hag := hag.moved hm205
    have hrow := hrow.moved hm205
    refine sim_ord_index (.v (.slice (some ⟨h, 0, none⟩) len cap)) len 21 ((a : Int) + k) 0 0 (by kernel_rfl) (by omega) (by omega) rfl hR205 (by simp only [Nm.at_, hag.at_ 0 (by omega), e1]; congr 1; omega) (fun hR206 => ?_)
    refine sim_ordN 1 [] hR206 (by kernel_rfl) trivial (fun ρ207 w207 hm207 hR207 => ?_)
    have hag := hag.moved hm207
    have hrow := hrow.moved hm207
    refine sim_ord_index (.v (.slice (some ⟨h, 0, none⟩) len cap)) len 21 ((a : Int) + k) 0 0 (by kernel_rfl) (by omega) (by omega) rfl hR207 (by simp only [Nm.at_, hag.at_ 0 (by omega), e1]; congr 1; omega) (fun hR208 => ?_)
    refine sim_ordN 1 [] hR208 (by kernel_rfl) trivial (fun ρ209 w209 hm209 hR209 => ?_)
    have hag := hag.moved hm209
    have hrow := hrow.moved hm209
    refine sim_ord_index (.v (.slice (some ⟨h, 0, none⟩) len cap)) len 21 ((b : Int) + k) 1 0 (by kernel_rfl) (by omega) (by omega) rfl hR209 (by simp only [Nm.at_, hag.at_ 1 (by omega), e2]; congr 1; omega) (fun hR210 => ?_)
    refine sim_ordN 1 [] hR210 (by kernel_rfl) trivial (fun ρ211 w211 hm211 hR211 => ?_)
    have hag := hag.moved hm211
    have hrow := hrow.moved hm211
    refine sim_ord_endR hR211 (by kernel_rfl) (fun hR212 => ?_)
    refine sim_run 6 [⟨2, 1, LI (IntKind.i64.wrap ((↑k : Int) + 1)), LI ((↑k : Int) + 1)⟩] hR212 (by kernel_rfl) ⟨eqi (IntWalk.i64_in _ (by omega)), trivial⟩ (fun ρ213 w213 hm213 hR213 => ?_)
    have hag := hag.moved hm213
    have hrow := hrow.moved hm213
    
    refine sim_again (k + 1) (by kernel_rfl) (by show n - (k + 1) < n - k; omega) (by kernel_rfl) (by kernel_rfl) (by kernel_rfl) (fun m hm => absurd hm (by simp)) hR213 (by kernel_rfl) (by kernel_rfl) ⟨hlt, ?_⟩
    rw [swapM, hys, ← swp_get hx hy]
    exact hrow.close2 (by omega) (by omega) (by omega) y x (bk_cell hR213 hag e1 y (by kernel_rfl)) (bk_cell hR213 hag e2 x (by kernel_rfl))
  · refine sim_run 7 [] hR2 (by kernel_rfl) trivial (fun ρ300 w300 hm300 hR300 => ?_)
    have hrow := hrow.moved hm300
    have hag := hag.moved hm300
    refine sim_know 13 (decide ((↑k : Int) < (↑n : Int))) false (by kernel_rfl) (decide_eq_false (by omega)) ?_
    refine sim_run 1 [] hR300 (by kernel_rfl) trivial (fun ρ301 w301 hm301 hR301 => ?_)
    have hrow := hrow.moved hm301
    have hag := hag.moved hm301
    refine sim_leave (by kernel_rfl) ?_
    refine sim_end (.tup []) hR301 (by kernel_rfl) (by kernel_rfl) ?_
    
    obtain rfl : k = n := by omega
    rw [hys]
    exact ⟨rfl, hrow.close0, hR301.keeps.kept⟩
end Go.Proofs.Ytnojkclgjinjhaa
