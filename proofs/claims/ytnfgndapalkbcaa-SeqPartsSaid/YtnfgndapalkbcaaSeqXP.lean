/-
  seq's comparisons, the world behind them told exactly: cmp.Compare, cmp.Or at three ints, slices.Compare at ints, seq.compare.
  seq.first: the first instruction of each Id, as a map.
  seq, plainly: classes of Ids, groups, their order. No program.
-/
import Derived.Test.YtnfgndapalkbcaaSeqAC
import Derived.Test.YtnfgndapalkbcaaOrds
import Derived.Deep.QuietTactic
import Derived.BigQuiet
import Derived.Deep.CutBlock
import Derived.Deep.CutRange
import Derived.Sort.Grow
import Derived.Test.YtnfgndapalkbcaaGrAE
import Derived.Test.YtnfgndapalkbcaaGrK
import Derived.Test.YtnfgndapalkbcaaMapL
import Derived.Test.YtnfgndapalkbcaaCmq
namespace Go.Proofs.Ytnfgndapalkbcaa
section
open Go Go.RowKit Go.Sort

theorem isNaNI_x (a : Int) (w : World) : Calls Try.prog 74 #[.int .i64 a] w fun e w' => e = .returned (.bool false) ∧ w = w' := by
  have HE := Lib.hid (show (!(a == a)) = false by simp)
  go_enter Try.func74, Try.ntmps74
  go_wp2_with (first | rw [HE.out])
  go_ret
  exact ⟨ret_bool (by simp), rfl⟩
set_option maxRecDepth 100000 in
theorem compareI_x (a b : Int) (w : World) : Calls Try.prog 64 #[.int .i64 a, .int .i64 b] w fun e w' => e = .returned (.int .i64 (cmpZ a b)) ∧ w = w' := by
  have ha := fun w => isNaNI_x a w
  have hb := fun w => isNaNI_x b w
  go_enter Try.func64, Try.ntmps64
  go_wp2_with (go_at_call 74; first | (refine (ha _).mono ?_; rintro e w' ⟨rfl, rfl⟩) | (refine (hb _).mono ?_; rintro e w' ⟨rfl, rfl⟩))
  · rename_i h1
    go_ret
    exact ⟨ret_int (cmpZ_lt (by simpa using h1)).symm, rfl⟩
  · rename_i h1 _ _ h2
    go_ret
    exact ⟨ret_int (cmpZ_gt (by simpa using h2)).symm, rfl⟩
  · rename_i h1 h2
    go_ret
    exact ⟨ret_int (cmpZ_eq (by simpa using h1) (by simpa using h2)).symm, rfl⟩
/-- the first of some ints that is not 0 -/
theorem or_x (a b : Int) (g : Nat) (w : World) (h0 : w.cell? ⟨g, 0, none⟩ = some (.int .i64 a)) (h1 : w.cell? ⟨g, 1, none⟩ = some (.int .i64 b)) : Calls Try.prog 63 #[.slice (some ⟨g, 0, none⟩) 2 2] w fun e w' => e = .returned (.int .i64 (orZ a b)) ∧ w = w' := by
  have H0 := Lib.hid h0
  have H1 := Lib.hid h1
  clear h0 h1
  by_cases ha : a = 0
  · subst ha
    by_cases hb : b = 0
    · subst hb
      go_enter Try.func63, Try.ntmps63
      go_wp2
      refine wp_loop_rounds 3 ?_
      rw [rounds_succ]
      go_wp2_with (first | rw [H0.out] | rw [H1.out])
      rw [rounds_succ]
      go_wp2_with (first | rw [H0.out] | rw [H1.out])
      rw [rounds_succ]
      go_wp2_with (first | rw [H0.out] | rw [H1.out])
      go_ret
      exact ⟨rfl, rfl⟩
    · have HB := Lib.hid hb
      clear hb
      go_enter Try.func63, Try.ntmps63
      go_wp2
      refine wp_loop_rounds 3 ?_
      rw [rounds_succ]
      go_wp2_with (first | rw [H0.out] | rw [H1.out])
      rw [rounds_succ]
      go_wp2_with (first | rw [H0.out] | rw [H1.out])
      · go_ret
        exact ⟨ret_int (by unfold orZ; rw [if_pos rfl]), rfl⟩
      · rename_i h
        exact absurd (by simpa using h) HB.out
  · have HA := Lib.hid ha
    clear ha
    go_enter Try.func63, Try.ntmps63
    go_wp2
    refine wp_loop_rounds 3 ?_
    rw [rounds_succ]
    go_wp2_with (first | rw [H0.out] | rw [H1.out])
    · go_ret
      exact ⟨ret_int (by unfold orZ; rw [if_neg HA.out]), rfl⟩
    · rename_i h
      exact absurd (by simpa using h) HA.out
theorem or3_x (a b c : Int) (g : Nat) (w : World) (h0 : w.cell? ⟨g, 0, none⟩ = some (.int .i64 a)) (h1 : w.cell? ⟨g, 1, none⟩ = some (.int .i64 b)) (h2 : w.cell? ⟨g, 2, none⟩ = some (.int .i64 c)) : Calls Try.prog 63 #[.slice (some ⟨g, 0, none⟩) 3 3] w fun e w' => e = .returned (.int .i64 (orZ a (orZ b c))) ∧ w = w' := by
  have H0 := Lib.hid h0
  have H1 := Lib.hid h1
  have H2 := Lib.hid h2
  clear h0 h1 h2
  by_cases ha : a = 0
  · subst ha
    by_cases hb : b = 0
    · subst hb
      by_cases hc : c = 0
      · subst hc
        go_enter Try.func63, Try.ntmps63
        go_wp2
        refine wp_loop_rounds 4 ?_
        rw [rounds_succ]
        go_wp2_with (first | rw [H0.out] | rw [H1.out] | rw [H2.out])
        rw [rounds_succ]
        go_wp2_with (first | rw [H0.out] | rw [H1.out] | rw [H2.out])
        rw [rounds_succ]
        go_wp2_with (first | rw [H0.out] | rw [H1.out] | rw [H2.out])
        rw [rounds_succ]
        go_wp2_with (first | rw [H0.out] | rw [H1.out] | rw [H2.out])
        go_ret
        exact ⟨rfl, rfl⟩
      · have HC := Lib.hid hc
        clear hc
        go_enter Try.func63, Try.ntmps63
        go_wp2
        refine wp_loop_rounds 4 ?_
        rw [rounds_succ]
        go_wp2_with (first | rw [H0.out] | rw [H1.out] | rw [H2.out])
        rw [rounds_succ]
        go_wp2_with (first | rw [H0.out] | rw [H1.out] | rw [H2.out])
        rw [rounds_succ]
        go_wp2_with (first | rw [H0.out] | rw [H1.out] | rw [H2.out])
        · go_ret
          exact ⟨ret_int (by unfold orZ; rw [if_pos rfl, if_pos rfl]), rfl⟩
        · rename_i h
          exact absurd (by simpa using h) HC.out
    · have HB := Lib.hid hb
      clear hb
      go_enter Try.func63, Try.ntmps63
      go_wp2
      refine wp_loop_rounds 3 ?_
      rw [rounds_succ]
      go_wp2_with (first | rw [H0.out] | rw [H1.out])
      rw [rounds_succ]
      go_wp2_with (first | rw [H0.out] | rw [H1.out])
      · go_ret
        exact ⟨ret_int (by unfold orZ; rw [if_pos rfl, if_neg HB.out]), rfl⟩
      · rename_i h
        exact absurd (by simpa using h) HB.out
  · have HA := Lib.hid ha
    clear ha
    go_enter Try.func63, Try.ntmps63
    go_wp2
    refine wp_loop_rounds 3 ?_
    rw [rounds_succ]
    go_wp2_with (first | rw [H0.out] | rw [H1.out])
    · go_ret
      exact ⟨ret_int (by unfold orZ; rw [if_neg HA.out]), rfl⟩
    · rename_i h
      exact absurd (by simpa using h) HA.out
theorem cmpL_get {xs ys : List Int} {k : Nat} {x y : Int} (hx : xs[k]? = some x) (hy : ys[k]? = some y) : cmpL (xs.drop k) (ys.drop k) = orZ (cmpZ x y) (cmpL (xs.drop (k + 1)) (ys.drop (k + 1))) := by
  obtain ⟨h1, e1⟩ := List.getElem?_eq_some_iff.1 hx
  obtain ⟨h2, e2⟩ := List.getElem?_eq_some_iff.1 hy
  rw [List.drop_eq_getElem_cons h1, List.drop_eq_getElem_cons h2, e1, e2]
  rfl
theorem cmpInts_x (A A' : Option Addr) (n c n' c' B B' : Nat) (xs ys : List Int) (w : World) (h : Reads w B 1 A n (ints xs)) (h' : Reads w B' 1 A' n' (ints ys)) (hn : n ≤ 1000000000000) :
    Calls Try.prog 69 #[.slice A n c, .slice A' n' c'] w fun e w' => e = .returned (.int .i64 (cmpL xs ys)) ∧ w = w' := by
  have HL := Lib.hid h.int_len
  have HL' := Lib.hid h'.int_len
  have hc0 := compareI_x
  go_enter Try.func69, Try.ntmps69
  go_wp2_with fail
  go_loopw [11] (fun i wr => ∃ k : Nat, k ≤ n ∧ k ≤ n' ∧ i = .int .i64 k ∧ wr = w ∧ cmpL xs ys = cmpL (xs.drop k) (ys.drop k)) (fun i _ => n - (intOf i).toNat)
  case atStart => exact ⟨0, Nat.zero_le _, Nat.zero_le _, rfl, rfl, rfl⟩
  case round =>
    obtain ⟨k, hk, hk', rfl, rfl, hall⟩ := hrel
    have HALL := Lib.hid hall
    clear hall
    by_cases hlt : k < n
    · obtain ⟨ad, x, rfl, _, hx, hc⟩ := h.int hlt
      have HC := Lib.hid hc
      by_cases hlt' : k < n'
      · obtain ⟨ad', y, rfl, _, hy, hc'⟩ := h'.int hlt'
        have HC' := Lib.hid hc'
        have HG := Lib.hid (cmpL_get hx hy)
        clear hx hy h h' hc hc'
        by_cases he : cmpZ x y = 0
        · have HE := Lib.hid he
          have hb1 : (cmpZ x y != 0) = false := by simp [he]
          clear he
          go_wp2_with (first | rw [HC.out] | rw [HC'.out] | (go_at_call 64; refine (hc0 _ _ _).mono ?_; rintro e w' ⟨rfl, rfl⟩))
          go_roundw
          case rel =>
            exact ⟨k + 1, by omega, by omega, by go_num, trivial, by rw [HALL.out, HG.out]; unfold orZ; rw [if_pos HE.out]⟩
          case measure => simp [intOf]; omega
        · have HE := Lib.hid he
          have hb1 : (cmpZ x y != 0) = true := by simp [he]
          clear he
          go_wp2_with (first | rw [HC.out] | rw [HC'.out] | (go_at_call 64; refine (hc0 _ _ _).mono ?_; rintro e w' ⟨rfl, rfl⟩))
          go_ret
          exact ⟨ret_int (by rw [HALL.out, HG.out]; unfold orZ; rw [if_neg HE.out]), rfl⟩
      · clear h h' hc
        have HF := Lib.hid (show cmpL xs ys = 1 from by
          rw [HALL.out, show ys.drop k = [] from List.drop_eq_nil_of_le (by have := HL'.out; omega), List.drop_eq_getElem_cons (l := xs) (by have := HL.out; omega)]
          rfl)
        go_wp2_with (first | rw [HC.out])
        go_ret
        exact ⟨ret_int HF.out.symm, rfl⟩
    · have HX := Lib.hid (show xs.drop k = [] from List.drop_eq_nil_of_le (by have := HL.out; omega))
      by_cases hlt' : n < n'
      · have HF := Lib.hid (show cmpL xs ys = -1 from by
          rw [HALL.out, HX.out, List.drop_eq_getElem_cons (l := ys) (by have := HL'.out; omega)]
          rfl)
        go_wp2_with fail
        go_ret
        exact ⟨ret_int HF.out.symm, rfl⟩
      · have HF := Lib.hid (show cmpL xs ys = 0 from by
          rw [HALL.out, HX.out, show ys.drop k = [] from List.drop_eq_nil_of_le (by have := HL'.out; omega)]
          rfl)
        go_wp2_with fail
        go_ret
        exact ⟨ret_int HF.out.symm, rfl⟩
theorem grow_cell {w : World} {os : Array Obj} {q g i : Nat} {v : Value} (h : w.cell? ⟨g, i, none⟩ = some v) : (grow (w.drewN q) os).cell? ⟨g, i, none⟩ = some v := by
  have hg := World.block_lt_of_cell? _ _ h
  have e : (grow (w.drewN q) os).heap[g]? = w.heap[g]? := by
    show (w.heap ++ os)[g]? = w.heap[g]?
    rw [Array.getElem?_append_left hg]
  unfold World.cell? at h ⊢
  simp only at h ⊢
  rw [e]
  exact h
theorem alloc_cell {w : World} {o : Obj} {g i : Nat} {v : Value} (h : w.cell? ⟨g, i, none⟩ = some v) : (w.alloc o).cell? ⟨g, i, none⟩ = some v := by
  have hg := World.block_lt_of_cell? _ _ h
  have e : (w.alloc o).heap[g]? = w.heap[g]? := by
    show (w.heap.push o)[g]? = w.heap[g]?
    rw [Array.getElem?_push_lt hg, Array.getElem?_eq_getElem hg]
  unfold World.cell? at h ⊢
  simp only at h ⊢
  rw [e]
  exact h
theorem grow3 (w : World) (a b c : Obj) : (((w.alloc a).alloc b).alloc c).drew = grow (w.drewN 1) #[a, b, c] := by
  have e : ((w.heap.push a).push b).push c = w.heap ++ #[a, b, c] := by apply Array.ext'; simp
  show ({ w with heap := ((w.heap.push a).push b).push c, drawn := w.drawn + 1 } : World) = { w with heap := w.heap ++ #[a, b, c], drawn := w.drawn + 1 }
  rw [e]
theorem grow2d (w : World) (a b c : Obj) (q : Nat) (os : Array Obj) : ((grow ((((w.alloc a).alloc b).drew).drewN q) os).alloc c) = grow (w.drewN (q + 1)) (#[a, b] ++ os ++ #[c]) := by
  have e : ((((w.heap.push a).push b) ++ os).push c) = w.heap ++ (#[a, b] ++ os ++ #[c]) := by apply Array.ext'; simp
  show ({ w with heap := ((((w.heap.push a).push b) ++ os).push c), drawn := w.drawn + 1 + q } : World) = { w with heap := w.heap ++ (#[a, b] ++ os ++ #[c]), drawn := w.drawn + (q + 1) }
  rw [e, show w.drawn + 1 + q = w.drawn + (q + 1) by omega]
theorem grow_two (w : World) (a b c : Obj) (q : Nat) (os : Array Obj) {w2 : World} (h : grow ((((w.alloc a).alloc b).drew).drewN q) os = w2) : w2.alloc c = grow (w.drewN (q + 1)) (#[a, b] ++ os ++ #[c]) := by
  rw [← h]
  exact grow2d w a b c q os
set_option maxRecDepth 100000 in
set_option maxHeartbeats 4000000 in
theorem rkCmp_x (x y : Rk) (w : World) : Calls Try.prog 44 #[x.val, y.val] w fun e w' => e = .returned (.int .i64 (rkC x y)) ∧ ∃ q os', w' = grow (w.drewN q) os' := by
  obtain ⟨a, b, c⟩ := x
  obtain ⟨a', b', c'⟩ := y
  show Calls Try.prog 44 #[.agg #[.int .i64 a, .int .i64 b, .int .i64 c], .agg #[.int .i64 a', .int .i64 b', .int .i64 c']] w _
  have h1 := fun w => compareI_x a a' w
  have h2 := fun w => compareI_x b b' w
  have h3 := fun w => compareI_x c c' w
  go_enter Try.func44, Try.ntmps44
  go_wp2
  refine wp_region_ord ((0, false) :: (1, false) :: (2, false) :: (3, false) :: (5, false) :: (6, false) :: (7, false) :: (8, false) :: (10, false) :: (11, false) :: (12, false) :: (13, false) :: (4, true) :: (9, true) :: (14, true) :: (15, true) :: (16, true) :: (17, false) :: []) (fun w' => ((w'.cell? ⟨w.heap.size, 0, none⟩ = some (.int .i64 a) ∧ w'.cell? ⟨w.heap.size, 1, none⟩ = some (.int .i64 b) ∧ w'.cell? ⟨w.heap.size, 2, none⟩ = some (.int .i64 c)) ∧ (w'.cell? ⟨w.heap.size + 1, 0, none⟩ = some (.int .i64 a') ∧ w'.cell? ⟨w.heap.size + 1, 1, none⟩ = some (.int .i64 b') ∧ w'.cell? ⟨w.heap.size + 1, 2, none⟩ = some (.int .i64 c')))) (by kernel_rfl) (by kernel_rfl) (by kernel_rfl) (by kernel_rfl) (fun _ _ d _ _ h => by cases d <;> exact h) ?_ (fun hHeld => ?_)
  · refine ⟨⟨?_, ?_, ?_⟩, ?_, ?_, ?_⟩ <;> go_simp
  iterate 12 (first | (refine wpOrd_skip (by simp only [List.getElem?_toArray, List.getElem?_cons_succ, List.getElem?_cons_zero]; rfl) (by rfl) ?_; (simp only [Act.put, List.setIfInBounds_toArray, List.set_cons_zero, List.set_cons_succ])) | (refine wpOrd_take (v := ?_) (by simp only [List.getElem?_toArray, List.getElem?_cons_succ, List.getElem?_cons_zero]; rfl) (by rfl) ?_ ?_; rotate_left; (· (intro w hSw; (try dsimp only at hSw); go_simp; try with_reducible rfl)); (simp only [Act.put, List.setIfInBounds_toArray, List.set_cons_zero, List.set_cons_succ])))
  refine wpOrd_alone (by simp only [List.getElem?_toArray, List.getElem?_cons_succ, List.getElem?_cons_zero]; rfl) (fun K hK => ?_)
  go_simp
  (go_at_call 64; refine (h1 _).mono ?_; rintro e w' ⟨rfl, rfl⟩)
  refine hK.out _ _ hHeld (fun hHeld => ?_)
  clear hK K
  refine wpOrd_alone (by simp only [List.getElem?_toArray, List.getElem?_cons_succ, List.getElem?_cons_zero]; rfl) (fun K hK => ?_)
  go_simp
  (go_at_call 64; refine (h2 _).mono ?_; rintro e w' ⟨rfl, rfl⟩)
  refine hK.out _ _ hHeld (fun hHeld => ?_)
  clear hK K
  refine wpOrd_alone (by simp only [List.getElem?_toArray, List.getElem?_cons_succ, List.getElem?_cons_zero]; rfl) (fun K hK => ?_)
  go_simp
  (go_at_call 64; refine (h3 _).mono ?_; rintro e w' ⟨rfl, rfl⟩)
  refine hK.out _ _ hHeld (fun hHeld => ?_)
  clear hK K
  refine wpOrd_alone (by simp only [List.getElem?_toArray, List.getElem?_cons_succ, List.getElem?_cons_zero]; rfl) (fun K hK => ?_)
  go_simp
  refine hK.out _ _ (by obtain ⟨⟨k1, k2, k3⟩, k4, k5, k6⟩ := hHeld; exact ⟨⟨alloc_cell k1, alloc_cell k2, alloc_cell k3⟩, alloc_cell k4, alloc_cell k5, alloc_cell k6⟩) (fun hHeld => ?_)
  clear hK K
  refine wpOrd_alone (by simp only [List.getElem?_toArray, List.getElem?_cons_succ, List.getElem?_cons_zero]; rfl) (fun K hK => ?_)
  go_simp
  (go_at_call 63; refine (or3_x (cmpZ a a') (cmpZ b b') (cmpZ c c') (w.heap.size + 1 + 1) _ (by go_simp) (by go_simp) (by go_simp)).mono ?_; rintro e w' ⟨rfl, rfl⟩)
  refine hK.out _ _ hHeld (fun hHeld => ?_)
  clear hK K
  iterate 1 (first | (refine wpOrd_skip (by simp only [List.getElem?_toArray, List.getElem?_cons_succ, List.getElem?_cons_zero]; rfl) (by rfl) ?_; (simp only [Act.put, List.setIfInBounds_toArray, List.set_cons_zero, List.set_cons_succ])) | (refine wpOrd_take (v := ?_) (by simp only [List.getElem?_toArray, List.getElem?_cons_succ, List.getElem?_cons_zero]; rfl) (by rfl) ?_ ?_; rotate_left; (· (intro w hSw; (try dsimp only at hSw); go_simp; try with_reducible rfl)); (simp only [Act.put, List.setIfInBounds_toArray, List.set_cons_zero, List.set_cons_succ])))
  refine wpOrd_done ?_
  go_wp2_with fail
  go_ret
  exact ⟨rfl, 1, #[.cells #[.int .i64 a, .int .i64 b, .int .i64 c] 47, .cells #[.int .i64 a', .int .i64 b', .int .i64 c'] 47, .cells #[.int .i64 (cmpZ a a'), .int .i64 (cmpZ b b'), .int .i64 (cmpZ c c')] 3], grow3 ..⟩
theorem below_two (w : World) (a b : Obj) (q : Nat) (os : Array Obj) {w2 : World} (h : grow ((((w.alloc a).alloc b).drew).drewN q) os = w2) : Below w.heap.size w w2 := by
  subst h
  refine ⟨rfl, rfl, rfl, ?_, fun k hk => ?_⟩
  · show w.heap.size ≤ (((w.heap.push a).push b) ++ os).size
    simp
    omega
  · show (((w.heap.push a).push b) ++ os)[k]? = w.heap[k]?
    rw [Array.getElem?_append_left (by simp; omega), Array.getElem?_push_lt (by simp; omega), Array.getElem_push_lt hk, Array.getElem?_eq_getElem hk]
set_option maxRecDepth 100000 in
set_option maxHeartbeats 4000000 in
theorem group1_x (A A' : Option Addr) (n c n' c' B B' : Nat) (xs ys : List Int) (x y : Rk) (w : World) (h : Reads w B 1 A n (ints xs)) (h' : Reads w B' 1 A' n' (ints ys)) (hB : B ≤ w.heap.size) (hB' : B' ≤ w.heap.size) (hn : n ≤ 1000000000000) :
    Calls Try.prog 68 #[.agg #[.slice A n c, .int .i64 x.prio, .int .i64 x.day, .int .i64 x.id], .agg #[.slice A' n' c', .int .i64 y.prio, .int .i64 y.day, .int .i64 y.id]] w fun e w' => e = .returned (.int .i64 (orZ (rkC x y) (cmpL xs ys))) ∧ ∃ q os', w' = grow (w.drewN q) os' := by
  obtain ⟨a, b, d⟩ := x
  obtain ⟨a', b', d'⟩ := y
  dsimp only
  have h1 := fun w => rkCmp_x ⟨a, b, d⟩ ⟨a', b', d'⟩ w
  have h2 := fun (w2 : World) (hb : Below w.heap.size w w2) => cmpInts_x A A' n c n' c' B B' xs ys w2 (h.belowN hb hB) (h'.belowN hb hB') hn
  simp only [Rk.val] at h1
  go_enter Try.func68, Try.ntmps68
  go_wp2
  refine wp_region_ord ((0, false) :: (1, false) :: (2, false) :: (3, false) :: (5, false) :: (6, false) :: (7, false) :: (8, false) :: (4, true) :: (9, true) :: (10, true) :: (11, true) :: (12, false) :: []) (fun w' => ((w'.cell? ⟨w.heap.size, 0, none⟩ = some (.slice A n c) ∧ w'.cell? ⟨w.heap.size, 1, none⟩ = some (.int .i64 a) ∧ w'.cell? ⟨w.heap.size, 2, none⟩ = some (.int .i64 b) ∧ w'.cell? ⟨w.heap.size, 3, none⟩ = some (.int .i64 d)) ∧ (w'.cell? ⟨w.heap.size + 1, 0, none⟩ = some (.slice A' n' c') ∧ w'.cell? ⟨w.heap.size + 1, 1, none⟩ = some (.int .i64 a') ∧ w'.cell? ⟨w.heap.size + 1, 2, none⟩ = some (.int .i64 b') ∧ w'.cell? ⟨w.heap.size + 1, 3, none⟩ = some (.int .i64 d')))) (by kernel_rfl) (by kernel_rfl) (by kernel_rfl) (by kernel_rfl) (fun _ _ d _ _ h => by cases d <;> exact h) ?_ (fun hHeld => ?_)
  · refine ⟨⟨?_, ?_, ?_, ?_⟩, ?_, ?_, ?_, ?_⟩ <;> go_simp
  iterate 8 (first | (refine wpOrd_skip (by simp only [List.getElem?_toArray, List.getElem?_cons_succ, List.getElem?_cons_zero]; rfl) (by rfl) ?_; (simp only [Act.put, List.setIfInBounds_toArray, List.set_cons_zero, List.set_cons_succ])) | (refine wpOrd_take (v := ?_) (by simp only [List.getElem?_toArray, List.getElem?_cons_succ, List.getElem?_cons_zero]; rfl) (by rfl) ?_ ?_; rotate_left; (· (intro w hSw; (try dsimp only at hSw); go_simp; try with_reducible rfl)); (simp only [Act.put, List.setIfInBounds_toArray, List.set_cons_zero, List.set_cons_succ])))
  refine wpOrd_alone (by simp only [List.getElem?_toArray, List.getElem?_cons_succ, List.getElem?_cons_zero]; rfl) (fun K hK => ?_)
  go_simp
  (go_at_call 44; refine (h1 _).mono ?_; rintro e w2 ⟨rfl, q, os', hw2⟩)
  refine hK.out _ _ (by subst hw2; obtain ⟨⟨k1, k2, k3, k7⟩, k4, k5, k6, k8⟩ := hHeld; exact ⟨⟨grow_cell k1, grow_cell k2, grow_cell k3, grow_cell k7⟩, grow_cell k4, grow_cell k5, grow_cell k6, grow_cell k8⟩) (fun hHeld => ?_)
  clear hK K
  have hbel := below_two _ _ _ _ _ hw2.symm
  have h3 := h2 w2 hbel
  have HW := Lib.hid hw2
  clear hw2 h2 h1 h h' hbel
  refine wpOrd_alone (by simp only [List.getElem?_toArray, List.getElem?_cons_succ, List.getElem?_cons_zero]; rfl) (fun K hK => ?_)
  go_simp
  (go_at_call 69; refine h3.mono ?_; rintro e w' ⟨rfl, rfl⟩)
  refine hK.out _ _ hHeld (fun hHeld => ?_)
  clear hK K
  refine wpOrd_alone (by simp only [List.getElem?_toArray, List.getElem?_cons_succ, List.getElem?_cons_zero]; rfl) (fun K hK => ?_)
  go_simp
  refine hK.out _ _ (by obtain ⟨⟨k1, k2, k3, k7⟩, k4, k5, k6, k8⟩ := hHeld; exact ⟨⟨alloc_cell k1, alloc_cell k2, alloc_cell k3, alloc_cell k7⟩, alloc_cell k4, alloc_cell k5, alloc_cell k6, alloc_cell k8⟩) (fun hHeld => ?_)
  clear hK K
  refine wpOrd_alone (by simp only [List.getElem?_toArray, List.getElem?_cons_succ, List.getElem?_cons_zero]; rfl) (fun K hK => ?_)
  go_simp
  (go_at_call 63; refine (or_x (rkC ⟨a, b, d⟩ ⟨a', b', d'⟩) (cmpL xs ys) _ _ (by go_simp) (by go_simp)).mono ?_; rintro e w' ⟨rfl, rfl⟩)
  refine hK.out _ _ hHeld (fun hHeld => ?_)
  clear hK K
  iterate 1 (first | (refine wpOrd_skip (by simp only [List.getElem?_toArray, List.getElem?_cons_succ, List.getElem?_cons_zero]; rfl) (by rfl) ?_; (simp only [Act.put, List.setIfInBounds_toArray, List.set_cons_zero, List.set_cons_succ])) | (refine wpOrd_take (v := ?_) (by simp only [List.getElem?_toArray, List.getElem?_cons_succ, List.getElem?_cons_zero]; rfl) (by rfl) ?_ ?_; rotate_left; (· (intro w hSw; (try dsimp only at hSw); go_simp; try with_reducible rfl)); (simp only [Act.put, List.setIfInBounds_toArray, List.set_cons_zero, List.set_cons_succ])))
  refine wpOrd_done ?_
  go_wp2_with fail
  go_ret
  exact ⟨rfl, q + 1, _, grow_two _ _ _ _ _ _ HW.out.symm⟩
end

section
open Go Go.RowKit
def firstM (l : List In) (z : Int) : Option In := l.find? fun x => decide (x.id = z)
theorem firstM_snoc (l : List In) (x : In) (z : Int) : firstM (l ++ [x]) z = if (firstM l z).isSome = true then firstM l z else if x.id = z then some x else none := by
  unfold firstM
  rw [List.find?_append]
  cases h : l.find? fun x => decide (x.id = z) with
  | some y => simp
  | none =>
    simp only [Option.none_or, Option.isSome_none, Bool.false_eq_true, if_false]
    by_cases e : x.id = z
    · simp [e]
    · simp [e]
theorem firstM_id {l : List In} {z : Int} {x : In} (h : firstM l z = some x) : x.id = z := by
  unfold firstM at h
  exact of_decide_eq_true (List.find?_some (p := fun x : In => decide (x.id = z)) h)
theorem firstM_has {l : List In} {z : Int} : (firstM l z).isSome = true ↔ ∃ x ∈ l, x.id = z := by
  unfold firstM
  rw [List.find?_isSome]
  simp
theorem mi_ty : Try.prog.underlying 83 = some (.map 3 55) := Try.underlying83
theorem zero_in (w : World) : (zeroValue 55).run Try.prog w = .ok zeroIn.val w := by kernel_rfl
/-- a map of instructions by their Ids -/
def InM (w : World) (g : Nat) (m : List (Ent Int In)) (ck : Nat) (l : List In) : Prop := Mp encZ In.val w g m ck ∧ ∀ z, look z m = firstM l z
theorem first_next {m : List (Ent Int In)} {l : List In} {x : In} {k : Nat} (hx : l[k]? = some x) (hm : ∀ z, look z m = firstM (l.take k) z) (ck : Nat) : ∀ z, look z (if hasK x.id m = true then m else ins x.id x ck m) = firstM (l.take (k + 1)) z := fun z => by
  rw [List.take_add_one, hx]
  show _ = firstM (l.take k ++ [x]) z
  rw [firstM_snoc, ← hm z]
  by_cases h : hasK x.id m = true
  · rw [if_pos h]
    by_cases e : x.id = z
    · subst e
      unfold hasK at h
      rw [if_pos h]
    · rw [if_neg e]
      split
      · rfl
      · rename_i h2
        cases hl : look z m with
        | none => rfl
        | some y => rw [hl] at h2; simp at h2
  · rw [if_neg h, look_ins]
    by_cases e : x.id = z
    · subst e
      unfold hasK at h
      rw [if_pos rfl, if_neg h, if_pos rfl]
    · rw [if_neg (fun h => e h.symm), if_neg e]
      split
      · rfl
      · rename_i h2
        cases hl : look z m with
        | none => rfl
        | some y => rw [hl] at h2; simp at h2
attribute [local irreducible] run goO leaveK someK nextK nextT nextOT nextOD loopBody loopRest loopK fillJ tmplOf tmplJ mergeT At AtO drawOk ordOf gateOf callC callO topOp topO idxOf appOf storeOf clearOf sliceOf calleeOf calleeO topQ idxQ newRowOf resL stepOp seek
set_option maxRecDepth 100000 in
set_option maxHeartbeats 4000000 in
theorem first_any (A : Option Addr) (n cp B : Nat) (l : List In) (w : World) (h : Reads w B 21 A n (insts l)) (hB : B ≤ w.heap.size) (hn : n ≤ 1000000) : Calls Try.prog 49 #[.slice A n cp] w fun e w' => ∃ g m ck, e = .returned (.map (some g)) ∧ w.heap.size ≤ g ∧ InM w' g m ck l ∧ Below w.heap.size w w' := by
  have hl := h.insts_len
  refine sim_enter Try.func49 ρ0 [.v (.slice A n cp)] [] (by kernel_rfl) rfl ?_
  have hR := Rel.start [] w ρ0
  refine sim_run 6 [] (hR.cast (by kernel_rfl)) (by kernel_rfl) trivial (fun ρ100 w100 hm100 hR100 => ?_)
  refine sim_make encZ In.val (t := 83) (by kernel_rfl) hR100 (fun w101 gd egd hb101 hD hR101 => ?_)
  refine sim_run 10 [] (hR101.cast (by kernel_rfl)) (by kernel_rfl) trivial (fun ρ102 w102 hm102 hR102 => ?_)
  have hD := hD.moved (hm102.castL (by kernel_rfl))
  
  have hgd : w.heap.size ≤ gd := by rw [egd]; exact hR100.keeps.size
  refine sim_loop (ι := Nat × List (Ent Int In) × Nat) (T := []) (w0 := w) (0, [], 0) [3, 9, 10] (fun s => [(11, LI s.1)]) (fun _ => []) (fun s w1 => s.1 ≤ n ∧ MpO encZ In.val ρ102 [] w1 (some gd) s.2.1 s.2.2 ∧ ∀ z, look z s.2.1 = firstM (l.take s.1) z) (fun s => n - s.1) (by kernel_rfl) (by kernel_rfl) ((by assumption : Rel _ _ _ _ _).cast (by kernel_rfl)) ⟨Nat.zero_le _, hD.castR (by kernel_rfl), fun _ => rfl⟩ ?_
  iterate 8 (try clear hD)
  rintro ⟨k, m, ck⟩ d w2 hR2 ⟨hk, hD, hm⟩
  dsimp only at hk hD hm
  have hag := hR2.ag_ 0 (by kernel_rfl)
  by_cases hlt : k < n
  · obtain ⟨x, hx⟩ : ∃ x, l[k]? = some x := ⟨_, List.getElem?_eq_getElem (by omega)⟩
    refine sim_see x.cells k 0 (by kernel_rfl) (xss := l.map In.cells) (by rw [List.getElem?_map, hx]; rfl) (by rw [← List.flatMap_def]; exact h) (by intro z hz; obtain ⟨o, _, rfl⟩ := List.mem_map.1 hz; rfl) (by omega) hlt hB (by simp) hR2 (by kernel_rfl) (fun ga oa ρE eA hgT hgl hmE eE hRE => ?_)
    subst eA
    have hD := hD.moved hmE
    have hag0 := hag.moved hmE
    have hag := hRE.ag_ 1 (by kernel_rfl)
    have hnx := first_next hx hm ck
    cases hb : hasK x.id m with
    | true =>
      rw [if_pos hb] at hnx
      refine sim_run 5 [] (hRE.cast (by kernel_rfl)) (by kernel_rfl) trivial (fun ρ200 w200 hm200 hR200 => ?_)
      have hD := hD.moved (hm200.castL (by kernel_rfl))
      have hag0 := hag0.moved (hm200.castL (by kernel_rfl))
      have hag := hag.moved (hm200.castL (by kernel_rfl))
      refine sim_know 12 (decide ((↑(k, m, ck).fst : Int) < (↑n : Int))) true (by kernel_rfl) (decide_eq_true (by omega)) ?_
      refine sim_run 6 [] (hR200.cast (by kernel_rfl)) (by kernel_rfl) trivial (fun ρ201 w201 hm201 hR201 => ?_)
      have hD := hD.moved (hm201.castL (by kernel_rfl))
      have hag0 := hag0.moved (hm201.castL (by kernel_rfl))
      have hag := hag.moved (hm201.castL (by kernel_rfl))
      refine sim_place (.v (.slice (some ⟨ga, oa, none⟩) n cp)) n 21 k 0 0 (by kernel_rfl) (by omega) (by omega) rfl (by simp only [Nm.at_, hag.at_ 0 (by omega), eE, Nat.add_zero, Int.toNat_natCast]) ?_
      refine sim_run 9 [] (hR201.cast (by kernel_rfl)) (by kernel_rfl) trivial (fun ρ203 w203 hm203 hR203 => ?_)
      have hD := hD.moved (hm203.castL (by kernel_rfl))
      have hag0 := hag0.moved (hm203.castL (by kernel_rfl))
      have hag := hag.moved (hm203.castL (by kernel_rfl))
      refine sim_look (enc := encZ) (encV := In.val) (mx := .v (Value.map (some gd))) (kx := LI x.id) (ok := true) x.id (.tup [.v ((look x.id m).getD zeroIn).val, LB true]) (by kernel_rfl) mi_ty kt_int zero_in hD rfl rfl (by rw [hb]; rfl) ?_
      refine sim_run 19 [⟨8, 0, LI (IntKind.i64.wrap ((↑(k, m, ck).fst : Int) + 1)), LI ((↑(k, m, ck).fst : Int) + 1)⟩] (hR203.cast (by kernel_rfl)) (by kernel_rfl) ⟨eqi (IntWalk.i64_in _ (by omega)), trivial⟩ (fun ρ205 w205 hm205 hR205 => ?_)
      have hD := hD.moved (hm205.castL (by kernel_rfl))
      have hag0 := hag0.moved (hm205.castL (by kernel_rfl))
      have hag := hag.moved (hm205.castL (by kernel_rfl))
      
      exact sim_again (k + 1, m, ck) (by kernel_rfl) (by show n - (k + 1) < n - k; omega) (by kernel_rfl) (by kernel_rfl) (by kernel_rfl) hag0.ag (Rel.cast (by assumption) (by kernel_rfl)) (by kernel_rfl) (by kernel_rfl) ⟨hlt, hD.cut hag0 rfl (by kernel_rfl), hnx⟩
    | false =>
      rw [if_neg (by rw [hb]; simp)] at hnx
      refine sim_run 5 [] (hRE.cast (by kernel_rfl)) (by kernel_rfl) trivial (fun ρ300 w300 hm300 hR300 => ?_)
      have hD := hD.moved (hm300.castL (by kernel_rfl))
      have hag0 := hag0.moved (hm300.castL (by kernel_rfl))
      have hag := hag.moved (hm300.castL (by kernel_rfl))
      refine sim_know 12 (decide ((↑(k, m, ck).fst : Int) < (↑n : Int))) true (by kernel_rfl) (decide_eq_true (by omega)) ?_
      refine sim_run 6 [] (hR300.cast (by kernel_rfl)) (by kernel_rfl) trivial (fun ρ301 w301 hm301 hR301 => ?_)
      have hD := hD.moved (hm301.castL (by kernel_rfl))
      have hag0 := hag0.moved (hm301.castL (by kernel_rfl))
      have hag := hag.moved (hm301.castL (by kernel_rfl))
      refine sim_place (.v (.slice (some ⟨ga, oa, none⟩) n cp)) n 21 k 0 0 (by kernel_rfl) (by omega) (by omega) rfl (by simp only [Nm.at_, hag.at_ 0 (by omega), eE, Nat.add_zero, Int.toNat_natCast]) ?_
      refine sim_run 9 [] (hR301.cast (by kernel_rfl)) (by kernel_rfl) trivial (fun ρ303 w303 hm303 hR303 => ?_)
      have hD := hD.moved (hm303.castL (by kernel_rfl))
      have hag0 := hag0.moved (hm303.castL (by kernel_rfl))
      have hag := hag.moved (hm303.castL (by kernel_rfl))
      refine sim_look (enc := encZ) (encV := In.val) (mx := .v (Value.map (some gd))) (kx := LI x.id) (ok := true) x.id (.tup [.v ((look x.id m).getD zeroIn).val, LB false]) (by kernel_rfl) mi_ty kt_int zero_in hD rfl rfl (by rw [hb]; rfl) ?_
      refine sim_run 18 [] (hR303.cast (by kernel_rfl)) (by kernel_rfl) trivial (fun ρ305 w305 hm305 hR305 => ?_)
      have hD := hD.moved (hm305.castL (by kernel_rfl))
      have hag0 := hag0.moved (hm305.castL (by kernel_rfl))
      have hag := hag.moved (hm305.castL (by kernel_rfl))
      refine sim_upd (enc := encZ) (encV := In.val) (mx := .v (Value.map (some gd))) (kx := LI x.id) (vx := .agg [LI x.id, LS x.term.party, LS x.term.account, LS x.term.money, LS x.term.other, LB x.term.deliver, LS x.term.asset, LS x.term.ccy, LS x.term.ref, LI x.term.qty, LI x.term.amount, LI x.term.day, LI x.term.trade, LI x.prio, LB x.part, LB x.held, LB x.wish, LI x.state, LI x.mate, LI x.done, LI x.paid]) x.id x (by kernel_rfl) mi_ty kt_int hD rfl rfl rfl (.inr hgd) hR305 (fun w306 ht306 hD2 hR306 => ?_)
      have hD := hD2
      clear hD2
      refine sim_run 6 [⟨8, 0, LI (IntKind.i64.wrap ((↑(k, m, ck).fst : Int) + 1)), LI ((↑(k, m, ck).fst : Int) + 1)⟩] (hR306.cast (by kernel_rfl)) (by kernel_rfl) ⟨eqi (IntWalk.i64_in _ (by omega)), trivial⟩ (fun ρ307 w307 hm307 hR307 => ?_)
      have hag0 := hag0.moved (hm307.castL (by kernel_rfl))
      have hag := hag.moved (hm307.castL (by kernel_rfl))
      have hD := hD.moved (hm307.castL (by kernel_rfl))
      
      exact sim_again (k + 1, ins x.id x ck m, clockAfter x.id m ck) (by kernel_rfl) (by show n - (k + 1) < n - k; omega) (by kernel_rfl) (by kernel_rfl) (by kernel_rfl) hag0.ag (Rel.cast (by assumption) (by kernel_rfl)) (by kernel_rfl) (by kernel_rfl) ⟨hlt, hD.cut hag0 rfl (by kernel_rfl), hnx⟩
  · rw [List.take_of_length_le (by omega)] at hm
    refine sim_run 5 [] (hR2.cast (by kernel_rfl)) (by kernel_rfl) trivial (fun ρ400 w400 hm400 hR400 => ?_)
    have hD := hD.moved (hm400.castL (by kernel_rfl))
    have hag := hag.moved (hm400.castL (by kernel_rfl))
    refine sim_know 12 (decide ((↑(k, m, ck).fst : Int) < (↑n : Int))) false (by kernel_rfl) (decide_eq_false (by omega)) ?_
    refine sim_run 1 [] (hR400.cast (by kernel_rfl)) (by kernel_rfl) trivial (fun ρ401 w401 hm401 hR401 => ?_)
    have hD := hD.moved (hm401.castL (by kernel_rfl))
    have hag := hag.moved (hm401.castL (by kernel_rfl))
    refine sim_leave (by kernel_rfl) ?_
    refine sim_run 5 [] (hR401.cast (by kernel_rfl)) (by kernel_rfl) trivial (fun ρ402 w402 hm402 hR402 => ?_)
    have hD := hD.moved (hm402.castL (by kernel_rfl))
    have hag := hag.moved (hm402.castL (by kernel_rfl))
    refine sim_ret (.v (Value.map (some gd))) hR402 (by kernel_rfl) (by kernel_rfl) ?_
    
    exact ⟨gd, m, ck, rfl, hgd, ⟨(hD.is _ rfl).1, hm⟩, (by assumption : Rel _ _ _ _ _).toBelow⟩
end

section
open Go Go.RowKit Go.Sort
/-! ### classes of Ids -/
theorem inU_iff {u : List Nat} {i : Int} : inU u i = true ↔ 1 ≤ i ∧ i ≤ u.length := by unfold inU; simp
def clsI (u : List Nat) (i : Int) : List Int := if inU u i = true then (Uf.cls u (Uf.hd u i.toNat)).map Int.ofNat else [i]
def SameC (u : List Nat) (i j : Int) : Prop := i = j ∨ (inU u i = true ∧ inU u j = true ∧ Uf.hd u i.toNat = Uf.hd u j.toNat)
theorem SameC.refl (u : List Nat) (i : Int) : SameC u i i := .inl rfl
theorem SameC.symm {u : List Nat} {i j : Int} (h : SameC u i j) : SameC u j i := by
  rcases h with rfl | ⟨h1, h2, h3⟩
  · exact .inl rfl
  · exact .inr ⟨h2, h1, h3.symm⟩
theorem SameC.trans {u : List Nat} {i j k : Int} (h : SameC u i j) (h' : SameC u j k) : SameC u i k := by
  rcases h with rfl | ⟨h1, h2, h3⟩
  · exact h'
  · rcases h' with rfl | ⟨h4, h5, h6⟩
    · exact .inr ⟨h1, h2, h3⟩
    · exact .inr ⟨h1, h5, h3.trans h6⟩
theorem mem_clsI {u : List Nat} {i j : Int} : j ∈ clsI u i ↔ SameC u i j := by
  unfold clsI SameC
  by_cases h : inU u i = true
  · rw [if_pos h, List.mem_map]
    constructor
    · rintro ⟨x, hx, rfl⟩
      obtain ⟨hr, hh⟩ := Uf.mem_cls.1 hx
      exact .inr ⟨h, nat_inU hr, by rw [Int.ofNat_eq_natCast, Int.toNat_natCast]; exact hh.symm⟩
    · rintro (rfl | ⟨_, h2, h3⟩)
      · have := inU_iff.1 h
        exact ⟨i.toNat, Uf.mem_cls.2 ⟨by omega, rfl⟩, by simp; omega⟩
      · have := inU_iff.1 h2
        exact ⟨j.toNat, Uf.mem_cls.2 ⟨by omega, h3.symm⟩, by simp; omega⟩
  · rw [if_neg h, List.mem_singleton]
    constructor
    · rintro rfl
      exact .inl rfl
    · rintro (rfl | ⟨h1, _⟩)
      · rfl
      · exact absurd h1 h
theorem clsI_congr {u : List Nat} {i j : Int} (h : SameC u i j) : clsI u i = clsI u j := by
  rcases h with rfl | ⟨h1, h2, h3⟩
  · rfl
  · unfold clsI
    rw [if_pos h1, if_pos h2, h3]
theorem clsI_sorted (u : List Nat) (i : Int) : (clsI u i).Pairwise (· < ·) := by
  unfold clsI
  split
  · refine List.pairwise_map.2 (List.Pairwise.imp (R := (· < ·)) (fun h => by simp; exact h) ?_)
    unfold Uf.cls
    exact (List.pairwise_lt_range' ..).filter _
  · exact List.pairwise_singleton _ _
/-! ### one of each class -/
def stepRep (u : List Nat) (acc : List Int) (i : Int) : List Int := if acc.any (fun d => (clsI u d).contains i) = true then acc else acc ++ [i]
def repsM (u : List Nat) (ks : List Int) : List Int := ks.foldl (stepRep u) []
theorem reps_snoc (u : List Nat) (ks : List Int) (i : Int) : repsM u (ks ++ [i]) = stepRep u (repsM u ks) i := by unfold repsM; rw [List.foldl_append]; rfl
theorem any_cls {u : List Nat} {l : List Int} {i : Int} : l.any (fun d => (clsI u d).contains i) = true ↔ ∃ d ∈ l, SameC u d i := by
  rw [List.any_eq_true]
  constructor
  · rintro ⟨d, hd, h⟩
    exact ⟨d, hd, mem_clsI.1 (List.contains_iff_mem.1 h)⟩
  · rintro ⟨d, hd, h⟩
    exact ⟨d, hd, List.contains_iff_mem.2 (mem_clsI.2 h)⟩
structure RepI (u : List Nat) (acc ks r : List Int) : Prop where
  keep : ∀ i ∈ acc, i ∈ r
  sub : ∀ i ∈ r, i ∈ acc ∨ i ∈ ks
  all : ∀ i ∈ ks, ∃ d ∈ r, SameC u d i
  apart : acc.Pairwise (fun a b => ¬ SameC u a b) → r.Pairwise (fun a b => ¬ SameC u a b)
theorem reps_fold (u : List Nat) : ∀ (ks acc : List Int), RepI u acc ks (ks.foldl (stepRep u) acc)
  | [], acc => ⟨fun _ h => h, fun _ h => .inl h, fun _ h => (List.not_mem_nil h).elim, fun h => h⟩
  | k :: ks, acc => by
    have ih := reps_fold u ks (stepRep u acc k)
    rw [List.foldl_cons]
    have hs : (∀ i ∈ acc, i ∈ stepRep u acc k) ∧ (∀ i ∈ stepRep u acc k, i ∈ acc ∨ i = k) ∧ (∃ d ∈ stepRep u acc k, SameC u d k) ∧ (acc.Pairwise (fun a b => ¬ SameC u a b) → (stepRep u acc k).Pairwise (fun a b => ¬ SameC u a b)) := by
      unfold stepRep
      by_cases hc : acc.any (fun d => (clsI u d).contains k) = true
      · rw [if_pos hc]
        exact ⟨fun _ h => h, fun _ h => .inl h, any_cls.1 hc, fun h => h⟩
      · rw [if_neg hc]
        refine ⟨fun i h => List.mem_append_left _ h, fun i h => ?_, ⟨k, by simp, .refl u k⟩, fun h => ?_⟩
        · rw [List.mem_append, List.mem_singleton] at h
          exact h
        · refine List.pairwise_append.2 ⟨h, List.pairwise_singleton _ _, fun a ha b hb hs => ?_⟩
          obtain rfl := List.mem_singleton.1 hb
          exact hc (any_cls.2 ⟨a, ha, hs⟩)
    obtain ⟨h1, h2, ⟨d, hd, h3⟩, h4⟩ := hs
    refine ⟨fun i h => ih.keep i (h1 i h), fun i h => ?_, fun i h => ?_, fun h => ih.apart (h4 h)⟩
    · rcases ih.sub i h with h | h
      · rcases h2 i h with h | rfl
        · exact .inl h
        · exact .inr (List.mem_cons_self ..)
      · exact .inr (List.mem_cons_of_mem _ h)
    · rcases List.mem_cons.1 h with rfl | h
      · exact ⟨d, ih.keep d hd, h3⟩
      · exact ih.all i h
theorem reps_inv (u : List Nat) (ks : List Int) : RepI u [] ks (repsM u ks) := reps_fold u ks []
theorem reps_any (u : List Nat) (ks : List Int) (i : Int) : (repsM u ks).any (fun d => (clsI u d).contains i) = ks.any (fun d => (clsI u d).contains i) := by
  rw [Bool.eq_iff_iff, any_cls, any_cls]
  constructor
  · rintro ⟨d, hd, h⟩
    rcases (reps_inv u ks).sub d hd with h0 | h0
    · exact (List.not_mem_nil h0).elim
    · exact ⟨d, h0, h⟩
  · rintro ⟨d, hd, h⟩
    obtain ⟨r, hr, h2⟩ := (reps_inv u ks).all d hd
    exact ⟨r, hr, h2.trans h⟩
/-! ### groups -/
def gidsM (u : List Nat) (F : Int → Option In) (i : Int) : List Int := (clsI u i).filter fun z => (F z).isSome
def rkF (F : Int → Option In) (ids : List Int) : Rk := match ids.filterMap F with
  | [] => ⟨0, 0, 0⟩
  | x :: l => ofM x l
def cmpG (F : Int → Option In) (a b : List Int) : Int := orZ (rkC (rkF F a) (rkF F b)) (cmpL a b)
theorem cmG (F : Int → Option In) : Cm (cmpG F) := ((cmRk.map (rkF F)).or_ cmL)
theorem cmpG_zero {F : Int → Option In} {a b : List Int} (h : cmpG F a b = 0) : a = b := by
  unfold cmpG orZ at h
  split at h
  · exact cmpL_zero h
  · rename_i h1
    exact absurd h h1
def grpsM (u : List Nat) (F : Int → Option In) (ks : List Int) : List (List Int) := (repsM u ks).map (gidsM u F)
def sortG (F : Int → Option In) (gs : List (List Int)) : List (List Int) := gs.mergeSort fun x y => !(ltOf (cmpG F) y x)
theorem sortG_perm (F : Int → Option In) (gs : List (List Int)) : (sortG F gs).Perm gs := List.mergeSort_perm gs _
theorem mem_gids {u : List Nat} {F : Int → Option In} {i z : Int} : z ∈ gidsM u F i ↔ SameC u i z ∧ (F z).isSome = true := by
  unfold gidsM
  rw [List.mem_filter, mem_clsI]
theorem gids_congr {u : List Nat} {F : Int → Option In} {i j : Int} (h : SameC u i j) : gidsM u F i = gidsM u F j := by unfold gidsM; rw [clsI_congr h]
theorem mem_grps {u : List Nat} {F : Int → Option In} {ks : List Int} {g : List Int} : g ∈ grpsM u F ks ↔ ∃ i ∈ ks, g = gidsM u F i := by
  unfold grpsM
  rw [List.mem_map]
  constructor
  · rintro ⟨r, hr, rfl⟩
    rcases (reps_inv u ks).sub r hr with h | h
    · exact (List.not_mem_nil h).elim
    · exact ⟨r, h, rfl⟩
  · rintro ⟨i, hi, rfl⟩
    obtain ⟨r, hr, h⟩ := (reps_inv u ks).all i hi
    exact ⟨r, hr, gids_congr h⟩
theorem grps_apart {u : List Nat} {F : Int → Option In} {ks : List Int} : (grpsM u F ks).Pairwise fun a b => ∀ z ∈ a, z ∉ b := by
  unfold grpsM
  refine List.pairwise_map.2 (((reps_inv u ks).apart List.Pairwise.nil).imp fun {a b} h z hz hz' => ?_)
  exact h ((mem_gids.1 hz).1.trans (mem_gids.1 hz').1.symm)
theorem grps_self {u : List Nat} {F : Int → Option In} {ks : List Int} (hF : ∀ i ∈ ks, (F i).isSome = true) {g : List Int} (hg : g ∈ grpsM u F ks) : g ≠ [] := by
  obtain ⟨i, hi, rfl⟩ := mem_grps.1 hg
  intro h
  have : i ∈ gidsM u F i := mem_gids.2 ⟨.refl u i, hF i hi⟩
  rw [h] at this
  exact List.not_mem_nil this
theorem grps_nodup {u : List Nat} {F : Int → Option In} {ks : List Int} (hF : ∀ i ∈ ks, (F i).isSome = true) : (grpsM u F ks).Nodup := by
  refine (List.Pairwise.and_mem.1 (grps_apart (u := u) (F := F) (ks := ks))).imp fun {a b} h e => ?_
  obtain ⟨ha, _, h⟩ := h
  subst e
  cases a with
  | nil => exact grps_self hF ha rfl
  | cons z l => exact h z (List.mem_cons_self ..) (List.mem_cons_self ..)
theorem grps_perm {u : List Nat} {F : Int → Option In} {ks ks' : List Int} (hF : ∀ i ∈ ks, (F i).isSome = true) (h : ∀ i, i ∈ ks ↔ i ∈ ks') : (grpsM u F ks).Perm (grpsM u F ks') := by
  refine (List.perm_ext_iff_of_nodup (grps_nodup hF) (grps_nodup fun i hi => hF i ((h i).2 hi))).2 fun g => ?_
  rw [mem_grps, mem_grps]
  constructor
  · rintro ⟨i, hi, e⟩
    exact ⟨i, (h i).1 hi, e⟩
  · rintro ⟨i, hi, e⟩
    exact ⟨i, (h i).2 hi, e⟩
def clsM (u : List Nat) (l : List In) : List (List Int) := sortG (firstM l) (grpsM u (firstM l) (l.map (·.id)))
theorem sortG_any {u : List Nat} {l : List In} {ks : List Int} (h : ∀ i, i ∈ ks ↔ (firstM l i).isSome = true) : sortG (firstM l) (grpsM u (firstM l) ks) = clsM u l := by
  refine (cmG _).sort_perm (fun _ _ => cmpG_zero) (grps_perm (fun i hi => (h i).1 hi) fun i => ?_)
  rw [h, firstM_has, List.mem_map]
/-! ### what classes of instructions are -/
theorem mem_cls' {u : List Nat} {l : List In} {g : List Int} : g ∈ clsM u l ↔ ∃ x ∈ l, g = gidsM u (firstM l) x.id := by
  unfold clsM
  rw [(sortG_perm _ _).mem_iff, mem_grps]
  constructor
  · rintro ⟨i, hi, e⟩
    obtain ⟨x, hx, rfl⟩ := List.mem_map.1 hi
    exact ⟨x, hx, e⟩
  · rintro ⟨x, hx, e⟩
    exact ⟨x.id, List.mem_map.2 ⟨x, hx, rfl⟩, e⟩
theorem ids_has {l : List In} : ∀ i ∈ l.map (·.id), (firstM l i).isSome = true := fun i hi => by
  obtain ⟨x, hx, rfl⟩ := List.mem_map.1 hi
  exact firstM_has.2 ⟨x, hx, rfl⟩
theorem cls_self {u : List Nat} {l : List In} {g : List Int} (h : g ∈ clsM u l) : g ≠ [] := grps_self ids_has ((sortG_perm _ _).mem_iff.1 h)
theorem cls_sorted {u : List Nat} {l : List In} {g : List Int} (h : g ∈ clsM u l) : g.Pairwise (· < ·) := by
  obtain ⟨x, _, rfl⟩ := mem_cls'.1 h
  exact (clsI_sorted u _).filter _
theorem cls_flat {u : List Nat} {l : List In} : (clsM u l).flatten.Nodup := by
  refine ((sortG_perm _ _).flatten.nodup_iff).2 (List.pairwise_flatten.2 ⟨fun g hg => ?_, ?_⟩)
  · obtain ⟨i, _, rfl⟩ := mem_grps.1 hg
    exact ((clsI_sorted u _).filter _).imp fun h => by omega
  · refine (grps_apart (u := u) (F := firstM l) (ks := l.map (·.id))).imp fun {a b} h => ?_
    intro z hz y hy e
    subst e
    exact h z hz hy
theorem cls_mem {u : List Nat} {l : List In} {z : Int} : z ∈ (clsM u l).flatten ↔ ∃ x ∈ l, x.id = z := by
  rw [List.mem_flatten, ← firstM_has]
  constructor
  · rintro ⟨g, hg, hz⟩
    obtain ⟨x, _, rfl⟩ := mem_cls'.1 hg
    exact (mem_gids.1 hz).2
  · intro h
    obtain ⟨x, hx, e⟩ := firstM_has.1 h
    exact ⟨_, mem_cls'.2 ⟨x, hx, rfl⟩, mem_gids.2 ⟨by rw [e]; exact .refl u z, h⟩⟩
theorem cls_len {u : List Nat} {l : List In} : (clsM u l).flatten.length ≤ l.length := by
  have h := List.Nodup.length_le_of_subset (cls_flat (u := u) (l := l)) (l₂ := l.map (·.id)) fun z hz => by
    obtain ⟨x, hx, e⟩ := cls_mem.1 hz
    exact List.mem_map.2 ⟨x, hx, e⟩
  rw [List.length_map] at h
  exact h
theorem cls_same {u : List Nat} {l : List In} {g : List Int} (h : g ∈ clsM u l) {a b : Int} (ha : a ∈ g) (hb : b ∈ g) (hne : a ≠ b) : inU u a = true ∧ inU u b = true ∧ Uf.hd u a.toNat = Uf.hd u b.toNat := by
  obtain ⟨x, _, rfl⟩ := mem_cls'.1 h
  rcases ((mem_gids.1 ha).1.symm.trans (mem_gids.1 hb).1) with e | e
  · exact absurd e hne
  · exact e
theorem sameI_two {u : List Nat} {a b : Int} (h : inU u a = true ∧ inU u b = true ∧ Uf.hd u a.toNat = Uf.hd u b.toNat) : sameI u [a, b] = true := by
  obtain ⟨h1, h2, h3⟩ := h
  unfold sameI headI
  simp [h1, h2, h3]
/-! ### those that stand first -/
def topB (u : List Nat) (ls : List Lk) (F : Int → Option In) (g : List Int) : Bool := !((aheadOf u ls (g.headD 0)).any fun x => (F (x : Int)).isSome)
def topsM (u : List Nat) (ls : List Lk) (l : List In) : List (List Int) := (clsM u l).filter (topB u ls (firstM l))
theorem tops_apart {u : List Nat} {ls : List Lk} {l : List In} {g : List Int} (h : g ∈ topsM u ls l) {x : Nat} (hx : x ∈ aheadOf u ls (g.headD 0)) : (x : Int) ∉ (clsM u l).flatten := by
  intro hc
  have h2 := (List.mem_filter.1 h).2
  unfold topB at h2
  rw [Bool.not_eq_true', List.any_eq_false] at h2
  exact h2 x hx (firstM_has.2 (cls_mem.1 hc))
theorem tops_some {u : List Nat} {ls : List Lk} {l : List In} (hi : GInv u ls) (hl : clsM u l ≠ []) : topsM u ls l ≠ [] := by
  intro hn
  have hall : ∀ g ∈ clsM u l, topB u ls (firstM l) g = false := fun g hg => by
    cases h : topB u ls (firstM l) g with
    | false => rfl
    | true =>
      have : g ∈ topsM u ls l := List.mem_filter.2 ⟨hg, h⟩
      rw [hn] at this
      exact (List.not_mem_nil this).elim
  have hwait : ∀ g ∈ clsM u l, ∃ x : Nat, x ∈ aheadOf u ls (g.headD 0) ∧ (firstM l (x : Int)).isSome = true := fun g hg => by
    have h := hall g hg
    unfold topB at h
    rw [Bool.not_eq_false', List.any_eq_true] at h
    exact h
  have key : ∀ (k : Nat) (g : List Int), g ∈ clsM u l → ∀ h, (Uf.orderM u ls)[k]? = some h → Uf.hd u (g.headD 0).toNat = h → inU u (g.headD 0) = true → False := by
    intro k
    induction k using Nat.strongRecOn with
    | ind k ih =>
      intro g hg h hk hh hin
      obtain ⟨x, hx, hF⟩ := hwait g hg
      unfold aheadOf at hx
      rw [if_pos hin] at hx
      obtain ⟨hr, hm⟩ := mem_nums.1 hx
      have hz : Uf.hz u (g.headD 0) = h := hh
      rw [hz] at hm
      have hq := (Uf.order_inv u ls).ahead k h hk _ hm
      obtain ⟨j, hj, hjk⟩ := List.mem_iff_getElem?.1 hq |>.imp fun j hj => (⟨by
        have := (List.getElem?_eq_some_iff.1 hj).1
        rw [List.length_take] at this
        omega, by
        rw [List.getElem?_take] at hj
        split at hj
        · exact hj
        · cases hj⟩ : j < k ∧ (Uf.orderM u ls)[j]? = some (Uf.hd u x))
      obtain ⟨y, hy, e⟩ := firstM_has.1 hF
      have hg2 : gidsM u (firstM l) y.id ∈ clsM u l := mem_cls'.2 ⟨y, hy, rfl⟩
      have hne := cls_self hg2
      obtain ⟨z, r, hzr⟩ : ∃ z r, gidsM u (firstM l) y.id = z :: r := by
        cases hc : gidsM u (firstM l) y.id with
        | nil => exact absurd hc hne
        | cons z r => exact ⟨z, r, rfl⟩
      have hsame : SameC u y.id z := (mem_gids.1 (by rw [hzr]; exact List.mem_cons_self .. : z ∈ gidsM u (firstM l) y.id)).1
      rw [e] at hsame
      have hxin : inU u (x : Int) = true := nat_inU hr
      have hzin : inU u z = true ∧ Uf.hd u z.toNat = Uf.hd u x := by
        rcases hsame with rfl | ⟨_, h2, h3⟩
        · exact ⟨hxin, by rw [Int.toNat_natCast]⟩
        · exact ⟨h2, by rw [← h3, Int.toNat_natCast]⟩
      refine ih j hj _ hg2 (Uf.hd u x) hjk ?_ ?_
      · rw [hzr]; exact hzin.2
      · rw [hzr]; exact hzin.1
  obtain ⟨g, hg⟩ := List.exists_mem_of_ne_nil _ hl
  obtain ⟨x, hx, hF⟩ := hwait g hg
  have hin : inU u (g.headD 0) = true := by
    unfold aheadOf at hx
    split at hx
    · assumption
    · exact (List.not_mem_nil hx).elim
  have hr := inU_iff.1 hin
  have hmem : Uf.hd u (g.headD 0).toNat ∈ Uf.orderM u ls := Uf.full_mem hi.full (hd_heads hi.good (by omega) (by omega))
  obtain ⟨k, hk⟩ := List.mem_iff_getElem?.1 hmem
  exact key k g hg _ hk rfl hin
end
end Go.Proofs.Ytnfgndapalkbcaa
