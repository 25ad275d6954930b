/-
  The box of lists: copies and marks of rows of ints.
  The box of lists: the kept rows of ints are as they were.
  The box of lists: rows of ints that are marked.
-/
import Derived.Test.YtedfbdeklepekaaGreatProg
import Derived.Test.YtedfbdeklepekaaGreatBkK
import Derived.Test.YtedfbdeklepekaaGreatSameI
import Derived.Test.YtedfbdeklepekaaGreatFork
namespace Go.Proofs.YtedfbdeklepekaaGreat
section
open Go Go.RowKit
theorem tyI : RowTy Tryz.prog 31 3 1 8 := RowTy.of Tryz.underlying31 (by kernel_rfl) (by kernel_rfl)
theorem tyII : RowTy Tryz.prog 39 31 1 24 := RowTy.of Tryz.underlying39 (by kernel_rfl) (by kernel_rfl)
theorem oneI (l : List Int) : ((ints l).map LV.v).all oneL = true := by
  rw [List.all_eq_true]
  intro x hx
  obtain ⟨v, hv, rfl⟩ := List.mem_map.1 hx
  unfold ints at hv
  obtain ⟨y, _, rfl⟩ := List.mem_map.1 hv
  rfl
theorem ints_app (a b : List Int) : ints (a ++ b) = ints a ++ ints b := by simp [ints]
attribute [local irreducible] run goO leaveK someK nextK nextT nextOT nextOD loopBody loopRest loopK fillJ tmplOf tmplJ mergeT At AtO drawOk ordOf gateOf callC callO topOp topO idxOf appOf storeOf clearOf sliceOf calleeOf calleeO topQ idxQ newRowOf resL stepOp seek
set_option maxRecDepth 100000 in
theorem copyI_any (A : Option Addr) (n cp B : Nat) (xs : List Int) (w : World) (h : Reads w B 1 A n (ints xs)) (hB : B ≤ w.heap.size) (hn : n ≤ 1000000) :
    Calls Tryz.prog 63 #[.slice A n cp] w fun e w' => ∃ v, e = .returned v ∧ w'.ownsRow w.heap.size 3 1 v n (ints xs) ∧ Below w.heap.size w w' := by
  refine sim_enter Tryz.func63 ρ0 [.v (.slice A n cp)] [] (by kernel_rfl) rfl ?_
  have hR := Rel.start [] w ρ0
  refine sim_run 7 [] (hR.cast (by kernel_rfl)) (by kernel_rfl) trivial (fun ρ100 w100 hm100 hR100 => ?_)
  
  refine sim_appendRK 31 (.slice none 0 0) A n cp (by kernel_rfl) hR100 tyI (World.ownsRow_nil _ w.heap.size _ _) (h.below (hR100.toBelow.mono hB)) (oneI xs) (by unfold maxLen; omega) (by omega) hR100.keeps.size (fun g hg => by cases hg) (fun g hg => by cases hg) (fun v2 w2 hown _ _ _ hR2 => ?_)
  have hown2 : Own ρ100 [] w2 w.heap.size 3 1 v2 n (ints xs) := ⟨by simpa using hown, fun _ _ hw => wrS_allRo (rs := []) rfl hw⟩
  refine sim_run 2 [] (hR2.cast (by kernel_rfl)) (by kernel_rfl) trivial (fun ρ200 w200 hm200 hR200 => ?_)
  have hown2 := hown2.moved (hm200.castL (by kernel_rfl))
  refine sim_ret (.v v2) hR200 (by kernel_rfl) (by kernel_rfl) ?_
  
  exact ⟨v2, rfl, hown2.own, (by assumption : Rel _ _ _ _ _).toBelow⟩
set_option maxRecDepth 100000 in
theorem markI_any (i a n : Nat) (hi : i ≤ 100000) (han : a + n ≤ 2000000) (w : World) :
    Calls Tryz.prog 178 #[.int .i64 i, .int .i64 a, .int .i64 n] w fun e w' => ∃ v, e = .returned v ∧ w'.ownsRow w.heap.size 3 1 v n (ints (markI i a n)) ∧ Below w.heap.size w w' := by
  refine sim_enter Tryz.func178 ρ0 [LI i, LI a, LI n] [] (by kernel_rfl) rfl ?_
  have hR := Rel.start [] w ρ0
  refine sim_run 15 [] (hR.cast (by kernel_rfl)) (by kernel_rfl) trivial (fun ρ1100 w1100 hm1100 hR1100 => ?_)
  
  refine sim_loop (ι := Nat × Value) (T := []) (w0 := w) (0, .slice none 0 0) [0, 1, 2] (fun s => [(7, .v s.2), (8, LI ((a + s.1 : Nat) : Int))]) (fun _ => []) (fun s w1 => s.1 ≤ n ∧ Own ρ1100 [] w1 w.heap.size 3 1 s.2 s.1 (ints (markI i a s.1))) (fun s => n - s.1) (by kernel_rfl) (by kernel_rfl) ((by assumption : Rel _ _ _ _ _).cast (by kernel_rfl)) ⟨Nat.zero_le _, ⟨World.ownsRow_nil _ _ _ _, fun g hg => by cases hg⟩⟩ ?_
  rintro ⟨j, v⟩ d w2 hR2 ⟨hj, hv⟩
  dsimp only at hj hv
  have hag := hR2.ag_ 0 (by kernel_rfl)
  by_cases hlt : j < n
  · refine sim_run 9 [⟨3, 3, LI (IntKind.i64.wrap ((↑a : Int) + (↑n : Int))), LI ((↑a : Int) + (↑n : Int))⟩] (hR2.cast (by kernel_rfl)) (by kernel_rfl) ⟨eqi (IntWalk.i64_in _ (by omega)), trivial⟩ (fun ρ1200 w1200 hm1200 hR1200 => ?_)
    have hv := hv.moved (hm1200.castL (by kernel_rfl))
    have hag := hag.moved (hm1200.castL (by kernel_rfl))
    refine sim_know 14 (decide ((↑(a + (j, v).fst) : Int) < (↑a : Int) + (↑n : Int))) true (by kernel_rfl) (decide_eq_true (by omega)) ?_
    refine sim_run 12 [⟨5, 2, LI (IntKind.i64.wrap (-1000000 * (↑i : Int))), LI (-1000000 * (↑i : Int))⟩, ⟨5, 4, LI (IntKind.i64.wrap (-1000000 * (↑i : Int) - (↑(a + (j, v).fst) : Int))), LI (-1000000 * (↑i : Int) - (↑(a + (j, v).fst) : Int))⟩, ⟨5, 5, LI (IntKind.i64.wrap (-1000000 * (↑i : Int) - (↑(a + (j, v).fst) : Int) - 7)), LI (-1000000 * (↑i : Int) - (↑(a + (j, v).fst) : Int) - 7)⟩] (hR1200.cast (by kernel_rfl)) (by kernel_rfl) ⟨eqi (IntWalk.i64_in _ (by omega)), eqi (IntWalk.i64_in _ (by omega)), eqi (IntWalk.i64_in _ (by omega)), trivial⟩ (fun ρ1201 w1201 hm1201 hR1201 => ?_)
    have hv := hv.moved (hm1201.castL (by kernel_rfl))
    have hag := hag.moved (hm1201.castL (by kernel_rfl))
    
    refine sim_appendO 31 v (.slc 0 0 1 1) (by kernel_rfl) hR1201 tyI hv 0 1 1 rfl [LI (-1000000 * (i : Int) - ((a + j : Nat) : Int) - 7)] (by kernel_rfl) rfl (by kernel_rfl) (by unfold maxLen; omega) (by omega) hR1201.keeps.size (fun g' hg' => .inr (own_ge hv.own hg')) [] (by kernel_rfl) (by simp) (fun v' w7 hv' _ hR7 => ?_)
    have hv := hv'
    clear hv'
    refine sim_run 8 [⟨4, 1, LI (IntKind.i64.wrap ((↑(a + (j, v).fst) : Int) + 1)), LI ((↑(a + (j, v).fst) : Int) + 1)⟩] (hR7.cast (by kernel_rfl)) (by kernel_rfl) ⟨eqi (IntWalk.i64_in _ (by omega)), trivial⟩ (fun ρ1300 w1300 hm1300 hR1300 => ?_)
    have hag := hag.moved (hm1300.castL (by kernel_rfl))
    have hv := hv.moved (hm1300.castL (by kernel_rfl))
    
    refine sim_again (j + 1, v') (by kernel_rfl) (by show n - (j + 1) < n - j; omega) (by kernel_rfl) (by kernel_rfl) (by kernel_rfl) hag.ag (Rel.cast (by assumption) (by kernel_rfl)) (by kernel_rfl) (by kernel_rfl) ⟨hlt, ?_⟩
    rw [markI_succ, ints_app]
    exact hv.cut hag rfl (by kernel_rfl)
  · obtain rfl : j = n := by omega
    refine sim_run 9 [⟨3, 3, LI (IntKind.i64.wrap ((↑a : Int) + (↑j : Int))), LI ((↑a : Int) + (↑j : Int))⟩] (hR2.cast (by kernel_rfl)) (by kernel_rfl) ⟨eqi (IntWalk.i64_in _ (by omega)), trivial⟩ (fun ρ1400 w1400 hm1400 hR1400 => ?_)
    have hv := hv.moved (hm1400.castL (by kernel_rfl))
    have hag := hag.moved (hm1400.castL (by kernel_rfl))
    refine sim_know 14 (decide ((↑(a + (j, v).fst) : Int) < (↑a : Int) + (↑j : Int))) false (by kernel_rfl) (decide_eq_false (by omega)) ?_
    refine sim_run 1 [] (hR1400.cast (by kernel_rfl)) (by kernel_rfl) trivial (fun ρ1401 w1401 hm1401 hR1401 => ?_)
    have hv := hv.moved (hm1401.castL (by kernel_rfl))
    have hag := hag.moved (hm1401.castL (by kernel_rfl))
    refine sim_leave (by kernel_rfl) ?_
    refine sim_run 5 [] (hR1401.cast (by kernel_rfl)) (by kernel_rfl) trivial (fun ρ1402 w1402 hm1402 hR1402 => ?_)
    have hv := hv.moved (hm1402.castL (by kernel_rfl))
    have hag := hag.moved (hm1402.castL (by kernel_rfl))
    refine sim_ret (.v ((j, v).snd)) hR1402 (by kernel_rfl) (by kernel_rfl) ?_
    
    exact ⟨v, rfl, hv.own, (by assumption : Rel _ _ _ _ _).toBelow⟩
end

section
open Go Go.RowKit
/-- what is kept of a kind: the list, the copies, the rows, their copies -/
structure KSt where
  vL : Value
  vW : Value
  rows : List BRow
  was : List BRow
structure KI (to et : TypeId) (sz : Nat) (s : KSt) (w : World) : Prop where
  list : w.ownsRow 0 to 1 s.vL s.rows.length (s.rows.map BRow.v)
  copies : w.ownsRow 0 to 1 s.vW s.rows.length (s.was.map BRow.v)
  rows : ∀ r ∈ s.rows, w.ownsRow 0 et sz r.v r.n r.xs
  was : ∀ r ∈ s.was, w.ownsRow 0 et sz r.v r.n r.xs
structure KG (ok : BRow → Prop) (s : KSt) : Prop where
  ok : ∀ r ∈ s.rows, ok r
  same : s.was.map (fun r => (r.n, r.xs)) = s.rows.map (fun r => (r.n, r.xs))
  ap : s.rows.Pairwise fun a b => ∀ g, a.v.ownBlock = some g → b.v.ownBlock ≠ some g
  lw : ∀ g, s.vL.ownBlock = some g → s.vW.ownBlock ≠ some g
  few : s.rows.length ≤ 250
def IRw (r : BRow) : Prop := ∃ l : List Int, r.xs = ints l ∧ r.n = l.length ∧ l.length ≤ 100000
/-- the box's cells, a kind's two in view (Ints) -/
def bkI (x : Nat → Value) (v u : Value) : List LV := .v (x 0) :: .v (x 1) :: .v v :: .v u :: .v (x 4) :: .v (x 5) :: .v (x 6) :: .v (x 7) :: .v (x 8) :: .v (x 9) :: .v (x 10) :: .v (x 11) :: .v (x 12) :: .v (x 13) :: .v (x 14) :: .v (x 15) :: .v (x 16) :: .v (x 17) :: .v (x 18) :: .v (x 19) :: .v (x 20) :: .v (x 21) :: .v (x 22) :: .v (x 23) :: .v (x 24) :: .v (x 25) :: .v (x 26) :: .v (x 27) :: .v (x 28) :: .v (x 29) :: .v (x 30) :: .v (x 31) :: .v (x 32) :: .v (x 33) :: []
theorem bkI_of {x : Nat → Value} {v u : Value} (h2 : x 2 = v) (h3 : x 3 = u) : (bkC x).map LV.v = bkI x v u := by
  unfold bkC bkI
  rw [h2, h3]
  rfl
section
variable {P : Program} {Q : Exit → Act → World → Prop} {T : List Nat} {w0 w : World} {ρ : Nm} {c : Cfg}
theorem flat_rows (rows : List BRow) : (rows.map fun r => [r.v]).flatten = rows.map BRow.v := by
  induction rows with
  | nil => rfl
  | cons a l ih => rw [List.map_cons, List.flatten_cons, ih]; rfl
/-- one of the rows comes into view -/
theorem sim_seeK {g n B cp : Nat} {to : TypeId} {rows : List BRow} (r : BRow) (k N : Nat) (hN : c.rs.length = N) (hk : rows[k]? = some r) (hown : Own ρ c.rs w B to 1 (.slice (some ⟨g, 0, none⟩) n cp) n (rows.map BRow.v)) (hlt : k < n) (hR : Rel T w0 ρ c.rs w) (hu : (undR N c.rs && undL N c.tmps) = true)
    (next : ∀ ρ', Moved ρ c.rs w ρ' (c.rs ++ [⟨[.v r.v], false⟩]) w → ρ' N = (g, k) → Rel T w0 ρ' (c.rs ++ [⟨[.v r.v], false⟩]) w → At P Q ⟨c.k, c.tmps, c.rs ++ [⟨[.v r.v], false⟩]⟩ ρ' w) : At P Q c ρ w :=
  sim_seeO (xss := rows.map fun r => [r.v]) (sz := 1) [r.v] k N hN (by rw [List.getElem?_map, hk]; rfl) (by rw [flat_rows]; exact hown) (by intro y hy; obtain ⟨o, _, rfl⟩ := List.mem_map.1 hy; rfl) (by omega) hlt hR hu (fun ρ' hm e hR' => next ρ' hm (by rw [e]; congr 1; omega) hR')
end
theorem own_spot {w : World} {b n cp : Nat} {A : Option Addr} {e : TypeId} {s : Nat} {xs : List Value} (h : w.ownsRow b e s (.slice A n cp) n xs) (hn : 0 < n) : ∃ g, A = some ⟨g, 0, none⟩ := by
  rcases h.2 with ⟨_, h0⟩ | ⟨q, cap, cur, e, _⟩
  · omega
  · injection e with e
    exact ⟨q, e⟩
theorem own_row' {w : World} {b : Nat} {e : TypeId} {s : Nat} {v : Value} {n : Nat} {xs : List Value} (h : w.ownsRow b e s v n xs) : ∃ A cp, v = .slice A n cp := by
  rcases h.2 with ⟨rfl, rfl⟩ | ⟨g, cap, cur, rfl, _⟩
  · exact ⟨none, 0, rfl⟩
  · exact ⟨_, cap, rfl⟩
theorem sameI_eq (A A' : Option Addr) (n c c' B B' : Nat) (xs : List Int) (w : World) (h : Reads w B 1 A n (ints xs)) (h' : Reads w B' 1 A' n (ints xs)) (hn : n ≤ 1000000000000) :
    Calls Tryz.prog 24 #[.slice A n c, .slice A' n c'] w fun e w' => e = .returned (.bool true) ∧ Below w.heap.size w w' := by
  refine (sameInts_any A A' n c n c' B B' xs xs w h h' hn).mono ?_
  rintro e w' ⟨rfl, m, rfl⟩
  exact ⟨by simp, below_drewN (Below.refl _ _) m⟩
theorem BkR.ofK {B : Nat} {et : TypeId} {sz : Nat} {rows : List BRow} {ρ : Nm} {rs : List Reg} {w : World} (h : ∀ r ∈ rows, w.ownsRow B et sz r.v r.n r.xs) (hro : allRo rs = true) (ap : rows.Pairwise fun a b => ∀ g, a.v.ownBlock = some g → b.v.ownBlock ≠ some g) : BkR B et sz rows ρ rs w :=
  ⟨fun r hr => ⟨h r hr, fun _ _ hw => wrS_allRo hro hw⟩, ap⟩
/-- rows that are only read -/
structure RdR (B : Nat) (et : TypeId) (sz : Nat) (rows : List BRow) (ρ : Nm) (rs : List Reg) (w : World) : Prop where
  own : ∀ r ∈ rows, Own ρ rs w B et sz r.v r.n r.xs
section
variable {B : Nat} {et : TypeId} {sz : Nat} {rows : List BRow} {ρ ρ' : Nm} {rs rs' : List Reg} {w w' : World}
theorem RdR.map (h : RdR B et sz rows ρ rs w) (hf : ∀ r ∈ rows, Own ρ rs w B et sz r.v r.n r.xs → Own ρ' rs' w' B et sz r.v r.n r.xs) : RdR B et sz rows ρ' rs' w' := ⟨fun r hr => hf r hr (h.own r hr)⟩
theorem RdR.moved (h : RdR B et sz rows ρ rs w) (hm : Moved ρ rs w ρ' rs' w') : RdR B et sz rows ρ' rs' w' := h.map fun _ _ h => h.moved hm
theorem RdR.below (h : RdR B et sz rows ρ rs w) (hb : Below w.heap.size w w') : RdR B et sz rows ρ rs w' := h.map fun _ _ h => h.below hb
theorem RdR.drew (h : RdR B et sz rows ρ rs w) : RdR B et sz rows ρ rs w.drew := h.map fun _ _ h => h.drew
theorem RdR.castR (h : RdR B et sz rows ρ rs w) (e : rs = rs') : RdR B et sz rows ρ rs' w := e ▸ h
theorem RdR.cut {N : Nat} (h : RdR B et sz rows ρ' rs' w) (hag : Ag N ρ ρ' rs') (hN : rs.length = N) (e0 : rs'.take N = rs) : RdR B et sz rows ρ rs w := h.map fun _ _ h => h.cut hag hN e0
theorem RdR.grown (h : RdR B et sz rows ρ rs w) {o : Option Nat} (hg : w.grownBy w' o) (hne : ∀ r ∈ rows, ∀ g, r.v.ownBlock = some g → o ≠ some g) : RdR B et sz rows ρ rs w' := h.map fun r hr h => h.grown hg (hne r hr)
theorem RdR.at_ (h : RdR B et sz rows ρ rs w) {i : Nat} {r : BRow} (hr : rows[i]? = some r) : Own ρ rs w B et sz r.v r.n r.xs := h.own r (List.mem_of_getElem? hr)
theorem RdR.ofK (h : ∀ r ∈ rows, w.ownsRow B et sz r.v r.n r.xs) (hro : allRo rs = true) : RdR B et sz rows ρ rs w := ⟨fun r hr => ⟨h r hr, fun _ _ hw => wrS_allRo hro hw⟩⟩
end
theorem was_of {rows was : List BRow} (h : was.map (fun r => (r.n, r.xs)) = rows.map (fun r => (r.n, r.xs))) {i : Nat} {r : BRow} (hr : rows[i]? = some r) : ∃ v, was[i]? = some ⟨v, r.n, r.xs⟩ := by
  have h1 := congrArg (·[i]?) h
  simp only [List.getElem?_map, hr, Option.map_some] at h1
  cases hq : was[i]? with
  | none => rw [hq] at h1; cases h1
  | some q =>
    rw [hq] at h1
    simp only [Option.map_some, Option.some.injEq, Prod.mk.injEq] at h1
    obtain ⟨v, n, xs⟩ := q
    obtain ⟨rfl, rfl⟩ := h1
    exact ⟨v, rfl⟩
attribute [local irreducible] run goO leaveK someK nextK nextT nextOT nextOD loopBody loopRest loopK fillJ tmplOf tmplJ mergeT At AtO drawOk ordOf gateOf callC callO topOp topO idxOf appOf storeOf clearOf sliceOf calleeOf calleeO topQ idxQ newRowOf resL stepOp seek
set_option maxRecDepth 100000 in
set_option maxHeartbeats 4000000 in
theorem stillI_any (x : Nat → Value) (b : Nat) (s : KSt) (w : World) (h : Blk w b 56 (bkC x).toArray) (hx : x 2 = s.vL) (hy : x 3 = s.vW) (hk : KI 31 3 1 s w) (hg : KG IRw s) :
    Calls Tryz.prog 65 #[.pointer (some ⟨b, 0, none⟩)] w fun e w' => e = .returned (.bool true) ∧ Below w.heap.size w w' := by
  obtain ⟨ρ, e0, hR⟩ := blk_open h false [] (by simp) (by kernel_rfl)
  rw [bkI_of hx hy] at hR
  obtain ⟨vL, vW, rows, was⟩ := s
  obtain ⟨hL, hW, hr, hw⟩ := hk
  dsimp only at hL hW hr hw
  obtain ⟨AL, cL, rfl⟩ := own_row' hL
  obtain ⟨AW, cW, rfl⟩ := own_row' hW
  have hL : Own ρ [⟨bkI x (.slice AL rows.length cL) (.slice AW rows.length cW), false⟩] w 0 31 1 (.slice AL rows.length cL) rows.length (rows.map BRow.v) := ⟨hL, fun _ _ hw => wrS_allRo rfl hw⟩
  have hW : Own ρ [⟨bkI x (.slice AL rows.length cL) (.slice AW rows.length cW), false⟩] w 0 31 1 (.slice AW rows.length cW) rows.length (was.map BRow.v) := ⟨hW, fun _ _ hw => wrS_allRo rfl hw⟩
  have hr := RdR.ofK (ρ := ρ) (rs := [⟨bkI x (.slice AL rows.length cL) (.slice AW rows.length cW), false⟩]) hr rfl
  have hw := RdR.ofK (ρ := ρ) (rs := [⟨bkI x (.slice AL rows.length cL) (.slice AW rows.length cW), false⟩]) hw rfl
  have hfew : rows.length ≤ 250 := hg.few
  refine sim_enter Tryz.func65 ρ [.ptr 0 0] [⟨bkI x (.slice AL rows.length cL) (.slice AW rows.length cW), false⟩] (by kernel_rfl) (by simp only [denL, LV.den, Nm.at_, e0]) ?_
  refine sim_run 10 [] (hR.cast (by kernel_rfl)) (by kernel_rfl) trivial (fun ρ100 w100 hm100 hR100 => ?_)
  have hL := hL.moved (hm100.castL (by kernel_rfl))
  have hW := hW.moved (hm100.castL (by kernel_rfl))
  have hr := hr.moved (hm100.castL (by kernel_rfl))
  have hw := hw.moved (hm100.castL (by kernel_rfl))
  
  refine sim_loop (ι := Nat) (T := []) (w0 := w) 0 [0] (fun i => [(3, LI i)]) (fun _ => [⟨bkI x (.slice AL rows.length cL) (.slice AW rows.length cW), false⟩]) (fun i w1 => i ≤ rows.length ∧ Own ρ100 [⟨bkI x (.slice AL rows.length cL) (.slice AW rows.length cW), false⟩] w1 0 31 1 (.slice AL rows.length cL) rows.length (rows.map BRow.v) ∧ Own ρ100 [⟨bkI x (.slice AL rows.length cL) (.slice AW rows.length cW), false⟩] w1 0 31 1 (.slice AW rows.length cW) rows.length (was.map BRow.v) ∧ RdR 0 3 1 rows ρ100 [⟨bkI x (.slice AL rows.length cL) (.slice AW rows.length cW), false⟩] w1 ∧ RdR 0 3 1 was ρ100 [⟨bkI x (.slice AL rows.length cL) (.slice AW rows.length cW), false⟩] w1) (fun i => rows.length - i) (by kernel_rfl) (by kernel_rfl) ((by assumption : Rel _ _ _ _ _).cast (by kernel_rfl)) ⟨Nat.zero_le _, hL.castR (by kernel_rfl), hW.castR (by kernel_rfl), hr.castR (by kernel_rfl), hw.castR (by kernel_rfl)⟩ ?_
  iterate 8 (try clear hL)
  iterate 8 (try clear hW)
  iterate 8 (try clear hr)
  iterate 8 (try clear hw)
  rintro i d w2 hR2 ⟨hi, hL, hW, hr, hw⟩
  have hag := hR2.ag_ 1 (by kernel_rfl)
  by_cases hlt : i < rows.length
  · obtain ⟨r, hri⟩ : ∃ r, rows[i]? = some r := ⟨_, List.getElem?_eq_getElem hlt⟩
    obtain ⟨v, hqi⟩ := was_of hg.same hri
    obtain ⟨l, e1, e2, e3⟩ := hg.ok r (List.mem_of_getElem? hri)
    obtain ⟨rv, rn, rxs⟩ := r
    dsimp only at e1 e2
    subst e1 e2
    have ho1 := hr.at_ hri
    have ho2 := hw.at_ hqi
    dsimp only at ho1 ho2
    obtain ⟨A1, c1, rfl⟩ := own_row' ho1.own
    obtain ⟨A2, c2, rfl⟩ := own_row' ho2.own
    obtain ⟨gL, rfl⟩ := own_spot hL.own (by omega)
    obtain ⟨gW, rfl⟩ := own_spot hW.own (by omega)
    clear ho1 ho2
    refine sim_seeK _ i 1 (by kernel_rfl) hri hL hlt hR2 (by kernel_rfl) (fun ρE hmE eE hRE => ?_)
    have hL := hL.moved hmE
    have hW := hW.moved hmE
    have hr := hr.moved hmE
    have hw := hw.moved hmE
    have hag0 := hag.moved hmE
    have hagE := hRE.ag_ 2 (by kernel_rfl)
    refine sim_seeK _ i 2 (by kernel_rfl) hqi hW hlt hRE (by kernel_rfl) (fun ρF hmF eF hRF => ?_)
    have hL := hL.moved hmF
    have hW := hW.moved hmF
    have hr := hr.moved hmF
    have hw := hw.moved hmF
    have hag0 := hag0.moved hmF
    have hagE := hagE.moved hmF
    have hag := hRF.ag_ 3 (by kernel_rfl)
    have eE := (hagE.at_ 1 (by omega)).trans eE
    have ho1 := hr.at_ hri
    have ho2 := hw.at_ hqi
    dsimp only at ho1 ho2
    refine sim_run 11 [] (hRF.cast (by kernel_rfl)) (by kernel_rfl) trivial (fun ρ200 w200 hm200 hR200 => ?_)
    have hL := hL.moved (hm200.castL (by kernel_rfl))
    have hW := hW.moved (hm200.castL (by kernel_rfl))
    have hr := hr.moved (hm200.castL (by kernel_rfl))
    have hw := hw.moved (hm200.castL (by kernel_rfl))
    have hag0 := hag0.moved (hm200.castL (by kernel_rfl))
    have hagE := hagE.moved (hm200.castL (by kernel_rfl))
    have hag := hag.moved (hm200.castL (by kernel_rfl))
    have ho1 := ho1.moved (hm200.castL (by kernel_rfl))
    have ho2 := ho2.moved (hm200.castL (by kernel_rfl))
    refine sim_know 10 (decide ((↑i : Int) < (↑rows.length : Int))) true (by kernel_rfl) (decide_eq_true (by omega)) ?_
    refine sim_run 5 [] (hR200.cast (by kernel_rfl)) (by kernel_rfl) trivial (fun ρ201 w201 hm201 hR201 => ?_)
    have hL := hL.moved (hm201.castL (by kernel_rfl))
    have hW := hW.moved (hm201.castL (by kernel_rfl))
    have hr := hr.moved (hm201.castL (by kernel_rfl))
    have hw := hw.moved (hm201.castL (by kernel_rfl))
    have hag0 := hag0.moved (hm201.castL (by kernel_rfl))
    have hagE := hagE.moved (hm201.castL (by kernel_rfl))
    have hag := hag.moved (hm201.castL (by kernel_rfl))
    have ho1 := ho1.moved (hm201.castL (by kernel_rfl))
    have ho2 := ho2.moved (hm201.castL (by kernel_rfl))
    refine sim_draw [] (by kernel_rfl) (by kernel_rfl) hR201 (fun hR202 => ?_)
    have hL := hL.drew
    have hW := hW.drew
    have hr := hr.drew
    have hw := hw.drew
    have ho1 := ho1.drew
    have ho2 := ho2.drew
    refine sim_ordN 5 [] hR202 (by kernel_rfl) trivial (fun ρ203 w203 hm203 hR203 => ?_)
    have hag0 := hag0.moved (hm203.castL (by kernel_rfl))
    have hagE := hagE.moved (hm203.castL (by kernel_rfl))
    have hag := hag.moved (hm203.castL (by kernel_rfl))
    have hL := hL.moved (hm203.castL (by kernel_rfl))
    have hW := hW.moved (hm203.castL (by kernel_rfl))
    have hr := hr.moved (hm203.castL (by kernel_rfl))
    have hw := hw.moved (hm203.castL (by kernel_rfl))
    have ho1 := ho1.moved (hm203.castL (by kernel_rfl))
    have ho2 := ho2.moved (hm203.castL (by kernel_rfl))
    refine sim_ord_index (.v (.slice (some ⟨gL, 0, none⟩) rows.length cL)) rows.length 1 i 1 0 (by kernel_rfl) (by omega) (by omega) rfl hR203 (by simp only [Nm.at_, hag.at_ 1 (by omega), eE, Nat.add_zero, Nat.zero_add, Int.toNat_natCast, Nat.mul_one]) (fun hR204 => ?_)
    refine sim_ordN 6 [] hR204 (by kernel_rfl) trivial (fun ρ205 w205 hm205 hR205 => ?_)
    have hag0 := hag0.moved (hm205.castL (by kernel_rfl))
    have hagE := hagE.moved (hm205.castL (by kernel_rfl))
    have hag := hag.moved (hm205.castL (by kernel_rfl))
    have hL := hL.moved (hm205.castL (by kernel_rfl))
    have hW := hW.moved (hm205.castL (by kernel_rfl))
    have hr := hr.moved (hm205.castL (by kernel_rfl))
    have hw := hw.moved (hm205.castL (by kernel_rfl))
    have ho1 := ho1.moved (hm205.castL (by kernel_rfl))
    have ho2 := ho2.moved (hm205.castL (by kernel_rfl))
    refine sim_ord_index (.v (.slice (some ⟨gW, 0, none⟩) rows.length cW)) rows.length 1 i 2 0 (by kernel_rfl) (by omega) (by omega) rfl hR205 (by simp only [Nm.at_, hag.at_ 2 (by omega), eF, Nat.add_zero, Nat.zero_add, Int.toNat_natCast, Nat.mul_one]) (fun hR207 => ?_)
    refine sim_ordN 1 [] hR207 (by kernel_rfl) trivial (fun ρ208 w208 hm208 hR208 => ?_)
    have hag0 := hag0.moved (hm208.castL (by kernel_rfl))
    have hagE := hagE.moved (hm208.castL (by kernel_rfl))
    have hag := hag.moved (hm208.castL (by kernel_rfl))
    have hL := hL.moved (hm208.castL (by kernel_rfl))
    have hW := hW.moved (hm208.castL (by kernel_rfl))
    have hr := hr.moved (hm208.castL (by kernel_rfl))
    have hw := hw.moved (hm208.castL (by kernel_rfl))
    have ho1 := ho1.moved (hm208.castL (by kernel_rfl))
    have ho2 := ho2.moved (hm208.castL (by kernel_rfl))
    refine sim_ord_call (T := []) (w0 := w) 24 [.v (Value.slice A1 l.length c1), .v (Value.slice A2 l.length c2)] (by kernel_rfl) ?_
    refine Calls.mono (sameI_eq _ _ _ _ _ _ _ _ _ ho1.reads ho2.reads (by omega)) ?_
    rintro e209 w209 ⟨rfl, hb209⟩
    have hR209 := hR208.call hb209 (LB true)
    have hL := hL.below hb209
    have hW := hW.below hb209
    have hr := hr.below hb209
    have hw := hw.below hb209
    have ho1 := ho1.below hb209
    have ho2 := ho2.below hb209
    refine BackO.of (LB true) hR209 rfl ?_
    refine sim_ordN 1 [] hR209 (by kernel_rfl) trivial (fun ρ210 w210 hm210 hR210 => ?_)
    have hag0 := hag0.moved (hm210.castL (by kernel_rfl))
    have hagE := hagE.moved (hm210.castL (by kernel_rfl))
    have hag := hag.moved (hm210.castL (by kernel_rfl))
    have hL := hL.moved (hm210.castL (by kernel_rfl))
    have hW := hW.moved (hm210.castL (by kernel_rfl))
    have hr := hr.moved (hm210.castL (by kernel_rfl))
    have hw := hw.moved (hm210.castL (by kernel_rfl))
    have ho1 := ho1.moved (hm210.castL (by kernel_rfl))
    have ho2 := ho2.moved (hm210.castL (by kernel_rfl))
    refine sim_ord_endR hR210 (by kernel_rfl) (fun hR211 => ?_)
    refine sim_run 8 [⟨3, 1, LI (IntKind.i64.wrap ((↑i : Int) + 1)), LI ((↑i : Int) + 1)⟩] (hR211.cast (by kernel_rfl)) (by kernel_rfl) ⟨eqi (IntWalk.i64_in _ (by omega)), trivial⟩ (fun ρ212 w212 hm212 hR212 => ?_)
    have hag0 := hag0.moved (hm212.castL (by kernel_rfl))
    have hagE := hagE.moved (hm212.castL (by kernel_rfl))
    have hag := hag.moved (hm212.castL (by kernel_rfl))
    have hL := hL.moved (hm212.castL (by kernel_rfl))
    have hW := hW.moved (hm212.castL (by kernel_rfl))
    have hr := hr.moved (hm212.castL (by kernel_rfl))
    have hw := hw.moved (hm212.castL (by kernel_rfl))
    have ho1 := ho1.moved (hm212.castL (by kernel_rfl))
    have ho2 := ho2.moved (hm212.castL (by kernel_rfl))
    
    exact sim_again (i + 1) (by kernel_rfl) (by show rows.length - (i + 1) < rows.length - i; omega) (by kernel_rfl) (by kernel_rfl) (by kernel_rfl) hag0.ag (Rel.cast (by assumption) (by kernel_rfl)) (by kernel_rfl) (by kernel_rfl) ⟨hlt, hL.cut hag0 rfl (by kernel_rfl), hW.cut hag0 rfl (by kernel_rfl), hr.cut hag0 rfl (by kernel_rfl), hw.cut hag0 rfl (by kernel_rfl)⟩
  · refine sim_run 11 [] (hR2.cast (by kernel_rfl)) (by kernel_rfl) trivial (fun ρ300 w300 hm300 hR300 => ?_)
    have hL := hL.moved (hm300.castL (by kernel_rfl))
    have hW := hW.moved (hm300.castL (by kernel_rfl))
    have hr := hr.moved (hm300.castL (by kernel_rfl))
    have hw := hw.moved (hm300.castL (by kernel_rfl))
    have hag := hag.moved (hm300.castL (by kernel_rfl))
    refine sim_know 10 (decide ((↑i : Int) < (↑rows.length : Int))) false (by kernel_rfl) (decide_eq_false (by omega)) ?_
    refine sim_run 1 [] (hR300.cast (by kernel_rfl)) (by kernel_rfl) trivial (fun ρ301 w301 hm301 hR301 => ?_)
    have hL := hL.moved (hm301.castL (by kernel_rfl))
    have hW := hW.moved (hm301.castL (by kernel_rfl))
    have hr := hr.moved (hm301.castL (by kernel_rfl))
    have hw := hw.moved (hm301.castL (by kernel_rfl))
    have hag := hag.moved (hm301.castL (by kernel_rfl))
    refine sim_leave (by kernel_rfl) ?_
    refine sim_run 4 [] (hR301.cast (by kernel_rfl)) (by kernel_rfl) trivial (fun ρ302 w302 hm302 hR302 => ?_)
    have hL := hL.moved (hm302.castL (by kernel_rfl))
    have hW := hW.moved (hm302.castL (by kernel_rfl))
    have hr := hr.moved (hm302.castL (by kernel_rfl))
    have hw := hw.moved (hm302.castL (by kernel_rfl))
    have hag := hag.moved (hm302.castL (by kernel_rfl))
    refine sim_ret (LB true) hR302 (by kernel_rfl) (by kernel_rfl) ?_
    exact ⟨rfl, hR302.toBelow⟩
    
end

section
open Go Go.RowKit
/-- each row has its own marks -/
def Mkd (rows : List BRow) : Prop := ∀ (i : Nat) (r : BRow), rows[i]? = some r → r.xs = ints (markI i 0 r.n) ∧ r.n ≤ 200000
attribute [local irreducible] run goO leaveK someK nextK nextT nextOT nextOD loopBody loopRest loopK fillJ tmplOf tmplJ mergeT At AtO drawOk ordOf gateOf callC callO topOp topO idxOf appOf storeOf clearOf sliceOf calleeOf calleeO topQ idxQ newRowOf resL stepOp seek
set_option maxRecDepth 100000 in
set_option maxHeartbeats 4000000 in
theorem markedI_any (A : Option Addr) (n cp : Nat) (rows : List BRow) (w : World) (hL : w.ownsRow 0 31 1 (.slice A n cp) n (rows.map BRow.v)) (hr : ∀ r ∈ rows, w.ownsRow 0 3 1 r.v r.n r.xs) (hm : Mkd rows) (hnl : n = rows.length) (hn : n ≤ 250) :
    Calls Tryz.prog 116 #[.slice A n cp] w fun e w' => e = .returned (.bool true) ∧ Below w.heap.size w w' := by
  have hR := Rel.start [] w ρ0
  have hL : Own ρ0 [] w 0 31 1 (.slice A n cp) n (rows.map BRow.v) := ⟨hL, fun _ _ hw => wrS_allRo rfl hw⟩
  have hr := RdR.ofK (ρ := ρ0) (rs := []) hr rfl
  refine sim_enter Tryz.func116 ρ0 [.v (.slice A n cp)] [] (by kernel_rfl) rfl ?_
  refine sim_run 10 [] (hR.cast (by kernel_rfl)) (by kernel_rfl) trivial (fun ρ100 w100 hm100 hR100 => ?_)
  have hL := hL.moved (hm100.castL (by kernel_rfl))
  have hr := hr.moved (hm100.castL (by kernel_rfl))
  
  refine sim_loop (ι := Nat) (T := []) (w0 := w) 0 [0] (fun i => [(3, LI i)]) (fun _ => []) (fun i w1 => i ≤ n ∧ Own ρ100 [] w1 0 31 1 (.slice A n cp) n (rows.map BRow.v) ∧ RdR 0 3 1 rows ρ100 [] w1) (fun i => n - i) (by kernel_rfl) (by kernel_rfl) ((by assumption : Rel _ _ _ _ _).cast (by kernel_rfl)) ⟨Nat.zero_le _, hL.castR (by kernel_rfl), hr.castR (by kernel_rfl)⟩ ?_
  iterate 8 (try clear hL)
  iterate 8 (try clear hr)
  rintro i d w2 hR2 ⟨hi, hL, hr⟩
  have hag := hR2.ag_ 0 (by kernel_rfl)
  by_cases hlt : i < n
  · obtain ⟨r, hri⟩ : ∃ r, rows[i]? = some r := ⟨_, List.getElem?_eq_getElem (by omega)⟩
    obtain ⟨e1, e2⟩ := hm i r hri
    obtain ⟨rv, rn, rxs⟩ := r
    dsimp only at e1 e2
    subst e1
    have ho1 := hr.at_ hri
    dsimp only at ho1
    obtain ⟨A1, c1, rfl⟩ := own_row' ho1.own
    obtain ⟨gL, rfl⟩ := own_spot hL.own (by omega)
    clear ho1
    refine sim_seeK _ i 0 (by kernel_rfl) hri hL hlt hR2 (by kernel_rfl) (fun ρE hmE eE hRE => ?_)
    have hL := hL.moved hmE
    have hr := hr.moved hmE
    have hag0 := hag.moved hmE
    have hag := hRE.ag_ 1 (by kernel_rfl)
    have ho1 := hr.at_ hri
    dsimp only at ho1
    refine sim_run 8 [] (hRE.cast (by kernel_rfl)) (by kernel_rfl) trivial (fun ρ200 w200 hm200 hR200 => ?_)
    have hL := hL.moved (hm200.castL (by kernel_rfl))
    have hr := hr.moved (hm200.castL (by kernel_rfl))
    have hag0 := hag0.moved (hm200.castL (by kernel_rfl))
    have hag := hag.moved (hm200.castL (by kernel_rfl))
    have ho1 := ho1.moved (hm200.castL (by kernel_rfl))
    refine sim_know 7 (decide ((↑i : Int) < (↑n : Int))) true (by kernel_rfl) (decide_eq_true (by omega)) ?_
    refine sim_run 5 [] (hR200.cast (by kernel_rfl)) (by kernel_rfl) trivial (fun ρ201 w201 hm201 hR201 => ?_)
    have hL := hL.moved (hm201.castL (by kernel_rfl))
    have hr := hr.moved (hm201.castL (by kernel_rfl))
    have hag0 := hag0.moved (hm201.castL (by kernel_rfl))
    have hag := hag.moved (hm201.castL (by kernel_rfl))
    have ho1 := ho1.moved (hm201.castL (by kernel_rfl))
    refine sim_draw [] (by kernel_rfl) (by kernel_rfl) hR201 (fun hR202 => ?_)
    have hL := hL.drew
    have hr := hr.drew
    have ho1 := ho1.drew
    refine sim_ordN 2 [] hR202 (by kernel_rfl) trivial (fun ρ203 w203 hm203 hR203 => ?_)
    have hag0 := hag0.moved (hm203.castL (by kernel_rfl))
    have hag := hag.moved (hm203.castL (by kernel_rfl))
    have hL := hL.moved (hm203.castL (by kernel_rfl))
    have hr := hr.moved (hm203.castL (by kernel_rfl))
    have ho1 := ho1.moved (hm203.castL (by kernel_rfl))
    refine sim_ord_index (.v (.slice (some ⟨gL, 0, none⟩) n cp)) n 1 i 0 0 (by kernel_rfl) (by omega) (by omega) rfl hR203 (by simp only [Nm.at_, hag.at_ 0 (by omega), eE, Nat.add_zero, Nat.zero_add, Int.toNat_natCast, Nat.mul_one]) (fun hR204 => ?_)
    refine sim_ordN 4 [] hR204 (by kernel_rfl) trivial (fun ρ205 w205 hm205 hR205 => ?_)
    have hag0 := hag0.moved (hm205.castL (by kernel_rfl))
    have hag := hag.moved (hm205.castL (by kernel_rfl))
    have hL := hL.moved (hm205.castL (by kernel_rfl))
    have hr := hr.moved (hm205.castL (by kernel_rfl))
    have ho1 := ho1.moved (hm205.castL (by kernel_rfl))
    refine sim_ord_index (.v (.slice (some ⟨gL, 0, none⟩) n cp)) n 1 i 0 0 (by kernel_rfl) (by omega) (by omega) rfl hR205 (by simp only [Nm.at_, hag.at_ 0 (by omega), eE, Nat.add_zero, Nat.zero_add, Int.toNat_natCast, Nat.mul_one]) (fun hR206 => ?_)
    refine sim_ordN 2 [] hR206 (by kernel_rfl) trivial (fun ρ207 w207 hm207 hR207 => ?_)
    have hag0 := hag0.moved (hm207.castL (by kernel_rfl))
    have hag := hag.moved (hm207.castL (by kernel_rfl))
    have hL := hL.moved (hm207.castL (by kernel_rfl))
    have hr := hr.moved (hm207.castL (by kernel_rfl))
    have ho1 := ho1.moved (hm207.castL (by kernel_rfl))
    refine sim_ord_call (T := []) (w0 := w) 178 [LI ((↑i : Int)), LI 0, LI ((↑rn : Int))] (by kernel_rfl) ?_
    refine Calls.mono (markI_any (i) (0) (rn) (by omega) (by omega) _) ?_
    rintro e208 w208 ⟨v208, rfl, hmk, hb208⟩
    obtain ⟨Am, cm, rfl⟩ := own_row' hmk
    have hmk := Own.start hR207.rel hmk
    have hR208 := hR207.call hb208 (.v (Value.slice Am rn cm))
    have hL := hL.below hb208
    have hr := hr.below hb208
    have ho1 := ho1.below hb208
    refine BackO.of (.v (Value.slice Am rn cm)) hR208 rfl ?_
    refine sim_ord_call (T := []) (w0 := w) 24 [.v (Value.slice A1 rn c1), .v (Value.slice Am rn cm)] (by kernel_rfl) ?_
    refine Calls.mono (sameI_eq _ _ _ _ _ _ _ _ _ ho1.reads hmk.reads (by omega)) ?_
    rintro e209 w209 ⟨rfl, hb209⟩
    have hR209 := hR208.call hb209 (LB true)
    have hmk := hmk.below hb209
    have hL := hL.below hb209
    have hr := hr.below hb209
    have ho1 := ho1.below hb209
    refine BackO.of (LB true) hR209 rfl ?_
    refine sim_ordN 1 [] hR209 (by kernel_rfl) trivial (fun ρ210 w210 hm210 hR210 => ?_)
    have hag0 := hag0.moved (hm210.castL (by kernel_rfl))
    have hag := hag.moved (hm210.castL (by kernel_rfl))
    have hmk := hmk.moved (hm210.castL (by kernel_rfl))
    have hL := hL.moved (hm210.castL (by kernel_rfl))
    have hr := hr.moved (hm210.castL (by kernel_rfl))
    have ho1 := ho1.moved (hm210.castL (by kernel_rfl))
    refine sim_ord_endR hR210 (by kernel_rfl) (fun hR211 => ?_)
    refine sim_run 8 [⟨3, 1, LI (IntKind.i64.wrap ((↑i : Int) + 1)), LI ((↑i : Int) + 1)⟩] (hR211.cast (by kernel_rfl)) (by kernel_rfl) ⟨eqi (IntWalk.i64_in _ (by omega)), trivial⟩ (fun ρ212 w212 hm212 hR212 => ?_)
    have hag0 := hag0.moved (hm212.castL (by kernel_rfl))
    have hag := hag.moved (hm212.castL (by kernel_rfl))
    have hmk := hmk.moved (hm212.castL (by kernel_rfl))
    have hL := hL.moved (hm212.castL (by kernel_rfl))
    have hr := hr.moved (hm212.castL (by kernel_rfl))
    have ho1 := ho1.moved (hm212.castL (by kernel_rfl))
    
    exact sim_again (i + 1) (by kernel_rfl) (by show n - (i + 1) < n - i; omega) (by kernel_rfl) (by kernel_rfl) (by kernel_rfl) hag0.ag (Rel.cast (by assumption) (by kernel_rfl)) (by kernel_rfl) (by kernel_rfl) ⟨hlt, hL.cut hag0 rfl (by kernel_rfl), hr.cut hag0 rfl (by kernel_rfl)⟩
  · refine sim_run 8 [] (hR2.cast (by kernel_rfl)) (by kernel_rfl) trivial (fun ρ300 w300 hm300 hR300 => ?_)
    have hL := hL.moved (hm300.castL (by kernel_rfl))
    have hr := hr.moved (hm300.castL (by kernel_rfl))
    have hag := hag.moved (hm300.castL (by kernel_rfl))
    refine sim_know 7 (decide ((↑i : Int) < (↑n : Int))) false (by kernel_rfl) (decide_eq_false (by omega)) ?_
    refine sim_run 1 [] (hR300.cast (by kernel_rfl)) (by kernel_rfl) trivial (fun ρ301 w301 hm301 hR301 => ?_)
    have hL := hL.moved (hm301.castL (by kernel_rfl))
    have hr := hr.moved (hm301.castL (by kernel_rfl))
    have hag := hag.moved (hm301.castL (by kernel_rfl))
    refine sim_leave (by kernel_rfl) ?_
    refine sim_run 4 [] (hR301.cast (by kernel_rfl)) (by kernel_rfl) trivial (fun ρ302 w302 hm302 hR302 => ?_)
    have hL := hL.moved (hm302.castL (by kernel_rfl))
    have hr := hr.moved (hm302.castL (by kernel_rfl))
    have hag := hag.moved (hm302.castL (by kernel_rfl))
    refine sim_ret (LB true) hR302 (by kernel_rfl) (by kernel_rfl) ?_
    exact ⟨rfl, hR302.toBelow⟩
    
end
end Go.Proofs.YtedfbdeklepekaaGreat
