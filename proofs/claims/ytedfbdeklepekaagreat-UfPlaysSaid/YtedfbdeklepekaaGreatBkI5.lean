/-
  The box of lists: the kept rows of ints are marked (putInts).
-/
import Derived.Test.YtedfbdeklepekaaGreatBkS
namespace Go.Proofs.YtedfbdeklepekaaGreat
open Go Go.RowKit
def rowT (rows : List BRow) : List Nat := rows.filterMap fun r => r.v.ownBlock
theorem mem_rowT {rows : List BRow} {y : Nat} : y ∈ rowT rows ↔ ∃ r ∈ rows, r.v.ownBlock = some y := by
  unfold rowT
  rw [List.mem_filterMap]
/-- rows that lie where others do -/
structure SameV (rows rows' : List BRow) : Prop where
  len : rows'.length = rows.length
  at_ : ∀ (j : Nat) (r : BRow), rows'[j]? = some r → ∃ q, rows[j]? = some q ∧ q.v = r.v ∧ q.n = r.n
theorem SameV.refl (rows : List BRow) : SameV rows rows := ⟨rfl, fun _ r h => ⟨r, h, rfl, rfl⟩⟩
theorem SameV.set {rows rows' : List BRow} (h : SameV rows rows') {i : Nat} {r : BRow} (hr : rows'[i]? = some r) (ys : List Value) : SameV rows (rows'.set i ⟨r.v, r.n, ys⟩) := by
  refine ⟨by rw [List.length_set]; exact h.len, fun j x hx => ?_⟩
  by_cases hj : i = j
  · subst hj
    rw [List.getElem?_set_self (List.getElem?_eq_some_iff.1 hr).1] at hx
    injection hx with hx
    subst hx
    exact h.at_ i r hr
  · rw [List.getElem?_set_ne hj] at hx
    exact h.at_ j x hx
theorem SameV.mapv {rows rows' : List BRow} (h : SameV rows rows') : rows'.map BRow.v = rows.map BRow.v := by
  refine List.ext_getElem? fun j => ?_
  rw [List.getElem?_map, List.getElem?_map]
  cases hx : rows'[j]? with
  | none =>
    rw [List.getElem?_eq_none_iff, h.len] at hx
    rw [List.getElem?_eq_none hx]
  | some x =>
    obtain ⟨q, h1, h2, _⟩ := h.at_ j x hx
    rw [h1]
    simp [h2]
theorem SameV.mem {rows rows' : List BRow} (h : SameV rows rows') {r : BRow} (hr : r ∈ rows') : ∃ q ∈ rows, q.v = r.v ∧ q.n = r.n := by
  obtain ⟨j, hj, e⟩ := List.getElem_of_mem hr
  obtain ⟨q, h1, h2⟩ := h.at_ j r (by rw [List.getElem?_eq_getElem hj, e])
  exact ⟨q, List.mem_of_getElem? h1, h2⟩
/-- the rows below i are marked, those behind are as they were -/
structure PutS (rows : List BRow) (i : Nat) (rows' : List BRow) : Prop where
  same : SameV rows rows'
  done : ∀ (j : Nat) (r : BRow), j < i → rows'[j]? = some r → r.xs = ints (markI j 0 r.n)
  left : ∀ (j : Nat) (r : BRow), i ≤ j → rows'[j]? = some r → IRw r
theorem PutS.start {rows : List BRow} (h : ∀ r ∈ rows, IRw r) : PutS rows 0 rows := ⟨SameV.refl _, fun _ _ h => by omega, fun _ r _ hr => h r (List.mem_of_getElem? hr)⟩
theorem PutS.step {rows rows' : List BRow} {i : Nat} (h : PutS rows i rows') {r : BRow} (hr : rows'[i]? = some r) : PutS rows (i + 1) (rows'.set i ⟨r.v, r.n, ints (markI i 0 r.n)⟩) := by
  have hil := (List.getElem?_eq_some_iff.1 hr).1
  refine ⟨h.same.set hr _, fun j x hj hx => ?_, fun j x hj hx => ?_⟩
  · by_cases e : i = j
    · subst e
      rw [List.getElem?_set_self hil] at hx
      injection hx with hx
      subst hx
      rfl
    · rw [List.getElem?_set_ne e] at hx
      exact h.done j x (by omega) hx
  · rw [List.getElem?_set_ne (by omega)] at hx
    exact h.left j x (by omega) hx
theorem Own.kept1 {S : Nat → Prop} {ρ : Nm} {rs : List Reg} {w w' : World} {b : Nat} {e : TypeId} {s : Nat} {v : Value} {n : Nat} {xs : List Value} (h : Own ρ rs w b e s v n xs) (hk : Kept S w w') (hn : ∀ g, v.ownBlock = some g → ¬ S g) : Own ρ rs w' b e s v n xs := ⟨own_kept h.own hk hn, h.far⟩
theorem set_same {α : Type} {l : List α} {i : Nat} {a : α} (h : l[i]? = some a) : l.set i a = l := by
  obtain ⟨h1, rfl⟩ := List.getElem?_eq_some_iff.1 h
  exact List.set_getElem_self h1
theorem mix_set {l m : List Int} {k : Nat} {z : Int} (hl : k < l.length) (hm : m.length = l.length) (hz : m[k]? = some z) : (m.take k ++ l.drop k).set k z = m.take (k + 1) ++ l.drop (k + 1) := by
  have h1 : (m.take k).length = k := by rw [List.length_take]; omega
  rw [List.set_append_right _ _ (by omega), h1, Nat.sub_self, List.take_add_one, hz, List.drop_eq_getElem_cons hl, List.set_cons_zero, List.append_assoc]
  rfl
def PutI (rows : List BRow) (A : Option Addr) (n cp : Nat) (w : World) (e : Ending) (w' : World) : Prop :=
  e = .returned (.tuple #[]) ∧ ∃ rows', SameV rows rows' ∧ Mkd rows' ∧ (∀ r ∈ rows', w'.ownsRow 0 3 1 r.v r.n r.xs) ∧ w'.ownsRow 0 31 1 (.slice A n cp) n (rows'.map BRow.v) ∧ Kept (fun y => ∃ r ∈ rows, r.v.ownBlock = some y) w w'
attribute [local irreducible] run goO leaveK someK nextK nextT nextOT nextOD loopBody loopRest loopK fillJ tmplOf tmplJ mergeT At AtO drawOk ordOf gateOf callC callO topOp topO idxOf appOf storeOf clearOf sliceOf calleeOf calleeO topQ idxQ newRowOf resL stepOp seek
set_option maxRecDepth 100000 in
set_option maxHeartbeats 4000000 in
theorem putI_any (x : Nat → Value) (b : Nat) (vW : Value) (rows : List BRow) (A : Option Addr) (n cp : Nat) (w : World) (h : Blk w b 56 (bkC x).toArray) (hx : x 2 = .slice A n cp) (hy : x 3 = vW) (hL : w.ownsRow 0 31 1 (.slice A n cp) n (rows.map BRow.v)) (hr : ∀ r ∈ rows, w.ownsRow 0 3 1 r.v r.n r.xs) (hok : ∀ r ∈ rows, IRw r) (hap : rows.Pairwise fun a b => ∀ g, a.v.ownBlock = some g → b.v.ownBlock ≠ some g) (hnl : n = rows.length) (hn : n ≤ 250) :
    Calls Tryz.prog 86 #[.pointer (some ⟨b, 0, none⟩)] w (PutI rows A n cp w) := by
  obtain ⟨ρ, e0, hR⟩ := blk_open h false (rowT rows) (by simp) (by kernel_rfl)
  rw [bkI_of hx hy] at hR
  have hL : Own ρ [⟨bkI x (.slice A n cp) vW, false⟩] w 0 31 1 (.slice A n cp) n (rows.map BRow.v) := ⟨hL, fun _ _ hw => wrS_allRo rfl hw⟩
  have hr := BkR.ofK (ρ := ρ) (rs := [⟨bkI x (.slice A n cp) vW, false⟩]) hr rfl hap
  have hbr : ∀ r ∈ rows, ∀ g, r.v.ownBlock = some g → g ≠ b := fun r hr' g h1 h2 => own_blk_ne (hr.own r hr').own h (by decide) (h2 ▸ h1)
  have hag := hR.ag_ 1 (by kernel_rfl)
  refine sim_enter Tryz.func86 ρ [.ptr 0 0] [⟨bkI x (.slice A n cp) vW, false⟩] (by kernel_rfl) (by simp only [denL, LV.den, Nm.at_, e0]) ?_
  refine sim_run 5 [] (hR.cast (by kernel_rfl)) (by kernel_rfl) trivial (fun ρ100 w100 hm100 hR100 => ?_)
  have hL := hL.moved (hm100.castL (by kernel_rfl))
  have hr := hr.moved (hm100.castL (by kernel_rfl))
  have hag := hag.moved (hm100.castL (by kernel_rfl))
  
  have e0 := (hag.at_ 0 (by omega)).trans e0
  refine sim_loop (ι := Nat × List BRow) (T := rowT rows) (w0 := w) (0, rows) [0] (fun s => [(2, LI s.1)]) (fun _ => [⟨bkI x (.slice A n cp) vW, false⟩]) (fun s w1 => s.1 ≤ n ∧ PutS rows s.1 s.2 ∧ Own ρ100 [⟨bkI x (.slice A n cp) vW, false⟩] w1 0 31 1 (.slice A n cp) n (s.2.map BRow.v) ∧ BkR 0 3 1 s.2 ρ100 [⟨bkI x (.slice A n cp) vW, false⟩] w1) (fun s => n - s.1) (by kernel_rfl) (by kernel_rfl) ((by assumption : Rel _ _ _ _ _).cast (by kernel_rfl)) ⟨Nat.zero_le _, PutS.start hok, hL.castR (by kernel_rfl), hr.castR (by kernel_rfl)⟩ ?_
  iterate 8 (try clear hL)
  iterate 8 (try clear hr)
  iterate 8 (try clear hag)
  rintro ⟨i, rows1⟩ d w2 hR2 ⟨hi, hP, hL, hr⟩
  dsimp only at hi hP hL hr
  have hag := hR2.ag_ 1 (by kernel_rfl)
  have hl1 := hP.same.len
  by_cases hlt : i < n
  · obtain ⟨r, hri⟩ : ∃ r, rows1[i]? = some r := ⟨_, List.getElem?_eq_getElem (by omega)⟩
    obtain ⟨l, e1, e2, e3⟩ := hP.left i r (Nat.le_refl _) hri
    obtain ⟨rv, rn, rxs⟩ := r
    dsimp only at e1 e2
    subst e1
    have ho1 := hr.at_ hri
    dsimp only at ho1
    obtain ⟨A1, c1, rfl⟩ := own_row' ho1.own
    obtain ⟨gL, rfl⟩ := own_spot hL.own (by omega)
    clear ho1
    refine sim_seeK _ i 1 (by kernel_rfl) hri hL hlt hR2 (by kernel_rfl) (fun ρE hmE eE hRE => ?_)
    have hL := hL.moved hmE
    have hr := hr.moved hmE
    have hag0 := hag.moved hmE
    have hag := hRE.ag_ 2 (by kernel_rfl)
    refine sim_run 11 [] (hRE.cast (by kernel_rfl)) (by kernel_rfl) trivial (fun ρ200 w200 hm200 hR200 => ?_)
    have hL := hL.moved (hm200.castL (by kernel_rfl))
    have hr := hr.moved (hm200.castL (by kernel_rfl))
    have hag0 := hag0.moved (hm200.castL (by kernel_rfl))
    have hag := hag.moved (hm200.castL (by kernel_rfl))
    refine sim_know 11 (decide ((↑(i, rows1).fst : Int) < (↑n : Int))) true (by kernel_rfl) (decide_eq_true (by omega)) ?_
    refine sim_run 12 [] (hR200.cast (by kernel_rfl)) (by kernel_rfl) trivial (fun ρ201 w201 hm201 hR201 => ?_)
    have hL := hL.moved (hm201.castL (by kernel_rfl))
    have hr := hr.moved (hm201.castL (by kernel_rfl))
    have hag0 := hag0.moved (hm201.castL (by kernel_rfl))
    have hag := hag.moved (hm201.castL (by kernel_rfl))
    refine sim_place (.v (.slice (some ⟨gL, 0, none⟩) n cp)) n 1 i 1 0 (by kernel_rfl) (by omega) (by omega) rfl (by simp only [Nm.at_, hag.at_ 1 (by omega), eE, Nat.add_zero, Nat.zero_add, Int.toNat_natCast, Nat.mul_one]) ?_
    refine sim_run 2 [] (hR201.cast (by kernel_rfl)) (by kernel_rfl) trivial (fun ρ203 w203 hm203 hR203 => ?_)
    have hL := hL.moved (hm203.castL (by kernel_rfl))
    have hr := hr.moved (hm203.castL (by kernel_rfl))
    have hag0 := hag0.moved (hm203.castL (by kernel_rfl))
    have hag := hag.moved (hm203.castL (by kernel_rfl))
    refine sim_call 178 [LI ((↑(i, rows1).fst : Int)), LI 0, LI ((↑rn : Int))] (by kernel_rfl) ?_
    refine Calls.mono (markI_any (i) (0) (rn) (by omega) (by omega) _) ?_
    rintro e204 w204 ⟨v204, rfl, hmk, hb204⟩
    obtain ⟨Am, cm, rfl⟩ := own_row' hmk
    have hmne : ∀ r ∈ rows1, ∀ g, r.v.ownBlock = some g → (Value.slice Am rn cm).ownBlock ≠ some g := fun r hr' g h1 h2 => by have := own_lt (hr.own r hr').own h1; have := own_ge hmk h2; omega
    have hmk := Own.start hR203 hmk
    have hL := hL.below hb204
    have hr := hr.below hb204
    have hR204 := hR203.below hb204
    refine Back.of (.v (Value.slice Am rn cm)) hR204 rfl ?_
    refine sim_run 7 [] (hR204.cast (by kernel_rfl)) (by kernel_rfl) trivial (fun ρ205 w205 hm205 hR205 => ?_)
    have hag0 := hag0.moved (hm205.castL (by kernel_rfl))
    have hag := hag.moved (hm205.castL (by kernel_rfl))
    have hmk := hmk.moved (hm205.castL (by kernel_rfl))
    have hL := hL.moved (hm205.castL (by kernel_rfl))
    have hr := hr.moved (hm205.castL (by kernel_rfl))
    
    have e0 := (hag0.at_ 0 (by omega)).trans e0
    have eE := (hag.at_ 1 (by omega)).trans eE
    refine sim_loop (ι := Nat) (T := rowT rows) (w0 := w) 0 [0, 2, 3] (fun k => [(4, LI k)]) (fun _ => [⟨bkI x (.slice (some ⟨gL, 0, none⟩) n cp) vW, false⟩, ⟨[.v (.slice A1 rn c1)], false⟩]) (fun k w1 => k ≤ rn ∧ Own ρ205 [⟨bkI x (.slice (some ⟨gL, 0, none⟩) n cp) vW, false⟩, ⟨[.v (.slice A1 rn c1)], false⟩] w1 0 31 1 (.slice (some ⟨gL, 0, none⟩) n cp) n (rows1.map BRow.v) ∧ BkR 0 3 1 (rows1.set i ⟨.slice A1 rn c1, rn, ints ((markI i 0 rn).take k ++ l.drop k)⟩) ρ205 [⟨bkI x (.slice (some ⟨gL, 0, none⟩) n cp) vW, false⟩, ⟨[.v (.slice A1 rn c1)], false⟩] w1 ∧ Own ρ205 [⟨bkI x (.slice (some ⟨gL, 0, none⟩) n cp) vW, false⟩, ⟨[.v (.slice A1 rn c1)], false⟩] w1 0 3 1 (.slice Am rn cm) rn (ints (markI i 0 rn))) (fun k => rn - k) (by kernel_rfl) (by kernel_rfl) ((by assumption : Rel _ _ _ _ _).cast (by kernel_rfl)) ⟨Nat.zero_le _, hL.castR (by kernel_rfl), ?_, Own.castR ⟨own_base0 hmk.own (Nat.zero_le _), hmk.far⟩ (by kernel_rfl)⟩ ?_
    · rw [List.take_zero, List.nil_append, List.drop_zero, set_same hri]
      exact hr.castR (by kernel_rfl)
    iterate 8 (try clear hL)
    iterate 8 (try clear hr)
    iterate 8 (try clear hmk)
    iterate 8 (try clear hag)
    rintro k d3 w3 hR3 ⟨hk, hL, hr, hmk⟩
    have hag := hR3.ag_ 2 (by kernel_rfl)
    have hget : (rows1.set i ⟨.slice A1 rn c1, rn, ints ((markI i 0 rn).take k ++ l.drop k)⟩)[i]? = some ⟨.slice A1 rn c1, rn, ints ((markI i 0 rn).take k ++ l.drop k)⟩ := List.getElem?_set_self (by omega)
    by_cases hlk : k < rn
    · have hmz : (markI i 0 rn)[k]? = some (-1000000 * (i : Int) - ((0 + k : Nat) : Int) - 7) := markI_get hlk
      have ho1 := hr.at_ hget
      dsimp only at ho1
      obtain ⟨g1, rfl⟩ := own_spot ho1.own (by omega)
      obtain ⟨gm, rfl⟩ := own_spot hmk.own (by omega)
      have hg1 := own_lt ho1.own rfl
      obtain ⟨q, hq1, hq2, _⟩ := hP.same.at_ i _ hri
      have hT1 : g1 ∈ rowT rows := mem_rowT.2 ⟨q, List.mem_of_getElem? hq1, by rw [hq2]; rfl⟩
      have hb1 : g1 ≠ b := hbr q (List.mem_of_getElem? hq1) g1 (by rw [hq2]; rfl)
      refine sim_seeQ _ k 2 (by kernel_rfl) hmz hmk hlk hR3 (by kernel_rfl) (fun ρF hmF eF hRF => ?_)
      have hL := hL.moved hmF
      have hr := hr.moved hmF
      have hmk := hmk.moved hmF
      have ho1 := ho1.moved hmF
      have hag0 := hag.moved hmF
      have hagF := hRF.ag_ 3 (by kernel_rfl)
      refine sim_name 3 (by kernel_rfl) hRF g1 k (by kernel_rfl) hg1 (ho1.far g1 rfl) (fun ρG hmG eG hRG => ?_)
      have hL := hL.moved hmG
      have hr := hr.moved hmG
      have hmk := hmk.moved hmG
      have ho1 := ho1.moved hmG
      have hag0 := hag0.moved hmG
      have hagF := hagF.moved hmG
      have hag := hRG.ag_ 4 (by kernel_rfl)
      have e0 := (hag0.at_ 0 (by omega)).trans e0
      have eE := (hag0.at_ 1 (by omega)).trans eE
      have eF := (hagF.at_ 2 (by omega)).trans eF
      refine sim_run 8 [] (hRG.cast (by kernel_rfl)) (by kernel_rfl) trivial (fun ρ400 w400 hm400 hR400 => ?_)
      have hL := hL.moved (hm400.castL (by kernel_rfl))
      have hr := hr.moved (hm400.castL (by kernel_rfl))
      have hmk := hmk.moved (hm400.castL (by kernel_rfl))
      have ho1 := ho1.moved (hm400.castL (by kernel_rfl))
      have hag0 := hag0.moved (hm400.castL (by kernel_rfl))
      have hagF := hagF.moved (hm400.castL (by kernel_rfl))
      have hag := hag.moved (hm400.castL (by kernel_rfl))
      refine sim_know 27 (decide ((↑k : Int) < (↑rn : Int))) true (by kernel_rfl) (decide_eq_true (by omega)) ?_
      refine sim_run 4 [] (hR400.cast (by kernel_rfl)) (by kernel_rfl) trivial (fun ρ401 w401 hm401 hR401 => ?_)
      have hL := hL.moved (hm401.castL (by kernel_rfl))
      have hr := hr.moved (hm401.castL (by kernel_rfl))
      have hmk := hmk.moved (hm401.castL (by kernel_rfl))
      have ho1 := ho1.moved (hm401.castL (by kernel_rfl))
      have hag0 := hag0.moved (hm401.castL (by kernel_rfl))
      have hagF := hagF.moved (hm401.castL (by kernel_rfl))
      have hag := hag.moved (hm401.castL (by kernel_rfl))
      refine sim_draw [] (by kernel_rfl) (by kernel_rfl) hR401 (fun hR402 => ?_)
      have hL := hL.drew
      have hr := hr.drew
      have hmk := hmk.drew
      have ho1 := ho1.drew
      refine sim_ordN 5 [] hR402 (by kernel_rfl) trivial (fun ρ403 w403 hm403 hR403 => ?_)
      have hag0 := hag0.moved (hm403.castL (by kernel_rfl))
      have hagF := hagF.moved (hm403.castL (by kernel_rfl))
      have hag := hag.moved (hm403.castL (by kernel_rfl))
      have hL := hL.moved (hm403.castL (by kernel_rfl))
      have hr := hr.moved (hm403.castL (by kernel_rfl))
      have hmk := hmk.moved (hm403.castL (by kernel_rfl))
      have ho1 := ho1.moved (hm403.castL (by kernel_rfl))
      refine sim_ord_index (.v (.slice (some ⟨gL, 0, none⟩) n cp)) n 1 i 1 0 (by kernel_rfl) (by omega) (by omega) rfl hR403 (by simp only [Nm.at_, hag.at_ 1 (by omega), eE, Nat.add_zero, Nat.zero_add, Int.toNat_natCast, Nat.mul_one]) (fun hR404 => ?_)
      refine sim_ordN 4 [] hR404 (by kernel_rfl) trivial (fun ρ405 w405 hm405 hR405 => ?_)
      have hag0 := hag0.moved (hm405.castL (by kernel_rfl))
      have hagF := hagF.moved (hm405.castL (by kernel_rfl))
      have hag := hag.moved (hm405.castL (by kernel_rfl))
      have hL := hL.moved (hm405.castL (by kernel_rfl))
      have hr := hr.moved (hm405.castL (by kernel_rfl))
      have hmk := hmk.moved (hm405.castL (by kernel_rfl))
      have ho1 := ho1.moved (hm405.castL (by kernel_rfl))
      refine sim_ord_index (.v (.slice (some ⟨gm, 0, none⟩) rn cm)) rn 1 k 2 0 (by kernel_rfl) (by omega) (by omega) rfl hR405 (by simp only [Nm.at_, hag.at_ 2 (by omega), eF, Nat.add_zero, Nat.zero_add, Int.toNat_natCast, Nat.mul_one]) (fun hR407 => ?_)
      refine sim_ordN 1 [] hR407 (by kernel_rfl) trivial (fun ρ408 w408 hm408 hR408 => ?_)
      have hag0 := hag0.moved (hm408.castL (by kernel_rfl))
      have hagF := hagF.moved (hm408.castL (by kernel_rfl))
      have hag := hag.moved (hm408.castL (by kernel_rfl))
      have hL := hL.moved (hm408.castL (by kernel_rfl))
      have hr := hr.moved (hm408.castL (by kernel_rfl))
      have hmk := hmk.moved (hm408.castL (by kernel_rfl))
      have ho1 := ho1.moved (hm408.castL (by kernel_rfl))
      refine sim_ord_index (.v (.slice (some ⟨g1, 0, none⟩) rn c1)) rn 1 k 3 0 (by kernel_rfl) (by omega) (by omega) rfl hR408 (by simp only [Nm.at_, hag.at_ 3 (by omega), eG, Nat.add_zero, Nat.zero_add, Int.toNat_natCast, Nat.mul_one]) (fun hR411 => ?_)
      
      have hmem := List.mem_of_getElem? hri
      refine sim_ord_storeQ (a := .ptr 3 0) (z := -1000000 * (i : Int) - ((0 + k : Nat) : Int) - 7) (by kernel_rfl) hR411 ho1 (by simp only [LV.den, Nm.at_, hag.at_ 3 (by omega), eG, Nat.add_zero]) hlk (.inl hT1) [0, 1, 2] (by kernel_rfl) (fun k0 hk0 => ?_) (fun w5 ho5 hk5 hR5 => ?_)
      · simp only [List.mem_cons, List.not_mem_nil, or_false] at hk0
        rcases hk0 with rfl | rfl | rfl
        · rw [hag.at_ 0 (by omega), e0]
          exact fun e => hb1 e.symm
        · rw [hag.at_ 1 (by omega), eE]
          exact fun e => own_ne hL.own ho1.own (by decide) gL rfl (by rw [show gL = g1 from e]; rfl)
        · rw [hag.at_ 2 (by omega), eF]
          exact fun e => hmne _ hmem g1 rfl (by rw [show gm = g1 from e]; rfl)
      have hL := hL.kept1 hk5 (fun g hg e => own_ne hL.own ho1.own (by decide) g hg (by rw [e]; rfl))
      have hmk := hmk.kept1 hk5 (fun g hg e => hmne _ hmem g1 rfl (e ▸ hg))
      have hr := hr.set hget ho5 (fun x hx hne ho => ho.kept1 hk5 (fun g hg e => hne g1 rfl (e ▸ hg)))
      rw [List.set_set, mix_set (by omega) (by rw [markI_length]; omega) hmz] at hr
      clear ho1 ho5
      refine sim_ord_endR hR5 (by kernel_rfl) (fun hR500 => ?_)
      refine sim_run 6 [⟨6, 1, LI (IntKind.i64.wrap ((↑k : Int) + 1)), LI ((↑k : Int) + 1)⟩] (hR500.cast (by kernel_rfl)) (by kernel_rfl) ⟨eqi (IntWalk.i64_in _ (by omega)), trivial⟩ (fun ρ501 w501 hm501 hR501 => ?_)
      have hag0 := hag0.moved (hm501.castL (by kernel_rfl))
      have hagF := hagF.moved (hm501.castL (by kernel_rfl))
      have hag := hag.moved (hm501.castL (by kernel_rfl))
      have hL := hL.moved (hm501.castL (by kernel_rfl))
      have hmk := hmk.moved (hm501.castL (by kernel_rfl))
      have hr := hr.moved (hm501.castL (by kernel_rfl))
      
      exact sim_again (k + 1) (by kernel_rfl) (by show rn - (k + 1) < rn - k; omega) (by kernel_rfl) (by kernel_rfl) (by kernel_rfl) hag0.ag (Rel.cast (by assumption) (by kernel_rfl)) (by kernel_rfl) (by kernel_rfl) ⟨hlk, hL.cut hag0 rfl (by kernel_rfl), hr.cut hag0 rfl (by kernel_rfl), hmk.cut hag0 rfl (by kernel_rfl)⟩
    · obtain rfl : k = rn := by omega
      refine sim_run 8 [] (hR3.cast (by kernel_rfl)) (by kernel_rfl) trivial (fun ρ700 w700 hm700 hR700 => ?_)
      have hag0 := hag0.moved (hm700.castL (by kernel_rfl))
      have hL := hL.moved (hm700.castL (by kernel_rfl))
      have hr := hr.moved (hm700.castL (by kernel_rfl))
      have hmk := hmk.moved (hm700.castL (by kernel_rfl))
      have hag := hag.moved (hm700.castL (by kernel_rfl))
      refine sim_know 27 (decide ((↑k : Int) < (↑k : Int))) false (by kernel_rfl) (decide_eq_false (by omega)) ?_
      refine sim_run 1 [] (hR700.cast (by kernel_rfl)) (by kernel_rfl) trivial (fun ρ701 w701 hm701 hR701 => ?_)
      have hag0 := hag0.moved (hm701.castL (by kernel_rfl))
      have hL := hL.moved (hm701.castL (by kernel_rfl))
      have hr := hr.moved (hm701.castL (by kernel_rfl))
      have hmk := hmk.moved (hm701.castL (by kernel_rfl))
      have hag := hag.moved (hm701.castL (by kernel_rfl))
      refine sim_leave (by kernel_rfl) ?_
      refine sim_run 6 [⟨2, 1, LI (IntKind.i64.wrap ((↑(i, rows1).fst : Int) + 1)), LI ((↑(i, rows1).fst : Int) + 1)⟩] (hR701.cast (by kernel_rfl)) (by kernel_rfl) ⟨eqi (IntWalk.i64_in _ (by omega)), trivial⟩ (fun ρ702 w702 hm702 hR702 => ?_)
      have hag0 := hag0.moved (hm702.castL (by kernel_rfl))
      have hL := hL.moved (hm702.castL (by kernel_rfl))
      have hr := hr.moved (hm702.castL (by kernel_rfl))
      have hmk := hmk.moved (hm702.castL (by kernel_rfl))
      have hag := hag.moved (hm702.castL (by kernel_rfl))
      
      have hagO := hag0
      rw [List.drop_of_length_le (by omega), List.append_nil, List.take_of_length_le (Nat.le_of_eq (markI_length _ _ _))] at hr
      have hP2 := hP.step hri
      dsimp only at hP2
      exact sim_again (i + 1, rows1.set i ⟨.slice A1 k c1, k, ints (markI i 0 k)⟩) (by kernel_rfl) (by show n - (i + 1) < n - i; omega) (by kernel_rfl) (by kernel_rfl) (by kernel_rfl) hagO.ag (Rel.cast (by assumption) (by kernel_rfl)) (by kernel_rfl) (by kernel_rfl) ⟨hlt, hP2, (by rw [hP2.same.mapv, ← hP.same.mapv]; exact hL.cut hagO rfl (by kernel_rfl)), hr.cut hagO rfl (by kernel_rfl)⟩
  · refine sim_run 11 [] (hR2.cast (by kernel_rfl)) (by kernel_rfl) trivial (fun ρ900 w900 hm900 hR900 => ?_)
    have hL := hL.moved (hm900.castL (by kernel_rfl))
    have hr := hr.moved (hm900.castL (by kernel_rfl))
    have hag := hag.moved (hm900.castL (by kernel_rfl))
    refine sim_know 11 (decide ((↑(i, rows1).fst : Int) < (↑n : Int))) false (by kernel_rfl) (decide_eq_false (by omega)) ?_
    refine sim_run 1 [] (hR900.cast (by kernel_rfl)) (by kernel_rfl) trivial (fun ρ901 w901 hm901 hR901 => ?_)
    have hL := hL.moved (hm901.castL (by kernel_rfl))
    have hr := hr.moved (hm901.castL (by kernel_rfl))
    have hag := hag.moved (hm901.castL (by kernel_rfl))
    refine sim_leave (by kernel_rfl) ?_
    refine sim_end (.tup []) (hR901.cast (by kernel_rfl)) (by kernel_rfl) (by kernel_rfl) ?_
    
    refine ⟨rfl, rows1, hP.same, fun j r hj => ?_, fun r hr' => (hr.own r hr').own, hL.own, ((by assumption : Rel _ _ _ _ _)).keeps.kept.mono fun y hy => .inl (mem_rowT.1 hy)⟩
    have hjl := (List.getElem?_eq_some_iff.1 hj).1
    refine ⟨hP.done j r (by omega) hj, ?_⟩
    obtain ⟨q, h1, h2, h3⟩ := hP.same.at_ j r hj
    obtain ⟨l, _, h4, h5⟩ := hok q (List.mem_of_getElem? h1)
    omega
end Go.Proofs.YtedfbdeklepekaaGreat
