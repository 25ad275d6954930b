/-
  The operations that read, write or make memory, over values whose pointers name places. Over any program.
-/
import Derived.Test.YtodjhkmbgennaaaSimB
import Derived.Laws.Tables
namespace Go.Proofs.Ytodjhkmbgennaaa
open Go Go.RowKit

def setAll {α : Type} : List α → Nat → List α → List α
  | l, _, [] => l
  | l, off, c :: cs => setAll (l.set off c) (off + 1) cs
theorem setAll_length {α : Type} : ∀ (cs l : List α) (off : Nat), (setAll l off cs).length = l.length
  | [], _, _ => rfl
  | c :: cs, l, off => by simp only [setAll, setAll_length cs, List.length_set]
theorem setAll_map {α β : Type} (f : α → β) : ∀ (cs l : List α) (off : Nat), (setAll l off cs).map f = setAll (l.map f) off (cs.map f)
  | [], _, _ => rfl
  | c :: cs, l, off => by simp only [setAll, setAll_map f cs, List.map_cons, List.map_set]
theorem foldl_setAll (off : Nat) : ∀ (cs : List Value) (k : Nat) (arr : Array Value), ((cs.zipIdx k).foldl (fun a p => a.setIfInBounds (off + p.2) p.1) arr).toList = setAll arr.toList (off + k) cs
  | [], _, _ => rfl
  | c :: cs, k, arr => by
    simp only [List.zipIdx_cons, List.foldl_cons, setAll]
    rw [foldl_setAll off cs (k + 1), Array.toList_setIfInBounds]
    rfl

/-- what a struct | an array has at its places -/
def fillL (place : Nat → Option (Nat × Nat)) (cells : List LV) : List (Nat × LV) → Option (List LV)
  | [] => some cells
  | (i, x) :: rest => match place i with
    | none => none
    | some (off, size) => if Nat.beq x.cells.length size && Nat.ble (off + size) cells.length then fillL place (setAll cells off x.cells) rest else none
def denP (ρ : Nm) (l : List (Nat × LV)) : List (Nat × Value) := l.map fun p => (p.1, p.2.den ρ)
theorem cells_size (ρ : Nm) (x : LV) : (x.den ρ).cells.size = x.cells.length := by
  rw [← Array.length_toList, LV.den_cells, denL_length]
theorem fillL_fill {ρ : Nm} {place : Nat → Option (Nat × Nat)} : ∀ (parts : List (Nat × LV)) (cells r : List LV), fillL place cells parts = some r → Instr.fill place (denL ρ cells).toArray (denP ρ parts) = some (denL ρ r).toArray
  | [], cells, r, h => by
    simp only [fillL, Option.some.injEq] at h
    subst h
    rfl
  | (i, x) :: rest, cells, r, h => by
    simp only [fillL] at h
    cases hp : place i with
    | none => rw [hp] at h; cases h
    | some os =>
      obtain ⟨off, size⟩ := os
      rw [hp] at h
      simp only at h
      split at h
      · rename_i hc
        simp only [Bool.and_eq_true] at hc
        have e1 := Nat.eq_of_beq_eq_true hc.1
        have e2 := Nat.le_of_ble_eq_true hc.2
        have hs : (x.den ρ).cells.size = size := by rw [cells_size, e1]
        simp only [denP, List.map_cons, Instr.fill, hp]
        have hno : (decide ((x.den ρ).cells.size ≠ size) || decide (off + (x.den ρ).cells.size > (denL ρ cells).toArray.size)) = false := by
          simp [hs, denL_length]; omega
        simp only [hno, Bool.false_eq_true, if_false]
        have ih := fillL_fill (ρ := ρ) rest _ r h
        rw [show denL ρ (setAll cells off x.cells) = setAll (denL ρ cells) off (denL ρ x.cells) from by rw [denL_eq, denL_eq, denL_eq, setAll_map]] at ih
        rw [← LV.den_cells] at ih
        have hf := foldl_setAll off (x.den ρ).cells.toList 0 (denL ρ cells).toArray
        rw [Nat.add_zero] at hf
        rw [← hf] at ih
        rw [← ih]
        congr 1
        rw [← Array.foldl_toList, Array.toList_zipIdx]
      · cases h
def buildL (P : Program) (t : TypeId) (parts : List (Nat × LV)) : Option (List LV) :=
  match P.info? t, P.underlying t with
  | some it, some (.array _ e) => match it.zero, P.info? e with
    | some z, some ie => fillL (fun i => some (i * ie.size, ie.size)) (z.cells.toList.map .v) parts
    | _, _ => none
  | some it, some (.struct fields) => match it.zero, fields.toList.mapM (fun f => (P.info? f.type).map fun i => (f.offset, i.size)) with
    | some z, some places => fillL (places[·]?) (z.cells.toList.map .v) parts
    | _, _ => none
  | _, _ => none
theorem denL_vs (ρ : Nm) (z : Array Value) : (denL ρ (z.toList.map .v)).toArray = z := by rw [denL_v]
theorem buildL_built {P : Program} {t : TypeId} {parts : List (Nat × LV)} {r : List LV} (h : buildL P t parts = some r) (ρ : Nm) : P.built t (denP ρ parts) = some (denL ρ r).toArray := by
  unfold buildL at h
  unfold Program.built
  split at h
  · rename_i it n e hi hu
    split at h
    · rename_i z ie hz hie
      have := fillL_fill (ρ := ρ) _ _ _ h
      rw [denL_vs] at this
      simp only [hi, hu, hz, hie, this]
    · cases h
  · rename_i it fs hi hu
    split at h
    · rename_i z places hz hp
      have := fillL_fill (ρ := ρ) _ _ _ h
      rw [denL_vs] at this
      simp only [hi, hu, hz, hp, List.getElem?_toArray, this]
    · cases h
  · cases h

/-- the cells of a new row of literals -/
def rowL (P : Program) (t : TypeId) (len : Nat) (parts : List (Nat × LV)) : Option (List LV) :=
  match P.underlying t with
  | some (.slice e) => match P.info? e with
    | some ie => match ie.zero with
      | some z => if Nat.ble (len * ie.size) 16777216 && !Nat.beq (len * ie.size) 0 then
          fillL (fun i => some (i * ie.size, ie.size)) (((Array.range (len * ie.size)).map (z.cells[· % z.cells.size]!)).toList.map .v) parts else none
      | none => none
    | none => none
  | _ => none
def rowElem (P : Program) (t : TypeId) : TypeId := match P.underlying t with
  | some (.slice e) => e
  | _ => 0
theorem rowL_run {P : Program} {t : TypeId} {len : Nat} {parts : List (Nat × LV)} {r : List LV} (h : rowL P t len parts = some r) (ρ : Nm) (w : World) :
    (Instr.buildSlice t len (denP ρ parts).toArray).run P w = .ok (.slice (some ⟨w.heap.size, 0, none⟩) len len) (w.alloc (.cells (denL ρ r).toArray (rowElem P t))) := by
  unfold rowL at h
  unfold rowElem
  split at h
  · rename_i e hu
    split at h
    · rename_i ie hi
      split at h
      · rename_i z hz
        split at h
        · rename_i hc
          simp only [Bool.and_eq_true, Bool.not_eq_true'] at hc
          have e1 := Nat.le_of_ble_eq_true hc.1
          have e2 : len * ie.size ≠ 0 := by
            intro e
            rw [e] at hc
            exact absurd hc.2 (by decide)
          have := fillL_fill (ρ := ρ) _ _ _ h
          rw [denL_vs] at this
          have e3 : ¬ (len * ie.size > 2 ^ 24) := by
            intro hg
            have : (2 : Nat) ^ 24 = 16777216 := by decide
            omega
          simp only [Instr.buildSlice, Sem.run_bind, run_underlying hu, Result.andThen_ok, sizeOf, typeInfo, hi, run_program, Sem.run_pure, e3, e2, if_false, zeroValue, hz, this, newRow, run_newObj]
          rfl
        · cases h
      · cases h
    · cases h
  · cases h

/-! ### Reading -/
def takeN : Nat → List LV → Option (List LV)
  | 0, _ => some []
  | n + 1, x :: xs => match takeN n xs with
    | some r => some (x :: r)
    | none => none
  | _ + 1, [] => none
theorem takeN_spec : ∀ {n : Nat} {l r : List LV}, takeN n l = some r → r.length = n ∧ ∀ (j : Nat) (v : LV), r[j]? = some v → l[j]? = some v
  | 0, l, r, h => by simp only [takeN, Option.some.injEq] at h; subst h; simp
  | n + 1, [], r, h => by simp [takeN] at h
  | n + 1, x :: xs, r, h => by
    simp only [takeN] at h
    split at h
    · rename_i r' hr
      simp only [Option.some.injEq] at h
      subst h
      have ih := takeN_spec hr
      refine ⟨by simp [ih.1], fun j v hv => ?_⟩
      cases j with
      | zero => exact hv
      | succ j => exact ih.2 j v hv
    · cases h
def loadL (P : Program) (t : TypeId) (cs : List LV) : Option LV :=
  match P.underlying t, P.info? t with
  | some (.struct _), some i => (takeN i.size cs).map .agg
  | some (.array _ _), some i => (takeN i.size cs).map .agg
  | some _, some _ => cs.head?
  | _, _ => none
theorem loadL_run {P : Program} {t : TypeId} {cs : List LV} {x : LV} (h : loadL P t cs = some x) {ρ : Nm} {n o : Nat} {w : World} (hc : ∀ j v, cs[j]? = some v → w.cell? (ρ.at_ n (o + j)) = some (v.den ρ)) :
    (Instr.loadAt t (.pointer (some (ρ.at_ n o)))).run P w = .ok (x.den ρ) w := by
  unfold loadL at h
  have key : ∀ (i : TypeInfo), P.info? t = some i → (isAgg t).run P w = .ok true w → (takeN i.size cs).map LV.agg = some x → (Instr.loadAt t (.pointer (some (ρ.at_ n o)))).run P w = .ok (x.den ρ) w := by
    intro i hi hag h
    cases ht : takeN i.size cs with
    | none => rw [ht] at h; cases h
    | some r =>
      rw [ht] at h
      simp only [Option.map_some, Option.some.injEq] at h
      subst h
      have hs := takeN_spec ht
      have hl := run_loadCells_list (P := P) w (ρ.at_ n o) (denL ρ r) (fun j v hv => by
        rw [denL_get] at hv
        cases hrj : r[j]? with
        | none => rw [hrj] at hv; cases hv
        | some u =>
          rw [hrj] at hv
          simp only [Option.map_some, Option.some.injEq] at hv
          subst hv
          rw [at_add]
          exact hc j u (hs.2 j u hrj))
      rw [denL_length, hs.1] at hl
      simp [Instr.loadAt, Instr.sureAddr, loadVar, hag, sizeOf, typeInfo, hi, hl, LV.den]
  split at h
  · rename_i fs i hu hi
    exact key i hi (by simp [isAgg, run_underlying hu]) h
  · rename_i a b i hu hi
    exact key i hi (by simp [isAgg, run_underlying hu]) h
  · rename_i d i hns hna hu hi
    have hag : (isAgg t).run P w = .ok false w := by
      simp only [isAgg, Sem.run_bind, run_underlying hu, Result.andThen_ok]
      cases d <;> first | rfl | exact absurd hu (by intro; exact hns _ rfl) | exact absurd hu (by intro; exact hna _ _ rfl)
    cases cs with
    | nil => cases h
    | cons c cs =>
      simp only [List.head?_cons, Option.some.injEq] at h
      subst h
      have := hc 0 c rfl
      rw [Nat.add_zero] at this
      simp [Instr.loadAt, Instr.sureAddr, loadVar, hag, this]
  · cases h

/-! ### Writing -/
def oneL : LV → Bool
  | .v x => x.oneCell'
  | .agg _ => false
  | .tup _ => false
  | _ => true
theorem oneL_den {x : LV} (h : oneL x = true) (ρ : Nm) : (x.den ρ).oneCell' = true := by
  cases x <;> first | exact h | rfl | cases h

section
variable {P : Program} {T : List Nat} {w0 w : World} {ρ : Nm} {rs : List Reg}
theorem Rel.set1 (h : Rel T w0 ρ rs w) {n : Nat} {r : Reg} (hn : rs[n]? = some r) (hw : r.wr = true) {i : Nat} (hi : i < r.cells.length) (x : LV) : Rel T w0 ρ (rs.set n ⟨r.cells.set i x, r.wr⟩) (w.setCell (ρ.at_ n i) (x.den ρ)) := by
  have hnl : n < rs.length := (List.getElem?_eq_some_iff.1 hn).1
  have hcases : ∀ m q, (rs.set n ⟨r.cells.set i x, r.wr⟩)[m]? = some q → (m = n ∧ q = ⟨r.cells.set i x, r.wr⟩) ∨ (m ≠ n ∧ rs[m]? = some q) := by
    intro m q hm
    rw [List.getElem?_set] at hm
    split at hm
    · rename_i e
      simp only [Option.some.injEq] at hm
      exact .inl ⟨e.symm, hm.symm⟩
    · rename_i e
      exact .inr ⟨fun e' => e e'.symm, hm⟩
  have hk := (h.wr n r hn hw).1
  refine ⟨h.keeps.setCell hk _, fun m q hm => ?_, fun m q hm j v hv => ?_, fun m q hm hq => ?_, fun a b q q' ha hb hab hq he => ?_⟩
  · rw [World.size_setCell]
    rcases hcases m q hm with ⟨rfl, rfl⟩ | ⟨_, hm⟩
    · exact h.lt _ _ hn
    · exact h.lt _ _ hm
  · rcases hcases m q hm with ⟨rfl, rfl⟩ | ⟨hne, hm⟩
    · simp only at hv
      rw [List.getElem?_set] at hv
      split at hv
      · rename_i e
        subst e
        simp only [Option.some.injEq] at hv
        subst hv
        exact World.cell?_setCell_same _ _ _ (h.cell _ _ hn i _ (List.getElem?_eq_getElem hi))
      · rename_i e
        rw [World.cell?_setCell_other]
        · exact h.cell _ _ hn j v hv
        · intro e'
          unfold Nm.at_ at e'
          injection e' with _ e' _
          omega
    · rw [World.cell?_setCell_other]
      · exact h.cell _ _ hm j v hv
      · intro e'
        unfold Nm.at_ at e'
        injection e' with e1 e2 _
        have hj := (List.getElem?_eq_some_iff.1 hv).1
        have := h.apart n m r q hn hm (Ne.symm hne) hw e1
        omega
  · rcases hcases m q hm with ⟨rfl, rfl⟩ | ⟨hne, hm⟩
    · refine ⟨hk, fun j hj => ?_⟩
      rw [World.frozen?_setCell]
      simp only [List.length_set] at hj
      exact (h.wr _ _ hn hw).2 j hj
    · refine ⟨(h.wr _ _ hm hq).1, fun j hj => ?_⟩
      rw [World.frozen?_setCell]
      exact (h.wr _ _ hm hq).2 j hj
  · rcases hcases a q ha with ⟨rfl, rfl⟩ | ⟨_, ha1⟩ <;> rcases hcases b q' hb with ⟨rfl, rfl⟩ | ⟨_, hb1⟩
    · exact absurd rfl hab
    · simp only [List.length_set]
      exact h.apart _ _ _ _ hn hb1 hab hw he
    · simp only [List.length_set]
      exact h.apart _ _ _ _ ha1 hn hab hq he
    · exact h.apart _ _ _ _ ha1 hb1 hab hq he
theorem Rel.stores : ∀ (cs : List LV) (j : Nat) {rs : List Reg} {w : World}, Rel T w0 ρ rs w → ∀ {n o : Nat} {r : Reg}, rs[n]? = some r → r.wr = true → cs.all oneL = true → o + j + cs.length ≤ r.cells.length →
    ∃ w', (storeCells (ρ.at_ n o) (denL ρ cs) j).run P w = .ok () w' ∧ Rel T w0 ρ (rs.set n ⟨setAll r.cells (o + j) cs, r.wr⟩) w' ∧ Kept (fun g => g = (ρ n).1) w w' ∧ Still (fun g i => g = (ρ n).1 → i < (ρ n).2 ∨ (ρ n).2 + r.cells.length ≤ i) w w'
  | [], j, rs, w, h, n, o, r, hn, _, _, _ => ⟨w, rfl, by
      rw [show rs.set n ⟨setAll r.cells (o + j) [], r.wr⟩ = rs from by
        obtain ⟨hl, he⟩ := List.getElem?_eq_some_iff.1 hn
        subst he
        exact List.set_getElem_self hl]
      exact h, Kept.refl _ _, Still.refl _ _⟩
  | c :: cs, j, rs, w, h, n, o, r, hn, hw, hone, hlen => by
    simp only [List.all_cons, Bool.and_eq_true, List.length_cons] at hone hlen
    have hnl := (List.getElem?_eq_some_iff.1 hn).1
    have hi : o + j < r.cells.length := by omega
    have h1 := h.set1 hn hw hi c
    have hn1 : (rs.set n ⟨r.cells.set (o + j) c, r.wr⟩)[n]? = some ⟨r.cells.set (o + j) c, r.wr⟩ := by simp [hnl]
    obtain ⟨w', hrun, hrel, hkept, hstill⟩ := Rel.stores cs (j + 1) h1 (o := o) hn1 hw hone.2 (by simp only [List.length_set]; omega)
    refine ⟨w', ?_, ?_, (Kept.setCell (S := fun g => g = (ρ n).1) w rfl _).trans hkept (fun x hx => .inl hx), (Still.setCell w (ρ.at_ n (o + j)) _ (fun i hi e => by
      have h2 := hi rfl
      have h3 : i = (ρ n).2 + (o + j) := e
      omega)).trans hstill (fun g i _ hi => by simpa only [List.length_set] using hi)⟩
    · simp only [denL, storeCells, Sem.run_bind, at_add]
      rw [run_store P w _ _ _ (oneL_den hone.1 ρ), h.cell n r hn _ _ (List.getElem?_eq_getElem hi)]
      simp only [(h.wr n r hn hw).2 _ hi, Bool.false_eq_true, if_false, Result.andThen_ok]
      exact hrun
    · simp only [List.set_set] at hrel
      exact hrel
end

/-- what an operation on memory leaves -/
def opMem (P : Program) (o : Oper) (ev : Operand → LV) (tmps : List LV) (rs : List Reg) : Option (LV × List Reg) :=
  match o.op with
  | .load t a => match ev a with
    | .ptr n off => match rs[n]? with
      | some r => (loadL P t (r.cells.drop off)).map fun x => (x, rs)
      | none => none
    | _ => none
  | .store t a x => match ev a with
    | .ptr n off => match rs[n]?, P.info? t with
      | some r, some i => if r.wr && (Nat.beq (ev x).cells.length i.size && ((ev x).cells.all oneL && Nat.ble (off + (ev x).cells.length) r.cells.length)) then some (.v undef, rs.set n ⟨setAll r.cells off (ev x).cells, r.wr⟩) else none
      | _, _ => none
    | _ => none
  | .alloc e => match P.info? e with
    | some i => match i.zero with
      | some z => if undL rs.length tmps && undR rs.length rs then some (.ptr rs.length 0, rs ++ [⟨z.cells.toList.map .v, true⟩]) else none
      | none => none
    | none => none
  | .box _ x => if undL rs.length tmps && (undR rs.length rs && undL rs.length (ev x).cells) then some (.ptr rs.length 0, rs ++ [⟨(ev x).cells, true⟩]) else none
  | .build t parts => (buildL P t (parts.toList.map fun p => (p.1, ev p.2))).map fun cs => (.agg cs, rs)
  | .buildSlice t len parts => match rowL P t len (parts.toList.map fun p => (p.1, ev p.2)) with
    | some cs => if undL rs.length tmps && (undR rs.length rs && undL rs.length cs) then some (.slc rs.length 0 len len, rs ++ [⟨cs, true⟩]) else none
    | none => none
  | _ => none

def act (ρ : Nm) (tmps : List LV) : Act := ⟨(denL ρ tmps).toArray, []⟩
def evalL (tmps : List LV) : Operand → LV
  | .tmp t => match tmps[t]? with
    | some x => x
    | none => .v undef
  | .const x => .v x
  | .global g => .v (.pointer (some ⟨g, 0, none⟩))
  | .func f => .v (.func (.func f) #[] #[])
theorem act_eval (ρ : Nm) (tmps : List LV) (x : Operand) : (act ρ tmps).eval x = (evalL tmps x).den ρ := by
  cases x with
  | tmp t =>
    simp only [Act.eval, act, evalL, Array.getD_eq_getD_getElem?, List.getElem?_toArray, denL_get]
    cases tmps[t]? <;> rfl
  | const x => rfl
  | global g => rfl
  | func f => rfl
theorem act_ext {k : Nat} {ρ ρ' : Nm} (h : Agree k ρ ρ') {tmps : List LV} (hb : undL k tmps = true) : act ρ' tmps = act ρ tmps := by
  unfold act
  rw [denL_ext h tmps hb]
def putL (tmps : List LV) (dst : Option Tmp) (x : LV) : List LV := match dst with
  | some d => tmps.set d x
  | none => tmps
theorem act_put (ρ : Nm) (tmps : List LV) (dst : Option Tmp) (x : LV) : (act ρ tmps).put dst (x.den ρ) = act ρ (putL tmps dst x) := by
  cases dst with
  | none => rfl
  | some d =>
    simp only [Act.put, act, putL, List.setIfInBounds_toArray, denL_eq, List.map_set]

def stepOp (P : Program) (o : Oper) (tmps : List LV) (rs : List Reg) : Option (LV × List Reg) :=
  match opPure P o (evalL tmps) with
  | some x => some (x, rs)
  | none => opMem P o (evalL tmps) tmps rs

/-- what a step has done -/
structure Stepped (P : Program) (T : List Nat) (w0 : World) (ρ : Nm) (tmps : List LV) (rs : List Reg) (w : World) (o : Oper) (x : LV) (rs' : List Reg) (ρ' : Nm) (w' : World) : Prop where
  agree : Agree rs.length ρ ρ'
  rel : Rel T w0 ρ' rs' w'
  kept : Kept (wrS ρ rs) w w'
  wrs : ∀ g, wrS ρ' rs' g → wrS ρ rs g ∨ w.heap.size ≤ g
  same : act ρ' tmps = act ρ tmps
  size : rs.length ≤ rs'.length
  stl : Still (OutR ρ rs) w w'
  out : ∀ g i, g < w.heap.size → OutR ρ rs g i → OutR ρ' rs' g i
  back : ∀ g i, OutR ρ' rs' g i → OutR ρ rs g i
  shape : ∀ (n : Nat) (r' : Reg), rs'[n]? = some r' → r'.wr = true → (∃ r, rs[n]? = some r ∧ r.wr = true ∧ r.cells.length = r'.cells.length) ∨ w.heap.size ≤ (ρ' n).1
  run : (execOp (act ρ tmps).eval o).run P w = .ok (.value (x.den ρ')) w' ∨ ((execOp (act ρ tmps).eval o).run P w = .ok .skip w' ∧ x.den ρ' = undef)

theorem wrS_app {ρ ρ' : Nm} {rs : List Reg} {c : Reg} {w : World} (ha : Agree rs.length ρ ρ') (hn : ρ' rs.length = (w.heap.size, 0)) (g : Nat) (h : wrS ρ' (rs ++ [c]) g) : wrS ρ rs g ∨ w.heap.size ≤ g := by
  obtain ⟨n, r, h1, h2, h3⟩ := h
  rcases Nat.lt_or_ge n rs.length with hl | hl
  · rw [List.getElem?_append_left hl] at h1
    exact .inl ⟨n, r, h1, h2, by rw [← h3, ha n hl]⟩
  · right
    have : n = rs.length := by
      rcases Nat.lt_or_ge n (rs.length + 1) with h0 | h0
      · omega
      · rw [List.getElem?_eq_none (by simp; omega)] at h1; cases h1
    subst this
    rw [← h3, hn]
    exact Nat.le_refl _
theorem denP_eq {ρ : Nm} {tmps : List LV} (parts : Array (Nat × Operand)) : (parts.map fun (i, x) => (i, (act ρ tmps).eval x)) = (denP ρ (parts.toList.map fun p => (p.1, evalL tmps p.2))).toArray := by
  apply Array.ext'
  simp only [Array.toList_map, denP, List.map_map]
  exact List.map_congr_left fun p _ => by simp only [Function.comp, act_eval]

section
variable {P : Program} {T : List Nat} {w0 w : World} {ρ : Nm} {rs : List Reg} {tmps : List LV} {o : Oper}
theorem Stepped.still {x : LV} (hR : Rel T w0 ρ rs w) (h : (execOp (act ρ tmps).eval o).run P w = .ok (.value (x.den ρ)) w) : Stepped P T w0 ρ tmps rs w o x rs ρ w :=
  ⟨Agree.refl _ _, hR, Kept.refl _ _, fun _ h => .inl h, rfl, Nat.le_refl _, Still.refl _ _, fun _ _ _ h => h, fun _ _ h => h, fun _ r hn hw => .inl ⟨r, hn, hw, rfl⟩, .inl h⟩
theorem OutR.app {ρ ρ' : Nm} {rs : List Reg} {c : Reg} {w : World} (ha : Agree rs.length ρ ρ') (hn : ρ' rs.length = (w.heap.size, 0)) (g i : Nat) (hg : g < w.heap.size) (h : OutR ρ rs g i) : OutR ρ' (rs ++ [c]) g i := by
  intro n r hr hw he
  rcases Nat.lt_or_ge n rs.length with hl | hl
  · rw [List.getElem?_append_left hl] at hr
    rw [ha n hl] at he ⊢
    exact h n r hr hw he
  · have : n = rs.length := by
      rcases Nat.lt_or_ge n (rs.length + 1) with h0 | h0
      · omega
      · rw [List.getElem?_eq_none (by simp; omega)] at hr; cases hr
    subst this
    rw [hn] at he
    simp only at he
    omega
theorem OutR.pre {ρ ρ' : Nm} {rs : List Reg} {c : Reg} (ha : Agree rs.length ρ ρ') (g i : Nat) (h : OutR ρ' (rs ++ [c]) g i) : OutR ρ rs g i := by
  intro n r hr hw he
  have hl := (List.getElem?_eq_some_iff.1 hr).1
  have := h n r (by rw [List.getElem?_append_left hl]; exact hr) hw (by rw [ha n hl]; exact he)
  rw [ha n hl] at this
  exact this
theorem shape_app {ρ' : Nm} {rs : List Reg} {c : Reg} {w : World} (hn : ρ' rs.length = (w.heap.size, 0)) (n : Nat) (r' : Reg) (h : (rs ++ [c])[n]? = some r') (hw : r'.wr = true) : (∃ r, rs[n]? = some r ∧ r.wr = true ∧ r.cells.length = r'.cells.length) ∨ w.heap.size ≤ (ρ' n).1 := by
  rcases Nat.lt_or_ge n rs.length with hl | hl
  · rw [List.getElem?_append_left hl] at h
    exact .inl ⟨r', h, hw, rfl⟩
  · right
    have : n = rs.length := by
      rcases Nat.lt_or_ge n (rs.length + 1) with h0 | h0
      · omega
      · rw [List.getElem?_eq_none (by simp; omega)] at h; cases h
    subst this
    rw [hn]
    exact Nat.le_refl _
theorem Stepped.made (hR : Rel T w0 ρ rs w) (ht : undL rs.length tmps = true) (hr : undR rs.length rs = true) {cs : List LV} (hc : undL rs.length cs = true) {e : TypeId} {x : LV}
    (h : ∀ ρ', ρ' rs.length = (w.heap.size, 0) → (execOp (act ρ tmps).eval o).run P w = .ok (.value (x.den ρ')) (w.alloc (.cells (denL ρ cs).toArray e))) :
    ∃ ρ' w', Stepped P T w0 ρ tmps rs w o x (rs ++ [⟨cs, true⟩]) ρ' w' := by
  obtain ⟨ρ', ha, hn, hR'⟩ := hR.alloc hr cs e hc true
  exact ⟨ρ', _, ha, hR', Kept.alloc _ _ _, wrS_app ha hn, act_ext ha ht, by simp, Still.of_blocks (fun k hk => Below.heap_alloc w _ k hk), OutR.app ha hn, OutR.pre ha, shape_app hn, .inl (h ρ' hn)⟩
theorem denV_und (k : Nat) (l : List Value) : undL k (l.map .v) = true := by
  induction l with
  | nil => rfl
  | cons x xs ih => simp only [List.map_cons, undL, LV.und, ih, Bool.and_self]
theorem stepOp_run {x : LV} {rs' : List Reg} (h : stepOp P o tmps rs = some (x, rs')) (hR : Rel T w0 ρ rs w) : ∃ ρ' w', Stepped P T w0 ρ tmps rs w o x rs' ρ' w' := by
  unfold stepOp at h
  split at h
  · rename_i y hy
    simp only [Option.some.injEq, Prod.mk.injEq] at h
    obtain ⟨rfl, rfl⟩ := h
    exact ⟨ρ, w, .still hR (opPure_run hy (act_eval ρ tmps) w)⟩
  · unfold opMem at h
    split at h
    · rename_i t a ho
      split at h
      · rename_i n off ha
        split at h
        · rename_i r hr
          cases hl : loadL P t (r.cells.drop off) with
          | none => rw [hl] at h; cases h
          | some y =>
            rw [hl] at h
            simp only [Option.map_some, Option.some.injEq, Prod.mk.injEq] at h
            obtain ⟨rfl, rfl⟩ := h
            have := loadL_run hl (ρ := ρ) (n := n) (o := off) (w := w) (fun j v hv => by
              rw [List.getElem?_drop] at hv
              exact hR.cell n r hr _ v hv)
            refine ⟨ρ, w, .still hR ?_⟩
            unfold execOp
            simp only [ho, act_eval, ha, LV.den, Sem.run_bind, this, Result.andThen_ok, Sem.run_pure]
        · cases h
      · cases h
    · rename_i t a y ho
      split at h
      · rename_i n off ha
        split at h
        · rename_i r i hr hi
          split at h
          · rename_i hc
            simp only [Bool.and_eq_true] at hc
            obtain ⟨hw, hsz, hone, hle⟩ := hc
            simp only [Option.some.injEq, Prod.mk.injEq] at h
            obtain ⟨rfl, rfl⟩ := h
            obtain ⟨w', hrun, hrel, hkept, hstill⟩ := Rel.stores (P := P) (evalL tmps y).cells 0 hR (o := off) hr hw hone (by have := Nat.le_of_ble_eq_true hle; omega)
            rw [Nat.add_zero] at hrel
            refine ⟨ρ, w', Agree.refl _ _, hrel, hkept.mono (fun x hx => .inl ⟨n, r, hr, hw, hx.symm⟩), fun g hg => ?_, rfl, by simp, hstill.mono (fun g i _ hi he => hi n r hr hw he.symm), fun g i _ hi m q hm hq he => ?_, fun g i hi m q hm hq he => ?_, fun m q hm hq => .inl ?_, .inr ⟨?_, rfl⟩⟩
            · obtain ⟨m, q, h1, h2, h3⟩ := hg
              left
              rw [List.getElem?_set] at h1
              split at h1
              · rename_i e
                subst e
                exact ⟨_, r, hr, hw, h3⟩
              · exact ⟨m, q, h1, h2, h3⟩
            · rw [List.getElem?_set] at hm
              split at hm
              · rename_i e
                subst e
                split at hm
                · injection hm with hm
                  rw [← hm, setAll_length]
                  exact hi _ r hr hw he
                · cases hm
              · exact hi m q hm hq he
            · by_cases e : n = m
              · subst e
                rw [hr] at hm
                injection hm with hm
                subst hm
                have h2 := hi n ⟨setAll r.cells off (evalL tmps y).cells, r.wr⟩ (by rw [List.getElem?_set, if_pos rfl, if_pos (List.getElem?_eq_some_iff.1 hr).1]) hw he
                simp only [setAll_length] at h2
                exact h2
              · exact hi m q (by rw [List.getElem?_set, if_neg e]; exact hm) hq he
            · rw [List.getElem?_set] at hm
              split at hm
              · rename_i e
                subst e
                split at hm
                · injection hm with hm
                  exact ⟨r, hr, hw, by rw [← hm, setAll_length]⟩
                · cases hm
              · exact ⟨q, hm, hq, rfl⟩
            · have hs : (LV.den ρ (evalL tmps y)).cells.size = i.size := by rw [cells_size]; exact Nat.eq_of_beq_eq_true hsz
              unfold execOp
              simp only [ho, act_eval, ha, LV.den, Instr.storeAt, Instr.sureAddr, storeVar, Sem.run_bind, Sem.run_pure, Result.andThen_ok, sizeOf, typeInfo, run_program, hi, hs, LV.den_cells, ne_eq, not_true_eq_false, if_false, hrun]
          · cases h
        · cases h
      · cases h
    · rename_i e ho
      split at h
      · rename_i i hi
        split at h
        · rename_i z hz
          split at h
          · rename_i hc
            simp only [Bool.and_eq_true] at hc
            simp only [Option.some.injEq, Prod.mk.injEq] at h
            obtain ⟨rfl, rfl⟩ := h
            refine Stepped.made (e := e) hR hc.1 hc.2 (denV_und _ _) (fun ρ' hn => ?_)
            unfold execOp
            simp [ho, Instr.alloc, zeroValue, typeInfo, hi, hz, newVar, newRow, LV.den, Nm.at_, hn, denL_v]
          · cases h
        · cases h
      · cases h
    · rename_i e y ho
      split at h
      · rename_i hc
        simp only [Bool.and_eq_true] at hc
        simp only [Option.some.injEq, Prod.mk.injEq] at h
        obtain ⟨rfl, rfl⟩ := h
        refine Stepped.made (e := e) hR hc.1 hc.2.1 hc.2.2 (fun ρ' hn => ?_)
        unfold execOp
        simp [ho, Instr.box, newVar, newRow, LV.den, Nm.at_, hn, act_eval, ← LV.den_cells]
      · cases h
    · rename_i t parts ho
      cases hb : buildL P t (parts.toList.map fun p => (p.1, evalL tmps p.2)) with
      | none => rw [hb] at h; cases h
      | some cs =>
        rw [hb] at h
        simp only [Option.map_some, Option.some.injEq, Prod.mk.injEq] at h
        obtain ⟨rfl, rfl⟩ := h
        refine ⟨ρ, w, .still hR ?_⟩
        have := run_build (P := P) w t (denP ρ (parts.toList.map fun p => (p.1, evalL tmps p.2))).toArray _ (buildL_built hb ρ)
        unfold execOp
        simp only [ho, denP_eq, Sem.run_bind, this, Result.andThen_ok, Sem.run_pure, LV.den]
    · rename_i t len parts ho
      split at h
      · rename_i cs hcs
        split at h
        · rename_i hc
          simp only [Bool.and_eq_true] at hc
          simp only [Option.some.injEq, Prod.mk.injEq] at h
          obtain ⟨rfl, rfl⟩ := h
          refine Stepped.made (e := rowElem P t) hR hc.1 hc.2.1 hc.2.2 (fun ρ' hn => ?_)
          have := rowL_run hcs ρ w
          unfold execOp
          simp only [ho, denP_eq, Sem.run_bind, this, Result.andThen_ok, Sem.run_pure, LV.den, Nm.at_, hn, Nat.add_zero]
        · cases h
      · cases h
    · cases h
end
end Go.Proofs.Ytodjhkmbgennaaa
