/-
  Maps: the executor's rules for the operations on a map. Over any program.
-/
import Derived.Test.YtgbgedaedcofcaaMapA
import Derived.Test.YtgbgedaedcofcaaRowO
namespace Go.Proofs.Ytgbgedaedcofcaa
section
open Go Go.RowKit
open Go.ChangeMaps (setBlock)

/-- only the iterator has turned -/
structure TurnI (it : Nat) (w w' : World) : Prop where
  kept : Kept (fun k => k = it) w w'
  was : ∃ m s seen c, w.heap[it]? = some (.mapIter m s seen c)
/-- only the map has turned -/
structure TurnM (g : Nat) (w w' : World) : Prop where
  kept : Kept (fun k => k = g) w w'
  was : ∃ es clock, w.heap[g]? = some (.map es clock)
theorem Kept.grownBy {g : Nat} {w w' : World} (h : Kept (fun k => k = g) w w') : w.grownBy w' (some g) := ⟨h.os, h.tape, h.output, h.size, fun i hi hne => h.block i hi (fun e => hne (by rw [e]))⟩
theorem own_is_cells {w : World} {b : Nat} {e : TypeId} {s : Nat} {v : Value} {n : Nat} {xs : List Value} (h : w.ownsRow b e s v n xs) {g : Nat} (hg : v.ownBlock = some g) : ∃ a m, w.heap[g]? = some (.cells a e m) := by
  rcases h.2 with ⟨rfl, _⟩ | ⟨g', cap, cur, rfl, _, hb, _⟩
  · cases hg
  · injection hg with hg
    subst hg
    exact ⟨_, _, hb⟩
theorem Own.turnM {ρ : Nm} {rs : List Reg} {w w' : World} {b : Nat} {e : TypeId} {s : Nat} {v : Value} {n : Nat} {xs : List Value} (h : Own ρ rs w b e s v n xs) {g : Nat} (ht : TurnM g w w') : Own ρ rs w' b e s v n xs :=
  h.grown ht.kept.grownBy fun g' hg' hne => by
    injection hne with hne
    subst hne
    obtain ⟨a, m, h1⟩ := own_is_cells h.own hg'
    obtain ⟨es, c, h2⟩ := ht.was
    rw [h1] at h2
    cases h2
theorem Own.turnI {ρ : Nm} {rs : List Reg} {w w' : World} {b : Nat} {e : TypeId} {s : Nat} {v : Value} {n : Nat} {xs : List Value} (h : Own ρ rs w b e s v n xs) {it : Nat} (ht : TurnI it w w') : Own ρ rs w' b e s v n xs :=
  h.grown ht.kept.grownBy fun g' hg' hne => by
    injection hne with hne
    subst hne
    obtain ⟨a, m, h1⟩ := own_is_cells h.own hg'
    obtain ⟨_, _, _, _, h2⟩ := ht.was
    rw [h1] at h2
    cases h2
theorem RowV.turnM {ρ : Nm} {rs : List Reg} {w w' : World} {g : Nat} {t : TypeId} {cur : List Value} (h : RowV ρ rs w g t cur) {m : Nat} (ht : TurnM m w w') : RowV ρ rs w' g t cur :=
  h.grown ht.kept.grownBy fun e => by
    injection e with e
    subst e
    obtain ⟨arr, h1, _⟩ := h.is
    obtain ⟨_, _, h2⟩ := ht.was
    rw [h1] at h2
    cases h2
theorem RowV.turnI {ρ : Nm} {rs : List Reg} {w w' : World} {g : Nat} {t : TypeId} {cur : List Value} (h : RowV ρ rs w g t cur) {m : Nat} (ht : TurnI m w w') : RowV ρ rs w' g t cur :=
  h.grown ht.kept.grownBy fun e => by
    injection e with e
    subst e
    obtain ⟨arr, h1, _⟩ := h.is
    obtain ⟨_, _, _, _, h2⟩ := ht.was
    rw [h1] at h2
    cases h2
theorem Ag.castR {N : Nat} {ρb ρ : Nm} {rs rs' : List Reg} (h : Ag N ρb ρ rs) (e : rs = rs') : Ag N ρb ρ rs' := e ▸ h
theorem RowV.castR {ρ : Nm} {rs rs' : List Reg} {w : World} {g : Nat} {t : TypeId} {cur : List Value} (h : RowV ρ rs w g t cur) (e : rs = rs') : RowV ρ rs' w g t cur := e ▸ h
theorem OldR.castR {k B : Nat} {ρ : Nm} {rs rs' : List Reg} {w : World} (h : OldR k B ρ rs w) (e : rs = rs') : OldR k B ρ rs' w := e ▸ h
theorem OldR.turnM {k B : Nat} {ρ : Nm} {rs : List Reg} {w w' : World} {g : Nat} (h : OldR k B ρ rs w) (ht : TurnM g w w') : OldR k B ρ rs w' := h.kept ht.kept
theorem OldR.turnI {k B : Nat} {ρ : Nm} {rs : List Reg} {w w' : World} {g : Nat} (h : OldR k B ρ rs w) (ht : TurnI g w w') : OldR k B ρ rs w' := h.kept ht.kept
theorem Rel.offMap {T : List Nat} {w0 w : World} {ρ : Nm} {rs : List Reg} (hR : Rel T w0 ρ rs w) {g : Nat} {o : Obj} (hg : w.heap[g]? = some o) (hno : ∀ a e m, o ≠ .cells a e m) : ∀ n r, rs[n]? = some r → r.cells ≠ [] → (ρ n).1 ≠ g := by
  intro n r hn hne e
  obtain ⟨v, vs, hv⟩ : ∃ v vs, r.cells = v :: vs := by
    cases hc : r.cells with
    | nil => exact absurd hc hne
    | cons v vs => exact ⟨v, vs, rfl⟩
  have h := hR.cell n r hn 0 v (by rw [hv]; rfl)
  unfold World.cell? Nm.at_ at h
  simp only [e, hg] at h
  cases o <;> simp_all

section
variable {P : Program} {kt : TypeId} {K V : Type} [DecidableEq K] {enc : K → Value} {encV : V → Value}
/-- a map (or none), apart from the places that are written -/
structure MpO (enc : K → Value) (encV : V → Value) (ρ : Nm) (rs : List Reg) (w : World) (m : Option Nat) (l : List (Ent K V)) (clock : Nat) : Prop where
  is : ∀ g, m = some g → Mp enc encV w g l clock ∧ ¬ wrS ρ rs g
  nil : m = none → l = [] ∧ clock = 0
omit [DecidableEq K] in
theorem MpO.fine {ρ : Nm} {rs : List Reg} {w : World} {m : Option Nat} {l : List (Ent K V)} {clock : Nat} (h : MpO enc encV ρ rs w m l clock) : Fine l clock := by
  cases m with
  | none => obtain ⟨rfl, rfl⟩ := h.nil rfl; exact fine_nil
  | some g => exact (h.is g rfl).1.fine
omit [DecidableEq K] in
theorem Mp.same {w w' : World} {g : Nat} {l : List (Ent K V)} {clock : Nat} (h : Mp enc encV w g l clock) (he : w'.heap[g]? = w.heap[g]?) : Mp enc encV w' g l clock := ⟨he.trans h.blk, h.fine⟩
omit [DecidableEq K] in
theorem MpO.none_ {ρ : Nm} {rs : List Reg} {w : World} : MpO enc encV ρ rs w none [] 0 := ⟨fun _ h => (by cases h), fun _ => ⟨rfl, rfl⟩⟩
omit [DecidableEq K] in
theorem MpO.moved {ρ ρ' : Nm} {rs rs' : List Reg} {w w' : World} {m : Option Nat} {l : List (Ent K V)} {clock : Nat} (h : MpO enc encV ρ rs w m l clock) (hm : Moved ρ rs w ρ' rs' w') : MpO enc encV ρ' rs' w' m l clock :=
  ⟨fun g hg => (by
    obtain ⟨h1, h2⟩ := h.is g hg
    refine ⟨h1.same (hm.kept.block g h1.size h2), fun hw => ?_⟩
    rcases hm.wrs g hw with h3 | h3
    · exact h2 h3
    · have := h1.size
      omega), h.nil⟩
theorem wrS_cut {ρ ρ' : Nm} {rs rs' : List Reg} {N g : Nat} (hag : Ag N ρ ρ' rs') (hN : rs.length = N) (e0 : rs'.take N = rs) (h : wrS ρ rs g) : wrS ρ' rs' g := by
  obtain ⟨n, r, hn, hr, he⟩ := h
  have hlt : n < N := by rw [← hN]; exact (List.getElem?_eq_some_iff.1 hn).1
  refine ⟨n, r, ?_, hr, by rw [hag.at_ n hlt]; exact he⟩
  rw [← e0, List.getElem?_take, if_pos hlt] at hn
  exact hn
omit [DecidableEq K] in
theorem MpO.cut {ρ ρ' : Nm} {rs rs' : List Reg} {w : World} {N : Nat} {m : Option Nat} {l : List (Ent K V)} {clock : Nat} (h : MpO enc encV ρ' rs' w m l clock) (hag : Ag N ρ ρ' rs') (hN : rs.length = N) (e0 : rs'.take N = rs) : MpO enc encV ρ rs w m l clock :=
  ⟨fun g hg => ⟨(h.is g hg).1, fun hw => (h.is g hg).2 (wrS_cut hag hN e0 hw)⟩, h.nil⟩
omit [DecidableEq K] in
theorem MpO.castR {ρ : Nm} {rs rs' : List Reg} {w : World} {m : Option Nat} {l : List (Ent K V)} {clock : Nat} (h : MpO enc encV ρ rs w m l clock) (e : rs = rs') : MpO enc encV ρ rs' w m l clock := e ▸ h
omit [DecidableEq K] in
theorem MpO.below {ρ : Nm} {rs : List Reg} {w w' : World} {m : Option Nat} {l : List (Ent K V)} {clock : Nat} (h : MpO enc encV ρ rs w m l clock) (hb : Below w.heap.size w w') : MpO enc encV ρ rs w' m l clock :=
  ⟨fun g hg => (by
    obtain ⟨h1, h2⟩ := h.is g hg
    exact ⟨h1.same (hb.block g h1.size), h2⟩), h.nil⟩
omit [DecidableEq K] in
theorem MpO.drew {ρ : Nm} {rs : List Reg} {w : World} {m : Option Nat} {l : List (Ent K V)} {clock : Nat} (h : MpO enc encV ρ rs w m l clock) : MpO enc encV ρ rs w.drew m l clock := ⟨fun g hg => ⟨(h.is g hg).1.same rfl, (h.is g hg).2⟩, h.nil⟩
omit [DecidableEq K] in
theorem MpO.grown {ρ : Nm} {rs : List Reg} {w w' : World} {m : Option Nat} {l : List (Ent K V)} {clock : Nat} (h : MpO enc encV ρ rs w m l clock) {row : Option Nat} (hg : w.grownBy w' row) (hne : ∀ g, m = some g → some g ≠ row) : MpO enc encV ρ rs w' m l clock :=
  ⟨fun g hm => ⟨(h.is g hm).1.same (hg.block g (h.is g hm).1.size (hne g hm)), (h.is g hm).2⟩, h.nil⟩
omit [DecidableEq K] in
theorem MpO.turnI {ρ : Nm} {rs : List Reg} {w w' : World} {m : Option Nat} {l : List (Ent K V)} {clock : Nat} (h : MpO enc encV ρ rs w m l clock) {it : Nat} (ht : TurnI it w w') : MpO enc encV ρ rs w' m l clock :=
  ⟨fun g hm => (by
    obtain ⟨h1, h2⟩ := h.is g hm
    refine ⟨h1.same (ht.kept.block g h1.size (fun e => ?_)), h2⟩
    subst e
    obtain ⟨_, _, _, _, h3⟩ := ht.was
    rw [h1.blk] at h3
    cases h3), h.nil⟩
omit [DecidableEq K] in
theorem MpO.turnNe {ρ : Nm} {rs : List Reg} {w w' : World} {m : Option Nat} {l : List (Ent K V)} {clock : Nat} (h : MpO enc encV ρ rs w m l clock) {g : Nat} (ht : TurnM g w w') (hne : m ≠ some g) : MpO enc encV ρ rs w' m l clock :=
  ⟨fun g' hm => ⟨(h.is g' hm).1.same (ht.kept.block g' (h.is g' hm).1.size (fun e => hne (by rw [hm, e]))), (h.is g' hm).2⟩, h.nil⟩
omit [DecidableEq K] in
theorem MpO.keptS {ρ : Nm} {rs : List Reg} {w w' : World} {m : Option Nat} {l : List (Ent K V)} {clock : Nat} (h : MpO enc encV ρ rs w m l clock) {S : Nat → Prop} (hk : Kept S w w') (hS : ∀ g, m = some g → ¬ S g) : MpO enc encV ρ rs w' m l clock :=
  ⟨fun g hm => ⟨(h.is g hm).1.same (hk.block g (h.is g hm).1.size (hS g hm)), (h.is g hm).2⟩, h.nil⟩

/-- an iterator over a map; dn: what came so far -/
structure ItO (ρ : Nm) (rs : List Reg) (w : World) (it : Nat) (m : Option Nat) (l : List (Ent K V)) (clock : Nat) (dn : List (Ent K V)) : Prop where
  is : ∃ seen : Array Nat, w.heap[it]? = some (.mapIter m clock seen clock) ∧ seen.toList = dn.map (·.born)
  far : ¬ wrS ρ rs it
  sub : ∀ e ∈ dn, e ∈ l
  nodup : (dn.map (·.born)).Nodup
omit [DecidableEq K] in
theorem ItO.size {ρ : Nm} {rs : List Reg} {w : World} {it : Nat} {m : Option Nat} {l dn : List (Ent K V)} {clock : Nat} (h : ItO ρ rs w it m l clock dn) : it < w.heap.size := by
  obtain ⟨_, h1, _⟩ := h.is
  rcases Nat.lt_or_ge it w.heap.size with h2 | h2
  · exact h2
  · rw [Array.getElem?_eq_none h2] at h1; cases h1
omit [DecidableEq K] in
theorem ItO.same {ρ : Nm} {rs : List Reg} {w w' : World} {it : Nat} {m : Option Nat} {l dn : List (Ent K V)} {clock : Nat} (h : ItO ρ rs w it m l clock dn) (he : w'.heap[it]? = w.heap[it]?) : ItO ρ rs w' it m l clock dn := ⟨by obtain ⟨s, h1, h2⟩ := h.is; exact ⟨s, he.trans h1, h2⟩, h.far, h.sub, h.nodup⟩
omit [DecidableEq K] in
theorem ItO.moved {ρ ρ' : Nm} {rs rs' : List Reg} {w w' : World} {it : Nat} {m : Option Nat} {l dn : List (Ent K V)} {clock : Nat} (h : ItO ρ rs w it m l clock dn) (hm : Moved ρ rs w ρ' rs' w') : ItO ρ' rs' w' it m l clock dn := by
  obtain ⟨s, h1, h2⟩ := h.is
  refine ⟨⟨s, (hm.kept.block it h.size h.far).trans h1, h2⟩, fun hw => ?_, h.sub, h.nodup⟩
  rcases hm.wrs it hw with h3 | h3
  · exact h.far h3
  · have := h.size
    omega
omit [DecidableEq K] in
theorem ItO.cut {ρ ρ' : Nm} {rs rs' : List Reg} {w : World} {N it : Nat} {m : Option Nat} {l dn : List (Ent K V)} {clock : Nat} (h : ItO ρ' rs' w it m l clock dn) (hag : Ag N ρ ρ' rs') (hN : rs.length = N) (e0 : rs'.take N = rs) : ItO ρ rs w it m l clock dn :=
  ⟨h.is, fun hw => h.far (wrS_cut hag hN e0 hw), h.sub, h.nodup⟩
omit [DecidableEq K] in
theorem ItO.castR {ρ : Nm} {rs rs' : List Reg} {w : World} {it : Nat} {m : Option Nat} {l dn : List (Ent K V)} {clock : Nat} (h : ItO ρ rs w it m l clock dn) (e : rs = rs') : ItO ρ rs' w it m l clock dn := e ▸ h
omit [DecidableEq K] in
theorem ItO.below {ρ : Nm} {rs : List Reg} {w w' : World} {it : Nat} {m : Option Nat} {l dn : List (Ent K V)} {clock : Nat} (h : ItO ρ rs w it m l clock dn) (hb : Below w.heap.size w w') : ItO ρ rs w' it m l clock dn := h.same (hb.block it h.size)
omit [DecidableEq K] in
theorem ItO.drew {ρ : Nm} {rs : List Reg} {w : World} {it : Nat} {m : Option Nat} {l dn : List (Ent K V)} {clock : Nat} (h : ItO ρ rs w it m l clock dn) : ItO ρ rs w.drew it m l clock dn := h.same rfl
omit [DecidableEq K] in
theorem ItO.turnM {ρ : Nm} {rs : List Reg} {w w' : World} {it : Nat} {m : Option Nat} {l dn : List (Ent K V)} {clock : Nat} (h : ItO ρ rs w it m l clock dn) {g : Nat} (ht : TurnM g w w') : ItO ρ rs w' it m l clock dn := by
  refine h.same (ht.kept.block it h.size (fun e => ?_))
  subst e
  obtain ⟨s, h1, h2⟩ := h.is
  obtain ⟨_, _, h3⟩ := ht.was
  rw [h1] at h3
  cases h3
omit [DecidableEq K] in
theorem ItO.grown {ρ : Nm} {rs : List Reg} {w w' : World} {it : Nat} {m : Option Nat} {l dn : List (Ent K V)} {clock : Nat} (h : ItO ρ rs w it m l clock dn) {row : Option Nat} (hg : w.grownBy w' row) (hne : some it ≠ row) : ItO ρ rs w' it m l clock dn := h.same (hg.block it h.size hne)
/-- a row of one's own is no map and no iterator -/
theorem own_not_map {w : World} {b : Nat} {e : TypeId} {s : Nat} {v : Value} {n : Nat} {xs : List Value} (h : w.ownsRow b e s v n xs) {g : Nat} {es : Array MapEntry} {c : Nat} (hg : w.heap[g]? = some (.map es c)) : some g ≠ v.ownBlock := fun e => by
  obtain ⟨_, _, h1⟩ := own_is_cells h e.symm
  rw [hg] at h1
  cases h1
theorem own_not_iter {w : World} {b : Nat} {e : TypeId} {s : Nat} {v : Value} {n : Nat} {xs : List Value} (h : w.ownsRow b e s v n xs) {g : Nat} {m : Option Nat} {a c : Nat} {q : Array Nat} (hg : w.heap[g]? = some (.mapIter m a q c)) : some g ≠ v.ownBlock := fun e => by
  obtain ⟨_, _, h1⟩ := own_is_cells h e.symm
  rw [hg] at h1
  cases h1
omit [DecidableEq K] in
theorem MpO.grownO {ρ : Nm} {rs : List Reg} {w w' : World} {m : Option Nat} {l : List (Ent K V)} {clock : Nat} (h : MpO enc encV ρ rs w m l clock) {b : Nat} {e : TypeId} {s : Nat} {v : Value} {n : Nat} {xs : List Value} (ho : w.ownsRow b e s v n xs) (hg : w.grownBy w' v.ownBlock) : MpO enc encV ρ rs w' m l clock :=
  h.grown hg fun g hm => own_not_map ho (h.is g hm).1.blk
omit [DecidableEq K] in
theorem ItO.grownO {ρ : Nm} {rs : List Reg} {w w' : World} {it : Nat} {m : Option Nat} {l dn : List (Ent K V)} {clock : Nat} (h : ItO ρ rs w it m l clock dn) {b : Nat} {e : TypeId} {s : Nat} {v : Value} {n : Nat} {xs : List Value} (ho : w.ownsRow b e s v n xs) (hg : w.grownBy w' v.ownBlock) : ItO ρ rs w' it m l clock dn := by
  obtain ⟨q, h1, _⟩ := h.is
  exact h.grown hg (own_not_iter ho h1)
end
/-! ### The rules -/
def lookOp (tmps : List LV) (o : Oper) : Option (TypeId × LV × LV × Bool) := match o.op with
  | .lookup t m k ok => some (t, evalL tmps m, evalL tmps k, ok)
  | _ => none
def updOp (tmps : List LV) (o : Oper) : Option (TypeId × LV × LV × LV) := match o.op with
  | .mapUpdate t m k x => some (t, evalL tmps m, evalL tmps k, evalL tmps x)
  | .insert t m k x => some (t, evalL tmps m, evalL tmps k, evalL tmps x)
  | _ => none
def delOp (tmps : List LV) (o : Oper) : Option (TypeId × TypeId × LV × LV) := match o.op with
  | .call { callee := .builtin .delete, args, argTypes } => match args.toList, argTypes.toList with
    | [m, k], [t, kt] => some (t, kt, evalL tmps m, evalL tmps k)
    | _, _ => none
  | _ => none
def lookOf (c : Cfg) := (topOp c).bind (lookOp c.tmps)
def updOf (c : Cfg) := (topOp c).bind (updOp c.tmps)
def delOf (c : Cfg) := (topOp c).bind (delOp c.tmps)
def lookOfO (c : OCfg) := (topO c).bind (lookOp c.tmps)
def updOfO (c : OCfg) := (topO c).bind (updOp c.tmps)
def delOfO (c : OCfg) := (topO c).bind (delOp c.tmps)
def makeOf (c : Cfg) : Option TypeId := match topOp c with
  | some o => match o.op with
    | .makeMap t none => some t
    | _ => none
  | none => none
def makeOfO (c : OCfg) : Option TypeId := match topO c with
  | some o => match o.op with
    | .makeMap t none => some t
    | _ => none
  | none => none
def rangeOf (c : Cfg) : Option (TypeId × LV) := match topOp c with
  | some o => match o.op with
    | .range t x => some (t, evalL c.tmps x)
    | _ => none
  | none => none
def nextOf (c : Cfg) : Option LV := match topOp c with
  | some o => match o.op with
    | .next x false => some (evalL c.tmps x)
    | _ => none
  | none => none
def entryOf (c : Cfg) : Option LV := match topOp c with
  | some o => match o.op with
    | .entry x => some (evalL c.tmps x)
    | _ => none
  | none => none

section
variable {P : Program} {Q : Exit → Act → World → Prop} {T : List Nat} {w0 w : World} {ρ : Nm} {c : Cfg}
variable {kt : TypeId} {K V : Type} [DecidableEq K] {enc : K → Value} {encV : V → Value}
theorem sim_turn (o : Oper) (ho : topOp c = some o) (x : LV) (w' : World) (hrun : (execOp (act ρ c.tmps).eval o).run P w = .ok (.value (x.den ρ)) w' ∨ ((execOp (act ρ c.tmps).eval o).run P w = .ok .skip w' ∧ x.den ρ = undef)) (hA : At P Q (nextC c x c.rs) ρ w') : At P Q c ρ w := by
  refine top_step ho ?_
  unfold Oper.wp
  rcases hrun with h | ⟨h, hu⟩
  · rw [h]
    exact nextAt_of ho rfl hA
  · rw [h]
    simp only [Oper.upon]
    rw [← hu]
    exact nextAt_of ho rfl hA
theorem sim_ord_turn {c : OCfg} {ρs : Nm} (o : Oper) (ho : topO c = some o) (x : LV) (w' : World) (hR : RelO T w0 c ρs ρ w) (hR' : Rel T w0 ρ c.rs w') (hrun : (execOp (act ρ c.tmps).eval o).run P w = .ok (.value (x.den ρ)) w' ∨ ((execOp (act ρ c.tmps).eval o).run P w = .ok .skip w' ∧ x.den ρ = undef))
    (next : RelO T w0 (nextO c x c.rs) ρs ρ w' → AtO P Q (nextO c x c.rs) ρs ρ w') : AtO P Q c ρs ρ w := by
  have hRO : RelO T w0 (nextO c x c.rs) ρs ρ w' := ⟨hR', hR.agree, hR.und, hR.len, fun h => hR.pre (nextOD_of h)⟩
  refine topO_step (T := T) (w0 := w0) ho ?_
  unfold Oper.wp
  rcases hrun with h | ⟨h, hu⟩
  · rw [h]
    exact ⟨x, c.rs, ρ, act_put ρ c.tmps o.dst x, hRO, next hRO⟩
  · rw [h]
    simp only [Oper.upon]
    rw [← hu]
    exact ⟨x, c.rs, ρ, act_put ρ c.tmps o.dst x, hRO, next hRO⟩
theorem lookOp_run {tmps : List LV} {o : Oper} {t : TypeId} {m k : LV} {ok : Bool} (h : lookOp tmps o = some (t, m, k, ok)) {v : Value} (hr : (Instr.lookup t (m.den ρ) (k.den ρ) ok).run P w = .ok v w) : (execOp (act ρ tmps).eval o).run P w = .ok (.value v) w := by
  unfold lookOp at h
  split at h
  · rename_i hop
    simp only [Option.some.injEq, Prod.mk.injEq] at h
    obtain ⟨rfl, rfl, rfl, rfl⟩ := h
    unfold execOp
    simp [hop, act_eval, hr]
  · cases h
theorem updOp_run {tmps : List LV} {o : Oper} {t : TypeId} {m k x : LV} (h : updOp tmps o = some (t, m, k, x)) {w' : World} (hr : (Instr.mapUpdate t (m.den ρ) (k.den ρ) (x.den ρ)).run P w = .ok () w') : (execOp (act ρ tmps).eval o).run P w = .ok .skip w' := by
  unfold updOp at h
  split at h
  · rename_i hop
    simp only [Option.some.injEq, Prod.mk.injEq] at h
    obtain ⟨rfl, rfl, rfl, rfl⟩ := h
    unfold execOp
    simp [hop, act_eval, hr]
  · rename_i hop
    simp only [Option.some.injEq, Prod.mk.injEq] at h
    obtain ⟨rfl, rfl, rfl, rfl⟩ := h
    unfold execOp
    simp [hop, act_eval, hr]
  · cases h
theorem delOp_run {tmps : List LV} {o : Oper} {t kt : TypeId} {m k : LV} (h : delOp tmps o = some (t, kt, m, k)) {v : Value} {w' : World} (hr : ∀ ty, (Builtin.delete_ #[t, kt] ty #[m.den ρ, k.den ρ]).run P w = .ok v w') : (execOp (act ρ tmps).eval o).run P w = .ok (.value v) w' := by
  unfold delOp at h
  split at h
  · rename_i args ats hop
    split at h
    · rename_i m' k' t' kt' ha hat
      simp only [Option.some.injEq, Prod.mk.injEq] at h
      obtain ⟨rfl, rfl, rfl, rfl⟩ := h
      have e1 : args = #[m', k'] := Array.ext' ha
      have e2 : ats = #[t', kt'] := Array.ext' hat
      subst e1
      subst e2
      have := hr o.type
      unfold execOp
      simp [hop, resolve, invoke, builtin, act_eval, this]
    · cases h
  · cases h
theorem nodup_inj {α β : Type} {f : α → β} : ∀ {l : List α}, (l.map f).Nodup → ∀ {a b : α}, a ∈ l → b ∈ l → f a = f b → a = b
  | [], _, _, _, h, _, _ => by cases h
  | x :: xs, hn, a, b, ha, hb, he => by
    simp only [List.map_cons, List.nodup_cons] at hn
    rcases List.mem_cons.1 ha with h1 | h1 <;> rcases List.mem_cons.1 hb with h2 | h2
    · rw [h1, h2]
    · exact absurd (List.mem_map.2 ⟨b, h2, by rw [← he, h1]⟩) hn.1
    · exact absurd (List.mem_map.2 ⟨a, h1, by rw [he, h2]⟩) hn.1
    · exact nodup_inj hn.2 h1 h2 he
theorem bind_of {α β : Type} {x : Option α} {f : α → Option β} {y : β} (h : x.bind f = some y) : ∃ a, x = some a ∧ f a = some y := Option.bind_eq_some_iff.1 h

theorem mpo_look {rs : List Reg} {m : Option Nat} {l : List (Ent K V)} {clock : Nat} (hM : MpO enc encV ρ rs w m l clock) (hK : KT P kt enc) {t et : TypeId} (ht : P.underlying t = some (.map kt et)) {zv : V} (hz : ∀ w, (zeroValue et).run P w = .ok (encV zv) w) (k : K) (ok : Bool) :
    (Instr.lookup t (.map m) (enc k) ok).run P w = .ok (lookV ok (encV ((look k l).getD zv)) (hasK k l)) w := by
  cases m with
  | none =>
    obtain ⟨rfl, _⟩ := hM.nil rfl
    exact run_look_nil hK ht hz k ok
  | some g => exact run_look hK ht hz (hM.is g rfl).1 k ok
/-- looking up -/
theorem sim_look {t et : TypeId} {mx kx : LV} {ok : Bool} (k : K) (y : LV) (h : lookOf c = some (t, mx, kx, ok)) (ht : P.underlying t = some (.map kt et)) (hK : KT P kt enc) {zv : V} (hz : ∀ w, (zeroValue et).run P w = .ok (encV zv) w) {m : Option Nat} {l : List (Ent K V)} {clock : Nat} {rs : List Reg} (hM : MpO enc encV ρ rs w m l clock)
    (hm : mx.den ρ = .map m) (hk : kx.den ρ = enc k) (hy : y.den ρ = lookV ok (encV ((look k l).getD zv)) (hasK k l)) (next : At P Q (nextC c y c.rs) ρ w) : At P Q c ρ w := by
  obtain ⟨o, ho, h2⟩ := bind_of h
  refine sim_turn o ho y w (.inl (lookOp_run h2 ?_)) next
  rw [hm, hk, hy]
  exact mpo_look hM hK ht hz k ok
theorem sim_ord_look {c : OCfg} {ρs : Nm} {t et : TypeId} {mx kx : LV} {ok : Bool} (k : K) (y : LV) (h : lookOfO c = some (t, mx, kx, ok)) (ht : P.underlying t = some (.map kt et)) (hK : KT P kt enc) {zv : V} (hz : ∀ w, (zeroValue et).run P w = .ok (encV zv) w) {m : Option Nat} {l : List (Ent K V)} {clock : Nat} {rs : List Reg} (hM : MpO enc encV ρ rs w m l clock)
    (hm : mx.den ρ = .map m) (hk : kx.den ρ = enc k) (hR : RelO T w0 c ρs ρ w) (hy : y.den ρ = lookV ok (encV ((look k l).getD zv)) (hasK k l)) (next : RelO T w0 (nextO c y c.rs) ρs ρ w → AtO P Q (nextO c y c.rs) ρs ρ w) : AtO P Q c ρs ρ w := by
  obtain ⟨o, ho, h2⟩ := bind_of h
  refine sim_ord_turn o ho y w hR hR.rel (.inl (lookOp_run h2 ?_)) next
  rw [hm, hk, hy]
  exact mpo_look hM hK ht hz k ok
/-- the relation behind a map that has turned -/
theorem Rel.turn {rs : List Reg} (hR : Rel T w0 ρ rs w) {g : Nat} {o o' : Obj} (hg : w.heap[g]? = some o) (hno : ∀ a e m, o ≠ .cells a e m) (hT : g ∈ T ∨ w0.heap.size ≤ g) : Rel T w0 ρ rs (setBlock w g o') :=
  hR.kept (Kept.setBlock w g o') (fun n r hn hne he => hR.offMap hg hno n r hn hne he) (fun x hx => by rw [hx]; exact hT)
omit [DecidableEq K] in
theorem MpO.set {rs : List Reg} {g : Nat} {l : List (Ent K V)} {clock : Nat} (hM : MpO enc encV ρ rs w (some g) l clock) {l' : List (Ent K V)} {clock' : Nat} (hf : Fine l' clock') : MpO enc encV ρ rs (setBlock w g (.map (l'.map (toE enc encV)).toArray clock')) (some g) l' clock' :=
  ⟨fun g' hg' => (by injection hg' with hg'; subst hg'; exact ⟨(hM.is g rfl).1.set hf, (hM.is g rfl).2⟩), fun h => (by cases h)⟩
/-- a value is put into a map -/
theorem sim_upd {t et : TypeId} {mx kx vx : LV} (k : K) (v : V) (h : updOf c = some (t, mx, kx, vx)) (ht : P.underlying t = some (.map kt et)) (hK : KT P kt enc) {g : Nat} {l : List (Ent K V)} {clock : Nat} (hM : MpO enc encV ρ c.rs w (some g) l clock)
    (hm : mx.den ρ = .map (some g)) (hk : kx.den ρ = enc k) (hv : vx.den ρ = encV v) (hT : g ∈ T ∨ w0.heap.size ≤ g) (hR : Rel T w0 ρ c.rs w)
    (next : ∀ w', TurnM g w w' → MpO enc encV ρ c.rs w' (some g) (ins k v clock l) (clockAfter k l clock) → Rel T w0 ρ c.rs w' → At P Q (nextC c (.v undef) c.rs) ρ w') : At P Q c ρ w := by
  obtain ⟨o, ho, h2⟩ := bind_of h
  have h1 := (hM.is g rfl).1
  have hr := run_update hK ht h1 k v
  rw [← hm, ← hk, ← hv] at hr
  exact sim_turn o ho (.v undef) _ (.inr ⟨updOp_run h2 hr, rfl⟩) (next _ ⟨Kept.setBlock _ _ _, _, _, h1.blk⟩ (hM.set (h1.fine.ins k v)) (hR.turn h1.blk (fun _ _ _ e => (by cases e)) hT))
theorem sim_ord_upd {c : OCfg} {ρs : Nm} {t et : TypeId} {mx kx vx : LV} (k : K) (v : V) (h : updOfO c = some (t, mx, kx, vx)) (ht : P.underlying t = some (.map kt et)) (hK : KT P kt enc) {g : Nat} {l : List (Ent K V)} {clock : Nat} (hM : MpO enc encV ρ c.rs w (some g) l clock)
    (hm : mx.den ρ = .map (some g)) (hk : kx.den ρ = enc k) (hv : vx.den ρ = encV v) (hT : g ∈ T ∨ w0.heap.size ≤ g) (hR : RelO T w0 c ρs ρ w)
    (next : ∀ w', TurnM g w w' → MpO enc encV ρ c.rs w' (some g) (ins k v clock l) (clockAfter k l clock) → RelO T w0 (nextO c (.v undef) c.rs) ρs ρ w' → AtO P Q (nextO c (.v undef) c.rs) ρs ρ w') : AtO P Q c ρs ρ w := by
  obtain ⟨o, ho, h2⟩ := bind_of h
  have h1 := (hM.is g rfl).1
  have hr := run_update hK ht h1 k v
  rw [← hm, ← hk, ← hv] at hr
  exact sim_ord_turn o ho (.v undef) _ hR (hR.rel.turn h1.blk (fun _ _ _ e => (by cases e)) hT) (.inr ⟨updOp_run h2 hr, rfl⟩) (next _ ⟨Kept.setBlock _ _ _, _, _, h1.blk⟩ (hM.set (h1.fine.ins k v)))
/-- a key is taken out -/
theorem sim_del {t et kt' : TypeId} {mx kx : LV} (k : K) (h : delOf c = some (t, kt', mx, kx)) (he : kt' = kt) (ht : P.underlying t = some (.map kt et)) (hK : KT P kt enc) {g : Nat} {l : List (Ent K V)} {clock : Nat} (hM : MpO enc encV ρ c.rs w (some g) l clock)
    (hm : mx.den ρ = .map (some g)) (hk : kx.den ρ = enc k) (hT : g ∈ T ∨ w0.heap.size ≤ g) (hR : Rel T w0 ρ c.rs w)
    (next : ∀ w', TurnM g w w' → MpO enc encV ρ c.rs w' (some g) (del k l) clock → Rel T w0 ρ c.rs w' → At P Q (nextC c (.tup []) c.rs) ρ w') : At P Q c ρ w := by
  subst he
  obtain ⟨o, ho, h2⟩ := bind_of h
  have h1 := (hM.is g rfl).1
  have hr := run_delete hK ht h1 k
  rw [← hm, ← hk] at hr
  exact sim_turn o ho (.tup []) _ (.inl (delOp_run h2 hr)) (next _ ⟨Kept.setBlock _ _ _, _, _, h1.blk⟩ (hM.set (h1.fine.del k)) (hR.turn h1.blk (fun _ _ _ e => (by cases e)) hT))
theorem sim_ord_del {c : OCfg} {ρs : Nm} {t et kt' : TypeId} {mx kx : LV} (k : K) (h : delOfO c = some (t, kt', mx, kx)) (he : kt' = kt) (ht : P.underlying t = some (.map kt et)) (hK : KT P kt enc) {g : Nat} {l : List (Ent K V)} {clock : Nat} (hM : MpO enc encV ρ c.rs w (some g) l clock)
    (hm : mx.den ρ = .map (some g)) (hk : kx.den ρ = enc k) (hT : g ∈ T ∨ w0.heap.size ≤ g) (hR : RelO T w0 c ρs ρ w)
    (next : ∀ w', TurnM g w w' → MpO enc encV ρ c.rs w' (some g) (del k l) clock → RelO T w0 (nextO c (.tup []) c.rs) ρs ρ w' → AtO P Q (nextO c (.tup []) c.rs) ρs ρ w') : AtO P Q c ρs ρ w := by
  subst he
  obtain ⟨o, ho, h2⟩ := bind_of h
  have h1 := (hM.is g rfl).1
  have hr := run_delete hK ht h1 k
  rw [← hm, ← hk] at hr
  exact sim_ord_turn o ho (.tup []) _ hR (hR.rel.turn h1.blk (fun _ _ _ e => (by cases e)) hT) (.inl (delOp_run h2 hr)) (next _ ⟨Kept.setBlock _ _ _, _, _, h1.blk⟩ (hM.set (h1.fine.del k)))
omit [DecidableEq K] in
theorem mp_new (enc : K → Value) (encV : V → Value) {rs : List Reg} (hR : Rel T w0 ρ rs w) : MpO enc encV ρ rs (w.alloc (.map #[] 0)) (some w.heap.size) [] 0 :=
  ⟨fun g hg => (by
    injection hg with hg
    subst hg
    exact ⟨⟨heap_alloc_new w _, fine_nil⟩, fun hw => by have := hR.wr_lt hw; omega⟩), fun h => (by cases h)⟩
omit [DecidableEq K] in
/-- a new map -/
theorem sim_make (enc : K → Value) (encV : V → Value) {t : TypeId} (h : makeOf c = some t) (hR : Rel T w0 ρ c.rs w)
    (next : ∀ w' g, g = w.heap.size → Below w.heap.size w w' → MpO enc encV ρ c.rs w' (some g) [] 0 → Rel T w0 ρ c.rs w' → At P Q (nextC c (.v (.map (some g))) c.rs) ρ w') : At P Q c ρ w := by
  unfold makeOf at h
  split at h
  · rename_i o ho
    split at h
    · rename_i t' hop
      have hk := Kept.alloc w (fun _ => False) (.map #[] 0)
      refine sim_turn o ho (.v (.map (some w.heap.size))) (w.alloc (.map #[] 0)) (.inl ?_) (next _ _ rfl (hk.below (Nat.le_refl _) (fun _ h => h.elim)) (mp_new enc encV hR) (hR.kept hk (fun _ _ _ _ h => h) (fun _ h => h.elim)))
      unfold execOp
      simp [hop, Instr.makeMap, newObj, Sem.run, LV.den, Result.andThen]
    · cases h
  · cases h
omit [DecidableEq K] in
/-- a loop over a map begins -/
theorem sim_range {t et : TypeId} {mx : LV} (h : rangeOf c = some (t, mx)) (ht : P.underlying t = some (.map kt et)) {m : Option Nat} {l : List (Ent K V)} {clock : Nat} (hM : MpO enc encV ρ c.rs w m l clock) (hm : mx.den ρ = .map m) (hR : Rel T w0 ρ c.rs w)
    (next : ∀ w' it, it = w.heap.size → Below w.heap.size w w' → ItO ρ c.rs w' it m l clock [] → Rel T w0 ρ c.rs w' → At P Q (nextC c (.v (.pointer (some ⟨it, 0, none⟩))) c.rs) ρ w') : At P Q c ρ w := by
  unfold rangeOf at h
  split at h
  · rename_i o ho
    split at h
    · rename_i t' x hop
      simp only [Option.some.injEq, Prod.mk.injEq] at h
      obtain ⟨rfl, rfl⟩ := h
      have hk := Kept.alloc w (fun _ => False) (.mapIter m clock #[] clock)
      refine sim_turn o ho (.v (.pointer (some ⟨w.heap.size, 0, none⟩))) (w.alloc (.mapIter m clock #[] clock)) (.inl ?_) (next _ _ rfl (hk.below (Nat.le_refl _) (fun _ h => h.elim)) ⟨⟨#[], heap_alloc_new w _, rfl⟩, fun hw => (by have := hR.wr_lt hw; omega), (fun _ h => (by cases h)), List.nodup_nil⟩ (hR.kept hk (fun _ _ _ _ h => h) (fun _ h => h.elim)))
      have hr : (Instr.range t' (.map m)).run P w = .ok (.pointer (some ⟨w.heap.size, 0, none⟩)) (w.alloc (.mapIter m clock #[] clock)) := by
        unfold Instr.range
        cases m with
        | none =>
          obtain ⟨_, rfl⟩ := hM.nil rfl
          simp [run_underlying ht, newObj, Sem.run, Result.andThen]
        | some g =>
          simp [run_underlying ht, MapKept.run_getObj_map (hM.is g rfl).1.blk, newObj, Sem.run, Result.andThen]
      unfold execOp
      simp [hop, act_eval, hm, hr, LV.den]
    · cases h
  · cases h
omit [DecidableEq K] in
/-- the next entry, whichever comes; or the end -/
theorem sim_next {x : LV} (h : nextOf c = some x) {it : Nat} {m : Option Nat} {l dn : List (Ent K V)} {clock : Nat} (hM : MpO enc encV ρ c.rs w m l clock) (hI : ItO ρ c.rs w it m l clock dn) (hx : x.den ρ = .pointer (some ⟨it, 0, none⟩)) (hT : w0.heap.size ≤ it) (hR : Rel T w0 ρ c.rs w)
    (next1 : ∀ e w', e ∈ l → e ∉ dn → TurnI it w w' → ItO ρ c.rs w' it m l clock (dn ++ [e]) → Rel T w0 ρ c.rs w' → At P Q (nextC c (.tup [LB true, .v (enc e.key), .v (encV e.val)]) c.rs) ρ w')
    (next2 : (∀ e ∈ l, e ∈ dn) → At P Q (nextC c (.tup [LB false]) c.rs) ρ w) : At P Q c ρ w := by
  unfold nextOf at h
  split at h
  · rename_i o ho
    split at h
    · rename_i x' hop
      simp only [Option.some.injEq] at h
      subst h
      obtain ⟨seen, hi, hs⟩ := hI.is
      cases m with
      | none =>
        obtain ⟨rfl, rfl⟩ := hM.nil rfl
        refine sim_turn o ho (.tup [LB false]) w (.inl ?_) (next2 (fun _ h => by cases h))
        unfold execOp
        simp [hop, act_eval, hx, Instr.next, getObj, Sem.run, hi, Result.andThen, LV.den, denL]
      | some g =>
        have hMp := (hM.is g rfl).1
        have hborn : ∀ y ∈ (l.map (toE enc encV)).toArray.toList, y.born < clock := fun y hy => by
          simp only [List.mem_map] at hy
          obtain ⟨e, he, rfl⟩ := hy
          exact hMp.fine.lt e he
        have hseen : ∀ e : Ent K V, e ∈ l → (seen.contains e.born = true ↔ e ∈ dn) := fun e he => by
          rw [Array.contains_iff_mem, ← Array.mem_toList_iff, hs, List.mem_map]
          constructor
          · rintro ⟨e', he', hb⟩
            have h2 := hI.sub e' he'
            rw [← nodup_inj hMp.fine.borns h2 he hb]
            exact he'
          · exact fun h => ⟨e, h, rfl⟩
        rcases run_next_at (P := P) w o.type it g clock clock seen _ clock hi hMp.blk hborn (Nat.le_refl _) with ⟨h0, hr⟩ | ⟨e, he, w1, hw1, hr⟩
        · refine sim_turn o ho (.tup [LB false]) w (.inl ?_) (next2 (fun e he => ?_))
          · unfold execOp
            simp only [hop, act_eval, hx, Sem.run_bind, hr, Result.andThen_ok]
            rfl
          · refine (hseen e he).1 ?_
            cases hc : seen.contains e.born with
            | true => rfl
            | false =>
              have hm2 : toE enc encV e ∈ leftOf (l.map (toE enc encV)).toArray seen := by
                unfold leftOf
                rw [Array.mem_filter]
                refine ⟨by simpa using ⟨e, he, rfl⟩, ?_⟩
                simp only [toE, hc, Bool.not_false]
              have := Array.size_pos_of_mem hm2
              omega
        · unfold leftOf at he
          have he2 := Array.mem_toList_iff.1 he
          rw [Array.mem_filter] at he2
          obtain ⟨h1, h2⟩ := he2
          simp only [List.mem_toArray, List.mem_map] at h1
          obtain ⟨e0, he0, rfl⟩ := h1
          have hnot : e0 ∉ dn := fun hd => by
            have := (hseen e0 he0).2 hd
            simp only [toE] at h2
            rw [this] at h2
            cases h2
          have hR1 : Rel T w0 ρ c.rs w1 := by rcases hw1 with rfl | rfl; exact hR; exact hR.drew
          have hi1 : w1.heap[it]? = some (.mapIter (some g) clock seen clock) := by rcases hw1 with rfl | rfl <;> exact hi
          have hk1 : Kept (fun k => k = it) w w1 := by rcases hw1 with rfl | rfl; exact Kept.refl _ _; exact Kept.drew _ _
          refine sim_turn o ho (.tup [LB true, .v (enc e0.key), .v (encV e0.val)]) _ (.inl ?_) (next1 e0 (setBlock w1 it (.mapIter (some g) clock (seen.push e0.born) clock)) he0 hnot ⟨hk1.trans (Kept.setBlock w1 it _) (fun _ h => .inl h), _, _, _, _, hi⟩
            ⟨⟨seen.push e0.born, ?_, by simp [hs]⟩, hI.far, ?_, ?_⟩ (hR1.turn hi1 (fun _ _ _ e => (by cases e)) (.inr hT)))
          · unfold execOp
            simp only [hop, act_eval, hx, Sem.run_bind, hr, Result.andThen_ok]
            rfl
          · have : it < w1.heap.size := by
              rcases Nat.lt_or_ge it w1.heap.size with h3 | h3
              · exact h3
              · rw [Array.getElem?_eq_none h3] at hi1; cases hi1
            simp [setBlock, this]
          · intro y hy
            rcases List.mem_append.1 hy with hy | hy
            · exact hI.sub y hy
            · rw [List.mem_singleton.1 hy]; exact he0
          · rw [List.map_append, List.nodup_append]
            refine ⟨hI.nodup, by simp, fun a ha b hb hab => ?_⟩
            simp only [List.map_cons, List.map_nil, List.mem_singleton] at hb
            subst hb
            obtain ⟨y, hy, hyb⟩ := List.mem_map.1 ha
            exact hnot (by rw [← nodup_inj hMp.fine.borns (hI.sub y hy) he0 (hyb.trans hab)]; exact hy)
    · cases h
  · cases h
omit [DecidableEq K] in
/-- the round's entry -/
theorem sim_entry {x : LV} (e : Ent K V) (h : entryOf c = some x) {it g : Nat} {l dn : List (Ent K V)} {clock : Nat} (hM : MpO enc encV ρ c.rs w (some g) l clock) (hI : ItO ρ c.rs w it (some g) l clock (dn ++ [e])) (hx : x.den ρ = .pointer (some ⟨it, 0, none⟩))
    (next : At P Q (nextC c (.tup [.v (enc e.key), .v (encV e.val)]) c.rs) ρ w) : At P Q c ρ w := by
  unfold entryOf at h
  split at h
  · rename_i o ho
    split at h
    · rename_i x' hop
      simp only [Option.some.injEq] at h
      subst h
      obtain ⟨seen, hi, hs⟩ := hI.is
      have hMp := (hM.is g rfl).1
      have hse : ∃ s0 : Array Nat, seen = s0.push e.born := by
        refine ⟨(dn.map (·.born)).toArray, Array.ext' ?_⟩
        rw [hs]
        simp
      obtain ⟨s0, rfl⟩ := hse
      have hr := run_entry_at (P := P) w it g clock s0 _ clock (toE enc encV e) hi hMp.blk (by simpa using ⟨e, hI.sub e (by simp), rfl⟩) (by
        simp only [List.map_map]
        exact hMp.fine.borns)
      refine sim_turn o ho (.tup [.v (enc e.key), .v (encV e.val)]) w (.inl ?_) next
      unfold execOp
      simp only [hop, act_eval, hx, Sem.run_bind, hr, Result.andThen_ok]
      rfl
    · cases h
  · cases h
end
end
end Go.Proofs.Ytgbgedaedcofcaa
