/-
  Maps: a list of entries with keys that are apart; what the operations on a map do to it. Over any program.
  Rows of one's own: places that were there before; appending. Over any program.
  Maps: the executor's rules for the operations on a map. Over any program.
-/
import Derived.Test.YtioehmngkoffaaaSimO
import Derived.Maps.RangeRun
import Derived.MapKept
import Derived.ChangeMaps5
namespace Go.Proofs.Ytioehmngkoffaaa
section
section
open Go Go.RowKit
open Go.ChangeMaps (setBlock)

/-- an entry: key, value, when it came -/
structure Ent (K V : Type) where
  key : K
  val : V
  born : Nat
/-- the keys of a type, as values -/
structure KT (P : Program) (kt : TypeId) {K : Type} [DecidableEq K] (enc : K → Value) : Prop where
  eq : ∀ a b w, (Op.equal kt (enc a) (enc b)).run P w = .ok (decide (a = b)) w
  now : ∀ d, P.underlying kt = some d → ∀ a b x, Instr.sameNow d (enc a) (enc b) = some x → x = decide (a = b)
  und : ∃ d, P.underlying kt = some d
  chk : ∀ b a w, (Instr.checkKey b 10000 kt (enc a)).run P w = .ok () w
  bits : ∀ a, Instr.sameBits 10000 (enc a) (enc a) = true

section
variable {P : Program} {kt : TypeId} {K V : Type} [DecidableEq K] {enc : K → Value} {encV : V → Value}
def toE (enc : K → Value) (encV : V → Value) (e : Ent K V) : MapEntry := { key := enc e.key, val := encV e.val, born := e.born }
def fk (k : K) : List (Ent K V) → Nat → Option (Nat × V)
  | [], _ => none
  | e :: l, i => if k = e.key then some (i, e.val) else fk k l (i + 1)
theorem findNow_fk (h : KT P kt enc) {d : TypeDesc} (hd : P.underlying kt = some d) (k : K) : ∀ (l : List (Ent K V)) (i : Nat) (r : Option (Nat × Value)), Instr.findNow d (enc k) (l.map (toE enc encV)) i = some r → r = (fk k l i).map fun p => (p.1, encV p.2)
  | [], _, r, hr => by simp only [List.map_nil, Instr.findNow, Option.some.injEq] at hr; rw [← hr]; rfl
  | e :: l, i, r, hr => by
    simp only [List.map_cons, Instr.findNow] at hr
    have h0 := h.now d hd k e.key
    simp only [toE] at hr
    cases hs : Instr.sameNow d (enc k) (enc e.key) with
    | none => rw [hs] at hr; cases hr
    | some x =>
      rw [hs] at hr
      have hx := h0 x hs
      cases x with
      | true =>
        simp only [Option.some.injEq] at hr
        have : k = e.key := of_decide_eq_true hx.symm
        rw [← hr]
        simp [fk, this]
      | false =>
        have : ¬ k = e.key := of_decide_eq_false hx.symm
        rw [show fk k (e :: l) i = fk k l (i + 1) by simp [fk, this]]
        exact findNow_fk h hd k l (i + 1) r hr
theorem findAsking_fk (h : KT P kt enc) (k : K) (w : World) : ∀ (l : List (Ent K V)) (i : Nat), (Instr.findAsking kt (enc k) (l.map (toE enc encV)) i).run P w = .ok ((fk k l i).map fun p => (p.1, encV p.2)) w
  | [], _ => by simp [Instr.findAsking, fk]
  | e :: l, i => by
    simp only [List.map_cons, Instr.findAsking, Sem.run_bind]
    have h0 := h.eq k e.key w
    simp only [toE] at h0 ⊢
    rw [h0]
    by_cases hk : k = e.key
    · simp [hk, fk]
    · have := findAsking_fk h k w l (i + 1)
      simp [hk, fk, this]
theorem run_findKey (h : KT P kt enc) (k : K) (l : List (Ent K V)) (w : World) : (Instr.findKey kt (enc k) (l.map (toE enc encV))).run P w = .ok ((fk k l 0).map fun p => (p.1, encV p.2)) w := by
  obtain ⟨d, hd⟩ := h.und
  simp only [Instr.findKey, Sem.run_bind, run_underlying hd, Result.andThen_ok]
  cases hf : Instr.findNow d (enc k) (l.map (toE enc encV)) 0 with
  | some r => rw [findNow_fk h hd k l 0 r hf]; rfl
  | none => exact findAsking_fk h k w l 0

/-! ### The plain map -/
def look (k : K) : List (Ent K V) → Option V
  | [] => none
  | e :: l => if k = e.key then some e.val else look k l
def ins (k : K) (v : V) (n : Nat) : List (Ent K V) → List (Ent K V)
  | [] => [⟨k, v, n⟩]
  | e :: l => if k = e.key then ⟨e.key, v, e.born⟩ :: l else e :: ins k v n l
def del (k : K) : List (Ent K V) → List (Ent K V)
  | [] => []
  | e :: l => if k = e.key then l else e :: del k l
def hasK (k : K) (l : List (Ent K V)) : Bool := (look k l).isSome
theorem fk_look (k : K) : ∀ (l : List (Ent K V)) (i : Nat), (fk k l i).map (·.2) = look k l
  | [], _ => rfl
  | e :: l, i => by
    simp only [fk, look]
    split
    · rfl
    · exact fk_look k l (i + 1)
theorem fk_some {k : K} : ∀ {l : List (Ent K V)} {i j : Nat} {v : V}, fk k l i = some (j, v) → i ≤ j ∧ ∃ e, l[j - i]? = some e ∧ e.key = k ∧ e.val = v
  | [], _, _, _, h => by cases h
  | e :: l, i, j, v, h => by
    simp only [fk] at h
    split at h
    · rename_i hk
      simp only [Option.some.injEq, Prod.mk.injEq] at h
      obtain ⟨rfl, rfl⟩ := h
      exact ⟨Nat.le_refl _, e, by simp, hk.symm, rfl⟩
    · obtain ⟨h1, e', h2, h3, h4⟩ := fk_some h
      refine ⟨by omega, e', ?_, h3, h4⟩
      rw [show j - i = (j - (i + 1)) + 1 by omega, List.getElem?_cons_succ]
      exact h2
theorem fk_ins {k : K} (v : V) (n : Nat) : ∀ {l : List (Ent K V)} {i j : Nat} {v0 : V}, fk k l i = some (j, v0) → ins k v n l = l.modify (j - i) (fun e => ⟨e.key, v, e.born⟩)
  | [], _, _, _, h => by cases h
  | e :: l, i, j, v0, h => by
    simp only [fk] at h
    split at h
    · rename_i hk
      simp only [Option.some.injEq, Prod.mk.injEq] at h
      obtain ⟨rfl, rfl⟩ := h
      simp [ins, hk]
    · rename_i hk
      have h1 := fk_ins v n h
      obtain ⟨h2, _⟩ := fk_some h
      rw [show j - i = (j - (i + 1)) + 1 by omega]
      simp [ins, hk, h1]
theorem fk_del {k : K} : ∀ {l : List (Ent K V)} {i j : Nat} {v0 : V}, fk k l i = some (j, v0) → del k l = l.eraseIdx (j - i)
  | [], _, _, _, h => by cases h
  | e :: l, i, j, v0, h => by
    simp only [fk] at h
    split at h
    · rename_i hk
      simp only [Option.some.injEq, Prod.mk.injEq] at h
      obtain ⟨rfl, rfl⟩ := h
      simp [del, hk]
    · rename_i hk
      have h1 := fk_del h
      obtain ⟨h2, _⟩ := fk_some h
      rw [show j - i = (j - (i + 1)) + 1 by omega]
      simp [del, hk, h1]
theorem look_none_ins {k : K} (v : V) (n : Nat) : ∀ {l : List (Ent K V)}, look k l = none → ins k v n l = l ++ [⟨k, v, n⟩]
  | [], _ => rfl
  | e :: l, h => by
    simp only [look] at h
    split at h
    · cases h
    · rename_i hk
      simp [ins, hk, look_none_ins v n h]
theorem look_none_del {k : K} : ∀ {l : List (Ent K V)}, look k l = none → del k l = l
  | [], _ => rfl
  | e :: l, h => by
    simp only [look] at h
    split at h
    · cases h
    · rename_i hk
      simp [del, hk, look_none_del h]
theorem look_none {k : K} : ∀ {l : List (Ent K V)}, look k l = none ↔ ∀ e ∈ l, e.key ≠ k
  | [] => by simp [look]
  | e :: l => by
    simp only [look]
    split
    · rename_i hk
      simp [hk]
    · rename_i hk
      rw [look_none]
      constructor
      · intro h x hx
        rcases List.mem_cons.1 hx with rfl | hx
        · exact fun e => hk e.symm
        · exact h x hx
      · exact fun h x hx => h x (List.mem_cons_of_mem _ hx)
/-- keys are apart, stamps rise and are below the clock -/
structure Fine (l : List (Ent K V)) (clock : Nat) : Prop where
  keys : l.Pairwise fun a b => a.key ≠ b.key
  borns : (l.map (·.born)).Nodup
  lt : ∀ e ∈ l, e.born < clock
omit [DecidableEq K] in
theorem fine_nil : Fine ([] : List (Ent K V)) 0 := ⟨List.Pairwise.nil, List.nodup_nil, fun _ h => by cases h⟩
theorem ins_mem {k : K} {v : V} {n : Nat} {x : Ent K V} : ∀ {l : List (Ent K V)}, x ∈ ins k v n l → (x ∈ l ∧ x.key ≠ k) ∨ (x.key = k ∧ x.val = v ∧ (x.born = n ∨ ∃ e ∈ l, e.born = x.born)) ∨ (x ∈ l)
  | [], h => by
    obtain rfl := List.mem_singleton.1 h
    exact .inr (.inl ⟨rfl, rfl, .inl rfl⟩)
  | e :: l, h => by
    simp only [ins] at h
    split at h
    · rename_i hk
      rcases List.mem_cons.1 h with rfl | h
      · exact .inr (.inl ⟨hk.symm, rfl, .inr ⟨e, by simp, rfl⟩⟩)
      · exact .inr (.inr (List.mem_cons_of_mem _ h))
    · rcases List.mem_cons.1 h with rfl | h
      · exact .inr (.inr (by simp))
      · rcases ins_mem h with ⟨h1, h2⟩ | ⟨h1, h2, h3⟩ | h1
        · exact .inl ⟨List.mem_cons_of_mem _ h1, h2⟩
        · refine .inr (.inl ⟨h1, h2, h3.imp id (fun ⟨e', h4, h5⟩ => ⟨e', List.mem_cons_of_mem _ h4, h5⟩)⟩)
        · exact .inr (.inr (List.mem_cons_of_mem _ h1))
theorem ins_keys (k : K) (v : V) (n : Nat) : ∀ (l : List (Ent K V)), (ins k v n l).map (·.key) = if hasK k l then l.map (·.key) else l.map (·.key) ++ [k]
  | [] => rfl
  | e :: l => by
    simp only [ins, hasK, look]
    split
    · rfl
    · have := ins_keys k v n l
      unfold hasK at this
      simp only [List.map_cons, this]
      split <;> rfl
theorem ins_borns (k : K) (v : V) (n : Nat) : ∀ (l : List (Ent K V)), (ins k v n l).map (·.born) = if hasK k l then l.map (·.born) else l.map (·.born) ++ [n]
  | [] => rfl
  | e :: l => by
    simp only [ins, hasK, look]
    split
    · rfl
    · have := ins_borns k v n l
      unfold hasK at this
      simp only [List.map_cons, this]
      split <;> rfl
theorem hasK_iff {k : K} {l : List (Ent K V)} : hasK k l = true ↔ k ∈ l.map (·.key) := by
  unfold hasK
  cases h : look k l with
  | none =>
    have := look_none.1 h
    simp only [Option.isSome_none, Bool.false_eq_true, List.mem_map, false_iff, not_exists, not_and]
    exact fun e he hk => this e he hk
  | some v =>
    simp only [Option.isSome_some, List.mem_map, true_iff]
    have h2 := fk_look k l 0
    rw [h] at h2
    cases hf : fk k l 0 with
    | none => rw [hf] at h2; cases h2
    | some p =>
      obtain ⟨_, e, he, hk, _⟩ := fk_some (j := p.1) (v := p.2) hf
      exact ⟨e, List.mem_of_getElem? he, hk⟩
omit [DecidableEq K] in
theorem nodup_keys {l : List (Ent K V)} (h : l.Pairwise fun a b => a.key ≠ b.key) : (l.map (·.key)).Nodup := List.pairwise_map.2 h
def clockAfter (k : K) (l : List (Ent K V)) (n : Nat) : Nat := if hasK k l then n else n + 1
theorem Fine.ins {l : List (Ent K V)} {n : Nat} (h : Fine l n) (k : K) (v : V) : Fine (ins k v n l) (clockAfter k l n) := by
  refine ⟨List.pairwise_map.1 (show (((Go.Proofs.Ytioehmngkoffaaa.ins k v n l).map (·.key)).Pairwise (· ≠ ·)) from ?_), ?_, fun e he => ?_⟩
  · rw [ins_keys]
    split
    · exact nodup_keys h.keys
    · rename_i hk
      refine List.pairwise_append.2 ⟨nodup_keys h.keys, List.pairwise_singleton _ _, fun a ha b hb => ?_⟩
      obtain rfl := List.mem_singleton.1 hb
      rintro rfl
      exact hk (hasK_iff.2 ha)
  · rw [ins_borns]
    split
    · exact h.borns
    · refine List.pairwise_append.2 ⟨h.borns, List.pairwise_singleton _ _, fun a ha b hb => ?_⟩
      obtain rfl := List.mem_singleton.1 hb
      obtain ⟨e, he, rfl⟩ := List.mem_map.1 ha
      have := h.lt e he
      omega
  · have hb : e.born ∈ (Go.Proofs.Ytioehmngkoffaaa.ins k v n l).map (·.born) := List.mem_map.2 ⟨e, he, rfl⟩
    rw [ins_borns] at hb
    unfold clockAfter
    split at hb
    · rename_i hk
      rw [if_pos hk]
      obtain ⟨e', he', hq⟩ := List.mem_map.1 hb
      rw [← hq]
      exact h.lt e' he'
    · rename_i hk
      rw [if_neg hk]
      rcases List.mem_append.1 hb with hb | hb
      · obtain ⟨e', he', hq⟩ := List.mem_map.1 hb
        have := h.lt e' he'
        omega
      · have := List.mem_singleton.1 hb
        omega
theorem del_sub (k : K) : ∀ (l : List (Ent K V)), (del k l).Sublist l
  | [] => .slnil
  | e :: l => by
    simp only [del]
    split
    · exact List.sublist_cons_self _ _
    · exact (del_sub k l).cons_cons _
theorem Fine.del {l : List (Ent K V)} {n : Nat} (h : Fine l n) (k : K) : Fine (del k l) n :=
  ⟨h.keys.sublist (del_sub k l), h.borns.sublist ((del_sub k l).map _), fun e he => h.lt e ((del_sub k l).subset he)⟩

/-- block g is the map -/
structure Mp (enc : K → Value) (encV : V → Value) (w : World) (g : Nat) (l : List (Ent K V)) (clock : Nat) : Prop where
  blk : w.heap[g]? = some (.map (l.map (toE enc encV)).toArray clock)
  fine : Fine l clock
omit [DecidableEq K] in
theorem Mp.size {w : World} {g : Nat} {l : List (Ent K V)} {clock : Nat} (h : Mp enc encV w g l clock) : g < w.heap.size := by
  have := h.blk
  rcases Nat.lt_or_ge g w.heap.size with h1 | h1
  · exact h1
  · rw [Array.getElem?_eq_none h1] at this; cases this

def lookV (ok : Bool) (v : Value) (b : Bool) : Value := if ok then .tuple #[v, .bool b] else v
theorem run_look {t et : TypeId} {w : World} {g : Nat} {l : List (Ent K V)} {clock : Nat} (h : KT P kt enc) (ht : P.underlying t = some (.map kt et)) {zv : V} (hz : ∀ w, (zeroValue et).run P w = .ok (encV zv) w) (hM : Mp enc encV w g l clock) (k : K) (ok : Bool) :
    (Instr.lookup t (.map (some g)) (enc k) ok).run P w = .ok (lookV ok (encV ((look k l).getD zv)) (hasK k l)) w := by
  unfold Instr.lookup
  simp only [Sem.run_bind, run_underlying ht, Result.andThen_ok, MapKept.run_getObj_map hM.blk, Sem.run_pure, h.chk]
  have hf := run_findKey (encV := encV) h k l w
  rw [hf]
  have h2 := fk_look k l 0
  unfold hasK
  rw [← h2]
  cases fk k l 0 with
  | none => simp [hz, lookV]
  | some p => simp [lookV]
theorem run_look_nil {t et : TypeId} {w : World} (h : KT P kt enc) (ht : P.underlying t = some (.map kt et)) {zv : V} (hz : ∀ w, (zeroValue et).run P w = .ok (encV zv) w) (k : K) (ok : Bool) :
    (Instr.lookup t (.map none) (enc k) ok).run P w = .ok (lookV ok (encV zv) false) w := by
  unfold Instr.lookup
  simp only [Sem.run_bind, run_underlying ht, Result.andThen_ok, Sem.run_pure, h.chk]
  have hf := run_findKey (V := V) (encV := encV) h k [] w
  simp only [List.map_nil] at hf
  rw [hf]
  simp [fk, hz, lookV]
theorem run_update {t et : TypeId} {w : World} {g : Nat} {l : List (Ent K V)} {clock : Nat} (h : KT P kt enc) (ht : P.underlying t = some (.map kt et)) (hM : Mp enc encV w g l clock) (k : K) (v : V) :
    (Instr.mapUpdate t (.map (some g)) (enc k) (encV v)).run P w = .ok () (setBlock w g (.map ((ins k v clock l).map (toE enc encV)).toArray (clockAfter k l clock))) := by
  unfold Instr.mapUpdate
  simp only [Sem.run_bind, run_underlying ht, Result.andThen_ok, MapKept.run_getObj_map hM.blk, h.chk]
  have hf := run_findKey (encV := encV) h k l w
  rw [hf]
  have h2 := fk_look k l 0
  cases hfk : fk k l 0 with
  | none =>
    rw [hfk] at h2
    have hl : look k l = none := h2.symm
    simp only [Option.map_none, Result.andThen_ok, MapKept.run_setObj_map _ hM.blk]
    rw [look_none_ins v clock hl]
    have hk : hasK k l = false := by unfold hasK; rw [hl]; rfl
    simp [clockAfter, hk, setBlock, toE]
  | some p =>
    obtain ⟨j, v0⟩ := p
    rw [hfk] at h2
    have hk : hasK k l = true := by unfold hasK; rw [← h2]; rfl
    obtain ⟨_, e, he, hek, _⟩ := fk_some hfk
    simp only [Nat.sub_zero] at he
    simp only [Option.map_some, Result.andThen_ok]
    have e1 : ((l.map (toE enc encV)).toArray[j]?).map (·.key) = some (enc k) := by simp [he, toE, hek]
    have e2 : (Instr.keyThatStays (enc k) (enc k)).run P w = .ok (enc k) w := by unfold Instr.keyThatStays; rw [if_pos (h.bits k)]; rfl
    rw [e1]
    simp only [Option.getD_some, Sem.run_bind, e2, Result.andThen_ok, MapKept.run_setObj_map _ hM.blk]
    have e3 := fk_ins v clock hfk
    simp only [Nat.sub_zero] at e3
    rw [e3]
    simp only [clockAfter, hk, if_true, setBlock]
    congr 2
    congr 1
    congr 1
    apply Array.ext'
    rw [Array.toList_modify]
    apply List.ext_getElem?
    intro i
    simp only [List.getElem?_modify, List.getElem?_map]
    by_cases hij : j = i
    · subst hij
      simp only [he, Option.map_some, if_true, toE, hek]
      show some _ = some _
      rw [show toE enc encV ⟨e.key, v, e.born⟩ = ⟨enc k, encV v, e.born⟩ by rw [← hek]; rfl]
    · simp [hij]
theorem run_delete {t et : TypeId} {w : World} {g : Nat} {l : List (Ent K V)} {clock : Nat} (h : KT P kt enc) (ht : P.underlying t = some (.map kt et)) (hM : Mp enc encV w g l clock) (k : K) (ty : TypeId) :
    (Builtin.delete_ #[t, kt] ty #[.map (some g), enc k]).run P w = .ok (.tuple #[]) (setBlock w g (.map ((del k l).map (toE enc encV)).toArray clock)) := by
  unfold Builtin.delete_
  simp only [List.getElem?_toArray, List.getElem?_cons_zero, List.getElem?_cons_succ, Sem.run_bind, run_underlying ht, Result.andThen_ok, MapKept.run_getObj_map hM.blk, h.chk]
  have hf := run_findKey (encV := encV) h k l w
  rw [hf]
  have h2 := fk_look k l 0
  cases hfk : fk k l 0 with
  | none =>
    rw [hfk] at h2
    have hl : look k l = none := h2.symm
    simp only [Option.map_none, Result.andThen_ok, Sem.run_bind, MapKept.run_setObj_map _ hM.blk, Sem.run_pure]
    rw [look_none_del hl]
    rfl
  | some p =>
    obtain ⟨j, v0⟩ := p
    simp only [Option.map_some, Result.andThen_ok, Sem.run_bind, MapKept.run_setObj_map _ hM.blk, Sem.run_pure]
    have e3 := fk_del hfk
    simp only [Nat.sub_zero] at e3
    rw [e3]
    have e4 : (l.map (toE enc encV)).toArray.eraseIdxIfInBounds j = ((l.eraseIdx j).map (toE enc encV)).toArray := by
      apply Array.ext'
      simp [Array.eraseIdxIfInBounds, ChangeMaps.map_eraseIdx]
      split
      · simp
      · rename_i hlt
        rw [List.eraseIdx_of_length_le (by simpa using Nat.le_of_not_lt hlt)]
    simp [setBlock, e4]
theorem run_delete_nil {t et : TypeId} {w : World} (h : KT P kt enc) (ht : P.underlying t = some (.map kt et)) (k : K) (ty : TypeId) :
    (Builtin.delete_ #[t, kt] ty #[.map none, enc k]).run P w = .ok (.tuple #[]) w := by
  unfold Builtin.delete_
  simp [run_underlying ht, h.chk]
omit [DecidableEq K] in
theorem Mp.set {w : World} {g : Nat} {l : List (Ent K V)} {clock : Nat} (hM : Mp enc encV w g l clock) {l' : List (Ent K V)} {clock' : Nat} (hf : Fine l' clock') : Mp enc encV (setBlock w g (.map (l'.map (toE enc encV)).toArray clock')) g l' clock' :=
  ⟨by
    have := hM.size
    simp [setBlock, this], hf⟩
theorem Kept.setBlock (w : World) (g : Nat) (o : Obj) : Kept (fun k => k = g) w (setBlock w g o) :=
  ⟨rfl, rfl, rfl, by simp [Go.ChangeMaps.setBlock], fun k _ hk => by simp only [Go.ChangeMaps.setBlock]; rw [Array.getElem?_setIfInBounds_ne (fun e => hk e.symm)]⟩
end
end
end

section
open Go Go.RowKit

/-- the first places lie in blocks that were there before -/
structure OldR (k B : Nat) (ρ : Nm) (rs : List Reg) (w : World) : Prop where
  lt : ∀ n, n < k → (ρ n).1 < B
  le : k ≤ rs.length
  sz : B ≤ w.heap.size
theorem OldR.moved {k B : Nat} {ρ ρ' : Nm} {rs rs' : List Reg} {w w' : World} (h : OldR k B ρ rs w) (hm : Moved ρ rs w ρ' rs' w') : OldR k B ρ' rs' w' := ⟨fun n hn => by rw [hm.agree n (Nat.lt_of_lt_of_le hn h.le)]; exact h.lt n hn, Nat.le_trans h.le hm.size, Nat.le_trans h.sz hm.kept.size⟩
theorem OldR.below {k B : Nat} {ρ : Nm} {rs : List Reg} {w w' : World} (h : OldR k B ρ rs w) (hb : Below w.heap.size w w') : OldR k B ρ rs w' := ⟨h.lt, h.le, Nat.le_trans h.sz hb.size⟩
theorem OldR.drew {k B : Nat} {ρ : Nm} {rs : List Reg} {w : World} (h : OldR k B ρ rs w) : OldR k B ρ rs w.drew := ⟨h.lt, h.le, h.sz⟩
theorem OldR.kept {k B : Nat} {ρ : Nm} {rs : List Reg} {w w' : World} {S : Nat → Prop} (h : OldR k B ρ rs w) (hk : Kept S w w') : OldR k B ρ rs w' := ⟨h.lt, h.le, Nat.le_trans h.sz hk.size⟩
theorem Rel.old {T : List Nat} {w0 w : World} {ρ : Nm} {rs : List Reg} (hR : Rel T w0 ρ rs w) (k : Nat) (h : Nat.ble k rs.length = true) : OldR k w.heap.size ρ rs w := by
  have hk := Nat.le_of_ble_eq_true h
  exact ⟨fun n hn => hR.lt n _ (List.getElem?_eq_getElem (by omega)), hk, Nat.le_refl _⟩
/-- a row of one's own has turned; the places lie elsewhere -/
theorem Rel.keptOwn {T : List Nat} {w0 w w' : World} {ρ : Nm} {rs : List Reg} (hR : Rel T w0 ρ rs w) {k B base n cp : Nat} {e : TypeId} {size : Nat} {A : Option Addr} {xs : List Value} (hown : w.ownsRow base e size (.slice A n cp) n xs) (hold : OldR k B ρ rs w) (hl : Nat.ble rs.length k = true) (hb : B ≤ base) (hw0 : w0.heap.size ≤ base) (hk : Kept (fun x => ∃ a, A = some a ∧ a.block = x) w w') : Rel T w0 ρ rs w' :=
  hR.kept hk (fun m r hr _ ⟨a, ha, e⟩ => by
    have h1 := hold.lt m (by have := (List.getElem?_eq_some_iff.1 hr).1; have := Nat.le_of_ble_eq_true hl; omega)
    have h2 := (hown.lt a.block (by rw [ha]; rfl)).1
    omega) (fun g ⟨a, ha, e⟩ => .inr (by
    have h2 := (hown.lt a.block (by rw [ha]; rfl)).1
    omega))
theorem Own.of_old {w : World} {ρ : Nm} {rs : List Reg} {k B base n cp : Nat} {e : TypeId} {size : Nat} {A : Option Addr} {xs : List Value} (hown : w.ownsRow base e size (.slice A n cp) n xs) (hold : OldR k B ρ rs w) (hl : Nat.ble rs.length k = true) (hb : B ≤ base) : Own ρ rs w base e size (.slice A n cp) n xs :=
  ⟨hown, fun g hg ⟨m, r, hr, _, he⟩ => by
    have h1 := hold.lt m (by have := (List.getElem?_eq_some_iff.1 hr).1; have := Nat.le_of_ble_eq_true hl; omega)
    have h2 := (hown.lt g hg).1
    omega⟩
theorem Own.bare {T : List Nat} {w0 w : World} {ρ : Nm} {rs : List Reg} (_ : Rel T w0 ρ rs w) {base n : Nat} {e : TypeId} {size : Nat} {v : Value} {xs : List Value} (h : w.ownsRow base e size v n xs) (he : allEmpty rs = true) : Own ρ rs w base e size v n xs :=
  ⟨h, fun _ _ ⟨_, _, hr, _⟩ => noReg he hr⟩
def tA : Option Addr → List Nat
  | some a => [a.block]
  | none => []
theorem tA_of {A : Option Addr} {x : Nat} (h : ∃ a, A = some a ∧ a.block = x) : x ∈ tA A := by
  obtain ⟨a, rfl, rfl⟩ := h
  exact List.mem_singleton.2 rfl
theorem tA_is {A : Option Addr} {x : Nat} (h : x ∈ tA A) : ∃ a, A = some a ∧ a.block = x := by
  cases A with
  | none => cases h
  | some a => exact ⟨a, rfl, (List.mem_singleton.1 h).symm⟩
/-- a slice type, its elements, their cells and bytes -/
structure RowTy (P : Program) (t e : TypeId) (size bytes : Nat) : Prop where
  ht : P.underlying t = some (.slice e)
  ex : ∃ i z, P.info? e = some i ∧ i.zero = some z ∧ i.size = size ∧ i.bytes = bytes ∧ z.cells.size = size ∧ 0 < size
theorem RowTy.of {P : Program} {t e : TypeId} {size bytes : Nat} (ht : P.underlying t = some (.slice e)) (h : (P.info? e).map (fun i => (i.size, i.bytes, i.zero.map fun z => z.cells.size)) = some (size, bytes, some size)) (hs : Nat.blt 0 size = true) : RowTy P t e size bytes := by
  refine ⟨ht, ?_⟩
  cases hi : P.info? e with
  | none => rw [hi] at h; cases h
  | some i =>
    rw [hi] at h
    simp only [Option.map_some, Option.some.injEq, Prod.mk.injEq] at h
    cases hz : i.zero with
    | none => rw [hz] at h; simp at h
    | some z =>
      rw [hz] at h
      simp only [Option.map_some, Option.some.injEq] at h
      exact ⟨i, z, rfl, hz, h.1, h.2.1, h.2.2, blt_lt hs⟩
/-- one's own rows of different types lie apart -/
theorem own_ne {w : World} {b b' : Nat} {e e' : TypeId} {s s' : Nat} {v v' : Value} {n n' : Nat} {xs xs' : List Value} (h : w.ownsRow b e s v n xs) (h' : w.ownsRow b' e' s' v' n' xs') (he : e ≠ e') (g : Nat) (hg : v.ownBlock = some g) : v'.ownBlock ≠ some g := by
  intro hg'
  rcases h.2 with ⟨rfl, _⟩ | ⟨q, cap, cur, rfl, _, hh, _⟩
  · cases hg
  · injection hg with hg
    subst hg
    rcases h'.2 with ⟨rfl, _⟩ | ⟨q', cap', cur', rfl, _, hh', _⟩
    · cases hg'
    · injection hg' with hg'
      have hg' : q' = q := hg'
      subst hg'
      rw [hh] at hh'
      injection hh' with hh'
      injection hh' with _ h2 _
      exact he h2
theorem Own.grown {ρ : Nm} {rs : List Reg} {w w' : World} {b : Nat} {e : TypeId} {s : Nat} {v : Value} {n : Nat} {xs : List Value} (h : Own ρ rs w b e s v n xs) {row : Option Nat} (hg : w.grownBy w' row) (hne : ∀ g, v.ownBlock = some g → row ≠ some g) : Own ρ rs w' b e s v n xs :=
  ⟨h.own.kept hg (by
    cases hb : v.ownBlock with
    | none => exact .inl rfl
    | some g => exact .inr (fun e => hne g hb e.symm)), h.far⟩
section
variable {P : Program} {fn : Func} {Q : Exit → Act → World → Prop} {T : List Nat} {w0 w : World} {ρ : Nm} {c : Cfg}
/-- a row of one's own grows -/
theorem sim_appendO (t : TypeId) (v : Value) (x : LV) (h : appOf c = some (t, .v v, x)) (hR : Rel T w0 ρ c.rs w) {base : Nat} {e : TypeId} {size bytes : Nat} (hty : RowTy P t e size bytes)
    {n : Nat} {xs : List Value} (hown : Own ρ c.rs w base e size v n xs) (q m cp : Nat) (hx : x = .slc q 0 m cp) (news : List LV) (hq : ((c.rs[q]?).map fun r => r.cells.take news.length) = some news) (hl : news.length = m * size) (h1 : news.all oneL = true)
    (h63 : n + m ≤ maxLen) (hbytes : (n + m) * bytes ≤ 140737488355328) (hbase : base ≤ w.heap.size) (hw0 : ∀ g, v.ownBlock = some g → g ∈ T ∨ w0.heap.size ≤ g) (l : List Nat) (hro : roIdx c.rs 0 = l) (hidx : ∀ k ∈ l, ∀ g, v.ownBlock = some g → (ρ k).1 ≠ g)
    (next : ∀ v' w', Own ρ c.rs w' base e size v' (n + m) (xs ++ denL ρ news) → w.grownBy w' v.ownBlock → Rel T w0 ρ c.rs w' → At P Q (nextC c (.v v') c.rs) ρ w') : At P Q c ρ w := by
  obtain ⟨i, z, h2, h3, h4, h5, h6, h7⟩ := hty.ex
  subst hx
  obtain ⟨r, hr, hrc⟩ : ∃ r, c.rs[q]? = some r ∧ r.cells.take news.length = news := by
    cases hc : c.rs[q]? with
    | none => rw [hc] at hq; cases hq
    | some r => rw [hc] at hq; exact ⟨r, rfl, by simpa using hq⟩
  refine sim_appendT t (.v v) (.slc q 0 m cp) h hR hty.ht h2 h3 h4 h5 h6 h7 rfl hown.own rfl news hl (fun j u hu => ?_) h1 h63 hbytes hbase hw0 (fun g hg k r' hk hne he => ?_) (fun v' w' ho hgr hat hR' => ?_)
  · rw [at_add, Nat.zero_add]
    refine hR.cell q r hr j u ?_
    rw [← hrc, List.getElem?_take] at hu
    split at hu
    · exact hu
    · cases hu
  · cases hw : r'.wr with
    | true => exact hown.far g hg ⟨k, r', hk, hw, he⟩
    | false =>
      have := roIdx_mem c.rs 0 k r' hk hw hne
      rw [hro, Nat.zero_add] at this
      exact hidx k this g hg he
  · refine next v' w' ⟨ho, fun g hg hw => ?_⟩ hgr hR'
    rcases hat with e' | e'
    · exact hown.far g (e' ▸ hg) hw
    · rw [e'] at hg
      injection hg with hg
      have := hR.wr_lt hw
      omega
end
end

section
section
open Go Go.RowKit
open Go.ChangeMaps (setBlock)

/-- only the iterator has turned -/
structure TurnI (it : Nat) (w w' : World) : Prop where
  kept : Kept (fun k => k = it) w w'
  was : ∃ m s seen c, w.heap[it]? = some (.mapIter m s seen c)
/-- only the map has turned -/
structure TurnM (g : Nat) (w w' : World) : Prop where
  kept : Kept (fun k => k = g) w w'
  was : ∃ es clock, w.heap[g]? = some (.map es clock)
theorem Kept.grownBy {g : Nat} {w w' : World} (h : Kept (fun k => k = g) w w') : w.grownBy w' (some g) := ⟨h.os, h.tape, h.output, h.size, fun i hi hne => h.block i hi (fun e => hne (by rw [e]))⟩
theorem own_is_cells {w : World} {b : Nat} {e : TypeId} {s : Nat} {v : Value} {n : Nat} {xs : List Value} (h : w.ownsRow b e s v n xs) {g : Nat} (hg : v.ownBlock = some g) : ∃ a m, w.heap[g]? = some (.cells a e m) := by
  rcases h.2 with ⟨rfl, _⟩ | ⟨g', cap, cur, rfl, _, hb, _⟩
  · cases hg
  · injection hg with hg
    subst hg
    exact ⟨_, _, hb⟩
theorem Own.turnM {ρ : Nm} {rs : List Reg} {w w' : World} {b : Nat} {e : TypeId} {s : Nat} {v : Value} {n : Nat} {xs : List Value} (h : Own ρ rs w b e s v n xs) {g : Nat} (ht : TurnM g w w') : Own ρ rs w' b e s v n xs :=
  h.grown ht.kept.grownBy fun g' hg' hne => by
    injection hne with hne
    subst hne
    obtain ⟨a, m, h1⟩ := own_is_cells h.own hg'
    obtain ⟨es, c, h2⟩ := ht.was
    rw [h1] at h2
    cases h2
theorem Own.turnI {ρ : Nm} {rs : List Reg} {w w' : World} {b : Nat} {e : TypeId} {s : Nat} {v : Value} {n : Nat} {xs : List Value} (h : Own ρ rs w b e s v n xs) {it : Nat} (ht : TurnI it w w') : Own ρ rs w' b e s v n xs :=
  h.grown ht.kept.grownBy fun g' hg' hne => by
    injection hne with hne
    subst hne
    obtain ⟨a, m, h1⟩ := own_is_cells h.own hg'
    obtain ⟨_, _, _, _, h2⟩ := ht.was
    rw [h1] at h2
    cases h2
theorem RowV.turnM {ρ : Nm} {rs : List Reg} {w w' : World} {g : Nat} {t : TypeId} {cur : List Value} (h : RowV ρ rs w g t cur) {m : Nat} (ht : TurnM m w w') : RowV ρ rs w' g t cur :=
  h.grown ht.kept.grownBy fun e => by
    injection e with e
    subst e
    obtain ⟨arr, h1, _⟩ := h.is
    obtain ⟨_, _, h2⟩ := ht.was
    rw [h1] at h2
    cases h2
theorem RowV.turnI {ρ : Nm} {rs : List Reg} {w w' : World} {g : Nat} {t : TypeId} {cur : List Value} (h : RowV ρ rs w g t cur) {m : Nat} (ht : TurnI m w w') : RowV ρ rs w' g t cur :=
  h.grown ht.kept.grownBy fun e => by
    injection e with e
    subst e
    obtain ⟨arr, h1, _⟩ := h.is
    obtain ⟨_, _, _, _, h2⟩ := ht.was
    rw [h1] at h2
    cases h2
theorem Ag.castR {N : Nat} {ρb ρ : Nm} {rs rs' : List Reg} (h : Ag N ρb ρ rs) (e : rs = rs') : Ag N ρb ρ rs' := e ▸ h
theorem RowV.castR {ρ : Nm} {rs rs' : List Reg} {w : World} {g : Nat} {t : TypeId} {cur : List Value} (h : RowV ρ rs w g t cur) (e : rs = rs') : RowV ρ rs' w g t cur := e ▸ h
theorem OldR.castR {k B : Nat} {ρ : Nm} {rs rs' : List Reg} {w : World} (h : OldR k B ρ rs w) (e : rs = rs') : OldR k B ρ rs' w := e ▸ h
theorem OldR.turnM {k B : Nat} {ρ : Nm} {rs : List Reg} {w w' : World} {g : Nat} (h : OldR k B ρ rs w) (ht : TurnM g w w') : OldR k B ρ rs w' := h.kept ht.kept
theorem OldR.turnI {k B : Nat} {ρ : Nm} {rs : List Reg} {w w' : World} {g : Nat} (h : OldR k B ρ rs w) (ht : TurnI g w w') : OldR k B ρ rs w' := h.kept ht.kept
theorem Rel.offMap {T : List Nat} {w0 w : World} {ρ : Nm} {rs : List Reg} (hR : Rel T w0 ρ rs w) {g : Nat} {o : Obj} (hg : w.heap[g]? = some o) (hno : ∀ a e m, o ≠ .cells a e m) : ∀ n r, rs[n]? = some r → r.cells ≠ [] → (ρ n).1 ≠ g := by
  intro n r hn hne e
  obtain ⟨v, vs, hv⟩ : ∃ v vs, r.cells = v :: vs := by
    cases hc : r.cells with
    | nil => exact absurd hc hne
    | cons v vs => exact ⟨v, vs, rfl⟩
  have h := hR.cell n r hn 0 v (by rw [hv]; rfl)
  unfold World.cell? Nm.at_ at h
  simp only [e, hg] at h
  cases o <;> simp_all

section
variable {P : Program} {kt : TypeId} {K V : Type} [DecidableEq K] {enc : K → Value} {encV : V → Value}
/-- a map (or none), apart from the places that are written -/
structure MpO (enc : K → Value) (encV : V → Value) (ρ : Nm) (rs : List Reg) (w : World) (m : Option Nat) (l : List (Ent K V)) (clock : Nat) : Prop where
  is : ∀ g, m = some g → Mp enc encV w g l clock ∧ ¬ wrS ρ rs g
  nil : m = none → l = [] ∧ clock = 0
omit [DecidableEq K] in
theorem MpO.fine {ρ : Nm} {rs : List Reg} {w : World} {m : Option Nat} {l : List (Ent K V)} {clock : Nat} (h : MpO enc encV ρ rs w m l clock) : Fine l clock := by
  cases m with
  | none => obtain ⟨rfl, rfl⟩ := h.nil rfl; exact fine_nil
  | some g => exact (h.is g rfl).1.fine
omit [DecidableEq K] in
theorem Mp.same {w w' : World} {g : Nat} {l : List (Ent K V)} {clock : Nat} (h : Mp enc encV w g l clock) (he : w'.heap[g]? = w.heap[g]?) : Mp enc encV w' g l clock := ⟨he.trans h.blk, h.fine⟩
omit [DecidableEq K] in
theorem MpO.none_ {ρ : Nm} {rs : List Reg} {w : World} : MpO enc encV ρ rs w none [] 0 := ⟨fun _ h => (by cases h), fun _ => ⟨rfl, rfl⟩⟩
omit [DecidableEq K] in
theorem MpO.moved {ρ ρ' : Nm} {rs rs' : List Reg} {w w' : World} {m : Option Nat} {l : List (Ent K V)} {clock : Nat} (h : MpO enc encV ρ rs w m l clock) (hm : Moved ρ rs w ρ' rs' w') : MpO enc encV ρ' rs' w' m l clock :=
  ⟨fun g hg => (by
    obtain ⟨h1, h2⟩ := h.is g hg
    refine ⟨h1.same (hm.kept.block g h1.size h2), fun hw => ?_⟩
    rcases hm.wrs g hw with h3 | h3
    · exact h2 h3
    · have := h1.size
      omega), h.nil⟩
theorem wrS_cut {ρ ρ' : Nm} {rs rs' : List Reg} {N g : Nat} (hag : Ag N ρ ρ' rs') (hN : rs.length = N) (e0 : rs'.take N = rs) (h : wrS ρ rs g) : wrS ρ' rs' g := by
  obtain ⟨n, r, hn, hr, he⟩ := h
  have hlt : n < N := by rw [← hN]; exact (List.getElem?_eq_some_iff.1 hn).1
  refine ⟨n, r, ?_, hr, by rw [hag.at_ n hlt]; exact he⟩
  rw [← e0, List.getElem?_take, if_pos hlt] at hn
  exact hn
omit [DecidableEq K] in
theorem MpO.cut {ρ ρ' : Nm} {rs rs' : List Reg} {w : World} {N : Nat} {m : Option Nat} {l : List (Ent K V)} {clock : Nat} (h : MpO enc encV ρ' rs' w m l clock) (hag : Ag N ρ ρ' rs') (hN : rs.length = N) (e0 : rs'.take N = rs) : MpO enc encV ρ rs w m l clock :=
  ⟨fun g hg => ⟨(h.is g hg).1, fun hw => (h.is g hg).2 (wrS_cut hag hN e0 hw)⟩, h.nil⟩
omit [DecidableEq K] in
theorem MpO.castR {ρ : Nm} {rs rs' : List Reg} {w : World} {m : Option Nat} {l : List (Ent K V)} {clock : Nat} (h : MpO enc encV ρ rs w m l clock) (e : rs = rs') : MpO enc encV ρ rs' w m l clock := e ▸ h
omit [DecidableEq K] in
theorem MpO.below {ρ : Nm} {rs : List Reg} {w w' : World} {m : Option Nat} {l : List (Ent K V)} {clock : Nat} (h : MpO enc encV ρ rs w m l clock) (hb : Below w.heap.size w w') : MpO enc encV ρ rs w' m l clock :=
  ⟨fun g hg => (by
    obtain ⟨h1, h2⟩ := h.is g hg
    exact ⟨h1.same (hb.block g h1.size), h2⟩), h.nil⟩
omit [DecidableEq K] in
theorem MpO.drew {ρ : Nm} {rs : List Reg} {w : World} {m : Option Nat} {l : List (Ent K V)} {clock : Nat} (h : MpO enc encV ρ rs w m l clock) : MpO enc encV ρ rs w.drew m l clock := ⟨fun g hg => ⟨(h.is g hg).1.same rfl, (h.is g hg).2⟩, h.nil⟩
omit [DecidableEq K] in
theorem MpO.grown {ρ : Nm} {rs : List Reg} {w w' : World} {m : Option Nat} {l : List (Ent K V)} {clock : Nat} (h : MpO enc encV ρ rs w m l clock) {row : Option Nat} (hg : w.grownBy w' row) (hne : ∀ g, m = some g → some g ≠ row) : MpO enc encV ρ rs w' m l clock :=
  ⟨fun g hm => ⟨(h.is g hm).1.same (hg.block g (h.is g hm).1.size (hne g hm)), (h.is g hm).2⟩, h.nil⟩
omit [DecidableEq K] in
theorem MpO.turnI {ρ : Nm} {rs : List Reg} {w w' : World} {m : Option Nat} {l : List (Ent K V)} {clock : Nat} (h : MpO enc encV ρ rs w m l clock) {it : Nat} (ht : TurnI it w w') : MpO enc encV ρ rs w' m l clock :=
  ⟨fun g hm => (by
    obtain ⟨h1, h2⟩ := h.is g hm
    refine ⟨h1.same (ht.kept.block g h1.size (fun e => ?_)), h2⟩
    subst e
    obtain ⟨_, _, _, _, h3⟩ := ht.was
    rw [h1.blk] at h3
    cases h3), h.nil⟩
omit [DecidableEq K] in
theorem MpO.turnNe {ρ : Nm} {rs : List Reg} {w w' : World} {m : Option Nat} {l : List (Ent K V)} {clock : Nat} (h : MpO enc encV ρ rs w m l clock) {g : Nat} (ht : TurnM g w w') (hne : m ≠ some g) : MpO enc encV ρ rs w' m l clock :=
  ⟨fun g' hm => ⟨(h.is g' hm).1.same (ht.kept.block g' (h.is g' hm).1.size (fun e => hne (by rw [hm, e]))), (h.is g' hm).2⟩, h.nil⟩
omit [DecidableEq K] in
theorem MpO.keptS {ρ : Nm} {rs : List Reg} {w w' : World} {m : Option Nat} {l : List (Ent K V)} {clock : Nat} (h : MpO enc encV ρ rs w m l clock) {S : Nat → Prop} (hk : Kept S w w') (hS : ∀ g, m = some g → ¬ S g) : MpO enc encV ρ rs w' m l clock :=
  ⟨fun g hm => ⟨(h.is g hm).1.same (hk.block g (h.is g hm).1.size (hS g hm)), (h.is g hm).2⟩, h.nil⟩

/-- an iterator over a map; dn: what came so far -/
structure ItO (ρ : Nm) (rs : List Reg) (w : World) (it : Nat) (m : Option Nat) (l : List (Ent K V)) (clock : Nat) (dn : List (Ent K V)) : Prop where
  is : ∃ seen : Array Nat, w.heap[it]? = some (.mapIter m clock seen clock) ∧ seen.toList = dn.map (·.born)
  far : ¬ wrS ρ rs it
  sub : ∀ e ∈ dn, e ∈ l
  nodup : (dn.map (·.born)).Nodup
omit [DecidableEq K] in
theorem ItO.size {ρ : Nm} {rs : List Reg} {w : World} {it : Nat} {m : Option Nat} {l dn : List (Ent K V)} {clock : Nat} (h : ItO ρ rs w it m l clock dn) : it < w.heap.size := by
  obtain ⟨_, h1, _⟩ := h.is
  rcases Nat.lt_or_ge it w.heap.size with h2 | h2
  · exact h2
  · rw [Array.getElem?_eq_none h2] at h1; cases h1
omit [DecidableEq K] in
theorem ItO.same {ρ : Nm} {rs : List Reg} {w w' : World} {it : Nat} {m : Option Nat} {l dn : List (Ent K V)} {clock : Nat} (h : ItO ρ rs w it m l clock dn) (he : w'.heap[it]? = w.heap[it]?) : ItO ρ rs w' it m l clock dn := ⟨by obtain ⟨s, h1, h2⟩ := h.is; exact ⟨s, he.trans h1, h2⟩, h.far, h.sub, h.nodup⟩
omit [DecidableEq K] in
theorem ItO.moved {ρ ρ' : Nm} {rs rs' : List Reg} {w w' : World} {it : Nat} {m : Option Nat} {l dn : List (Ent K V)} {clock : Nat} (h : ItO ρ rs w it m l clock dn) (hm : Moved ρ rs w ρ' rs' w') : ItO ρ' rs' w' it m l clock dn := by
  obtain ⟨s, h1, h2⟩ := h.is
  refine ⟨⟨s, (hm.kept.block it h.size h.far).trans h1, h2⟩, fun hw => ?_, h.sub, h.nodup⟩
  rcases hm.wrs it hw with h3 | h3
  · exact h.far h3
  · have := h.size
    omega
omit [DecidableEq K] in
theorem ItO.cut {ρ ρ' : Nm} {rs rs' : List Reg} {w : World} {N it : Nat} {m : Option Nat} {l dn : List (Ent K V)} {clock : Nat} (h : ItO ρ' rs' w it m l clock dn) (hag : Ag N ρ ρ' rs') (hN : rs.length = N) (e0 : rs'.take N = rs) : ItO ρ rs w it m l clock dn :=
  ⟨h.is, fun hw => h.far (wrS_cut hag hN e0 hw), h.sub, h.nodup⟩
omit [DecidableEq K] in
theorem ItO.castR {ρ : Nm} {rs rs' : List Reg} {w : World} {it : Nat} {m : Option Nat} {l dn : List (Ent K V)} {clock : Nat} (h : ItO ρ rs w it m l clock dn) (e : rs = rs') : ItO ρ rs' w it m l clock dn := e ▸ h
omit [DecidableEq K] in
theorem ItO.below {ρ : Nm} {rs : List Reg} {w w' : World} {it : Nat} {m : Option Nat} {l dn : List (Ent K V)} {clock : Nat} (h : ItO ρ rs w it m l clock dn) (hb : Below w.heap.size w w') : ItO ρ rs w' it m l clock dn := h.same (hb.block it h.size)
omit [DecidableEq K] in
theorem ItO.drew {ρ : Nm} {rs : List Reg} {w : World} {it : Nat} {m : Option Nat} {l dn : List (Ent K V)} {clock : Nat} (h : ItO ρ rs w it m l clock dn) : ItO ρ rs w.drew it m l clock dn := h.same rfl
omit [DecidableEq K] in
theorem ItO.turnM {ρ : Nm} {rs : List Reg} {w w' : World} {it : Nat} {m : Option Nat} {l dn : List (Ent K V)} {clock : Nat} (h : ItO ρ rs w it m l clock dn) {g : Nat} (ht : TurnM g w w') : ItO ρ rs w' it m l clock dn := by
  refine h.same (ht.kept.block it h.size (fun e => ?_))
  subst e
  obtain ⟨s, h1, h2⟩ := h.is
  obtain ⟨_, _, h3⟩ := ht.was
  rw [h1] at h3
  cases h3
omit [DecidableEq K] in
theorem ItO.grown {ρ : Nm} {rs : List Reg} {w w' : World} {it : Nat} {m : Option Nat} {l dn : List (Ent K V)} {clock : Nat} (h : ItO ρ rs w it m l clock dn) {row : Option Nat} (hg : w.grownBy w' row) (hne : some it ≠ row) : ItO ρ rs w' it m l clock dn := h.same (hg.block it h.size hne)
/-- a row of one's own is no map and no iterator -/
theorem own_not_map {w : World} {b : Nat} {e : TypeId} {s : Nat} {v : Value} {n : Nat} {xs : List Value} (h : w.ownsRow b e s v n xs) {g : Nat} {es : Array MapEntry} {c : Nat} (hg : w.heap[g]? = some (.map es c)) : some g ≠ v.ownBlock := fun e => by
  obtain ⟨_, _, h1⟩ := own_is_cells h e.symm
  rw [hg] at h1
  cases h1
theorem own_not_iter {w : World} {b : Nat} {e : TypeId} {s : Nat} {v : Value} {n : Nat} {xs : List Value} (h : w.ownsRow b e s v n xs) {g : Nat} {m : Option Nat} {a c : Nat} {q : Array Nat} (hg : w.heap[g]? = some (.mapIter m a q c)) : some g ≠ v.ownBlock := fun e => by
  obtain ⟨_, _, h1⟩ := own_is_cells h e.symm
  rw [hg] at h1
  cases h1
omit [DecidableEq K] in
theorem MpO.grownO {ρ : Nm} {rs : List Reg} {w w' : World} {m : Option Nat} {l : List (Ent K V)} {clock : Nat} (h : MpO enc encV ρ rs w m l clock) {b : Nat} {e : TypeId} {s : Nat} {v : Value} {n : Nat} {xs : List Value} (ho : w.ownsRow b e s v n xs) (hg : w.grownBy w' v.ownBlock) : MpO enc encV ρ rs w' m l clock :=
  h.grown hg fun g hm => own_not_map ho (h.is g hm).1.blk
omit [DecidableEq K] in
theorem ItO.grownO {ρ : Nm} {rs : List Reg} {w w' : World} {it : Nat} {m : Option Nat} {l dn : List (Ent K V)} {clock : Nat} (h : ItO ρ rs w it m l clock dn) {b : Nat} {e : TypeId} {s : Nat} {v : Value} {n : Nat} {xs : List Value} (ho : w.ownsRow b e s v n xs) (hg : w.grownBy w' v.ownBlock) : ItO ρ rs w' it m l clock dn := by
  obtain ⟨q, h1, _⟩ := h.is
  exact h.grown hg (own_not_iter ho h1)
end
/-! ### The rules -/
def lookOp (tmps : List LV) (o : Oper) : Option (TypeId × LV × LV × Bool) := match o.op with
  | .lookup t m k ok => some (t, evalL tmps m, evalL tmps k, ok)
  | _ => none
def updOp (tmps : List LV) (o : Oper) : Option (TypeId × LV × LV × LV) := match o.op with
  | .mapUpdate t m k x => some (t, evalL tmps m, evalL tmps k, evalL tmps x)
  | .insert t m k x => some (t, evalL tmps m, evalL tmps k, evalL tmps x)
  | _ => none
def delOp (tmps : List LV) (o : Oper) : Option (TypeId × TypeId × LV × LV) := match o.op with
  | .call { callee := .builtin .delete, args, argTypes } => match args.toList, argTypes.toList with
    | [m, k], [t, kt] => some (t, kt, evalL tmps m, evalL tmps k)
    | _, _ => none
  | _ => none
def lookOf (c : Cfg) := (topOp c).bind (lookOp c.tmps)
def updOf (c : Cfg) := (topOp c).bind (updOp c.tmps)
def delOf (c : Cfg) := (topOp c).bind (delOp c.tmps)
def lookOfO (c : OCfg) := (topO c).bind (lookOp c.tmps)
def updOfO (c : OCfg) := (topO c).bind (updOp c.tmps)
def delOfO (c : OCfg) := (topO c).bind (delOp c.tmps)
def makeOf (c : Cfg) : Option TypeId := match topOp c with
  | some o => match o.op with
    | .makeMap t none => some t
    | _ => none
  | none => none
def makeOfO (c : OCfg) : Option TypeId := match topO c with
  | some o => match o.op with
    | .makeMap t none => some t
    | _ => none
  | none => none
def rangeOf (c : Cfg) : Option (TypeId × LV) := match topOp c with
  | some o => match o.op with
    | .range t x => some (t, evalL c.tmps x)
    | _ => none
  | none => none
def nextOf (c : Cfg) : Option LV := match topOp c with
  | some o => match o.op with
    | .next x false => some (evalL c.tmps x)
    | _ => none
  | none => none
def entryOf (c : Cfg) : Option LV := match topOp c with
  | some o => match o.op with
    | .entry x => some (evalL c.tmps x)
    | _ => none
  | none => none

section
variable {P : Program} {Q : Exit → Act → World → Prop} {T : List Nat} {w0 w : World} {ρ : Nm} {c : Cfg}
variable {kt : TypeId} {K V : Type} [DecidableEq K] {enc : K → Value} {encV : V → Value}
theorem sim_turn (o : Oper) (ho : topOp c = some o) (x : LV) (w' : World) (hrun : (execOp (act ρ c.tmps).eval o).run P w = .ok (.value (x.den ρ)) w' ∨ ((execOp (act ρ c.tmps).eval o).run P w = .ok .skip w' ∧ x.den ρ = undef)) (hA : At P Q (nextC c x c.rs) ρ w') : At P Q c ρ w := by
  refine top_step ho ?_
  unfold Oper.wp
  rcases hrun with h | ⟨h, hu⟩
  · rw [h]
    exact nextAt_of ho rfl hA
  · rw [h]
    simp only [Oper.upon]
    rw [← hu]
    exact nextAt_of ho rfl hA
theorem sim_ord_turn {c : OCfg} {ρs : Nm} (o : Oper) (ho : topO c = some o) (x : LV) (w' : World) (hR : RelO T w0 c ρs ρ w) (hR' : Rel T w0 ρ c.rs w') (hrun : (execOp (act ρ c.tmps).eval o).run P w = .ok (.value (x.den ρ)) w' ∨ ((execOp (act ρ c.tmps).eval o).run P w = .ok .skip w' ∧ x.den ρ = undef))
    (next : RelO T w0 (nextO c x c.rs) ρs ρ w' → AtO P Q (nextO c x c.rs) ρs ρ w') : AtO P Q c ρs ρ w := by
  have hRO : RelO T w0 (nextO c x c.rs) ρs ρ w' := ⟨hR', hR.agree, hR.und, hR.len, fun h => hR.pre (nextOD_of h)⟩
  refine topO_step (T := T) (w0 := w0) ho ?_
  unfold Oper.wp
  rcases hrun with h | ⟨h, hu⟩
  · rw [h]
    exact ⟨x, c.rs, ρ, act_put ρ c.tmps o.dst x, hRO, next hRO⟩
  · rw [h]
    simp only [Oper.upon]
    rw [← hu]
    exact ⟨x, c.rs, ρ, act_put ρ c.tmps o.dst x, hRO, next hRO⟩
theorem lookOp_run {tmps : List LV} {o : Oper} {t : TypeId} {m k : LV} {ok : Bool} (h : lookOp tmps o = some (t, m, k, ok)) {v : Value} (hr : (Instr.lookup t (m.den ρ) (k.den ρ) ok).run P w = .ok v w) : (execOp (act ρ tmps).eval o).run P w = .ok (.value v) w := by
  unfold lookOp at h
  split at h
  · rename_i hop
    simp only [Option.some.injEq, Prod.mk.injEq] at h
    obtain ⟨rfl, rfl, rfl, rfl⟩ := h
    unfold execOp
    simp [hop, act_eval, hr]
  · cases h
theorem updOp_run {tmps : List LV} {o : Oper} {t : TypeId} {m k x : LV} (h : updOp tmps o = some (t, m, k, x)) {w' : World} (hr : (Instr.mapUpdate t (m.den ρ) (k.den ρ) (x.den ρ)).run P w = .ok () w') : (execOp (act ρ tmps).eval o).run P w = .ok .skip w' := by
  unfold updOp at h
  split at h
  · rename_i hop
    simp only [Option.some.injEq, Prod.mk.injEq] at h
    obtain ⟨rfl, rfl, rfl, rfl⟩ := h
    unfold execOp
    simp [hop, act_eval, hr]
  · rename_i hop
    simp only [Option.some.injEq, Prod.mk.injEq] at h
    obtain ⟨rfl, rfl, rfl, rfl⟩ := h
    unfold execOp
    simp [hop, act_eval, hr]
  · cases h
theorem delOp_run {tmps : List LV} {o : Oper} {t kt : TypeId} {m k : LV} (h : delOp tmps o = some (t, kt, m, k)) {v : Value} {w' : World} (hr : ∀ ty, (Builtin.delete_ #[t, kt] ty #[m.den ρ, k.den ρ]).run P w = .ok v w') : (execOp (act ρ tmps).eval o).run P w = .ok (.value v) w' := by
  unfold delOp at h
  split at h
  · rename_i args ats hop
    split at h
    · rename_i m' k' t' kt' ha hat
      simp only [Option.some.injEq, Prod.mk.injEq] at h
      obtain ⟨rfl, rfl, rfl, rfl⟩ := h
      have e1 : args = #[m', k'] := Array.ext' ha
      have e2 : ats = #[t', kt'] := Array.ext' hat
      subst e1
      subst e2
      have := hr o.type
      unfold execOp
      simp [hop, resolve, invoke, builtin, act_eval, this]
    · cases h
  · cases h
theorem nodup_inj {α β : Type} {f : α → β} : ∀ {l : List α}, (l.map f).Nodup → ∀ {a b : α}, a ∈ l → b ∈ l → f a = f b → a = b
  | [], _, _, _, h, _, _ => by cases h
  | x :: xs, hn, a, b, ha, hb, he => by
    simp only [List.map_cons, List.nodup_cons] at hn
    rcases List.mem_cons.1 ha with h1 | h1 <;> rcases List.mem_cons.1 hb with h2 | h2
    · rw [h1, h2]
    · exact absurd (List.mem_map.2 ⟨b, h2, by rw [← he, h1]⟩) hn.1
    · exact absurd (List.mem_map.2 ⟨a, h1, by rw [he, h2]⟩) hn.1
    · exact nodup_inj hn.2 h1 h2 he
theorem bind_of {α β : Type} {x : Option α} {f : α → Option β} {y : β} (h : x.bind f = some y) : ∃ a, x = some a ∧ f a = some y := Option.bind_eq_some_iff.1 h

theorem mpo_look {rs : List Reg} {m : Option Nat} {l : List (Ent K V)} {clock : Nat} (hM : MpO enc encV ρ rs w m l clock) (hK : KT P kt enc) {t et : TypeId} (ht : P.underlying t = some (.map kt et)) {zv : V} (hz : ∀ w, (zeroValue et).run P w = .ok (encV zv) w) (k : K) (ok : Bool) :
    (Instr.lookup t (.map m) (enc k) ok).run P w = .ok (lookV ok (encV ((look k l).getD zv)) (hasK k l)) w := by
  cases m with
  | none =>
    obtain ⟨rfl, _⟩ := hM.nil rfl
    exact run_look_nil hK ht hz k ok
  | some g => exact run_look hK ht hz (hM.is g rfl).1 k ok
/-- looking up -/
theorem sim_look {t et : TypeId} {mx kx : LV} {ok : Bool} (k : K) (y : LV) (h : lookOf c = some (t, mx, kx, ok)) (ht : P.underlying t = some (.map kt et)) (hK : KT P kt enc) {zv : V} (hz : ∀ w, (zeroValue et).run P w = .ok (encV zv) w) {m : Option Nat} {l : List (Ent K V)} {clock : Nat} {rs : List Reg} (hM : MpO enc encV ρ rs w m l clock)
    (hm : mx.den ρ = .map m) (hk : kx.den ρ = enc k) (hy : y.den ρ = lookV ok (encV ((look k l).getD zv)) (hasK k l)) (next : At P Q (nextC c y c.rs) ρ w) : At P Q c ρ w := by
  obtain ⟨o, ho, h2⟩ := bind_of h
  refine sim_turn o ho y w (.inl (lookOp_run h2 ?_)) next
  rw [hm, hk, hy]
  exact mpo_look hM hK ht hz k ok
theorem sim_ord_look {c : OCfg} {ρs : Nm} {t et : TypeId} {mx kx : LV} {ok : Bool} (k : K) (y : LV) (h : lookOfO c = some (t, mx, kx, ok)) (ht : P.underlying t = some (.map kt et)) (hK : KT P kt enc) {zv : V} (hz : ∀ w, (zeroValue et).run P w = .ok (encV zv) w) {m : Option Nat} {l : List (Ent K V)} {clock : Nat} {rs : List Reg} (hM : MpO enc encV ρ rs w m l clock)
    (hm : mx.den ρ = .map m) (hk : kx.den ρ = enc k) (hR : RelO T w0 c ρs ρ w) (hy : y.den ρ = lookV ok (encV ((look k l).getD zv)) (hasK k l)) (next : RelO T w0 (nextO c y c.rs) ρs ρ w → AtO P Q (nextO c y c.rs) ρs ρ w) : AtO P Q c ρs ρ w := by
  obtain ⟨o, ho, h2⟩ := bind_of h
  refine sim_ord_turn o ho y w hR hR.rel (.inl (lookOp_run h2 ?_)) next
  rw [hm, hk, hy]
  exact mpo_look hM hK ht hz k ok
/-- the relation behind a map that has turned -/
theorem Rel.turn {rs : List Reg} (hR : Rel T w0 ρ rs w) {g : Nat} {o o' : Obj} (hg : w.heap[g]? = some o) (hno : ∀ a e m, o ≠ .cells a e m) (hT : g ∈ T ∨ w0.heap.size ≤ g) : Rel T w0 ρ rs (setBlock w g o') :=
  hR.kept (Kept.setBlock w g o') (fun n r hn hne he => hR.offMap hg hno n r hn hne he) (fun x hx => by rw [hx]; exact hT)
omit [DecidableEq K] in
theorem MpO.set {rs : List Reg} {g : Nat} {l : List (Ent K V)} {clock : Nat} (hM : MpO enc encV ρ rs w (some g) l clock) {l' : List (Ent K V)} {clock' : Nat} (hf : Fine l' clock') : MpO enc encV ρ rs (setBlock w g (.map (l'.map (toE enc encV)).toArray clock')) (some g) l' clock' :=
  ⟨fun g' hg' => (by injection hg' with hg'; subst hg'; exact ⟨(hM.is g rfl).1.set hf, (hM.is g rfl).2⟩), fun h => (by cases h)⟩
/-- a value is put into a map -/
theorem sim_upd {t et : TypeId} {mx kx vx : LV} (k : K) (v : V) (h : updOf c = some (t, mx, kx, vx)) (ht : P.underlying t = some (.map kt et)) (hK : KT P kt enc) {g : Nat} {l : List (Ent K V)} {clock : Nat} (hM : MpO enc encV ρ c.rs w (some g) l clock)
    (hm : mx.den ρ = .map (some g)) (hk : kx.den ρ = enc k) (hv : vx.den ρ = encV v) (hT : g ∈ T ∨ w0.heap.size ≤ g) (hR : Rel T w0 ρ c.rs w)
    (next : ∀ w', TurnM g w w' → MpO enc encV ρ c.rs w' (some g) (ins k v clock l) (clockAfter k l clock) → Rel T w0 ρ c.rs w' → At P Q (nextC c (.v undef) c.rs) ρ w') : At P Q c ρ w := by
  obtain ⟨o, ho, h2⟩ := bind_of h
  have h1 := (hM.is g rfl).1
  have hr := run_update hK ht h1 k v
  rw [← hm, ← hk, ← hv] at hr
  exact sim_turn o ho (.v undef) _ (.inr ⟨updOp_run h2 hr, rfl⟩) (next _ ⟨Kept.setBlock _ _ _, _, _, h1.blk⟩ (hM.set (h1.fine.ins k v)) (hR.turn h1.blk (fun _ _ _ e => (by cases e)) hT))
theorem sim_ord_upd {c : OCfg} {ρs : Nm} {t et : TypeId} {mx kx vx : LV} (k : K) (v : V) (h : updOfO c = some (t, mx, kx, vx)) (ht : P.underlying t = some (.map kt et)) (hK : KT P kt enc) {g : Nat} {l : List (Ent K V)} {clock : Nat} (hM : MpO enc encV ρ c.rs w (some g) l clock)
    (hm : mx.den ρ = .map (some g)) (hk : kx.den ρ = enc k) (hv : vx.den ρ = encV v) (hT : g ∈ T ∨ w0.heap.size ≤ g) (hR : RelO T w0 c ρs ρ w)
    (next : ∀ w', TurnM g w w' → MpO enc encV ρ c.rs w' (some g) (ins k v clock l) (clockAfter k l clock) → RelO T w0 (nextO c (.v undef) c.rs) ρs ρ w' → AtO P Q (nextO c (.v undef) c.rs) ρs ρ w') : AtO P Q c ρs ρ w := by
  obtain ⟨o, ho, h2⟩ := bind_of h
  have h1 := (hM.is g rfl).1
  have hr := run_update hK ht h1 k v
  rw [← hm, ← hk, ← hv] at hr
  exact sim_ord_turn o ho (.v undef) _ hR (hR.rel.turn h1.blk (fun _ _ _ e => (by cases e)) hT) (.inr ⟨updOp_run h2 hr, rfl⟩) (next _ ⟨Kept.setBlock _ _ _, _, _, h1.blk⟩ (hM.set (h1.fine.ins k v)))
/-- a key is taken out -/
theorem sim_del {t et kt' : TypeId} {mx kx : LV} (k : K) (h : delOf c = some (t, kt', mx, kx)) (he : kt' = kt) (ht : P.underlying t = some (.map kt et)) (hK : KT P kt enc) {g : Nat} {l : List (Ent K V)} {clock : Nat} (hM : MpO enc encV ρ c.rs w (some g) l clock)
    (hm : mx.den ρ = .map (some g)) (hk : kx.den ρ = enc k) (hT : g ∈ T ∨ w0.heap.size ≤ g) (hR : Rel T w0 ρ c.rs w)
    (next : ∀ w', TurnM g w w' → MpO enc encV ρ c.rs w' (some g) (del k l) clock → Rel T w0 ρ c.rs w' → At P Q (nextC c (.tup []) c.rs) ρ w') : At P Q c ρ w := by
  subst he
  obtain ⟨o, ho, h2⟩ := bind_of h
  have h1 := (hM.is g rfl).1
  have hr := run_delete hK ht h1 k
  rw [← hm, ← hk] at hr
  exact sim_turn o ho (.tup []) _ (.inl (delOp_run h2 hr)) (next _ ⟨Kept.setBlock _ _ _, _, _, h1.blk⟩ (hM.set (h1.fine.del k)) (hR.turn h1.blk (fun _ _ _ e => (by cases e)) hT))
theorem sim_ord_del {c : OCfg} {ρs : Nm} {t et kt' : TypeId} {mx kx : LV} (k : K) (h : delOfO c = some (t, kt', mx, kx)) (he : kt' = kt) (ht : P.underlying t = some (.map kt et)) (hK : KT P kt enc) {g : Nat} {l : List (Ent K V)} {clock : Nat} (hM : MpO enc encV ρ c.rs w (some g) l clock)
    (hm : mx.den ρ = .map (some g)) (hk : kx.den ρ = enc k) (hT : g ∈ T ∨ w0.heap.size ≤ g) (hR : RelO T w0 c ρs ρ w)
    (next : ∀ w', TurnM g w w' → MpO enc encV ρ c.rs w' (some g) (del k l) clock → RelO T w0 (nextO c (.tup []) c.rs) ρs ρ w' → AtO P Q (nextO c (.tup []) c.rs) ρs ρ w') : AtO P Q c ρs ρ w := by
  subst he
  obtain ⟨o, ho, h2⟩ := bind_of h
  have h1 := (hM.is g rfl).1
  have hr := run_delete hK ht h1 k
  rw [← hm, ← hk] at hr
  exact sim_ord_turn o ho (.tup []) _ hR (hR.rel.turn h1.blk (fun _ _ _ e => (by cases e)) hT) (.inl (delOp_run h2 hr)) (next _ ⟨Kept.setBlock _ _ _, _, _, h1.blk⟩ (hM.set (h1.fine.del k)))
omit [DecidableEq K] in
theorem mp_new (enc : K → Value) (encV : V → Value) {rs : List Reg} (hR : Rel T w0 ρ rs w) : MpO enc encV ρ rs (w.alloc (.map #[] 0)) (some w.heap.size) [] 0 :=
  ⟨fun g hg => (by
    injection hg with hg
    subst hg
    exact ⟨⟨heap_alloc_new w _, fine_nil⟩, fun hw => by have := hR.wr_lt hw; omega⟩), fun h => (by cases h)⟩
omit [DecidableEq K] in
/-- a new map -/
theorem sim_make (enc : K → Value) (encV : V → Value) {t : TypeId} (h : makeOf c = some t) (hR : Rel T w0 ρ c.rs w)
    (next : ∀ w' g, g = w.heap.size → Below w.heap.size w w' → MpO enc encV ρ c.rs w' (some g) [] 0 → Rel T w0 ρ c.rs w' → At P Q (nextC c (.v (.map (some g))) c.rs) ρ w') : At P Q c ρ w := by
  unfold makeOf at h
  split at h
  · rename_i o ho
    split at h
    · rename_i t' hop
      have hk := Kept.alloc w (fun _ => False) (.map #[] 0)
      refine sim_turn o ho (.v (.map (some w.heap.size))) (w.alloc (.map #[] 0)) (.inl ?_) (next _ _ rfl (hk.below (Nat.le_refl _) (fun _ h => h.elim)) (mp_new enc encV hR) (hR.kept hk (fun _ _ _ _ h => h) (fun _ h => h.elim)))
      unfold execOp
      simp [hop, Instr.makeMap, newObj, Sem.run, LV.den, Result.andThen]
    · cases h
  · cases h
omit [DecidableEq K] in
/-- a loop over a map begins -/
theorem sim_range {t et : TypeId} {mx : LV} (h : rangeOf c = some (t, mx)) (ht : P.underlying t = some (.map kt et)) {m : Option Nat} {l : List (Ent K V)} {clock : Nat} (hM : MpO enc encV ρ c.rs w m l clock) (hm : mx.den ρ = .map m) (hR : Rel T w0 ρ c.rs w)
    (next : ∀ w' it, it = w.heap.size → Below w.heap.size w w' → ItO ρ c.rs w' it m l clock [] → Rel T w0 ρ c.rs w' → At P Q (nextC c (.v (.pointer (some ⟨it, 0, none⟩))) c.rs) ρ w') : At P Q c ρ w := by
  unfold rangeOf at h
  split at h
  · rename_i o ho
    split at h
    · rename_i t' x hop
      simp only [Option.some.injEq, Prod.mk.injEq] at h
      obtain ⟨rfl, rfl⟩ := h
      have hk := Kept.alloc w (fun _ => False) (.mapIter m clock #[] clock)
      refine sim_turn o ho (.v (.pointer (some ⟨w.heap.size, 0, none⟩))) (w.alloc (.mapIter m clock #[] clock)) (.inl ?_) (next _ _ rfl (hk.below (Nat.le_refl _) (fun _ h => h.elim)) ⟨⟨#[], heap_alloc_new w _, rfl⟩, fun hw => (by have := hR.wr_lt hw; omega), (fun _ h => (by cases h)), List.nodup_nil⟩ (hR.kept hk (fun _ _ _ _ h => h) (fun _ h => h.elim)))
      have hr : (Instr.range t' (.map m)).run P w = .ok (.pointer (some ⟨w.heap.size, 0, none⟩)) (w.alloc (.mapIter m clock #[] clock)) := by
        unfold Instr.range
        cases m with
        | none =>
          obtain ⟨_, rfl⟩ := hM.nil rfl
          simp [run_underlying ht, newObj, Sem.run, Result.andThen]
        | some g =>
          simp [run_underlying ht, MapKept.run_getObj_map (hM.is g rfl).1.blk, newObj, Sem.run, Result.andThen]
      unfold execOp
      simp [hop, act_eval, hm, hr, LV.den]
    · cases h
  · cases h
omit [DecidableEq K] in
/-- the next entry, whichever comes; or the end -/
theorem sim_next {x : LV} (h : nextOf c = some x) {it : Nat} {m : Option Nat} {l dn : List (Ent K V)} {clock : Nat} (hM : MpO enc encV ρ c.rs w m l clock) (hI : ItO ρ c.rs w it m l clock dn) (hx : x.den ρ = .pointer (some ⟨it, 0, none⟩)) (hT : w0.heap.size ≤ it) (hR : Rel T w0 ρ c.rs w)
    (next1 : ∀ e w', e ∈ l → e ∉ dn → TurnI it w w' → ItO ρ c.rs w' it m l clock (dn ++ [e]) → Rel T w0 ρ c.rs w' → At P Q (nextC c (.tup [LB true, .v (enc e.key), .v (encV e.val)]) c.rs) ρ w')
    (next2 : (∀ e ∈ l, e ∈ dn) → At P Q (nextC c (.tup [LB false]) c.rs) ρ w) : At P Q c ρ w := by
  unfold nextOf at h
  split at h
  · rename_i o ho
    split at h
    · rename_i x' hop
      simp only [Option.some.injEq] at h
      subst h
      obtain ⟨seen, hi, hs⟩ := hI.is
      cases m with
      | none =>
        obtain ⟨rfl, rfl⟩ := hM.nil rfl
        refine sim_turn o ho (.tup [LB false]) w (.inl ?_) (next2 (fun _ h => by cases h))
        unfold execOp
        simp [hop, act_eval, hx, Instr.next, getObj, Sem.run, hi, Result.andThen, LV.den, denL]
      | some g =>
        have hMp := (hM.is g rfl).1
        have hborn : ∀ y ∈ (l.map (toE enc encV)).toArray.toList, y.born < clock := fun y hy => by
          simp only [List.mem_map] at hy
          obtain ⟨e, he, rfl⟩ := hy
          exact hMp.fine.lt e he
        have hseen : ∀ e : Ent K V, e ∈ l → (seen.contains e.born = true ↔ e ∈ dn) := fun e he => by
          rw [Array.contains_iff_mem, ← Array.mem_toList_iff, hs, List.mem_map]
          constructor
          · rintro ⟨e', he', hb⟩
            have h2 := hI.sub e' he'
            rw [← nodup_inj hMp.fine.borns h2 he hb]
            exact he'
          · exact fun h => ⟨e, h, rfl⟩
        rcases run_next_at (P := P) w o.type it g clock clock seen _ clock hi hMp.blk hborn (Nat.le_refl _) with ⟨h0, hr⟩ | ⟨e, he, w1, hw1, hr⟩
        · refine sim_turn o ho (.tup [LB false]) w (.inl ?_) (next2 (fun e he => ?_))
          · unfold execOp
            simp only [hop, act_eval, hx, Sem.run_bind, hr, Result.andThen_ok]
            rfl
          · refine (hseen e he).1 ?_
            cases hc : seen.contains e.born with
            | true => rfl
            | false =>
              have hm2 : toE enc encV e ∈ leftOf (l.map (toE enc encV)).toArray seen := by
                unfold leftOf
                rw [Array.mem_filter]
                refine ⟨by simpa using ⟨e, he, rfl⟩, ?_⟩
                simp only [toE, hc, Bool.not_false]
              have := Array.size_pos_of_mem hm2
              omega
        · unfold leftOf at he
          have he2 := Array.mem_toList_iff.1 he
          rw [Array.mem_filter] at he2
          obtain ⟨h1, h2⟩ := he2
          simp only [List.mem_toArray, List.mem_map] at h1
          obtain ⟨e0, he0, rfl⟩ := h1
          have hnot : e0 ∉ dn := fun hd => by
            have := (hseen e0 he0).2 hd
            simp only [toE] at h2
            rw [this] at h2
            cases h2
          have hR1 : Rel T w0 ρ c.rs w1 := by rcases hw1 with rfl | rfl; exact hR; exact hR.drew
          have hi1 : w1.heap[it]? = some (.mapIter (some g) clock seen clock) := by rcases hw1 with rfl | rfl <;> exact hi
          have hk1 : Kept (fun k => k = it) w w1 := by rcases hw1 with rfl | rfl; exact Kept.refl _ _; exact Kept.drew _ _
          refine sim_turn o ho (.tup [LB true, .v (enc e0.key), .v (encV e0.val)]) _ (.inl ?_) (next1 e0 (setBlock w1 it (.mapIter (some g) clock (seen.push e0.born) clock)) he0 hnot ⟨hk1.trans (Kept.setBlock w1 it _) (fun _ h => .inl h), _, _, _, _, hi⟩
            ⟨⟨seen.push e0.born, ?_, by simp [hs]⟩, hI.far, ?_, ?_⟩ (hR1.turn hi1 (fun _ _ _ e => (by cases e)) (.inr hT)))
          · unfold execOp
            simp only [hop, act_eval, hx, Sem.run_bind, hr, Result.andThen_ok]
            rfl
          · have : it < w1.heap.size := by
              rcases Nat.lt_or_ge it w1.heap.size with h3 | h3
              · exact h3
              · rw [Array.getElem?_eq_none h3] at hi1; cases hi1
            simp [setBlock, this]
          · intro y hy
            rcases List.mem_append.1 hy with hy | hy
            · exact hI.sub y hy
            · rw [List.mem_singleton.1 hy]; exact he0
          · rw [List.map_append, List.nodup_append]
            refine ⟨hI.nodup, by simp, fun a ha b hb hab => ?_⟩
            simp only [List.map_cons, List.map_nil, List.mem_singleton] at hb
            subst hb
            obtain ⟨y, hy, hyb⟩ := List.mem_map.1 ha
            exact hnot (by rw [← nodup_inj hMp.fine.borns (hI.sub y hy) he0 (hyb.trans hab)]; exact hy)
    · cases h
  · cases h
omit [DecidableEq K] in
/-- the round's entry -/
theorem sim_entry {x : LV} (e : Ent K V) (h : entryOf c = some x) {it g : Nat} {l dn : List (Ent K V)} {clock : Nat} (hM : MpO enc encV ρ c.rs w (some g) l clock) (hI : ItO ρ c.rs w it (some g) l clock (dn ++ [e])) (hx : x.den ρ = .pointer (some ⟨it, 0, none⟩))
    (next : At P Q (nextC c (.tup [.v (enc e.key), .v (encV e.val)]) c.rs) ρ w) : At P Q c ρ w := by
  unfold entryOf at h
  split at h
  · rename_i o ho
    split at h
    · rename_i x' hop
      simp only [Option.some.injEq] at h
      subst h
      obtain ⟨seen, hi, hs⟩ := hI.is
      have hMp := (hM.is g rfl).1
      have hse : ∃ s0 : Array Nat, seen = s0.push e.born := by
        refine ⟨(dn.map (·.born)).toArray, Array.ext' ?_⟩
        rw [hs]
        simp
      obtain ⟨s0, rfl⟩ := hse
      have hr := run_entry_at (P := P) w it g clock s0 _ clock (toE enc encV e) hi hMp.blk (by simpa using ⟨e, hI.sub e (by simp), rfl⟩) (by
        simp only [List.map_map]
        exact hMp.fine.borns)
      refine sim_turn o ho (.tup [.v (enc e.key), .v (encV e.val)]) w (.inl ?_) next
      unfold execOp
      simp only [hop, act_eval, hx, Sem.run_bind, hr, Result.andThen_ok]
      rfl
    · cases h
  · cases h
end
end
end
end Go.Proofs.Ytioehmngkoffaaa
