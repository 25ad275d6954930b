/-
  Maps: a list of entries with keys that are apart; what the operations on a map do to it. Over any program.
-/
import Derived.Test.YtgbgedaedcofcaaSimO
import Derived.Maps.RangeRun
import Derived.MapKept
import Derived.ChangeMaps5
namespace Go.Proofs.Ytgbgedaedcofcaa
section
open Go Go.RowKit
open Go.ChangeMaps (setBlock)

/-- an entry: key, value, when it came -/
structure Ent (K V : Type) where
  key : K
  val : V
  born : Nat
/-- the keys of a type, as values -/
structure KT (P : Program) (kt : TypeId) {K : Type} [DecidableEq K] (enc : K → Value) : Prop where
  eq : ∀ a b w, (Op.equal kt (enc a) (enc b)).run P w = .ok (decide (a = b)) w
  now : ∀ d, P.underlying kt = some d → ∀ a b x, Instr.sameNow d (enc a) (enc b) = some x → x = decide (a = b)
  und : ∃ d, P.underlying kt = some d
  chk : ∀ b a w, (Instr.checkKey b 10000 kt (enc a)).run P w = .ok () w
  bits : ∀ a, Instr.sameBits 10000 (enc a) (enc a) = true

section
variable {P : Program} {kt : TypeId} {K V : Type} [DecidableEq K] {enc : K → Value} {encV : V → Value}
def toE (enc : K → Value) (encV : V → Value) (e : Ent K V) : MapEntry := { key := enc e.key, val := encV e.val, born := e.born }
def fk (k : K) : List (Ent K V) → Nat → Option (Nat × V)
  | [], _ => none
  | e :: l, i => if k = e.key then some (i, e.val) else fk k l (i + 1)
theorem findNow_fk (h : KT P kt enc) {d : TypeDesc} (hd : P.underlying kt = some d) (k : K) : ∀ (l : List (Ent K V)) (i : Nat) (r : Option (Nat × Value)), Instr.findNow d (enc k) (l.map (toE enc encV)) i = some r → r = (fk k l i).map fun p => (p.1, encV p.2)
  | [], _, r, hr => by simp only [List.map_nil, Instr.findNow, Option.some.injEq] at hr; rw [← hr]; rfl
  | e :: l, i, r, hr => by
    simp only [List.map_cons, Instr.findNow] at hr
    have h0 := h.now d hd k e.key
    simp only [toE] at hr
    cases hs : Instr.sameNow d (enc k) (enc e.key) with
    | none => rw [hs] at hr; cases hr
    | some x =>
      rw [hs] at hr
      have hx := h0 x hs
      cases x with
      | true =>
        simp only [Option.some.injEq] at hr
        have : k = e.key := of_decide_eq_true hx.symm
        rw [← hr]
        simp [fk, this]
      | false =>
        have : ¬ k = e.key := of_decide_eq_false hx.symm
        rw [show fk k (e :: l) i = fk k l (i + 1) by simp [fk, this]]
        exact findNow_fk h hd k l (i + 1) r hr
theorem findAsking_fk (h : KT P kt enc) (k : K) (w : World) : ∀ (l : List (Ent K V)) (i : Nat), (Instr.findAsking kt (enc k) (l.map (toE enc encV)) i).run P w = .ok ((fk k l i).map fun p => (p.1, encV p.2)) w
  | [], _ => by simp [Instr.findAsking, fk]
  | e :: l, i => by
    simp only [List.map_cons, Instr.findAsking, Sem.run_bind]
    have h0 := h.eq k e.key w
    simp only [toE] at h0 ⊢
    rw [h0]
    by_cases hk : k = e.key
    · simp [hk, fk]
    · have := findAsking_fk h k w l (i + 1)
      simp [hk, fk, this]
theorem run_findKey (h : KT P kt enc) (k : K) (l : List (Ent K V)) (w : World) : (Instr.findKey kt (enc k) (l.map (toE enc encV))).run P w = .ok ((fk k l 0).map fun p => (p.1, encV p.2)) w := by
  obtain ⟨d, hd⟩ := h.und
  simp only [Instr.findKey, Sem.run_bind, run_underlying hd, Result.andThen_ok]
  cases hf : Instr.findNow d (enc k) (l.map (toE enc encV)) 0 with
  | some r => rw [findNow_fk h hd k l 0 r hf]; rfl
  | none => exact findAsking_fk h k w l 0

/-! ### The plain map -/
def look (k : K) : List (Ent K V) → Option V
  | [] => none
  | e :: l => if k = e.key then some e.val else look k l
def ins (k : K) (v : V) (n : Nat) : List (Ent K V) → List (Ent K V)
  | [] => [⟨k, v, n⟩]
  | e :: l => if k = e.key then ⟨e.key, v, e.born⟩ :: l else e :: ins k v n l
def del (k : K) : List (Ent K V) → List (Ent K V)
  | [] => []
  | e :: l => if k = e.key then l else e :: del k l
def hasK (k : K) (l : List (Ent K V)) : Bool := (look k l).isSome
theorem fk_look (k : K) : ∀ (l : List (Ent K V)) (i : Nat), (fk k l i).map (·.2) = look k l
  | [], _ => rfl
  | e :: l, i => by
    simp only [fk, look]
    split
    · rfl
    · exact fk_look k l (i + 1)
theorem fk_some {k : K} : ∀ {l : List (Ent K V)} {i j : Nat} {v : V}, fk k l i = some (j, v) → i ≤ j ∧ ∃ e, l[j - i]? = some e ∧ e.key = k ∧ e.val = v
  | [], _, _, _, h => by cases h
  | e :: l, i, j, v, h => by
    simp only [fk] at h
    split at h
    · rename_i hk
      simp only [Option.some.injEq, Prod.mk.injEq] at h
      obtain ⟨rfl, rfl⟩ := h
      exact ⟨Nat.le_refl _, e, by simp, hk.symm, rfl⟩
    · obtain ⟨h1, e', h2, h3, h4⟩ := fk_some h
      refine ⟨by omega, e', ?_, h3, h4⟩
      rw [show j - i = (j - (i + 1)) + 1 by omega, List.getElem?_cons_succ]
      exact h2
theorem fk_ins {k : K} (v : V) (n : Nat) : ∀ {l : List (Ent K V)} {i j : Nat} {v0 : V}, fk k l i = some (j, v0) → ins k v n l = l.modify (j - i) (fun e => ⟨e.key, v, e.born⟩)
  | [], _, _, _, h => by cases h
  | e :: l, i, j, v0, h => by
    simp only [fk] at h
    split at h
    · rename_i hk
      simp only [Option.some.injEq, Prod.mk.injEq] at h
      obtain ⟨rfl, rfl⟩ := h
      simp [ins, hk]
    · rename_i hk
      have h1 := fk_ins v n h
      obtain ⟨h2, _⟩ := fk_some h
      rw [show j - i = (j - (i + 1)) + 1 by omega]
      simp [ins, hk, h1]
theorem fk_del {k : K} : ∀ {l : List (Ent K V)} {i j : Nat} {v0 : V}, fk k l i = some (j, v0) → del k l = l.eraseIdx (j - i)
  | [], _, _, _, h => by cases h
  | e :: l, i, j, v0, h => by
    simp only [fk] at h
    split at h
    · rename_i hk
      simp only [Option.some.injEq, Prod.mk.injEq] at h
      obtain ⟨rfl, rfl⟩ := h
      simp [del, hk]
    · rename_i hk
      have h1 := fk_del h
      obtain ⟨h2, _⟩ := fk_some h
      rw [show j - i = (j - (i + 1)) + 1 by omega]
      simp [del, hk, h1]
theorem look_none_ins {k : K} (v : V) (n : Nat) : ∀ {l : List (Ent K V)}, look k l = none → ins k v n l = l ++ [⟨k, v, n⟩]
  | [], _ => rfl
  | e :: l, h => by
    simp only [look] at h
    split at h
    · cases h
    · rename_i hk
      simp [ins, hk, look_none_ins v n h]
theorem look_none_del {k : K} : ∀ {l : List (Ent K V)}, look k l = none → del k l = l
  | [], _ => rfl
  | e :: l, h => by
    simp only [look] at h
    split at h
    · cases h
    · rename_i hk
      simp [del, hk, look_none_del h]
theorem look_none {k : K} : ∀ {l : List (Ent K V)}, look k l = none ↔ ∀ e ∈ l, e.key ≠ k
  | [] => by simp [look]
  | e :: l => by
    simp only [look]
    split
    · rename_i hk
      simp [hk]
    · rename_i hk
      rw [look_none]
      constructor
      · intro h x hx
        rcases List.mem_cons.1 hx with rfl | hx
        · exact fun e => hk e.symm
        · exact h x hx
      · exact fun h x hx => h x (List.mem_cons_of_mem _ hx)
/-- keys are apart, stamps rise and are below the clock -/
structure Fine (l : List (Ent K V)) (clock : Nat) : Prop where
  keys : l.Pairwise fun a b => a.key ≠ b.key
  borns : (l.map (·.born)).Nodup
  lt : ∀ e ∈ l, e.born < clock
omit [DecidableEq K] in
theorem fine_nil : Fine ([] : List (Ent K V)) 0 := ⟨List.Pairwise.nil, List.nodup_nil, fun _ h => by cases h⟩
theorem ins_mem {k : K} {v : V} {n : Nat} {x : Ent K V} : ∀ {l : List (Ent K V)}, x ∈ ins k v n l → (x ∈ l ∧ x.key ≠ k) ∨ (x.key = k ∧ x.val = v ∧ (x.born = n ∨ ∃ e ∈ l, e.born = x.born)) ∨ (x ∈ l)
  | [], h => by
    obtain rfl := List.mem_singleton.1 h
    exact .inr (.inl ⟨rfl, rfl, .inl rfl⟩)
  | e :: l, h => by
    simp only [ins] at h
    split at h
    · rename_i hk
      rcases List.mem_cons.1 h with rfl | h
      · exact .inr (.inl ⟨hk.symm, rfl, .inr ⟨e, by simp, rfl⟩⟩)
      · exact .inr (.inr (List.mem_cons_of_mem _ h))
    · rcases List.mem_cons.1 h with rfl | h
      · exact .inr (.inr (by simp))
      · rcases ins_mem h with ⟨h1, h2⟩ | ⟨h1, h2, h3⟩ | h1
        · exact .inl ⟨List.mem_cons_of_mem _ h1, h2⟩
        · refine .inr (.inl ⟨h1, h2, h3.imp id (fun ⟨e', h4, h5⟩ => ⟨e', List.mem_cons_of_mem _ h4, h5⟩)⟩)
        · exact .inr (.inr (List.mem_cons_of_mem _ h1))
theorem ins_keys (k : K) (v : V) (n : Nat) : ∀ (l : List (Ent K V)), (ins k v n l).map (·.key) = if hasK k l then l.map (·.key) else l.map (·.key) ++ [k]
  | [] => rfl
  | e :: l => by
    simp only [ins, hasK, look]
    split
    · rfl
    · have := ins_keys k v n l
      unfold hasK at this
      simp only [List.map_cons, this]
      split <;> rfl
theorem ins_borns (k : K) (v : V) (n : Nat) : ∀ (l : List (Ent K V)), (ins k v n l).map (·.born) = if hasK k l then l.map (·.born) else l.map (·.born) ++ [n]
  | [] => rfl
  | e :: l => by
    simp only [ins, hasK, look]
    split
    · rfl
    · have := ins_borns k v n l
      unfold hasK at this
      simp only [List.map_cons, this]
      split <;> rfl
theorem hasK_iff {k : K} {l : List (Ent K V)} : hasK k l = true ↔ k ∈ l.map (·.key) := by
  unfold hasK
  cases h : look k l with
  | none =>
    have := look_none.1 h
    simp only [Option.isSome_none, Bool.false_eq_true, List.mem_map, false_iff, not_exists, not_and]
    exact fun e he hk => this e he hk
  | some v =>
    simp only [Option.isSome_some, List.mem_map, true_iff]
    have h2 := fk_look k l 0
    rw [h] at h2
    cases hf : fk k l 0 with
    | none => rw [hf] at h2; cases h2
    | some p =>
      obtain ⟨_, e, he, hk, _⟩ := fk_some (j := p.1) (v := p.2) hf
      exact ⟨e, List.mem_of_getElem? he, hk⟩
omit [DecidableEq K] in
theorem nodup_keys {l : List (Ent K V)} (h : l.Pairwise fun a b => a.key ≠ b.key) : (l.map (·.key)).Nodup := List.pairwise_map.2 h
def clockAfter (k : K) (l : List (Ent K V)) (n : Nat) : Nat := if hasK k l then n else n + 1
theorem Fine.ins {l : List (Ent K V)} {n : Nat} (h : Fine l n) (k : K) (v : V) : Fine (ins k v n l) (clockAfter k l n) := by
  refine ⟨List.pairwise_map.1 (show (((Go.Proofs.Ytgbgedaedcofcaa.ins k v n l).map (·.key)).Pairwise (· ≠ ·)) from ?_), ?_, fun e he => ?_⟩
  · rw [ins_keys]
    split
    · exact nodup_keys h.keys
    · rename_i hk
      refine List.pairwise_append.2 ⟨nodup_keys h.keys, List.pairwise_singleton _ _, fun a ha b hb => ?_⟩
      obtain rfl := List.mem_singleton.1 hb
      rintro rfl
      exact hk (hasK_iff.2 ha)
  · rw [ins_borns]
    split
    · exact h.borns
    · refine List.pairwise_append.2 ⟨h.borns, List.pairwise_singleton _ _, fun a ha b hb => ?_⟩
      obtain rfl := List.mem_singleton.1 hb
      obtain ⟨e, he, rfl⟩ := List.mem_map.1 ha
      have := h.lt e he
      omega
  · have hb : e.born ∈ (Go.Proofs.Ytgbgedaedcofcaa.ins k v n l).map (·.born) := List.mem_map.2 ⟨e, he, rfl⟩
    rw [ins_borns] at hb
    unfold clockAfter
    split at hb
    · rename_i hk
      rw [if_pos hk]
      obtain ⟨e', he', hq⟩ := List.mem_map.1 hb
      rw [← hq]
      exact h.lt e' he'
    · rename_i hk
      rw [if_neg hk]
      rcases List.mem_append.1 hb with hb | hb
      · obtain ⟨e', he', hq⟩ := List.mem_map.1 hb
        have := h.lt e' he'
        omega
      · have := List.mem_singleton.1 hb
        omega
theorem del_sub (k : K) : ∀ (l : List (Ent K V)), (del k l).Sublist l
  | [] => .slnil
  | e :: l => by
    simp only [del]
    split
    · exact List.sublist_cons_self _ _
    · exact (del_sub k l).cons_cons _
theorem Fine.del {l : List (Ent K V)} {n : Nat} (h : Fine l n) (k : K) : Fine (del k l) n :=
  ⟨h.keys.sublist (del_sub k l), h.borns.sublist ((del_sub k l).map _), fun e he => h.lt e ((del_sub k l).subset he)⟩

/-- block g is the map -/
structure Mp (enc : K → Value) (encV : V → Value) (w : World) (g : Nat) (l : List (Ent K V)) (clock : Nat) : Prop where
  blk : w.heap[g]? = some (.map (l.map (toE enc encV)).toArray clock)
  fine : Fine l clock
omit [DecidableEq K] in
theorem Mp.size {w : World} {g : Nat} {l : List (Ent K V)} {clock : Nat} (h : Mp enc encV w g l clock) : g < w.heap.size := by
  have := h.blk
  rcases Nat.lt_or_ge g w.heap.size with h1 | h1
  · exact h1
  · rw [Array.getElem?_eq_none h1] at this; cases this

def lookV (ok : Bool) (v : Value) (b : Bool) : Value := if ok then .tuple #[v, .bool b] else v
theorem run_look {t et : TypeId} {w : World} {g : Nat} {l : List (Ent K V)} {clock : Nat} (h : KT P kt enc) (ht : P.underlying t = some (.map kt et)) {zv : V} (hz : ∀ w, (zeroValue et).run P w = .ok (encV zv) w) (hM : Mp enc encV w g l clock) (k : K) (ok : Bool) :
    (Instr.lookup t (.map (some g)) (enc k) ok).run P w = .ok (lookV ok (encV ((look k l).getD zv)) (hasK k l)) w := by
  unfold Instr.lookup
  simp only [Sem.run_bind, run_underlying ht, Result.andThen_ok, MapKept.run_getObj_map hM.blk, Sem.run_pure, h.chk]
  have hf := run_findKey (encV := encV) h k l w
  rw [hf]
  have h2 := fk_look k l 0
  unfold hasK
  rw [← h2]
  cases fk k l 0 with
  | none => simp [hz, lookV]
  | some p => simp [lookV]
theorem run_look_nil {t et : TypeId} {w : World} (h : KT P kt enc) (ht : P.underlying t = some (.map kt et)) {zv : V} (hz : ∀ w, (zeroValue et).run P w = .ok (encV zv) w) (k : K) (ok : Bool) :
    (Instr.lookup t (.map none) (enc k) ok).run P w = .ok (lookV ok (encV zv) false) w := by
  unfold Instr.lookup
  simp only [Sem.run_bind, run_underlying ht, Result.andThen_ok, Sem.run_pure, h.chk]
  have hf := run_findKey (V := V) (encV := encV) h k [] w
  simp only [List.map_nil] at hf
  rw [hf]
  simp [fk, hz, lookV]
theorem run_update {t et : TypeId} {w : World} {g : Nat} {l : List (Ent K V)} {clock : Nat} (h : KT P kt enc) (ht : P.underlying t = some (.map kt et)) (hM : Mp enc encV w g l clock) (k : K) (v : V) :
    (Instr.mapUpdate t (.map (some g)) (enc k) (encV v)).run P w = .ok () (setBlock w g (.map ((ins k v clock l).map (toE enc encV)).toArray (clockAfter k l clock))) := by
  unfold Instr.mapUpdate
  simp only [Sem.run_bind, run_underlying ht, Result.andThen_ok, MapKept.run_getObj_map hM.blk, h.chk]
  have hf := run_findKey (encV := encV) h k l w
  rw [hf]
  have h2 := fk_look k l 0
  cases hfk : fk k l 0 with
  | none =>
    rw [hfk] at h2
    have hl : look k l = none := h2.symm
    simp only [Option.map_none, Result.andThen_ok, MapKept.run_setObj_map _ hM.blk]
    rw [look_none_ins v clock hl]
    have hk : hasK k l = false := by unfold hasK; rw [hl]; rfl
    simp [clockAfter, hk, setBlock, toE]
  | some p =>
    obtain ⟨j, v0⟩ := p
    rw [hfk] at h2
    have hk : hasK k l = true := by unfold hasK; rw [← h2]; rfl
    obtain ⟨_, e, he, hek, _⟩ := fk_some hfk
    simp only [Nat.sub_zero] at he
    simp only [Option.map_some, Result.andThen_ok]
    have e1 : ((l.map (toE enc encV)).toArray[j]?).map (·.key) = some (enc k) := by simp [he, toE, hek]
    have e2 : (Instr.keyThatStays (enc k) (enc k)).run P w = .ok (enc k) w := by unfold Instr.keyThatStays; rw [if_pos (h.bits k)]; rfl
    rw [e1]
    simp only [Option.getD_some, Sem.run_bind, e2, Result.andThen_ok, MapKept.run_setObj_map _ hM.blk]
    have e3 := fk_ins v clock hfk
    simp only [Nat.sub_zero] at e3
    rw [e3]
    simp only [clockAfter, hk, if_true, setBlock]
    congr 2
    congr 1
    congr 1
    apply Array.ext'
    rw [Array.toList_modify]
    apply List.ext_getElem?
    intro i
    simp only [List.getElem?_modify, List.getElem?_map]
    by_cases hij : j = i
    · subst hij
      simp only [he, Option.map_some, if_true, toE, hek]
      show some _ = some _
      rw [show toE enc encV ⟨e.key, v, e.born⟩ = ⟨enc k, encV v, e.born⟩ by rw [← hek]; rfl]
    · simp [hij]
theorem run_delete {t et : TypeId} {w : World} {g : Nat} {l : List (Ent K V)} {clock : Nat} (h : KT P kt enc) (ht : P.underlying t = some (.map kt et)) (hM : Mp enc encV w g l clock) (k : K) (ty : TypeId) :
    (Builtin.delete_ #[t, kt] ty #[.map (some g), enc k]).run P w = .ok (.tuple #[]) (setBlock w g (.map ((del k l).map (toE enc encV)).toArray clock)) := by
  unfold Builtin.delete_
  simp only [List.getElem?_toArray, List.getElem?_cons_zero, List.getElem?_cons_succ, Sem.run_bind, run_underlying ht, Result.andThen_ok, MapKept.run_getObj_map hM.blk, h.chk]
  have hf := run_findKey (encV := encV) h k l w
  rw [hf]
  have h2 := fk_look k l 0
  cases hfk : fk k l 0 with
  | none =>
    rw [hfk] at h2
    have hl : look k l = none := h2.symm
    simp only [Option.map_none, Result.andThen_ok, Sem.run_bind, MapKept.run_setObj_map _ hM.blk, Sem.run_pure]
    rw [look_none_del hl]
    rfl
  | some p =>
    obtain ⟨j, v0⟩ := p
    simp only [Option.map_some, Result.andThen_ok, Sem.run_bind, MapKept.run_setObj_map _ hM.blk, Sem.run_pure]
    have e3 := fk_del hfk
    simp only [Nat.sub_zero] at e3
    rw [e3]
    have e4 : (l.map (toE enc encV)).toArray.eraseIdxIfInBounds j = ((l.eraseIdx j).map (toE enc encV)).toArray := by
      apply Array.ext'
      simp [Array.eraseIdxIfInBounds, ChangeMaps.map_eraseIdx]
      split
      · simp
      · rename_i hlt
        rw [List.eraseIdx_of_length_le (by simpa using Nat.le_of_not_lt hlt)]
    simp [setBlock, e4]
theorem run_delete_nil {t et : TypeId} {w : World} (h : KT P kt enc) (ht : P.underlying t = some (.map kt et)) (k : K) (ty : TypeId) :
    (Builtin.delete_ #[t, kt] ty #[.map none, enc k]).run P w = .ok (.tuple #[]) w := by
  unfold Builtin.delete_
  simp [run_underlying ht, h.chk]
omit [DecidableEq K] in
theorem Mp.set {w : World} {g : Nat} {l : List (Ent K V)} {clock : Nat} (hM : Mp enc encV w g l clock) {l' : List (Ent K V)} {clock' : Nat} (hf : Fine l' clock') : Mp enc encV (setBlock w g (.map (l'.map (toE enc encV)).toArray clock')) g l' clock' :=
  ⟨by
    have := hM.size
    simp [setBlock, this], hf⟩
theorem Kept.setBlock (w : World) (g : Nat) (o : Obj) : Kept (fun k => k = g) w (setBlock w g o) :=
  ⟨rfl, rfl, rfl, by simp [Go.ChangeMaps.setBlock], fun k _ hk => by simp only [Go.ChangeMaps.setBlock]; rw [Array.getElem?_setIfInBounds_ne (fun e => hk e.symm)]⟩
end
end
end Go.Proofs.Ytgbgedaedcofcaa
