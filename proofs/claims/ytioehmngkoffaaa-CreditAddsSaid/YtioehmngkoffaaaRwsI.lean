/-
  A map of rows of whole numbers, each its own; the operations that look up an entry and store into it. Over any program.
  Maps: an entry is looked up, or made, and then stored into. Over any program.
  A row of one's own grows, and where it lies then. Over any program.
-/
import Derived.Test.YtioehmngkoffaaaMapL
import Derived.WideKeyEntry
namespace Go.Proofs.Ytioehmngkoffaaa
section
section
open Go Go.RowKit
open Go.ChangeMaps (setBlock)

/-- each entry's value is a row of its own; f: what is in it -/
structure Rws {K : Type} (ρ : Nm) (rs : List Reg) (w : World) (B : Nat) (l : List (Ent K Value)) (f : K → List Int) : Prop where
  own : ∀ e ∈ l, Own ρ rs w B 3 1 e.val (f e.key).length (ints (f e.key))
  apart : l.Pairwise fun a b => ∀ g, a.val.ownBlock = some g → b.val.ownBlock ≠ some g
section
variable {K : Type} {ρ ρ' : Nm} {rs rs' : List Reg} {w w' : World} {B : Nat} {l : List (Ent K Value)} {f : K → List Int}
theorem Rws.map (h : Rws ρ rs w B l f) (hf : ∀ e ∈ l, Own ρ rs w B 3 1 e.val (f e.key).length (ints (f e.key)) → Own ρ' rs' w' B 3 1 e.val (f e.key).length (ints (f e.key))) : Rws ρ' rs' w' B l f := ⟨fun e he => hf e he (h.own e he), h.apart⟩
theorem Rws.moved (h : Rws ρ rs w B l f) (hm : Moved ρ rs w ρ' rs' w') : Rws ρ' rs' w' B l f := h.map fun _ _ h => h.moved hm
theorem Rws.below (h : Rws ρ rs w B l f) (hb : Below w.heap.size w w') : Rws ρ rs w' B l f := h.map fun _ _ h => h.below hb
theorem Rws.drew (h : Rws ρ rs w B l f) : Rws ρ rs w.drew B l f := h.map fun _ _ h => h.drew
theorem Rws.castR (h : Rws ρ rs w B l f) (e : rs = rs') : Rws ρ rs' w B l f := e ▸ h
theorem Rws.turnM (h : Rws ρ rs w B l f) {g : Nat} (ht : TurnM g w w') : Rws ρ rs w' B l f := h.map fun _ _ h => h.turnM ht
theorem Rws.turnI (h : Rws ρ rs w B l f) {g : Nat} (ht : TurnI g w w') : Rws ρ rs w' B l f := h.map fun _ _ h => h.turnI ht
theorem Rws.cut {N : Nat} (h : Rws ρ' rs' w B l f) (hag : Ag N ρ ρ' rs') (hN : rs.length = N) (e0 : rs'.take N = rs) : Rws ρ rs w B l f := h.map fun _ _ h => h.cut hag hN e0
theorem Rws.nil : Rws ρ rs w B ([] : List (Ent K Value)) f := ⟨fun _ h => absurd h List.not_mem_nil, List.Pairwise.nil⟩
theorem pw_ne {α : Type} {R : α → α → Prop} (hs : ∀ a b, R a b → R b a) : ∀ {l : List α}, l.Pairwise R → ∀ {a b : α}, a ∈ l → b ∈ l → a ≠ b → R a b
  | [], _, _, _, h, _, _ => absurd h List.not_mem_nil
  | x :: l, hp, a, b, ha, hb, hab => by
    have hp1 := List.pairwise_cons.1 hp
    rcases List.mem_cons.1 ha with rfl | ha1 <;> rcases List.mem_cons.1 hb with rfl | hb1
    · exact absurd rfl hab
    · exact hp1.1 _ hb1
    · exact hs _ _ (hp1.1 _ ha1)
    · exact pw_ne hs hp1.2 ha1 hb1 hab
theorem Rws.ne (h : Rws ρ rs w B l f) {a b : Ent K Value} (ha : a ∈ l) (hb : b ∈ l) (hab : a ≠ b) {g : Nat} (h1 : a.val.ownBlock = some g) : b.val.ownBlock ≠ some g :=
  pw_ne (R := fun a b : Ent K Value => ∀ g, a.val.ownBlock = some g → b.val.ownBlock ≠ some g) (fun _ _ hxy g hg1 hg2 => hxy g hg2 hg1) h.apart ha hb hab g h1
variable [DecidableEq K]
def nilRow : Value := .slice none 0 0
theorem look_in {k : K} {v : Value} (h : look k l = some v) : ∃ e ∈ l, e.key = k ∧ e.val = v := look_mem h
/-- what lies at a key -/
theorem Rws.at_ (h : Rws ρ rs w B l f) {k : K} (hf : look k l = none → f k = []) : Own ρ rs w B 3 1 ((look k l).getD nilRow) (f k).length (ints (f k)) := by
  cases hl : look k l with
  | none =>
    rw [hf hl]
    exact ⟨World.ownsRow_nil _ _ _ _, fun _ h => by cases h⟩
  | some v =>
    obtain ⟨e, he, rfl, rfl⟩ := look_in hl
    exact h.own e he
theorem ins_apart {k : K} {v' : Value} {n : Nat} {R : Value → Value → Prop} (hs : ∀ a b, R a b → R b a) : ∀ {l : List (Ent K Value)}, l.Pairwise (fun a b => R a.val b.val) → (∀ e ∈ l, e.key ≠ k → R e.val v') → (l.Pairwise fun a b => a.key ≠ b.key) → (ins k v' n l).Pairwise fun a b => R a.val b.val
  | [], _, _, _ => by simp [ins]
  | e :: l, hp, hk, hq => by
    have hp1 := List.pairwise_cons.1 hp
    have hq1 := List.pairwise_cons.1 hq
    simp only [ins]
    split
    · rename_i hke
      refine List.pairwise_cons.2 ⟨fun b hb => hs _ _ (hk b (by simp [hb]) (fun e' => hq1.1 b hb (by rw [e', hke]))), hp1.2⟩
    · rename_i hke
      refine List.pairwise_cons.2 ⟨fun b hb => ?_, ins_apart hs hp1.2 (fun x hx => hk x (by simp [hx])) hq1.2⟩
      rcases ins_mem hb with ⟨h1, _⟩ | ⟨_, h1, _⟩ | h1
      · exact hp1.1 b h1
      · rw [h1]
        exact hk e (by simp) (fun e' => hke e'.symm)
      · exact hp1.1 b h1
theorem ins_mem2 {k : K} {v : Value} {n : Nat} {x : Ent K Value} : ∀ {l : List (Ent K Value)}, (l.Pairwise fun a b => a.key ≠ b.key) → x ∈ ins k v n l → (x ∈ l ∧ x.key ≠ k) ∨ (x.key = k ∧ x.val = v)
  | [], _, h => by
    obtain rfl := List.mem_singleton.1 h
    exact .inr ⟨rfl, rfl⟩
  | e :: l, hq, h => by
    have hq1 := List.pairwise_cons.1 hq
    simp only [ins] at h
    split at h
    · rename_i hk
      rcases List.mem_cons.1 h with rfl | h
      · exact .inr ⟨hk.symm, rfl⟩
      · exact .inl ⟨by simp [h], fun e' => hq1.1 x h (by rw [e', hk])⟩
    · rename_i hk
      rcases List.mem_cons.1 h with rfl | h
      · exact .inl ⟨by simp, fun e' => hk e'.symm⟩
      · rcases ins_mem2 hq1.2 h with ⟨h1, h2⟩ | h1
        · exact .inl ⟨by simp [h1], h2⟩
        · exact .inr h1
/-- the other rows, where one has grown -/
theorem Rws.others (h : Rws ρ rs w B l f) {k : K} {e : Ent K Value} (he : e ∈ l) (hk : e.key ≠ k) (hg : w.grownBy w' ((look k l).getD nilRow).ownBlock) : Own ρ rs w' B 3 1 e.val (f e.key).length (ints (f e.key)) :=
  (h.own e he).grown hg fun g h1 h2 => by
    cases hl : look k l with
    | none => rw [hl] at h2; cases h2
    | some v =>
      rw [hl] at h2
      obtain ⟨e2, he2, hk2, rfl⟩ := look_in hl
      have hne : e ≠ e2 := fun h3 => hk (by rw [h3]; exact hk2)
      exact h.ne he he2 hne h1 h2
/-- a row has grown and is put back -/
theorem Rws.put (h : Rws ρ rs w B l f) {clock : Nat} (hf : Fine l clock) {k : K} {v' : Value} {f' : K → List Int} (hf1 : ∀ q, q ≠ k → f' q = f q) (hg : w.grownBy w' ((look k l).getD nilRow).ownBlock) (hv : Own ρ rs w' B 3 1 v' (f' k).length (ints (f' k))) (hat : v'.ownBlock = ((look k l).getD nilRow).ownBlock ∨ ∃ q, w.heap.size ≤ q ∧ v'.ownBlock = some q) (n : Nat) : Rws ρ rs w' B (ins k v' n l) f' := by
  refine ⟨fun e he => ?_, ins_apart (R := fun a b => ∀ g, a.ownBlock = some g → b.ownBlock ≠ some g) (fun a b hab g h1 h2 => hab g h2 h1) h.apart (fun e he hk g h1 h2 => ?_) hf.keys⟩
  · rcases ins_mem2 hf.keys he with ⟨h1, h2⟩ | ⟨h1, h2⟩
    · rw [hf1 _ h2]
      exact h.others h1 h2 hg
    · rw [h1, h2]
      exact hv
  · rcases hat with e1 | ⟨q, hq, e1⟩
    · rw [e1] at h2
      cases hl : look k l with
      | none => rw [hl] at h2; cases h2
      | some v =>
        rw [hl] at h2
        obtain ⟨e2, he2, hk2, rfl⟩ := look_in hl
        have hne : e ≠ e2 := fun h3 => hk (by rw [h3]; exact hk2)
        exact h.ne he he2 hne h1 h2
    · rw [e1] at h2
      injection h2 with h2
      have := own_lt (h.own e he).own h1
      omega
end
end
end

section
section
open Go Go.RowKit
open Go.ChangeMaps (setBlock)

section
variable {P : Program} {kt : TypeId} {K V : Type} [DecidableEq K] {enc : K → Value} {encV : V → Value}
/-- the entry of a key, made if it is not there -/
def entL (k : K) (zv : V) (n : Nat) (l : List (Ent K V)) : List (Ent K V) := if hasK k l = true then l else l ++ [⟨k, zv, n⟩]
def bornK (k : K) : List (Ent K V) → Nat
  | [] => 0
  | e :: l => if k = e.key then e.born else bornK k l
theorem entL_ins {k : K} {zv : V} {n : Nat} {l : List (Ent K V)} (h : hasK k l = false) : entL k zv n l = ins k zv n l := by
  unfold entL
  rw [if_neg (by rw [h]; simp)]
  unfold hasK at h
  exact (look_none_ins zv n (by simpa using h)).symm
theorem entL_has (k : K) (zv : V) (n : Nat) (l : List (Ent K V)) : hasK k (entL k zv n l) = true := by
  cases h : hasK k l with
  | true => unfold entL; rw [if_pos h]; exact h
  | false =>
    rw [entL_ins h]
    refine hasK_iff.2 ?_
    rw [ins_keys, h]
    simp
theorem entL_look (k : K) (zv : V) (n : Nat) (l : List (Ent K V)) (q : K) : look q (entL k zv n l) = if q = k then some ((look k l).getD zv) else look q l := by
  cases h : hasK k l with
  | true =>
    unfold entL
    rw [if_pos h]
    split
    · rename_i hq
      subst hq
      unfold hasK at h
      obtain ⟨v, hv⟩ := Option.isSome_iff_exists.1 h
      rw [hv]
      rfl
    · rfl
  | false =>
    rw [entL_ins h, look_ins]
    split
    · have : look k l = none := by unfold hasK at h; simpa using h
      rw [this]
      rfl
    · rfl
theorem Fine.entL {l : List (Ent K V)} {n : Nat} (h : Fine l n) (k : K) (zv : V) : Fine (entL k zv n l) (clockAfter k l n) := by
  cases hk : hasK k l with
  | true =>
    unfold Go.Proofs.Ytioehmngkoffaaa.entL clockAfter
    rw [if_pos hk, if_pos hk]
    exact h
  | false =>
    rw [entL_ins hk]
    exact h.ins k zv
theorem fk_born {k : K} : ∀ {l : List (Ent K V)} {i j : Nat} {v : V}, fk k l i = some (j, v) → ∃ e, l[j - i]? = some e ∧ e.key = k ∧ e.born = bornK k l
  | [], _, _, _, h => by cases h
  | e :: l, i, j, v, h => by
    simp only [fk] at h
    split at h
    · rename_i hk
      simp only [Option.some.injEq, Prod.mk.injEq] at h
      obtain ⟨rfl, rfl⟩ := h
      exact ⟨e, by simp, hk.symm, by simp [bornK, hk]⟩
    · rename_i hk
      obtain ⟨h1, _⟩ := fk_some h
      obtain ⟨e', h2, h3, h4⟩ := fk_born h
      refine ⟨e', ?_, h3, by rw [h4]; simp [bornK, hk]⟩
      rw [show j - i = (j - (i + 1)) + 1 by omega, List.getElem?_cons_succ]
      exact h2
theorem bornK_new {k : K} {zv : V} {n : Nat} : ∀ {l : List (Ent K V)}, look k l = none → bornK k (l ++ [⟨k, zv, n⟩]) = n
  | [], _ => by simp [bornK]
  | e :: l, h => by
    simp only [look] at h
    split at h
    · cases h
    · rename_i hk
      simp [bornK, hk, bornK_new h]
theorem run_entry {t et : TypeId} {w : World} {g : Nat} {l : List (Ent K V)} {clock : Nat} (h : KT P kt enc) (ht : P.underlying t = some (.map kt et)) {zv : V} (hz : ∀ w, (zeroValue et).run P w = .ok (encV zv) w) (hM : Mp enc encV w g l clock) (k : K) :
    (Instr.mapEntry t (.map (some g)) (enc k)).run P w = .ok (.tuple #[encV ((look k l).getD zv), .int .i64 (bornK k (entL k zv clock l))]) (setBlock w g (.map ((entL k zv clock l).map (toE enc encV)).toArray (clockAfter k l clock))) := by
  unfold Instr.mapEntry
  simp only [Sem.run_bind, run_underlying ht, Result.andThen_ok, MapKept.run_getObj_map hM.blk, h.chk]
  have hf := run_findKey (encV := encV) h k l w
  rw [hf]
  have h2 := fk_look k l 0
  cases hfk : fk k l 0 with
  | none =>
    rw [hfk] at h2
    have hl : look k l = none := h2.symm
    have hk : hasK k l = false := by unfold hasK; rw [hl]; rfl
    have he : entL k zv clock l = l ++ [⟨k, zv, clock⟩] := by unfold entL; rw [if_neg (by rw [hk]; simp)]
    simp only [Option.map_none, Result.andThen_ok, hz, Sem.run_bind, MapKept.run_setObj_map _ hM.blk, Sem.run_pure]
    rw [he, bornK_new hl, hl]
    simp [clockAfter, hk, setBlock, toE, goInt]
  | some p =>
    obtain ⟨j, v0⟩ := p
    rw [hfk] at h2
    have hk : hasK k l = true := by unfold hasK; rw [← h2]; rfl
    obtain ⟨e, he, hek, heb⟩ := fk_born hfk
    simp only [Nat.sub_zero] at he
    simp only [Option.map_some, Result.andThen_ok]
    have e1 : ((l.map (toE enc encV)).toArray[j]?).map (·.key) = some (enc k) := by simp [he, toE, hek]
    have e4 : ((l.map (toE enc encV)).toArray[j]?).map (fun x => (x.born : Int)) = some ((bornK k l : Nat) : Int) := by simp [he, toE, heb]
    have e2 : (Instr.keyThatStays (enc k) (enc k)).run P w = .ok (enc k) w := by unfold Instr.keyThatStays; rw [if_pos (h.bits k)]; rfl
    rw [e1, e4]
    simp only [Option.getD_some, Sem.run_bind, e2, Result.andThen_ok, MapKept.run_setObj_map _ hM.blk, Sem.run_pure]
    have he2 : entL k zv clock l = l := by unfold entL; rw [if_pos hk]
    rw [he2]
    have hlk : look k l = some v0 := by rw [← h2]; rfl
    rw [hlk]
    simp only [clockAfter, hk, if_true, setBlock, goInt, Option.getD_some]
    congr 2
    congr 1
    congr 1
    apply Array.ext'
    rw [Array.toList_modify]
    apply List.ext_getElem?
    intro i
    simp only [List.getElem?_modify, List.getElem?_map]
    by_cases hij : j = i
    · subst hij
      simp only [he, Option.map_some, if_true, toE, hek]
      rfl
    · simp [hij]
theorem has_fk {k : K} {l : List (Ent K V)} (h : hasK k l = true) : ∃ j v, fk k l 0 = some (j, v) := by
  unfold hasK at h
  have h2 := fk_look k l 0
  cases hf : fk k l 0 with
  | none => rw [hf] at h2; rw [← h2] at h; cases h
  | some p => exact ⟨p.1, p.2, rfl⟩
theorem run_entryStore {t : TypeId} {w : World} {g : Nat} {l : List (Ent K V)} {clock : Nat} (hM : Mp enc encV w g l clock) (k : K) (hk : hasK k l = true) (v : V) (n : Nat) :
    (Instr.entryStore t (.map (some g)) (.int .i64 (bornK k l)) (encV v)).run P w = .ok () (setBlock w g (.map ((ins k v n l).map (toE enc encV)).toArray clock)) := by
  obtain ⟨j, v0, hfk⟩ := has_fk hk
  obtain ⟨e, he, hek, heb⟩ := fk_born hfk
  simp only [Nat.sub_zero] at he
  have hn : ((l.map (toE enc encV)).map (·.born)).Nodup := by
    rw [List.map_map]
    exact hM.fine.borns
  have hfi : (l.map (toE enc encV)).toArray.findIdx? (fun x => ((x.born : Nat) : Int) == ((bornK k l : Nat) : Int)) = some j := by
    rw [WideElems.findIdx_arr]
    have h1 := WideElems.findIdx_born hn (j := j) (e0 := toE enc encV e) (by simp [he])
    rw [← heb]
    exact h1
  unfold Instr.entryStore
  simp only [Sem.run_bind, MapKept.run_getObj_map hM.blk, Result.andThen_ok, asInt, asIntOf, Sem.run_pure]
  rw [hfi]
  simp only [MapKept.run_setObj_map _ hM.blk, setBlock]
  have e3 := fk_ins v n hfk
  simp only [Nat.sub_zero] at e3
  rw [e3]
  congr 2
  congr 1
  congr 1
  apply Array.ext'
  rw [Array.toList_modify]
  apply List.ext_getElem?
  intro i
  simp only [List.getElem?_modify, List.getElem?_map]
  by_cases hij : j = i
  · subst hij
    simp only [he, Option.map_some, if_true, toE]
    rfl
  · simp [hij]
def entOp (tmps : List LV) (o : Oper) : Option (TypeId × LV × LV) := match o.op with
  | .mapEntry t m k => some (t, evalL tmps m, evalL tmps k)
  | _ => none
def estOp (tmps : List LV) (o : Oper) : Option (TypeId × LV × LV × LV) := match o.op with
  | .entryStore t m s x => some (t, evalL tmps m, evalL tmps s, evalL tmps x)
  | _ => none
def entOf (c : Cfg) := (topOp c).bind (entOp c.tmps)
def estOf (c : Cfg) := (topOp c).bind (estOp c.tmps)
theorem entOp_run {ρ : Nm} {w w' : World} {tmps : List LV} {o : Oper} {t : TypeId} {m k : LV} (h : entOp tmps o = some (t, m, k)) {v : Value} (hr : (Instr.mapEntry t (m.den ρ) (k.den ρ)).run P w = .ok v w') : (execOp (act ρ tmps).eval o).run P w = .ok (.value v) w' := by
  unfold entOp at h
  split at h
  · rename_i hop
    simp only [Option.some.injEq, Prod.mk.injEq] at h
    obtain ⟨rfl, rfl, rfl⟩ := h
    unfold execOp
    simp [hop, act_eval, hr]
  · cases h
theorem estOp_run {ρ : Nm} {w w' : World} {tmps : List LV} {o : Oper} {t : TypeId} {m k x : LV} (h : estOp tmps o = some (t, m, k, x)) (hr : (Instr.entryStore t (m.den ρ) (k.den ρ) (x.den ρ)).run P w = .ok () w') : (execOp (act ρ tmps).eval o).run P w = .ok .skip w' := by
  unfold estOp at h
  split at h
  · rename_i hop
    simp only [Option.some.injEq, Prod.mk.injEq] at h
    obtain ⟨rfl, rfl, rfl, rfl⟩ := h
    unfold execOp
    simp [hop, act_eval, hr]
  · cases h
variable {Q : Exit → Act → World → Prop} {T : List Nat} {w0 w : World} {ρ : Nm} {c : Cfg}
/-- an entry is looked up, or made -/
theorem sim_ment {t et : TypeId} {mx kx : LV} (k : K) (h : entOf c = some (t, mx, kx)) (ht : P.underlying t = some (.map kt et)) (hK : KT P kt enc) {zv : V} (hz : ∀ w, (zeroValue et).run P w = .ok (encV zv) w) {g : Nat} {l : List (Ent K V)} {clock : Nat} (hM : MpO enc encV ρ c.rs w (some g) l clock)
    (hm : mx.den ρ = .map (some g)) (hk : kx.den ρ = enc k) (hT : g ∈ T ∨ w0.heap.size ≤ g) (hR : Rel T w0 ρ c.rs w) (y : LV) (hy : y.den ρ = encV ((look k l).getD zv))
    (next : ∀ w', TurnM g w w' → MpO enc encV ρ c.rs w' (some g) (entL k zv clock l) (clockAfter k l clock) → Rel T w0 ρ c.rs w' → At P Q (nextC c (.tup [y, LI (bornK k (entL k zv clock l) : Nat)]) c.rs) ρ w') : At P Q c ρ w := by
  obtain ⟨o, ho, h2⟩ := Option.bind_eq_some_iff.1 h
  have h1 := (hM.is g rfl).1
  have hr := run_entry hK ht hz h1 k
  rw [← hm, ← hk, ← hy] at hr
  exact sim_turn o ho (.tup [y, LI (bornK k (entL k zv clock l) : Nat)]) _ (.inl (entOp_run h2 hr)) (next _ ⟨Kept.setBlock _ _ _, _, _, h1.blk⟩ (hM.set (h1.fine.entL k zv)) (hR.turn h1.blk (fun _ _ _ e => (by cases e)) hT))
/-- a value is put into an entry -/
theorem sim_mest {t : TypeId} {mx sx vx : LV} (k : K) (v : V) (n : Nat) (h : estOf c = some (t, mx, sx, vx)) {g : Nat} {l : List (Ent K V)} {clock : Nat} (hM : MpO enc encV ρ c.rs w (some g) l clock) (hk : hasK k l = true)
    (hm : mx.den ρ = .map (some g)) (hs : sx.den ρ = .int .i64 (bornK k l : Nat)) (hv : vx.den ρ = encV v) (hT : g ∈ T ∨ w0.heap.size ≤ g) (hR : Rel T w0 ρ c.rs w)
    (next : ∀ w', TurnM g w w' → MpO enc encV ρ c.rs w' (some g) (ins k v n l) clock → Rel T w0 ρ c.rs w' → At P Q (nextC c (.v undef) c.rs) ρ w') : At P Q c ρ w := by
  obtain ⟨o, ho, h2⟩ := Option.bind_eq_some_iff.1 h
  have h1 := (hM.is g rfl).1
  have hr := run_entryStore (P := P) (t := t) h1 k hk v n
  rw [← hm, ← hs, ← hv] at hr
  have hf := h1.fine.ins k v
  have hf2 : Fine (ins k v n l) clock := by
    obtain ⟨j, v0, hfk⟩ := has_fk hk
    have e1 : ins k v n l = ins k v clock l := by rw [fk_ins v n hfk, fk_ins v clock hfk]
    rw [e1]
    unfold clockAfter at hf
    rw [if_pos hk] at hf
    exact hf
  exact sim_turn o ho (.v undef) _ (.inr ⟨estOp_run h2 hr, rfl⟩) (next _ ⟨Kept.setBlock _ _ _, _, _, h1.blk⟩ (hM.set hf2) (hR.turn h1.blk (fun _ _ _ e => (by cases e)) hT))
end
end
end
section
section
open Go Go.RowKit
section
variable {P : Program} {Q : Exit → Act → World → Prop} {T : List Nat} {w0 w : World} {ρ : Nm} {c : Cfg}
/-- a row of one's own grows; where it lies then -/
theorem sim_appendP (t : TypeId) (v : Value) (x : LV) (h : appOf c = some (t, .v v, x)) (hR : Rel T w0 ρ c.rs w) {base : Nat} {e : TypeId} {size bytes : Nat} (hty : RowTy P t e size bytes)
    {n : Nat} {xs : List Value} (hown : Own ρ c.rs w base e size v n xs) (q m cp : Nat) (hx : x = .slc q 0 m cp) (news : List LV) (hq : ((c.rs[q]?).map fun r => r.cells.take news.length) = some news) (hl : news.length = m * size) (h1 : news.all oneL = true)
    (h63 : n + m ≤ maxLen) (hbytes : (n + m) * bytes ≤ 140737488355328) (hbase : base ≤ w.heap.size) (hw0 : ∀ g, v.ownBlock = some g → g ∈ T ∨ w0.heap.size ≤ g) (l : List Nat) (hro : roIdx c.rs 0 = l) (hidx : ∀ k ∈ l, ∀ g, v.ownBlock = some g → (ρ k).1 ≠ g)
    (next : ∀ v' w', Own ρ c.rs w' base e size v' (n + m) (xs ++ denL ρ news) → w.grownBy w' v.ownBlock → (v'.ownBlock = v.ownBlock ∨ v'.ownBlock = some w.heap.size) → Rel T w0 ρ c.rs w' → At P Q (nextC c (.v v') c.rs) ρ w') : At P Q c ρ w := by
  obtain ⟨i, z, h2, h3, h4, h5, h6, h7⟩ := hty.ex
  subst hx
  obtain ⟨r, hr, hrc⟩ : ∃ r, c.rs[q]? = some r ∧ r.cells.take news.length = news := by
    cases hc : c.rs[q]? with
    | none => rw [hc] at hq; cases hq
    | some r => rw [hc] at hq; exact ⟨r, rfl, by simpa using hq⟩
  refine sim_appendT t (.v v) (.slc q 0 m cp) h hR hty.ht h2 h3 h4 h5 h6 h7 rfl hown.own rfl news hl (fun j u hu => ?_) h1 h63 hbytes hbase hw0 (fun g hg k r' hk hne he => ?_) (fun v' w' ho hgr hat hR' => ?_)
  · rw [at_add, Nat.zero_add]
    refine hR.cell q r hr j u ?_
    rw [← hrc, List.getElem?_take] at hu
    split at hu
    · exact hu
    · cases hu
  · cases hw : r'.wr with
    | true => exact hown.far g hg ⟨k, r', hk, hw, he⟩
    | false =>
      have := roIdx_mem c.rs 0 k r' hk hw hne
      rw [hro, Nat.zero_add] at this
      exact hidx k this g hg he
  · refine next v' w' ⟨ho, fun g hg hw => ?_⟩ hgr hat hR'
    rcases hat with e' | e'
    · exact hown.far g (e' ▸ hg) hw
    · rw [e'] at hg
      injection hg with hg
      have := hR.wr_lt hw
      omega
/-- a row of one's own grows, in a region that draws -/
theorem sim_ord_appendP {c : OCfg} {ρs : Nm} (t : TypeId) (v : Value) (x : LV) (h : appOfO c = some (t, .v v, x)) (hR : RelO T w0 c ρs ρ w) {base : Nat} {e : TypeId} {size bytes : Nat} (hty : RowTy P t e size bytes)
    {n : Nat} {xs : List Value} (hown : Own ρ c.rs w base e size v n xs) (q m cp : Nat) (hx : x = .slc q 0 m cp) (news : List LV) (hq : ((c.rs[q]?).map fun r => r.cells.take news.length) = some news) (hl : news.length = m * size) (h1 : news.all oneL = true)
    (h63 : n + m ≤ maxLen) (hbytes : (n + m) * bytes ≤ 140737488355328) (hbase : base ≤ w.heap.size) (hw0 : ∀ g, v.ownBlock = some g → g ∈ T ∨ w0.heap.size ≤ g) (l : List Nat) (hro : roIdx c.rs 0 = l) (hidx : ∀ k ∈ l, ∀ g, v.ownBlock = some g → (ρ k).1 ≠ g)
    (next : ∀ v' w', Own ρ c.rs w' base e size v' (n + m) (xs ++ denL ρ news) → w.grownBy w' v.ownBlock → (v'.ownBlock = v.ownBlock ∨ v'.ownBlock = some w.heap.size) → RelO T w0 (nextO c (.v v') c.rs) ρs ρ w' → AtO P Q (nextO c (.v v') c.rs) ρs ρ w') : AtO P Q c ρs ρ w := by
  obtain ⟨i, z, h2, h3, h4, h5, h6, h7⟩ := hty.ex
  subst hx
  obtain ⟨r, hr, hrc⟩ : ∃ r, c.rs[q]? = some r ∧ r.cells.take news.length = news := by
    cases hc : c.rs[q]? with
    | none => rw [hc] at hq; cases hq
    | some r => rw [hc] at hq; exact ⟨r, rfl, by simpa using hq⟩
  refine sim_ord_appendT t (.v v) (.slc q 0 m cp) h hR hty.ht h2 h3 h4 h5 h6 h7 rfl hown.own rfl news hl (fun j u hu => ?_) h1 h63 hbytes hbase hw0 (fun g hg k r' hk hne he => ?_) (fun v' w' ho hgr hat hR' => ?_)
  · rw [at_add, Nat.zero_add]
    refine hR.rel.cell q r hr j u ?_
    rw [← hrc, List.getElem?_take] at hu
    split at hu
    · exact hu
    · cases hu
  · cases hw : r'.wr with
    | true => exact hown.far g hg ⟨k, r', hk, hw, he⟩
    | false =>
      have := roIdx_mem c.rs 0 k r' hk hw hne
      rw [hro, Nat.zero_add] at this
      exact hidx k this g hg he
  · refine next v' w' ⟨ho, fun g hg hw => ?_⟩ hgr hat hR'
    rcases hat with e' | e'
    · exact hown.far g (e' ▸ hg) hw
    · rw [e'] at hg
      injection hg with hg
      have := hR.rel.wr_lt hw
      omega
end
end
end
end Go.Proofs.Ytioehmngkoffaaa
