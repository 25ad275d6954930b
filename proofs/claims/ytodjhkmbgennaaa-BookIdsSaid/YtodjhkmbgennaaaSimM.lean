/-
  Rules for walks that are printed: a temporary written otherwise, a fork, an order gone so far. Over any program.
-/
import Derived.Test.YtodjhkmbgennaaaSimL
namespace Go.Proofs.Ytodjhkmbgennaaa
open Go Go.RowKit

section
variable {P : Program} {Q : Exit → Act → World → Prop} {T : List Nat} {w0 w : World} {ρ : Nm} {c : Cfg} {fn : Func} {R : Ending → World → Prop}
theorem act_set (ρ : Nm) (tmps : List LV) (t : Nat) (x : LV) (h : (evalL tmps (.tmp t)).den ρ = x.den ρ) : act ρ (tmps.set t x) = act ρ tmps := by
  unfold act
  congr 2
  apply List.ext_getElem?
  intro i
  rw [denL_get, denL_get, List.getElem?_set]
  by_cases e : t = i
  · subst e
    simp only [if_true, evalL] at h ⊢
    split
    · rename_i hl
      rw [List.getElem?_eq_getElem hl] at h ⊢
      simp only [Option.map_some, h]
    · rename_i hl
      rw [List.getElem?_eq_none (by omega)]
  · simp only [e, if_false]
abbrev setC (c : Cfg) (t : Nat) (x : LV) : Cfg := ⟨c.k, c.tmps.set t x, c.rs⟩
/-- a temporary's value, written otherwise -/
theorem sim_set (t : Nat) (x : LV) (h : (evalL c.tmps (.tmp t)).den ρ = x.den ρ) (next : At P Q (setC c t x) ρ w) : At P Q c ρ w := by
  unfold At at next ⊢
  simp only [act_set ρ c.tmps t x h] at next
  exact next
theorem sim_know (t : Nat) (b v : Bool) (h : evalL c.tmps (.tmp t) = LB b) (hb : b = v) (next : At P Q (setC c t (LB v)) ρ w) : At P Q c ρ w := sim_set t (LB v) (by rw [h, hb]) next
theorem sim_int (t : Nat) {k : IntKind} (a b : Int) (h : evalL c.tmps (.tmp t) = .v (.int k a)) (hb : a = b) (next : At P Q (setC c t (.v (.int k b))) ρ w) : At P Q c ρ w := sim_set t _ (by rw [h, hb]) next
theorem sim_fork (t : Nat) (b : Bool) (h : evalL c.tmps (.tmp t) = LB b) (ht : b = true → At P Q (setC c t (LB true)) ρ w) (hf : b = false → At P Q (setC c t (LB false)) ρ w) : At P Q c ρ w := by
  cases hb : b with
  | true => exact sim_know t b true h hb (ht hb)
  | false => exact sim_know t b false h hb (hf hb)

abbrev setO (c : OCfg) (t : Nat) (x : LV) : OCfg := ⟨c.id, c.ops, c.u, c.snap, c.r, c.d, c.k, c.tmps.set t x, c.rs⟩
theorem RelO.set_ {c : OCfg} {ρs : Nm} (hR : RelO T w0 c ρs ρ w) (t : Nat) (x : LV) : RelO T w0 (setO c t x) ρs ρ w := ⟨hR.rel, hR.agree, hR.und, hR.len, hR.pre⟩
theorem sim_setO {c : OCfg} {ρs : Nm} (hR : RelO T w0 c ρs ρ w) (t : Nat) (x : LV) (h : (evalL c.tmps (.tmp t)).den ρ = x.den ρ) (next : RelO T w0 (setO c t x) ρs ρ w → AtO P Q (setO c t x) ρs ρ w) : AtO P Q c ρs ρ w := by
  have := next (hR.set_ t x)
  unfold AtO at this ⊢
  simp only [act_set ρ c.tmps t x h] at this
  exact this
theorem sim_knowO {c : OCfg} {ρs : Nm} (hR : RelO T w0 c ρs ρ w) (t : Nat) (b v : Bool) (h : evalL c.tmps (.tmp t) = LB b) (hb : b = v) (next : RelO T w0 (setO c t (LB v)) ρs ρ w → AtO P Q (setO c t (LB v)) ρs ρ w) : AtO P Q c ρs ρ w := sim_setO hR t (LB v) (by rw [h, hb]) next
theorem sim_intO {c : OCfg} {ρs : Nm} (hR : RelO T w0 c ρs ρ w) (t : Nat) {k : IntKind} (a b : Int) (h : evalL c.tmps (.tmp t) = .v (.int k a)) (hb : a = b) (next : RelO T w0 (setO c t (.v (.int k b))) ρs ρ w → AtO P Q (setO c t (.v (.int k b))) ρs ρ w) : AtO P Q c ρs ρ w := sim_setO hR t _ (by rw [h, hb]) next
theorem sim_forkO {c : OCfg} {ρs : Nm} (hR : RelO T w0 c ρs ρ w) (t : Nat) (b : Bool) (h : evalL c.tmps (.tmp t) = LB b) (ht : b = true → RelO T w0 (setO c t (LB true)) ρs ρ w → AtO P Q (setO c t (LB true)) ρs ρ w)
    (hf : b = false → RelO T w0 (setO c t (LB false)) ρs ρ w → AtO P Q (setO c t (LB false)) ρs ρ w) : AtO P Q c ρs ρ w := by
  cases hb : b with
  | true => exact sim_knowO hR t b true h hb (ht hb)
  | false => exact sim_knowO hR t b false h hb (hf hb)

/-- an order, so many steps of it -/
def ordGoN (P : Program) (hs : List Hint) (id : Nat) (ops : Array Oper) (u : Option Nat) (snap : List Reg) : Nat → List (Nat × Bool) → Bool → List LV → List Reg → (List (Nat × Bool) × Bool × List LV × List Reg) × List (LV × LV)
  | 0, r, d, t, rs => ((r, d, t, rs), [])
  | _ + 1, [], d, t, rs => (([], d, t, rs), [])
  | n + 1, p :: r, d, t, rs => match ordStep P hs id ops u snap p d t rs with
    | some (t', rs', prs) => spine t' fun t' => match ordGoN P hs id ops u snap n r (nextD u p d) t' rs' with
      | (c, prs2) => (c, prs ++ prs2)
    | none => ((p :: r, d, t, rs), [])
theorem ordGoN_sound {hs : List Hint} {id : Nat} {ops : Array Oper} {u : Option Nat} {snap : List Reg} {ρs ρ0 : Nm} {k0 : Nat} (hu : undR snap.length snap = true) :
    ∀ (n : Nat) (r : List (Nat × Bool)) (d : Bool) (t : List LV) (rs : List Reg) (r' : List (Nat × Bool)) (d' : Bool) (t' : List LV) (rs' : List Reg) (prs : List (LV × LV)) (ρ : Nm) (w : World),
    ordGoN P hs id ops u snap n r d t rs = ((r', d', t', rs'), prs) → Pairs k0 ρ0 prs → Agree k0 ρ0 ρ → k0 ≤ rs.length → Rel T w0 ρ rs w → Agree snap.length ρs ρ → snap.length ≤ rs.length → (d = false → rs.take snap.length = snap) →
    (∀ ρ' w', Moved ρ rs w ρ' rs' w' → Rel T w0 ρ' rs' w' → Agree snap.length ρs ρ' → (d' = false → rs'.take snap.length = snap) → wpOrdU P ops Q u (Snap ρs snap) r' d' (act ρ' t') w') → wpOrdU P ops Q u (Snap ρs snap) r d (act ρ t) w
  | 0, r, d, t, rs, r', d', t', rs', prs, ρ, w, h, _, _, _, hR, ha, _, hpre, next => by
    simp only [ordGoN, Prod.mk.injEq] at h
    obtain ⟨⟨rfl, rfl, rfl, rfl⟩, rfl⟩ := h
    exact next ρ w (Moved.refl _ _ _) hR ha hpre
  | n + 1, [], d, t, rs, r', d', t', rs', prs, ρ, w, h, _, _, _, hR, ha, _, hpre, next => by
    simp only [ordGoN, Prod.mk.injEq] at h
    obtain ⟨⟨rfl, rfl, rfl, rfl⟩, rfl⟩ := h
    exact next ρ w (Moved.refl _ _ _) hR ha hpre
  | n + 1, p :: r, d, t, rs, r', d', t', rs', prs, ρ, w, h, hp, h0, hk, hR, ha, hb, hpre, next => by
    simp only [ordGoN] at h
    split at h
    · rename_i t1 rs1 prs1 h1
      rw [spine_eq] at h
      generalize h2 : ordGoN P hs id ops u snap n r (nextD u p d) t1 rs1 = q at h
      obtain ⟨⟨r2, d2, t2, rs2⟩, prs2⟩ := q
      simp only [Prod.mk.injEq] at h
      obtain ⟨⟨rfl, rfl, rfl, rfl⟩, rfl⟩ := h
      refine ordStep_sound h1 (fun q hq => hp q (List.mem_append_left _ hq)) h0 hk hR ha hu hb hpre (fun ρ' w' hm hR' hpre' => ?_)
      exact ordGoN_sound hu n r _ t1 rs1 _ _ _ _ prs2 ρ' w' h2 (fun q hq => hp q (List.mem_append_right _ hq)) (h0.trans hm.agree hk) (Nat.le_trans hk hm.size) hR' (ha.trans hm.agree hb) (Nat.le_trans hb hm.size) hpre'
        (fun ρ'' w'' hm' hR'' => next ρ'' w'' (hm.trans hm') hR'')
    · simp only [Prod.mk.injEq] at h
      obtain ⟨⟨rfl, rfl, rfl, rfl⟩, rfl⟩ := h
      exact next ρ w (Moved.refl _ _ _) hR ha hpre
def goN (P : Program) (hs : List Hint) (n : Nat) (c : OCfg) : OCfg × List (LV × LV) := match ordGoN P hs c.id c.ops c.u c.snap n c.r c.d c.tmps c.rs with
  | ((r, d, t, rs), prs) => (⟨c.id, c.ops, c.u, c.snap, r, d, c.k, t, rs⟩, prs)
theorem sim_ordN {c : OCfg} {ρs : Nm} (n : Nat) (hs : List Hint) (hR : RelO T w0 c ρs ρ w) (h2 : (goN P hs n c).2 = hs.map fun h => (h.old, h.new)) (he : AllEq c.rs.length ρ hs)
    (next : ∀ ρ' w', Moved ρ c.rs w ρ' (goN P hs n c).1.rs w' → RelO T w0 (goN P hs n c).1 ρs ρ' w' → AtO P Q (goN P hs n c).1 ρs ρ' w') : AtO P Q c ρs ρ w := by
  obtain ⟨id, ops, u, snap, r, d, k, t, rs⟩ := c
  unfold goN at h2 next
  generalize hg : ordGoN P hs id ops u snap n r d t rs = q at h2 next
  obtain ⟨⟨r', d', t', rs'⟩, prs⟩ := q
  simp only at h2 next
  refine ordGoN_sound hR.und n r d t rs r' d' t' rs' prs ρ w hg (by rw [h2]; exact he.pairs) (Agree.refl _ _) (Nat.le_refl _) hR.rel hR.agree hR.len hR.pre (fun ρ' w' hm hR' ha hp => ?_)
  exact next ρ' w' hm ⟨hR', ha, hR.und, Nat.le_trans hR.len hm.size, hp⟩
theorem sim_ord_endR {c : OCfg} {ρs : Nm} (hR : RelO T w0 c ρs ρ w) (hr : c.r = []) (h : Rel T w0 ρ c.rs w → At P Q ⟨c.k, c.tmps, c.rs⟩ ρ w) : AtO P Q c ρs ρ w := sim_ord_end hr (h hR.rel)
theorem ba_eq {a b : ByteArray} (h : (a.toList == b.toList) = true) : a = b := by
  have h2 : a.toList = b.toList := eq_of_beq h
  have key : ∀ c : ByteArray, c.toList = c.data.toList := fun c => by rw [ByteArray.toList_eq]
  rw [key, key] at h2
  have h3 : a.data = b.data := Array.ext' h2
  cases a
  cases b
  simp only at h3
  rw [h3]
theorem ba_ne {a b : ByteArray} (h : (a.toList == b.toList) = false) : a ≠ b := fun e => by
  rw [e] at h
  simp at h
theorem nb_t {b : Bool} (h : (!b) = true) : b = false := by cases b <;> simp_all
theorem nb_f {b : Bool} (h : (!b) = false) : b = true := by cases b <;> simp_all
theorem bne_t {a b : Int} (h : (a != b) = true) : a ≠ b := by simpa using h
theorem bne_f {a b : Int} (h : (a != b) = false) : a = b := by simpa [bne] using h
theorem retv_int {k : IntKind} {a b : Int} (h : a = b) : Ending.returned (.int k a) = .returned (.int k b) := by rw [h]
theorem retv_bool {a b : Bool} (h : a = b) : Ending.returned (.bool a) = .returned (.bool b) := by rw [h]
theorem retv_str {a b : ByteArray} (h : a = b) : Ending.returned (.string a) = .returned (.string b) := by rw [h]
theorem retv_tup2 {a b a' b' : Value} (h : a = a') (h' : b = b') : Ending.returned (.tuple #[a, b]) = .returned (.tuple #[a', b']) := by rw [h, h']
theorem retv_tup3 {a b c a' b' c' : Value} (h : a = a') (h' : b = b') (h'' : c = c') : Ending.returned (.tuple #[a, b, c]) = .returned (.tuple #[a', b', c']) := by rw [h, h', h'']
theorem val_int {k : IntKind} {a b : Int} (h : a = b) : Value.int k a = .int k b := by rw [h]
theorem val_bool {a b : Bool} (h : a = b) : Value.bool a = .bool b := by rw [h]
theorem val_str {a b : ByteArray} (h : a = b) : Value.string a = .string b := by rw [h]
def cellL (rs : List Reg) (n i : Nat) : Option LV := match rs[n]? with
  | some r => r.cells[i]?
  | none => none
theorem Rel.at_cell {rs : List Reg} (hR : Rel T w0 ρ rs w) (n i : Nat) (x : LV) (h : cellL rs n i = some x) : w.cell? (ρ.at_ n i) = some (x.den ρ) := by
  unfold cellL at h
  split at h
  · rename_i r hr
    exact hR.cell n r hr i x h
  · cases h
theorem RelO.at_cell {c : OCfg} {ρs : Nm} (hR : RelO T w0 c ρs ρ w) (n i : Nat) (x : LV) (h : cellL c.rs n i = some x) : w.cell? (ρ.at_ n i) = some (x.den ρ) := hR.rel.at_cell n i x h
/-- into a called function, and out of it -/
theorem Agree.step {N : Nat} {ρ ρ' ρ'' : Nm} {rs rs' : List Reg} {w w' : World} (h : Agree N ρ ρ') (hm : Moved ρ' rs w ρ'' rs' w') (hN : Nat.ble N rs.length = true) : Agree N ρ ρ'' := h.tr (hm.agN N hN)
/-- the first N places lie as they lay at ρ0 -/
structure Ag (N : Nat) (ρ0 ρ : Nm) (rs : List Reg) : Prop where
  ag : Agree N ρ0 ρ
  le : N ≤ rs.length
theorem Ag.start (N : Nat) (ρ : Nm) (rs : List Reg) (h : Nat.ble N rs.length = true) : Ag N ρ ρ rs := ⟨Agree.refl _ _, Nat.le_of_ble_eq_true h⟩
theorem Ag.moved {N : Nat} {ρ0 ρ ρ' : Nm} {rs rs' : List Reg} {w w' : World} (h : Ag N ρ0 ρ rs) (hm : Moved ρ rs w ρ' rs' w') : Ag N ρ0 ρ' rs' := ⟨h.ag.tr (hm.agree.mono h.le), Nat.le_trans h.le hm.size⟩
theorem Ag.at_ {N : Nat} {ρ0 ρ : Nm} {rs : List Reg} (h : Ag N ρ0 ρ rs) (n : Nat) (hn : n < N) : ρ n = ρ0 n := h.ag n hn
theorem Rel.ag_ {rs : List Reg} (_ : Rel T w0 ρ rs w) (N : Nat) (h : Nat.ble N rs.length = true) : Ag N ρ ρ rs := .start N ρ rs h
theorem RelO.with {c : OCfg} {ρs : Nm} {w' : World} (hR : RelO T w0 c ρs ρ w) (hR' : Rel T w0 ρ c.rs w') (x : LV) : RelO T w0 (nextO c x c.rs) ρs ρ w' := ⟨hR', hR.agree, hR.und, hR.len, fun h => hR.pre (nextOD_of h)⟩
theorem RelO.ag_ {c : OCfg} {ρs : Nm} (_ : RelO T w0 c ρs ρ w) (N : Nat) (h : Nat.ble N c.rs.length = true) : Ag N ρ ρ c.rs := .start N ρ c.rs h
theorem sim_outE {c0 : Cfg} {ρ0 : Nm} (N : Nat) (x : LV) (hR : Rel T w0 ρ c.rs w) (h1 : c.k = []) (h2 : resL P fn c = some x) (hag : Agree N ρ0 ρ) (hu : undL N c0.tmps = true)
    (next : At P Q (nextC c0 x c.rs) ρ w) : At P (bodyPost P fn (Back P Q c0 ρ0)) c ρ w := sim_end x hR h1 h2 ⟨x, c.rs, ρ, rfl, act_ext hag hu, next⟩
theorem sim_ord_outE {c0 : OCfg} {ρs ρ0 : Nm} (N : Nat) (x : LV) (hR : Rel T w0 ρ c.rs w) (h1 : c.k = []) (h2 : resL P fn c = some x) (hag : Agree N ρ0 ρ) (hu : undL N c0.tmps = true)
    (hO : RelO T w0 (nextO c0 x c.rs) ρs ρ w) (next : AtO P Q (nextO c0 x c.rs) ρs ρ w) : At P (bodyPost P fn (BackO P Q T w0 c0 ρs ρ0)) c ρ w :=
  sim_end x hR h1 h2 ⟨x, c.rs, ρ, rfl, act_ext hag hu, hO, next⟩
theorem RelO.out {c0 : OCfg} {ρs ρ0 : Nm} {wc : World} (hO : RelO T w0 c0 ρs ρ0 wc) {rs : List Reg} (hR : Rel T w0 ρ rs w) {N : Nat} (hag : Agree N ρ0 ρ) (hN : Nat.ble c0.snap.length N = true) (hl : Nat.ble c0.snap.length rs.length = true) (x : LV) (hpre : nextOD c0 = false → rs.take c0.snap.length = c0.snap) : RelO T w0 (nextO c0 x rs) ρs ρ w :=
  ⟨hR, fun n hn => (hag n (Nat.lt_of_lt_of_le hn (Nat.le_of_ble_eq_true hN))).trans (hO.agree n hn), hO.und, Nat.le_of_ble_eq_true hl, hpre⟩
/-! ### Pointers are compared -/
def eqlOf (P : Program) (c : Cfg) : Option (LV × LV × Bool) := match topOp c with
  | some o => match o.op with
    | .binOp .eql t x y _ => match P.underlying t with
      | some (.pointer e) => match P.info? e with
        | some i => if Nat.beq i.size 0 then none else some (evalL c.tmps x, evalL c.tmps y, true)
        | none => none
      | _ => none
    | .binOp .neq t x y _ => match P.underlying t with
      | some (.pointer e) => match P.info? e with
        | some i => if Nat.beq i.size 0 then none else some (evalL c.tmps x, evalL c.tmps y, false)
        | none => none
      | _ => none
    | _ => none
  | none => none
theorem equal_ptr_same_block {P : Program} {t e : TypeId} {i : TypeInfo} (w : World) (a b : Addr) (hu : P.underlying t = some (.pointer e)) (hi : P.info? e = some i) (hz : i.size ≠ 0) (hb : a.block = b.block) (hab : a ≠ b) : (Op.equal t (.pointer (some a)) (.pointer (some b))).run P w = .ok false w := by
  obtain ⟨d, hd⟩ := maxDepth_succ
  rw [Op.equal, hd, Op.equalIn]
  simp [run_underlying hu, sizeOf, typeInfo, hi, hz, sameAddr, hb, hab]
theorem equal_nil_ptr {P : Program} {t e : TypeId} (w : World) (b : Addr) (hu : P.underlying t = some (.pointer e)) : (Op.equal t (.pointer none) (.pointer (some b))).run P w = .ok false w := by
  obtain ⟨d, hd⟩ := maxDepth_succ
  rw [Op.equal, hd, Op.equalIn]
  simp [run_underlying hu]
theorem equal_nil_nil {P : Program} {t e : TypeId} (w : World) (hu : P.underlying t = some (.pointer e)) : (Op.equal t (.pointer none) (.pointer none)).run P w = .ok true w := by
  obtain ⟨d, hd⟩ := maxDepth_succ
  rw [Op.equal, hd, Op.equalIn]
  simp [run_underlying hu]
/-- two places -/
theorem sim_eql_at (x y : LV) (q d : Bool) (h : eqlOf P c = some (x, y, q)) (hd : ∃ p p', x.den ρ = .pointer p ∧ y.den ρ = .pointer p' ∧ ∀ t e i, P.underlying t = some (.pointer e) → P.info? e = some i → i.size ≠ 0 → (Op.equal t (.pointer p) (.pointer p')).run P w = .ok d w)
    (next : At P Q (nextC c (LB (d == q)) c.rs) ρ w) : At P Q c ρ w := by
  unfold eqlOf at h
  split at h
  · rename_i op ho
    have key : ∀ (bo : BinOp) (t : TypeId) (xo yo : Operand) (z : TypeId), op.op = .binOp bo t xo yo z → (bo = .eql ∧ q = true ∨ bo = .neq ∧ q = false) → (∃ e i, P.underlying t = some (.pointer e) ∧ P.info? e = some i ∧ i.size ≠ 0) → evalL c.tmps xo = x → evalL c.tmps yo = y → At P Q c ρ w := by
      intro bo t xo yo z hop hbo he hx hy
      obtain ⟨e, i, hu, hi, hz⟩ := he
      refine sim_op op ho (LB (d == q)) c.rs ρ w ?_ rfl next
      unfold execOp
      simp only [hop, act_eval, hx, hy]
      obtain ⟨p, p', e1, e2, e3⟩ := hd
      rw [e1, e2]
      rcases hbo with ⟨rfl, rfl⟩ | ⟨rfl, rfl⟩ <;> simp [eqGuard, binOp, LV.den, e3 t e i hu hi hz]
    split at h
    · rename_i t xo yo z hop
      split at h
      · rename_i e hu
        split at h
        · rename_i i hi
          split at h
          · cases h
          · rename_i hz
            simp only [Option.some.injEq, Prod.mk.injEq] at h
            obtain ⟨h1, h2, rfl⟩ := h
            exact key .eql t xo yo z hop (.inl ⟨rfl, rfl⟩) ⟨e, i, hu, hi, fun e0 => by rw [e0] at hz; exact hz rfl⟩ h1 h2
        · cases h
      · cases h
    · rename_i t xo yo z hop
      split at h
      · rename_i e hu
        split at h
        · rename_i i hi
          split at h
          · cases h
          · rename_i hz
            simp only [Option.some.injEq, Prod.mk.injEq] at h
            obtain ⟨h1, h2, rfl⟩ := h
            exact key .neq t xo yo z hop (.inr ⟨rfl, rfl⟩) ⟨e, i, hu, hi, fun e0 => by rw [e0] at hz; exact hz rfl⟩ h1 h2
        · cases h
      · cases h
    · cases h
  · cases h
/-- two places of one block -/
theorem sim_eql_ne (x y : LV) (q : Bool) (h : eqlOf P c = some (x, y, q)) (a b : Addr) (hx : x.den ρ = .pointer (some a)) (hy : y.den ρ = .pointer (some b)) (hb : a.block = b.block) (hab : a ≠ b) (next : At P Q (nextC c (LB (!q)) c.rs) ρ w) : At P Q c ρ w := by
  refine sim_eql_at x y q false h ⟨_, _, hx, hy, fun t e i hu hi hz => equal_ptr_same_block w a b hu hi hz hb hab⟩ ?_
  cases q <;> exact next
theorem sim_eql_same (x y : LV) (q : Bool) (h : eqlOf P c = some (x, y, q)) (a : Addr) (hx : x.den ρ = .pointer (some a)) (hy : y.den ρ = .pointer (some a)) (next : At P Q (nextC c (LB q) c.rs) ρ w) : At P Q c ρ w := by
  refine sim_eql_at x y q true h ⟨_, _, hx, hy, fun t e i hu hi hz => equal_ptr_same w a hu hi hz⟩ ?_
  cases q <;> exact next
theorem sim_eql_nil (x y : LV) (q : Bool) (h : eqlOf P c = some (x, y, q)) (b : Addr) (hx : x.den ρ = .pointer none) (hy : y.den ρ = .pointer (some b)) (next : At P Q (nextC c (LB (!q)) c.rs) ρ w) : At P Q c ρ w := by
  refine sim_eql_at x y q false h ⟨_, _, hx, hy, fun t e i hu _ _ => equal_nil_ptr w b hu⟩ ?_
  cases q <;> exact next
/-- the same in a region that draws -/
def eqlOper (P : Program) (tmps : List LV) (o : Oper) : Option (LV × LV × Bool) := match o.op with
  | .binOp op t x y _ => match P.underlying t with
    | some (.pointer e) => match P.info? e with
      | some i => if Nat.beq i.size 0 then none else match op with
        | .eql => some (evalL tmps x, evalL tmps y, true)
        | .neq => some (evalL tmps x, evalL tmps y, false)
        | _ => none
      | none => none
    | _ => none
  | _ => none
theorem eqlOper_run {tmps : List LV} {o : Oper} {x y : LV} {q : Bool} (h : eqlOper P tmps o = some (x, y, q)) {p p' : Option Addr} (hx : x.den ρ = .pointer p) (hy : y.den ρ = .pointer p') (d : Bool) (w : World)
    (hd : ∀ t e i, P.underlying t = some (.pointer e) → P.info? e = some i → i.size ≠ 0 → (Op.equal t (.pointer p) (.pointer p')).run P w = .ok d w) : (execOp (act ρ tmps).eval o).run P w = .ok (.value (.bool (d == q))) w := by
  unfold eqlOper at h
  split at h
  · rename_i op t xo yo z hop
    split at h
    · rename_i e hu
      split at h
      · rename_i i hi
        split at h
        · cases h
        · rename_i hz
          have hz' : i.size ≠ 0 := fun e0 => by rw [e0] at hz; exact hz rfl
          have hrun := hd t e i hu hi hz'
          split at h
          · simp only [Option.some.injEq, Prod.mk.injEq] at h
            obtain ⟨rfl, rfl, rfl⟩ := h
            unfold execOp
            simp only [hop, act_eval, hx, hy]
            simp [eqGuard, binOp, hrun]
          · simp only [Option.some.injEq, Prod.mk.injEq] at h
            obtain ⟨rfl, rfl, rfl⟩ := h
            unfold execOp
            simp only [hop, act_eval, hx, hy]
            simp [eqGuard, binOp, hrun]
          · cases h
      · cases h
    · cases h
  · cases h
def eqlOfO (P : Program) (c : OCfg) : Option (LV × LV × Bool) := match topQ c with
  | some o => eqlOper P c.tmps o
  | none => none
theorem sim_ord_eql_ne {c : OCfg} {ρs : Nm} (x y : LV) (q : Bool) (h : eqlOfO P c = some (x, y, q)) (hR : RelO T w0 c ρs ρ w) (a b : Addr) (hx : x.den ρ = .pointer (some a)) (hy : y.den ρ = .pointer (some b)) (hb : a.block = b.block) (hab : a ≠ b)
    (next : RelO T w0 (nextO c (LB (!q)) c.rs) ρs ρ w → AtO P Q (nextO c (LB (!q)) c.rs) ρs ρ w) : AtO P Q c ρs ρ w := by
  unfold eqlOfO at h
  split at h
  · rename_i o ho
    refine sim_ord_pure o ho (LB (!q)) hR (fun w' _ => ?_) next
    have := eqlOper_run (ρ := ρ) h hx hy false w' (fun t e i hu hi hz => equal_ptr_same_block w' a b hu hi hz hb hab)
    rw [this]
    cases q <;> rfl
  · cases h
/-! ### append in a region that draws -/
def appOfO (c : OCfg) : Option (TypeId × LV × LV) := match topO c with
  | some o => match o.op with
    | .call { callee := .builtin .append, args, argTypes } => match args.toList, argTypes.toList with
      | [s, x], [t, t'] => if Nat.beq t t' then some (t, evalL c.tmps s, evalL c.tmps x) else none
      | _, _ => none
    | _ => none
  | none => none
theorem appOfO_run {c : OCfg} {t : TypeId} {s x : LV} (h : appOfO c = some (t, s, x)) : ∃ o, topO c = some o ∧ ∃ ty, ∀ v w', (Builtin.append_ #[t, t] ty #[s.den ρ, x.den ρ]).run P w = .ok v w' → (execOp (act ρ c.tmps).eval o).run P w = .ok (.value v) w' := by
  unfold appOfO at h
  split at h
  · rename_i o ho
    refine ⟨o, ho, o.type, fun v w' hrun => ?_⟩
    split at h
    · rename_i args ats hop
      split at h
      · rename_i s' x' t1 t2 hargs hats
        split at h
        · rename_i hb
          have := Nat.eq_of_beq_eq_true hb
          subst this
          simp only [Option.some.injEq, Prod.mk.injEq] at h
          obtain ⟨rfl, rfl, rfl⟩ := h
          have e1 : args = #[s', x'] := Array.ext' hargs
          have e2 : ats = #[t1, t1] := Array.ext' hats
          subst e1 e2
          unfold execOp
          simp [hop, resolve, act_eval, invoke, builtin, hrun]
        · cases h
      · cases h
    · cases h
  · cases h
theorem sim_ord_appendT {c : OCfg} {ρs : Nm} (t : TypeId) (s x : LV) (h : appOfO c = some (t, s, x)) (hR : RelO T w0 c ρs ρ w) {base : Nat} {e : TypeId} {i : TypeInfo} {z : Value} {size bytes : Nat} (ht : P.underlying t = some (.slice e)) (hi : P.info? e = some i) (hz : i.zero = some z) (hsize : i.size = size) (hby : i.bytes = bytes) (hzs : z.cells.size = size) (hsz : 0 < size)
    {v : Value} {n : Nat} {xs : List Value} (hs : s.den ρ = v) (hown : w.ownsRow base e size v n xs) {ad : Addr} {m cp : Nat} (hx : x.den ρ = .slice (some ad) m cp) (news : List LV) (hl : news.length = m * size) (hnews : ∀ (j : Nat) (u : LV), news[j]? = some u → w.cell? (ad.add j) = some (u.den ρ)) (h1 : news.all oneL = true)
    (h63 : n + m ≤ maxLen) (hbytes : (n + m) * bytes ≤ 140737488355328) (hbase : base ≤ w.heap.size) (hw0 : ∀ g, v.ownBlock = some g → g ∈ T ∨ w0.heap.size ≤ g) (hreg : ∀ g, v.ownBlock = some g → ∀ (k : Nat) (r : Reg), c.rs[k]? = some r → r.cells ≠ [] → (ρ k).1 ≠ g)
    (next : ∀ v' w', w'.ownsRow base e size v' (n + m) (xs ++ denL ρ news) → w.grownBy w' v.ownBlock → (v'.ownBlock = v.ownBlock ∨ v'.ownBlock = some w.heap.size) → RelO T w0 (nextO c (.v v') c.rs) ρs ρ w' → AtO P Q (nextO c (.v v') c.rs) ρs ρ w') : AtO P Q c ρs ρ w := by
  obtain ⟨op, ho, ty, hrun⟩ := appOfO_run (P := P) (ρ := ρ) (w := w) h
  obtain ⟨v', w', hr, h2, h3, _, h5⟩ := run_append_own_at (P := P) (w := w) base t ty e i z size bytes ht hi hz hsize hby hzs hsz v n xs hown ad m cp (denL ρ news) (by rw [denL_length]; exact hl) (fun j u hu => by
      rw [denL_get] at hu
      cases hj : news[j]? with
      | none => rw [hj] at hu; cases hu
      | some u' =>
        rw [hj] at hu
        simp only [Option.map_some, Option.some.injEq] at hu
        subst hu
        exact hnews j u' hj) (fun u hu => by
      rw [denL_eq, List.mem_map] at hu
      obtain ⟨u', hu', rfl⟩ := hu
      exact oneL_den (List.all_eq_true.1 h1 u' hu') ρ) h63 hbytes hbase
  have hR' := hR.rel.grownT h3 (fun g hg => ⟨hw0 g hg, hreg g hg⟩)
  have hRO : RelO T w0 (nextO c (.v v') c.rs) ρs ρ w' := ⟨hR', hR.agree, hR.und, hR.len, fun h => hR.pre (nextOD_of h)⟩
  have hrun' := hrun v' w' (by rw [hs, hx]; exact hr)
  refine topO_step (T := T) (w0 := w0) ho ?_
  unfold Oper.wp
  rw [hrun']
  simp only [Oper.upon]
  exact ⟨.v v', c.rs, ρ, act_put ρ c.tmps op.dst (.v v'), hRO, next v' w' h2 h3 h5 hRO⟩
end

section
variable {P : Program} {Q : Exit → Act → World → Prop} {T : List Nat} {w0 w : World} {ρ : Nm} {c : Cfg}
/-- a value is put into a new block, whose shape is known -/
def boxOf (c : Cfg) : Option (TypeId × LV) := match topOp c with
  | some o => match o.op with
    | .box e x => some (e, evalL c.tmps x)
    | _ => none
  | none => none
theorem sim_box {e : TypeId} {x : LV} (N : Nat) (h : boxOf c = some (e, x)) (hN : c.rs.length = N) (hR : Rel T w0 ρ c.rs w) (hu : (undR N c.rs && (undL N c.tmps && undL N x.cells)) = true)
    (next : ∀ ρ' w', Moved ρ c.rs w ρ' (c.rs ++ [⟨x.cells, true⟩]) w' → ρ' N = (w.heap.size, 0) → Rel T w0 ρ' (c.rs ++ [⟨x.cells, true⟩]) w' → Blk w' w.heap.size e (denL ρ x.cells).toArray → At P Q (nextC c (.ptr N 0) (c.rs ++ [⟨x.cells, true⟩])) ρ' w') : At P Q c ρ w := by
  subst hN
  unfold boxOf at h
  split at h
  · rename_i o ho
    split at h
    · rename_i e' y hop
      simp only [Option.some.injEq, Prod.mk.injEq] at h
      obtain ⟨rfl, rfl⟩ := h
      simp only [Bool.and_eq_true] at hu
      obtain ⟨ρ', ha, hn, hR'⟩ := hR.alloc hu.1 (evalL c.tmps y).cells e' hu.2.2 true
      refine sim_op o ho (.ptr c.rs.length 0) _ ρ' _ ?_ (act_ext ha hu.2.1) (next ρ' _ ⟨ha, Kept.alloc _ _ _, wrS_app ha hn, by simp, Still.of_blocks (fun k hk => Below.heap_alloc w _ k hk), OutR.app ha hn, OutR.pre ha, shape_app hn⟩ hn hR' (Blk.new w e' _))
      unfold execOp
      simp [hop, Instr.box, newVar, newRow, LV.den, Nm.at_, hn, act_eval, ← LV.den_cells]
    · cases h
  · cases h
end
theorem Own.drew {ρ : Nm} {rs : List Reg} {w : World} {base : Nat} {e : TypeId} {size : Nat} {v : Value} {n : Nat} {xs : List Value} (h : Own ρ rs w base e size v n xs) : Own ρ rs w.drew base e size v n xs := ⟨h.own, h.far⟩

/-! ### A row that lay there, some elements of which are places in view -/
/-- the cells of block g outside the places in view that may be written -/
structure RowV (ρ : Nm) (rs : List Reg) (w : World) (g : Nat) (t : TypeId) (cur : List Value) : Prop where
  is : ∃ arr : Array Value, w.heap[g]? = some (.cells arr t (0, 0)) ∧ arr.size = cur.length ∧ ∀ i, OutR ρ rs g i → arr[i]? = cur[i]?
theorem RowV.lt {ρ : Nm} {rs : List Reg} {w : World} {g : Nat} {t : TypeId} {cur : List Value} (h : RowV ρ rs w g t cur) : g < w.heap.size := by
  obtain ⟨arr, h1, _⟩ := h.is
  rcases Nat.lt_or_ge g w.heap.size with hl | hl
  · exact hl
  · rw [Array.getElem?_eq_none hl] at h1; cases h1
theorem RowV.start {w : World} {g : Nat} {t : TypeId} {cur : List Value} (h : Blk w g t cur.toArray) (ρ : Nm) (rs : List Reg) : RowV ρ rs w g t cur := ⟨cur.toArray, h, by simp, fun i _ => by simp⟩
theorem RowV.moved {ρ ρ' : Nm} {rs rs' : List Reg} {w w' : World} {g : Nat} {t : TypeId} {cur : List Value} (h : RowV ρ rs w g t cur) (hm : Moved ρ rs w ρ' rs' w') : RowV ρ' rs' w' g t cur := by
  obtain ⟨arr, h1, h2, h3⟩ := h.is
  obtain ⟨arr', h4, h5, h6⟩ := hm.still g arr t (0, 0) h1
  exact ⟨arr', h4, h5.trans h2, fun i hi => (h6 i (hm.back g i hi)).trans (h3 i (hm.back g i hi))⟩
theorem RowV.below {ρ : Nm} {rs : List Reg} {w w' : World} {g : Nat} {t : TypeId} {cur : List Value} (h : RowV ρ rs w g t cur) (hb : Below w.heap.size w w') : RowV ρ rs w' g t cur := by
  have hl := h.lt
  obtain ⟨arr, h1, h2, h3⟩ := h.is
  exact ⟨arr, (hb.block g hl).trans h1, h2, h3⟩
theorem RowV.drew {ρ : Nm} {rs : List Reg} {w : World} {g : Nat} {t : TypeId} {cur : List Value} (h : RowV ρ rs w g t cur) : RowV ρ rs w.drew g t cur := ⟨h.is⟩
theorem RowV.grown {ρ : Nm} {rs : List Reg} {w w' : World} {g : Nat} {t : TypeId} {cur : List Value} {row : Option Nat} (h : RowV ρ rs w g t cur) (hg : w.grownBy w' row) (hne : some g ≠ row) : RowV ρ rs w' g t cur := by
  have hl := h.lt
  obtain ⟨arr, h1, h2, h3⟩ := h.is
  exact ⟨arr, (hg.block g hl hne).trans h1, h2, h3⟩
/-- a row wholly in view -/
theorem RowV.full {T : List Nat} {w0 : World} {ρ ρb : Nm} {rs : List Reg} {w : World} {g N0 : Nat} {t : TypeId} {cur : List Value} (h : RowV ρ rs w g t cur) (hR : Rel T w0 ρ rs w) (hag : Ag N0 ρb ρ rs) {n : Nat} {cells : List LV} {wr : Bool} (hn : rs[n]? = some ⟨cells, wr⟩) (e0 : ρb n = (g, 0)) (hl : cells.length = cur.length) (hN : n < N0 := by omega) : Blk w g t (denL ρ cells).toArray := by
  obtain ⟨arr, h1, h2, _⟩ := h.is
  have e := (hag.at_ n hN).trans e0
  have key : arr.toList = denL ρ cells := by
    apply List.ext_getElem?
    intro i
    rw [Array.getElem?_toList, denL_get]
    rcases Nat.lt_or_ge i cells.length with hi | hi
    · have := hR.cell n _ hn i _ (List.getElem?_eq_getElem hi)
      simp only [Nm.at_, e, Nat.zero_add] at this
      rw [cell_of_row w g i arr _ (0, 0) h1] at this
      rw [this, List.getElem?_eq_getElem hi]
      rfl
    · rw [Array.getElem?_eq_none (by omega), List.getElem?_eq_none hi]
      rfl
  have : arr = (denL ρ cells).toArray := Array.ext' key
  rw [← this]
  exact h1
theorem RowV.open_ {ρ ρ' : Nm} {rs : List Reg} {w : World} {g : Nat} {t : TypeId} {cur : List Value} (h : RowV ρ rs w g t cur) (ha : Agree rs.length ρ ρ') (r : Reg) : RowV ρ' (rs ++ [r]) w g t cur := by
  obtain ⟨arr, h1, h2, h3⟩ := h.is
  refine ⟨arr, h1, h2, fun i hi => h3 i (fun n q hn hw he => ?_)⟩
  have hl := (List.getElem?_eq_some_iff.1 hn).1
  have := hi n q (by rw [List.getElem?_append_left hl]; exact hn) hw (by rw [ha n hl]; exact he)
  rw [ha n hl] at this
  exact this
end Go.Proofs.Ytodjhkmbgennaaa
