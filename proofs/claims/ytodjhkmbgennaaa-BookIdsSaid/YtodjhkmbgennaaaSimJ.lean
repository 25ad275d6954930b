/-
  The executor's rules for rows whose length is not known: an element's address, a store, clear, reslicing, a new empty row. Over any program.
-/
import Derived.Test.YtodjhkmbgennaaaSimI
import Derived.Laws.CopyRow
namespace Go.Proofs.Ytodjhkmbgennaaa
open Go Go.RowKit

section
variable {P : Program} {Q : Exit → Act → World → Prop} {T : List Nat} {w0 w : World} {ρ : Nm} {c : Cfg} {fn : Func} {R : Ending → World → Prop}

/-- an operation whose value does not hang on the world -/
theorem sim_pure (o : Oper) (ho : topOp c = some o) (v : Value) (hrun : (execOp (act ρ c.tmps).eval o).run P w = .ok (.value v) w) (next : At P Q (nextC c (.v v) c.rs) ρ w) : At P Q c ρ w :=
  sim_op o ho (.v v) c.rs ρ w hrun rfl next
/-- an element's address, as a plain value -/
theorem sim_addr (x : LV) (len sz : Nat) (i : Int) (h : idxOf P c = some (x, len, i, sz)) (h0 : 0 ≤ i) (h1 : i < len) {B o cp : Nat} (hx : x.den ρ = .slice (some ⟨B, o, none⟩) len cp)
    (next : At P Q (nextC c (.v (.pointer (some ⟨B, o + i.toNat * sz, none⟩))) c.rs) ρ w) : At P Q c ρ w := by
  obtain ⟨op, ho, hrun⟩ := idxOf_run (w := w) h h0 h1 hx
  refine sim_pure op ho _ ?_ next
  rw [hrun]
  congr 3
  simp only [Addr.add]
  split
  · rename_i hz
    simp [hz]
  · rfl

theorem Back.of (x : LV) {ρ : Nm} {rs : List Reg} {w'' : World} (_ : Rel T w0 ρ rs w'') {v : Value} (h : v = x.den ρ) (next : At P Q (nextC c x rs) ρ w'') : Back P Q c ρ (.returned v) w'' := ⟨x, rs, ρ, by rw [h], rfl, next⟩
theorem BackO.of {c : OCfg} {ρs ρ : Nm} (x : LV) {rs : List Reg} {w'' : World} (hR : RelO T w0 (nextO c x rs) ρs ρ w'') {v : Value} (h : v = x.den ρ) (next : AtO P Q (nextO c x rs) ρs ρ w'') : BackO P Q T w0 c ρs ρ (.returned v) w'' := ⟨x, rs, ρ, by rw [h], rfl, hR, next⟩

/-! ### A function value is called -/
structure Enters (P : Program) (f : FuncId) : Prop where
  is : ∃ fn, P.funcs[f]? = some fn ∧ fn.body.isNone = false ∧ (fn.name == "runtime.NumGoroutine") = false
def calleeOf (c : Cfg) : Option (LV × List LV) := match topOp c with
  | some o => match o.op with
    | .call { callee := .value f, args, .. } => some (evalL c.tmps f, args.toList.map (evalL c.tmps))
    | _ => none
  | none => none
theorem sim_callF (f : FuncId) (caps : Array Value) (fl : LV) (args : List LV) (hc : calleeOf c = some (fl, args)) (hd : fl.den ρ = .func (.func f) #[] caps) (hf : Enters P f) (h : Calls P f ((denL ρ args).toArray ++ caps) w (Back P Q c ρ)) : At P Q c ρ w := by
  unfold calleeOf at hc
  split at hc
  · rename_i o ho
    split at hc
    · rename_i fo as ats hop
      simp only [Option.some.injEq, Prod.mk.injEq] at hc
      obtain ⟨rfl, rfl⟩ := hc
      obtain ⟨fn, hfn, hb, hnm⟩ := hf.is
      refine top_step ho ?_
      unfold Oper.wp
      have e1 : as.map (act ρ c.tmps).eval = (denL ρ (as.toList.map (evalL c.tmps))).toArray := Array.ext' (by rw [Array.toList_map, evals_toList (act_eval ρ c.tmps)])
      have hrun : (execOp (act ρ c.tmps).eval o).run P w = .ok (.enter f ((denL ρ (as.toList.map (evalL c.tmps))).toArray ++ caps)) w := by
        unfold execOp
        simp only [hop, resolve, e1, act_eval, hd, Deferred.ofValue, Sem.run_bind, Sem.run_pure, Result.andThen_ok, invoke, callFunc_run hfn hb hnm]
        congr 2
        apply Array.ext'
        simp
      rw [hrun]
      simp only [Oper.upon]
      refine h.mono ?_
      rintro e w'' ⟨x, rs'', ρ'', rfl, hs, hA⟩
      exact nextAt_of ho hs hA
    · cases hc
  · cases hc

theorem calleeOp_run {o : Oper} {fo : Operand} {as : Array Operand} {ats : Array TypeId} (hop : o.op = .call { callee := .value fo, args := as, argTypes := ats }) {ts : List LV} {f : FuncId} {caps : Array Value} (hd : (evalL ts fo).den ρ = .func (.func f) #[] caps) (hf : Enters P f) (w : World) :
    (execOp (act ρ ts).eval o).run P w = .ok (.enter f ((denL ρ (as.toList.map (evalL ts))).toArray ++ caps)) w := by
  obtain ⟨fn, hfn, hb, hnm⟩ := hf.is
  have e1 : as.map (act ρ ts).eval = (denL ρ (as.toList.map (evalL ts))).toArray := Array.ext' (by rw [Array.toList_map, evals_toList (act_eval ρ ts)])
  unfold execOp
  simp only [hop, resolve, e1, act_eval, hd, Deferred.ofValue, Sem.run_bind, Sem.run_pure, Result.andThen_ok, invoke, callFunc_run hfn hb hnm]
  congr 2
  apply Array.ext'
  simp
def calleeO (c : OCfg) : Option (LV × List LV) := match topO c with
  | some o => match o.op with
    | .call { callee := .value f, args, .. } => some (evalL c.tmps f, args.toList.map (evalL c.tmps))
    | _ => none
  | none => none
theorem sim_ord_callF {c : OCfg} {ρs : Nm} (f : FuncId) (caps : Array Value) (fl : LV) (args : List LV) (hc : calleeO c = some (fl, args)) (hd : fl.den ρ = .func (.func f) #[] caps) (hf : Enters P f) (h : Calls P f ((denL ρ args).toArray ++ caps) w (BackO P Q T w0 c ρs ρ)) : AtO P Q c ρs ρ w := by
  unfold calleeO at hc
  split at hc
  · rename_i o ho
    split at hc
    · rename_i fo as ats hop
      simp only [Option.some.injEq, Prod.mk.injEq] at hc
      obtain ⟨rfl, rfl⟩ := hc
      refine topO_step (T := T) (w0 := w0) ho ?_
      unfold Oper.wp
      rw [calleeOp_run hop hd hf]
      simp only [Oper.upon]
      refine h.mono ?_
      rintro e w'' ⟨x, rs'', ρ'', rfl, hs, hR, hA⟩
      exact ⟨x, rs'', ρ'', putL_act hs o.dst x x rfl, hR, hA⟩
    · cases hc
  · cases hc
/-- a call that is walked into, in a region that draws -/
theorem sim_ord_into {c : OCfg} {ρs : Nm} {f : FuncId} {fn' : Func} (hf : P.funcs[f]? = some fn') (args : List LV) (hc : callO P c = some (f, args)) (hb : fn'.body.isSome = true) (h : At P (bodyPost P fn' (BackO P Q T w0 c ρs ρ)) (startC fn' args c.rs) ρ w) : AtO P Q c ρs ρ w :=
  sim_ord_call f args hc (sim_enter hf ρ args c.rs hb rfl h)
theorem sim_ord_out {c0 : OCfg} {ρs ρ0 : Nm} {Q' : Exit → Act → World → Prop} [hB : Body P Q' fn (BackO P Q T w0 c0 ρs ρ0)] (N : Nat) (x : LV) (hR : Rel T w0 ρ c.rs w) (h1 : atRet c = true) (h2 : resL P fn c = some x) (hag : Agree N ρ0 ρ) (hu : undL N c0.tmps = true)
    (hO : RelO T w0 (nextO c0 x c.rs) ρs ρ w) (next : AtO P Q (nextO c0 x c.rs) ρs ρ w) : At P Q' c ρ w :=
  sim_ret x hR h1 h2 ⟨x, c.rs, ρ, rfl, act_ext hag hu, hO, next⟩
/-- an operation that only reads, by hand, in a region that draws -/
def topQ (c : OCfg) : Option Oper := match c.r with
  | (i, false) :: _ => match c.ops[i]? with
    | some o => match wantL c.ops c.tmps o with
      | some true => some o
      | _ => none
    | none => none
  | _ => none
theorem sim_ord_pure {c : OCfg} {ρs : Nm} (o : Oper) (ho : topQ c = some o) (x : LV) (hR : RelO T w0 c ρs ρ w) (hrun : ∀ w', Snap ρs c.snap w' → (execOp (act ρ c.tmps).eval o).run P w' = .ok (.value (x.den ρ)) w')
    (next : RelO T w0 (nextO c x c.rs) ρs ρ w → AtO P Q (nextO c x c.rs) ρs ρ w) : AtO P Q c ρs ρ w := by
  obtain ⟨id, ops, u, snap, r, d, k, t, rs⟩ := c
  unfold topQ at ho
  split at ho
  · rename_i i r' hr
    simp only at hr
    subst hr
    split at ho
    · rename_i o' ho'
      split at ho
      · rename_i hw
        simp only [Option.some.injEq] at ho
        subst ho
        simp only at ho' hw
        have hT : nextOT ⟨id, ops, u, snap, (i, false) :: r', d, k, t, rs⟩ x = putL t o'.dst x := by simp only [nextOT, ho']
        have hA := next ⟨hR.rel, hR.agree, hR.und, hR.len, hR.pre⟩
        unfold AtO at hA ⊢
        refine ⟨o', x.den ρ, ho', .inl ⟨wantL_spec hw ρ, hrun⟩, ?_⟩
        rw [putL_act rfl o'.dst x x rfl, ← hT]
        exact hA
      · cases ho
    · cases ho
  · cases ho
/-- the element whose place is asked for, in a region that draws -/
def idxQ (P : Program) (c : OCfg) : Option (LV × Nat × Int × Nat) := match topQ c with
  | some o => match o.op with
    | .indexAddr t x ix => match evalL c.tmps x, evalL c.tmps ix, P.underlying t with
      | .v (.slice (some a) len cp), .v (.int _ i), some (.slice e) => match P.info? e with
        | some ie => some (.v (.slice (some a) len cp), len, i, ie.size)
        | none => none
      | .slc n off len cp, .v (.int _ i), some (.slice e) => match P.info? e with
        | some ie => some (.slc n off len cp, len, i, ie.size)
        | none => none
      | _, _, _ => none
    | _ => none
  | none => none
theorem idxQ_run {c : OCfg} {x : LV} {len sz : Nat} {i : Int} (h : idxQ P c = some (x, len, i, sz)) (h0 : 0 ≤ i) (h1 : i < len) {a : Addr} {cp : Nat} (hx : x.den ρ = .slice (some a) len cp) :
    ∃ o, topQ c = some o ∧ ∀ w, (execOp (act ρ c.tmps).eval o).run P w = .ok (.value (.pointer (some (a.add (i.toNat * sz))))) w := by
  unfold idxQ at h
  split at h
  · rename_i o ho
    refine ⟨o, ho, fun w => ?_⟩
    split at h
    · rename_i t y ix hop
      split at h
      · rename_i a' len' cp' k i' e hy hix hu
        split at h
        · rename_i ie hie
          simp only [Option.some.injEq, Prod.mk.injEq] at h
          obtain ⟨rfl, rfl, rfl, rfl⟩ := h
          simp only [LV.den, Value.slice.injEq, Option.some.injEq] at hx
          obtain ⟨rfl, _, _⟩ := hx
          unfold execOp
          simp [hop, act_eval, hy, hix, LV.den, Instr.indexAt, asIntOf, run_underlying hu, h0, h1, sizeOf, typeInfo, hie]
        · cases h
      · rename_i n off len' cp' k i' e hy hix hu
        split at h
        · rename_i ie hie
          simp only [Option.some.injEq, Prod.mk.injEq] at h
          obtain ⟨rfl, rfl, rfl, rfl⟩ := h
          simp only [LV.den, Value.slice.injEq, Option.some.injEq] at hx
          obtain ⟨rfl, _, _⟩ := hx
          unfold execOp
          simp [hop, act_eval, hy, hix, LV.den, Instr.indexAt, asIntOf, run_underlying hu, h0, h1, sizeOf, typeInfo, hie]
        · cases h
      · cases h
    · cases h
  · cases h
/-- an element's place that has come into view before -/
theorem sim_ord_index {c : OCfg} {ρs : Nm} (x : LV) (len sz : Nat) (i : Int) (m off : Nat) (h : idxQ P c = some (x, len, i, sz)) (h0 : 0 ≤ i) (h1 : i < len) {B o cp : Nat} (hx : x.den ρ = .slice (some ⟨B, o, none⟩) len cp) (hR : RelO T w0 c ρs ρ w) (hm : ρ.at_ m off = ⟨B, o + i.toNat * sz, none⟩)
    (next : RelO T w0 (nextO c (.ptr m off) c.rs) ρs ρ w → AtO P Q (nextO c (.ptr m off) c.rs) ρs ρ w) : AtO P Q c ρs ρ w := by
  obtain ⟨op, ho, hrun⟩ := idxQ_run h h0 h1 hx
  refine sim_ord_pure op ho (.ptr m off) hR (fun w' _ => ?_) next
  rw [hrun w']
  congr 3
  simp only [hm, Addr.add]
  split
  · rename_i hz
    simp [hz]
  · rfl
/-- an element's place that has come into view before -/
theorem sim_place (x : LV) (len sz : Nat) (i : Int) (m off : Nat) (h : idxOf P c = some (x, len, i, sz)) (h0 : 0 ≤ i) (h1 : i < len) {B o cp : Nat} (hx : x.den ρ = .slice (some ⟨B, o, none⟩) len cp) (hm : ρ.at_ m off = ⟨B, o + i.toNat * sz, none⟩)
    (next : At P Q (nextC c (.ptr m off) c.rs) ρ w) : At P Q c ρ w := by
  obtain ⟨op, ho, hrun⟩ := idxOf_run (w := w) h h0 h1 hx
  refine sim_op op ho (.ptr m off) c.rs ρ w ?_ rfl next
  rw [hrun]
  congr 3
  simp only [hm, Addr.add]
  split
  · rename_i hz
    simp [hz]
  · rfl
theorem nextOD_of {c : OCfg} (h : nextOD c = false) : c.d = false := by
  unfold nextOD at h
  split at h
  · unfold nextD at h
    split at h
    · simp only [Bool.or_eq_false_iff] at h
      exact h.1
    · exact h
  · exact h
/-- behind a call that has made memory at most -/
theorem RelO.call {c : OCfg} {ρs : Nm} (hR : RelO T w0 c ρs ρ w) {w' : World} (hb : Below w.heap.size w w') (x : LV) : RelO T w0 (nextO c x c.rs) ρs ρ w' := ⟨hR.rel.below hb, hR.agree, hR.und, hR.len, fun h => hR.pre (nextOD_of h)⟩
/-- a known place of a row whose place has a name -/
theorem sim_idx (n off len cp i sz : Nat) (h : idxOf P c = some (.slc n off len cp, len, (i : Int), sz)) (h1 : i < len) (next : At P Q (nextC c (.ptr n (off + i * sz)) c.rs) ρ w) : At P Q c ρ w := by
  obtain ⟨op, ho, hrun⟩ := idxOf_run (ρ := ρ) (w := w) h (by omega) (by omega) rfl
  refine sim_op op ho (.ptr n (off + i * sz)) c.rs ρ w ?_ rfl next
  rw [hrun, Int.toNat_natCast, at_add]
  rfl
/-- a place comes into view -/
theorem sim_open (N : Nat) (hN : c.rs.length = N) (hR : Rel T w0 ρ c.rs w) (B o : Nat) (cells : List LV) (hu : (undR N c.rs && (undL N c.tmps && undL N cells)) = true) (hlt : B < w.heap.size) (hcell : ∀ (j : Nat) (v : LV), cells[j]? = some v → w.cell? ⟨B, o + j, none⟩ = some (v.den ρ))
    (hap : ∀ (n : Nat) (r : Reg), c.rs[n]? = some r → r.wr = true → (ρ n).1 = B → False)
    (next : ∀ ρ', Agree N ρ ρ' → ρ' N = (B, o) → Rel T w0 ρ' (c.rs ++ [⟨cells, false⟩]) w → At P Q ⟨c.k, c.tmps, c.rs ++ [⟨cells, false⟩]⟩ ρ' w) : At P Q c ρ w := by
  subst hN
  simp only [Bool.and_eq_true] at hu
  obtain ⟨ρ', ha, hn, hR'⟩ := hR.open_ hu.1 B o cells hu.2.2 false hlt hcell (fun hc => by cases hc) (fun n r hn hw he => by
    rcases hw with hw | hw
    · cases hw
    · exact (hap n r hn hw he).elim)
  have := next ρ' ha hn hR'
  unfold At at this ⊢
  simp only at this
  rw [act_ext ha hu.2.1] at this
  exact this

/-! ### Blocks known whole -/
theorem heap_setRow_other (w : World) (g k : Nat) (cs : Array Value) (h : k ≠ g) : (w.setRow g cs).heap[k]? = w.heap[k]? := setRow_other w g k cs h
theorem Kept.setRow (w : World) (g : Nat) (cs : Array Value) : Kept (fun x => x = g) w (w.setRow g cs) :=
  ⟨rfl, rfl, rfl, by simp, fun k _ hn => setRow_other w g k cs hn⟩
theorem Blk.setRow {g : Nat} {t : TypeId} {cur : Array Value} (h : Blk w g t cur) (cs : Array Value) : Blk (w.setRow g cs) g t cs := setRow_heap w g cur cs t (0, 0) h
theorem Blk.kept {S : Nat → Prop} {w' : World} {g : Nat} {t : TypeId} {cs : Array Value} (h : Blk w g t cs) (hk : Kept S w w') (hg : ¬ S g) : Blk w' g t cs := (hk.block g h.lt hg).trans h
def overlay (l : List Value) (o : Nat) (vs : List Value) : List Value := l.take o ++ vs ++ l.drop (o + vs.length)
theorem overlay_length (l : List Value) (o : Nat) (vs : List Value) (h : o + vs.length ≤ l.length) : (overlay l o vs).length = l.length := by
  simp only [overlay, List.length_append, List.length_take, List.length_drop]
  omega
/-- the store that stands next -/
def storeOf (P : Program) (c : Cfg) : Option (LV × List LV) := match topOp c with
  | some o => match o.op with
    | .store t a x => match P.info? t with
      | some i => if Nat.beq (evalL c.tmps x).cells.length i.size && (evalL c.tmps x).cells.all oneL then some (evalL c.tmps a, (evalL c.tmps x).cells) else none
      | none => none
    | _ => none
  | none => none
theorem sim_store {a : LV} {vs : List LV} (h : storeOf P c = some (a, vs)) (hR : Rel T w0 ρ c.rs w) {g o : Nat} (ha : a.den ρ = .pointer (some ⟨g, o, none⟩)) {t : TypeId} {cur : List Value} (hb : Blk w g t cur.toArray) (hlen : o + vs.length ≤ cur.length)
    (hT : g ∈ T ∨ w0.heap.size ≤ g) (hreg : ∀ (k : Nat) (r : Reg), c.rs[k]? = some r → r.cells ≠ [] → (ρ k).1 ≠ g)
    (next : ∀ w', Blk w' g t (overlay cur o (denL ρ vs)).toArray → Kept (fun x => x = g) w w' → Rel T w0 ρ c.rs w' → At P Q (nextC c (.v undef) c.rs) ρ w') : At P Q c ρ w := by
  unfold storeOf at h
  split at h
  · rename_i op ho
    split at h
    · rename_i ty ad x hop
      split at h
      · rename_i i hi
        split at h
        · rename_i hc
          simp only [Bool.and_eq_true] at hc
          simp only [Option.some.injEq, Prod.mk.injEq] at h
          obtain ⟨rfl, rfl⟩ := h
          have hsz := Nat.eq_of_beq_eq_true hc.1
          have hrun := run_storeCells_at (P := P) g o t (denL ρ (evalL c.tmps x).cells) 0 cur.toArray w hb (by rw [denL_length, Nat.add_zero]; simpa using hlen) (fun v hv => by
            rw [denL_eq, List.mem_map] at hv
            obtain ⟨u, hu, rfl⟩ := hv
            exact oneL_den (List.all_eq_true.1 hc.2 u hu) ρ)
          simp only [Nat.add_zero] at hrun
          have hk : Kept (fun x => x = g) w (w.setRow g (overlay cur o (denL ρ (evalL c.tmps x).cells)).toArray) := Kept.setRow w g _
          have hR' := hR.kept hk (fun n r hn hne he => hreg n r hn hne he) (fun y hy => by rw [hy]; exact hT)
          refine top_step ho ?_
          unfold Oper.wp
          have hx : (execOp (act ρ c.tmps).eval op).run P w = .ok .skip (w.setRow g (overlay cur o (denL ρ (evalL c.tmps x).cells)).toArray) := by
            unfold execOp
            have hs : (LV.den ρ (evalL c.tmps x)).cells.size = i.size := by rw [cells_size]; exact hsz
            simp only [hop, act_eval, ha, Instr.storeAt, Instr.sureAddr, storeVar, Sem.run_bind, Sem.run_pure, Result.andThen_ok, sizeOf, typeInfo, run_program, hi, hs, LV.den_cells, ne_eq, not_true_eq_false, if_false, hrun]
            rfl
          rw [hx]
          simp only [Oper.upon]
          exact nextAt_of (x := .v undef) ho rfl (next _ (hb.setRow _) hk hR')
        · cases h
      · cases h
    · cases h
  · cases h
/-- clear(s) that stands next -/
def clearOf (c : Cfg) : Option (TypeId × LV) := match topOp c with
  | some o => match o.op with
    | .call { callee := .builtin .clear, args, argTypes } => match args.toList, argTypes.toList with
      | [s], [t] => some (t, evalL c.tmps s)
      | _, _ => none
    | _ => none
  | none => none
theorem clearOf_run {t : TypeId} {s : LV} (h : clearOf c = some (t, s)) : ∃ o, topOp c = some o ∧ ∃ ty, ∀ v w', (Builtin.clear_ #[t] ty #[s.den ρ]).run P w = .ok v w' → (execOp (act ρ c.tmps).eval o).run P w = .ok (.value v) w' := by
  unfold clearOf at h
  split at h
  · rename_i o ho
    refine ⟨o, ho, o.type, fun v w' hrun => ?_⟩
    split at h
    · rename_i args ats hop
      split at h
      · rename_i s' t1 hargs hats
        simp only [Option.some.injEq, Prod.mk.injEq] at h
        obtain ⟨rfl, rfl⟩ := h
        have e1 : args = #[s'] := Array.ext' hargs
        have e2 : ats = #[t1] := Array.ext' hats
        subst e1 e2
        unfold execOp
        simp [hop, resolve, act_eval, invoke, builtin, hrun]
      · cases h
    · cases h
  · cases h
theorem zeroCells_size (z : Array Value) (n : Nat) : (Builtin.zeroCells z n).size = n * z.size := by simp [Builtin.zeroCells]
theorem zeroCells_one (z : Array Value) (n : Nat) (h : z.toList.all (·.oneCell') = true) : ∀ v ∈ (Builtin.zeroCells z n).toList, v.oneCell' = true := by
  intro v hv
  unfold Builtin.zeroCells at hv
  simp only [Array.toList_map, List.mem_map, Array.mem_toList_iff, Array.mem_range] at hv
  obtain ⟨i, hi, rfl⟩ := hv
  have hz : 0 < z.size := by
    rcases Nat.eq_zero_or_pos z.size with h0 | h0
    · rw [h0] at hi; simp at hi
    · exact h0
  have hm : i % z.size < z.size := Nat.mod_lt _ hz
  rw [getElem!_pos z _ hm]
  exact List.all_eq_true.1 h _ (by simp)
/-- clear of a row's end | of nothing -/
theorem sim_clear {ty e : TypeId} {s : LV} (h : clearOf c = some (ty, s)) (ht : P.underlying ty = some (.slice e)) {i : TypeInfo} {z : Value} (hi : P.info? e = some i) (hz : i.zero = some z) (hzo : z.cells.toList.all (·.oneCell') = true) (hR : Rel T w0 ρ c.rs w) {A : Option Addr} {n cp : Nat} (hs : s.den ρ = .slice A n cp)
    {g o : Nat} {t : TypeId} {cur : List Value} (hb : Blk w g t cur.toArray) (hA : 0 < n → A = some ⟨g, o, none⟩) (hlen : o + n * z.cells.size ≤ cur.length)
    (hT : g ∈ T ∨ w0.heap.size ≤ g) (hreg : ∀ (k : Nat) (r : Reg), c.rs[k]? = some r → r.cells ≠ [] → (ρ k).1 ≠ g)
    (next : ∀ w' vs, vs.length = n * z.cells.size → Blk w' g t (overlay cur o vs).toArray → Kept (fun x => x = g) w w' → Rel T w0 ρ c.rs w' → At P Q (nextC c (.v (.tuple #[])) c.rs) ρ w') : At P Q c ρ w := by
  obtain ⟨op, ho, ty', hrun⟩ := clearOf_run (P := P) (ρ := ρ) (w := w) h
  rcases Nat.eq_zero_or_pos n with h0 | h0
  · subst h0
    have hb2 : overlay cur o [] = cur := by simp [overlay]
    refine sim_pure op ho (.tuple #[]) (hrun _ w ?_) (next w [] (by simp) (by rw [hb2]; exact hb) (Kept.refl _ _) hR)
    rw [hs]
    cases A <;> simp [Builtin.clear_, run_underlying ht]
  · rw [hA h0] at hs
    have hl : (Builtin.zeroCells z.cells n).toList.length = n * z.cells.size := by rw [Array.length_toList, zeroCells_size]
    have hst := run_storeCells_at (P := P) g o t (Builtin.zeroCells z.cells n).toList 0 cur.toArray w hb (by rw [hl, Nat.add_zero]; simpa using hlen) (zeroCells_one _ _ hzo)
    simp only [Nat.add_zero] at hst
    have hk : Kept (fun x => x = g) w (w.setRow g (overlay cur o (Builtin.zeroCells z.cells n).toList).toArray) := Kept.setRow w g _
    have hR' := hR.kept hk (fun n r hn hne he => hreg n r hn hne he) (fun y hy => by rw [hy]; exact hT)
    refine sim_op op ho (.v (.tuple #[])) c.rs ρ _ (hrun _ _ ?_) rfl (next _ _ hl (hb.setRow _) hk hR')
    rw [hs]
    obtain ⟨m, rfl⟩ : ∃ m, n = m + 1 := ⟨n - 1, by omega⟩
    simp only [Builtin.clear_, List.getElem?_toArray, List.getElem?_cons_zero, Sem.run_bind, run_underlying ht, Result.andThen_ok, zeroValue, typeInfo, run_program, hi, hz, Sem.run_pure, hst]
    rfl
/-- the reslicing that stands next -/
def sliceOf (c : Cfg) : Option (TypeId × LV × List LV × List LV) := match topOp c with
  | some o => match o.op with
    | .slice t x lo hi none => some (t, evalL c.tmps x, lo.toList.map (evalL c.tmps), hi.toList.map (evalL c.tmps))
    | _ => none
  | none => none
def bndL (d : Nat) : List LV → Option Int
  | [] => some d
  | [.v (.int _ z)] => some z
  | _ => none
theorem bndL_cases {d : Nat} {lo : Option Operand} {z : Int} {ts : List LV} (h : bndL d (lo.toList.map (evalL ts)) = some z) (ρ : Nm) : (lo = none ∧ z = d) ∨ ∃ x k, lo = some x ∧ (act ρ ts).eval x = .int k z := by
  cases lo with
  | none =>
    simp only [Option.toList_none, List.map_nil, bndL, Option.some.injEq] at h
    exact .inl ⟨rfl, h.symm⟩
  | some x =>
    simp only [Option.toList_some, List.map_cons, List.map_nil] at h
    right
    generalize hx : evalL ts x = y at h
    unfold bndL at h
    split at h
    · rename_i heq; cases heq
    · rename_i k z' heq
      simp only [List.cons.injEq, and_true] at heq
      simp only [Option.some.injEq] at h
      refine ⟨x, k, rfl, ?_⟩
      rw [act_eval, hx, heq, h]
      rfl
    · cases h
theorem sim_slice {ty e : TypeId} {x : LV} {lo hi : List LV} (h : sliceOf c = some (ty, x, lo, hi)) (ht : P.underlying ty = some (.slice e)) {i : TypeInfo} (hi' : P.info? e = some i) {A : Option Addr} {n cp : Nat} (hx : x.den ρ = .slice A n cp) (l r : Nat)
    (hl : bndL 0 lo = some (l : Int)) (hr : bndL n hi = some (r : Int)) (h1 : l ≤ r) (h2 : r ≤ cp) (next : At P Q (nextC c (.v (.slice (if cp = l then A else A.map (·.add (l * i.size))) (r - l) (cp - l))) c.rs) ρ w) : At P Q c ρ w := by
  unfold sliceOf at h
  split at h
  · rename_i op ho
    split at h
    · rename_i t y lo' hi2 hop
      simp only [Option.some.injEq, Prod.mk.injEq] at h
      obtain ⟨rfl, rfl, rfl, rfl⟩ := h
      refine sim_pure op ho _ ?_ next
      have c1 := bndL_cases hl ρ
      have c2 := bndL_cases hr ρ
      unfold execOp
      simp only [hop, act_eval, hx, Instr.sliceAt, Instr.slice, Sem.run_bind, run_underlying ht, Result.andThen_ok]
      rcases c1 with ⟨rfl, e1⟩ | ⟨x1, k1, rfl, e1⟩ <;> rcases c2 with ⟨rfl, e2⟩ | ⟨x2, k2, rfl, e2⟩
      · have : l = 0 := by omega
        have : r = n := by omega
        subst l r
        simp [Instr.sliceBounds, sizeOf, typeInfo, hi']
      · have : l = 0 := by omega
        subst l
        simp only [act_eval] at e2
        simp [Instr.sliceBounds, Instr.sliceBound, asIntOf, sizeOf, typeInfo, hi', act_eval, e2, h2]
      · have : r = n := by omega
        subst r
        simp only [act_eval] at e1
        simp [Instr.sliceBounds, Instr.sliceBound, asIntOf, sizeOf, typeInfo, hi', act_eval, e1, h1]
      · simp only [act_eval] at e1 e2
        simp [Instr.sliceBounds, Instr.sliceBound, asIntOf, sizeOf, typeInfo, hi', act_eval, e1, e2, h1, h2]
    · cases h
  · cases h
/-- a new empty row -/
def newRowOf (P : Program) (c : Cfg) : Option TypeId := match topOp c with
  | some o => match o.op with
    | .buildSlice t 0 parts => match parts.toList, P.underlying t with
      | [], some (.slice e) => match P.info? e with
        | some _ => some e
        | none => none
      | _, _ => none
    | _ => none
  | none => none
theorem sim_newRow {e : TypeId} (h : newRowOf P c = some e) (hR : Rel T w0 ρ c.rs w) (next : Rel T w0 ρ c.rs (w.alloc (.cells #[] e)) → At P Q (nextC c (.v (.slice (some ⟨w.heap.size, 0, none⟩) 0 0)) c.rs) ρ (w.alloc (.cells #[] e))) : At P Q c ρ w := by
  unfold newRowOf at h
  split at h
  · rename_i op ho
    split at h
    · rename_i t parts hop
      split at h
      · rename_i e' hp hu
        split at h
        · rename_i i hi
          simp only [Option.some.injEq] at h
          subst h
          have hR' := hR.kept (Kept.alloc w (fun _ => False) (.cells #[] e')) (fun _ _ _ _ h => h) (fun _ h => h.elim)
          refine sim_op op ho (.v (.slice (some ⟨w.heap.size, 0, none⟩) 0 0)) c.rs ρ _ ?_ rfl (next hR')
          have hp' : parts = #[] := Array.ext' hp
          subst hp'
          unfold execOp
          have e0 : ∀ f : Nat → Value, Array.map f (Array.range 0) = #[] := fun f => by apply Array.ext <;> simp
          simp [hop, Instr.buildSlice, run_underlying hu, sizeOf, typeInfo, hi, Instr.fill, newRow, LV.den, e0]
        · cases h
      · cases h
    · cases h
  · cases h
theorem own_new (w : World) (e : TypeId) (size : Nat) : (w.alloc (.cells #[] e)).ownsRow w.heap.size e size (.slice (some ⟨w.heap.size, 0, none⟩) 0 0) 0 [] :=
  ⟨by simp, .inr ⟨w.heap.size, 0, #[], rfl, Nat.le_refl _, heap_alloc_new w _, Nat.le_refl _, Nat.zero_le _, by simp, by simp⟩⟩
end
end Go.Proofs.Ytodjhkmbgennaaa
