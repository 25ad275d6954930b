/-
  The rules for a proof by the executor: entering a function, going on, calling, looping, returning. Over any program.
-/
import Derived.Test.YtodjhkmbgennaaaSimF
namespace Go.Proofs.Ytodjhkmbgennaaa
open Go Go.RowKit

def At (P : Program) (Q : Exit → Act → World → Prop) (c : Cfg) (ρ : Nm) (w : World) : Prop := post P Q c.k .normal (act ρ c.tmps) w

/-- what a body's post allows -/
class Body (P : Program) (Q : Exit → Act → World → Prop) (fn : outParam Func) (R : outParam (Ending → World → Prop)) : Prop where
  pf : PanicFree Q
  ret : ∀ a w, bodyPost P fn R .ret a w → Q .ret a w
instance (P : Program) (fn : Func) (R : Ending → World → Prop) : Body P (bodyPost P fn R) fn R where
  pf := fun c a d v w h => by
    cases d with
    | none => exact h
    | some d => exact h
  ret := fun _ _ h => h

def bodyOf (fn : Func) : Code := match fn.body with
  | some c => c
  | none => .skip
def startC (fn : Func) (args : List LV) (rs : List Reg) : Cfg := ⟨[.code (bodyOf fn)], args ++ List.replicate (fn.ntmps - args.length) (.v undef), rs⟩
theorem sim_enter {P : Program} {f : FuncId} {fn : Func} {R : Ending → World → Prop} {w : World} {argsV : Array Value} (hf : P.funcs[f]? = some fn) (ρ : Nm) (args : List LV) (rs : List Reg) (hb : fn.body.isSome = true) (ha : argsV = (denL ρ args).toArray)
    (h : At P (bodyPost P fn R) (startC fn args rs) ρ w) : Calls P f argsV w R := by
  cases hc : fn.body with
  | none => rw [hc] at hb; cases hb
  | some c =>
    subst ha
    refine calls_of_wp hf hc ?_
    have e : (denL ρ args).toArray ++ Array.replicate (fn.ntmps - (denL ρ args).toArray.size) undef = (denL ρ (args ++ List.replicate (fn.ntmps - args.length) (.v undef))).toArray := by
      rw [denL_append]
      apply Array.ext'
      simp only [Array.toList_append, Array.toList_replicate, List.size_toArray, denL_length]
      congr 1
      simp only [denL_eq, List.map_replicate, LV.den]
    rw [e]
    unfold At startC post bodyOf at h
    rw [hc] at h
    exact h

/-- each hint's two values are one -/
def AllEq (k : Nat) (ρ : Nm) : List Hint → Prop
  | [] => True
  | h :: hs => (∀ ρ', Agree k ρ ρ' → h.old.den ρ' = h.new.den ρ') ∧ AllEq k ρ hs
theorem AllEq.pairs {k : Nat} {ρ : Nm} : ∀ {hs : List Hint}, AllEq k ρ hs → Pairs k ρ (hs.map fun h => (h.old, h.new))
  | [], _, p, hp => by cases hp
  | h :: hs, ha, p, hp => by
    rcases List.mem_cons.1 hp with rfl | hp
    · exact ha.1
    · exact ha.2.pairs p hp
theorem eqv {a b : Value} (h : a = b) {k : Nat} {ρ : Nm} : ∀ ρ', Agree k ρ ρ' → (LV.v a).den ρ' = (LV.v b).den ρ' := fun _ _ => h
theorem eqb {a b : Bool} (h : a = b) {k : Nat} {ρ : Nm} : ∀ ρ', Agree k ρ ρ' → (LV.v (.bool a)).den ρ' = (LV.v (.bool b)).den ρ' := fun _ _ => by rw [h]
theorem eqi {t : IntKind} {a b : Int} (h : a = b) {k : Nat} {ρ : Nm} : ∀ ρ', Agree k ρ ρ' → (LV.v (.int t a)).den ρ' = (LV.v (.int t b)).den ρ' := fun _ _ => by rw [h]
theorem eqs {a b : ByteArray} (h : a = b) {k : Nat} {ρ : Nm} : ∀ ρ', Agree k ρ ρ' → (LV.v (.string a)).den ρ' = (LV.v (.string b)).den ρ' := fun _ _ => by rw [h]

section
variable {P : Program} {Q : Exit → Act → World → Prop} {T : List Nat} {w0 w : World} {ρ : Nm} {c : Cfg} {fn : Func} {R : Ending → World → Prop}
theorem sim_run [hB : Body P Q fn R] (n : Nat) (hs : List Hint) (hR : Rel T w0 ρ c.rs w) (h2 : (run P hs n c).2 = hs.map fun h => (h.old, h.new)) (he : AllEq c.rs.length ρ hs)
    (next : ∀ ρ' w', Moved ρ c.rs w ρ' (run P hs n c).1.rs w' → Rel T w0 ρ' (run P hs n c).1.rs w' → At P Q (run P hs n c).1 ρ' w') : At P Q c ρ w := by
  refine run_sound hB.pf n c (run P hs n c).1 (run P hs n c).2 ρ w rfl ?_ (Agree.refl _ _) (Nat.le_refl _) hR next
  rw [h2]
  exact he.pairs

/-! ### Returning -/
def resL1 (P : Program) (tmps : List LV) (rs : List Reg) : ResultVar → Option LV
  | .tmp t => some (evalL tmps (.tmp t))
  | .cell a t => match evalL tmps (.tmp a) with
    | .ptr n off => match rs[n]? with
      | some r => loadL P t (r.cells.drop off)
      | none => none
    | _ => none
def resLs (P : Program) (tmps : List LV) (rs : List Reg) : List ResultVar → Option (List LV)
  | [] => some []
  | x :: xs => match resL1 P tmps rs x, resLs P tmps rs xs with
    | some y, some ys => some (y :: ys)
    | _, _ => none
def tupL : List LV → LV
  | [x] => x
  | l => .tup l
def resL (P : Program) (fn : Func) (c : Cfg) : Option LV := (resLs P c.tmps c.rs fn.results.toList).map tupL
def resSem (tmps : Array Value) : ResultVar → Sem Value
  | .tmp t => pure (tmps.getD t undef)
  | .cell a t => do loadVar t (← asAddr (tmps.getD a undef))
theorem results_eq (fn : Func) (tmps : Array Value) : results fn tmps = (do let vs ← fn.results.mapM (resSem tmps); pure (if h : vs.size = 1 then vs[0] else .tuple vs)) := rfl
theorem resL1_run (hR : Rel T w0 ρ c.rs w) {x : ResultVar} {y : LV} (h1 : resL1 P c.tmps c.rs x = some y) : (resSem (act ρ c.tmps).tmps x).run P w = .ok (y.den ρ) w := by
  have ev := fun t => act_eval ρ c.tmps (.tmp t)
  simp only [Act.eval] at ev
  cases x with
  | tmp t =>
    simp only [resL1, Option.some.injEq] at h1
    subst h1
    simp only [resSem, ev, Sem.run_pure]
  | cell a t =>
    simp only [resL1] at h1
    split at h1
    · rename_i n off ha
      split at h1
      · rename_i r hr
        have := loadL_run h1 (ρ := ρ) (n := n) (o := off) (w := w) (fun j v hv => by
          rw [List.getElem?_drop] at hv
          exact hR.cell n r hr _ v hv)
        simp only [Instr.loadAt, Instr.sureAddr, Sem.run_bind, Sem.run_pure, Result.andThen_ok] at this
        simp only [resSem, ev, ha, LV.den, asAddr, Sem.run_bind, Sem.run_pure, Result.andThen_ok]
        exact this
      · cases h1
    · cases h1
theorem resLs_run (hR : Rel T w0 ρ c.rs w) : ∀ (l : List ResultVar) (ys : List LV), resLs P c.tmps c.rs l = some ys → (l.mapM (resSem (act ρ c.tmps).tmps)).run P w = .ok (denL ρ ys) w
  | [], ys, h => by
    simp only [resLs, Option.some.injEq] at h
    subst h
    rfl
  | x :: xs, ys, h => by
    simp only [resLs] at h
    split at h
    · rename_i y ys' h1 h2
      simp only [Option.some.injEq] at h
      subst h
      simp only [List.mapM_cons, Sem.run_bind, resL1_run hR h1, Result.andThen_ok, resLs_run hR xs ys' h2, Sem.run_pure, denL]
    · cases h
theorem resL_run (hR : Rel T w0 ρ c.rs w) {x : LV} (h : resL P fn c = some x) : (results fn (act ρ c.tmps).tmps).run P w = .ok (x.den ρ) w := by
  unfold resL at h
  cases hl : resLs P c.tmps c.rs fn.results.toList with
  | none => rw [hl] at h; cases h
  | some ys =>
    rw [hl] at h
    simp only [Option.map_some, Option.some.injEq] at h
    subst h
    have := resLs_run hR _ _ hl
    rw [results_eq, Array.mapM_eq_mapM_toList]
    simp only [Sem.run_bind, Sem.run_map, this, Result.andThen_ok]
    match ys with
    | [] => rfl
    | [y] => rfl
    | y :: z :: l => simp [tupL, denL, LV.den]
def atRet (c : Cfg) : Bool := match c.k with
  | .code .ret :: _ => true
  | _ => false
theorem sim_ret [hB : Body P Q fn R] (x : LV) (hR : Rel T w0 ρ c.rs w) (h1 : atRet c = true) (h2 : resL P fn c = some x) (h : R (.returned (x.den ρ)) w) : At P Q c ρ w := by
  obtain ⟨k, t, rs⟩ := c
  unfold atRet at h1
  split at h1
  · rename_i k' hk
    simp only at hk
    subst hk
    show Code.wp P .ret (post P Q k') (act ρ t) w
    exact wp_ret ((post_ret k').2 (hB.ret _ _ ⟨rfl, _, resL_run hR h2, h⟩))
  · cases h1
/-- a function without a result that comes to its end -/
theorem sim_end (x : LV) (hR : Rel T w0 ρ c.rs w) (h1 : c.k = []) (h2 : resL P fn c = some x) (h : R (.returned (x.den ρ)) w) : At P (bodyPost P fn R) c ρ w := by
  unfold At
  rw [h1]
  exact ⟨rfl, _, resL_run hR h2, h⟩

/-! ### Calling -/
def calleeL (f : LV) (args : List LV) : Option (FuncId × List LV) := match f with
  | .v (.func (.func g) fs cs) => some (g, fs.toList.map .v ++ args ++ cs.toList.map .v)
  | .fnv (.func g) fs cs => some (g, fs ++ args ++ cs)
  | _ => none
def callOp (P : Program) (o : Oper) (tmps : List LV) : Option (FuncId × List LV) := match o.op with
  | .call { callee := .value f, args, .. } => match calleeL (evalL tmps f) (args.toList.map (evalL tmps)) with
    | some (g, as) => match P.funcs[g]? with
      | some fn => if (!fn.body.isNone) && !(fn.name == "runtime.NumGoroutine") then some (g, as) else none
      | none => none
    | none => none
  | _ => none
theorem callFunc_run {f : FuncId} {fn : Func} (hf : P.funcs[f]? = some fn) (hb : fn.body.isNone = false) (hn : (fn.name == "runtime.NumGoroutine") = false) (args : Array Value) (w : World) : (callFunc f args).run P w = .ok (.enter f args) w := by
  unfold callFunc
  simp only [Sem.run_bind, run_program, Result.andThen_ok, hf, hn, hb, Bool.false_eq_true, if_false, Sem.run_pure]
theorem callOp_run {o : Oper} {t : List LV} {f : FuncId} {as : List LV} (h : callOp P o t = some (f, as)) (ρ : Nm) (w : World) : (execOp (act ρ t).eval o).run P w = .ok (.enter f (denL ρ as).toArray) w := by
  unfold callOp at h
  split at h
  · rename_i fo args ats ho
    split at h
    · rename_i g as' hc
      split at h
      · rename_i fn hf
        split at h
        · rename_i hb
          simp only [Option.some.injEq, Prod.mk.injEq] at h
          obtain ⟨rfl, rfl⟩ := h
          simp only [Bool.and_eq_true, Bool.not_eq_true'] at hb
          have e1 : args.map (act ρ t).eval = (denL ρ (args.toList.map (evalL t))).toArray := Array.ext' (by rw [Array.toList_map, evals_toList (act_eval ρ t)])
          unfold calleeL at hc
          unfold execOp
          split at hc
          · rename_i g' fs cs hev
            simp only [Option.some.injEq, Prod.mk.injEq] at hc
            obtain ⟨rfl, rfl⟩ := hc
            simp only [ho, resolve, e1, act_eval, hev, LV.den, Deferred.ofValue, Sem.run_bind, Sem.run_pure, Result.andThen_ok, invoke, callFunc_run hf hb.1 hb.2]
            congr 2
            apply Array.ext'
            simp [denL_append, denL_v]
          · rename_i g' fs cs hev
            simp only [Option.some.injEq, Prod.mk.injEq] at hc
            obtain ⟨rfl, rfl⟩ := hc
            simp only [ho, resolve, e1, act_eval, hev, LV.den, Deferred.ofValue, Sem.run_bind, Sem.run_pure, Result.andThen_ok, invoke, callFunc_run hf hb.1 hb.2]
            congr 2
            apply Array.ext'
            simp [denL_append]
          · cases hc
        · cases h
      · cases h
    · cases h
  · cases h
/-- the operation that stands next, if it is wanted -/
def topOp (c : Cfg) : Option Oper := match c.k with
  | .ops _ ops _ (o :: _) :: _ => match wantL ops c.tmps o with
    | some true => some o
    | _ => none
  | _ => none
/-- behind it -/
def nextK (c : Cfg) : List It := match c.k with
  | .ops id ops i (_ :: rest) :: k => .ops id ops (i + 1) rest :: k
  | k => k
def nextT (c : Cfg) (x : LV) : List LV := match c.k with
  | .ops _ _ _ (o :: _) :: _ => putL c.tmps o.dst x
  | _ => c.tmps
abbrev nextC (c : Cfg) (x : LV) (rs : List Reg) : Cfg := ⟨nextK c, nextT c x, rs⟩
def callC (P : Program) (c : Cfg) : Option (FuncId × List LV) := match topOp c with
  | some o => callOp P o c.tmps
  | none => none
def nextAt (P : Program) (Q : Exit → Act → World → Prop) (c : Cfg) : Act → World → Prop := match c.k with
  | .ops _ ops _ (_ :: rest) :: k => wpList P ops (post P Q k) rest
  | _ => fun _ _ => False
def nextQ (P : Program) (Q : Exit → Act → World → Prop) (c : Cfg) : Exit → Act → World → Prop := match c.k with
  | .ops _ _ _ _ :: k => post P Q k
  | _ => fun _ _ _ => False
theorem top_step {o : Oper} (h : topOp c = some o) (hn : o.wp P (act ρ c.tmps) w (nextAt P Q c) (nextQ P Q c)) : At P Q c ρ w := by
  obtain ⟨k, t, rs⟩ := c
  unfold topOp at h
  split at h
  · rename_i id ops i o' rest k' hk
    simp only at hk
    subst hk
    split at h
    · rename_i hw
      simp only [Option.some.injEq] at h
      subst h
      show wpList P ops (post P Q k') (o' :: rest) (act ρ t) w
      unfold wpList
      rw [wantL_spec hw ρ, if_pos rfl]
      exact .inl hn
    · cases h
  · cases h
theorem nextAt_of {o : Oper} (h : topOp c = some o) {x : LV} {rs' : List Reg} {ρ' : Nm} {w' : World} (hs : act ρ' c.tmps = act ρ c.tmps) (hA : At P Q (nextC c x rs') ρ' w') : nextAt P Q c ((act ρ c.tmps).put o.dst (x.den ρ')) w' := by
  obtain ⟨k, t, rs⟩ := c
  unfold topOp at h
  split at h
  · rename_i id ops i o' rest k' hk
    simp only at hk
    subst hk
    split at h
    · simp only [Option.some.injEq] at h
      subst h
      rw [putL_act hs o'.dst x x rfl]
      exact hA
    · cases h
  · cases h
/-- what stands behind a call -/
def Back (P : Program) (Q : Exit → Act → World → Prop) (c : Cfg) (ρ : Nm) (e : Ending) (w'' : World) : Prop :=
  ∃ (x : LV) (rs'' : List Reg) (ρ'' : Nm), e = .returned (x.den ρ'') ∧ act ρ'' c.tmps = act ρ c.tmps ∧ At P Q (nextC c x rs'') ρ'' w''
theorem sim_call (f : FuncId) (args : List LV) (hc : callC P c = some (f, args)) (h : Calls P f (denL ρ args).toArray w (Back P Q c ρ)) : At P Q c ρ w := by
  unfold callC at hc
  split at hc
  · rename_i o ho
    refine top_step ho ?_
    unfold Oper.wp
    rw [callOp_run hc]
    simp only [Oper.upon]
    refine h.mono ?_
    rintro e w'' ⟨x, rs'', ρ'', rfl, hs, hA⟩
    exact nextAt_of ho hs hA
  · cases hc
/-- any operation, by hand -/
theorem sim_op (o : Oper) (ho : topOp c = some o) (x : LV) (rs' : List Reg) (ρ' : Nm) (w' : World) (hrun : (execOp (act ρ c.tmps).eval o).run P w = .ok (.value (x.den ρ')) w') (hs : act ρ' c.tmps = act ρ c.tmps) (hA : At P Q (nextC c x rs') ρ' w') : At P Q c ρ w := by
  refine top_step ho ?_
  unfold Oper.wp
  rw [hrun]
  exact nextAt_of ho hs hA
end
end Go.Proofs.Ytodjhkmbgennaaa
