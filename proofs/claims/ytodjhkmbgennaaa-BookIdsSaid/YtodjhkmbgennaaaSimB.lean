/-
  The operations that only compute, over values whose pointers name places: what each leaves. Over any program.
-/
import Derived.Test.YtodjhkmbgennaaaSimA
namespace Go.Proofs.Ytodjhkmbgennaaa
open Go Go.RowKit

/-- what a computation that asks only the program answers -/
def pureRun {α : Type} (P : Program) : Sem α → Option α
  | .pure a => some a
  | .program k => pureRun P (k P)
  | .mark _ k => pureRun P k
  | _ => none
theorem pureRun_run {α : Type} {P : Program} {s : Sem α} {a : α} (h : pureRun P s = some a) (w : World) : s.run P w = .ok a w := by
  induction s generalizing w with
  | pure b => simp only [pureRun, Option.some.injEq] at h; subst h; rfl
  | program k ih => exact ih _ h w
  | mark m k ih => exact ih h w
  | _ => simp [pureRun] at h

def pickL (t : Bool) (a b : LV) : LV :=
  match a, b with
  | .v (.bool x), .v (.bool y) => .v (.bool (bif t then x else y))
  | a, b => bif t then a else b
theorem pickL_den (ρ : Nm) (t : Bool) (a b : LV) : (pickL t a b).den ρ = if t = true then a.den ρ else b.den ρ := by
  unfold pickL
  split
  · cases t <;> rfl
  · cases t <;> rfl

def LV.plain : LV → Option Value
  | .v x => some x
  | _ => none
theorem LV.plain_den {x : LV} {u : Value} (h : x.plain = some u) (ρ : Nm) : x.den ρ = u := by
  cases x <;> simp [LV.plain] at h
  exact h
def plains : List LV → Option (List Value)
  | [] => some []
  | x :: xs => match x.plain, plains xs with
    | some u, some us => some (u :: us)
    | _, _ => none
theorem plains_den {ρ : Nm} : ∀ {l : List LV} {us : List Value}, plains l = some us → denL ρ l = us
  | [], us, h => by simp only [plains, Option.some.injEq] at h; subst h; rfl
  | x :: xs, us, h => by
    simp only [plains] at h
    split at h
    · rename_i u us' h1 h2
      simp only [Option.some.injEq] at h
      subst h
      simp only [denL, LV.plain_den h1, plains_den h2]
    · cases h

/-- a part of a struct -/
def partL (P : Program) (t : TypeId) (l : List LV) (off : Nat) : Option LV :=
  match P.underlying t, P.info? t with
  | some (.struct _), some i => some (.agg ((l.drop off).take i.size))
  | some (.array _ _), some i => some (.agg ((l.drop off).take i.size))
  | some _, some _ => l[off]?
  | _, _ => none
theorem denL_length (ρ : Nm) (l : List LV) : (denL ρ l).length = l.length := by simp [denL_eq]
theorem denL_get (ρ : Nm) (l : List LV) (i : Nat) : (denL ρ l)[i]? = (l[i]?).map (LV.den ρ) := by simp [denL_eq]
theorem denL_append (ρ : Nm) (l m : List LV) : denL ρ (l ++ m) = denL ρ l ++ denL ρ m := by simp [denL_eq]
theorem denL_take (ρ : Nm) (l : List LV) (n : Nat) : denL ρ (l.take n) = (denL ρ l).take n := by simp [denL_eq, List.map_take]
theorem denL_drop (ρ : Nm) (l : List LV) (n : Nat) : denL ρ (l.drop n) = (denL ρ l).drop n := by simp [denL_eq, List.map_drop]
theorem extract_take (cs : List Value) (off n : Nat) : (cs.toArray.extract off (off + n)) = ((cs.drop off).take n).toArray := by
  apply Array.ext'
  simp [List.extract_eq_take_drop]
theorem partL_run {P : Program} {t : TypeId} {l : List LV} {off : Nat} {x : LV} (h : partL P t l off = some x) (ρ : Nm) (w : World) : (part t (denL ρ l).toArray off).run P w = .ok (x.den ρ) w := by
  unfold partL at h
  split at h
  · rename_i hu hi
    simp only [Option.some.injEq] at h
    subst h
    simp [part, isAgg, run_underlying hu, sizeOf, typeInfo, hi, LV.den, denL_take, denL_drop]
  · rename_i hu hi
    simp only [Option.some.injEq] at h
    subst h
    simp [part, isAgg, run_underlying hu, sizeOf, typeInfo, hi, LV.den, denL_take, denL_drop]
  · rename_i d i hns hna hu hi
    have hag : (isAgg t).run P w = .ok false w := by
      simp only [isAgg, Sem.run_bind, run_underlying hu, Result.andThen_ok]
      cases d <;> first | rfl | exact absurd hu (by intro; exact hns _ rfl) | exact absurd hu (by intro; exact hna _ _ rfl)
    simp only [part, Sem.run_bind, hag, Result.andThen_ok, Bool.false_eq_true, if_false, List.getElem?_toArray, denL_get, h, Option.map_some, Sem.run_pure]
  · cases h
def fieldL (P : Program) (t : TypeId) (l : List LV) (f : Nat) : Option LV :=
  match P.underlying t with
  | some (.struct fs) => match fs[f]? with
    | some fd => partL P fd.type l fd.offset
    | none => none
  | _ => none
theorem fieldL_run {P : Program} {t : TypeId} {l : List LV} {f : Nat} {x : LV} (h : fieldL P t l f = some x) (ρ : Nm) (w : World) : (Instr.field t (.agg (denL ρ l).toArray) f).run P w = .ok (x.den ρ) w := by
  unfold fieldL at h
  split at h
  · rename_i fs hu
    split at h
    · rename_i fd hf
      simp [Instr.field, run_underlying hu, hf, asAgg, partL_run h ρ w]
    · cases h
  · cases h

/-- an element of an array -/
def indexL (P : Program) (t : TypeId) (l : List LV) (z : Int) : Option LV :=
  match P.underlying t with
  | some (.array len e) => match P.info? e with
    | some i => match z with
      | .ofNat n => if Nat.blt n len then partL P e l (n * i.size) else none
      | _ => none
    | none => none
  | _ => none
theorem indexL_run {P : Program} {t : TypeId} {l : List LV} {z : Int} {x : LV} (h : indexL P t l z = some x) (ρ : Nm) (k : IntKind) (w : World) : (Instr.index t (.agg (denL ρ l).toArray) (.int k z)).run P w = .ok (x.den ρ) w := by
  unfold indexL at h
  split at h
  · rename_i len e hu
    split at h
    · rename_i i hi
      split at h
      · rename_i n
        split at h
        · rename_i hb
          have hlt := blt_lt hb
          show (Instr.index t (.agg (denL ρ l).toArray) (.int k (n : Int))).run P w = .ok (x.den ρ) w
          simp [Instr.index, asIntOf, run_underlying hu, hlt, sizeOf, typeInfo, hi, partL_run h ρ w]
        · cases h
      · cases h
    · cases h
  · cases h

/-- how far a field lies behind its struct -/
def fieldOff (P : Program) (s : TypeId) (f : Nat) : Option Nat :=
  match P.underlying s with
  | some (.struct fs) => match fs[f]? with
    | some fd => match P.info? fd.type with
      | some i => if Nat.beq i.size 0 then none else some fd.offset
      | none => none
    | none => none
  | _ => none
theorem at_add (ρ : Nm) (n o d : Nat) : (ρ.at_ n o).add d = ρ.at_ n (o + d) := by
  unfold Addr.add Nm.at_
  by_cases hd : d = 0
  · simp [hd]
  · simp [hd, Nat.add_assoc]
theorem fieldOff_run {P : Program} {s : TypeId} {f d : Nat} (h : fieldOff P s f = some d) (ρ : Nm) (n o : Nat) (w : World) : (Instr.fieldAt s (.pointer (some (ρ.at_ n o))) f).run P w = .ok (.pointer (some (ρ.at_ n (o + d)))) w := by
  unfold fieldOff at h
  split at h
  · rename_i fs hu
    split at h
    · rename_i fd hf
      split at h
      · rename_i i hi
        split at h
        · cases h
        · rename_i hz
          simp only [Option.some.injEq] at h
          subst h
          have hz' : i.size ≠ 0 := by
            intro e
            rw [e] at hz
            exact hz rfl
          simp [Instr.fieldAt, run_underlying hu, hf, Instr.sureAddr, fieldPlace, sizeOf, typeInfo, hi, hz', at_add]
      · cases h
    · cases h
  · cases h

/-- a place against nil -/
def nilCmp (P : Program) (op : BinOp) (t : TypeId) (x y : LV) : Option LV :=
  match op, P.underlying t, x, y with
  | .eql, some (.pointer _), .ptr _ _, .v (.pointer none) => some (.v (.bool false))
  | .neq, some (.pointer _), .ptr _ _, .v (.pointer none) => some (.v (.bool true))
  | .eql, some (.slice _), .slc _ _ _ _, .v (.slice none _ _) => some (.v (.bool false))
  | .neq, some (.slice _), .slc _ _ _ _, .v (.slice none _ _) => some (.v (.bool true))
  | .eql, some (.map _ _), .mp _, .v (.map none) => some (.v (.bool false))
  | .neq, some (.map _ _), .mp _, .v (.map none) => some (.v (.bool true))
  | .eql, some (.pointer e), .ptr n o, .ptr m p => match P.info? e with
    | some i => if Nat.beq i.size 0 then none else if Nat.beq n m && Nat.beq o p then some (.v (.bool true)) else none
    | none => none
  | _, _, _, _ => none
theorem maxDepth_succ : ∃ d, Op.maxDepth = d + 1 := ⟨9999, rfl⟩
section
variable {P : Program} {t : TypeId} (w : World) (a : Addr)
theorem equal_ptr_nil {e : TypeId} (hu : P.underlying t = some (.pointer e)) : (Op.equal t (.pointer (some a)) (.pointer none)).run P w = .ok false w := by
  obtain ⟨d, hd⟩ := maxDepth_succ
  rw [Op.equal, hd, Op.equalIn]
  simp [run_underlying hu]
theorem equal_slc_nil {e : TypeId} (hu : P.underlying t = some (.slice e)) (n c n' c' : Nat) : (Op.equal t (.slice (some a) n c) (.slice none n' c')).run P w = .ok false w := by
  obtain ⟨d, hd⟩ := maxDepth_succ
  rw [Op.equal, hd, Op.equalIn]
  simp [run_underlying hu]
theorem equal_mp_nil {k e : TypeId} (hu : P.underlying t = some (.map k e)) (g : Nat) : (Op.equal t (.map (some g)) (.map none)).run P w = .ok false w := by
  obtain ⟨d, hd⟩ := maxDepth_succ
  rw [Op.equal, hd, Op.equalIn]
  simp [run_underlying hu]
theorem equal_ptr_same {e : TypeId} {i : TypeInfo} (hu : P.underlying t = some (.pointer e)) (hi : P.info? e = some i) (_hz : i.size ≠ 0) : (Op.equal t (.pointer (some a)) (.pointer (some a))).run P w = .ok true w := by
  obtain ⟨d, hd⟩ := maxDepth_succ
  rw [Op.equal, hd, Op.equalIn]
  simp [run_underlying hu, sizeOf, typeInfo, hi, sameAddr]
end
theorem nilCmp_run {P : Program} {op : BinOp} {t : TypeId} {x y r : LV} (h : nilCmp P op t x y = some r) (ρ : Nm) (xo yo : Operand) (w : World) : (do eqGuard op t xo yo (x.den ρ) (y.den ρ); binOp op t (x.den ρ) (y.den ρ) : Sem Value).run P w = .ok (r.den ρ) w := by
  unfold nilCmp at h
  split at h <;> first
    | (cases h; done)
    | (rename_i hu; simp only [Option.some.injEq] at h; subst h; simp [eqGuard, binOp, LV.den, equal_ptr_nil w _ hu]; done)
    | (rename_i hu; simp only [Option.some.injEq] at h; subst h; simp [eqGuard, binOp, LV.den, equal_slc_nil w _ hu]; done)
    | (rename_i hu; simp only [Option.some.injEq] at h; subst h; simp [eqGuard, binOp, LV.den, equal_mp_nil w hu]; done)
    | skip
  rename_i e n o m p hu
  split at h
  · rename_i i hi
    split at h
    · cases h
    · rename_i hz
      have hz' : i.size ≠ 0 := by
        intro e
        rw [e] at hz
        exact hz rfl
      split at h
      · rename_i hnm
        simp only [Bool.and_eq_true] at hnm
        have e1 := Nat.eq_of_beq_eq_true hnm.1
        have e2 := Nat.eq_of_beq_eq_true hnm.2
        subst e1 e2
        simp only [Option.some.injEq] at h
        subst h
        simp [eqGuard, binOp, LV.den, equal_ptr_same w _ hu hi hz']
      · cases h
  · cases h

/-! ### Two structs are compared -/
def eqFs (g : Field → Option Bool) : List Field → Option Bool
  | [] => some true
  | f :: fs => if f.name = "_" then eqFs g fs else match g f, eqFs g fs with
    | some b, some r => some (b && r)
    | _, _ => none
def eqIn (P : Program) : Nat → TypeId → Value → Value → Option Bool
  | 0, _, _, _ => none
  | d + 1, t, x, y => match P.underlying t, x, y with
    | some .bool, .bool a, .bool b => some (a == b)
    | some (.int _), .int k a, .int k' b => if k = k' then some (a == b) else none
    | some .string, .string a, .string b => some (a == b)
    | some (.struct fields), .agg xs, .agg ys => if P.stoodInHeld t then none else eqFs (fun f => match pureRun P (part f.type xs f.offset), pureRun P (part f.type ys f.offset) with
      | some a, some b => eqIn P d f.type a b
      | _, _ => none) fields.toList
    | _, _, _ => none
theorem eqIn_run {P : Program} : ∀ (d : Nat) (t : TypeId) (x y : Value) (b : Bool) (w : World), eqIn P d t x y = some b → (Op.equalIn d t x y).run P w = .ok b w
  | 0, _, _, _, _, _, h => by cases h
  | d + 1, t, x, y, b, w, h => by
    unfold eqIn at h
    split at h
    · rename_i hu
      simp only [Option.some.injEq] at h
      subst h
      rw [Op.equalIn]
      simp [run_underlying hu]
    · rename_i hu
      split at h
      · rename_i hk
        subst hk
        simp only [Option.some.injEq] at h
        subst h
        rw [Op.equalIn]
        simp [run_underlying hu]
      · cases h
    · rename_i hu
      simp only [Option.some.injEq] at h
      subst h
      rw [Op.equalIn]
      simp [run_underlying hu]
    · rename_i fields xs ys hu
      split at h
      · cases h
      · rename_i hs
        rw [Op.equalIn]
        simp only [Sem.run_bind, run_underlying hu, Result.andThen_ok, run_program, hs, Bool.false_eq_true, if_false]
        rw [← Array.forIn_toList]
        have key : ∀ (fs : List Field) (b : Bool), eqFs (fun f => match pureRun P (part f.type xs f.offset), pureRun P (part f.type ys f.offset) with
            | some a, some b => eqIn P d f.type a b
            | _, _ => none) fs = some b →
            Sem.run P (forIn fs ((none : Option Bool), ()) fun f __s =>
              if f.name ≠ "_" then do
                let __do_lift ← part f.type xs f.offset
                let __do_lift_1 ← part f.type ys f.offset
                let __do_lift ← Op.equalIn d f.type __do_lift __do_lift_1
                if (!__do_lift) = true then pure (ForInStep.done (some false, ())) else pure (ForInStep.yield (none, ()))
              else pure (ForInStep.yield (none, ()))) w = .ok (if b = true then none else some false, ()) w := by
          intro fs
          induction fs with
          | nil =>
            intro b h
            simp only [eqFs, Option.some.injEq] at h
            subst h
            simp
          | cons f fs ih =>
            intro b h
            simp only [eqFs] at h
            rw [List.forIn_cons]
            split at h
            · rename_i hf
              simp only [hf, ne_eq, not_true_eq_false, if_false, Sem.run_bind, Sem.run_pure, Result.andThen_ok]
              exact ih b h
            · rename_i hf
              split at h
              · rename_i b1 r1 h1 h2
                simp only [Option.some.injEq] at h
                subst h
                split at h1
                · rename_i u v hu1 hv1
                  have p1 := pureRun_run hu1 w
                  have p2 := pureRun_run hv1 w
                  have p3 := eqIn_run d f.type u v b1 w h1
                  simp only [hf, ne_eq, not_false_eq_true, if_true, Sem.run_bind, p1, p2, p3, Result.andThen_ok]
                  cases b1 with
                  | true =>
                    simp only [Bool.not_true, Bool.false_eq_true, if_false, Sem.run_pure, Result.andThen_ok, Bool.true_and]
                    exact ih r1 h2
                  | false => simp
                · cases h1
              · cases h
        have hk := key fields.toList b h
        rw [hk]
        cases b <;> simp
    · cases h
mutual
def plainV : LV → Option Value
  | .v x => some x
  | .agg l => match plainVs l with
    | some us => some (.agg us.toArray)
    | none => none
  | _ => none
def plainVs : List LV → Option (List Value)
  | [] => some []
  | x :: xs => match plainV x, plainVs xs with
    | some u, some us => some (u :: us)
    | _, _ => none
end
mutual
theorem plainV_den {ρ : Nm} : ∀ (x : LV) (u : Value), plainV x = some u → x.den ρ = u
  | .v _, u, h => by simp only [plainV, Option.some.injEq] at h; exact h
  | .agg l, u, h => by
    simp only [plainV] at h
    split at h
    · rename_i us hus
      simp only [Option.some.injEq] at h
      subst h
      simp only [LV.den, plainVs_den l us hus]
    · cases h
  | .ptr _ _, u, h => by simp [plainV] at h
  | .slc _ _ _ _, u, h => by simp [plainV] at h
  | .mp _, u, h => by simp [plainV] at h
  | .tup _, u, h => by simp [plainV] at h
  | .fnv _ _ _, u, h => by simp [plainV] at h
theorem plainVs_den {ρ : Nm} : ∀ (l : List LV) (us : List Value), plainVs l = some us → denL ρ l = us
  | [], us, h => by simp only [plainVs, Option.some.injEq] at h; subst h; rfl
  | x :: xs, us, h => by
    simp only [plainVs] at h
    split at h
    · rename_i u us' h1 h2
      simp only [Option.some.injEq] at h
      subst h
      simp only [denL, plainV_den x u h1, plainVs_den xs us' h2]
    · cases h
end
/-- two structs -/
def aggCmp (P : Program) (op : BinOp) (t : TypeId) (xo yo : Operand) (a b : Value) : Option LV :=
  match a, b with
  | .agg _, .agg _ => match pureRun P (eqGuard op t xo yo a b) with
    | some _ => match eqIn P Op.maxDepth t a b with
      | some r => match op with
        | .eql => some (.v (.bool r))
        | .neq => some (.v (.bool (!r)))
        | _ => none
      | none => none
    | none => none
  | _, _ => none
theorem aggCmp_run {P : Program} {op : BinOp} {t : TypeId} {a b : Value} {xo yo : Operand} {r : LV} (h : aggCmp P op t xo yo a b = some r) (ρ : Nm) (w : World) : (do eqGuard op t xo yo a b; binOp op t a b : Sem Value).run P w = .ok (r.den ρ) w := by
  unfold aggCmp at h
  split at h
  · split at h
    · rename_i u hg
      have p1 := pureRun_run hg w
      split at h
      · rename_i q hq
        have p2 := eqIn_run _ _ _ _ _ w hq
        split at h
        · simp only [Option.some.injEq] at h
          subst h
          rw [Sem.run_bind, p1, Result.andThen_ok]
          simp [binOp, Op.equal, p2, LV.den]
        · simp only [Option.some.injEq] at h
          subst h
          rw [Sem.run_bind, p1, Result.andThen_ok]
          simp [binOp, Op.equal, p2, LV.den]
        · cases h
      · cases h
    · cases h
  · cases h

/-- the builtins that only compute -/
def pureB : Builtin → Bool
  | .len => true
  | .cap => true
  | .min => true
  | .max => true
  | _ => false
def pureArgs (b : Builtin) (l : List LV) : Option (List Value) := if pureB b then plains l else none
/-- what an operation that only computes leaves -/
def opPure (P : Program) (o : Oper) (ev : Operand → LV) : Option LV :=
  match o.op with
  | .move x => some (ev x)
  | .assign x => some (ev x)
  | .pick c a b => match ev c with
    | .v (.bool t) => some (pickL t (ev a) (ev b))
    | _ => none
  | .binOp op t x y _ => match ev x, ev y with
    | .v a, .v b => match aggCmp P op t x y a b with
      | some r => some r
      | none => (pureRun P (do eqGuard op t x y a b; binOp op t a b)).map .v
    | a, b => match nilCmp P op t a b with
      | some r => some r
      | none => match plainV a, plainV b with
        | some u, some v => aggCmp P op t x y u v
        | _, _ => none
  | .unOp op _ x => match ev x with
    | .v a => (pureRun P (Op.unary op a)).map .v
    | _ => none
  | .convert s d x => match ev x with
    | .v a => (pureRun P (convert s d a)).map .v
    | _ => none
  | .index t x i => match ev x, ev i with
    | .v (.agg cs), .v b => (pureRun P (Instr.index t (.agg cs) b)).map .v
    | .agg l, .v (.int _ z) => indexL P t l z
    | _, _ => none
  | .extract t i => match ev t with
    | .tup l => l[i]?
    | .v a => (pureRun P (Instr.extract a i)).map .v
    | _ => none
  | .field t x f => match ev x with
    | .agg l => fieldL P t l f
    | .v a => (pureRun P (Instr.field t a f)).map .v
    | _ => none
  | .fieldAddr s x f => match ev x with
    | .ptr n o => (fieldOff P s f).map fun d => .ptr n (o + d)
    | _ => none
  | .nilCheck x => match ev x with
    | .ptr n o => some (.ptr n o)
    | _ => none
  | .makeFunc fn first cap => some (.fnv fn (first.toList.map ev) (cap.toList.map ev))
  | .call { callee := .builtin b, args, argTypes } => match pureArgs b (args.toList.map ev) with
    | some us => match pureRun P (invoke (.builtin b argTypes o.type (args.map fun | .const _ => true | _ => false)) us.toArray) with
      | some (.value u) => some (.v u)
      | _ => none
    | none => match b, argTypes.toList, args.toList.map ev with
      | .len, [t], [.slc _ _ l _] => match P.underlying t with
        | some (.slice _) => some (.v (.int .i64 l))
        | _ => none
      | .cap, [t], [.slc _ _ _ c] => match P.underlying t with
        | some (.slice _) => some (.v (.int .i64 c))
        | _ => none
      | _, _, _ => none
  | _ => none

theorem map_v {x : Option Value} {r : LV} (h : x.map LV.v = some r) : ∃ u, x = some u ∧ r = .v u := by
  cases x with
  | none => cases h
  | some u => exact ⟨u, rfl, by simpa using h.symm⟩
theorem evals_toList {ρ : Nm} {ev : Operand → LV} {ev' : Operand → Value} (he : ∀ x, ev' x = (ev x).den ρ) (l : List Operand) : l.map ev' = denL ρ (l.map ev) := by
  rw [denL_eq, List.map_map]
  exact List.map_congr_left fun x _ => he x
theorem opt_head {ρ : Nm} {ev : Operand → LV} {ev' : Operand → Value} (he : ∀ x, ev' x = (ev x).den ρ) (lo : Option Operand) {us : List Value} (h : plains (lo.toList.map ev) = some us) : lo.map ev' = us.head? := by
  have h2 := plains_den (ρ := ρ) h
  cases lo with
  | none => simp [plains] at h; subst h; rfl
  | some x => simp [denL] at h2; subst h2; simp [he]

theorem opPure_run {P : Program} {o : Oper} {ev : Operand → LV} {r : LV} (h : opPure P o ev = some r) {ρ : Nm} {ev' : Operand → Value} (he : ∀ x, ev' x = (ev x).den ρ) (w : World) :
    (execOp ev' o).run P w = .ok (.value (r.den ρ)) w := by
  unfold opPure at h
  unfold execOp
  split at h
  · rename_i x ho
    simp only [Option.some.injEq] at h
    subst h
    simp [ho, he]
  · rename_i x ho
    simp only [Option.some.injEq] at h
    subst h
    simp [ho, he]
  · rename_i c a b ho
    split at h
    · rename_i t hc
      simp only [Option.some.injEq] at h
      subst h
      simp [ho, he, hc, LV.den, asBool, pickL_den]
    · cases h
  · rename_i op t x y yt ho
    split at h
    · rename_i a b ha hb
      split at h
      · rename_i q hq
        simp only [Option.some.injEq] at h
        subst h
        have := aggCmp_run hq ρ w
        simp only [ho, he, ha, hb, LV.den]
        rw [Sem.run_bind, this]
        rfl
      · obtain ⟨u, hu, rfl⟩ := map_v h
        have := pureRun_run hu w
        simp only [ho, he, ha, hb, LV.den]
        rw [Sem.run_bind, this]
        rfl
    · split at h
      · rename_i q hq
        simp only [Option.some.injEq] at h
        subst h
        have := nilCmp_run hq ρ x y w
        simp only [ho, he]
        rw [Sem.run_bind, this]
        rfl
      · split at h
        · rename_i u v hu hv
          have := aggCmp_run h ρ w
          rw [← plainV_den (ρ := ρ) _ _ hu, ← plainV_den (ρ := ρ) _ _ hv] at this
          simp only [ho, he]
          rw [Sem.run_bind, this]
          rfl
        · cases h
  · rename_i op t x ho
    split at h
    · rename_i a ha
      obtain ⟨u, hu, rfl⟩ := map_v h
      simp only [ho, he, ha, LV.den, Sem.run_bind, pureRun_run hu w, Result.andThen_ok, Sem.run_pure]
    · cases h
  · rename_i s d x ho
    split at h
    · rename_i a ha
      obtain ⟨u, hu, rfl⟩ := map_v h
      simp only [ho, he, ha, LV.den, Sem.run_bind, pureRun_run hu w, Result.andThen_ok, Sem.run_pure]
    · cases h
  · rename_i t x i ho
    split at h
    · rename_i a b ha hb
      obtain ⟨u, hu, rfl⟩ := map_v h
      simp only [ho, he, ha, hb, LV.den, Sem.run_bind, pureRun_run hu w, Result.andThen_ok, Sem.run_pure]
    · rename_i l k z ha hb
      simp only [ho, he, ha, hb, LV.den, Sem.run_bind, indexL_run h ρ k w, Result.andThen_ok, Sem.run_pure]
    · cases h
  · rename_i t i ho
    split at h
    · rename_i l hl
      have hg : (denL ρ l)[i]? = some (r.den ρ) := by rw [denL_get, h]; rfl
      simp [ho, he, hl, LV.den, Instr.extract, hg]
    · rename_i a ha
      obtain ⟨u, hu, rfl⟩ := map_v h
      simp only [ho, he, ha, LV.den, Sem.run_bind, pureRun_run hu w, Result.andThen_ok, Sem.run_pure]
    · cases h
  · rename_i t x f ho
    split at h
    · rename_i l hl
      simp only [ho, he, hl, LV.den, Sem.run_bind, fieldL_run h ρ w, Result.andThen_ok, Sem.run_pure]
    · rename_i a ha
      obtain ⟨u, hu, rfl⟩ := map_v h
      simp only [ho, he, ha, LV.den, Sem.run_bind, pureRun_run hu w, Result.andThen_ok, Sem.run_pure]
    · cases h
  · rename_i s x f ho
    split at h
    · rename_i n p hp
      cases hf : fieldOff P s f with
      | none => rw [hf] at h; cases h
      | some d =>
        rw [hf] at h
        simp only [Option.map_some, Option.some.injEq] at h
        subst h
        simp only [ho, he, hp, LV.den, Sem.run_bind, fieldOff_run hf ρ n p w, Result.andThen_ok, Sem.run_pure]
    · cases h
  · rename_i x ho
    split at h
    · rename_i n p hp
      simp only [Option.some.injEq] at h
      subst h
      simp only [ho, he, hp, LV.den, Sem.run_pure]
    · cases h
  · rename_i fn first cap ho
    simp only [Option.some.injEq] at h
    subst h
    have e1 : first.map ev' = (denL ρ (first.toList.map ev)).toArray := Array.ext' (by rw [Array.toList_map, evals_toList he])
    have e2 : cap.map ev' = (denL ρ (cap.toList.map ev)).toArray := Array.ext' (by rw [Array.toList_map, evals_toList he])
    simp [ho, Instr.makeFunc, e1, e2, LV.den]
  · rename_i b args ats ho
    have e1 : args.map ev' = (denL ρ (args.toList.map ev)).toArray := Array.ext' (by rw [Array.toList_map, evals_toList he])
    split at h
    · rename_i us hus0
      have hus : plains (args.toList.map ev) = some us := by
        unfold pureArgs at hus0
        split at hus0
        · exact hus0
        · cases hus0
      split at h
      · rename_i u hu
        simp only [Option.some.injEq] at h
        subst h
        have := pureRun_run hu w
        simp only [ho, resolve, e1, plains_den hus, Sem.run_bind, Sem.run_pure, Result.andThen_ok, LV.den]
        exact this
      · cases h
    · split at h
      · rename_i t n p l c hat hargs _
        split at h
        · rename_i e hu
          simp only [Option.some.injEq] at h
          subst h
          have hat' : ats = #[t] := by cases ats; simp_all
          simp [ho, resolve, e1, hargs, hat', invoke, builtin, Builtin.len_, denL, LV.den, run_underlying hu, goInt]
        · cases h
      · rename_i t n p l c hat hargs _
        split at h
        · rename_i e hu
          simp only [Option.some.injEq] at h
          subst h
          have hat' : ats = #[t] := by cases ats; simp_all
          simp [ho, resolve, e1, hargs, hat', invoke, builtin, Builtin.cap_, denL, LV.den, run_underlying hu, goInt]
        · cases h
      · cases h
  · cases h
end Go.Proofs.Ytodjhkmbgennaaa
