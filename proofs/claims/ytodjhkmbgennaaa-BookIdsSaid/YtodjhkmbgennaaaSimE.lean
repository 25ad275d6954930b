/-
  The executor: a function's code, over values whose pointers name places, till it comes to what it does not do by itself. Over any program.
-/
import Derived.Test.YtodjhkmbgennaaaSimD
import Derived.LoopN
namespace Go.Proofs.Ytodjhkmbgennaaa
open Go Go.RowKit

/-- what is still to be done, innermost first -/
inductive It where
  | code (c : Code)
  | blk (id : Nat)
  | ops (id : Nat) (ops : Array Oper) (i : Nat) (rest : List Oper)
  | rnd (n : Nat) (c : Code)
structure Cfg where
  k : List It
  tmps : List LV
  rs : List Reg
/-- at an operation (its region, its number) the value is written otherwise -/
structure Hint where
  r : Nat
  i : Nat
  old : LV
  new : LV

def post (P : Program) (Q : Exit → Act → World → Prop) : List It → Exit → Act → World → Prop
  | [] => Q
  | .code c :: k => Exit.then (c.wp P (post P Q k)) (post P Q k)
  | .blk id :: k => Exit.inBlock id (post P Q k)
  | .ops _ ops _ rest :: k => Exit.then (wpList P ops (post P Q k) rest) (post P Q k)
  | .rnd n c :: k => Exit.then (Code.rounds P c (post P Q k) n) (post P Q k)

def exitK (id : Nat) : List It → Option (List It)
  | [] => none
  | .blk id' :: k => if Nat.beq id id' then some k else exitK id k
  | _ :: k => exitK id k
section
variable {P : Program} {Q : Exit → Act → World → Prop}
theorem post_panic {c : List PanicEntry} {a : Act} {w : World} : ∀ k, post P Q k (.panic c) a w ↔ Q (.panic c) a w
  | [] => Iff.rfl
  | .code _ :: k => post_panic k
  | .blk _ :: k => post_panic k
  | .ops _ _ _ _ :: k => post_panic k
  | .rnd _ _ :: k => post_panic k
theorem post_ret {a : Act} {w : World} : ∀ k, post P Q k .ret a w ↔ Q .ret a w
  | [] => Iff.rfl
  | .code _ :: k => post_ret k
  | .blk _ :: k => post_ret k
  | .ops _ _ _ _ :: k => post_ret k
  | .rnd _ _ :: k => post_ret k
theorem post_exit {id : Nat} {a : Act} {w : World} : ∀ {k k'}, exitK id k = some k' → post P Q k' .normal a w → post P Q k (.exit id) a w
  | [], _, h, _ => by cases h
  | .code _ :: k, k', h, hp => post_exit (k := k) h hp
  | .ops _ _ _ _ :: k, k', h, hp => post_exit (k := k) h hp
  | .rnd _ _ :: k, k', h, hp => post_exit (k := k) h hp
  | .blk id' :: k, k', h, hp => by
    simp only [exitK] at h
    split at h
    · rename_i hb
      have := Nat.eq_of_beq_eq_true hb
      subst this
      injection h with h
      subst h
      simp only [post, Exit.inBlock, if_true]
      exact hp
    · rename_i hb
      have hne : id ≠ id' := by rintro rfl; simp at hb
      simp only [post, Exit.inBlock, hne, if_false]
      exact post_exit (k := k) h hp
theorem post_exit_none {id : Nat} {a : Act} {w : World} : ∀ {k}, exitK id k = none → Q (.exit id) a w → post P Q k (.exit id) a w
  | [], _, hp => hp
  | .code _ :: k, h, hp => post_exit_none (k := k) h hp
  | .ops _ _ _ _ :: k, h, hp => post_exit_none (k := k) h hp
  | .rnd _ _ :: k, h, hp => post_exit_none (k := k) h hp
  | .blk id' :: k, h, hp => by
    simp only [exitK] at h
    split at h
    · cases h
    · rename_i hb
      have hne : id ≠ id' := by rintro rfl; simp at hb
      simp only [post, Exit.inBlock, hne, if_false]
      exact post_exit_none (k := k) h hp
end

/-- is the operation wanted? -/
def wantL (ops : Array Oper) (tmps : List LV) (o : Oper) : Option Bool :=
  match o.guard with
  | none => some true
  | some (j, want) => match ops[j]? with
    | some oj => match oj.dst with
      | some d => match tmps[d]? with
        | some (.v (.bool b)) => some (b == want)
        | some (.v (.tuple _)) => some false
        | _ => none
      | none => some false
    | none => some false
theorem wantL_spec {ops : Array Oper} {tmps : List LV} {o : Oper} {b : Bool} (h : wantL ops tmps o = some b) (ρ : Nm) : Region.wanted o (yielded ops (act ρ tmps).tmps) = b := by
  unfold wantL at h
  unfold Region.wanted
  split at h
  · rename_i hg
    simp only [Option.some.injEq] at h
    subst h
    rw [hg]
  · rename_i j want hg
    rw [hg]
    unfold yielded act
    split at h
    · rename_i oj hoj
      split at h
      · rename_i d hd
        split at h
        · rename_i t ht
          simp only [Option.some.injEq] at h
          subst h
          simp [hoj, hd, denL_get, ht, LV.den]
        · rename_i t ht
          simp only [Option.some.injEq] at h
          subst h
          simp [hoj, hd, denL_get, ht, LV.den]
        · cases h
      · rename_i hd
        simp only [Option.some.injEq] at h
        subst h
        simp [hoj, hd]
    · rename_i hoj
      simp only [Option.some.injEq] at h
      subst h
      simp [hoj]

def findH : List Hint → Nat → Nat → Option Hint
  | [], _, _ => none
  | h :: hs, r, i => if Nat.beq h.r r && Nat.beq h.i i then some h else findH hs r i
/-- the value as it is written on, and the pair that is to be one -/
def hinted (hs : List Hint) (r i : Nat) (x : LV) : LV × List (LV × LV) :=
  match findH hs r i with
  | some h => (h.new, [(x, h.new)])
  | none => (x, [])

/-! ### Regions that draw -/
def isQuiet (o : Oper) : Bool := match o.op with
  | .call { callee := .builtin .len, .. } => true
  | .call { callee := .builtin .cap, .. } => true
  | .call { callee := .builtin .min, .. } => true
  | .call { callee := .builtin .max, .. } => true
  | .call _ => false
  | .alloc _ => false
  | .box _ _ => false
  | .buildSlice _ _ _ => false
  | .store _ _ _ => false
  | .makeMap _ _ => false
  | .makeSlice _ _ _ => false
  | .mapUpdate _ _ _ _ => false
  | .insert _ _ _ _ => false
  | .mapEntry _ _ _ => false
  | .entryStore _ _ _ _ => false
  | .range _ _ => false
  | .next _ _ => false
  | .lookup _ _ _ _ => false
  | _ => true
def readyB (m : Nat) (o : Oper) : Bool := o.after.toList.all fun e => !Region.binds .any e || m.testBit e.on
def passQ (sp : List Nat) : List (Nat × Oper) → Nat → List (Nat × Bool) → List (Nat × Oper) → Nat × List (Nat × Bool) × List (Nat × Oper)
  | [], m, acc, rem => (m, acc, rem.reverse)
  | (i, o) :: l, m, acc, rem => if isQuiet o && (readyB m o && !sp.contains i) then passQ sp l (m ||| 2 ^ i) ((i, false) :: acc) rem else passQ sp l m acc ((i, o) :: rem)
def mkOrdB (sp : List Nat) : Nat → List (Nat × Oper) → Nat → List (Nat × Bool) → List (Nat × Bool)
  | 0, _, _, acc => acc.reverse
  | f + 1, l, m, acc =>
    match passQ sp l m acc [] with
    | (m', acc', rem) => match rem.find? (fun p => readyB m' p.2) with
      | some p => mkOrdB sp f (rem.filter fun q => !Nat.beq q.1 p.1) (m' ||| 2 ^ p.1) ((p.1, true) :: acc')
      | none => acc'.reverse
def enumFrom : Nat → List Oper → List (Nat × Oper)
  | _, [] => []
  | i, o :: l => (i, o) :: enumFrom (i + 1) l
/-- the order; sp: numbers that come up alone though they only read -/
def ordOf (sp : List Nat) (ops : Array Oper) : List (Nat × Bool) := mkOrdB sp ops.size (enumFrom 0 ops.toList) 0 []
/-- the first of the last operations, which all come up alone -/
def gateOf : List (Nat × Bool) → Option Nat → Option Nat
  | [], g => g
  | (_, false) :: r, _ => gateOf r none
  | (i, true) :: r, none => gateOf r (some i)
  | (_, true) :: r, some g => gateOf r (some g)
/-- all that u waits for -/
def maskOf (ops : Array Oper) (u : Nat) : Nat := (Region.before ops).getD u 0
def hasFalse (l : List (Nat × Bool)) : Bool := l.any fun p => !p.2
/-- is the order one? -/
def drawOk (P : Program) (ops : Array Oper) (ord : List (Nat × Bool)) (u : Option Nat) : Bool :=
  P.follows .mixedOrders && (Region.noSelect ops && (ordMask .any ops ord && (hasMask ops.size ord && (Nat.ble ord.length ops.size &&
    (okU u (match u with | some x => maskOf ops x | none => 0) ord false && okMaskU ops u (match u with | some x => maskOf ops x | none => 0))))))

/-- an operation that only reads what was there -/
def quietOp (P : Program) (o : Oper) (tmps : List LV) (snap : List Reg) : Option LV :=
  match opPure P o (evalL tmps) with
  | some x => some x
  | none => match o.op with
    | .load t a => match evalL tmps a with
      | .ptr n off => match snap[n]? with
        | some r => loadL P t (r.cells.drop off)
        | none => none
      | _ => none
    | .build t parts => (buildL P t (parts.toList.map fun p => (p.1, evalL tmps p.2))).map .agg
    | _ => none
/-- an operation that leaves what was there -/
def keepOp (P : Program) (o : Oper) (tmps : List LV) (rs : List Reg) (base : Nat) : Option (LV × List Reg) :=
  match o.op with
  | .store _ a _ => match evalL tmps a with
    | .ptr n _ => if Nat.ble base n then stepOp P o tmps rs else none
    | _ => none
  | _ => stepOp P o tmps rs
def ordStep (P : Program) (hs : List Hint) (id : Nat) (ops : Array Oper) (u : Option Nat) (snap : List Reg) (p : Nat × Bool) (d : Bool) (tmps : List LV) (rs : List Reg) : Option (List LV × List Reg × List (LV × LV)) :=
  match ops[p.1]? with
  | none => none
  | some o => match wantL ops tmps o with
    | none => none
    | some false => some (putL tmps o.dst (.v undef), rs, [])
    | some true => match p.2 with
      | false => match quietOp P o tmps snap with
        | some x => match hinted hs id p.1 x with
          | (x', prs) => some (putL tmps o.dst x', rs, prs)
        | none => none
      | true => match (bif d || u == some p.1 then stepOp P o tmps rs else keepOp P o tmps rs snap.length) with
        | some (x, rs') => match hinted hs id p.1 x with
          | (x', prs) => some (putL tmps o.dst x', rs', prs)
        | none => none

/-- the list written out -/
def spine {α β : Type} : List α → (List α → β) → β
  | [], k => k []
  | x :: xs, k => spine xs fun ys => k (x :: ys)
theorem spine_eq {α β : Type} (l : List α) (k : List α → β) : spine l k = k l := by
  induction l generalizing k with
  | nil => rfl
  | cons x xs ih => exact ih _
def nextD (u : Option Nat) (p : Nat × Bool) (d : Bool) : Bool := match p.2 with
  | true => d || u == some p.1
  | false => d
def ordRun (P : Program) (hs : List Hint) (id : Nat) (ops : Array Oper) (u : Option Nat) (snap : List Reg) : List (Nat × Bool) → Bool → List LV → List Reg → Option (List LV × List Reg × List (LV × LV))
  | [], _, t, rs => some (t, rs, [])
  | p :: r, d, t, rs => match ordStep P hs id ops u snap p d t rs with
    | some (t', rs', prs) => spine t' fun t' => match ordRun P hs id ops u snap r (nextD u p d) t' rs' with
      | some (t2, rs2, prs2) => some (t2, rs2, prs ++ prs2)
      | none => none
    | none => none
/-- the same, as far as it goes -/
def ordGo (P : Program) (hs : List Hint) (id : Nat) (ops : Array Oper) (u : Option Nat) (snap : List Reg) : List (Nat × Bool) → Bool → List LV → List Reg → (List (Nat × Bool) × Bool × List LV × List Reg) × List (LV × LV)
  | [], d, t, rs => (([], d, t, rs), [])
  | p :: r, d, t, rs => match ordStep P hs id ops u snap p d t rs with
    | some (t', rs', prs) => spine t' fun t' => match ordGo P hs id ops u snap r (nextD u p d) t' rs' with
      | (c, prs2) => (c, prs ++ prs2)
    | none => ((p :: r, d, t, rs), [])
def drawRun (P : Program) (hs : List Hint) (id : Nat) (ops : Array Oper) (ord : List (Nat × Bool)) (u : Option Nat) (t : List LV) (rs : List Reg) : Option (List LV × List Reg × List (LV × LV)) :=
  if drawOk P ops ord u && undR rs.length rs then ordRun P hs id ops u rs ord false t rs else none
def step1 (P : Program) (hs : List Hint) : Cfg → Option (Cfg × List (LV × LV))
  | ⟨[], _, _⟩ => none
  | ⟨.blk _ :: k, t, rs⟩ => some (⟨k, t, rs⟩, [])
  | ⟨.code c :: k, t, rs⟩ => match c with
    | .skip => some (⟨k, t, rs⟩, [])
    | .label _ => some (⟨k, t, rs⟩, [])
    | .seq a b => some (⟨.code a :: .code b :: k, t, rs⟩, [])
    | .cond c a b => match evalL t c with
      | .v (.bool true) => some (⟨.code a :: k, t, rs⟩, [])
      | .v (.bool false) => some (⟨.code b :: k, t, rs⟩, [])
      | _ => none
    | .block id c => some (⟨.code c :: .blk id :: k, t, rs⟩, [])
    | .exit id => match exitK id k with
      | some k' => some (⟨k', t, rs⟩, [])
      | none => none
    | .region id ops false => some (⟨.ops id ops 0 ops.toList :: k, t, rs⟩, [])
    | .region id ops true => match drawRun P hs id ops (ordOf [] ops) (gateOf (ordOf [] ops) none) t rs with
      | some (t', rs', prs) => some (⟨k, t', rs'⟩, prs)
      | none => none
    | _ => none
  | ⟨.rnd n c :: k, t, rs⟩ => match n with
    | 0 => none
    | n + 1 => some (⟨.code c :: .rnd n c :: k, t, rs⟩, [])
  | ⟨.ops _ _ _ [] :: k, t, rs⟩ => some (⟨k, t, rs⟩, [])
  | ⟨.ops id ops i (o :: rest) :: k, t, rs⟩ => match wantL ops t o with
    | some true => match stepOp P o t rs with
      | some (x, rs') => match hinted hs id i x with
        | (x', prs) => some (⟨.ops id ops (i + 1) rest :: k, putL t o.dst x', rs'⟩, prs)
      | none => none
    | some false => some (⟨.ops id ops (i + 1) rest :: k, putL t o.dst (.v undef), rs⟩, [])
    | none => none
def run (P : Program) (hs : List Hint) : Nat → Cfg → Cfg × List (LV × LV)
  | 0, c => (c, [])
  | n + 1, c => match step1 P hs c with
    | none => (c, [])
    | some (⟨k, t, rs⟩, prs) => spine t fun t => spine rs fun rs => match run P hs n ⟨k, t, rs⟩ with
      | (c', prs') => (c', prs ++ prs')
end Go.Proofs.Ytodjhkmbgennaaa
