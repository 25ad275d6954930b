/-
  A region that draws its order, walked in one order: what only reads is taken as soon as it may come up, what makes memory comes up alone. Over any program.
-/
import Derived.Deep.RegionHeld3
import Derived.WalkKit
namespace Go.Proofs.Ytodjhkmbgennaaa
open Go

section
variable {P : Program} {ops : Array Oper} {Q : Exit → Act → World → Prop} {md : Region.Mode} {S : World → Prop}

/-- an order: each operation's number, and whether it comes up alone (else it is taken first) -/
def okOrd (md : Region.Mode) (ops : Array Oper) : List (Nat × Bool) → Array Bool → Bool
  | [], listed => (Region.ready md ops listed).isEmpty
  | (i, false) :: r, listed => Region.free md ops listed i && (Region.ready md ops listed).contains i && okOrd md ops r (listed.setIfInBounds i true)
  | (i, true) :: r, listed => (Region.ready md ops listed == [i]) && okOrd md ops r (listed.setIfInBounds i true)

/-- such an order: sp are those that come up alone -/
def mkOrd (md : Region.Mode) (ops : Array Oper) (sp : List Nat) : Nat → Array Bool → List (Nat × Bool)
  | 0, _ => []
  | n + 1, listed =>
    match (Region.ready md ops listed).find? (fun i => !sp.contains i && Region.free md ops listed i) with
    | some i => (i, false) :: mkOrd md ops sp n (listed.setIfInBounds i true)
    | none =>
      match Region.ready md ops listed with
      | [i] => (i, true) :: mkOrd md ops sp n (listed.setIfInBounds i true)
      | _ => []

def wpOrd (P : Program) (ops : Array Oper) (Q : Exit → Act → World → Prop) (S : World → Prop) : List (Nat × Bool) → Act → World → Prop
  | [], a, w => Q .normal a w
  | (i, false) :: r, a, w => ∃ o v, ops[i]? = some o ∧ YieldsIf P ops S o v a ∧ wpOrd P ops Q S r (a.put o.dst v) w
  | (i, true) :: r, a, w => wpOp P ops Q i (fun a' w' => S w' ∧ wpOrd P ops Q S r a' w') a w

theorem wpAnyH_of_ord (hs : Region.noSelect ops = true) (hQ : ∀ c a d v w, Q (.panic c) (Act.put a d v) w → Q (.panic c) a w) :
    ∀ (ord : List (Nat × Bool)) (listed : Array Bool) (fuel : Nat) (a : Act) (w : World), okOrd md ops ord listed = true → ord.length ≤ fuel → S w → wpOrd P ops Q S ord a w → wpAnyH P md ops Q S fuel listed a w
  | [], listed, fuel, a, w, hok, _, _, h => wpAnyH_done (by simpa [okOrd] using hok) h fuel
  | (i, false) :: r, listed, 0, a, w, _, hl, _, _ => absurd hl (by simp)
  | (i, true) :: r, listed, 0, a, w, _, hl, _, _ => absurd hl (by simp)
  | (i, false) :: r, listed, fuel + 1, a, w, hok, hl, hS, h => by
    obtain ⟨o, v, ho, hy, h⟩ := h
    simp only [okOrd, Bool.and_eq_true] at hok
    exact wpAnyH_take ho hs hok.1.1 hok.1.2 (fun c a w => hQ c a _ _ w) hy hS (wpAnyH_of_ord hs hQ r _ fuel _ w hok.2 (by simpa using hl) hS h)
  | (i, true) :: r, listed, fuel + 1, a, w, hok, hl, hS, h => by
    simp only [okOrd, Bool.and_eq_true, beq_iff_eq] at hok
    refine wpAnyH_all hok.1 (by simp) ?_
    intro j hj
    obtain rfl : j = i := by simpa using hj
    exact wpOp_mono (fun a' w' ⟨hS', h'⟩ => ⟨hS', wpAnyH_of_ord hs hQ r _ fuel a' w' hok.2 (by simpa using hl) hS' h'⟩) h

/-- THE BEGINNING -/
theorem wp_region_ord {id : Nat} {a : Act} {w : World} (ord : List (Nat × Bool)) (S : World → Prop) (hm : P.follows .mixedOrders = true) (hs : Region.noSelect ops = true)
    (hok : okOrd .any ops ord (Array.replicate ops.size false) = true) (hlen : decide (ord.length ≤ ops.size) = true) (hQ : ∀ c a d v w, Q (.panic c) (Act.put a d v) w → Q (.panic c) a w)
    (hS : S w.drew) (h : S w.drew → wpOrd P ops Q S ord a w.drew) : (Code.region id ops true).wp P Q a w :=
  wp_region_held hm (wpAnyH_of_ord hs hQ ord _ _ a _ hok (of_decide_eq_true hlen) hS (h hS))

/-- it runs, in every world that meets S -/
theorem wpOrd_take {i : Nat} {o : Oper} {v : Value} {r : List (Nat × Bool)} {a : Act} {w : World} (ho : ops[i]? = some o) (hw : Region.wanted o (yielded ops a.tmps) = true)
    (hy : ∀ w, S w → (execOp a.eval o).run P w = .ok (.value v) w) (h : wpOrd P ops Q S r (a.put o.dst v) w) : wpOrd P ops Q S ((i, false) :: r) a w := ⟨o, v, ho, .inl ⟨hw, hy⟩, h⟩
/-- its guard is false -/
theorem wpOrd_skip {i : Nat} {o : Oper} {r : List (Nat × Bool)} {a : Act} {w : World} (ho : ops[i]? = some o) (hw : Region.wanted o (yielded ops a.tmps) = false)
    (h : wpOrd P ops Q S r (a.put o.dst undef) w) : wpOrd P ops Q S ((i, false) :: r) a w := ⟨o, undef, ho, .inr ⟨hw, rfl⟩, h⟩
/-- it comes up alone -/
theorem wpOrd_alone {i : Nat} {o : Oper} {r : List (Nat × Bool)} {a : Act} {w : World} (ho : ops[i]? = some o)
    (h : ∀ K' : Act → World → Prop, Shut (∀ a w, S w → (S w → wpOrd P ops Q S r a w) → K' a w) → if Region.wanted o (yielded ops a.tmps) = true then Oper.wp P o a w K' Q else K' (a.put o.dst undef) w) :
    wpOrd P ops Q S ((i, true) :: r) a w :=
  wpOp_step ho (fun K' hK => h K' (fun a w hS hW => hK a w ⟨hS, hW hS⟩))
theorem wpOrd_done {a : Act} {w : World} (h : Q .normal a w) : wpOrd P ops Q S [] a w := h
end
end Go.Proofs.Ytodjhkmbgennaaa
