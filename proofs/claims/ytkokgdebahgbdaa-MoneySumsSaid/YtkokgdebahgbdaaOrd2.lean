/-
  A region that draws its order, in two parts: what the second part reads is known only behind the first one's calls. Over any program.
-/
import Derived.Test.YtkokgdebahgbdaaOrd
namespace Go.Proofs.Ytkokgdebahgbdaa
open Go

section
variable {P : Program} {ops : Array Oper} {Q : Exit → Act → World → Prop} {md : Region.Mode} {S : World → Prop}

theorem wpAnyH_imp {S' : World → Prop} (hS : ∀ w, S' w → S w) : ∀ (fuel : Nat) (listed : Array Bool) (a : Act) (w : World), wpAnyH P md ops Q S' fuel listed a w → wpAnyH P md ops Q S fuel listed a w
  | 0, _, _, _, h => h
  | fuel + 1, _, _, _, h => ⟨h.1, fun i hi => wpOp_mono (fun a' w' h' => ⟨hS w' h'.1, wpAnyH_imp hS fuel _ a' w' h'.2⟩) (h.2 i hi)⟩

/-- a first part of an order -/
def okPre (md : Region.Mode) (ops : Array Oper) : List (Nat × Bool) → Array Bool → Bool
  | [], _ => true
  | (i, false) :: r, listed => Region.free md ops listed i && (Region.ready md ops listed).contains i && okPre md ops r (listed.setIfInBounds i true)
  | (i, true) :: r, listed => (Region.ready md ops listed == [i]) && okPre md ops r (listed.setIfInBounds i true)
def setAll : List (Nat × Bool) → Array Bool → Array Bool
  | [], listed => listed
  | (i, _) :: r, listed => setAll r (listed.setIfInBounds i true)
def wpPre (P : Program) (ops : Array Oper) (Q : Exit → Act → World → Prop) (R : Act → World → Prop) : List (Nat × Bool) → Act → World → Prop
  | [], a, w => R a w
  | (i, false) :: r, a, w => ∃ o v, ops[i]? = some o ∧ YieldsIf P ops (fun _ => True) o v a ∧ wpPre P ops Q R r (a.put o.dst v) w
  | (i, true) :: r, a, w => wpOp P ops Q i (fun a' w' => wpPre P ops Q R r a' w') a w

theorem wpAnyH_of_pre (hs : Region.noSelect ops = true) (hQ : ∀ c a d v w, Q (.panic c) (Act.put a d v) w → Q (.panic c) a w) (R : Act → World → Prop) (f : Nat) :
    ∀ (ord : List (Nat × Bool)) (listed : Array Bool) (a : Act) (w : World), okPre md ops ord listed = true →
      (∀ a w, R a w → wpAnyH P md ops Q (fun _ => True) f (setAll ord listed) a w) → wpPre P ops Q R ord a w → wpAnyH P md ops Q (fun _ => True) (f + ord.length) listed a w
  | [], listed, a, w, _, hR, h => hR a w h
  | (i, false) :: r, listed, a, w, hok, hR, h => by
    obtain ⟨o, v, ho, hy, h⟩ := h
    simp only [okPre, Bool.and_eq_true] at hok
    exact wpAnyH_take ho hs hok.1.1 hok.1.2 (fun c a w => hQ c a _ _ w) hy trivial (wpAnyH_of_pre hs hQ R f r _ _ w hok.2 hR h)
  | (i, true) :: r, listed, a, w, hok, hR, h => by
    simp only [okPre, Bool.and_eq_true, beq_iff_eq] at hok
    refine wpAnyH_all hok.1 (by simp) ?_
    intro j hj
    obtain rfl : j = i := by simpa using hj
    exact wpOp_mono (fun a' w' h' => ⟨trivial, wpAnyH_of_pre hs hQ R f r _ a' w' hok.2 hR h'⟩) h

/-- THE BEGINNING: S is what the second part reads -/
theorem wp_region_two {id : Nat} {a : Act} {w : World} (ord ord' : List (Nat × Bool)) (S : World → Prop) (hm : P.follows .mixedOrders = true) (hs : Region.noSelect ops = true)
    (hok : okPre .any ops ord (Array.replicate ops.size false) = true) (hok' : okOrd .any ops ord' (setAll ord (Array.replicate ops.size false)) = true) (hlen : decide (ord'.length + ord.length = ops.size) = true)
    (hQ : ∀ c a d v w, Q (.panic c) (Act.put a d v) w → Q (.panic c) a w)
    (h : wpPre P ops Q (fun a w => S w ∧ wpOrd P ops Q S ord' a w) ord a w.drew) : (Code.region id ops true).wp P Q a w := by
  have hl := of_decide_eq_true hlen
  refine wp_region_held (S := fun _ => True) hm ?_
  have := wpAnyH_of_pre (md := .any) hs hQ (fun a w => S w ∧ wpOrd P ops Q S ord' a w) ord'.length ord (Array.replicate ops.size false) a w.drew hok
    (fun a w h => wpAnyH_imp (fun _ _ => trivial) _ _ _ _ (wpAnyH_of_ord hs hQ ord' _ _ a w hok' (Nat.le_refl _) h.1 h.2)) h
  rw [hl] at this
  exact this

theorem wpPre_take {R : Act → World → Prop} {i : Nat} {o : Oper} {v : Value} {r : List (Nat × Bool)} {a : Act} {w : World} (ho : ops[i]? = some o) (hw : Region.wanted o (yielded ops a.tmps) = true)
    (hy : ∀ w, (execOp a.eval o).run P w = .ok (.value v) w) (h : wpPre P ops Q R r (a.put o.dst v) w) : wpPre P ops Q R ((i, false) :: r) a w := ⟨o, v, ho, .inl ⟨hw, fun w _ => hy w⟩, h⟩
theorem wpPre_alone {R : Act → World → Prop} {i : Nat} {o : Oper} {r : List (Nat × Bool)} {a : Act} {w : World} (ho : ops[i]? = some o)
    (h : ∀ K' : Act → World → Prop, Shut (∀ a w, wpPre P ops Q R r a w → K' a w) → if Region.wanted o (yielded ops a.tmps) = true then Oper.wp P o a w K' Q else K' (a.put o.dst undef) w) :
    wpPre P ops Q R ((i, true) :: r) a w :=
  wpOp_step ho (fun K' hK => h K' hK)
theorem wpPre_done {R : Act → World → Prop} {a : Act} {w : World} (h : R a w) : wpPre P ops Q R [] a w := h
end
end Go.Proofs.Ytkokgdebahgbdaa
