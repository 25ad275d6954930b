/-
  A region that draws its order, walked in one order: what only reads is taken as soon as it may come up, what makes memory comes up alone. Over any program.
  A check of an order that is cheap for the kernel. Over any program.
  The check of an order by bit masks. Over any program.
-/
import Derived.Deep.RegionHeld3
import Derived.WalkKit
namespace Go.Proofs.Ytioehmngkoffaaa
section
open Go

section
variable {P : Program} {ops : Array Oper} {Q : Exit → Act → World → Prop} {md : Region.Mode} {S : World → Prop}

/-- an order: each operation's number, and whether it comes up alone (else it is taken first) -/
def okOrd (md : Region.Mode) (ops : Array Oper) : List (Nat × Bool) → Array Bool → Bool
  | [], listed => (Region.ready md ops listed).isEmpty
  | (i, false) :: r, listed => Region.free md ops listed i && (Region.ready md ops listed).contains i && okOrd md ops r (listed.setIfInBounds i true)
  | (i, true) :: r, listed => (Region.ready md ops listed == [i]) && okOrd md ops r (listed.setIfInBounds i true)

/-- such an order: sp are those that come up alone -/
def mkOrd (md : Region.Mode) (ops : Array Oper) (sp : List Nat) : Nat → Array Bool → List (Nat × Bool)
  | 0, _ => []
  | n + 1, listed =>
    match (Region.ready md ops listed).find? (fun i => !sp.contains i && Region.free md ops listed i) with
    | some i => (i, false) :: mkOrd md ops sp n (listed.setIfInBounds i true)
    | none =>
      match Region.ready md ops listed with
      | [i] => (i, true) :: mkOrd md ops sp n (listed.setIfInBounds i true)
      | _ => []

def wpOrd (P : Program) (ops : Array Oper) (Q : Exit → Act → World → Prop) (S : World → Prop) : List (Nat × Bool) → Act → World → Prop
  | [], a, w => Q .normal a w
  | (i, false) :: r, a, w => ∃ o v, ops[i]? = some o ∧ YieldsIf P ops S o v a ∧ wpOrd P ops Q S r (a.put o.dst v) w
  | (i, true) :: r, a, w => wpOp P ops Q i (fun a' w' => S w' ∧ wpOrd P ops Q S r a' w') a w

theorem wpAnyH_of_ord (hs : Region.noSelect ops = true) (hQ : ∀ c a d v w, Q (.panic c) (Act.put a d v) w → Q (.panic c) a w) :
    ∀ (ord : List (Nat × Bool)) (listed : Array Bool) (fuel : Nat) (a : Act) (w : World), okOrd md ops ord listed = true → ord.length ≤ fuel → S w → wpOrd P ops Q S ord a w → wpAnyH P md ops Q S fuel listed a w
  | [], listed, fuel, a, w, hok, _, _, h => wpAnyH_done (by simpa [okOrd] using hok) h fuel
  | (i, false) :: r, listed, 0, a, w, _, hl, _, _ => absurd hl (by simp)
  | (i, true) :: r, listed, 0, a, w, _, hl, _, _ => absurd hl (by simp)
  | (i, false) :: r, listed, fuel + 1, a, w, hok, hl, hS, h => by
    obtain ⟨o, v, ho, hy, h⟩ := h
    simp only [okOrd, Bool.and_eq_true] at hok
    exact wpAnyH_take ho hs hok.1.1 hok.1.2 (fun c a w => hQ c a _ _ w) hy hS (wpAnyH_of_ord hs hQ r _ fuel _ w hok.2 (by simpa using hl) hS h)
  | (i, true) :: r, listed, fuel + 1, a, w, hok, hl, hS, h => by
    simp only [okOrd, Bool.and_eq_true, beq_iff_eq] at hok
    refine wpAnyH_all hok.1 (by simp) ?_
    intro j hj
    obtain rfl : j = i := by simpa using hj
    exact wpOp_mono (fun a' w' ⟨hS', h'⟩ => ⟨hS', wpAnyH_of_ord hs hQ r _ fuel a' w' hok.2 (by simpa using hl) hS' h'⟩) h

/-- THE BEGINNING -/
theorem wp_region_ord {id : Nat} {a : Act} {w : World} (ord : List (Nat × Bool)) (S : World → Prop) (hm : P.follows .mixedOrders = true) (hs : Region.noSelect ops = true)
    (hok : okOrd .any ops ord (Array.replicate ops.size false) = true) (hlen : decide (ord.length ≤ ops.size) = true) (hQ : ∀ c a d v w, Q (.panic c) (Act.put a d v) w → Q (.panic c) a w)
    (hS : S w.drew) (h : S w.drew → wpOrd P ops Q S ord a w.drew) : (Code.region id ops true).wp P Q a w :=
  wp_region_held hm (wpAnyH_of_ord hs hQ ord _ _ a _ hok (of_decide_eq_true hlen) hS (h hS))

/-- it runs, in every world that meets S -/
theorem wpOrd_take {i : Nat} {o : Oper} {v : Value} {r : List (Nat × Bool)} {a : Act} {w : World} (ho : ops[i]? = some o) (hw : Region.wanted o (yielded ops a.tmps) = true)
    (hy : ∀ w, S w → (execOp a.eval o).run P w = .ok (.value v) w) (h : wpOrd P ops Q S r (a.put o.dst v) w) : wpOrd P ops Q S ((i, false) :: r) a w := ⟨o, v, ho, .inl ⟨hw, hy⟩, h⟩
/-- its guard is false -/
theorem wpOrd_skip {i : Nat} {o : Oper} {r : List (Nat × Bool)} {a : Act} {w : World} (ho : ops[i]? = some o) (hw : Region.wanted o (yielded ops a.tmps) = false)
    (h : wpOrd P ops Q S r (a.put o.dst undef) w) : wpOrd P ops Q S ((i, false) :: r) a w := ⟨o, undef, ho, .inr ⟨hw, rfl⟩, h⟩
/-- it comes up alone -/
theorem wpOrd_alone {i : Nat} {o : Oper} {r : List (Nat × Bool)} {a : Act} {w : World} (ho : ops[i]? = some o)
    (h : ∀ K' : Act → World → Prop, Shut (∀ a w, S w → (S w → wpOrd P ops Q S r a w) → K' a w) → if Region.wanted o (yielded ops a.tmps) = true then Oper.wp P o a w K' Q else K' (a.put o.dst undef) w) :
    wpOrd P ops Q S ((i, true) :: r) a w :=
  wpOp_step ho (fun K' hK => h K' (fun a w hS hW => hK a w ⟨hS, hW hS⟩))
theorem wpOrd_done {a : Act} {w : World} (h : Q .normal a w) : wpOrd P ops Q S [] a w := h
end
end

section
open Go

/-- m: the numbers that are listed, as bits -/
def ordFast (md : Region.Mode) (ops : Array Oper) : Nat → List (Nat × Bool) → Bool
  | _, [] => true
  | m, (i, sp) :: r =>
    (match ops[i]? with
     | none => false
     | some o => (!m.testBit i) && (o.after.all fun e => !Region.binds md e || m.testBit e.on) &&
        (match sp with
         | true => r.all fun x => match ops[x.1]? with | some oj => oj.after.any fun e => Region.binds md e && !m.testBit e.on | none => true
         | false => r.all fun x => match ops[x.1]? with | some oj => (oj.after.any fun e => Region.binds md e && e.on == i) || o.apart ops oj | none => true)) &&
    ordFast md ops (m ||| 2 ^ i) r

/-- what the bits and the array say is one thing; what is not listed is to come -/
structure OrdInv (ops : Array Oper) (listed : Array Bool) (m : Nat) (r : List (Nat × Bool)) : Prop where
  size : listed.size = ops.size
  bits : ∀ j, j < ops.size → listed[j]? = some (m.testBit j)
  rest : ∀ j, j < ops.size → m.testBit j = false → ∃ b, (j, b) ∈ r
  high : ∀ j, ops.size ≤ j → m.testBit j = false

theorem OrdInv.getD {ops : Array Oper} {listed : Array Bool} {m : Nat} {r : List (Nat × Bool)} (h : OrdInv ops listed m r) {j : Nat} (hj : j < ops.size) (d : Bool) : listed.getD j d = m.testBit j := by
  have := h.bits j hj
  simp [Array.getD_eq_getD_getElem?, this]

theorem filter_one {n i : Nat} (hi : i < n) (p : Nat → Bool) (hp : p i = true) (ho : ∀ j, j < n → p j = true → j = i) : (List.range n).filter p = [i] := by
  induction n with
  | zero => omega
  | succ n ih =>
    rw [List.range_succ, List.filter_append]
    by_cases e : i = n
    · subst e
      have : (List.range i).filter p = [] := by
        rw [List.filter_eq_nil_iff]
        intro j hj hpj
        rw [List.mem_range] at hj
        have := ho j (by omega) hpj
        omega
      rw [this]
      simp [hp]
    · have hn : p n = false := by
        cases hc : p n with
        | false => rfl
        | true => exact absurd (ho n (by omega) hc).symm e
      rw [ih (by omega) (fun j hj hpj => ho j (by omega) hpj)]
      simp [hn]

theorem OrdInv.next {ops : Array Oper} {listed : Array Bool} {m i : Nat} {sp : Bool} {r : List (Nat × Bool)} (h : OrdInv ops listed m ((i, sp) :: r)) (hi : i < ops.size) : OrdInv ops (listed.setIfInBounds i true) (m ||| 2 ^ i) r := by
  refine ⟨by simp [h.size], fun j hj => ?_, fun j hj hb => ?_, fun j hj => ?_⟩
  · by_cases e : i = j
    · subst e
      simp [h.size, hi, Nat.testBit_or, Nat.testBit_two_pow_self]
    · rw [Array.getElem?_setIfInBounds_ne e, h.bits j hj]
      simp [Nat.testBit_or, Nat.testBit_two_pow_of_ne e]
  · rw [Nat.testBit_or, Bool.or_eq_false_iff] at hb
    obtain ⟨b, hm⟩ := h.rest j hj hb.1
    rcases List.mem_cons.1 hm with e | hm
    · injection e with e1 _
      subst e1
      rw [Nat.testBit_two_pow_self] at hb
      exact absurd hb.2 (by simp)
    · exact ⟨b, hm⟩
  · rw [Nat.testBit_or, h.high j hj, Nat.testBit_two_pow_of_ne (by omega)]
    rfl

theorem OrdInv.on_ {ops : Array Oper} {listed : Array Bool} {m : Nat} {r : List (Nat × Bool)} (h : OrdInv ops listed m r) (j : Nat) : listed.getD j false = m.testBit j := by
  rcases Nat.lt_or_ge j ops.size with hj | hj
  · exact h.getD hj false
  · rw [h.high j hj]
    have : listed[j]? = none := Array.getElem?_eq_none (by rw [h.size]; exact hj)
    simp [Array.getD_eq_getD_getElem?, this]

theorem ordFast_ok {md : Region.Mode} {ops : Array Oper} : ∀ (l : List (Nat × Bool)) (m : Nat) (listed : Array Bool), OrdInv ops listed m l → ordFast md ops m l = true → okOrd md ops l listed = true
  | [], m, listed, inv, _ => by
    simp only [okOrd, List.isEmpty_iff, Region.ready, List.filter_eq_nil_iff]
    intro j hj
    rw [List.mem_range] at hj
    have : m.testBit j = true := by
      cases hb : m.testBit j with
      | true => rfl
      | false => obtain ⟨b, hm⟩ := inv.rest j hj hb; cases hm
    rw [inv.getD hj, this]
    simp
  | (i, sp) :: r, m, listed, inv, h => by
    simp only [ordFast, Bool.and_eq_true] at h
    obtain ⟨h1, h2⟩ := h
    cases ho : ops[i]? with
    | none => rw [ho] at h1; cases h1
    | some o =>
      rw [ho] at h1
      have hi : i < ops.size := (Array.getElem?_eq_some_iff.1 ho).1
      simp only [Bool.and_eq_true, Bool.not_eq_true'] at h1
      obtain ⟨⟨hun, hbef⟩, hall⟩ := h1
      have hnext := ordFast_ok r _ _ (inv.next hi) h2
      have hmem : i ∈ Region.ready md ops listed := mem_ready.2 ⟨by rw [inv.getD hi]; exact hun, o, ho, fun e he hb => by
        rw [inv.on_]
        have h4 := Array.all_eq_true_iff_forall_mem.1 hbef e he
        simp only [Bool.or_eq_true, Bool.not_eq_true'] at h4
        rcases h4 with h3 | h3
        · rw [hb] at h3; cases h3
        · exact h3⟩
      have hrest : ∀ j oj, ops[j]? = some oj → j ≠ i → m.testBit j = false → ∃ b, (j, b) ∈ r := by
        intro j oj hoj hne hb
        obtain ⟨b, hm⟩ := inv.rest j (Array.getElem?_eq_some_iff.1 hoj).1 hb
        rcases List.mem_cons.1 hm with e | hm
        · injection e with e1 _
          exact absurd e1 hne
        · exact ⟨b, hm⟩
      cases sp
      · simp only [okOrd, Bool.and_eq_true]
        refine ⟨⟨?_, by simpa using hmem⟩, hnext⟩
        simp only [Region.free, ho, List.all_eq_true, List.mem_range, Bool.or_eq_true, beq_iff_eq]
        intro j hj
        by_cases e : j = i
        · exact .inl (.inl e)
        · cases hb : m.testBit j with
          | true => left; right; rw [inv.getD hj]; exact hb
          | false =>
            right
            have hoj : ops[j]? = some ops[j] := Array.getElem?_eq_getElem hj
            obtain ⟨b, hm⟩ := hrest j _ hoj e hb
            have := List.all_eq_true.1 hall (j, b) hm
            simp only [hoj] at this ⊢
            simpa using this
      · simp only [okOrd, Bool.and_eq_true, beq_iff_eq]
        refine ⟨?_, hnext⟩
        refine filter_one hi _ (List.mem_filter.1 hmem).2 (fun j hj hp => ?_)
        have hjr : j ∈ Region.ready md ops listed := List.mem_filter.2 ⟨List.mem_range.2 hj, hp⟩
        obtain ⟨hju, oj, hoj, hedge⟩ := mem_ready.1 hjr
        apply Classical.byContradiction
        intro e
        rw [inv.getD hj] at hju
        obtain ⟨b, hm⟩ := hrest j oj hoj e hju
        have := List.all_eq_true.1 hall (j, b) hm
        simp only [hoj] at this
        simp only [Array.any_eq_true', Bool.and_eq_true, Bool.not_eq_true'] at this
        obtain ⟨ed, hed, hbd, hnb⟩ := this
        have h3 := hedge ed hed hbd
        rw [inv.on_, hnb] at h3
        cases h3

/-- a list of numbers has all below n -/
def hasAll (n : Nat) (l : List (Nat × Bool)) : Bool := (List.range n).all fun j => l.any fun x => x.1 == j
theorem ord_of_fast {md : Region.Mode} {ops : Array Oper} {l : List (Nat × Bool)} (h : ordFast md ops 0 l = true) (hp : hasAll ops.size l = true) : okOrd md ops l (Array.replicate ops.size false) = true := by
  refine ordFast_ok l 0 _ ⟨by simp, fun j hj => ?_, fun j hj _ => ?_, fun j _ => by simp⟩ h
  · rw [Array.getElem?_replicate, if_pos hj]; simp
  · have := List.all_eq_true.1 hp j (List.mem_range.2 hj)
    obtain ⟨x, hx, e⟩ := List.any_eq_true.1 this
    simp only [beq_iff_eq] at e
    exact ⟨x.2, by rw [← e]; exact hx⟩
end

section
open Go

def maskL : List Nat → Nat
  | [] => 0
  | t :: l => 2 ^ t ||| maskL l
theorem maskL_bit : ∀ (l : List Nat) (t : Nat), (maskL l).testBit t = true ↔ t ∈ l
  | [], t => by simp [maskL]
  | s :: l, t => by
    have ih := maskL_bit l t
    simp only [maskL, Nat.testBit_or, Bool.or_eq_true, ih, List.mem_cons]
    constructor
    · rintro (h | h)
      · left
        apply Classical.byContradiction
        intro hne
        rw [Nat.testBit_two_pow_of_ne (Ne.symm hne)] at h
        cases h
      · exact .inr h
    · rintro (rfl | h)
      · exact .inl (Nat.testBit_two_pow_self)
      · exact .inr h
theorem and_zero_bit {a b t : Nat} (h : Nat.beq (a &&& b) 0 = true) (ha : a.testBit t = true) : b.testBit t = false := by
  have e := Nat.eq_of_beq_eq_true h
  have := congrArg (fun n => Nat.testBit n t) e
  simp only [Nat.testBit_and, ha, Bool.true_and, Nat.zero_testBit] at this
  exact this
structure Sig where
  bit : Nat
  d : Nat
  l : Nat
  a : Nat
def dstM (o : Oper) : Nat := match o.dst with
  | some d => 2 ^ d
  | none => 0
def aftM (md : Region.Mode) (o : Oper) : Nat := maskL ((o.after.toList.filter fun e => Region.binds md e).map (·.on))
def sigOf (md : Region.Mode) (ops : Array Oper) (i : Nat) : Sig := match ops[i]? with
  | some o => ⟨2 ^ i, dstM o, maskL (o.looksAt ops), aftM md o⟩
  | none => ⟨2 ^ i, 0, 0, 0⟩
def apartM (x y : Sig) : Bool := Nat.beq (x.d &&& y.l) 0 && (Nat.beq (x.d &&& y.d) 0 && Nat.beq (y.d &&& x.l) 0)
theorem apartM_apart {md : Region.Mode} {ops : Array Oper} {i j : Nat} {x y : Oper} (hx : ops[i]? = some x) (hy : ops[j]? = some y) (h : apartM (sigOf md ops i) (sigOf md ops j) = true) : x.apart ops y = true := by
  simp only [apartM, sigOf, hx, hy, Bool.and_eq_true] at h
  obtain ⟨h1, h2, h3⟩ := h
  have hb : ∀ (o : Oper) d, o.dst = some d → (dstM o).testBit d = true := fun o d hd => by simp only [dstM, hd]; exact Nat.testBit_two_pow_self
  have hno : ∀ {l : List Nat} {t : Nat}, (maskL l).testBit t = false → l.contains t = false := fun {l t} hf => by
    cases hc : l.contains t with
    | false => rfl
    | true =>
      rw [(maskL_bit l t).2 (by simpa using hc)] at hf
      cases hf
  unfold Oper.apart
  cases hxd : x.dst with
  | none =>
    cases hyd : y.dst with
    | none => rfl
    | some d => simp [hno (and_zero_bit h3 (hb y d hyd)), -List.contains_eq_mem]
  | some dx =>
    have e1 := hno (and_zero_bit h1 (hb x dx hxd))
    have e2 := and_zero_bit h2 (hb x dx hxd)
    have e3 : (y.dst != some dx) = true := by
      cases hyd : y.dst with
      | none => rfl
      | some d =>
        simp only [bne_iff_ne, ne_eq, Option.some.injEq]
        rintro rfl
        rw [hb y d hyd] at e2
        cases e2
    cases hyd : y.dst with
    | none => rw [hyd] at e3; simp [e1, -List.contains_eq_mem]
    | some d => rw [hyd] at e3; simp [e1, e3, hno (and_zero_bit h3 (hb y d hyd)), -List.contains_eq_mem]

def ordM (m : Nat) : List (Sig × Bool) → Bool
  | [] => true
  | (x, sp) :: r => Nat.beq (x.bit &&& m) 0 && (Nat.beq (x.a &&& m) x.a &&
      ((match sp with
        | true => r.all fun y => !Nat.beq (y.1.a &&& m) y.1.a
        | false => r.all fun y => !Nat.beq (y.1.a &&& x.bit) 0 || apartM x y.1) && ordM (m ||| x.bit) r))
theorem bit_of_ne {a i : Nat} (h : (!Nat.beq (a &&& 2 ^ i) 0) = true) : a.testBit i = true := by
  cases hc : a.testBit i with
  | true => rfl
  | false =>
    exfalso
    have : a &&& 2 ^ i = 0 := by
      apply Nat.eq_of_testBit_eq
      intro j
      rw [Nat.testBit_and, Nat.zero_testBit]
      by_cases e : i = j
      · subst e; simp [hc]
      · rw [Nat.testBit_two_pow_of_ne e]; simp
    rw [this] at h
    cases h
theorem ordM_fast {md : Region.Mode} {ops : Array Oper} : ∀ (ord : List (Nat × Bool)) (m : Nat), (∀ p ∈ ord, p.1 < ops.size) → ordM m (ord.map fun p => (sigOf md ops p.1, p.2)) = true → ordFast md ops m ord = true
  | [], _, _, _ => rfl
  | (i, sp) :: r, m, hlt, h => by
    simp only [List.map_cons, ordM, Bool.and_eq_true] at h
    obtain ⟨h1, h2, h3, h4⟩ := h
    have hi : i < ops.size := hlt (i, sp) (by simp)
    have ho : ops[i]? = some ops[i] := Array.getElem?_eq_getElem hi
    have hbit : (sigOf md ops i).bit = 2 ^ i := by simp only [sigOf, ho]
    have haft : (sigOf md ops i).a = aftM md ops[i] := by simp only [sigOf, ho]
    have ih := ordM_fast r (m ||| 2 ^ i) (fun p hp => hlt p (List.mem_cons_of_mem _ hp)) (by rw [hbit] at h4; exact h4)
    simp only [ordFast, ho, Bool.and_eq_true]
    refine ⟨⟨⟨?_, ?_⟩, ?_⟩, ih⟩
    · rw [hbit] at h1
      have := and_zero_bit h1 (Nat.testBit_two_pow_self)
      rw [this]
      rfl
    · rw [haft] at h2
      rw [Array.all_eq_true_iff_forall_mem]
      intro e he
      cases hb : Region.binds md e with
      | false => rfl
      | true =>
        have hm : (aftM md ops[i]).testBit e.on = true := (maskL_bit _ _).2 (by
          rw [List.mem_map]
          exact ⟨e, List.mem_filter.2 ⟨by simpa using he, hb⟩, rfl⟩)
        have e2 := congrArg (fun n => Nat.testBit n e.on) (Nat.eq_of_beq_eq_true h2)
        simp only [Nat.testBit_and, hm, Bool.true_and] at e2
        rw [e2]
        rfl
    · have hall : ∀ (f : Sig × Bool → Bool), (List.map (fun p => (sigOf md ops p.1, p.2)) r).all f = true → ∀ p ∈ r, f (sigOf md ops p.1, p.2) = true := by
        intro f hf p hp
        exact List.all_eq_true.1 hf _ (List.mem_map.2 ⟨p, hp, rfl⟩)
      cases sp with
      | true =>
        simp only at h3 ⊢
        rw [List.all_eq_true]
        intro p hp
        have h5 := hall _ h3 p hp
        have hj : p.1 < ops.size := hlt p (List.mem_cons_of_mem _ hp)
        have hoj : ops[p.1]? = some ops[p.1] := Array.getElem?_eq_getElem hj
        simp only [sigOf, hoj] at h5 ⊢
        -- some waited-for operation is not listed
        apply Classical.byContradiction
        intro hc
        simp only [Array.any_eq_true', Bool.and_eq_true, Bool.not_eq_true', not_exists, not_and, Bool.not_eq_false] at hc
        have heq : aftM md ops[p.1] &&& m = aftM md ops[p.1] := by
          apply Nat.eq_of_testBit_eq
          intro t
          rw [Nat.testBit_and]
          cases ht : (aftM md ops[p.1]).testBit t with
          | false => rfl
          | true =>
            have := (maskL_bit _ _).1 ht
            rw [List.mem_map] at this
            obtain ⟨e, he, rfl⟩ := this
            have hf := List.mem_filter.1 he
            rw [hc e (by simpa using hf.1) hf.2]
            rfl
        rw [heq] at h5
        simp at h5
      | false =>
        simp only at h3 ⊢
        rw [List.all_eq_true]
        intro p hp
        have h5 := hall _ h3 p hp
        have hj : p.1 < ops.size := hlt p (List.mem_cons_of_mem _ hp)
        have hoj : ops[p.1]? = some ops[p.1] := Array.getElem?_eq_getElem hj
        simp only [Bool.or_eq_true] at h5
        simp only [hoj, Bool.or_eq_true]
        rcases h5 with h5 | h5
        · left
          rw [hbit] at h5
          have h6 := bit_of_ne h5
          simp only [sigOf, hoj] at h6
          have := (maskL_bit _ _).1 h6
          rw [List.mem_map] at this
          obtain ⟨e, he, hon⟩ := this
          have hf := List.mem_filter.1 he
          rw [Array.any_eq_true']
          exact ⟨e, by simpa using hf.1, by simp [hf.2, hon]⟩
        · exact .inr (apartM_apart ho hoj h5)
/-- the whole check -/
def ordMask (md : Region.Mode) (ops : Array Oper) (ord : List (Nat × Bool)) : Bool := ord.all (fun p => Nat.blt p.1 ops.size) && ordM 0 (ord.map fun p => (sigOf md ops p.1, p.2))
theorem ordMask_fast {md : Region.Mode} {ops : Array Oper} {ord : List (Nat × Bool)} (h : ordMask md ops ord = true) : ordFast md ops 0 ord = true := by
  simp only [ordMask, Bool.and_eq_true] at h
  exact ordM_fast ord 0 (fun p hp => by
    have := List.all_eq_true.1 h.1 p hp
    unfold Nat.blt at this
    exact Nat.le_of_ble_eq_true this) h.2
def hasMask (n : Nat) (ord : List (Nat × Bool)) : Bool := (List.range n).all fun j => (maskL (ord.map (·.1))).testBit j
theorem hasMask_all {n : Nat} {ord : List (Nat × Bool)} (h : hasMask n ord = true) : hasAll n ord = true := by
  unfold hasAll
  rw [List.all_eq_true]
  intro j hj
  have := List.all_eq_true.1 h j hj
  have := (maskL_bit _ _).1 this
  rw [List.mem_map] at this
  obtain ⟨p, hp, e⟩ := this
  rw [List.any_eq_true]
  exact ⟨p, hp, by simp [e]⟩
end
end Go.Proofs.Ytioehmngkoffaaa
