/-
  The check of an order by bit masks. Over any program.
-/
import Derived.Test.YtodjhkmbgennaaaOrdFast
namespace Go.Proofs.Ytodjhkmbgennaaa
open Go

def maskL : List Nat → Nat
  | [] => 0
  | t :: l => 2 ^ t ||| maskL l
theorem maskL_bit : ∀ (l : List Nat) (t : Nat), (maskL l).testBit t = true ↔ t ∈ l
  | [], t => by simp [maskL]
  | s :: l, t => by
    have ih := maskL_bit l t
    simp only [maskL, Nat.testBit_or, Bool.or_eq_true, ih, List.mem_cons]
    constructor
    · rintro (h | h)
      · left
        apply Classical.byContradiction
        intro hne
        rw [Nat.testBit_two_pow_of_ne (Ne.symm hne)] at h
        cases h
      · exact .inr h
    · rintro (rfl | h)
      · exact .inl (Nat.testBit_two_pow_self)
      · exact .inr h
theorem and_zero_bit {a b t : Nat} (h : Nat.beq (a &&& b) 0 = true) (ha : a.testBit t = true) : b.testBit t = false := by
  have e := Nat.eq_of_beq_eq_true h
  have := congrArg (fun n => Nat.testBit n t) e
  simp only [Nat.testBit_and, ha, Bool.true_and, Nat.zero_testBit] at this
  exact this
structure Sig where
  bit : Nat
  d : Nat
  l : Nat
  a : Nat
def dstM (o : Oper) : Nat := match o.dst with
  | some d => 2 ^ d
  | none => 0
def aftM (md : Region.Mode) (o : Oper) : Nat := maskL ((o.after.toList.filter fun e => Region.binds md e).map (·.on))
def sigOf (md : Region.Mode) (ops : Array Oper) (i : Nat) : Sig := match ops[i]? with
  | some o => ⟨2 ^ i, dstM o, maskL (o.looksAt ops), aftM md o⟩
  | none => ⟨2 ^ i, 0, 0, 0⟩
def apartM (x y : Sig) : Bool := Nat.beq (x.d &&& y.l) 0 && (Nat.beq (x.d &&& y.d) 0 && Nat.beq (y.d &&& x.l) 0)
theorem apartM_apart {md : Region.Mode} {ops : Array Oper} {i j : Nat} {x y : Oper} (hx : ops[i]? = some x) (hy : ops[j]? = some y) (h : apartM (sigOf md ops i) (sigOf md ops j) = true) : x.apart ops y = true := by
  simp only [apartM, sigOf, hx, hy, Bool.and_eq_true] at h
  obtain ⟨h1, h2, h3⟩ := h
  have hb : ∀ (o : Oper) d, o.dst = some d → (dstM o).testBit d = true := fun o d hd => by simp only [dstM, hd]; exact Nat.testBit_two_pow_self
  have hno : ∀ {l : List Nat} {t : Nat}, (maskL l).testBit t = false → l.contains t = false := fun {l t} hf => by
    cases hc : l.contains t with
    | false => rfl
    | true =>
      rw [(maskL_bit l t).2 (by simpa using hc)] at hf
      cases hf
  unfold Oper.apart
  cases hxd : x.dst with
  | none =>
    cases hyd : y.dst with
    | none => rfl
    | some d => simp [hno (and_zero_bit h3 (hb y d hyd)), -List.contains_eq_mem]
  | some dx =>
    have e1 := hno (and_zero_bit h1 (hb x dx hxd))
    have e2 := and_zero_bit h2 (hb x dx hxd)
    have e3 : (y.dst != some dx) = true := by
      cases hyd : y.dst with
      | none => rfl
      | some d =>
        simp only [bne_iff_ne, ne_eq, Option.some.injEq]
        rintro rfl
        rw [hb y d hyd] at e2
        cases e2
    cases hyd : y.dst with
    | none => rw [hyd] at e3; simp [e1, -List.contains_eq_mem]
    | some d => rw [hyd] at e3; simp [e1, e3, hno (and_zero_bit h3 (hb y d hyd)), -List.contains_eq_mem]

def ordM (m : Nat) : List (Sig × Bool) → Bool
  | [] => true
  | (x, sp) :: r => Nat.beq (x.bit &&& m) 0 && (Nat.beq (x.a &&& m) x.a &&
      ((match sp with
        | true => r.all fun y => !Nat.beq (y.1.a &&& m) y.1.a
        | false => r.all fun y => !Nat.beq (y.1.a &&& x.bit) 0 || apartM x y.1) && ordM (m ||| x.bit) r))
theorem bit_of_ne {a i : Nat} (h : (!Nat.beq (a &&& 2 ^ i) 0) = true) : a.testBit i = true := by
  cases hc : a.testBit i with
  | true => rfl
  | false =>
    exfalso
    have : a &&& 2 ^ i = 0 := by
      apply Nat.eq_of_testBit_eq
      intro j
      rw [Nat.testBit_and, Nat.zero_testBit]
      by_cases e : i = j
      · subst e; simp [hc]
      · rw [Nat.testBit_two_pow_of_ne e]; simp
    rw [this] at h
    cases h
theorem ordM_fast {md : Region.Mode} {ops : Array Oper} : ∀ (ord : List (Nat × Bool)) (m : Nat), (∀ p ∈ ord, p.1 < ops.size) → ordM m (ord.map fun p => (sigOf md ops p.1, p.2)) = true → ordFast md ops m ord = true
  | [], _, _, _ => rfl
  | (i, sp) :: r, m, hlt, h => by
    simp only [List.map_cons, ordM, Bool.and_eq_true] at h
    obtain ⟨h1, h2, h3, h4⟩ := h
    have hi : i < ops.size := hlt (i, sp) (by simp)
    have ho : ops[i]? = some ops[i] := Array.getElem?_eq_getElem hi
    have hbit : (sigOf md ops i).bit = 2 ^ i := by simp only [sigOf, ho]
    have haft : (sigOf md ops i).a = aftM md ops[i] := by simp only [sigOf, ho]
    have ih := ordM_fast r (m ||| 2 ^ i) (fun p hp => hlt p (List.mem_cons_of_mem _ hp)) (by rw [hbit] at h4; exact h4)
    simp only [ordFast, ho, Bool.and_eq_true]
    refine ⟨⟨⟨?_, ?_⟩, ?_⟩, ih⟩
    · rw [hbit] at h1
      have := and_zero_bit h1 (Nat.testBit_two_pow_self)
      rw [this]
      rfl
    · rw [haft] at h2
      rw [Array.all_eq_true_iff_forall_mem]
      intro e he
      cases hb : Region.binds md e with
      | false => rfl
      | true =>
        have hm : (aftM md ops[i]).testBit e.on = true := (maskL_bit _ _).2 (by
          rw [List.mem_map]
          exact ⟨e, List.mem_filter.2 ⟨by simpa using he, hb⟩, rfl⟩)
        have e2 := congrArg (fun n => Nat.testBit n e.on) (Nat.eq_of_beq_eq_true h2)
        simp only [Nat.testBit_and, hm, Bool.true_and] at e2
        rw [e2]
        rfl
    · have hall : ∀ (f : Sig × Bool → Bool), (List.map (fun p => (sigOf md ops p.1, p.2)) r).all f = true → ∀ p ∈ r, f (sigOf md ops p.1, p.2) = true := by
        intro f hf p hp
        exact List.all_eq_true.1 hf _ (List.mem_map.2 ⟨p, hp, rfl⟩)
      cases sp with
      | true =>
        simp only at h3 ⊢
        rw [List.all_eq_true]
        intro p hp
        have h5 := hall _ h3 p hp
        have hj : p.1 < ops.size := hlt p (List.mem_cons_of_mem _ hp)
        have hoj : ops[p.1]? = some ops[p.1] := Array.getElem?_eq_getElem hj
        simp only [sigOf, hoj] at h5 ⊢
        -- some waited-for operation is not listed
        apply Classical.byContradiction
        intro hc
        simp only [Array.any_eq_true', Bool.and_eq_true, Bool.not_eq_true', not_exists, not_and, Bool.not_eq_false] at hc
        have heq : aftM md ops[p.1] &&& m = aftM md ops[p.1] := by
          apply Nat.eq_of_testBit_eq
          intro t
          rw [Nat.testBit_and]
          cases ht : (aftM md ops[p.1]).testBit t with
          | false => rfl
          | true =>
            have := (maskL_bit _ _).1 ht
            rw [List.mem_map] at this
            obtain ⟨e, he, rfl⟩ := this
            have hf := List.mem_filter.1 he
            rw [hc e (by simpa using hf.1) hf.2]
            rfl
        rw [heq] at h5
        simp at h5
      | false =>
        simp only at h3 ⊢
        rw [List.all_eq_true]
        intro p hp
        have h5 := hall _ h3 p hp
        have hj : p.1 < ops.size := hlt p (List.mem_cons_of_mem _ hp)
        have hoj : ops[p.1]? = some ops[p.1] := Array.getElem?_eq_getElem hj
        simp only [Bool.or_eq_true] at h5
        simp only [hoj, Bool.or_eq_true]
        rcases h5 with h5 | h5
        · left
          rw [hbit] at h5
          have h6 := bit_of_ne h5
          simp only [sigOf, hoj] at h6
          have := (maskL_bit _ _).1 h6
          rw [List.mem_map] at this
          obtain ⟨e, he, hon⟩ := this
          have hf := List.mem_filter.1 he
          rw [Array.any_eq_true']
          exact ⟨e, by simpa using hf.1, by simp [hf.2, hon]⟩
        · exact .inr (apartM_apart ho hoj h5)
/-- the whole check -/
def ordMask (md : Region.Mode) (ops : Array Oper) (ord : List (Nat × Bool)) : Bool := ord.all (fun p => Nat.blt p.1 ops.size) && ordM 0 (ord.map fun p => (sigOf md ops p.1, p.2))
theorem ordMask_fast {md : Region.Mode} {ops : Array Oper} {ord : List (Nat × Bool)} (h : ordMask md ops ord = true) : ordFast md ops 0 ord = true := by
  simp only [ordMask, Bool.and_eq_true] at h
  exact ordM_fast ord 0 (fun p hp => by
    have := List.all_eq_true.1 h.1 p hp
    unfold Nat.blt at this
    exact Nat.le_of_ble_eq_true this) h.2
def hasMask (n : Nat) (ord : List (Nat × Bool)) : Bool := (List.range n).all fun j => (maskL (ord.map (·.1))).testBit j
theorem hasMask_all {n : Nat} {ord : List (Nat × Bool)} (h : hasMask n ord = true) : hasAll n ord = true := by
  unfold hasAll
  rw [List.all_eq_true]
  intro j hj
  have := List.all_eq_true.1 h j hj
  have := (maskL_bit _ _).1 this
  rw [List.mem_map] at this
  obtain ⟨p, hp, e⟩ := this
  rw [List.any_eq_true]
  exact ⟨p, hp, by simp [e]⟩
end Go.Proofs.Ytodjhkmbgennaaa
