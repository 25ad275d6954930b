/-
  A check of an order that is cheap for the kernel. Over any program.
-/
import Derived.Test.YtodjhkmbgennaaaOrd
namespace Go.Proofs.Ytodjhkmbgennaaa
open Go

/-- m: the numbers that are listed, as bits -/
def ordFast (md : Region.Mode) (ops : Array Oper) : Nat → List (Nat × Bool) → Bool
  | _, [] => true
  | m, (i, sp) :: r =>
    (match ops[i]? with
     | none => false
     | some o => (!m.testBit i) && (o.after.all fun e => !Region.binds md e || m.testBit e.on) &&
        (match sp with
         | true => r.all fun x => match ops[x.1]? with | some oj => oj.after.any fun e => Region.binds md e && !m.testBit e.on | none => true
         | false => r.all fun x => match ops[x.1]? with | some oj => (oj.after.any fun e => Region.binds md e && e.on == i) || o.apart ops oj | none => true)) &&
    ordFast md ops (m ||| 2 ^ i) r

/-- what the bits and the array say is one thing; what is not listed is to come -/
structure OrdInv (ops : Array Oper) (listed : Array Bool) (m : Nat) (r : List (Nat × Bool)) : Prop where
  size : listed.size = ops.size
  bits : ∀ j, j < ops.size → listed[j]? = some (m.testBit j)
  rest : ∀ j, j < ops.size → m.testBit j = false → ∃ b, (j, b) ∈ r
  high : ∀ j, ops.size ≤ j → m.testBit j = false

theorem OrdInv.getD {ops : Array Oper} {listed : Array Bool} {m : Nat} {r : List (Nat × Bool)} (h : OrdInv ops listed m r) {j : Nat} (hj : j < ops.size) (d : Bool) : listed.getD j d = m.testBit j := by
  have := h.bits j hj
  simp [Array.getD_eq_getD_getElem?, this]

theorem filter_one {n i : Nat} (hi : i < n) (p : Nat → Bool) (hp : p i = true) (ho : ∀ j, j < n → p j = true → j = i) : (List.range n).filter p = [i] := by
  induction n with
  | zero => omega
  | succ n ih =>
    rw [List.range_succ, List.filter_append]
    by_cases e : i = n
    · subst e
      have : (List.range i).filter p = [] := by
        rw [List.filter_eq_nil_iff]
        intro j hj hpj
        rw [List.mem_range] at hj
        have := ho j (by omega) hpj
        omega
      rw [this]
      simp [hp]
    · have hn : p n = false := by
        cases hc : p n with
        | false => rfl
        | true => exact absurd (ho n (by omega) hc).symm e
      rw [ih (by omega) (fun j hj hpj => ho j (by omega) hpj)]
      simp [hn]

theorem OrdInv.next {ops : Array Oper} {listed : Array Bool} {m i : Nat} {sp : Bool} {r : List (Nat × Bool)} (h : OrdInv ops listed m ((i, sp) :: r)) (hi : i < ops.size) : OrdInv ops (listed.setIfInBounds i true) (m ||| 2 ^ i) r := by
  refine ⟨by simp [h.size], fun j hj => ?_, fun j hj hb => ?_, fun j hj => ?_⟩
  · by_cases e : i = j
    · subst e
      simp [h.size, hi, Nat.testBit_or, Nat.testBit_two_pow_self]
    · rw [Array.getElem?_setIfInBounds_ne e, h.bits j hj]
      simp [Nat.testBit_or, Nat.testBit_two_pow_of_ne e]
  · rw [Nat.testBit_or, Bool.or_eq_false_iff] at hb
    obtain ⟨b, hm⟩ := h.rest j hj hb.1
    rcases List.mem_cons.1 hm with e | hm
    · injection e with e1 _
      subst e1
      rw [Nat.testBit_two_pow_self] at hb
      exact absurd hb.2 (by simp)
    · exact ⟨b, hm⟩
  · rw [Nat.testBit_or, h.high j hj, Nat.testBit_two_pow_of_ne (by omega)]
    rfl

theorem OrdInv.on_ {ops : Array Oper} {listed : Array Bool} {m : Nat} {r : List (Nat × Bool)} (h : OrdInv ops listed m r) (j : Nat) : listed.getD j false = m.testBit j := by
  rcases Nat.lt_or_ge j ops.size with hj | hj
  · exact h.getD hj false
  · rw [h.high j hj]
    have : listed[j]? = none := Array.getElem?_eq_none (by rw [h.size]; exact hj)
    simp [Array.getD_eq_getD_getElem?, this]

theorem ordFast_ok {md : Region.Mode} {ops : Array Oper} : ∀ (l : List (Nat × Bool)) (m : Nat) (listed : Array Bool), OrdInv ops listed m l → ordFast md ops m l = true → okOrd md ops l listed = true
  | [], m, listed, inv, _ => by
    simp only [okOrd, List.isEmpty_iff, Region.ready, List.filter_eq_nil_iff]
    intro j hj
    rw [List.mem_range] at hj
    have : m.testBit j = true := by
      cases hb : m.testBit j with
      | true => rfl
      | false => obtain ⟨b, hm⟩ := inv.rest j hj hb; cases hm
    rw [inv.getD hj, this]
    simp
  | (i, sp) :: r, m, listed, inv, h => by
    simp only [ordFast, Bool.and_eq_true] at h
    obtain ⟨h1, h2⟩ := h
    cases ho : ops[i]? with
    | none => rw [ho] at h1; cases h1
    | some o =>
      rw [ho] at h1
      have hi : i < ops.size := (Array.getElem?_eq_some_iff.1 ho).1
      simp only [Bool.and_eq_true, Bool.not_eq_true'] at h1
      obtain ⟨⟨hun, hbef⟩, hall⟩ := h1
      have hnext := ordFast_ok r _ _ (inv.next hi) h2
      have hmem : i ∈ Region.ready md ops listed := mem_ready.2 ⟨by rw [inv.getD hi]; exact hun, o, ho, fun e he hb => by
        rw [inv.on_]
        have h4 := Array.all_eq_true_iff_forall_mem.1 hbef e he
        simp only [Bool.or_eq_true, Bool.not_eq_true'] at h4
        rcases h4 with h3 | h3
        · rw [hb] at h3; cases h3
        · exact h3⟩
      have hrest : ∀ j oj, ops[j]? = some oj → j ≠ i → m.testBit j = false → ∃ b, (j, b) ∈ r := by
        intro j oj hoj hne hb
        obtain ⟨b, hm⟩ := inv.rest j (Array.getElem?_eq_some_iff.1 hoj).1 hb
        rcases List.mem_cons.1 hm with e | hm
        · injection e with e1 _
          exact absurd e1 hne
        · exact ⟨b, hm⟩
      cases sp
      · simp only [okOrd, Bool.and_eq_true]
        refine ⟨⟨?_, by simpa using hmem⟩, hnext⟩
        simp only [Region.free, ho, List.all_eq_true, List.mem_range, Bool.or_eq_true, beq_iff_eq]
        intro j hj
        by_cases e : j = i
        · exact .inl (.inl e)
        · cases hb : m.testBit j with
          | true => left; right; rw [inv.getD hj]; exact hb
          | false =>
            right
            have hoj : ops[j]? = some ops[j] := Array.getElem?_eq_getElem hj
            obtain ⟨b, hm⟩ := hrest j _ hoj e hb
            have := List.all_eq_true.1 hall (j, b) hm
            simp only [hoj] at this ⊢
            simpa using this
      · simp only [okOrd, Bool.and_eq_true, beq_iff_eq]
        refine ⟨?_, hnext⟩
        refine filter_one hi _ (List.mem_filter.1 hmem).2 (fun j hj hp => ?_)
        have hjr : j ∈ Region.ready md ops listed := List.mem_filter.2 ⟨List.mem_range.2 hj, hp⟩
        obtain ⟨hju, oj, hoj, hedge⟩ := mem_ready.1 hjr
        apply Classical.byContradiction
        intro e
        rw [inv.getD hj] at hju
        obtain ⟨b, hm⟩ := hrest j oj hoj e hju
        have := List.all_eq_true.1 hall (j, b) hm
        simp only [hoj] at this
        simp only [Array.any_eq_true', Bool.and_eq_true, Bool.not_eq_true'] at this
        obtain ⟨ed, hed, hbd, hnb⟩ := this
        have h3 := hedge ed hed hbd
        rw [inv.on_, hnb] at h3
        cases h3

/-- a list of numbers has all below n -/
def hasAll (n : Nat) (l : List (Nat × Bool)) : Bool := (List.range n).all fun j => l.any fun x => x.1 == j
theorem ord_of_fast {md : Region.Mode} {ops : Array Oper} {l : List (Nat × Bool)} (h : ordFast md ops 0 l = true) (hp : hasAll ops.size l = true) : okOrd md ops l (Array.replicate ops.size false) = true := by
  refine ordFast_ok l 0 _ ⟨by simp, fun j hj => ?_, fun j hj _ => ?_, fun j _ => by simp⟩ h
  · rw [Array.getElem?_replicate, if_pos hj]; simp
  · have := List.all_eq_true.1 hp j (List.mem_range.2 hj)
    obtain ⟨x, hx, e⟩ := List.any_eq_true.1 this
    simp only [beq_iff_eq] at e
    exact ⟨x.2, by rw [← e]; exact hx⟩
end Go.Proofs.Ytodjhkmbgennaaa
