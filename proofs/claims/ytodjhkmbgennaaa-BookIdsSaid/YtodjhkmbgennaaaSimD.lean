/-
  A region that draws its order, in one order: what is read holds till an operation that waits for all that read. Over any program.
-/
import Derived.Test.YtodjhkmbgennaaaSimC
namespace Go.Proofs.Ytodjhkmbgennaaa
open Go Go.RowKit

section
variable {P : Program} {ops : Array Oper} {Q : Exit → Act → World → Prop} {md : Region.Mode} {S : World → Prop} {u : Option Nat}

/-- the facts hold as long as u has not come up -/
def SL (u : Option Nat) (S : World → Prop) (listed : Array Bool) (w : World) : Prop := (∀ x, u = some x → listed.getD x false = false) → S w
def wpAnyL (P : Program) (md : Region.Mode) (ops : Array Oper) (Q : Exit → Act → World → Prop) (u : Option Nat) (S : World → Prop) : Nat → Array Bool → Act → World → Prop
  | 0, listed, a, w => Region.ready md ops listed = [] ∧ Q .normal a w
  | fuel + 1, listed, a, w =>
    (Region.ready md ops listed = [] → Q .normal a w) ∧
    ∀ i ∈ Region.ready md ops listed, wpOp P ops Q i (fun a' w' => SL u S (listed.setIfInBounds i true) w' ∧ wpAnyL P md ops Q u S fuel (listed.setIfInBounds i true) a' w') a w
theorem wpAny_of_L : ∀ (fuel : Nat) (listed : Array Bool) (a : Act) (w : World), wpAnyL P md ops Q u S fuel listed a w → wpAny P md ops Q fuel listed a w
  | 0, _, _, _, h => h
  | fuel + 1, _, _, _, h => ⟨h.1, fun i hi => wpOp_mono (fun a' w' h' => wpAny_of_L fuel _ a' w' h'.2) (h.2 i hi)⟩

/-- what has come up has come up behind what it waits for -/
def Closed (md : Region.Mode) (ops : Array Oper) (listed : Array Bool) : Prop := ∀ j oj, ops[j]? = some oj → listed.getD j false = true → ∀ e ∈ oj.after, Region.binds md e = true → listed.getD e.on false = true
theorem Closed.next {listed : Array Bool} (h : Closed md ops listed) {i : Nat} (hi : i ∈ Region.ready md ops listed) : Closed md ops (listed.setIfInBounds i true) := by
  intro j oj hj hl e he hb
  obtain ⟨_, o, ho, hall⟩ := mem_ready.1 hi
  by_cases hij : i = j
  · subst hij
    rw [ho] at hj
    injection hj with hj
    subst hj
    exact getD_set_true (hall e he hb)
  · rw [getD_set_ne false hij] at hl
    exact getD_set_true (h j oj hj hl e he hb)
theorem Closed.start (n : Nat) : Closed md ops (Array.replicate n false) := by
  intro j oj _ hl
  simp [Array.getElem?_replicate] at hl
  split at hl <;> simp at hl

/-- u waits for all of the set m -/
def okMask (md : Region.Mode) (ops : Array Oper) (u m : Nat) : Bool :=
  (List.range ops.size).all fun i => !m.testBit i || (List.range ops.size).any fun j => (Nat.beq j u || m.testBit j) && (Nat.blt i j && match ops[j]? with
    | some o => o.after.any fun e => Region.binds md e && Nat.beq e.on i
    | none => false)
theorem okMask_listed {x m : Nat} (h : okMask md ops x m = true) {listed : Array Bool} (hc : Closed md ops listed) (hx : ∀ o, ops[x]? = some o → ∀ e ∈ o.after, Region.binds md e = true → listed.getD e.on false = true) :
    ∀ (d i : Nat), ops.size ≤ i + d → i < ops.size → m.testBit i = true → listed.getD i false = true
  | 0, i, hd, hi, _ => by omega
  | d + 1, i, hd, hi, hm => by
    have h1 := List.all_eq_true.1 h i (List.mem_range.2 hi)
    rw [hm] at h1
    simp only [Bool.not_true, Bool.false_or, List.any_eq_true, List.mem_range, Bool.and_eq_true, Bool.or_eq_true] at h1
    obtain ⟨j, hj, hju, hij, h2⟩ := h1
    have hlt := blt_lt hij
    cases ho : ops[j]? with
    | none => rw [ho] at h2; cases h2
    | some o =>
      rw [ho] at h2
      simp only [Array.any_eq_true', Bool.and_eq_true] at h2
      obtain ⟨e, he, hb, hon⟩ := h2
      have hon' := Nat.eq_of_beq_eq_true hon
      subst hon'
      rcases hju with hju | hju
      · have := Nat.eq_of_beq_eq_true hju
        subst this
        exact hx o ho e he hb
      · exact hc j o ho (okMask_listed h hc hx d j (by omega) hj hju) e he hb

theorem wpAnyL_first {i m : Nat} {oi : Oper} {v : Value} (hi : ops[i]? = some oi) (hsel : ∀ (j : Nat) (o : Oper) cs b, ops[j]? = some o → o.op ≠ .select cs b)
    (hQ : ∀ c a w, Q (.panic c) (a.put oi.dst v) w → Q (.panic c) a w) (hu : ∀ x, u = some x → okMask md ops x m = true ∧ m.testBit i = true ∧ x ≠ i) :
    ∀ (fuel : Nat) (listed : Array Bool) (a : Act) (w : World), Closed md ops listed →
      (∀ j oj, ops[j]? = some oj → j ≠ i → listed.getD j true = false → (∀ e ∈ oj.after, Region.binds md e = true → e.on ≠ i) → oi.apart ops oj = true) →
      i ∈ Region.ready md ops listed → YieldsIf P ops S oi v a → S w →
      wpAnyL P md ops Q u S fuel (listed.setIfInBounds i true) (a.put oi.dst v) w → wpAnyL P md ops Q u S (fuel + 1) listed a w := by
  have hil : i < ops.size := (Array.getElem?_eq_some_iff.1 hi).1
  intro fuel
  induction fuel with
  | zero =>
    intro listed a w _ _ hr hy hS H
    refine ⟨fun h => (by rw [h] at hr; cases hr), fun j hj => ?_⟩
    by_cases hji : j = i
    · subst hji; exact hy.wpOp hi hS ⟨fun _ => hS, H⟩
    · have := ready_mono hj hji
      rw [H.1] at this
      cases this
  | succ fuel ih =>
    intro listed a w hcl hfree hr hy hS H
    refine ⟨fun h => (by rw [h] at hr; cases hr), fun j hj => ?_⟩
    by_cases hji : j = i
    · subst hji; exact hy.wpOp hi hS ⟨fun _ => hS, H⟩
    · have h1 := H.2 j (ready_mono hj hji)
      obtain ⟨hjun, oj, hoj, hall⟩ := mem_ready.1 hj
      have hiun := (mem_ready.1 hr).1
      have hiun' : listed.getD i false = false := by
        rcases Nat.lt_or_ge i listed.size with h' | h'
        · simp [h'] at hiun ⊢; exact hiun
        · simp [Array.getElem?_eq_none h']
      have hnot : ∀ e ∈ oj.after, Region.binds md e = true → e.on ≠ i := fun e he hb heq => by
        have h1 := hall e he hb
        rw [heq, hiun'] at h1
        cases h1
      have hju : ∀ x, u = some x → x ≠ j ∧ listed.getD x false = false := by
        intro x hx
        obtain ⟨ho, hm, _⟩ := hu x hx
        refine ⟨?_, ?_⟩
        · rintro rfl
          have := okMask_listed ho hcl (fun o ho' e he hb => hall e (by rw [hoj] at ho'; injection ho' with ho'; rw [ho']; exact he) hb) ops.size i (by omega) hil hm
          rw [hiun'] at this
          cases this
        · cases hl : listed.getD x false with
          | false => rfl
          | true =>
            have := okMask_listed ho hcl (fun o ho' e he hb => hcl x o ho' hl e he hb) ops.size i (by omega) hil hm
            rw [hiun'] at this
            cases this
      have h2 := wpOp_putIf hoj (hfree j oj hoj hji hjun hnot) (fun cs b => hsel i oi cs b hi) (fun cs b => hsel j oj cs b hoj) hQ hy h1
      have hfree' : ∀ k ok, ops[k]? = some ok → k ≠ i → (listed.setIfInBounds j true).getD k true = false →
          (∀ e ∈ ok.after, Region.binds md e = true → e.on ≠ i) → oi.apart ops ok = true := fun k ok hk hki hun hno => by
        refine hfree k ok hk hki ?_ hno
        by_cases hjk : j = k
        · subst hjk; exact hjun
        · rw [getD_set_ne true hjk] at hun; exact hun
      refine wpOp_mono (fun a' w' h3 => ?_) h2
      have hSw : S w' := h3.2.1 (fun x hx => by
        obtain ⟨hxj, hxl⟩ := hju x hx
        obtain ⟨_, _, hxi⟩ := hu x hx
        rw [getD_set_ne false (Ne.symm hxj), getD_set_ne false (Ne.symm hxi)]
        exact hxl)
      refine ⟨fun _ => hSw, ih (listed.setIfInBounds j true) a' w' (hcl.next hj) hfree' (ready_mono hr (Ne.symm hji)) h3.1 hSw ?_⟩
      rw [Array.setIfInBounds_comm _ _ hji]
      exact h3.2.2

/-- one order: each operation's number, and whether it comes up alone; d: whether u has come up -/
def wpOrdU (P : Program) (ops : Array Oper) (Q : Exit → Act → World → Prop) (u : Option Nat) (S : World → Prop) : List (Nat × Bool) → Bool → Act → World → Prop
  | [], _, a, w => Q .normal a w
  | (i, false) :: r, d, a, w => ∃ o v, ops[i]? = some o ∧ YieldsIf P ops S o v a ∧ wpOrdU P ops Q u S r d (a.put o.dst v) w
  | (i, true) :: r, d, a, w => wpOp P ops Q i (fun a' w' => ((d || u == some i) = false → S w') ∧ wpOrdU P ops Q u S r (d || u == some i) a' w') a w
/-- the order fits u: what is taken first is among those u waits for -/
def okU (u : Option Nat) (m : Nat) : List (Nat × Bool) → Bool → Bool
  | [], _ => true
  | (i, false) :: r, d => !d && (match u with | some x => m.testBit i && !Nat.beq x i | none => true) && okU u m r d
  | (i, true) :: r, d => okU u m r (d || u == some i)

theorem wpAnyL_of_ord (hs : Region.noSelect ops = true) (hQ : ∀ c a d v w, Q (.panic c) (Act.put a d v) w → Q (.panic c) a w) {m : Nat} (hm : ∀ x, u = some x → okMask md ops x m = true) :
    ∀ (ord : List (Nat × Bool)) (d : Bool) (listed : Array Bool) (fuel : Nat) (a : Act) (w : World), okOrd md ops ord listed = true → okU u m ord d = true → ord.length ≤ fuel → Closed md ops listed →
      (d = true ↔ ∃ x, u = some x ∧ listed.getD x false = true) → (d = false → S w) → wpOrdU P ops Q u S ord d a w → wpAnyL P md ops Q u S fuel listed a w
  | [], d, listed, fuel, a, w, hok, _, _, _, _, _, h => by
    have hr : Region.ready md ops listed = [] := by simpa [okOrd] using hok
    cases fuel with
    | zero => exact ⟨hr, h⟩
    | succ n => exact ⟨fun _ => h, by rw [hr]; simp⟩
  | (i, false) :: r, d, listed, 0, a, w, _, _, hl, _, _, _, _ => absurd hl (by simp)
  | (i, true) :: r, d, listed, 0, a, w, _, _, hl, _, _, _, _ => absurd hl (by simp)
  | (i, false) :: r, d, listed, fuel + 1, a, w, hok, hu, hl, hcl, hd, hS, h => by
    obtain ⟨o, v, ho, hy, h⟩ := h
    simp only [okOrd, Bool.and_eq_true] at hok
    simp only [okU, Bool.and_eq_true, Bool.not_eq_true'] at hu
    have hdf : d = false := hu.1.1
    have hri : i ∈ Region.ready md ops listed := by simpa using hok.1.2
    have hux : ∀ x, u = some x → okMask md ops x m = true ∧ m.testBit i = true ∧ x ≠ i := by
      intro x hx
      have h2 := hu.1.2
      rw [hx] at h2
      simp only [Bool.and_eq_true, Bool.not_eq_true'] at h2
      exact ⟨hm x hx, h2.1, fun e => by rw [e] at h2; simp at h2⟩
    refine wpAnyL_first ho (Region.noSelect_spec hs) (fun c a w => hQ c a _ _ w) hux fuel listed a w hcl (Region.free_spec ho hok.1.1) hri hy (hS hdf) ?_
    refine wpAnyL_of_ord hs hQ hm r d _ fuel _ w hok.2 hu.2 (by simpa using hl) (hcl.next hri) ?_ hS h
    rw [hd]
    constructor
    · rintro ⟨x, hx, hl⟩
      exact ⟨x, hx, getD_set_true hl⟩
    · rintro ⟨x, hx, hl⟩
      rw [getD_set_ne false (Ne.symm (hux x hx).2.2)] at hl
      exact ⟨x, hx, hl⟩
  | (i, true) :: r, d, listed, fuel + 1, a, w, hok, hu, hl, hcl, hd, _, h => by
    simp only [okOrd, Bool.and_eq_true, beq_iff_eq] at hok
    simp only [okU] at hu
    have hri : i ∈ Region.ready md ops listed := by rw [hok.1]; simp
    have hil : i < listed.size := by
      have := (mem_ready.1 hri).1
      rcases Nat.lt_or_ge i listed.size with h' | h'
      · exact h'
      · simp [Array.getElem?_eq_none h'] at this
    have hd' : (d || u == some i) = true ↔ ∃ x, u = some x ∧ (listed.setIfInBounds i true).getD x false = true := by
      rw [Bool.or_eq_true, hd, beq_iff_eq]
      constructor
      · rintro (⟨x, hx, hl⟩ | hx)
        · exact ⟨x, hx, getD_set_true hl⟩
        · exact ⟨i, hx, by simp [hil]⟩
      · rintro ⟨x, hx, hl⟩
        by_cases hxi : i = x
        · exact .inr (by rw [hx, hxi])
        · rw [getD_set_ne false hxi] at hl
          exact .inl ⟨x, hx, hl⟩
    refine ⟨fun h0 => absurd hri (by rw [h0]; simp), fun j hj => ?_⟩
    obtain rfl : j = i := by rw [hok.1] at hj; simpa using hj
    refine wpOp_mono (fun a' w' ⟨hS', h'⟩ => ⟨fun hno => ?_, ?_⟩) h
    · refine hS' ?_
      cases hdd : (d || u == some j) with
      | false => rfl
      | true =>
        obtain ⟨x, hx, hl⟩ := hd'.1 hdd
        rw [hno x hx] at hl
        cases hl
    · exact wpAnyL_of_ord hs hQ hm r _ _ fuel a' w' hok.2 hu (by simpa using hl) (hcl.next hri) hd' hS' h'

def okMaskU (ops : Array Oper) (u : Option Nat) (m : Nat) : Bool := match u with
  | some x => okMask .any ops x m
  | none => true
/-- THE BEGINNING -/
theorem wp_region_U {id : Nat} {a : Act} {w : World} (ord : List (Nat × Bool)) (u : Option Nat) (m : Nat) (S : World → Prop) (hmo : P.follows .mixedOrders = true) (hs : Region.noSelect ops = true)
    (hok : ordFast .any ops 0 ord = true) (hall : hasAll ops.size ord = true) (hlen : Nat.ble ord.length ops.size = true) (hu : okU u m ord false = true) (hm : okMaskU ops u m = true)
    (hQ : ∀ c a d v w, Q (.panic c) (Act.put a d v) w → Q (.panic c) a w)
    (hS : S w.drew) (h : wpOrdU P ops Q u S ord false a w.drew) : (Code.region id ops true).wp P Q a w := by
  refine wp_region_any hmo (wpAny_of_L (u := u) (S := S) _ _ _ _ ?_)
  refine wpAnyL_of_ord hs hQ (fun x hx => by subst hx; exact hm) ord false _ _ a _ (ord_of_fast hok hall) hu (Nat.le_of_ble_eq_true hlen) (Closed.start _) ?_ (fun _ => hS) h
  constructor
  · intro h; cases h
  · rintro ⟨x, _, hl⟩
    simp [Array.getElem?_replicate] at hl
    split at hl <;> simp at hl
end
end Go.Proofs.Ytodjhkmbgennaaa
