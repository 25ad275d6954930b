/-
  A region that draws its order, where at one point several operations may come up: each way is walked. Over any program.
-/
import Derived.Test.YtioehmngkoffaaaSimO
namespace Go.Proofs.Ytioehmngkoffaaa
section
open Go Go.RowKit

section
variable {P : Program} {ops : Array Oper} {Q : Exit → Act → World → Prop} {md : Region.Mode} {S : World → Prop} {u : Option Nat}

/-- what is taken first, then one of several ways, each begun by what may come up -/
def okF (md : Region.Mode) (ops : Array Oper) (R : List (Nat × List (Nat × Bool))) : List (Nat × Bool) → Array Bool → Bool
  | [], listed => (Region.ready md ops listed).all (fun j => R.any fun r => r.1 == j) && R.all fun r => (Region.ready md ops listed).contains r.1 && okOrd md ops r.2 (listed.setIfInBounds r.1 true)
  | (i, false) :: p, listed => Region.free md ops listed i && (Region.ready md ops listed).contains i && okF md ops R p (listed.setIfInBounds i true)
  | (_, true) :: _, _ => false

theorem yields_same {o : Oper} {v v' : Value} {a : Act} {w : World} (hS : S w) (h : YieldsIf P ops (YS o S) o v a) (h' : YieldsIf P ops (YS o S) o v' a) : v = v' := by
  rcases h with ⟨h1, h2⟩ | ⟨h1, h2⟩ <;> rcases h' with ⟨h3, h4⟩ | ⟨h3, h4⟩
  · have e1 := h2 w (fun _ => hS)
    have e2 := h4 w (fun _ => hS)
    rw [e1] at e2
    injection e2 with e2 _
    injection e2
  · rw [h1] at h3; cases h3
  · rw [h1] at h3; cases h3
  · rw [h2, h4]

theorem wpAnyL_fork (hs : Region.noSelect ops = true) (hQ : ∀ c a d v w, Q (.panic c) (Act.put a d v) w → Q (.panic c) a w) {m : Nat} (hm : ∀ x, u = some x → okMask md ops x m = true) (R : List (Nat × List (Nat × Bool))) (r0 : Nat × List (Nat × Bool)) (hr0 : r0 ∈ R) :
    ∀ (p : List (Nat × Bool)) (listed : Array Bool) (fuel : Nat) (a : Act) (w : World), okF md ops R p listed = true → (∀ r ∈ R, okU ops u m (p ++ (r.1, true) :: r.2) false = true) → (∀ r ∈ R, (p ++ (r.1, true) :: r.2).length ≤ fuel) → Closed md ops listed →
      (∀ x, u = some x → listed.getD x false = false) → S w → (∀ r ∈ R, wpOrdU P ops Q u S (p ++ (r.1, true) :: r.2) false a w) → wpAnyL P md ops Q u S fuel listed a w
  | [], listed, fuel, a, w, hok, hu, hl, hcl, hd, hS, h => by
    simp only [okF, Bool.and_eq_true, List.all_eq_true] at hok
    obtain ⟨f, rfl⟩ : ∃ f, fuel = f + 1 := by
      have h0 := hl r0 hr0
      simp at h0
      exact ⟨fuel - 1, by omega⟩
    have hne : ∃ j, j ∈ Region.ready md ops listed := ⟨r0.1, by simpa using (hok.2 r0 hr0).1⟩
    refine ⟨fun h0 => (by obtain ⟨j, hj⟩ := hne; rw [h0] at hj; cases hj), fun j hj => ?_⟩
    obtain ⟨r, hr, hrj⟩ := List.any_eq_true.1 (hok.1 j hj)
    obtain rfl : r.1 = j := by simpa using hrj
    have h1 : wpOp P ops Q r.1 (fun a' w' => ((false || u == some r.1) = false → S w') ∧ wpOrdU P ops Q u S r.2 (false || u == some r.1) a' w') a w := h r hr
    have hu1 := hu r hr
    have hl1 := hl r hr
    simp only [List.nil_append, okU, Bool.false_or] at hu1
    have hil : r.1 < listed.size := by
      have := (mem_ready.1 hj).1
      rcases Nat.lt_or_ge r.1 listed.size with h' | h'
      · exact h'
      · simp [Array.getElem?_eq_none h'] at this
    have hd' : (u == some r.1) = true ↔ ∃ x, u = some x ∧ (listed.setIfInBounds r.1 true).getD x false = true := by
      rw [beq_iff_eq]
      constructor
      · intro hx
        exact ⟨r.1, hx, by simp [hil]⟩
      · rintro ⟨x, hx, hl⟩
        by_cases hxi : r.1 = x
        · rw [hx, hxi]
        · rw [getD_set_ne false hxi, hd x hx] at hl
          cases hl
    refine wpOp_mono (fun a' w' ⟨hS', h'⟩ => ⟨fun hno => ?_, ?_⟩) h1
    · refine hS' ?_
      cases hdd : (u == some r.1) with
      | false => rfl
      | true =>
        obtain ⟨x, hx, hl⟩ := hd'.1 hdd
        rw [hno x hx] at hl
        cases hl
    · rw [Bool.false_or] at h' hS'
      exact wpAnyL_of_ord hs hQ hm r.2 _ _ f a' w' (hok.2 r hr).2 hu1 (by simpa using hl1) (hcl.next hj) hd' hS' h'
  | (i, true) :: p, listed, fuel, a, w, hok, _, _, _, _, _, _ => by cases hok
  | (i, false) :: p, listed, fuel, a, w, hok, hu, hl, hcl, hd, hS, h => by
    obtain ⟨f, rfl⟩ : ∃ f, fuel = f + 1 := by
      have h0 := hl r0 hr0
      simp at h0
      exact ⟨fuel - 1, by omega⟩
    obtain ⟨o, v, ho, hy, _⟩ := h r0 hr0
    have hrec0 : ∀ r ∈ R, wpOrdU P ops Q u S (p ++ (r.1, true) :: r.2) false (a.put o.dst v) w := by
      intro r hr
      obtain ⟨o', v', ho', hy', h'⟩ := h r hr
      rw [ho] at ho'
      injection ho' with ho'
      subst ho'
      rw [yields_same hS hy hy']
      exact h'
    simp only [okF, Bool.and_eq_true] at hok
    have hu0 := hu r0 hr0
    simp only [List.cons_append, okU, Bool.and_eq_true, Bool.or_eq_true, Bool.not_eq_true'] at hu0
    have hri : i ∈ Region.ready md ops listed := by simpa using hok.1.2
    have hui : ∀ x, u = some x → x ≠ i := by
      intro x hx
      have h2 : m.testBit i = true ∧ Nat.beq x i = false ∨ Nat.beq x i = false := by
        rcases hu0.1 with h2 | h2
        · have h3 := h2.2
          rw [hx] at h3
          simp only [Bool.and_eq_true, Bool.not_eq_true'] at h3
          exact .inl h3
        · have h3 := h2.2
          rw [hx] at h3
          simp only [Bool.not_eq_true'] at h3
          exact .inr h3
      intro e
      rw [e] at h2
      simp at h2
    have hd2 : ∀ x, u = some x → (listed.setIfInBounds i true).getD x false = false := fun x hx => by
      rw [getD_set_ne false (Ne.symm (hui x hx))]
      exact hd x hx
    have hrec := wpAnyL_fork hs hQ hm R r0 hr0 p (listed.setIfInBounds i true) f (a.put o.dst v) w hok.2 (fun r hr => by
      have := hu r hr
      simp only [List.cons_append, okU, Bool.and_eq_true] at this
      exact this.2) (fun r hr => by
      have := hl r hr
      simpa using this) (hcl.next hri) hd2 hS hrec0
    cases hp : pureOp o with
    | true =>
      refine wpAnyL_pure ho (Region.noSelect_spec hs) (fun c a w => hQ c a _ _ w) hui f listed a w (Region.free_spec ho hok.1.1) hri ?_ (fun hx => hS) hrec
      exact hy.imp (fun ⟨h1, h2⟩ => ⟨h1, fun w _ => h2 w (fun h => by rw [hp] at h; cases h)⟩) id
    | false =>
      have h0 := hu0.1.resolve_right (fun h2 => by
        have h3 := h2.1
        unfold pureAt at h3
        rw [ho] at h3
        simp only [hp] at h3
        cases h3)
      have hux : ∀ x, u = some x → okMask md ops x m = true ∧ m.testBit i = true ∧ x ≠ i := by
        intro x hx
        have h2 := h0.2
        rw [hx] at h2
        simp only [Bool.and_eq_true] at h2
        exact ⟨hm x hx, h2.1, hui x hx⟩
      refine wpAnyL_first ho (Region.noSelect_spec hs) (fun c a w => hQ c a _ _ w) hux f listed a w hcl (Region.free_spec ho hok.1.1) hri ?_ hS hrec
      exact hy.imp (fun ⟨h1, h2⟩ => ⟨h1, fun w hS => h2 w (fun _ => hS)⟩) id
end
/-- the check: p first, then R's ways; u waits for all that is read -/
def drawF (P : Program) (ops : Array Oper) (p : List (Nat × Bool)) (R : List (Nat × List (Nat × Bool))) (u : Option Nat) : Bool :=
  P.follows .mixedOrders && (Region.noSelect ops && (okF .any ops R p (Array.replicate ops.size false) && (!R.isEmpty &&
    (R.all (fun r => Nat.ble (p ++ (r.1, true) :: r.2).length ops.size && okU ops u (match u with | some x => maskOf ops x | none => 0) (p ++ (r.1, true) :: r.2) false) && okMaskU ops u (match u with | some x => maskOf ops x | none => 0)))))

/-- what is taken first, and the ways -/
def forkOf (ops : Array Oper) : List (Nat × Bool) × List (Nat × List (Nat × Bool)) := match passQ [] (enumFrom 0 ops.toList) 0 [] [] with
  | (m, acc, rem) => (acc.reverse, (rem.filter fun p => readyB m p.2).map fun p => (p.1, mkOrdB [] ops.size (rem.filter fun q => !Nat.beq q.1 p.1) (m ||| 2 ^ p.1) []))
section
variable {P : Program} {Q : Exit → Act → World → Prop} {fn : Func} {R' : Ending → World → Prop} {T : List Nat} {w0 w : World} {c : Cfg} {ρ : Nm}
abbrev ordF (c : Cfg) (u : Option Nat) (r : List (Nat × Bool)) : OCfg := ⟨drawId c, drawOps c, u, c.rs, r, false, drawRest c, c.tmps, c.rs⟩
theorem sim_drawF [hB : Body P Q fn R'] (p : List (Nat × Bool)) (R : List (Nat × List (Nat × Bool))) (u : Option Nat) (hd : isDraw c = true) (hok : (drawF P (drawOps c) p R u && undR c.rs.length c.rs) = true) (hR : Rel T w0 ρ c.rs w)
    (next : ∀ r ∈ R, RelO T w0 (ordF c u (p ++ (r.1, true) :: r.2)) ρ ρ w.drew → AtO P Q (ordF c u (p ++ (r.1, true) :: r.2)) ρ ρ w.drew) : At P Q c ρ w := by
  obtain ⟨k, t, rs⟩ := c
  unfold isDraw at hd
  split at hd
  · rename_i id ops k' hk
    simp only at hk
    subst hk
    simp only [Bool.and_eq_true] at hok
    have hpre : rs.take rs.length = rs := List.take_length
    have hR' := hR.drew
    obtain ⟨h0, hund⟩ := hok
    unfold drawF at h0
    simp only [Bool.and_eq_true, List.all_eq_true] at h0
    obtain ⟨h1, h2, h3, h4, h5, h6⟩ := h0
    obtain ⟨r0, hr0⟩ : ∃ r0, r0 ∈ R := by
      cases R with
      | nil => cases h4
      | cons x xs => exact ⟨x, by simp⟩
    show (Code.region id ops true).wp P (post P Q k') (act ρ t) w
    refine wp_region_any h1 (wpAny_of_L (u := u) (S := Snap ρ rs) _ _ _ _ ?_)
    refine wpAnyL_fork h2 (hB.pf.post k') (fun x hx => by subst hx; exact h6) R r0 hr0 p _ _ _ _ h3 (fun r hr => (h5 r hr).2) (fun r hr => Nat.le_of_ble_eq_true (h5 r hr).1) (Closed.start _) ?_ (hR'.snap hpre (Agree.refl _ _) hund) (fun r hr => next r hr ⟨hR', Agree.refl _ _, hund, Nat.le_refl _, fun _ => hpre⟩)
    intro x _
    simp [Array.getElem?_replicate]
    split <;> simp
  · cases hd
/-- an element of a row of one's own comes into view -/
theorem sim_seeO {g o n B sz cp : Nat} {e : TypeId} {xss : List (List Value)} (x : List Value) (k N : Nat) (hN : c.rs.length = N) (hx : xss[k]? = some x) (hown : Own ρ c.rs w B e sz (.slice (some ⟨g, o, none⟩) n cp) n xss.flatten) (hl : ∀ y ∈ xss, y.length = sz) (hs : 0 < sz) (hk : k < n) (hR : Rel T w0 ρ c.rs w)
    (hu : (undR N c.rs && undL N c.tmps) = true) (next : ∀ ρ', Moved ρ c.rs w ρ' (c.rs ++ [⟨x.map .v, false⟩]) w → ρ' N = (g, o + k * sz) → Rel T w0 ρ' (c.rs ++ [⟨x.map .v, false⟩]) w → At P Q ⟨c.k, c.tmps, c.rs ++ [⟨x.map .v, false⟩]⟩ ρ' w) : At P Q c ρ w := by
  obtain ⟨g', o', e', hg, hc⟩ := (Reads.of_own hown.own).spot (by omega) hs
  injection e' with e'
  injection e' with e1 e2
  subst e1
  subst e2
  simp only [Bool.and_eq_true] at hu
  subst hN
  refine sim_open c.rs.length rfl hR g (o + k * sz) (x.map .v) (by rw [hu.1, hu.2, denV_und]; rfl) hg (fun j v hv => ?_) (fun m r hm hw he => ?_) (fun ρ' ha hn hR' => next ρ' (Moved.ext_ro ha rfl) hn hR')
  · rw [List.getElem?_map, Option.map_eq_some_iff] at hv
    obtain ⟨u, hu1, rfl⟩ := hv
    have := hc _ u (flat_get xss k x hl hx j u hu1)
    rw [Nat.add_assoc]
    exact this
  · exact hown.far g rfl ⟨m, r, hm, hw, he⟩
theorem sim_drawF2 [hB : Body P Q fn R'] (p : List (Nat × Bool)) (r1 r2 : Nat × List (Nat × Bool)) (u : Option Nat) (hd : isDraw c = true) (hok : (drawF P (drawOps c) p [r1, r2] u && undR c.rs.length c.rs) = true) (hR : Rel T w0 ρ c.rs w)
    (next1 : RelO T w0 (ordF c u (p ++ (r1.1, true) :: r1.2)) ρ ρ w.drew → AtO P Q (ordF c u (p ++ (r1.1, true) :: r1.2)) ρ ρ w.drew)
    (next2 : RelO T w0 (ordF c u (p ++ (r2.1, true) :: r2.2)) ρ ρ w.drew → AtO P Q (ordF c u (p ++ (r2.1, true) :: r2.2)) ρ ρ w.drew) : At P Q c ρ w :=
  sim_drawF p [r1, r2] u hd hok hR fun r hr => by
    rcases List.mem_cons.1 hr with rfl | hr
    · exact next1
    · obtain rfl := List.mem_singleton.1 hr
      exact next2
end
end
end Go.Proofs.Ytioehmngkoffaaa
