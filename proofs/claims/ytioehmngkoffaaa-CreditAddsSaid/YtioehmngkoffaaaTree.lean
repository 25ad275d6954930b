/-
  A region that draws its order, where several operations may come up at more than one point: a tree of ways, each of which is walked. Over any program.
-/
import Derived.Test.YtioehmngkoffaaaFork
namespace Go.Proofs.Ytioehmngkoffaaa
section
open Go Go.RowKit

mutual
/-- ways: what is taken first, then what may come up, each with what is behind it -/
inductive Tr where
  | mk (p : List (Nat × Bool)) (ks : Ks)
inductive Ks where
  | nil
  | cons (i : Nat) (t : Tr) (ks : Ks)
end
def Tr.pre : Tr → List (Nat × Bool)
  | .mk p _ => p
def Tr.kids : Tr → Ks
  | .mk _ ks => ks

/-- the same, but for the normal end -/
def QN (Q : Exit → Act → World → Prop) (N : Act → World → Prop) : Exit → Act → World → Prop
  | .normal, a, w => N a w
  | .exit i, a, w => Q (.exit i) a w
  | .goto i, a, w => Q (.goto i) a w
  | .ret, a, w => Q .ret a w
  | .panic c, a, w => Q (.panic c) a w
  | .outgrown, a, w => Q .outgrown a w
section
variable {P : Program} {ops : Array Oper} {Q : Exit → Act → World → Prop} {md : Region.Mode} {S : World → Prop} {u : Option Nat}
theorem Oper.wp_QN {o : Oper} {a : Act} {w : World} {K N : Act → World → Prop} (h : o.wp P a w K (QN Q N)) : o.wp P a w K Q := by
  unfold Oper.wp at *
  generalize (execOp a.eval o).run P w = r at *
  cases r with
  | ok n w' => cases n <;> first | exact h | exact Calls.mono h (fun e w'' he => by cases e <;> exact he)
  | halt hh w' => cases hh <;> exact h
theorem wpOp_QN {i : Nat} {K N : Act → World → Prop} {a : Act} {w : World} (h : wpOp P ops (QN Q N) i K a w) : wpOp P ops Q i K a w := by
  unfold wpOp at *
  split
  · rename_i h0
    rw [h0] at h
    exact h
  · rename_i o h0
    rw [h0] at h
    dsimp only at h
    split
    · rename_i h1
      rw [if_pos h1] at h
      rcases h with h | ⟨h, h2⟩
      · exact .inl (Oper.wp_QN h)
      · exact .inr ⟨h, h2⟩
    · rename_i h1
      rw [if_neg h1] at h
      exact h
/-- what is listed behind an order's beginning -/
def okPre (md : Region.Mode) (ops : Array Oper) : List (Nat × Bool) → Array Bool → Option (Array Bool)
  | [], l => some l
  | (i, false) :: r, l => if (Region.free md ops l i && (Region.ready md ops l).contains i) = true then okPre md ops r (l.setIfInBounds i true) else none
  | (i, true) :: r, l => if (Region.ready md ops l == [i]) = true then okPre md ops r (l.setIfInBounds i true) else none
def dOf (u : Option Nat) : List (Nat × Bool) → Bool → Bool
  | [], d => d
  | (_, false) :: r, d => dOf u r d
  | (i, true) :: r, d => dOf u r (d || u == some i)

theorem listed_d {d : Bool} {listed : Array Bool} {i : Nat} (hd : d = true ↔ ∃ x, u = some x ∧ listed.getD x false = true) (hri : i ∈ Region.ready md ops listed) :
    (d || u == some i) = true ↔ ∃ x, u = some x ∧ (listed.setIfInBounds i true).getD x false = true := by
  have hil : i < listed.size := by
    have := (mem_ready.1 hri).1
    rcases Nat.lt_or_ge i listed.size with h' | h'
    · exact h'
    · simp [Array.getElem?_eq_none h'] at this
  rw [Bool.or_eq_true, hd, beq_iff_eq]
  constructor
  · rintro (⟨x, hx, hl⟩ | hx)
    · exact ⟨x, hx, getD_set_true hl⟩
    · exact ⟨i, hx, by simp [hil]⟩
  · rintro ⟨x, hx, hl⟩
    by_cases hxi : i = x
    · exact .inr (by rw [hx, hxi])
    · rw [getD_set_ne false hxi] at hl
      exact .inl ⟨x, hx, hl⟩
theorem wpAnyL_pre (hs : Region.noSelect ops = true) (hQ : ∀ c a d v w, Q (.panic c) (Act.put a d v) w → Q (.panic c) a w) {m : Nat} (hm : ∀ x, u = some x → okMask md ops x m = true) (N : Act → World → Prop) :
    ∀ (ord : List (Nat × Bool)) (d : Bool) (listed l' : Array Bool) (fuel : Nat) (a : Act) (w : World), okPre md ops ord listed = some l' → okU ops u m ord d = true → Closed md ops listed →
      (d = true ↔ ∃ x, u = some x ∧ listed.getD x false = true) → (d = false → S w) →
      (∀ a' w', Closed md ops l' → (dOf u ord d = true ↔ ∃ x, u = some x ∧ l'.getD x false = true) → (dOf u ord d = false → S w') → N a' w' → wpAnyL P md ops Q u S fuel l' a' w') →
      wpOrdU P ops (QN Q N) u S ord d a w → wpAnyL P md ops Q u S (fuel + ord.length) listed a w
  | [], d, listed, l', fuel, a, w, hok, _, hcl, hd, hS, next, h => by
    simp only [okPre, Option.some.injEq] at hok
    subst hok
    exact next a w hcl hd hS h
  | (i, false) :: r, d, listed, l', fuel, a, w, hok, hu, hcl, hd, hS, next, h => by
    obtain ⟨o, v, ho, hy, h⟩ := h
    simp only [okPre] at hok
    split at hok
    · rename_i hok0
      simp only [Bool.and_eq_true] at hok0
      simp only [okU, Bool.and_eq_true, Bool.or_eq_true, Bool.not_eq_true'] at hu
      have hri : i ∈ Region.ready md ops listed := by simpa using hok0.2
      have hui : ∀ x, u = some x → x ≠ i := by
        intro x hx
        have h2 : m.testBit i = true ∧ Nat.beq x i = false ∨ Nat.beq x i = false := by
          rcases hu.1 with h2 | h2
          · have h3 := h2.2
            rw [hx] at h3
            simp only [Bool.and_eq_true, Bool.not_eq_true'] at h3
            exact .inl h3
          · have h3 := h2.2
            rw [hx] at h3
            simp only [Bool.not_eq_true'] at h3
            exact .inr h3
        intro e
        rw [e] at h2
        simp at h2
      have hd2 : d = true ↔ ∃ x, u = some x ∧ (listed.setIfInBounds i true).getD x false = true := by
        rw [hd]
        constructor
        · rintro ⟨x, hx, hl⟩
          exact ⟨x, hx, getD_set_true hl⟩
        · rintro ⟨x, hx, hl⟩
          rw [getD_set_ne false (Ne.symm (hui x hx))] at hl
          exact ⟨x, hx, hl⟩
      have hrec := wpAnyL_pre hs hQ hm N r d _ l' fuel _ w hok hu.2 (hcl.next hri) hd2 hS next h
      cases hp : pureOp o with
      | true =>
        refine wpAnyL_pure ho (Region.noSelect_spec hs) (fun c a w => hQ c a _ _ w) hui (fuel + r.length) listed a w (Region.free_spec ho hok0.1) hri ?_ (fun hx => hS ?_) hrec
        · exact hy.imp (fun ⟨h1, h2⟩ => ⟨h1, fun w _ => h2 w (fun h => by rw [hp] at h; cases h)⟩) id
        · cases d with
          | false => rfl
          | true =>
            obtain ⟨x, hux, hlx⟩ := hd.1 rfl
            rw [hx x hux] at hlx
            cases hlx
      | false =>
        have h0 := hu.1.resolve_right (fun h2 => by
          have h3 := h2.1
          unfold pureAt at h3
          rw [ho] at h3
          simp only [hp] at h3
          cases h3)
        have hux : ∀ x, u = some x → okMask md ops x m = true ∧ m.testBit i = true ∧ x ≠ i := by
          intro x hx
          have h2 := h0.2
          rw [hx] at h2
          simp only [Bool.and_eq_true] at h2
          exact ⟨hm x hx, h2.1, hui x hx⟩
        refine wpAnyL_first ho (Region.noSelect_spec hs) (fun c a w => hQ c a _ _ w) hux (fuel + r.length) listed a w hcl (Region.free_spec ho hok0.1) hri ?_ (hS h0.1) hrec
        exact hy.imp (fun ⟨h1, h2⟩ => ⟨h1, fun w hS => h2 w (fun _ => hS)⟩) id
    · cases hok
  | (i, true) :: r, d, listed, l', fuel, a, w, hok, hu, hcl, hd, _, next, h => by
    simp only [okPre] at hok
    split at hok
    · rename_i hok0
      have hok0 : Region.ready md ops listed = [i] := by simpa using hok0
      simp only [okU] at hu
      have hri : i ∈ Region.ready md ops listed := by rw [hok0]; simp
      refine ⟨fun h0 => absurd hri (by rw [h0]; simp), fun j hj => ?_⟩
      obtain rfl : j = i := by rw [hok0] at hj; simpa using hj
      have hd' := listed_d hd hri
      refine wpOp_mono (fun a' w' ⟨hS', h'⟩ => ⟨fun hno => hS' ?_, ?_⟩) (wpOp_QN (N := N) h)
      · cases hdd : (d || u == some j) with
        | false => rfl
        | true =>
          obtain ⟨x, hx, hl⟩ := hd'.1 hdd
          rw [hno x hx] at hl
          cases hl
      · exact wpAnyL_pre hs hQ hm N r _ _ l' fuel a' w' hok hu (hcl.next hri) hd' hS' next h'
    · cases hok
/-- what is so at a tree's kids -/
def Ks.all (P : Program) (ops : Array Oper) (Q : Exit → Act → World → Prop) (u : Option Nat) (S : World → Prop) : Ks → Bool → Act → World → Prop
  | .nil, _, _, _ => True
  | .cons i (.mk p ks) rest, d, a, w => wpOrdU P ops (QN Q (fun a' w' => match ks with
      | .nil => Q .normal a' w'
      | .cons j t r => Ks.all P ops Q u S (.cons j t r) (dOf u ((i, true) :: p) d) a' w')) u S ((i, true) :: p) d a w ∧ Ks.all P ops Q u S rest d a w
def Ks.fin (P : Program) (ops : Array Oper) (Q : Exit → Act → World → Prop) (u : Option Nat) (S : World → Prop) (ks : Ks) (d : Bool) (a : Act) (w : World) : Prop := match ks with
  | .nil => Q .normal a w
  | .cons j t r => Ks.all P ops Q u S (.cons j t r) d a w
def Ks.has : Ks → Nat → Bool
  | .nil, _ => false
  | .cons i _ r, j => Nat.beq i j || r.has j
/-- the check; f: how many may still come -/
def Ks.ok (md : Region.Mode) (ops : Array Oper) (u : Option Nat) (m : Nat) : Ks → Bool → Array Bool → Nat → Bool
  | .nil, _, _, _ => true
  | .cons i (.mk p ks) rest, d, l, f => (Region.ready md ops l).contains i && (okU ops u m ((i, true) :: p) d && (match okPre md ops p (l.setIfInBounds i true) with
      | none => false
      | some l' => Nat.ble (p.length + 1) f && (match ks with
        | .nil => (Region.ready md ops l').isEmpty
        | .cons j t r => (Region.ready md ops l').all (fun x => Ks.has (.cons j t r) x) && Ks.ok md ops u m (.cons j t r) (dOf u ((i, true) :: p) d) l' (f - (p.length + 1))))) && rest.ok md ops u m d l f
def Ks.okE (md : Region.Mode) (ops : Array Oper) (u : Option Nat) (m : Nat) (ks : Ks) (d : Bool) (l : Array Bool) (f : Nat) : Bool := match ks with
  | .nil => (Region.ready md ops l).isEmpty
  | .cons j t r => (Region.ready md ops l).all (fun x => Ks.has (.cons j t r) x) && Ks.ok md ops u m (.cons j t r) d l f
mutual
theorem ks_fin (hs : Region.noSelect ops = true) (hQ : ∀ c a d v w, Q (.panic c) (Act.put a d v) w → Q (.panic c) a w) {m : Nat} (hm : ∀ x, u = some x → okMask md ops x m = true) :
    ∀ (ks : Ks) (d : Bool) (l : Array Bool) (f : Nat) (a : Act) (w : World), Ks.okE md ops u m ks d l f = true → Closed md ops l → (d = true ↔ ∃ x, u = some x ∧ l.getD x false = true) → (d = false → S w) → Ks.fin P ops Q u S ks d a w → wpAnyL P md ops Q u S f l a w
  | .nil, d, l, f, a, w, hok, _, _, _, h => by
    have hr : Region.ready md ops l = [] := by simpa [Ks.okE] using hok
    cases f with
    | zero => exact ⟨hr, h⟩
    | succ n => exact ⟨fun _ => h, by rw [hr]; simp⟩
  | .cons i (.mk p ks) r, d, l, f, a, w, hok, hcl, hd, hS, h => by
    simp only [Ks.okE, Bool.and_eq_true, List.all_eq_true] at hok
    obtain ⟨hall, hok⟩ := hok
    have hok2 := hok
    simp only [Ks.ok, Bool.and_eq_true] at hok
    have hri : i ∈ Region.ready md ops l := by simpa using hok.1.1
    have hf : 0 < f := by
      have h3 := hok.1.2.2
      split at h3
      · cases h3
      · simp only [Bool.and_eq_true] at h3
        have := Nat.le_of_ble_eq_true h3.1
        omega
    obtain ⟨n, rfl⟩ : ∃ n, f = n + 1 := ⟨f - 1, by omega⟩
    exact ⟨fun h0 => absurd hri (by rw [h0]; simp), fun j hj => ks_kid hs hQ hm (.cons i (.mk p ks) r) d l n a w j hok2 hcl hd hS h (hall j hj) hj⟩
termination_by ks => (SizeOf.sizeOf ks, 1)
theorem ks_kid (hs : Region.noSelect ops = true) (hQ : ∀ c a d v w, Q (.panic c) (Act.put a d v) w → Q (.panic c) a w) {m : Nat} (hm : ∀ x, u = some x → okMask md ops x m = true) :
    ∀ (ks : Ks) (d : Bool) (l : Array Bool) (n : Nat) (a : Act) (w : World) (j : Nat), Ks.ok md ops u m ks d l (n + 1) = true → Closed md ops l → (d = true ↔ ∃ x, u = some x ∧ l.getD x false = true) → (d = false → S w) → Ks.all P ops Q u S ks d a w → ks.has j = true → j ∈ Region.ready md ops l →
      wpOp P ops Q j (fun a' w' => SL u S (l.setIfInBounds j true) w' ∧ wpAnyL P md ops Q u S n (l.setIfInBounds j true) a' w') a w
  | .nil, _, _, _, _, _, _, _, _, _, _, _, hj, _ => by cases hj
  | .cons i (.mk p ks) r, d, l, n, a, w, j, hok, hcl, hd, hS, h, hhas, hj => by
    simp only [Ks.ok, Bool.and_eq_true] at hok
    obtain ⟨⟨hri, hu, hok1⟩, hok2⟩ := hok
    simp only [Ks.all] at h
    by_cases hij : i = j
    · subst hij
      split at hok1
      · cases hok1
      · rename_i l' hpre
        simp only [Bool.and_eq_true] at hok1
        have hlen := Nat.le_of_ble_eq_true hok1.1
        have h1 : wpOrdU P ops (QN Q (Ks.fin P ops Q u S ks (dOf u ((i, true) :: p) d))) u S ((i, true) :: p) d a w := by
          have h2 := h.1
          cases ks <;> exact h2
        have hd' := listed_d (u := u) hd hj
        simp only [okU] at hu
        refine wpOp_mono (fun a' w' ⟨hS', h'⟩ => ⟨fun hno => hS' ?_, ?_⟩) (wpOp_QN h1)
        · cases hdd : (d || u == some i) with
          | false => rfl
          | true =>
            obtain ⟨x, hx, hl⟩ := hd'.1 hdd
            rw [hno x hx] at hl
            cases hl
        · have e : n = (n - p.length) + p.length := by omega
          rw [e]
          refine wpAnyL_pre hs hQ hm _ p _ _ l' (n - p.length) a' w' hpre hu (hcl.next hj) hd' hS' (fun a2 w2 hcl2 hd2 hS2 hN => ?_) h'
          refine ks_fin hs hQ hm ks _ l' (n - p.length) a2 w2 ?_ hcl2 hd2 hS2 hN
          have e2 : n + 1 - (p.length + 1) = n - p.length := by omega
          have h3 := hok1.2
          rw [e2] at h3
          cases ks <;> exact h3
    · refine ks_kid hs hQ hm r d l n a w j hok2 hcl hd hS h.2 ?_ hj
      have : (Nat.beq i j || r.has j) = true := hhas
      rcases Bool.or_eq_true_iff.1 this with h4 | h4
      · exact absurd (Nat.eq_of_beq_eq_true h4) hij
      · exact h4
termination_by ks => (SizeOf.sizeOf ks, 0)
end
end
/-! ### In the executor -/
section
variable {P : Program} {Q : Exit → Act → World → Prop} {fn : Func} {R' : Ending → World → Prop} {T : List Nat} {w0 w : World} {c : Cfg} {ρ : Nm}
/-- what is still to be done at a fork -/
def ForkQ (P : Program) (Q : Exit → Act → World → Prop) (k : List It) (ops : Array Oper) (u : Option Nat) (ρs : Nm) (snap : List Reg) (ks : Ks) (d : Bool) : Exit → Act → World → Prop := QN (post P Q k) (Ks.fin P ops (post P Q k) u (Snap ρs snap) ks d)
instance [hB : Body P Q fn R'] (k : List It) (ops : Array Oper) (u : Option Nat) (ρs : Nm) (snap : List Reg) (ks : Ks) (d : Bool) : Body P (ForkQ P Q k ops u ρs snap ks d) fn R' where
  pf := fun ch a d v w h => (hB.pf.post k) ch a d v w h
  ret := fun a w h => (post_ret k).2 (hB.ret a w h)
/-- the check -/
def drawT (P : Program) (ops : Array Oper) (t : Tr) (u : Option Nat) : Bool :=
  P.follows .mixedOrders && (Region.noSelect ops && (okMaskU ops u (match u with | some x => maskOf ops x | none => 0) && (okU ops u (match u with | some x => maskOf ops x | none => 0) t.pre false && (match okPre .any ops t.pre (Array.replicate ops.size false) with
    | none => false
    | some l' => Nat.ble t.pre.length ops.size && Ks.okE .any ops u (match u with | some x => maskOf ops x | none => 0) t.kids (dOf u t.pre false) l' (ops.size - t.pre.length)))))
theorem sim_drawT [hB : Body P Q fn R'] (t : Tr) (u : Option Nat) (hd : isDraw c = true) (hok : (drawT P (drawOps c) t u && undR c.rs.length c.rs) = true) (hR : Rel T w0 ρ c.rs w)
    (next : RelO T w0 ⟨drawId c, drawOps c, u, c.rs, t.pre, false, [], c.tmps, c.rs⟩ ρ ρ w.drew → AtO P (ForkQ P Q (drawRest c) (drawOps c) u ρ c.rs t.kids (dOf u t.pre false)) ⟨drawId c, drawOps c, u, c.rs, t.pre, false, [], c.tmps, c.rs⟩ ρ ρ w.drew) : At P Q c ρ w := by
  obtain ⟨k, tm, rs⟩ := c
  unfold isDraw at hd
  split at hd
  · rename_i id ops k' hk
    simp only at hk
    subst hk
    simp only [Bool.and_eq_true] at hok
    have hpre : rs.take rs.length = rs := List.take_length
    have hR' := hR.drew
    obtain ⟨h0, hund⟩ := hok
    unfold drawT at h0
    simp only [Bool.and_eq_true] at h0
    obtain ⟨h1, h2, h3, h4, h5⟩ := h0
    change (match okPre .any ops t.pre (Array.replicate ops.size false) with | none => false | some l' => _) = true at h5
    split at h5
    · cases h5
    · rename_i l' hl'
      simp only [Bool.and_eq_true] at h5
      have hlen := Nat.le_of_ble_eq_true h5.1
      show (Code.region id ops true).wp P (post P Q k') (act ρ tm) w
      refine wp_region_any h1 (wpAny_of_L (u := u) (S := Snap ρ rs) _ _ _ _ ?_)
      have e : ops.size = (ops.size - t.pre.length) + t.pre.length := (Nat.sub_add_cancel hlen).symm
      have hn := next ⟨hR', Agree.refl _ _, hund, Nat.le_refl _, fun _ => hpre⟩
      have key := wpAnyL_pre (P := P) (md := .any) (S := Snap ρ rs) (u := u) h2 (hB.pf.post k') (fun x hx => by subst hx; exact h3) (Ks.fin P ops (post P Q k') u (Snap ρ rs) t.kids (dOf u t.pre false)) t.pre false _ l' (ops.size - t.pre.length) (act ρ tm) w.drew hl' h4 (Closed.start _) (by
        constructor
        · intro h
          cases h
        · rintro ⟨x, _, h⟩
          rw [Array.getD_eq_getD_getElem?] at h
          simp [Array.getElem?_replicate] at h
          split at h <;> simp at h) (fun _ => hR'.snap hpre (Agree.refl _ _) hund) (fun a2 w2 hcl2 hd2 hS2 hN => ks_fin h2 (hB.pf.post k') (fun x hx => by subst hx; exact h3) t.kids _ l' _ a2 w2 h5.2 hcl2 hd2 hS2 hN) hn
      rw [← e] at key
      exact key
  · cases hd
end
/-- the ways of a region, as a tree -/
def treeOf : Nat → List (Nat × Oper) → Nat → Tr
  | 0, _, _ => .mk [] .nil
  | n + 1, l, m => match passQ [] l m [] [] with
    | (m', acc, rem) => match rem.filter (fun p => readyB m' p.2) with
      | [] => .mk acc.reverse .nil
      | [p] => match treeOf n (rem.filter fun q => !Nat.beq q.1 p.1) (m' ||| 2 ^ p.1) with
        | .mk p' ks => .mk (acc.reverse ++ (p.1, true) :: p') ks
      | ps => .mk acc.reverse (ps.foldr (fun p ks => Ks.cons p.1 (treeOf n (rem.filter fun q => !Nat.beq q.1 p.1) (m' ||| 2 ^ p.1)) ks) .nil)
section
variable {P : Program} {Q : Exit → Act → World → Prop} {T : List Nat} {w0 w : World} {c : OCfg} {ρs ρ : Nm} {k : List It} {ops : Array Oper} {u : Option Nat} {snap : List Reg} {d : Bool}
abbrev forkC (c : OCfg) (ops : Array Oper) (u : Option Nat) (snap : List Reg) (i : Nat) (p : List (Nat × Bool)) (d : Bool) : OCfg := ⟨c.id, ops, u, snap, (i, true) :: p, d, [], c.tmps, c.rs⟩
theorem sim_fork0 (hr : c.r = []) (hk : c.k = []) (hR : RelO T w0 c ρs ρ w) (next : Rel T w0 ρ c.rs w → At P Q ⟨k, c.tmps, c.rs⟩ ρ w) : AtO P (ForkQ P Q k ops u ρs snap .nil d) c ρs ρ w := by
  unfold AtO
  rw [hr, hk]
  exact next hR.rel
theorem fork_relO (hs : c.snap = snap) (hd : c.d = d) (hR : RelO T w0 c ρs ρ w) (i : Nat) (p : List (Nat × Bool)) : RelO T w0 (forkC c ops u snap i p d) ρs ρ w := by
  subst hs hd
  exact ⟨hR.rel, hR.agree, hR.und, hR.len, hR.pre⟩
theorem sim_forkN {ks : Ks} (hr : c.r = []) (hk : c.k = []) (h : Ks.fin P ops (post P Q k) u (Snap ρs snap) ks d (act ρ c.tmps) w) : AtO P (ForkQ P Q k ops u ρs snap ks d) c ρs ρ w := by
  unfold AtO
  rw [hr, hk]
  exact h
theorem fork_all {i : Nat} {p : List (Nat × Bool)} {ks r : Ks} (h : AtO P (ForkQ P Q k ops u ρs snap ks (dOf u ((i, true) :: p) d)) (forkC c ops u snap i p d) ρs ρ w) (h2 : Ks.all P ops (post P Q k) u (Snap ρs snap) r d (act ρ c.tmps) w) : Ks.all P ops (post P Q k) u (Snap ρs snap) (.cons i (.mk p ks) r) d (act ρ c.tmps) w := by
  simp only [Ks.all]
  refine ⟨?_, h2⟩
  cases ks <;> exact h
section
variable {i1 i2 i3 i4 : Nat} {p1 p2 p3 p4 : List (Nat × Bool)} {k1 k2 k3 k4 : Ks}
theorem sim_fork2 (hr : c.r = []) (hk : c.k = []) (hs : c.snap = snap) (hd : c.d = d) (hR : RelO T w0 c ρs ρ w)
    (n1 : RelO T w0 (forkC c ops u snap i1 p1 d) ρs ρ w → AtO P (ForkQ P Q k ops u ρs snap k1 (dOf u ((i1, true) :: p1) d)) (forkC c ops u snap i1 p1 d) ρs ρ w)
    (n2 : RelO T w0 (forkC c ops u snap i2 p2 d) ρs ρ w → AtO P (ForkQ P Q k ops u ρs snap k2 (dOf u ((i2, true) :: p2) d)) (forkC c ops u snap i2 p2 d) ρs ρ w) : AtO P (ForkQ P Q k ops u ρs snap (.cons i1 (.mk p1 k1) (.cons i2 (.mk p2 k2) .nil)) d) c ρs ρ w :=
  sim_forkN hr hk (fork_all (n1 (fork_relO hs hd hR _ _)) (fork_all (n2 (fork_relO hs hd hR _ _)) trivial))
theorem sim_fork3 (hr : c.r = []) (hk : c.k = []) (hs : c.snap = snap) (hd : c.d = d) (hR : RelO T w0 c ρs ρ w)
    (n1 : RelO T w0 (forkC c ops u snap i1 p1 d) ρs ρ w → AtO P (ForkQ P Q k ops u ρs snap k1 (dOf u ((i1, true) :: p1) d)) (forkC c ops u snap i1 p1 d) ρs ρ w)
    (n2 : RelO T w0 (forkC c ops u snap i2 p2 d) ρs ρ w → AtO P (ForkQ P Q k ops u ρs snap k2 (dOf u ((i2, true) :: p2) d)) (forkC c ops u snap i2 p2 d) ρs ρ w)
    (n3 : RelO T w0 (forkC c ops u snap i3 p3 d) ρs ρ w → AtO P (ForkQ P Q k ops u ρs snap k3 (dOf u ((i3, true) :: p3) d)) (forkC c ops u snap i3 p3 d) ρs ρ w) : AtO P (ForkQ P Q k ops u ρs snap (.cons i1 (.mk p1 k1) (.cons i2 (.mk p2 k2) (.cons i3 (.mk p3 k3) .nil))) d) c ρs ρ w :=
  sim_forkN hr hk (fork_all (n1 (fork_relO hs hd hR _ _)) (fork_all (n2 (fork_relO hs hd hR _ _)) (fork_all (n3 (fork_relO hs hd hR _ _)) trivial)))
theorem sim_fork4 (hr : c.r = []) (hk : c.k = []) (hs : c.snap = snap) (hd : c.d = d) (hR : RelO T w0 c ρs ρ w)
    (n1 : RelO T w0 (forkC c ops u snap i1 p1 d) ρs ρ w → AtO P (ForkQ P Q k ops u ρs snap k1 (dOf u ((i1, true) :: p1) d)) (forkC c ops u snap i1 p1 d) ρs ρ w)
    (n2 : RelO T w0 (forkC c ops u snap i2 p2 d) ρs ρ w → AtO P (ForkQ P Q k ops u ρs snap k2 (dOf u ((i2, true) :: p2) d)) (forkC c ops u snap i2 p2 d) ρs ρ w)
    (n3 : RelO T w0 (forkC c ops u snap i3 p3 d) ρs ρ w → AtO P (ForkQ P Q k ops u ρs snap k3 (dOf u ((i3, true) :: p3) d)) (forkC c ops u snap i3 p3 d) ρs ρ w)
    (n4 : RelO T w0 (forkC c ops u snap i4 p4 d) ρs ρ w → AtO P (ForkQ P Q k ops u ρs snap k4 (dOf u ((i4, true) :: p4) d)) (forkC c ops u snap i4 p4 d) ρs ρ w) : AtO P (ForkQ P Q k ops u ρs snap (.cons i1 (.mk p1 k1) (.cons i2 (.mk p2 k2) (.cons i3 (.mk p3 k3) (.cons i4 (.mk p4 k4) .nil)))) d) c ρs ρ w :=
  sim_forkN hr hk (fork_all (n1 (fork_relO hs hd hR _ _)) (fork_all (n2 (fork_relO hs hd hR _ _)) (fork_all (n3 (fork_relO hs hd hR _ _)) (fork_all (n4 (fork_relO hs hd hR _ _)) trivial))))
end
end
end
end Go.Proofs.Ytioehmngkoffaaa
