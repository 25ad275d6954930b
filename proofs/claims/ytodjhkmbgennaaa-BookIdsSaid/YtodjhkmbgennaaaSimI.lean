/-
  Small words for proofs by the executor. Over any program.
-/
import Derived.Test.YtodjhkmbgennaaaSimH
namespace Go.Proofs.Ytodjhkmbgennaaa
open Go Go.RowKit

abbrev LI (z : Int) : LV := .v (.int .i64 z)
abbrev LS (s : ByteArray) : LV := .v (.string s)
abbrev LB (b : Bool) : LV := .v (.bool b)
def ρ0 : Nm := fun _ => (0, 0)
theorem Rel.start (T : List Nat) (w : World) (ρ : Nm) : Rel T w ρ [] w :=
  ⟨Keeps.refl _ _, fun n r hn => by simp at hn, fun n r hn => by simp at hn, fun n r hn => by simp at hn, fun n m r r' hn => by simp at hn⟩
theorem Rel.cast {T : List Nat} {w0 w : World} {ρ : Nm} {rs rs' : List Reg} (h : Rel T w0 ρ rs w) (e : rs = rs') : Rel T w0 ρ rs' w := e ▸ h
theorem Kept.of_keeps {T : List Nat} {w w' : World} (h : Keeps T w w') : Kept (· ∈ T) w w' := h.kept
theorem Rel.toBelow {w0 w : World} {ρ : Nm} {rs : List Reg} (h : Rel [] w0 ρ rs w) : Below w0.heap.size w0 w := h.keeps.below (by simp) (Nat.le_refl _)

theorem Rel.none_ {T : List Nat} {w0 w : World} {ρ : Nm} {rs : List Reg} (h : Rel T w0 ρ rs w) : Rel T w0 ρ [] w :=
  ⟨h.keeps, fun n r hn => by simp at hn, fun n r hn => by simp at hn, fun n r hn => by simp at hn, fun n m r r' hn => by simp at hn⟩
def roR (rs : List Reg) : List Reg := rs.map fun r => ⟨r.cells, false⟩
theorem Rel.ro {T : List Nat} {w0 w : World} {ρ : Nm} {rs : List Reg} (h : Rel T w0 ρ rs w) : Rel T w0 ρ (roR rs) w := by
  have hg : ∀ (n : Nat) (r : Reg), (roR rs)[n]? = some r → ∃ q, rs[n]? = some q ∧ r = ⟨q.cells, false⟩ := by
    intro n r hn
    unfold roR at hn
    rw [List.getElem?_map] at hn
    cases hq : rs[n]? with
    | none => rw [hq] at hn; cases hn
    | some q =>
      rw [hq] at hn
      simp only [Option.map_some, Option.some.injEq] at hn
      exact ⟨q, rfl, hn.symm⟩
  refine ⟨h.keeps, fun n r hn => ?_, fun n r hn i v hv => ?_, fun n r hn hw => ?_, fun n m r r' hn hm hne hw => ?_⟩
  · obtain ⟨q, hq, rfl⟩ := hg n r hn
    exact h.lt n q hq
  · obtain ⟨q, hq, rfl⟩ := hg n r hn
    exact h.cell n q hq i v hv
  · obtain ⟨q, hq, rfl⟩ := hg n r hn
    cases hw
  · obtain ⟨q, hq, rfl⟩ := hg n r hn
    cases hw
theorem wrS_ro {ρ : Nm} {rs : List Reg} {g : Nat} (h : wrS ρ (roR rs) g) : False := by
  obtain ⟨n, r, hn, hw, _⟩ := h
  unfold roR at hn
  rw [List.getElem?_map] at hn
  cases hq : rs[n]? with
  | none => rw [hq] at hn; cases hn
  | some q =>
    rw [hq] at hn
    simp only [Option.map_some, Option.some.injEq] at hn
    rw [← hn] at hw
    cases hw
theorem own_kept {S : Nat → Prop} {w w' : World} {base : Nat} {e : TypeId} {size n : Nat} {v : Value} {xs : List Value} (h : w.ownsRow base e size v n xs) (hk : Kept S w w') (hn : ∀ g, v.ownBlock = some g → ¬ S g) : w'.ownsRow base e size v n xs := by
  refine ⟨h.1, ?_⟩
  rcases h.2 with h2 | ⟨g, cap, cur, rfl, hb, hg, r⟩
  · exact .inl h2
  · refine .inr ⟨g, cap, cur, rfl, hb, ?_, r⟩
    rw [hk.block g (by rcases Nat.lt_or_ge g w.heap.size with hl | hl; exact hl; rw [Array.getElem?_eq_none hl] at hg; cases hg) (hn g rfl)]
    exact hg

def allEmpty (rs : List Reg) : Bool := rs.isEmpty
theorem allEmpty_spec {rs : List Reg} (h : allEmpty rs = true) : rs = [] := by
  cases rs with
  | nil => rfl
  | cons _ _ => cases h
theorem noReg {rs : List Reg} (h : allEmpty rs = true) {k : Nat} {r : Reg} (hk : rs[k]? = some r) : False := by
  rw [allEmpty_spec h] at hk
  simp at hk
def allRo (rs : List Reg) : Bool := rs.all fun r => !r.wr
theorem wrS_allRo {ρ : Nm} {rs : List Reg} (h : allRo rs = true) {g : Nat} (hw : wrS ρ rs g) : False := by
  obtain ⟨n, r, hn, hr, _⟩ := hw
  have := List.all_eq_true.1 h r (List.mem_of_getElem? hn)
  rw [hr] at this
  cases this
/-- the places that may not be written and of which something is known -/
def roIdx : List Reg → Nat → List Nat
  | [], _ => []
  | r :: rs, i => if r.wr || r.cells.isEmpty then roIdx rs (i + 1) else i :: roIdx rs (i + 1)
theorem roIdx_mem : ∀ (rs : List Reg) (i k : Nat) (r : Reg), rs[k]? = some r → r.wr = false → r.cells ≠ [] → i + k ∈ roIdx rs i
  | [], _, _, _, h, _, _ => by simp at h
  | q :: rs, i, 0, r, h, hw, hc => by
    simp only [List.getElem?_cons_zero, Option.some.injEq] at h
    subst h
    have : (q.wr || q.cells.isEmpty) = false := by
      rw [hw]
      simpa using hc
    simp only [roIdx, this]
    simp
  | q :: rs, i, k + 1, r, h, hw, hc => by
    simp only [List.getElem?_cons_succ] at h
    have ih := roIdx_mem rs (i + 1) k r h hw hc
    have e : i + 1 + k = i + (k + 1) := by omega
    rw [e] at ih
    simp only [roIdx]
    split
    · exact ih
    · exact List.mem_cons_of_mem _ ih
/-- a block that was there is none of the new places -/
theorem reg_far {ρ ρ' : Nm} {rs rs' : List Reg} {w w' : World} (hm : Moved ρ rs w ρ' rs' w') (hro : allRo rs = true) (l : List Nat) (hl : roIdx rs' 0 = l) {g : Nat} (hg : g < w.heap.size) (hidx : ∀ k ∈ l, (ρ' k).1 ≠ g) :
    ∀ (k : Nat) (r : Reg), rs'[k]? = some r → r.cells ≠ [] → (ρ' k).1 ≠ g := by
  intro k r hk hne e
  cases hw : r.wr with
  | true =>
    rcases hm.wrs g ⟨k, r, hk, hw, e⟩ with h | h
    · exact wrS_allRo hro h
    · omega
  | false =>
    have := roIdx_mem rs' 0 k r hk hw hne
    rw [hl, Nat.zero_add] at this
    exact hidx k this e
theorem Moved.agN {ρ ρ' : Nm} {rs rs' : List Reg} {w w' : World} (hm : Moved ρ rs w ρ' rs' w') (N : Nat) (h : Nat.ble N rs.length = true) : Agree N ρ ρ' := fun n hn => hm.agree n (Nat.lt_of_lt_of_le hn (Nat.le_of_ble_eq_true h))
theorem Agree.tr {N : Nat} {ρ ρ' ρ'' : Nm} (h : Agree N ρ ρ') (h' : Agree N ρ' ρ'') : Agree N ρ ρ'' := fun n hn => (h' n hn).trans (h n hn)
theorem Moved.at_ {ρ ρ' : Nm} {rs rs' : List Reg} {w w' : World} (hm : Moved ρ rs w ρ' rs' w') (n : Nat) (h : Nat.blt n rs.length = true) : ρ' n = ρ n := hm.agree n (blt_lt h)
/-- a place that came into view is no new block -/
theorem Moved.ext_ro {N : Nat} {ρ ρ' : Nm} {rs : List Reg} {w : World} {cells : List LV} (ha : Agree N ρ ρ') (hN : rs.length = N) : Moved ρ rs w ρ' (rs ++ [⟨cells, false⟩]) w := by
  subst hN
  have hk := Kept.refl (wrS ρ rs) w
  refine ⟨ha, hk, fun g hg => ?_, by simp, Still.refl _ _, fun g i _ ho n r hn hw e => ?_, OutR.pre ha, fun n r hn hw => .inl ?_⟩
  rotate_left
  · rcases Nat.lt_or_ge n rs.length with hl | hl
    · rw [List.getElem?_append_left hl] at hn
      rw [ha n hl] at e ⊢
      exact ho n r hn hw e
    · rw [List.getElem?_append_right hl] at hn
      have h0 : n - rs.length = 0 := by
        rcases Nat.eq_zero_or_pos (n - rs.length) with h0 | h0
        · exact h0
        · rw [List.getElem?_eq_none (by simp; omega)] at hn; cases hn
      rw [h0] at hn
      simp at hn
      rw [← hn] at hw
      cases hw
  · rcases Nat.lt_or_ge n rs.length with hl | hl
    · rw [List.getElem?_append_left hl] at hn
      exact ⟨r, hn, hw, rfl⟩
    · rw [List.getElem?_append_right hl] at hn
      have h0 : n - rs.length = 0 := by
        rcases Nat.eq_zero_or_pos (n - rs.length) with h0 | h0
        · exact h0
        · rw [List.getElem?_eq_none (by simp; omega)] at hn; cases hn
      rw [h0] at hn
      simp at hn
      rw [← hn] at hw
      cases hw
  obtain ⟨n, r, hn, hw, e⟩ := hg
  rcases Nat.lt_or_ge n rs.length with hl | hl
  · rw [List.getElem?_append_left hl] at hn
    exact .inl ⟨n, r, hn, hw, by rw [← e, ha n hl]⟩
  · rw [List.getElem?_append_right hl] at hn
    have h0 : n - rs.length = 0 := by
      rcases Nat.eq_zero_or_pos (n - rs.length) with h0 | h0
      · exact h0
      · rw [List.getElem?_eq_none (by simp; omega)] at hn; cases hn
    rw [h0] at hn
    simp at hn
    rw [← hn] at hw
    cases hw
theorem Rel.forget {T : List Nat} {w0 w : World} {ρ : Nm} {rs : List Reg} (h : Rel T w0 ρ rs w) (f : Nat → Bool) : Rel T w0 ρ (rs.mapIdx fun i r => if f i then ⟨[], false⟩ else r) w := by
  have hg : ∀ (n : Nat) (r : Reg), (rs.mapIdx fun i r => if f i then (⟨[], false⟩ : Reg) else r)[n]? = some r → ∃ q, rs[n]? = some q ∧ (r = ⟨[], false⟩ ∨ r = q) := by
    intro n r hn
    rw [List.getElem?_mapIdx] at hn
    cases hq : rs[n]? with
    | none => rw [hq] at hn; cases hn
    | some q =>
      rw [hq] at hn
      simp only [Option.map_some, Option.some.injEq] at hn
      refine ⟨q, rfl, ?_⟩
      split at hn
      · exact .inl hn.symm
      · exact .inr hn.symm
  refine ⟨h.keeps, fun n r hn => ?_, fun n r hn i v hv => ?_, fun n r hn hw => ?_, fun n m r r' hn hm hne hw he => ?_⟩
  · obtain ⟨q, hq, _⟩ := hg n r hn
    exact h.lt n q hq
  · obtain ⟨q, hq, rfl | rfl⟩ := hg n r hn
    · simp at hv
    · exact h.cell n _ hq i v hv
  · obtain ⟨q, hq, rfl | rfl⟩ := hg n r hn
    · cases hw
    · exact h.wr n _ hq hw
  · obtain ⟨q, hq, rfl | rfl⟩ := hg n r hn
    · cases hw
    · obtain ⟨q', hq', rfl | rfl⟩ := hg m r' hm
      · have := h.apart n m _ q' hq hq' hne hw he
        simp only [List.length_nil]
        have h3 := h.apart n m _ q' hq hq' hne hw he
        omega
      · exact h.apart n m _ _ hq hq' hne hw he

/-- what is still to be done at the n-th loop's head -/
def seek : Code → Nat → List It → Nat × Option (List It)
  | .loop b, n, k => match n with
    | 0 => (0, some (.code (.loop b) :: k))
    | n + 1 => seek b n k
  | .seq a b, n, k => match seek a n (.code b :: k) with
    | (m, some r) => (m, some r)
    | (m, none) => seek b m k
  | .block id c, n, k => seek c n (.blk id :: k)
  | .cond _ a b, n, k => match seek a n k with
    | (m, some r) => (m, some r)
    | (m, none) => seek b m k
  | _, n, _ => (n, none)
def loopK (fn : Func) (n : Nat) : List It := match (seek (bodyOf fn) n []).2 with
  | some k => k
  | none => []

/-- n temporaries: these are known, the others are junk -/
def tmplJ : Nat → Nat → List (Nat × LV) → List (Option LV)
  | 0, _, _ => []
  | n + 1, i, sets => (match sets.find? (fun p => Nat.beq p.1 i) with | some p => some p.2 | none => none) :: tmplJ n (i + 1) sets
section
variable {P : Program} {Q : Exit → Act → World → Prop} {T : List Nat} {w0 w : World} {ρ : Nm} {c : Cfg}
/-- of the places no more need be known -/
theorem sim_rs (rs : List Reg) (h : At P Q ⟨c.k, c.tmps, rs⟩ ρ w) : At P Q c ρ w := h
/-- ways that meet: what is known there -/
theorem sim_to (k : List It) (tm : List (Option LV)) (rs : List Reg) (hk : c.k = k) (hm : mergeT tm c.tmps = c.tmps) (hl : tm.length = c.tmps.length) (next : ∀ d, At P Q ⟨k, fillJ tm d 0, rs⟩ ρ w) : At P Q c ρ w := by
  have := next (fun j => (evalL c.tmps (.tmp j)).den ρ)
  unfold At at *
  rw [act_of_merge ρ hm hl, hk]
  exact this
end
end Go.Proofs.Ytodjhkmbgennaaa
