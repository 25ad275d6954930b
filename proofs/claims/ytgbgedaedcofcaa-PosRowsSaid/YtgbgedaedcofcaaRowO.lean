/-
  Rows of one's own: places that were there before; appending. Over any program.
-/
import Derived.Test.YtgbgedaedcofcaaSimO
namespace Go.Proofs.Ytgbgedaedcofcaa
open Go Go.RowKit

/-- the first places lie in blocks that were there before -/
structure OldR (k B : Nat) (ρ : Nm) (rs : List Reg) (w : World) : Prop where
  lt : ∀ n, n < k → (ρ n).1 < B
  le : k ≤ rs.length
  sz : B ≤ w.heap.size
theorem OldR.moved {k B : Nat} {ρ ρ' : Nm} {rs rs' : List Reg} {w w' : World} (h : OldR k B ρ rs w) (hm : Moved ρ rs w ρ' rs' w') : OldR k B ρ' rs' w' := ⟨fun n hn => by rw [hm.agree n (Nat.lt_of_lt_of_le hn h.le)]; exact h.lt n hn, Nat.le_trans h.le hm.size, Nat.le_trans h.sz hm.kept.size⟩
theorem OldR.below {k B : Nat} {ρ : Nm} {rs : List Reg} {w w' : World} (h : OldR k B ρ rs w) (hb : Below w.heap.size w w') : OldR k B ρ rs w' := ⟨h.lt, h.le, Nat.le_trans h.sz hb.size⟩
theorem OldR.drew {k B : Nat} {ρ : Nm} {rs : List Reg} {w : World} (h : OldR k B ρ rs w) : OldR k B ρ rs w.drew := ⟨h.lt, h.le, h.sz⟩
theorem OldR.kept {k B : Nat} {ρ : Nm} {rs : List Reg} {w w' : World} {S : Nat → Prop} (h : OldR k B ρ rs w) (hk : Kept S w w') : OldR k B ρ rs w' := ⟨h.lt, h.le, Nat.le_trans h.sz hk.size⟩
theorem Rel.old {T : List Nat} {w0 w : World} {ρ : Nm} {rs : List Reg} (hR : Rel T w0 ρ rs w) (k : Nat) (h : Nat.ble k rs.length = true) : OldR k w.heap.size ρ rs w := by
  have hk := Nat.le_of_ble_eq_true h
  exact ⟨fun n hn => hR.lt n _ (List.getElem?_eq_getElem (by omega)), hk, Nat.le_refl _⟩
/-- a row of one's own has turned; the places lie elsewhere -/
theorem Rel.keptOwn {T : List Nat} {w0 w w' : World} {ρ : Nm} {rs : List Reg} (hR : Rel T w0 ρ rs w) {k B base n cp : Nat} {e : TypeId} {size : Nat} {A : Option Addr} {xs : List Value} (hown : w.ownsRow base e size (.slice A n cp) n xs) (hold : OldR k B ρ rs w) (hl : Nat.ble rs.length k = true) (hb : B ≤ base) (hw0 : w0.heap.size ≤ base) (hk : Kept (fun x => ∃ a, A = some a ∧ a.block = x) w w') : Rel T w0 ρ rs w' :=
  hR.kept hk (fun m r hr _ ⟨a, ha, e⟩ => by
    have h1 := hold.lt m (by have := (List.getElem?_eq_some_iff.1 hr).1; have := Nat.le_of_ble_eq_true hl; omega)
    have h2 := (hown.lt a.block (by rw [ha]; rfl)).1
    omega) (fun g ⟨a, ha, e⟩ => .inr (by
    have h2 := (hown.lt a.block (by rw [ha]; rfl)).1
    omega))
theorem Own.of_old {w : World} {ρ : Nm} {rs : List Reg} {k B base n cp : Nat} {e : TypeId} {size : Nat} {A : Option Addr} {xs : List Value} (hown : w.ownsRow base e size (.slice A n cp) n xs) (hold : OldR k B ρ rs w) (hl : Nat.ble rs.length k = true) (hb : B ≤ base) : Own ρ rs w base e size (.slice A n cp) n xs :=
  ⟨hown, fun g hg ⟨m, r, hr, _, he⟩ => by
    have h1 := hold.lt m (by have := (List.getElem?_eq_some_iff.1 hr).1; have := Nat.le_of_ble_eq_true hl; omega)
    have h2 := (hown.lt g hg).1
    omega⟩
theorem Own.bare {T : List Nat} {w0 w : World} {ρ : Nm} {rs : List Reg} (_ : Rel T w0 ρ rs w) {base n : Nat} {e : TypeId} {size : Nat} {v : Value} {xs : List Value} (h : w.ownsRow base e size v n xs) (he : allEmpty rs = true) : Own ρ rs w base e size v n xs :=
  ⟨h, fun _ _ ⟨_, _, hr, _⟩ => noReg he hr⟩
def tA : Option Addr → List Nat
  | some a => [a.block]
  | none => []
theorem tA_of {A : Option Addr} {x : Nat} (h : ∃ a, A = some a ∧ a.block = x) : x ∈ tA A := by
  obtain ⟨a, rfl, rfl⟩ := h
  exact List.mem_singleton.2 rfl
theorem tA_is {A : Option Addr} {x : Nat} (h : x ∈ tA A) : ∃ a, A = some a ∧ a.block = x := by
  cases A with
  | none => cases h
  | some a => exact ⟨a, rfl, (List.mem_singleton.1 h).symm⟩
/-- a slice type, its elements, their cells and bytes -/
structure RowTy (P : Program) (t e : TypeId) (size bytes : Nat) : Prop where
  ht : P.underlying t = some (.slice e)
  ex : ∃ i z, P.info? e = some i ∧ i.zero = some z ∧ i.size = size ∧ i.bytes = bytes ∧ z.cells.size = size ∧ 0 < size
theorem RowTy.of {P : Program} {t e : TypeId} {size bytes : Nat} (ht : P.underlying t = some (.slice e)) (h : (P.info? e).map (fun i => (i.size, i.bytes, i.zero.map fun z => z.cells.size)) = some (size, bytes, some size)) (hs : Nat.blt 0 size = true) : RowTy P t e size bytes := by
  refine ⟨ht, ?_⟩
  cases hi : P.info? e with
  | none => rw [hi] at h; cases h
  | some i =>
    rw [hi] at h
    simp only [Option.map_some, Option.some.injEq, Prod.mk.injEq] at h
    cases hz : i.zero with
    | none => rw [hz] at h; simp at h
    | some z =>
      rw [hz] at h
      simp only [Option.map_some, Option.some.injEq] at h
      exact ⟨i, z, rfl, hz, h.1, h.2.1, h.2.2, blt_lt hs⟩
/-- one's own rows of different types lie apart -/
theorem own_ne {w : World} {b b' : Nat} {e e' : TypeId} {s s' : Nat} {v v' : Value} {n n' : Nat} {xs xs' : List Value} (h : w.ownsRow b e s v n xs) (h' : w.ownsRow b' e' s' v' n' xs') (he : e ≠ e') (g : Nat) (hg : v.ownBlock = some g) : v'.ownBlock ≠ some g := by
  intro hg'
  rcases h.2 with ⟨rfl, _⟩ | ⟨q, cap, cur, rfl, _, hh, _⟩
  · cases hg
  · injection hg with hg
    subst hg
    rcases h'.2 with ⟨rfl, _⟩ | ⟨q', cap', cur', rfl, _, hh', _⟩
    · cases hg'
    · injection hg' with hg'
      have hg' : q' = q := hg'
      subst hg'
      rw [hh] at hh'
      injection hh' with hh'
      injection hh' with _ h2 _
      exact he h2
theorem Own.grown {ρ : Nm} {rs : List Reg} {w w' : World} {b : Nat} {e : TypeId} {s : Nat} {v : Value} {n : Nat} {xs : List Value} (h : Own ρ rs w b e s v n xs) {row : Option Nat} (hg : w.grownBy w' row) (hne : ∀ g, v.ownBlock = some g → row ≠ some g) : Own ρ rs w' b e s v n xs :=
  ⟨h.own.kept hg (by
    cases hb : v.ownBlock with
    | none => exact .inl rfl
    | some g => exact .inr (fun e => hne g hb e.symm)), h.far⟩
section
variable {P : Program} {fn : Func} {Q : Exit → Act → World → Prop} {T : List Nat} {w0 w : World} {ρ : Nm} {c : Cfg}
/-- a row of one's own grows -/
theorem sim_appendO (t : TypeId) (v : Value) (x : LV) (h : appOf c = some (t, .v v, x)) (hR : Rel T w0 ρ c.rs w) {base : Nat} {e : TypeId} {size bytes : Nat} (hty : RowTy P t e size bytes)
    {n : Nat} {xs : List Value} (hown : Own ρ c.rs w base e size v n xs) (q m cp : Nat) (hx : x = .slc q 0 m cp) (news : List LV) (hq : ((c.rs[q]?).map fun r => r.cells.take news.length) = some news) (hl : news.length = m * size) (h1 : news.all oneL = true)
    (h63 : n + m ≤ maxLen) (hbytes : (n + m) * bytes ≤ 140737488355328) (hbase : base ≤ w.heap.size) (hw0 : ∀ g, v.ownBlock = some g → g ∈ T ∨ w0.heap.size ≤ g) (l : List Nat) (hro : roIdx c.rs 0 = l) (hidx : ∀ k ∈ l, ∀ g, v.ownBlock = some g → (ρ k).1 ≠ g)
    (next : ∀ v' w', Own ρ c.rs w' base e size v' (n + m) (xs ++ denL ρ news) → w.grownBy w' v.ownBlock → Rel T w0 ρ c.rs w' → At P Q (nextC c (.v v') c.rs) ρ w') : At P Q c ρ w := by
  obtain ⟨i, z, h2, h3, h4, h5, h6, h7⟩ := hty.ex
  subst hx
  obtain ⟨r, hr, hrc⟩ : ∃ r, c.rs[q]? = some r ∧ r.cells.take news.length = news := by
    cases hc : c.rs[q]? with
    | none => rw [hc] at hq; cases hq
    | some r => rw [hc] at hq; exact ⟨r, rfl, by simpa using hq⟩
  refine sim_appendT t (.v v) (.slc q 0 m cp) h hR hty.ht h2 h3 h4 h5 h6 h7 rfl hown.own rfl news hl (fun j u hu => ?_) h1 h63 hbytes hbase hw0 (fun g hg k r' hk hne he => ?_) (fun v' w' ho hgr hat hR' => ?_)
  · rw [at_add, Nat.zero_add]
    refine hR.cell q r hr j u ?_
    rw [← hrc, List.getElem?_take] at hu
    split at hu
    · exact hu
    · cases hu
  · cases hw : r'.wr with
    | true => exact hown.far g hg ⟨k, r', hk, hw, he⟩
    | false =>
      have := roIdx_mem c.rs 0 k r' hk hw hne
      rw [hro, Nat.zero_add] at this
      exact hidx k this g hg he
  · refine next v' w' ⟨ho, fun g hg hw => ?_⟩ hgr hR'
    rcases hat with e' | e'
    · exact hown.far g (e' ▸ hg) hw
    · rw [e'] at hg
      injection hg with hg
      have := hR.wr_lt hw
      omega
end
end Go.Proofs.Ytgbgedaedcofcaa
