/-
  append of a row that was handed in, to a row of one's own. Over any program.
-/
import Derived.Test.YtioehmngkoffaaaMapAB
namespace Go.Proofs.Ytioehmngkoffaaa
open Go Go.RowKit
section
variable {P : Program} {fn : Func} {Q : Exit → Act → World → Prop} {T : List Nat} {w0 w : World} {ρ : Nm} {c : Cfg}
theorem run_app_nilR {base : Nat} {t ty e : TypeId} {size bytes : Nat} (hty : RowTy P t e size bytes)
    (v : Value) (n : Nat) (xs : List Value) (hown : w.ownsRow base e size v n xs) (c : Nat) : (Builtin.append_ #[t, t] ty #[v, .slice none 0 c]).run P w = .ok v w := by
  obtain ⟨i, z, hi, _⟩ := hty.ex
  have ht := hty.ht
  rcases hown.2 with ⟨rfl, _⟩ | ⟨g, cap, cur, rfl, _, _, hnc, _⟩
  · simp [Builtin.append_, run_underlying ht, sizeOf, typeInfo, hi, Builtin.lenOf, Builtin.firstCells]
  · simp [Builtin.append_, run_underlying ht, sizeOf, typeInfo, hi, Builtin.lenOf, Builtin.firstCells, hnc, storeCells]
/-- a row of one's own grows by a row that was handed in -/
theorem sim_appendR (t : TypeId) (v : Value) (A : Option Addr) (m cp : Nat) (h : appOf c = some (t, .v v, .v (.slice A m cp))) (hR : Rel T w0 ρ c.rs w) {base : Nat} {e : TypeId} {size bytes : Nat} (hty : RowTy P t e size bytes)
    {n : Nat} {xs news : List Value} (hown : w.ownsRow base e size v n xs) {B : Nat} (hr : Reads w B size A m news) (h1 : (news.map LV.v).all oneL = true)
    (h63 : n + m ≤ maxLen) (hbytes : (n + m) * bytes ≤ 140737488355328) (hbase : base ≤ w.heap.size) (hw0 : w0.heap.size ≤ base) (hreg : ∀ g, v.ownBlock = some g → ∀ (k : Nat) (r : Reg), c.rs[k]? = some r → r.cells ≠ [] → (ρ k).1 ≠ g)
    (next : ∀ v' w', w'.ownsRow base e size v' (n + m) (xs ++ news) → w.grownBy w' v.ownBlock → (v'.ownBlock = v.ownBlock ∨ v'.ownBlock = some w.heap.size) → Rel T w0 ρ c.rs w' → At P Q (nextC c (.v v') c.rs) ρ w') : At P Q c ρ w := by
  have nil_news : m = 0 → news = [] := fun hm => by
    have := hr.1
    rw [hm, Nat.zero_mul] at this
    exact List.eq_nil_of_length_eq_zero this
  cases A with
  | none =>
    have hm : m = 0 := (Nat.eq_zero_or_pos m).elim id fun h0 => by
      obtain ⟨_, h2, _⟩ := hr.2 h0
      cases h2
    have hn := nil_news hm
    subst hm hn
    obtain ⟨op, ho, ty, hrun⟩ := appOf_run (ρ := ρ) (w := w) h
    exact sim_op op ho (.v v) c.rs ρ w (hrun v w (run_app_nilR hty v n xs hown cp)) rfl (next v w (by simpa using hown) (World.grownBy.refl w _) (.inl rfl) hR)
  | some ad =>
    have hcells : ∀ j u, news[j]? = some u → w.cell? (ad.add j) = some u := fun j u hu => by
      rcases Nat.eq_zero_or_pos m with h0 | h0
      · rw [nil_news h0] at hu
        simp at hu
      · obtain ⟨ad', e1, _, hc⟩ := hr.2 h0
        injection e1 with e1
        rw [e1]
        exact hc j u hu
    obtain ⟨i, z, h2, h3, h4, h5, h6, h7⟩ := hty.ex
    refine sim_append t (.v v) (.v (.slice (some ad) m cp)) h hR hty.ht h2 h3 h4 h5 h6 h7 rfl hown rfl (news.map .v) (by rw [List.length_map]; exact hr.1) (fun j u hu => by
      rw [List.getElem?_map] at hu
      obtain ⟨u', hu', rfl⟩ := Option.map_eq_some_iff.1 hu
      exact hcells j u' hu') h1 h63 hbytes hbase hw0 hreg (fun v' w' g1 g2 g3 g4 => ?_)
    rw [denL_v] at g1
    exact next v' w' g1 g2 g3 g4
theorem sim_appendRT (t : TypeId) (v : Value) (A : Option Addr) (m cp : Nat) (h : appOf c = some (t, .v v, .v (.slice A m cp))) (hR : Rel T w0 ρ c.rs w) {base : Nat} {e : TypeId} {size bytes : Nat} (hty : RowTy P t e size bytes)
    {n : Nat} {xs news : List Value} (hown : w.ownsRow base e size v n xs) {B : Nat} (hr : Reads w B size A m news) (h1 : (news.map LV.v).all oneL = true)
    (h63 : n + m ≤ maxLen) (hbytes : (n + m) * bytes ≤ 140737488355328) (hbase : base ≤ w.heap.size) (hw0 : ∀ g, v.ownBlock = some g → g ∈ T ∨ w0.heap.size ≤ g) (hreg : ∀ g, v.ownBlock = some g → ∀ (k : Nat) (r : Reg), c.rs[k]? = some r → r.cells ≠ [] → (ρ k).1 ≠ g)
    (next : ∀ v' w', w'.ownsRow base e size v' (n + m) (xs ++ news) → w.grownBy w' v.ownBlock → (v'.ownBlock = v.ownBlock ∨ v'.ownBlock = some w.heap.size) → Rel T w0 ρ c.rs w' → At P Q (nextC c (.v v') c.rs) ρ w') : At P Q c ρ w := by
  have nil_news : m = 0 → news = [] := fun hm => by
    have := hr.1
    rw [hm, Nat.zero_mul] at this
    exact List.eq_nil_of_length_eq_zero this
  cases A with
  | none =>
    have hm : m = 0 := (Nat.eq_zero_or_pos m).elim id fun h0 => by
      obtain ⟨_, h2, _⟩ := hr.2 h0
      cases h2
    have hn := nil_news hm
    subst hm hn
    obtain ⟨op, ho, ty, hrun⟩ := appOf_run (ρ := ρ) (w := w) h
    exact sim_op op ho (.v v) c.rs ρ w (hrun v w (run_app_nilR hty v n xs hown cp)) rfl (next v w (by simpa using hown) (World.grownBy.refl w _) (.inl rfl) hR)
  | some ad =>
    have hcells : ∀ j u, news[j]? = some u → w.cell? (ad.add j) = some u := fun j u hu => by
      rcases Nat.eq_zero_or_pos m with h0 | h0
      · rw [nil_news h0] at hu
        simp at hu
      · obtain ⟨ad', e1, _, hc⟩ := hr.2 h0
        injection e1 with e1
        rw [e1]
        exact hc j u hu
    obtain ⟨i, z, h2, h3, h4, h5, h6, h7⟩ := hty.ex
    refine sim_appendT t (.v v) (.v (.slice (some ad) m cp)) h hR hty.ht h2 h3 h4 h5 h6 h7 rfl hown rfl (news.map .v) (by rw [List.length_map]; exact hr.1) (fun j u hu => by
      rw [List.getElem?_map] at hu
      obtain ⟨u', hu', rfl⟩ := Option.map_eq_some_iff.1 hu
      exact hcells j u' hu') h1 h63 hbytes hbase hw0 hreg (fun v' w' g1 g2 g3 g4 => ?_)
    rw [denL_v] at g1
    exact next v' w' g1 g2 g3 g4
end
theorem Own.ro {T : List Nat} {w0 w : World} {ρ : Nm} {rs : List Reg} (_ : Rel T w0 ρ rs w) {base n : Nat} {e : TypeId} {size : Nat} {v : Value} {xs : List Value} (h : w.ownsRow base e size v n xs) (hro : allRo rs = true) : Own ρ rs w base e size v n xs := ⟨h, fun _ _ hw => wrS_allRo hro hw⟩
end Go.Proofs.Ytioehmngkoffaaa
