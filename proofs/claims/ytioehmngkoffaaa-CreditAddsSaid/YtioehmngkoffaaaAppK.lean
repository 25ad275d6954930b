/-
  append to a row of one's own: what is read of it as it was stands behind it. Over any program.
-/
import Derived.Test.YtioehmngkoffaaaAppR
namespace Go.Proofs.Ytioehmngkoffaaa
open Go Go.RowKit
section
variable {P : Program} {w : World}
theorem take_pre {α : Type} {cur xs ys : List α} {a b : Nat} (h : cur.take b = xs ++ ys) (hx : xs.length = a) (hab : a ≤ b) : cur.take a = xs := by
  have := congrArg (List.take a) h
  rw [List.take_take, Nat.min_eq_left hab, ← hx, List.take_left] at this
  rw [← hx]; exact this
theorem run_append_keep (base : Nat) (t ty e : TypeId) (i : TypeInfo) (z : Value) (size bytes : Nat) (ht : P.underlying t = some (.slice e)) (hi : P.info? e = some i) (hz : i.zero = some z)
    (hsize : i.size = size) (hby : i.bytes = bytes) (hzs : z.cells.size = size) (hsz : 0 < size)
    (v : Value) (n : Nat) (xs : List Value) (hown : w.ownsRow base e size v n xs)
    (a : Addr) (m c : Nat) (news : List Value) (hl : news.length = m * size) (hnews : ∀ j u, news[j]? = some u → w.cell? (a.add j) = some u) (h1 : ∀ u ∈ news, u.oneCell' = true)
    (h63 : n + m ≤ maxLen) (hbytes : (n + m) * bytes ≤ 140737488355328) (hbase : base ≤ w.heap.size) :
    ∃ v' w', (Builtin.append_ #[t, t] ty #[v, .slice (some a) m c]).run P w = .ok v' w' ∧ w'.ownsRow base e size v' (n + m) (xs ++ news) ∧ w.grownBy w' v.ownBlock ∧
      (v'.ownBlock = v.ownBlock ∨ v'.ownBlock = some w.heap.size) ∧ w'.ownsRow base e size v n xs := by
  obtain ⟨v', w', hr, h2, h3, _, h5⟩ := run_append_own_at (P := P) (w := w) base t ty e i z size bytes ht hi hz hsize hby hzs hsz v n xs hown a m c news hl hnews h1 h63 hbytes hbase
  refine ⟨v', w', hr, h2, h3, h5, ?_⟩
  have hsmall : n + m ≤ 9223372036854775807 := by simp only [maxLen] at h63; omega
  subst hsize
  subst hby
  rcases hown.2 with ⟨rfl, rfl⟩ | ⟨g, cap, cur, rfl, hbg, hg, hnc, hcm, hcs, htake⟩
  · exact hown.kept h3 (.inl rfl)
  · by_cases hroom : n + m ≤ cap
    · have hfit : n * i.size + news.length ≤ cur.size := by rw [hl, hcs, ← Nat.add_mul]; exact Nat.mul_le_mul_right _ hroom
      have hr2 := run_append_room (P := P) w t ty e i ht hi g n cap cur hg a m c news hl hnews h1 hroom hfit
      have e2 := hr.symm.trans hr2
      injection e2 with ev ew
      subst ev
      rcases h2.2 with ⟨e3, _⟩ | ⟨g', cap', cur', e3, _, hg', _, hcm', hcs', htake'⟩
      · cases e3
      · injection e3 with e4 e5 e6
        injection e4 with e4
        injection e4 with e4
        subst e4 e6
        exact ⟨hown.1, .inr ⟨g, cap, cur', rfl, hbg, hg', hnc, hcm, hcs', take_pre htake' hown.1 (Nat.mul_le_mul_right _ (Nat.le_add_right n m))⟩⟩
    · have holds : ∀ j u, xs[j]? = some u → w.cell? ((⟨g, 0, none⟩ : Addr).add j) = some u := hown.cells (g := g) rfl
      have hr2 := run_append_grow (P := P) w t ty e i z ht hi hz ⟨g, 0, none⟩ n cap xs hown.1 holds a m c news hl hnews (by omega) (by omega) (growslice_fits (by omega) hbytes)
      have e2 := hr.symm.trans hr2
      injection e2 with ev ew
      subst ew
      exact hown.kept (w' := w.drew.alloc _) (row := none) ⟨rfl, rfl, rfl, by simp, fun _ hk _ => heap_alloc_old w.drew _ hk⟩ (.inr (by simp [Value.ownBlock]))
end
section
variable {P : Program} {fn : Func} {Q : Exit → Act → World → Prop} {T : List Nat} {w0 w : World} {ρ : Nm} {c : Cfg}
theorem sim_appendTK (t : TypeId) (s x : LV) (h : appOf c = some (t, s, x)) (hR : Rel T w0 ρ c.rs w) {base : Nat} {e : TypeId} {i : TypeInfo} {z : Value} {size bytes : Nat} (ht : P.underlying t = some (.slice e)) (hi : P.info? e = some i) (hz : i.zero = some z) (hsize : i.size = size) (hby : i.bytes = bytes) (hzs : z.cells.size = size) (hsz : 0 < size)
    {v : Value} {n : Nat} {xs : List Value} (hs : s.den ρ = v) (hown : w.ownsRow base e size v n xs) {ad : Addr} {m cp : Nat} (hx : x.den ρ = .slice (some ad) m cp) (news : List LV) (hl : news.length = m * size) (hnews : ∀ (j : Nat) (u : LV), news[j]? = some u → w.cell? (ad.add j) = some (u.den ρ)) (h1 : news.all oneL = true)
    (h63 : n + m ≤ maxLen) (hbytes : (n + m) * bytes ≤ 140737488355328) (hbase : base ≤ w.heap.size) (hw0 : ∀ g, v.ownBlock = some g → g ∈ T ∨ w0.heap.size ≤ g) (hreg : ∀ g, v.ownBlock = some g → ∀ (k : Nat) (r : Reg), c.rs[k]? = some r → r.cells ≠ [] → (ρ k).1 ≠ g)
    (next : ∀ v' w', w'.ownsRow base e size v' (n + m) (xs ++ denL ρ news) → w.grownBy w' v.ownBlock → (v'.ownBlock = v.ownBlock ∨ v'.ownBlock = some w.heap.size) → w'.ownsRow base e size v n xs → Rel T w0 ρ c.rs w' → At P Q (nextC c (.v v') c.rs) ρ w') : At P Q c ρ w := by
  obtain ⟨op, ho, ty, hrun⟩ := appOf_run (ρ := ρ) (w := w) h
  obtain ⟨v', w', hr, h2, h3, h5, h6⟩ := run_append_keep (P := P) (w := w) base t ty e i z size bytes ht hi hz hsize hby hzs hsz v n xs hown ad m cp (denL ρ news) (by rw [denL_length]; exact hl) (fun j u hu => by
      rw [denL_get] at hu
      cases hj : news[j]? with
      | none => rw [hj] at hu; cases hu
      | some u' =>
        rw [hj] at hu
        simp only [Option.map_some, Option.some.injEq] at hu
        subst hu
        exact hnews j u' hj) (fun u hu => by
      rw [denL_eq, List.mem_map] at hu
      obtain ⟨u', hu', rfl⟩ := hu
      exact oneL_den (List.all_eq_true.1 h1 u' hu') ρ) h63 hbytes hbase
  have hR' := hR.grownT h3 (fun g hg => ⟨hw0 g hg, hreg g hg⟩)
  refine sim_op op ho (.v v') c.rs ρ w' (hrun v' w' ?_) rfl (next v' w' h2 h3 h5 h6 hR')
  rw [hs, hx]
  exact hr
/-- a row of one's own grows by a row that is read; the old one stands -/
theorem sim_appendRK (t : TypeId) (v : Value) (A : Option Addr) (m cp : Nat) (h : appOf c = some (t, .v v, .v (.slice A m cp))) (hR : Rel T w0 ρ c.rs w) {base : Nat} {e : TypeId} {size bytes : Nat} (hty : RowTy P t e size bytes)
    {n : Nat} {xs news : List Value} (hown : w.ownsRow base e size v n xs) {B : Nat} (hr : Reads w B size A m news) (h1 : (news.map LV.v).all oneL = true)
    (h63 : n + m ≤ maxLen) (hbytes : (n + m) * bytes ≤ 140737488355328) (hbase : base ≤ w.heap.size) (hw0 : ∀ g, v.ownBlock = some g → g ∈ T ∨ w0.heap.size ≤ g) (hreg : ∀ g, v.ownBlock = some g → ∀ (k : Nat) (r : Reg), c.rs[k]? = some r → r.cells ≠ [] → (ρ k).1 ≠ g)
    (next : ∀ v' w', w'.ownsRow base e size v' (n + m) (xs ++ news) → w.grownBy w' v.ownBlock → (v'.ownBlock = v.ownBlock ∨ v'.ownBlock = some w.heap.size) → w'.ownsRow base e size v n xs → Rel T w0 ρ c.rs w' → At P Q (nextC c (.v v') c.rs) ρ w') : At P Q c ρ w := by
  have nil_news : m = 0 → news = [] := fun hm => by
    have := hr.1
    rw [hm, Nat.zero_mul] at this
    exact List.eq_nil_of_length_eq_zero this
  cases A with
  | none =>
    have hm : m = 0 := (Nat.eq_zero_or_pos m).elim id fun h0 => by
      obtain ⟨_, h2, _⟩ := hr.2 h0
      cases h2
    have hn := nil_news hm
    subst hm hn
    obtain ⟨op, ho, ty, hrun⟩ := appOf_run (ρ := ρ) (w := w) h
    exact sim_op op ho (.v v) c.rs ρ w (hrun v w (run_app_nilR hty v n xs hown cp)) rfl (next v w (by simpa using hown) (World.grownBy.refl w _) (.inl rfl) hown hR)
  | some ad =>
    have hcells : ∀ j u, news[j]? = some u → w.cell? (ad.add j) = some u := fun j u hu => by
      rcases Nat.eq_zero_or_pos m with h0 | h0
      · rw [nil_news h0] at hu
        simp at hu
      · obtain ⟨ad', e1, _, hc⟩ := hr.2 h0
        injection e1 with e1
        rw [e1]
        exact hc j u hu
    obtain ⟨i, z, h2, h3, h4, h5, h6, h7⟩ := hty.ex
    refine sim_appendTK t (.v v) (.v (.slice (some ad) m cp)) h hR hty.ht h2 h3 h4 h5 h6 h7 rfl hown rfl (news.map .v) (by rw [List.length_map]; exact hr.1) (fun j u hu => by
      rw [List.getElem?_map] at hu
      obtain ⟨u', hu', rfl⟩ := Option.map_eq_some_iff.1 hu
      exact hcells j u' hu') h1 h63 hbytes hbase hw0 hreg (fun v' w' g1 g2 g3 g5 g4 => ?_)
    rw [denL_v] at g1
    exact next v' w' g1 g2 g3 g5 g4
end
end Go.Proofs.Ytioehmngkoffaaa
