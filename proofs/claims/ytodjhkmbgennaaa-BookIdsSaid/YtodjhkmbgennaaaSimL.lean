/-
  A row that lay there before the call grows in it. Over any program.
-/
import Derived.Test.YtodjhkmbgennaaaSimK
namespace Go.Proofs.Ytodjhkmbgennaaa
open Go Go.RowKit

/-! ### A row that lay there before grows -/
section
variable {P : Program} {fn : Func} {Q : Exit → Act → World → Prop} {T : List Nat} {w0 w : World} {ρ : Nm} {c : Cfg}
theorem Rel.grownT {rs : List Reg} (hR : Rel T w0 ρ rs w) {w' : World} {row : Option Nat} (hg : w.grownBy w' row) (hreg : ∀ g, row = some g → (g ∈ T ∨ w0.heap.size ≤ g) ∧ ∀ (n : Nat) (r : Reg), rs[n]? = some r → r.cells ≠ [] → (ρ n).1 ≠ g) : Rel T w0 ρ rs w' :=
  hR.kept (S := fun g => row = some g) ⟨hg.os, hg.tape, hg.output, hg.size, fun k hk hn => hg.block k hk (fun e => hn e.symm)⟩ (fun n r hn hne he => (hreg _ he).2 n r hn hne rfl) (fun g hg => (hreg g hg).1)
theorem sim_appendT (t : TypeId) (s x : LV) (h : appOf c = some (t, s, x)) (hR : Rel T w0 ρ c.rs w) {base : Nat} {e : TypeId} {i : TypeInfo} {z : Value} {size bytes : Nat} (ht : P.underlying t = some (.slice e)) (hi : P.info? e = some i) (hz : i.zero = some z) (hsize : i.size = size) (hby : i.bytes = bytes) (hzs : z.cells.size = size) (hsz : 0 < size)
    {v : Value} {n : Nat} {xs : List Value} (hs : s.den ρ = v) (hown : w.ownsRow base e size v n xs) {ad : Addr} {m cp : Nat} (hx : x.den ρ = .slice (some ad) m cp) (news : List LV) (hl : news.length = m * size) (hnews : ∀ (j : Nat) (u : LV), news[j]? = some u → w.cell? (ad.add j) = some (u.den ρ)) (h1 : news.all oneL = true)
    (h63 : n + m ≤ maxLen) (hbytes : (n + m) * bytes ≤ 140737488355328) (hbase : base ≤ w.heap.size) (hw0 : ∀ g, v.ownBlock = some g → g ∈ T ∨ w0.heap.size ≤ g) (hreg : ∀ g, v.ownBlock = some g → ∀ (k : Nat) (r : Reg), c.rs[k]? = some r → r.cells ≠ [] → (ρ k).1 ≠ g)
    (next : ∀ v' w', w'.ownsRow base e size v' (n + m) (xs ++ denL ρ news) → w.grownBy w' v.ownBlock → (v'.ownBlock = v.ownBlock ∨ v'.ownBlock = some w.heap.size) → Rel T w0 ρ c.rs w' → At P Q (nextC c (.v v') c.rs) ρ w') : At P Q c ρ w := by
  obtain ⟨op, ho, ty, hrun⟩ := appOf_run (ρ := ρ) (w := w) h
  obtain ⟨v', w', hr, h2, h3, _, h5⟩ := run_append_own_at (P := P) (w := w) base t ty e i z size bytes ht hi hz hsize hby hzs hsz v n xs hown ad m cp (denL ρ news) (by rw [denL_length]; exact hl) (fun j u hu => by
      rw [denL_get] at hu
      cases hj : news[j]? with
      | none => rw [hj] at hu; cases hu
      | some u' =>
        rw [hj] at hu
        simp only [Option.map_some, Option.some.injEq] at hu
        subst hu
        exact hnews j u' hj) (fun u hu => by
      rw [denL_eq, List.mem_map] at hu
      obtain ⟨u', hu', rfl⟩ := hu
      exact oneL_den (List.all_eq_true.1 h1 u' hu') ρ) h63 hbytes hbase
  have hR' := hR.grownT h3 (fun g hg => ⟨hw0 g hg, hreg g hg⟩)
  refine sim_op op ho (.v v') c.rs ρ w' (hrun v' w' ?_) rfl (next v' w' h2 h3 h5 hR')
  rw [hs, hx]
  exact hr
end
end Go.Proofs.Ytodjhkmbgennaaa
