/-
  money's Acc.Add at an Acc that lies anywhere; what is known of the memory behind it.
-/
import Derived.Test.YtioehmngkoffaaaMoneyAdd
import Derived.Test.YtioehmngkoffaaaSimO
namespace Go.Proofs.Ytioehmngkoffaaa
open Go Go.RowKit

/-- Over, behind what may set it -/
def orAt (p : Addr) (w : World) (o : Bool) (w' : World) : Prop := (o = false ∧ w = w') ∨ (o = true ∧ w.setCell p (.bool true) = w')
theorem over_at (b i : Nat) (o below : Bool) (w : World) (h0 : w.cell? ⟨b, i, none⟩ = some (.bool o)) (f0 : w.frozen? ⟨b, i, none⟩ = false) :
    Calls Try.prog 41 #[.pointer (some ⟨b, i, none⟩), .bool below] w fun e w' => e = .returned (.int .i64 (if below then -1152921504606846976 else 1152921504606846976)) ∧ w.setCell ⟨b, i, none⟩ (.bool true) = w' := by
  cases below
  all_goals
    go_enter Try.func41, Try.ntmps41
    go_wp2
    go_ret
    exact ⟨rfl, rfl⟩
theorem accAdd_any (b i : Nat) (o : Bool) (A : Option Addr) (n c : Nat) (xs : List Int) (w : World) (h0 : w.cell? ⟨b, i, none⟩ = some (.bool o)) (f0 : w.frozen? ⟨b, i, none⟩ = false) (B : Nat) (h : Reads w B 1 A n (ints xs)) (hb : ∀ x ∈ xs, IsI64 x) (hn : n ≤ 140737488355328) :
    Calls Try.prog 25 #[.pointer (some ⟨b, i, none⟩), .slice A n c] w fun e w' => e = .returned (.int .i64 (clampV (sumI xs))) ∧ orAt ⟨b, i, none⟩ w (clampO (sumI xs)) w' :=
  add_walk _ A n c xs w B h hb hn (orAt ⟨b, i, none⟩ w (clampO (sumI xs))) (fun h => .inl ⟨h, rfl⟩) (fun bl hc => (over_at b i o bl w h0 f0).mono fun _ _ h => ⟨h.1, .inr ⟨hc, h.2⟩⟩)
theorem Rel.orAt {T : List Nat} {w0 w w' : World} {ρ : Nm} {rs : List Reg} (hR : Rel T w0 ρ rs w) {q : Nat} {x fl : Bool} (hn : rs[q]? = some ⟨[LB x], true⟩) (h : Go.Proofs.Ytioehmngkoffaaa.orAt (ρ.at_ q 0) w fl w') : Rel T w0 ρ (rs.set q ⟨[LB (x || fl)], true⟩) w' := by
  rcases h with ⟨rfl, rfl⟩ | ⟨rfl, rfl⟩
  · rw [Bool.or_false]
    have e : rs.set q ⟨[LB x], true⟩ = rs := by
      apply List.ext_getElem?
      intro i
      rw [List.getElem?_set]
      split
      · rename_i e
        subst e
        split
        · exact hn.symm
        · rename_i hl
          rw [List.getElem?_eq_none (by omega)]
      · rfl
    rw [e]
    exact hR
  · have := hR.set1 hn rfl (i := 0) (by simp) (LB true)
    rw [Bool.or_true]
    exact this
theorem Rel.unfrozen {T : List Nat} {w0 w : World} {ρ : Nm} {rs : List Reg} (hR : Rel T w0 ρ rs w) {q : Nat} {r : Reg} (hn : rs[q]? = some r) (hw : r.wr = true) {i : Nat} (hi : i < r.cells.length) : w.frozen? (ρ.at_ q i) = false := (hR.wr q r hn hw).2 i hi
theorem Rel.readsP {T : List Nat} {w0 w : World} {ρ : Nm} {rs : List Reg} (hR : Rel T w0 ρ rs w) {n size m : Nat} {vs : List Value} {b : Bool} (hn : rs[n]? = some ⟨vs.map .v, b⟩) (hl : vs.length = m * size) : Reads w w.heap.size size (some ⟨(ρ n).1, (ρ n).2 + 0, none⟩) m vs := by
  refine ⟨hl, fun _ => ⟨_, rfl, hR.lt n _ hn, fun j u hu => ?_⟩⟩
  have := hR.cell n _ hn j (.v u) (by simp only [List.getElem?_map, hu, Option.map_some])
  have e : (⟨(ρ n).1, (ρ n).2 + 0, none⟩ : Addr).add j = ρ.at_ n j := by
    show (ρ.at_ n 0).add j = _
    rw [at_add, Nat.zero_add]
  rw [e]
  exact this
end Go.Proofs.Ytioehmngkoffaaa
