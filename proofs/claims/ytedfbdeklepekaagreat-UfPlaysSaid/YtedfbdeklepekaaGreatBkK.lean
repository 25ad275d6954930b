/-
  Kept lists: what stands of a row while another row grows in its block. Over any program.
-/
import Derived.Test.YtedfbdeklepekaaGreatBkB
namespace Go.Proofs.YtedfbdeklepekaaGreat
open Go Go.RowKit
theorem keep_row {w w' : World} {base base' : Nat} {e : TypeId} {sz n n0 : Nat} {r v : Value} {xs xs0 : List Value} (hr : w.ownsRow base e sz r n0 xs0) (hv : w.ownsRow base' e sz v n xs) (hv2 : w'.ownsRow base' e sz v n xs) (hg : w.grownBy w' v.ownBlock) (hsz : 0 < sz) (hn : ∀ g, r.ownBlock = some g → v.ownBlock = some g → n0 ≤ n) : w'.ownsRow base e sz r n0 xs0 := by
  rcases hr.2 with ⟨rfl, _⟩ | ⟨g, cap, cur, rfl, hb, hh, hnc, hcm, hcs, ht⟩
  · exact hr.kept hg (.inl rfl)
  · by_cases hq : v.ownBlock = some g
    · have hle := hn g rfl hq
      rcases hv.2 with ⟨rfl, _⟩ | ⟨g2, cap2, cur2, rfl, _, hh2, _, _, hcs2, ht2⟩
      · cases hq
      · injection hq with hq
        have hq : g2 = g := hq
        subst hq
        have e1 := hh.symm.trans hh2
        injection e1 with e1
        injection e1 with e1
        subst e1
        have ecap : cap = cap2 := Nat.eq_of_mul_eq_mul_right hsz (hcs.symm.trans hcs2)
        subst ecap
        rcases hv2.2 with ⟨e2, _⟩ | ⟨g3, cap3, cur3, e2, _, hh3, _, _, hcs3, ht3⟩
        · cases e2
        · injection e2 with e2 _ e4
          injection e2 with e2
          injection e2 with e2
          subst e2 e4
          refine ⟨hr.1, .inr ⟨g2, cap, cur3, rfl, hb, hh3, hnc, hcm, hcs3, ?_⟩⟩
          have h5 : (cur3.toList.take (n * sz)).take (n0 * sz) = (cur.toList.take (n * sz)).take (n0 * sz) := by rw [ht3, ht2]
          rw [List.take_take, List.take_take, Nat.min_eq_left (Nat.mul_le_mul_right _ hle)] at h5
          rw [h5]
          exact ht
    · exact hr.kept hg (.inr fun h => hq h.symm)
section
variable {B : Nat} {et : TypeId} {sz : Nat} {rows : List BRow} {ρ : Nm} {rs : List Reg} {w w' : World}
/-- rows stand while one that begins as one of them does grows -/
theorem BkR.keep (h : BkR B et sz rows ρ rs w) {base n : Nat} {v : Value} {xs : List Value} (hv : w.ownsRow base et sz v n xs) (hv2 : w'.ownsRow base et sz v n xs) (hg : w.grownBy w' v.ownBlock) (hsz : 0 < sz) (hn : ∀ r ∈ rows, ∀ g, r.v.ownBlock = some g → v.ownBlock = some g → r.n ≤ n) : BkR B et sz rows ρ rs w' :=
  h.map fun r hr ho => ⟨keep_row ho.own hv hv2 hg hsz (hn r hr), ho.far⟩
end
/-- the marks of list i from the a-th on -/
def markI (i a n : Nat) : List Int := (List.range n).map fun (j : Nat) => -1000000 * (i : Int) - ((a + j : Nat) : Int) - 7
theorem markI_length (i a n : Nat) : (markI i a n).length = n := by simp [markI]
theorem markI_succ (i a n : Nat) : markI i a (n + 1) = markI i a n ++ [-1000000 * (i : Int) - ((a + n : Nat) : Int) - 7] := by simp [markI, List.range_succ]
theorem markI_add (i a m n : Nat) : markI i a m ++ markI i (a + m) n = markI i a (m + n) := by
  induction n with
  | zero => simp [markI]
  | succ n ih => rw [markI_succ, ← List.append_assoc, ih, ← Nat.add_assoc m n 1, markI_succ, Nat.add_assoc]
theorem markI_get {i a n j : Nat} (h : j < n) : (markI i a n)[j]? = some (-1000000 * (i : Int) - ((a + j : Nat) : Int) - 7) := by
  unfold markI
  rw [List.getElem?_map, List.getElem?_range h]
  rfl
theorem markI_take {i a n k : Nat} (h : k ≤ n) : (markI i a n).take k = markI i a k := by
  unfold markI
  rw [← List.map_take, List.take_range, Nat.min_eq_left h]
end Go.Proofs.YtedfbdeklepekaaGreat
