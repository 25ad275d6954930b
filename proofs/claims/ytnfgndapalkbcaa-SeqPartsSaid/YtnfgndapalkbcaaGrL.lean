/-
  A graph in a law; complinelaw18.alive.
-/
import Derived.Test.YtnfgndapalkbcaaGrK
namespace Go.Proofs.Ytnfgndapalkbcaa
open Go Go.RowKit
abbrev gR (q : GrP) : Reg := ⟨[.v (.pointer (some ⟨q.pb, 0, none⟩))], false⟩
section
variable {P : Program} {Q : Exit → Act → World → Prop} {T : List Nat} {w0 w w' : World} {ρ : Nm} {c : Cfg}
/-- a new graph comes into view behind the call that made it -/
theorem Back.gr {q : GrP} {u : List Nat} {ls : List Lk} (N : Nat) (hN : c.rs.length = N) (h : GrV q u ls w') (hge : ∀ x, q.has x → w.heap.size ≤ x) (hR : Rel T w0 ρ c.rs w) (hb : Below w.heap.size w w') (hu : (undR N c.rs && undL N c.tmps) = true)
    (next : ∀ ρ', ρ' N = (q.b, 0) → Moved ρ c.rs w' ρ' (c.rs ++ [gR q]) w' → Rel T w0 ρ' (c.rs ++ [gR q]) w' → Sta q.has (GrV q u ls) ρ' (c.rs ++ [gR q]) w' → At P Q (nextC c (.tup [.ptr N 0, LI 0]) (c.rs ++ [gR q])) ρ' w') : Back P Q c ρ (.returned (.tuple #[.pointer (some ⟨q.b, 0, none⟩), .int .i64 0])) w' := by
  simp only [Bool.and_eq_true] at hu
  subst hN
  have hR1 := hR.below hb
  obtain ⟨ρ', ha, hn, hR'⟩ := hR1.open_ hu.1 q.b 0 [.v (.pointer (some ⟨q.pb, 0, none⟩))] rfl false h.blk.lt (fun j v hv => by
    match j, hv with
    | 0, hv => simp only [List.getElem?_cons_zero, Option.some.injEq] at hv; subst hv; rw [Nat.add_zero, h.blk.cell 0]; rfl
    | j + 1, hv => simp at hv) (fun h => by cases h) (fun n r hn hw he => by
    rcases hw with hw | hw
    · cases hw
    · have h1 := hR.lt n r hn
      have h2 := hge q.b (.inl rfl)
      omega)
  have hm := Moved.ext_ro (w := w') (cells := [.v (.pointer (some ⟨q.pb, 0, none⟩))]) ha rfl
  have hs : Sta q.has (GrV q u ls) ρ c.rs w' := Sta.new hR h hge h.lt GrV.same
  exact ⟨.tup [.ptr c.rs.length 0, LI 0], _, ρ', by simp only [LV.den, denL, Nm.at_, hn], act_ext ha hu.2, next ρ' hn hm hR' (hs.moved hm)⟩
theorem Sta.afterG {q q' : GrP} {u u' : List Nat} {ls ls' : List Lk} {rs : List Reg} (h : Sta q.has (GrV q u ls) ρ rs w) (hR : Rel T w0 ρ rs w) (h' : GrV q' u' ls' w') (hh : ∀ x, q'.has x → q.has x ∨ w.heap.size ≤ x) : Sta q'.has (GrV q' u' ls') ρ rs w' :=
  ⟨h', fun x hx hw => (hh x hx).elim (fun h1 => h.far x h1 hw) (fun h1 => by have := hR.wr_lt hw; omega), h'.lt, GrV.same⟩
/-- what is known behind a call that has turned a graph -/
theorem Rel.afterG {q q' : GrP} {u u' : List Nat} {ls ls' : List Lk} {rs : List Reg} (hR : Rel T w0 ρ rs w) (hs : Sta q.has (GrV q u ls) ρ rs w) (hk : Kept q.has w w') (h' : GrV q' u' ls' w') (hb : q'.b = q.b) (hpb : q'.pb = q.pb) (hT : ∀ x, q.has x → x ∈ T ∨ w0.heap.size ≤ x) (N : Nat) (reg : rs[N]? = some (gR q)) (eN : ρ N = (q.b, 0)) (il : List Nat) (hl : roIdx rs 0 = il) (hidx : ∀ k ∈ il, k ≠ N → ¬ q.has (ρ k).1) : Rel T w0 ρ rs w' := by
  have hc : ∀ n r, rs[n]? = some r → r.cells ≠ [] → n = N ∨ ¬ q.has (ρ n).1 := fun n r hn hne => by
    cases hw : r.wr with
    | true => exact .inr (fun hx => hs.far _ hx ⟨n, r, hn, hw, rfl⟩)
    | false =>
      have hm := roIdx_mem rs 0 n r hn hw hne
      rw [hl, Nat.zero_add] at hm
      by_cases h1 : n = N
      · exact .inl h1
      · exact .inr (hidx n hm h1)
  refine ⟨(hR.keeps.kept.trans hk hT).keeps, fun n r hn => Nat.lt_of_lt_of_le (hR.lt n r hn) hk.size, fun n r hn i v hv => ?_, fun n r hn hw => ⟨(hR.wr n r hn hw).1, fun i hi => ?_⟩, hR.apart⟩
  · rcases hc n r hn (by rintro e; rw [e] at hv; simp at hv) with rfl | hno
    · rw [reg] at hn
      simp only [Option.some.injEq] at hn
      subst hn
      match i, hv with
      | 0, hv =>
        simp only [List.getElem?_cons_zero, Option.some.injEq] at hv
        subst hv
        have hc := h'.blk.cell 0
        rw [hb, hpb] at hc
        unfold Nm.at_
        rw [eN]
        exact hc
      | i + 1, hv => simp at hv
    · rw [← hR.cell n r hn i v hv]
      exact World.cell?_of_block (hk.block _ (hR.lt n r hn) hno)
  · have hno : ¬ q.has (ρ n).1 := fun hx => hs.far _ hx ⟨n, r, hn, hw, rfl⟩
    rw [← (hR.wr n r hn hw).2 i hi]
    exact frozen_of_block (hk.block _ (hR.lt n r hn) hno)
end
theorem Sta.farA {S : Nat → Prop} {V : World → Prop} {ρ : Nm} {rs : List Reg} {w : World} (h : Sta S V ρ rs w) {n : Nat} {r : Reg} (hn : rs[n]? = some r) (hw : r.wr = true) : ∀ (o : Nat) (a : Addr), some (⟨(ρ n).1, o, none⟩ : Addr) = some a → ¬ S a.block := by
  intro o a e hx
  injection e with e
  subst e
  exact h.far _ hx ⟨n, r, hn, hw, rfl⟩
def AddQ (w : World) (q : GrP) (t : Int) (u' : List Nat) (ls' : List Lk) (e : Ending) (w' : World) : Prop :=
  e = .returned (.int .i64 t) ∧ ∃ (pg : Nat) (A : Option Addr) (c : Nat) (L : Option Addr) (cl : Nat), GrV ⟨q.b, q.pb, pg, A, c, L, cl⟩ u' ls' w' ∧ Kept q.has w w' ∧ ∀ x, (GrP.mk q.b q.pb pg A c L cl).has x → q.has x ∨ w.heap.size ≤ x
theorem add_at (q : GrP) (u : List Nat) (ls : List Lk) (A : Option Addr) (n cp B : Nat) (l : List Lk) (t : Int) (u' : List Nat) (ls' : List Lk) (w : World) (h : GrV q u ls w) (hi : GInv u ls) (hl : Reads w B 3 A n (lkV l)) (hB : B ≤ w.heap.size) (hn : n ≤ 10000) (hA : ∀ a, A = some a → a.block < B → ¬ q.has a.block) (ht : tryM u ls l = t) (hu' : addU u ls l = u') (hl' : addL u ls l = ls') :
    Calls Try.prog 11 #[.pointer (some ⟨q.b, 0, none⟩), .slice A n cp] w (AddQ w q t u' ls') := by
  refine (add_any q u ls A n cp B l w h hi hl hB hn hA).mono ?_
  rintro e w' ⟨rfl, ⟨b, pb, pg, A', c', L', cl'⟩, hg, h1, h2, hk, hh⟩
  dsimp only at h1 h2
  subst h1 h2
  rw [hu', hl'] at hg
  exact ⟨by rw [ht], pg, A', c', L', cl', hg, hk, hh⟩
theorem hT_new {T : List Nat} {w0 w : World} {q q' : GrP} {ρ : Nm} {rs : List Reg} (hR : Rel T w0 ρ rs w) (hT : ∀ x, q.has x → x ∈ T ∨ w0.heap.size ≤ x) (hh : ∀ x, q'.has x → q.has x ∨ w.heap.size ≤ x) : ∀ x, q'.has x → x ∈ T ∨ w0.heap.size ≤ x := fun x hx => (hh x hx).elim (hT x) (fun h => .inr (Nat.le_trans hR.keeps.size h))
theorem al_f3 : Uf.fresh 3 = [1, 2, 3] := by decide
theorem al_i0 : GInv [1, 2, 3] [] := by rw [← al_f3]; exact GInv.fresh (by omega)
theorem alNew (w : World) : Calls Try.prog 10 #[.int .i64 3] w fun e w' => ∃ q : GrP, e = .returned (.tuple #[.pointer (some ⟨q.b, 0, none⟩), .int .i64 0]) ∧ GrV q [1, 2, 3] [] w' ∧ (∀ x, q.has x → w.heap.size ≤ x) ∧ Below w.heap.size w w' := newG_any 3 (by omega) w
end Go.Proofs.Ytnfgndapalkbcaa
