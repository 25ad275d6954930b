/-
  complinebook's LentInts and StaysInts: a list with room behind it, in which a mark stands.
-/
import Derived.Test.YtedfbdeklepekaaGreatAppAny
import Derived.Test.YtedfbdeklepekaaGreatSameI
namespace Go.Proofs.YtedfbdeklepekaaGreat
open Go.RowKit

theorem int_info : (Tryz.prog.info? 3).map (fun i => (i.zero, i.size, i.bytes)) = some (some (.int .i64 0), 1, 8) := by kernel_rfl
theorem ints_one (l : List Int) : ∀ u ∈ ints l, u.oneCell' = true := by
  intro u hu
  unfold ints at hu
  rw [List.mem_map] at hu
  obtain ⟨c, _, rfl⟩ := hu
  rfl
theorem own_room {w : World} {base : Nat} {e : TypeId} {size k cap : Nat} {g : Nat} {xs : List Value} (h : w.ownsRow base e size (.slice (some ⟨g, 0, none⟩) k cap) k xs) : k ≤ cap ∧ cap ≤ maxLen := by
  rcases h.2 with ⟨h1, _⟩ | ⟨g', cp, cur, h1, _, _, h2, h3, _⟩
  · cases h1
  · injection h1 with _ _ h4
    subst h4
    exact ⟨h2, h3⟩
/-- a copy of xs in block g, with a mark behind it -/
structure Lent (w : World) (B g : Nat) (n cap : Nat) (xs : List Int) : Prop where
  own : w.ownsRow B 3 1 (.slice (some ⟨g, 0, none⟩) (n + 1) cap) (n + 1) (ints xs ++ [.int .i64 (-77)])
  len : xs.length = n
  room : n + 1 ≤ cap ∧ cap ≤ maxLen
theorem Lent.rd {w : World} {B g n cap : Nat} {xs : List Int} (h : Lent w B g n cap xs) : Reads w w.heap.size 1 (some ⟨g, 0, none⟩) n (ints xs) := by
  have hr := Reads.of_own h.own
  obtain ⟨ad, e, hl, hc⟩ := hr.2 (by omega)
  refine ⟨by simp [ints, h.len], fun _ => ⟨ad, e, hl, fun j u hj => hc j u ?_⟩⟩
  have hjl : j < (ints xs).length := by
    rcases Nat.lt_or_ge j (ints xs).length with h' | h'
    · exact h'
    · rw [List.getElem?_eq_none h'] at hj; cases hj
  rw [List.getElem?_append_left hjl]
  exact hj
theorem Lent.mark {w : World} {B g n cap : Nat} {xs : List Int} (h : Lent w B g n cap xs) : w.cell? ⟨g, n, none⟩ = some (.int .i64 (-77)) := by
  have hc := h.own.cells (g := g) rfl n (.int .i64 (-77)) (by
    have hl : (ints xs).length = n := by rw [ints_length, h.len]
    rw [← hl, List.getElem?_append_right (Nat.le_refl _)]
    simp)
  have e : (⟨g, 0, none⟩ : Addr).add n = ⟨g, n, none⟩ := by unfold Addr.add; by_cases hn : n = 0 <;> simp [hn]
  rw [e] at hc
  exact hc
theorem Lent.lt {w : World} {B g n cap : Nat} {xs : List Int} (h : Lent w B g n cap xs) : B ≤ g ∧ g < w.heap.size := h.own.lt g (by simp [Value.ownBlock])

def LentN (w : World) (n : Nat) (xs : List Int) (e : Ending) (w' : World) : Prop := ∃ g cap, e = .returned (.slice (some ⟨g, 0, none⟩) n cap) ∧ Lent w' w.heap.size g n cap xs ∧ Below w.heap.size w w'

set_option maxHeartbeats 2000000 in
theorem lent_any (A : Option Addr) (n c : Nat) (xs : List Int) (w : World) (h : Reads w w.heap.size 1 A n (ints xs)) (hn : n ≤ 100000) :
    Calls Tryz.prog 9 #[.slice A n c] w (LentN w n xs) := by
  obtain ⟨i0, hi0, hz0, hz1, hz2⟩ := info_parts int_info
  have H := Lib.hid h
  have HL := Lib.hid h.int_len
  clear h
  go_enter Tryz.func9, Tryz.ntmps9
  go_wp2_with (first
    | (at_builtin; refine wpList_app_any rfl (.const (.slice none 0 0)) (.tmp 3) 31 rfl w.heap.size 3 i0 (.int .i64 0) 1 8 Tryz.underlying31 hi0 hz0 hz1 hz2 rfl (by omega) (.slice none 0 0) 0 [] (by rfl) (World.ownsRow_nil _ _ _ _) w.heap.size A n c (ints xs) (by rfl) H.out (ints_one xs) (by unfold maxLen; omega) (by omega) (Nat.le_refl _) ?_; intro v1 w1 hown1 hg1 hat1; rw [Nat.zero_add, List.nil_append] at hown1; have HO1 := Lib.hid hown1; have HB1 := Lib.hid ((Below.refl w.heap.size w).grown hg1 (Nat.le_refl _) (by simp [Value.ownBlock])); clear hown1 hg1 hat1)
    | (at_builtin; refine wpList_append_lies _ rfl (.tmp 4) (.tmp 5) 31 rfl w.heap.size 3 i0 (.int .i64 0) 1 8 Tryz.underlying31 hi0 hz0 hz1 hz2 rfl (by omega) v1 n (ints xs) (by rfl) (by exact HO1.out.alloc _) ⟨w1.heap.size, 0, none⟩ 1 1 [.int .i64 (-77)] (by rfl) rfl (by exact cell_one_new _ _ _) (by simp [Value.oneCell']) (by omega) (by unfold maxLen; omega) (by omega) (by have := HB1.out.size; simp; omega) (w1.heap.size + 1) (by simp) ?_; intro g2 c2 w2 hown2 hg2 hat2 hlt2; have hrm0 := own_room (g := g2) (cap := c2) (k := n + 1) hown2; have HRM := Lib.hid hrm0; have hrm := hrm0.1; clear hrm0; have HO2 := Lib.hid hown2; have HG2 := Lib.hid hg2; clear hown2 hg2 hat2))
  go_ret
  refine ⟨g2, c2, rfl, ⟨HO2.out, HL.out, HRM.out⟩, ?_⟩
  have hv := HO1.out
  refine (HB1.out.alloc HB1.out.size (.cells #[.int .i64 (-77)] 3)).grown HG2.out (by have := HB1.out.size; simp; omega) (fun k hk => ?_)
  exact (hv.lt k hk).1

set_option maxHeartbeats 1000000 in
theorem stays_any (g : Nat) (A : Option Addr) (n cap c B : Nat) (xs : List Int) (w : World) (h : Lent w B g n cap xs) (B' : Nat) (h' : Reads w B' 1 A n (ints xs)) (hn : n ≤ 100000) :
    Calls Tryz.prog 12 #[.slice (some ⟨g, 0, none⟩) n cap, .slice A n c] w fun e w' => e = .returned (.bool true) ∧ ∃ m, w.drewN m = w' := by
  have HR := Lib.hid h.rd
  have HR' := Lib.hid h'
  have HM := Lib.hid h.mark
  obtain ⟨r1, r2⟩ := h.room
  clear h h'
  go_enter Tryz.func12, Tryz.ntmps12
  go_wp2_with fail
  refine (sameInts_any _ _ n cap n c _ _ xs xs w HR.out HR'.out (by omega)).mono ?_
  rw [show decide (xs = xs) = true from decide_eq_true rfl]
  rintro en w1 ⟨rfl, m, rfl⟩
  have hc : (w.drewN m).cell? ⟨g, n, none⟩ = some (.int .i64 (-77)) := HM.out
  generalize hw : w.drewN m = w1 at *
  have HW := Lib.hid hw
  clear hw
  go_wp2_with fail
  go_ret
  exact ⟨rfl, m, HW.out⟩
end Go.Proofs.YtedfbdeklepekaaGreat
