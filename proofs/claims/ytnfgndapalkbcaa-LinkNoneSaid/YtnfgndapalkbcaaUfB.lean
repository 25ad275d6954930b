/-
  Contracts of uf.Grow and uf.New: a Uf that the call owns.
-/
import Derived.Test.YtnfgndapalkbcaaUfA
import Derived.Test.YtnfgndapalkbcaaKeeps
import Derived.Deep.RegionLaw
namespace Go.Proofs.Ytnfgndapalkbcaa
set_option maxRecDepth 100000
open Go.RowKit

theorem int_info : (Try.prog.info? 3).map (fun i => (i.zero, i.size, i.bytes)) = some (some (.int .i64 0), 1, 8) := by kernel_rfl

/-- A Uf in block b, its row in block g (b, where there is none). -/
structure UfAt (w : World) (b g : Nat) (u : List Nat) (A : Option Addr) (c : Nat) : Prop where
  blk : Blk w b 70 #[.slice A u.length c]
  own : w.ownsRow 0 3 1 (.slice A u.length c) u.length (nats u)
  at_ : (A = none ∧ g = b) ∨ (A = some ⟨g, 0, none⟩ ∧ g ≠ b)
theorem UfAt.rd {w : World} {b g : Nat} {u : List Nat} {A : Option Addr} {c : Nat} (h : UfAt w b g u A c) : UfR w b A c u :=
  ⟨by have := h.blk.cell 0; simpa using this, Reads.of_own h.own⟩
theorem UfAt.keeps {w w' : World} {b g : Nat} {u : List Nat} {A : Option Addr} {c : Nat} {T : List Nat} (h : UfAt w b g u A c) (hk : Keeps T w w') (hb : b ∉ T) (hg : g ∉ T) : UfAt w' b g u A c := by
  refine ⟨h.blk.keeps hk hb, own_keeps h.own hk ?_, h.at_⟩
  intro g' e
  rcases h.at_ with ⟨rfl, rfl⟩ | ⟨rfl, _⟩
  · simp [Value.ownBlock] at e
  · simp [Value.ownBlock] at e; subst e; exact hg
theorem UfAt.lt {w : World} {b g : Nat} {u : List Nat} {A : Option Addr} {c : Nat} (h : UfAt w b g u A c) : b < w.heap.size ∧ g < w.heap.size := by
  refine ⟨h.blk.lt, ?_⟩
  rcases h.at_ with ⟨rfl, rfl⟩ | ⟨rfl, _⟩
  · exact h.blk.lt
  · exact (h.own.lt g (by simp [Value.ownBlock])).2

def growF (u : List Nat) : Nat → List Nat
  | 0 => u
  | k + 1 => growF u k ++ [(growF u k).length + 1]
theorem growF_length (u : List Nat) (k : Nat) : (growF u k).length = u.length + k := by
  induction k with
  | zero => rfl
  | succ k ih => simp [growF, ih]; omega

def lenAt (w : World) (b : Nat) : Nat := match w.cell? ⟨b, 0, none⟩ with | some (.slice _ l _) => l | _ => 0
theorem UfR.lenAt {w : World} {b c : Nat} {A : Option Addr} {u : List Nat} (h : UfR w b A c u) : lenAt w b = u.length := by unfold Proofs.Ytnfgndapalkbcaa.lenAt; rw [h.cell]
def GrowN (w : World) (b g : Nat) (u : List Nat) (e : Ending) (w' : World) : Prop :=
  e = .returned (.int .i64 0) ∧ ∃ g' A c, UfAt w' b g' u A c ∧ Keeps [b, g] w w' ∧ (g' = g ∨ w.heap.size ≤ g')

theorem grow_in (b g : Nat) (u : List Nat) (A : Option Addr) (c : Nat) (n : Nat) (w : World) (h : UfAt w b g u A c) (h1 : u.length ≤ n) (h2 : n ≤ 1000) :
    Calls Try.prog 43 #[.pointer (some ⟨b, 0, none⟩), .int .i64 n] w (GrowN w b g (growF u (n - u.length))) := by
  obtain ⟨i0, hi0, hz0, hz1, hz2⟩ := info_parts int_info
  have hc := h.rd.cell
  have H := Lib.hid h
  have h3 : ¬ n < u.length := by omega
  generalize hul : u.length = m at *
  have HUL := Lib.hid hul
  clear h hul
  go_enter Try.func43, Try.ntmps43
  go_wp2_with fail
  go_loopw [20] (fun _ wr => ∃ (k g' : Nat) (A' : Option Addr) (c' : Nat), m + k ≤ n ∧ UfAt wr b g' (growF u k) A' c' ∧ Keeps [b, g] w wr ∧ (g' = g ∨ w.heap.size ≤ g')) (fun _ wr => n - lenAt wr b)
  case atStart => exact ⟨0, g, A, c, by omega, H.out, Keeps.refl _ _, .inl rfl⟩
  case round =>
    obtain ⟨k, g', A', c', hk, hu, hkp, hg⟩ := hrel
    have hc' := hu.rd.cell
    rw [growF_length, HUL.out] at hc'
    have HU := Lib.hid hu
    have hf' := hu.blk.frozen 0
    have HK := Lib.hid hkp
    clear hkp hu
    by_cases hlt : m + k < n
    · have hown := HU.out.own
      rw [growF_length, HUL.out] at hown
      have HOWN := Lib.hid hown
      clear hown
      have hb := HU.out.lt
      have HNE : Hid (some b ≠ (Value.slice A' (m + k) c').ownBlock) := by
        have := own_blk_ne HU.out.own HU.out.blk (by decide)
        rw [growF_length, HUL.out] at this
        exact fun e => this e.symm
      have hwr : IntKind.i64.wrap ((m : Int) + k + 1) = (m : Int) + k + 1 := IntWalk.i64_in _ (by omega)
      go_wp2_with fail
      go_region_law (refine step_append_lies _ rfl (.tmp 31) (.tmp 38) 31 rfl 0 3 i0 (.int .i64 0) 1 8 Try.underlying31 hi0 hz0 hz1 hz2 rfl (by omega) (.slice A' (m + k) c') (m + k) (nats (growF u k)) (by first | simp [Act.eval] | simp [Act.eval, Act.put]) (by exact HOWN.out.alloc _) ⟨wr.heap.size, 0, none⟩ 1 1 [.int .i64 ((m : Int) + k + 1)] (by first | simp [Act.eval] | simp [Act.eval, Act.put]) rfl (by exact cell_one_new _ _ _) (by simp [Value.oneCell']) (by omega) (by unfold maxLen; omega) (by omega) (by omega) (wr.heap.size + 1) (by simp) ?_; intro g2 c2 w2 hown2 hg2 hat2 hlt2; have hB2 := Blk.grown (Blk.drew (HU.out.blk.alloc (.cells #[.int .i64 ((m : Int) + k + 1)] 3))) hg2 (HNE.out); have q0 := hB2.cell 0; have q1 := hB2.frozen 0; simp at q0; have HB2 := Lib.hid hB2; have HO2 := Lib.hid hown2; have HG2 := Lib.hid hg2; have HA2 := Lib.hid hat2; clear hB2 hown2 hg2 hat2)
      all_goals
        go_wp2_with fail
        refine ⟨?rel, ?measure⟩
        case rel =>
          have hl := growF_length u k
          rw [HUL.out] at hl
          have hrow : ∀ x, (Value.slice A' (m + k) c').ownBlock = some x → x = g' ∧ g' ≠ b := by
            intro x hx
            rcases HU.out.at_ with ⟨rfl, rfl⟩ | ⟨rfl, hne⟩
            · simp [Value.ownBlock] at hx
            · simp [Value.ownBlock] at hx; exact ⟨hx.symm, hne⟩
          have hg2b : g2 ≠ b ∧ (g2 = g' ∨ g2 = wr.heap.size + 1) := by
            rcases HA2.out with h | h
            · obtain ⟨e1, e2⟩ := hrow g2 h
              exact ⟨by omega, .inl e1⟩
            · exact ⟨by omega, .inr h⟩
          have hsz := HK.out.size
          refine ⟨k + 1, g2, some ⟨g2, 0, none⟩, c2, by omega, ⟨?_, ?_, .inr ⟨rfl, hg2b.1⟩⟩, ?_, ?_⟩
          · have := HB2.out.set_ 0 (.slice (some ⟨g2, 0, none⟩) (m + k + 1) c2)
            have e : (growF u (k + 1)).length = m + k + 1 := by simp [growF, hl]
            rw [e]
            simpa using this
          · have e : (growF u (k + 1)).length = m + k + 1 := by simp [growF, hl]
            have e2 : nats (growF u (k + 1)) = nats (growF u k) ++ [.int .i64 ((m : Int) + k + 1)] := by
              simp [growF, nats, hl]
            rw [e, e2]
            exact own_keeps HO2.out ((Keeps.refl [b] w2).setCell (p := ⟨b, 0, none⟩) (.inl (by simp)) _) (fun x hx => by simp [Value.ownBlock] at hx; subst hx; simp; exact hg2b.1)
          · refine (((HK.out.alloc (.cells #[.int .i64 ((m : Int) + k + 1)] 3)).drew).grown HG2.out ?_).setCell (p := ⟨b, 0, none⟩) (.inl (by simp)) _
            intro x hx
            obtain ⟨rfl, _⟩ := hrow x hx
            rcases hg with rfl | h
            · exact .inl (by simp)
            · exact .inr h
          · rcases hg2b.2 with rfl | h
            · exact hg
            · exact .inr (by omega)
        case measure =>
          have hl := growF_length u k
          rw [HUL.out] at hl
          have e1 : lenAt wr b = m + k := by rw [HU.out.rd.lenAt, hl]
          have hB3 := HB2.out.set_ 0 (.slice (some ⟨g2, 0, none⟩) (m + k + 1) c2)
          have hc3 := hB3.cell 0
          simp at hc3
          have e2 : lenAt (w2.setCell ⟨b, 0, none⟩ (.slice (some ⟨g2, 0, none⟩) (m + k + 1) c2)) b = m + k + 1 := by unfold lenAt; rw [hc3]
          rw [e1, e2]
          omega
    · have hkn : k = n - m := by omega
      go_wp2_with fail
      go_ret
      subst hkn
      rw [HUL.out] at *
      exact ⟨rfl, _, _, _, HU.out, HK.out, hg⟩
end Go.Proofs.Ytnfgndapalkbcaa
