/-
  Lists of rows of ints, as a call answers them, to be read.
-/
import Derived.Test.YtnfgndapalkbcaaSeqTT
namespace Go.Proofs.Ytnfgndapalkbcaa
open Go Go.RowKit
def RowsZ (w : World) (B base : Nat) (L : Option Addr) (xss : List (List Int)) : Prop :=
  ∃ vs, Reads w B 1 L xss.length vs ∧ (∀ a, L = some a → base ≤ a.block) ∧ ∀ (i : Nat) (xs : List Int), xss[i]? = some xs → ∃ A cap, vs[i]? = some (Value.slice A xs.length cap) ∧ xs.length ≤ cap ∧ Reads w B 1 A xs.length (ints xs) ∧ ∀ a, A = some a → base ≤ a.block
def RowZ (B base : Nat) (L : Option Addr) (xss : List (List Int)) : World → Prop := fun w => RowsZ w B base L xss
theorem RowZ.same {B base : Nat} {L : Option Addr} {xss : List (List Int)} : ∀ (w1 w2 : World) (S' : Nat → Prop), RowZ B base L xss w1 → (∀ x, btw base B x → x < w1.heap.size) → Kept S' w1 w2 → (∀ x, btw base B x → ¬ S' x) → RowZ B base L xss w2 := by
  rintro w1 w2 S' ⟨vs, hr, hb, hrow⟩ hlt hk hn
  refine ⟨vs, hr.keptFar hk (fun ad e h1 => ⟨hlt _ ⟨hb ad e, h1⟩, hn _ ⟨hb ad e, h1⟩⟩), hb, fun i xs hx => ?_⟩
  obtain ⟨A, cap, h1, h2, h4, h5⟩ := hrow i xs hx
  exact ⟨A, cap, h1, h2, h4.keptFar hk (fun ad e h6 => ⟨hlt _ ⟨h5 ad e, h6⟩, hn _ ⟨h5 ad e, h6⟩⟩), h5⟩
section
variable {P : Program} {Q : Exit → Act → World → Prop} {T : List Nat} {w0 w : World} {ρ : Nm} {c : Cfg}
/-- one of a list of rows comes into view -/
theorem sim_seeRowZ {B base : Nat} {L : Option Addr} {xss : List (List Int)} {xs : List Int} (k N : Nat) (hN : c.rs.length = N) (hk : xss[k]? = some xs) (hs : Sta (btw base B) (RowZ B base L xss) ρ c.rs w) (hR : Rel T w0 ρ c.rs w) (hu : (undR N c.rs && undL N c.tmps) = true)
    (next : ∀ g o A cap ρ', L = some ⟨g, o, none⟩ → btw base B g → Sta (readS A B) (ReadW B 1 A xs.length (ints xs)) ρ c.rs w → xs.length ≤ cap → (∀ ad, A = some ad → base ≤ ad.block) → Moved ρ c.rs w ρ' (c.rs ++ [⟨[.v (.slice A xs.length cap)], false⟩]) w → ρ' N = (g, o + k) → Rel T w0 ρ' (c.rs ++ [⟨[.v (.slice A xs.length cap)], false⟩]) w → At P Q ⟨c.k, c.tmps, c.rs ++ [⟨[.v (.slice A xs.length cap)], false⟩]⟩ ρ' w) : At P Q c ρ w := by
  obtain ⟨vs, hr, hb, hrow⟩ := hs.is
  obtain ⟨A, cap, hv, hc1, hrd, hA⟩ := hrow k xs hk
  have hkl := (List.getElem?_eq_some_iff.1 hk).1
  obtain ⟨g, o, rfl, hg, hc⟩ := hr.spot (by omega) (by omega)
  have hgb := hb _ rfl
  have hlt := hs.lt g ⟨hgb, hg⟩
  simp only [Bool.and_eq_true] at hu
  subst hN
  refine sim_open c.rs.length rfl hR g (o + k) [.v (.slice A xs.length cap)] (by rw [hu.1, hu.2]; rfl) hlt (fun j v hj => ?_) (fun m r hm hw he => ?_) (fun ρ' ha hn hR' => next g o A cap ρ' rfl ⟨hgb, hg⟩ ⟨hrd, fun x ⟨ad, e, h1, h2⟩ => hs.far x ⟨h1 ▸ hA ad e, h2⟩, fun x ⟨ad, e, h1, h2⟩ => hs.lt x ⟨h1 ▸ hA ad e, h2⟩, ReadW.same⟩ hc1 hA (Moved.ext_ro ha rfl) hn hR')
  · match j, hj with
    | 0, hj =>
      simp only [List.getElem?_cons_zero, Option.some.injEq] at hj
      subst hj
      exact hc k _ hv
    | j + 1, hj => simp at hj
  · exact hs.far g ⟨hgb, hg⟩ ⟨m, r, hm, hw, he⟩
/-- a number of a row that is read comes into view -/
theorem sim_seeInt {B n : Nat} {A : Option Addr} {xs : List Int} {p : Int} (k N : Nat) (hN : c.rs.length = N) (hk : xs[k]? = some p) (hs : Sta (readS A B) (ReadW B 1 A n (ints xs)) ρ c.rs w) (hR : Rel T w0 ρ c.rs w) (hu : (undR N c.rs && undL N c.tmps) = true)
    (next : ∀ g o ρ', A = some ⟨g, o, none⟩ → readS A B g → Moved ρ c.rs w ρ' (c.rs ++ [⟨[LI p], false⟩]) w → ρ' N = (g, o + k) → Rel T w0 ρ' (c.rs ++ [⟨[LI p], false⟩]) w → At P Q ⟨c.k, c.tmps, c.rs ++ [⟨[LI p], false⟩]⟩ ρ' w) : At P Q c ρ w := by
  have hkl := (List.getElem?_eq_some_iff.1 hk).1
  have hn := hs.is.1
  unfold ints at hn
  rw [List.length_map] at hn
  obtain ⟨g, o, rfl, hg, hc⟩ := hs.is.spot (by omega) (by omega)
  have hgS : readS (some ⟨g, o, none⟩) B g := ⟨_, rfl, rfl, hg⟩
  have hlt := hs.lt g hgS
  simp only [Bool.and_eq_true] at hu
  subst hN
  refine sim_open c.rs.length rfl hR g (o + k) [LI p] (by rw [hu.1, hu.2]; rfl) hlt (fun j v hj => ?_) (fun m r hm hw he => ?_) (fun ρ' ha hn hR' => next g o ρ' rfl hgS (Moved.ext_ro ha rfl) hn hR')
  · match j, hj with
    | 0, hj =>
      simp only [List.getElem?_cons_zero, Option.some.injEq] at hj
      subst hj
      exact hc k _ (ints_get hk)
    | j + 1, hj => simp at hj
  · exact hs.far g hgS ⟨m, r, hm, hw, he⟩
end
theorem Sta.rowsZ {T : List Nat} {w0 : World} {ρ : Nm} {rs : List Reg} {w w' : World} {L : Option Addr} {xss : List (List Int)} (hR : Rel T w0 ρ rs w) (h : RowsZ w' w'.heap.size w.heap.size L xss) : Sta (btw w.heap.size w'.heap.size) (RowZ w'.heap.size w.heap.size L xss) ρ rs w' :=
  Sta.new hR h (fun _ hx => hx.1) (fun _ hx => hx.2) RowZ.same
theorem clsN_rows {w w' : World} {gs : List (List Int)} {e : Ending} (h : ClsN w gs e w') : ∃ L cap, e = .returned (.slice L gs.length cap) ∧ RowsZ w' w'.heap.size w.heap.size L gs ∧ Below w.heap.size w w' := by
  obtain ⟨L, cap, B3, Fs, rfl, hB, _, hrow, hids, _, hb⟩ := h
  refine ⟨L, cap, rfl, ⟨_, Reads.of_own hrow, fun a ha => ?_, fun i xs hx => ?_⟩, hb⟩
  · subst ha
    rcases hrow.2 with ⟨e, _⟩ | ⟨g, c, cur, e, h1, _⟩
    · cases e
    · injection e with e
      injection e with e
      subst e
      exact Nat.le_trans hB h1
  · obtain ⟨h1, _⟩ := hids xs (List.mem_of_getElem? hx)
    obtain ⟨A, c, hA⟩ := own_row h1
    rw [hA] at h1
    refine ⟨A, c, ?_, own_cap h1, Reads.of_own h1, fun a ha => ?_⟩
    · have e : (gs.map Fs)[i]? = some (Fs xs) := by rw [List.getElem?_map, hx]; rfl
      rw [sls_at _ _ _ e, hA]
    · exact own_ge h1 (by rw [ha]; rfl)
end Go.Proofs.Ytnfgndapalkbcaa
