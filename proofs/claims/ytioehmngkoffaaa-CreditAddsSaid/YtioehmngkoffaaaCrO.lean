/-
  What stands beside an Acc that may be marked. Over any program.
-/
import Derived.Test.YtioehmngkoffaaaRwsI
import Derived.Test.YtioehmngkoffaaaAcc
import Derived.Test.YtioehmngkoffaaaSta
namespace Go.Proofs.Ytioehmngkoffaaa
open Go Go.RowKit
theorem own_spot {w : World} {b n cp : Nat} {A : Option Addr} {e : TypeId} {s : Nat} {xs : List Value} (h : w.ownsRow b e s (.slice A n cp) n xs) (hn : 0 < n) : ∃ g, A = some ⟨g, 0, none⟩ := by
  rcases h.2 with ⟨_, h0⟩ | ⟨q, cap, cur, e, _⟩
  · omega
  · injection e with e
    exact ⟨q, e⟩
theorem Agree.zero {ρ ρ' : Nm} : Agree 0 ρ ρ' := fun _ h => absurd h (Nat.not_lt_zero _)
theorem orAt_grown {p : Addr} {w w' : World} {fl : Bool} (h : orAt p w fl w') : w.grownBy w' (some p.block) := by
  rcases h with ⟨_, rfl⟩ | ⟨_, rfl⟩
  · exact (Kept.refl (fun k => k = p.block) w).grownBy
  · exact (Kept.setCell (S := fun k => k = p.block) w rfl _).grownBy
theorem wrS_set {ρ : Nm} {rs : List Reg} {q g : Nat} {cs cs' : List LV} (hq : rs[q]? = some ⟨cs, true⟩) (h : wrS ρ (rs.set q ⟨cs', true⟩) g) : wrS ρ rs g := by
  obtain ⟨n, r, hn, hw, he⟩ := h
  rw [List.getElem?_set] at hn
  split at hn
  · rename_i e
    subst e
    exact ⟨q, _, hq, rfl, he⟩
  · exact ⟨n, r, hn, hw, he⟩
theorem wrS_at {ρ : Nm} {rs : List Reg} {q : Nat} {cs : List LV} (hq : rs[q]? = some ⟨cs, true⟩) : wrS ρ rs (ρ.at_ q 0).block := ⟨q, _, hq, rfl, rfl⟩
section
variable {ρ : Nm} {rs : List Reg} {w w' : World} {q : Nat} {cs cs' : List LV} {fl : Bool}
theorem Own.orAt {b : Nat} {e : TypeId} {s : Nat} {v : Value} {n : Nat} {xs : List Value} (h : Own ρ rs w b e s v n xs) (hq : rs[q]? = some ⟨cs, true⟩) (ho : Go.Proofs.Ytioehmngkoffaaa.orAt (ρ.at_ q 0) w fl w') : Own ρ (rs.set q ⟨cs', true⟩) w' b e s v n xs :=
  ⟨(h.grown (orAt_grown ho) fun g hg e => by
    injection e with e
    exact h.far g hg (e ▸ wrS_at hq)).own, fun g hg hw => h.far g hg (wrS_set hq hw)⟩
theorem Rws.orAt {K : Type} {B : Nat} {l : List (Ent K Value)} {f : K → List Int} (h : Rws ρ rs w B l f) (hq : rs[q]? = some ⟨cs, true⟩) (ho : Go.Proofs.Ytioehmngkoffaaa.orAt (ρ.at_ q 0) w fl w') : Rws ρ (rs.set q ⟨cs', true⟩) w' B l f := h.map fun _ _ h => h.orAt hq ho
variable {K V : Type} {enc : K → Value} {encV : V → Value} {m : Option Nat} {l dn : List (Ent K V)} {clock it : Nat}
theorem MpO.orAt (h : MpO enc encV ρ rs w m l clock) (hq : rs[q]? = some ⟨cs, true⟩) (ho : Go.Proofs.Ytioehmngkoffaaa.orAt (ρ.at_ q 0) w fl w') : MpO enc encV ρ (rs.set q ⟨cs', true⟩) w' m l clock := by
  have h1 := h.grown (orAt_grown ho) (fun g hg e => by
    injection e with e
    exact (h.is g hg).2 (e ▸ wrS_at hq))
  exact ⟨fun g hg => ⟨(h1.is g hg).1, fun hw => (h.is g hg).2 (wrS_set hq hw)⟩, h.nil⟩
theorem ItO.orAt (h : ItO ρ rs w it m l clock dn) (hq : rs[q]? = some ⟨cs, true⟩) (ho : Go.Proofs.Ytioehmngkoffaaa.orAt (ρ.at_ q 0) w fl w') : ItO ρ (rs.set q ⟨cs', true⟩) w' it m l clock dn := by
  have h1 := h.grown (orAt_grown ho) (fun e => by
    injection e with e
    exact h.far (e ▸ wrS_at hq))
  exact ⟨h1.is, fun hw => h.far (wrS_set hq hw), h1.sub, h1.nodup⟩
theorem Sta.orAt {S : Nat → Prop} {V : World → Prop} (h : Sta S V ρ rs w) (hq : rs[q]? = some ⟨cs, true⟩) (ho : Go.Proofs.Ytioehmngkoffaaa.orAt (ρ.at_ q 0) w fl w') : Sta S V ρ (rs.set q ⟨cs', true⟩) w' := by
  have h1 := h.grown (orAt_grown ho) (fun x hx e => by
    injection e with e
    exact h.far x hx (e ▸ wrS_at hq))
  exact ⟨h1.is, fun x hx hw => h.far x hx (wrS_set hq hw), h1.lt, h.same⟩
end
end Go.Proofs.Ytioehmngkoffaaa
