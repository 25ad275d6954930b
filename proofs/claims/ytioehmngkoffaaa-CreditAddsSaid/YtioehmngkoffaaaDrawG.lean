/-
  A region that draws, the operation that all wait for named. Over any program.
-/
import Derived.Test.YtioehmngkoffaaaSimHN
namespace Go.Proofs.Ytioehmngkoffaaa
open Go Go.RowKit
section
variable {P : Program} {fn : Func} {Q : Exit → Act → World → Prop} {R : Ending → World → Prop} {T : List Nat} {w0 w : World} {ρ : Nm} {c : Cfg}
abbrev ordG (c : Cfg) (sp : List Nat) (g : Nat) : OCfg := ⟨drawId c, drawOps c, some g, c.rs, ordOf sp (drawOps c), false, drawRest c, c.tmps, c.rs⟩
theorem sim_drawG [hB : Body P Q fn R] (sp : List Nat) (g : Nat) (hd : isDraw c = true) (hok : (drawOk P (drawOps c) (ordOf sp (drawOps c)) (some g) && undR c.rs.length c.rs) = true) (hR : Rel T w0 ρ c.rs w)
    (next : RelO T w0 (ordG c sp g) ρ ρ w.drew → AtO P Q (ordG c sp g) ρ ρ w.drew) : At P Q c ρ w := by
  obtain ⟨k, t, rs⟩ := c
  unfold isDraw at hd
  split at hd
  · rename_i id ops k' hk
    simp only at hk
    subst hk
    simp only [Bool.and_eq_true] at hok
    have hpre : rs.take rs.length = rs := List.take_length
    have hR' := hR.drew
    show (Code.region id ops true).wp P (post P Q k') (act ρ t) w
    exact drawOk_spec (S := Snap ρ rs) hok.1 (hB.pf.post k') (hR'.snap hpre (Agree.refl _ _) hok.2) (next ⟨hR', Agree.refl _ _, hok.2, Nat.le_refl _, fun _ => hpre⟩)
  · cases hd
end
end Go.Proofs.Ytioehmngkoffaaa
