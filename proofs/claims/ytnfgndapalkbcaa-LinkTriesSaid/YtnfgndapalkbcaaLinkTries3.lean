/-
  LinkTries: what was let in stands behind what was there.
-/
import Derived.Test.YtnfgndapalkbcaaLinkTries2
namespace Go.Proofs.Ytnfgndapalkbcaa
open Go Go.RowKit
attribute [local irreducible] run goO leaveK someK nextK nextT nextOT nextOD loopBody loopRest loopK fillJ tmplOf tmplJ mergeT At AtO drawOk ordOf gateOf callC callO topOp topO idxOf appOf storeOf clearOf sliceOf calleeOf calleeO topQ idxQ newRowOf resL stepOp seek
set_option maxRecDepth 100000 in
set_option maxHeartbeats 4000000 in
theorem tries_ok (w0 : World) (q : GrP) (ls m : List Lk) (A2 : Option Addr) (k2 c2 : Nat) (hml : Lks w0 A2 k2 m) (hk60 : k2 ≤ 60) (Aw : Option Addr) (cw : Nat) (An : Option Addr) (cn n1 n2 b1 B1 b2 B2 : Nat) (t : Int) (ht : t = 0) (h1 : n1 = ls.length) (h2 : n2 = ls.length + m.length) (hls : ls.length ≤ 120) (w : World) (ρ : Nm) (hR : Rel [] w0 ρ [gR q] w) (hwas : Sta (btw b1 B1) (OwnW b1 30 3 (.slice Aw n1 cw) n1 (lkV ls)) ρ [gR q] w) (hnow : Sta (btw b2 B2) (OwnW b2 30 3 (.slice An n2 cn) n2 (lkV (ls ++ m))) ρ [gR q] w) (d : Nat → Value) :
    At Try.prog (bodyPost Try.prog Try.f5 (okP w0)) ⟨regK Try.f5 17, fillJ (tmplJ Try.f5.ntmps 0 [(2, .v (.slice A2 k2 c2)), (10, .v (.slice Aw n1 cw)), (12, LI t), (14, LI t), (15, .v (.slice An n2 cn))]) d 0, [gR q]⟩ ρ w := by
  have hlm := lkV_num hml.rd
  subst ht h1 h2
  have hq0 : (ρ 0).1 < w.heap.size := hR.lt 0 _ rfl
  have hag := hR.ag_ 1 (by kernel_rfl)
  refine sim_run 6 [] (hR.cast (by kernel_rfl)) (by kernel_rfl) trivial (fun ρ3100 w3100 hm3100 hR3100 => ?_)
  have hwas := hwas.moved (hm3100.castL (by kernel_rfl))
  have hnow := hnow.moved (hm3100.castL (by kernel_rfl))
  have hag := hag.moved (hm3100.castL (by kernel_rfl))
  refine sim_call 9 [] (by kernel_rfl) ?_
  refine Calls.mono (alive18_any _) ?_
  rintro e3101 w3101 ⟨rfl, hb3101⟩
  have hR3101 := hR3100.below hb3101
  have hwas := hwas.below hb3101
  have hnow := hnow.below hb3101
  refine Back.of (LB true) hR3101 rfl ?_
  refine sim_run 3 [] (hR3101.cast (by kernel_rfl)) (by kernel_rfl) trivial (fun ρ3102 w3102 hm3102 hR3102 => ?_)
  have hag := hag.moved (hm3102.castL (by kernel_rfl))
  have hwas := hwas.moved (hm3102.castL (by kernel_rfl))
  have hnow := hnow.moved (hm3102.castL (by kernel_rfl))
  
  have hone : ∀ {rs : List Reg} {k : Nat} {r : Reg}, Nat.beq rs.length 1 = true → rs[k]? = some r → k = 0 := fun {rs k r} h1 h2 => by
    have h3 := (List.getElem?_eq_some_iff.1 h2).1
    have h4 := Nat.eq_of_beq_eq_true h1
    omega
  have hRA := (by assumption : Rel _ _ _ _ _)
  have hqA : (ρ3102 0).1 < w3102.heap.size := hRA.lt 0 (gR q) (by kernel_rfl)
  have hltA := hnow.lt
  have hagA := hRA.ag_ 1 (by kernel_rfl)

  refine sim_appendR 22 (.slice none 0 0) Aw ls.length cw (by kernel_rfl) hRA tyLk (base := w3102.heap.size) (n := 0) (xs := []) ⟨rfl, .inl ⟨rfl, rfl⟩⟩ (Reads.of_own hwas.is) (oneV (lk_one ls)) (by unfold maxLen; omega) (by omega) (Nat.le_refl _) hRA.keeps.size (fun g hg => by cases hg) (fun v1 w1 ho1 hg1 _ hR1 => ?_)
  have hnow := hnow.grown hg1 (fun x hx e => by cases e)
  obtain ⟨A1, c1, rfl⟩ := own_row ho1
  have hown := Own.ro hR1 ho1 (by kernel_rfl)
  clear hwas
  refine sim_run 1 [] (hR1.cast (by kernel_rfl)) (by kernel_rfl) trivial (fun ρ3200 w3200 hm3200 hR3200 => ?_)
  have hag := hag.moved (hm3200.castL (by kernel_rfl))
  have hagA := hagA.moved (hm3200.castL (by kernel_rfl))
  have hnow := hnow.moved (hm3200.castL (by kernel_rfl))
  have hown := hown.moved (hm3200.castL (by kernel_rfl))
  
  refine sim_appendR 22 (.slice A1 (0 + ls.length) c1) A2 k2 c2 (by kernel_rfl) (by assumption : Rel _ _ _ _ _) tyLk hown.own (hml.rd.keeps ((by assumption : Rel _ _ _ _ _)).keeps (Nat.le_refl _) (by simp)) (oneV (lk_one m)) (by unfold maxLen; omega) (by omega) (Nat.le_trans hg1.size hm3200.kept.size) hRA.keeps.size (fun g hg k r hk _ he => by
    obtain rfl := hone (by kernel_rfl) hk
    rw [hagA.at_ 0 (by omega)] at he
    have := (hown.own.lt g hg).1
    omega) (fun v2 w2 ho2 hg2 _ hR2 => ?_)
  have hnow := hnow.grown hg2 (fun x hx e => by have := hltA x hx; have := (hown.own.lt x e).1; omega)
  obtain ⟨A3, c3, rfl⟩ := own_row ho2
  have hrd2 : Reads w2 w2.heap.size 3 A3 (ls.length + m.length) (lkV (ls ++ m)) := by
    have := Reads.of_own ho2
    rw [Nat.zero_add, hlm.symm, List.nil_append, ← lkV_append] at this
    exact this
  have hn2 : 0 + ls.length + k2 = ls.length + m.length := by omega
  rw [hn2] at ho2 ⊢
  refine sim_call 20 [.v (Value.slice An (ls.length + m.length) cn), .v (Value.slice A3 (ls.length + m.length) c3)] (by kernel_rfl) ?_
  refine Calls.mono (sameLks_eq (An) (A3) (ls.length + m.length) (cn) (c3) _ _ ((ls ++ m)) _ ((Reads.of_own hnow.is)) (hrd2) ((Nat.le_refl _)) ((Nat.le_refl _)) (List.length_append) ((by omega))) ?_
  rintro e3300 w3300 ⟨rfl, hb3300⟩
  have hR3300 := hR2.below hb3300
  have hnow := hnow.below hb3300
  have hrd2 := hrd2.below hb3300
  refine Back.of (LB true) hR3300 rfl ?_
  refine sim_run 3 [] (hR3300.cast (by kernel_rfl)) (by kernel_rfl) trivial (fun ρ3301 w3301 hm3301 hR3301 => ?_)
  have hag := hag.moved (hm3301.castL (by kernel_rfl))
  have hagA := hagA.moved (hm3301.castL (by kernel_rfl))
  have hnow := hnow.moved (hm3301.castL (by kernel_rfl))
  refine sim_ret (LB true) hR3301 (by kernel_rfl) (by kernel_rfl) ?_
  exact ⟨rfl, hR3301.toBelow⟩
  
end Go.Proofs.Ytnfgndapalkbcaa
