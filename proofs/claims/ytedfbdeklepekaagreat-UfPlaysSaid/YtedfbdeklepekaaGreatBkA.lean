/-
  The box of lists: Apart, whatever the methods of each kind keep up.
-/
import Derived.Test.YtedfbdeklepekaaGreatProg
import Derived.Test.YtedfbdeklepekaaGreatBkB
namespace Go.Proofs.YtedfbdeklepekaaGreat
open Go Go.RowKit
def bkR (x : Nat → Value) : List LV := .v (x 0) :: .v (x 1) :: .v (x 2) :: .v (x 3) :: .v (x 4) :: .v (x 5) :: .v (x 6) :: .v (x 7) :: .v (x 8) :: .v (x 9) :: .v (x 10) :: .v (x 11) :: .v (x 12) :: .v (x 13) :: .v (x 14) :: .v (x 15) :: .v (x 16) :: .v (x 17) :: .v (x 18) :: .v (x 19) :: .v (x 20) :: .v (x 21) :: .v (x 22) :: .v (x 23) :: .v (x 24) :: .v (x 25) :: .v (x 26) :: .v (x 27) :: .v (x 28) :: .v (x 29) :: .v (x 30) :: .v (x 31) :: .v (x 32) :: .v (x 33) :: []
theorem bkR_eq (x : Nat → Value) : (bkC x).map LV.v = bkR x := rfl
/-- what is kept up by all that writes nothing -/
structure VS (V : World → Prop) (ρ : Nm) (rs : List Reg) (w : World) : Prop where
  is : V w
  ro : allRo rs = true
  cl : ∀ w1 w2, V w1 → Below w1.heap.size w1 w2 → V w2
theorem VS.of {V : World → Prop} {ρ : Nm} {rs : List Reg} {w : World} (h : V w) (hro : allRo rs = true) (hcl : ∀ w1 w2, V w1 → Below w1.heap.size w1 w2 → V w2) : VS V ρ rs w := ⟨h, hro, hcl⟩
theorem VS.moved {V : World → Prop} {ρ ρ' : Nm} {rs rs' : List Reg} {w w' : World} (h : VS V ρ rs w) (hm : Moved ρ rs w ρ' rs' w') (hro : allRo rs' = true := by kernel_rfl) : VS V ρ' rs' w' :=
  ⟨h.cl _ _ h.is (hm.kept.below (Nat.le_refl _) (fun _ hx => (wrS_allRo h.ro hx).elim)), hro, h.cl⟩
theorem VS.below {V : World → Prop} {ρ : Nm} {rs : List Reg} {w w' : World} (h : VS V ρ rs w) (hb : Below w.heap.size w w') : VS V ρ rs w' := ⟨h.cl _ _ h.is hb, h.ro, h.cl⟩
theorem VS.put {V V' : World → Prop} {ρ : Nm} {rs : List Reg} {w w' : World} (h : VS V ρ rs w) (h' : V' w') (hcl : ∀ w1 w2, V' w1 → Below w1.heap.size w1 w2 → V' w2) : VS V' ρ rs w' := ⟨h', h.ro, hcl⟩
theorem VS.castR {V : World → Prop} {ρ : Nm} {rs rs' : List Reg} {w : World} (h : VS V ρ rs w) (e : rs = rs') : VS V ρ rs' w := e ▸ h
theorem keptB {T : List Nat} {w0 w w' : World} {ρb ρ : Nm} {rs : List Reg} {cs : List LV} {b : Nat} (hR : Rel T w0 ρ rs w) (hrs : rs = [⟨cs, false⟩]) (hag : Ag 1 ρb ρ rs) (e0 : ρb 0 = (b, 0)) (hb : b ∉ T) (hk : Kept (· ∈ T) w w') : Rel T w0 ρ rs w' := by
  refine hR.kept hk (fun n r hn _ he => ?_) (fun y hy => .inl hy)
  subst hrs
  match n, hn with
  | 0, _ => rw [hag.at_ 0 (by omega), e0] at he; exact hb he
  | n + 1, hn => simp at hn
section
variable {x : Nat → Value} {b : Nat} {T : List Nat} {wS : World}
attribute [local irreducible] run goO leaveK someK nextK nextT nextOT nextOD loopBody loopRest loopK fillJ tmplOf tmplJ mergeT At AtO drawOk ordOf gateOf callC callO topOp topO idxOf appOf storeOf clearOf sliceOf calleeOf calleeO topQ idxQ newRowOf resL stepOp seek
set_option maxRecDepth 100000 in
set_option maxHeartbeats 4000000 in
theorem apart_d {W : World → Prop} (hcl : ∀ w w', W w → Below w.heap.size w w' → W w') (hbT : b ∉ T) (v0 v1 v2 v3 v4 v5 v6 v7 v8 v9 v10 v11 v12 v13 v14 v15 v16 : Value)
  (m0 : ∀ {w}, W w → Calls Tryz.prog 115 #[v0] w fun e w' => e = .returned (.bool true) ∧ W w' ∧ Kept (· ∈ T) w w') (n0 : ∀ {w}, W w → Calls Tryz.prog 115 #[x 0] w fun e w' => e = .returned (.bool true) ∧ W w' ∧ Kept (· ∈ T) w w')
  (m1 : ∀ {w}, W w → Calls Tryz.prog 116 #[v1] w fun e w' => e = .returned (.bool true) ∧ W w' ∧ Kept (· ∈ T) w w') (n1 : ∀ {w}, W w → Calls Tryz.prog 116 #[x 2] w fun e w' => e = .returned (.bool true) ∧ W w' ∧ Kept (· ∈ T) w w')
  (m2 : ∀ {w}, W w → Calls Tryz.prog 117 #[v2] w fun e w' => e = .returned (.bool true) ∧ W w' ∧ Kept (· ∈ T) w w') (n2 : ∀ {w}, W w → Calls Tryz.prog 117 #[x 4] w fun e w' => e = .returned (.bool true) ∧ W w' ∧ Kept (· ∈ T) w w')
  (m3 : ∀ {w}, W w → Calls Tryz.prog 118 #[v3] w fun e w' => e = .returned (.bool true) ∧ W w' ∧ Kept (· ∈ T) w w') (n3 : ∀ {w}, W w → Calls Tryz.prog 118 #[x 6] w fun e w' => e = .returned (.bool true) ∧ W w' ∧ Kept (· ∈ T) w w')
  (m4 : ∀ {w}, W w → Calls Tryz.prog 119 #[v4] w fun e w' => e = .returned (.bool true) ∧ W w' ∧ Kept (· ∈ T) w w') (n4 : ∀ {w}, W w → Calls Tryz.prog 119 #[x 8] w fun e w' => e = .returned (.bool true) ∧ W w' ∧ Kept (· ∈ T) w w')
  (m5 : ∀ {w}, W w → Calls Tryz.prog 120 #[v5] w fun e w' => e = .returned (.bool true) ∧ W w' ∧ Kept (· ∈ T) w w') (n5 : ∀ {w}, W w → Calls Tryz.prog 120 #[x 10] w fun e w' => e = .returned (.bool true) ∧ W w' ∧ Kept (· ∈ T) w w')
  (m6 : ∀ {w}, W w → Calls Tryz.prog 121 #[v6] w fun e w' => e = .returned (.bool true) ∧ W w' ∧ Kept (· ∈ T) w w') (n6 : ∀ {w}, W w → Calls Tryz.prog 121 #[x 12] w fun e w' => e = .returned (.bool true) ∧ W w' ∧ Kept (· ∈ T) w w')
  (m7 : ∀ {w}, W w → Calls Tryz.prog 122 #[v7] w fun e w' => e = .returned (.bool true) ∧ W w' ∧ Kept (· ∈ T) w w') (n7 : ∀ {w}, W w → Calls Tryz.prog 122 #[x 14] w fun e w' => e = .returned (.bool true) ∧ W w' ∧ Kept (· ∈ T) w w')
  (m8 : ∀ {w}, W w → Calls Tryz.prog 123 #[v8] w fun e w' => e = .returned (.bool true) ∧ W w' ∧ Kept (· ∈ T) w w') (n8 : ∀ {w}, W w → Calls Tryz.prog 123 #[x 16] w fun e w' => e = .returned (.bool true) ∧ W w' ∧ Kept (· ∈ T) w w')
  (m9 : ∀ {w}, W w → Calls Tryz.prog 124 #[v9] w fun e w' => e = .returned (.bool true) ∧ W w' ∧ Kept (· ∈ T) w w') (n9 : ∀ {w}, W w → Calls Tryz.prog 124 #[x 18] w fun e w' => e = .returned (.bool true) ∧ W w' ∧ Kept (· ∈ T) w w')
  (m10 : ∀ {w}, W w → Calls Tryz.prog 125 #[v10] w fun e w' => e = .returned (.bool true) ∧ W w' ∧ Kept (· ∈ T) w w') (n10 : ∀ {w}, W w → Calls Tryz.prog 125 #[x 20] w fun e w' => e = .returned (.bool true) ∧ W w' ∧ Kept (· ∈ T) w w')
  (m11 : ∀ {w}, W w → Calls Tryz.prog 126 #[v11] w fun e w' => e = .returned (.bool true) ∧ W w' ∧ Kept (· ∈ T) w w') (n11 : ∀ {w}, W w → Calls Tryz.prog 126 #[x 22] w fun e w' => e = .returned (.bool true) ∧ W w' ∧ Kept (· ∈ T) w w')
  (m12 : ∀ {w}, W w → Calls Tryz.prog 127 #[v12] w fun e w' => e = .returned (.bool true) ∧ W w' ∧ Kept (· ∈ T) w w') (n12 : ∀ {w}, W w → Calls Tryz.prog 127 #[x 24] w fun e w' => e = .returned (.bool true) ∧ W w' ∧ Kept (· ∈ T) w w')
  (m13 : ∀ {w}, W w → Calls Tryz.prog 128 #[v13] w fun e w' => e = .returned (.bool true) ∧ W w' ∧ Kept (· ∈ T) w w') (n13 : ∀ {w}, W w → Calls Tryz.prog 128 #[x 26] w fun e w' => e = .returned (.bool true) ∧ W w' ∧ Kept (· ∈ T) w w')
  (m14 : ∀ {w}, W w → Calls Tryz.prog 129 #[v14] w fun e w' => e = .returned (.bool true) ∧ W w' ∧ Kept (· ∈ T) w w') (n14 : ∀ {w}, W w → Calls Tryz.prog 129 #[x 28] w fun e w' => e = .returned (.bool true) ∧ W w' ∧ Kept (· ∈ T) w w')
  (m15 : ∀ {w}, W w → Calls Tryz.prog 130 #[v15] w fun e w' => e = .returned (.bool true) ∧ W w' ∧ Kept (· ∈ T) w w') (n15 : ∀ {w}, W w → Calls Tryz.prog 130 #[x 30] w fun e w' => e = .returned (.bool true) ∧ W w' ∧ Kept (· ∈ T) w w')
  (m16 : ∀ {w}, W w → Calls Tryz.prog 131 #[v16] w fun e w' => e = .returned (.bool true) ∧ W w' ∧ Kept (· ∈ T) w w') (n16 : ∀ {w}, W w → Calls Tryz.prog 131 #[x 32] w fun e w' => e = .returned (.bool true) ∧ W w' ∧ Kept (· ∈ T) w w')
  (w : World) (ρ : Nm) (hR : Rel T wS ρ [⟨bkR x, false⟩] w) (hV : W w) (e0 : ρ 0 = (b, 0)) (d : Nat → Value) :
    At Tryz.prog (bodyPost Tryz.prog Tryz.f26 fun e w' => e = .returned (.bool true) ∧ Kept (· ∈ T) wS w') ⟨regK Tryz.f26 69, fillJ (tmplJ Tryz.f26.ntmps 0 [(0, .ptr 0 0), (3, .v v0), (4, .v v1), (5, .v v2), (6, .v v3), (7, .v v4), (8, .v v5), (9, .v v6), (10, .v v7), (11, .v v8), (12, .v v9), (13, .v v10), (14, .v v11), (15, .v v12), (16, .v v13), (17, .v v14), (18, .v v15), (19, .v v16)]) d 0, [⟨bkR x, false⟩]⟩ ρ w := by
  have hag := hR.ag_ 1 (by kernel_rfl)
  have hV := VS.of (ρ := ρ) (rs := [⟨bkR x, false⟩]) hV rfl hcl
  refine sim_run 30 [] (hR.cast (by kernel_rfl)) (by kernel_rfl) trivial (fun ρ100 w100 hm100 hRa => ?_)
  have hag := hag.moved (hm100.castL (by kernel_rfl))
  have hV := hV.moved (hm100.castL (by kernel_rfl))
  clear hm100 hR
  refine sim_call 115 [.v v0] (by kernel_rfl) ?_
  simp only [denL, LV.den]
  refine Calls.mono (m0 hV.is) ?_
  rintro _ w100' ⟨rfl, hV', hk⟩
  have hR := keptB (cs := bkR x) hRa (by kernel_rfl) hag e0 hbT hk
  have hV := hV.put hV' (hcl)
  clear hk hV' hRa
  refine Back.of (LB true) hR rfl ?_
  refine sim_run 30 [] (hR.cast (by kernel_rfl)) (by kernel_rfl) trivial (fun ρ101 w101 hm101 hRa => ?_)
  have hag := hag.moved (hm101.castL (by kernel_rfl))
  have hV := hV.moved (hm101.castL (by kernel_rfl))
  clear hm101 hR
  refine sim_call 115 [.v (x 0)] (by kernel_rfl) ?_
  simp only [denL, LV.den]
  refine Calls.mono (n0 hV.is) ?_
  rintro _ w101' ⟨rfl, hV', hk⟩
  have hR := keptB (cs := bkR x) hRa (by kernel_rfl) hag e0 hbT hk
  have hV := hV.put hV' (hcl)
  clear hk hV' hRa
  refine Back.of (LB true) hR rfl ?_
  refine sim_run 30 [] (hR.cast (by kernel_rfl)) (by kernel_rfl) trivial (fun ρ102 w102 hm102 hRa => ?_)
  have hag := hag.moved (hm102.castL (by kernel_rfl))
  have hV := hV.moved (hm102.castL (by kernel_rfl))
  clear hm102 hR
  refine sim_call 116 [.v v1] (by kernel_rfl) ?_
  simp only [denL, LV.den]
  refine Calls.mono (m1 hV.is) ?_
  rintro _ w102' ⟨rfl, hV', hk⟩
  have hR := keptB (cs := bkR x) hRa (by kernel_rfl) hag e0 hbT hk
  have hV := hV.put hV' (hcl)
  clear hk hV' hRa
  refine Back.of (LB true) hR rfl ?_
  refine sim_run 30 [] (hR.cast (by kernel_rfl)) (by kernel_rfl) trivial (fun ρ103 w103 hm103 hRa => ?_)
  have hag := hag.moved (hm103.castL (by kernel_rfl))
  have hV := hV.moved (hm103.castL (by kernel_rfl))
  clear hm103 hR
  refine sim_call 116 [.v (x 2)] (by kernel_rfl) ?_
  simp only [denL, LV.den]
  refine Calls.mono (n1 hV.is) ?_
  rintro _ w103' ⟨rfl, hV', hk⟩
  have hR := keptB (cs := bkR x) hRa (by kernel_rfl) hag e0 hbT hk
  have hV := hV.put hV' (hcl)
  clear hk hV' hRa
  refine Back.of (LB true) hR rfl ?_
  refine sim_run 30 [] (hR.cast (by kernel_rfl)) (by kernel_rfl) trivial (fun ρ104 w104 hm104 hRa => ?_)
  have hag := hag.moved (hm104.castL (by kernel_rfl))
  have hV := hV.moved (hm104.castL (by kernel_rfl))
  clear hm104 hR
  refine sim_call 117 [.v v2] (by kernel_rfl) ?_
  simp only [denL, LV.den]
  refine Calls.mono (m2 hV.is) ?_
  rintro _ w104' ⟨rfl, hV', hk⟩
  have hR := keptB (cs := bkR x) hRa (by kernel_rfl) hag e0 hbT hk
  have hV := hV.put hV' (hcl)
  clear hk hV' hRa
  refine Back.of (LB true) hR rfl ?_
  refine sim_run 30 [] (hR.cast (by kernel_rfl)) (by kernel_rfl) trivial (fun ρ105 w105 hm105 hRa => ?_)
  have hag := hag.moved (hm105.castL (by kernel_rfl))
  have hV := hV.moved (hm105.castL (by kernel_rfl))
  clear hm105 hR
  refine sim_call 117 [.v (x 4)] (by kernel_rfl) ?_
  simp only [denL, LV.den]
  refine Calls.mono (n2 hV.is) ?_
  rintro _ w105' ⟨rfl, hV', hk⟩
  have hR := keptB (cs := bkR x) hRa (by kernel_rfl) hag e0 hbT hk
  have hV := hV.put hV' (hcl)
  clear hk hV' hRa
  refine Back.of (LB true) hR rfl ?_
  refine sim_run 30 [] (hR.cast (by kernel_rfl)) (by kernel_rfl) trivial (fun ρ106 w106 hm106 hRa => ?_)
  have hag := hag.moved (hm106.castL (by kernel_rfl))
  have hV := hV.moved (hm106.castL (by kernel_rfl))
  clear hm106 hR
  refine sim_call 118 [.v v3] (by kernel_rfl) ?_
  simp only [denL, LV.den]
  refine Calls.mono (m3 hV.is) ?_
  rintro _ w106' ⟨rfl, hV', hk⟩
  have hR := keptB (cs := bkR x) hRa (by kernel_rfl) hag e0 hbT hk
  have hV := hV.put hV' (hcl)
  clear hk hV' hRa
  refine Back.of (LB true) hR rfl ?_
  refine sim_run 30 [] (hR.cast (by kernel_rfl)) (by kernel_rfl) trivial (fun ρ107 w107 hm107 hRa => ?_)
  have hag := hag.moved (hm107.castL (by kernel_rfl))
  have hV := hV.moved (hm107.castL (by kernel_rfl))
  clear hm107 hR
  refine sim_call 118 [.v (x 6)] (by kernel_rfl) ?_
  simp only [denL, LV.den]
  refine Calls.mono (n3 hV.is) ?_
  rintro _ w107' ⟨rfl, hV', hk⟩
  have hR := keptB (cs := bkR x) hRa (by kernel_rfl) hag e0 hbT hk
  have hV := hV.put hV' (hcl)
  clear hk hV' hRa
  refine Back.of (LB true) hR rfl ?_
  refine sim_run 30 [] (hR.cast (by kernel_rfl)) (by kernel_rfl) trivial (fun ρ108 w108 hm108 hRa => ?_)
  have hag := hag.moved (hm108.castL (by kernel_rfl))
  have hV := hV.moved (hm108.castL (by kernel_rfl))
  clear hm108 hR
  refine sim_call 119 [.v v4] (by kernel_rfl) ?_
  simp only [denL, LV.den]
  refine Calls.mono (m4 hV.is) ?_
  rintro _ w108' ⟨rfl, hV', hk⟩
  have hR := keptB (cs := bkR x) hRa (by kernel_rfl) hag e0 hbT hk
  have hV := hV.put hV' (hcl)
  clear hk hV' hRa
  refine Back.of (LB true) hR rfl ?_
  refine sim_run 30 [] (hR.cast (by kernel_rfl)) (by kernel_rfl) trivial (fun ρ109 w109 hm109 hRa => ?_)
  have hag := hag.moved (hm109.castL (by kernel_rfl))
  have hV := hV.moved (hm109.castL (by kernel_rfl))
  clear hm109 hR
  refine sim_call 119 [.v (x 8)] (by kernel_rfl) ?_
  simp only [denL, LV.den]
  refine Calls.mono (n4 hV.is) ?_
  rintro _ w109' ⟨rfl, hV', hk⟩
  have hR := keptB (cs := bkR x) hRa (by kernel_rfl) hag e0 hbT hk
  have hV := hV.put hV' (hcl)
  clear hk hV' hRa
  refine Back.of (LB true) hR rfl ?_
  refine sim_run 30 [] (hR.cast (by kernel_rfl)) (by kernel_rfl) trivial (fun ρ110 w110 hm110 hRa => ?_)
  have hag := hag.moved (hm110.castL (by kernel_rfl))
  have hV := hV.moved (hm110.castL (by kernel_rfl))
  clear hm110 hR
  refine sim_call 120 [.v v5] (by kernel_rfl) ?_
  simp only [denL, LV.den]
  refine Calls.mono (m5 hV.is) ?_
  rintro _ w110' ⟨rfl, hV', hk⟩
  have hR := keptB (cs := bkR x) hRa (by kernel_rfl) hag e0 hbT hk
  have hV := hV.put hV' (hcl)
  clear hk hV' hRa
  refine Back.of (LB true) hR rfl ?_
  refine sim_run 30 [] (hR.cast (by kernel_rfl)) (by kernel_rfl) trivial (fun ρ111 w111 hm111 hRa => ?_)
  have hag := hag.moved (hm111.castL (by kernel_rfl))
  have hV := hV.moved (hm111.castL (by kernel_rfl))
  clear hm111 hR
  refine sim_call 120 [.v (x 10)] (by kernel_rfl) ?_
  simp only [denL, LV.den]
  refine Calls.mono (n5 hV.is) ?_
  rintro _ w111' ⟨rfl, hV', hk⟩
  have hR := keptB (cs := bkR x) hRa (by kernel_rfl) hag e0 hbT hk
  have hV := hV.put hV' (hcl)
  clear hk hV' hRa
  refine Back.of (LB true) hR rfl ?_
  refine sim_run 30 [] (hR.cast (by kernel_rfl)) (by kernel_rfl) trivial (fun ρ112 w112 hm112 hRa => ?_)
  have hag := hag.moved (hm112.castL (by kernel_rfl))
  have hV := hV.moved (hm112.castL (by kernel_rfl))
  clear hm112 hR
  refine sim_call 121 [.v v6] (by kernel_rfl) ?_
  simp only [denL, LV.den]
  refine Calls.mono (m6 hV.is) ?_
  rintro _ w112' ⟨rfl, hV', hk⟩
  have hR := keptB (cs := bkR x) hRa (by kernel_rfl) hag e0 hbT hk
  have hV := hV.put hV' (hcl)
  clear hk hV' hRa
  refine Back.of (LB true) hR rfl ?_
  refine sim_run 30 [] (hR.cast (by kernel_rfl)) (by kernel_rfl) trivial (fun ρ113 w113 hm113 hRa => ?_)
  have hag := hag.moved (hm113.castL (by kernel_rfl))
  have hV := hV.moved (hm113.castL (by kernel_rfl))
  clear hm113 hR
  refine sim_call 121 [.v (x 12)] (by kernel_rfl) ?_
  simp only [denL, LV.den]
  refine Calls.mono (n6 hV.is) ?_
  rintro _ w113' ⟨rfl, hV', hk⟩
  have hR := keptB (cs := bkR x) hRa (by kernel_rfl) hag e0 hbT hk
  have hV := hV.put hV' (hcl)
  clear hk hV' hRa
  refine Back.of (LB true) hR rfl ?_
  refine sim_run 30 [] (hR.cast (by kernel_rfl)) (by kernel_rfl) trivial (fun ρ114 w114 hm114 hRa => ?_)
  have hag := hag.moved (hm114.castL (by kernel_rfl))
  have hV := hV.moved (hm114.castL (by kernel_rfl))
  clear hm114 hR
  refine sim_call 122 [.v v7] (by kernel_rfl) ?_
  simp only [denL, LV.den]
  refine Calls.mono (m7 hV.is) ?_
  rintro _ w114' ⟨rfl, hV', hk⟩
  have hR := keptB (cs := bkR x) hRa (by kernel_rfl) hag e0 hbT hk
  have hV := hV.put hV' (hcl)
  clear hk hV' hRa
  refine Back.of (LB true) hR rfl ?_
  refine sim_run 30 [] (hR.cast (by kernel_rfl)) (by kernel_rfl) trivial (fun ρ115 w115 hm115 hRa => ?_)
  have hag := hag.moved (hm115.castL (by kernel_rfl))
  have hV := hV.moved (hm115.castL (by kernel_rfl))
  clear hm115 hR
  refine sim_call 122 [.v (x 14)] (by kernel_rfl) ?_
  simp only [denL, LV.den]
  refine Calls.mono (n7 hV.is) ?_
  rintro _ w115' ⟨rfl, hV', hk⟩
  have hR := keptB (cs := bkR x) hRa (by kernel_rfl) hag e0 hbT hk
  have hV := hV.put hV' (hcl)
  clear hk hV' hRa
  refine Back.of (LB true) hR rfl ?_
  refine sim_run 30 [] (hR.cast (by kernel_rfl)) (by kernel_rfl) trivial (fun ρ116 w116 hm116 hRa => ?_)
  have hag := hag.moved (hm116.castL (by kernel_rfl))
  have hV := hV.moved (hm116.castL (by kernel_rfl))
  clear hm116 hR
  refine sim_call 123 [.v v8] (by kernel_rfl) ?_
  simp only [denL, LV.den]
  refine Calls.mono (m8 hV.is) ?_
  rintro _ w116' ⟨rfl, hV', hk⟩
  have hR := keptB (cs := bkR x) hRa (by kernel_rfl) hag e0 hbT hk
  have hV := hV.put hV' (hcl)
  clear hk hV' hRa
  refine Back.of (LB true) hR rfl ?_
  refine sim_run 30 [] (hR.cast (by kernel_rfl)) (by kernel_rfl) trivial (fun ρ117 w117 hm117 hRa => ?_)
  have hag := hag.moved (hm117.castL (by kernel_rfl))
  have hV := hV.moved (hm117.castL (by kernel_rfl))
  clear hm117 hR
  refine sim_call 123 [.v (x 16)] (by kernel_rfl) ?_
  simp only [denL, LV.den]
  refine Calls.mono (n8 hV.is) ?_
  rintro _ w117' ⟨rfl, hV', hk⟩
  have hR := keptB (cs := bkR x) hRa (by kernel_rfl) hag e0 hbT hk
  have hV := hV.put hV' (hcl)
  clear hk hV' hRa
  refine Back.of (LB true) hR rfl ?_
  refine sim_run 30 [] (hR.cast (by kernel_rfl)) (by kernel_rfl) trivial (fun ρ118 w118 hm118 hRa => ?_)
  have hag := hag.moved (hm118.castL (by kernel_rfl))
  have hV := hV.moved (hm118.castL (by kernel_rfl))
  clear hm118 hR
  refine sim_call 124 [.v v9] (by kernel_rfl) ?_
  simp only [denL, LV.den]
  refine Calls.mono (m9 hV.is) ?_
  rintro _ w118' ⟨rfl, hV', hk⟩
  have hR := keptB (cs := bkR x) hRa (by kernel_rfl) hag e0 hbT hk
  have hV := hV.put hV' (hcl)
  clear hk hV' hRa
  refine Back.of (LB true) hR rfl ?_
  refine sim_run 30 [] (hR.cast (by kernel_rfl)) (by kernel_rfl) trivial (fun ρ119 w119 hm119 hRa => ?_)
  have hag := hag.moved (hm119.castL (by kernel_rfl))
  have hV := hV.moved (hm119.castL (by kernel_rfl))
  clear hm119 hR
  refine sim_call 124 [.v (x 18)] (by kernel_rfl) ?_
  simp only [denL, LV.den]
  refine Calls.mono (n9 hV.is) ?_
  rintro _ w119' ⟨rfl, hV', hk⟩
  have hR := keptB (cs := bkR x) hRa (by kernel_rfl) hag e0 hbT hk
  have hV := hV.put hV' (hcl)
  clear hk hV' hRa
  refine Back.of (LB true) hR rfl ?_
  refine sim_run 30 [] (hR.cast (by kernel_rfl)) (by kernel_rfl) trivial (fun ρ120 w120 hm120 hRa => ?_)
  have hag := hag.moved (hm120.castL (by kernel_rfl))
  have hV := hV.moved (hm120.castL (by kernel_rfl))
  clear hm120 hR
  refine sim_call 125 [.v v10] (by kernel_rfl) ?_
  simp only [denL, LV.den]
  refine Calls.mono (m10 hV.is) ?_
  rintro _ w120' ⟨rfl, hV', hk⟩
  have hR := keptB (cs := bkR x) hRa (by kernel_rfl) hag e0 hbT hk
  have hV := hV.put hV' (hcl)
  clear hk hV' hRa
  refine Back.of (LB true) hR rfl ?_
  refine sim_run 30 [] (hR.cast (by kernel_rfl)) (by kernel_rfl) trivial (fun ρ121 w121 hm121 hRa => ?_)
  have hag := hag.moved (hm121.castL (by kernel_rfl))
  have hV := hV.moved (hm121.castL (by kernel_rfl))
  clear hm121 hR
  refine sim_call 125 [.v (x 20)] (by kernel_rfl) ?_
  simp only [denL, LV.den]
  refine Calls.mono (n10 hV.is) ?_
  rintro _ w121' ⟨rfl, hV', hk⟩
  have hR := keptB (cs := bkR x) hRa (by kernel_rfl) hag e0 hbT hk
  have hV := hV.put hV' (hcl)
  clear hk hV' hRa
  refine Back.of (LB true) hR rfl ?_
  refine sim_run 30 [] (hR.cast (by kernel_rfl)) (by kernel_rfl) trivial (fun ρ122 w122 hm122 hRa => ?_)
  have hag := hag.moved (hm122.castL (by kernel_rfl))
  have hV := hV.moved (hm122.castL (by kernel_rfl))
  clear hm122 hR
  refine sim_call 126 [.v v11] (by kernel_rfl) ?_
  simp only [denL, LV.den]
  refine Calls.mono (m11 hV.is) ?_
  rintro _ w122' ⟨rfl, hV', hk⟩
  have hR := keptB (cs := bkR x) hRa (by kernel_rfl) hag e0 hbT hk
  have hV := hV.put hV' (hcl)
  clear hk hV' hRa
  refine Back.of (LB true) hR rfl ?_
  refine sim_run 30 [] (hR.cast (by kernel_rfl)) (by kernel_rfl) trivial (fun ρ123 w123 hm123 hRa => ?_)
  have hag := hag.moved (hm123.castL (by kernel_rfl))
  have hV := hV.moved (hm123.castL (by kernel_rfl))
  clear hm123 hR
  refine sim_call 126 [.v (x 22)] (by kernel_rfl) ?_
  simp only [denL, LV.den]
  refine Calls.mono (n11 hV.is) ?_
  rintro _ w123' ⟨rfl, hV', hk⟩
  have hR := keptB (cs := bkR x) hRa (by kernel_rfl) hag e0 hbT hk
  have hV := hV.put hV' (hcl)
  clear hk hV' hRa
  refine Back.of (LB true) hR rfl ?_
  refine sim_run 30 [] (hR.cast (by kernel_rfl)) (by kernel_rfl) trivial (fun ρ124 w124 hm124 hRa => ?_)
  have hag := hag.moved (hm124.castL (by kernel_rfl))
  have hV := hV.moved (hm124.castL (by kernel_rfl))
  clear hm124 hR
  refine sim_call 127 [.v v12] (by kernel_rfl) ?_
  simp only [denL, LV.den]
  refine Calls.mono (m12 hV.is) ?_
  rintro _ w124' ⟨rfl, hV', hk⟩
  have hR := keptB (cs := bkR x) hRa (by kernel_rfl) hag e0 hbT hk
  have hV := hV.put hV' (hcl)
  clear hk hV' hRa
  refine Back.of (LB true) hR rfl ?_
  refine sim_run 30 [] (hR.cast (by kernel_rfl)) (by kernel_rfl) trivial (fun ρ125 w125 hm125 hRa => ?_)
  have hag := hag.moved (hm125.castL (by kernel_rfl))
  have hV := hV.moved (hm125.castL (by kernel_rfl))
  clear hm125 hR
  refine sim_call 127 [.v (x 24)] (by kernel_rfl) ?_
  simp only [denL, LV.den]
  refine Calls.mono (n12 hV.is) ?_
  rintro _ w125' ⟨rfl, hV', hk⟩
  have hR := keptB (cs := bkR x) hRa (by kernel_rfl) hag e0 hbT hk
  have hV := hV.put hV' (hcl)
  clear hk hV' hRa
  refine Back.of (LB true) hR rfl ?_
  refine sim_run 30 [] (hR.cast (by kernel_rfl)) (by kernel_rfl) trivial (fun ρ126 w126 hm126 hRa => ?_)
  have hag := hag.moved (hm126.castL (by kernel_rfl))
  have hV := hV.moved (hm126.castL (by kernel_rfl))
  clear hm126 hR
  refine sim_call 128 [.v v13] (by kernel_rfl) ?_
  simp only [denL, LV.den]
  refine Calls.mono (m13 hV.is) ?_
  rintro _ w126' ⟨rfl, hV', hk⟩
  have hR := keptB (cs := bkR x) hRa (by kernel_rfl) hag e0 hbT hk
  have hV := hV.put hV' (hcl)
  clear hk hV' hRa
  refine Back.of (LB true) hR rfl ?_
  refine sim_run 30 [] (hR.cast (by kernel_rfl)) (by kernel_rfl) trivial (fun ρ127 w127 hm127 hRa => ?_)
  have hag := hag.moved (hm127.castL (by kernel_rfl))
  have hV := hV.moved (hm127.castL (by kernel_rfl))
  clear hm127 hR
  refine sim_call 128 [.v (x 26)] (by kernel_rfl) ?_
  simp only [denL, LV.den]
  refine Calls.mono (n13 hV.is) ?_
  rintro _ w127' ⟨rfl, hV', hk⟩
  have hR := keptB (cs := bkR x) hRa (by kernel_rfl) hag e0 hbT hk
  have hV := hV.put hV' (hcl)
  clear hk hV' hRa
  refine Back.of (LB true) hR rfl ?_
  refine sim_run 30 [] (hR.cast (by kernel_rfl)) (by kernel_rfl) trivial (fun ρ128 w128 hm128 hRa => ?_)
  have hag := hag.moved (hm128.castL (by kernel_rfl))
  have hV := hV.moved (hm128.castL (by kernel_rfl))
  clear hm128 hR
  refine sim_call 129 [.v v14] (by kernel_rfl) ?_
  simp only [denL, LV.den]
  refine Calls.mono (m14 hV.is) ?_
  rintro _ w128' ⟨rfl, hV', hk⟩
  have hR := keptB (cs := bkR x) hRa (by kernel_rfl) hag e0 hbT hk
  have hV := hV.put hV' (hcl)
  clear hk hV' hRa
  refine Back.of (LB true) hR rfl ?_
  refine sim_run 30 [] (hR.cast (by kernel_rfl)) (by kernel_rfl) trivial (fun ρ129 w129 hm129 hRa => ?_)
  have hag := hag.moved (hm129.castL (by kernel_rfl))
  have hV := hV.moved (hm129.castL (by kernel_rfl))
  clear hm129 hR
  refine sim_call 129 [.v (x 28)] (by kernel_rfl) ?_
  simp only [denL, LV.den]
  refine Calls.mono (n14 hV.is) ?_
  rintro _ w129' ⟨rfl, hV', hk⟩
  have hR := keptB (cs := bkR x) hRa (by kernel_rfl) hag e0 hbT hk
  have hV := hV.put hV' (hcl)
  clear hk hV' hRa
  refine Back.of (LB true) hR rfl ?_
  refine sim_run 30 [] (hR.cast (by kernel_rfl)) (by kernel_rfl) trivial (fun ρ130 w130 hm130 hRa => ?_)
  have hag := hag.moved (hm130.castL (by kernel_rfl))
  have hV := hV.moved (hm130.castL (by kernel_rfl))
  clear hm130 hR
  refine sim_call 130 [.v v15] (by kernel_rfl) ?_
  simp only [denL, LV.den]
  refine Calls.mono (m15 hV.is) ?_
  rintro _ w130' ⟨rfl, hV', hk⟩
  have hR := keptB (cs := bkR x) hRa (by kernel_rfl) hag e0 hbT hk
  have hV := hV.put hV' (hcl)
  clear hk hV' hRa
  refine Back.of (LB true) hR rfl ?_
  refine sim_run 30 [] (hR.cast (by kernel_rfl)) (by kernel_rfl) trivial (fun ρ131 w131 hm131 hRa => ?_)
  have hag := hag.moved (hm131.castL (by kernel_rfl))
  have hV := hV.moved (hm131.castL (by kernel_rfl))
  clear hm131 hR
  refine sim_call 130 [.v (x 30)] (by kernel_rfl) ?_
  simp only [denL, LV.den]
  refine Calls.mono (n15 hV.is) ?_
  rintro _ w131' ⟨rfl, hV', hk⟩
  have hR := keptB (cs := bkR x) hRa (by kernel_rfl) hag e0 hbT hk
  have hV := hV.put hV' (hcl)
  clear hk hV' hRa
  refine Back.of (LB true) hR rfl ?_
  refine sim_run 30 [] (hR.cast (by kernel_rfl)) (by kernel_rfl) trivial (fun ρ132 w132 hm132 hRa => ?_)
  have hag := hag.moved (hm132.castL (by kernel_rfl))
  have hV := hV.moved (hm132.castL (by kernel_rfl))
  clear hm132 hR
  refine sim_call 131 [.v v16] (by kernel_rfl) ?_
  simp only [denL, LV.den]
  refine Calls.mono (m16 hV.is) ?_
  rintro _ w132' ⟨rfl, hV', hk⟩
  have hR := keptB (cs := bkR x) hRa (by kernel_rfl) hag e0 hbT hk
  have hV := hV.put hV' (hcl)
  clear hk hV' hRa
  refine Back.of (LB true) hR rfl ?_
  refine sim_run 30 [] (hR.cast (by kernel_rfl)) (by kernel_rfl) trivial (fun ρ133 w133 hm133 hRa => ?_)
  have hag := hag.moved (hm133.castL (by kernel_rfl))
  have hV := hV.moved (hm133.castL (by kernel_rfl))
  clear hm133 hR
  refine sim_call 131 [.v (x 32)] (by kernel_rfl) ?_
  simp only [denL, LV.den]
  refine Calls.mono (n16 hV.is) ?_
  rintro _ w133' ⟨rfl, hV', hk⟩
  have hR := keptB (cs := bkR x) hRa (by kernel_rfl) hag e0 hbT hk
  have hV := hV.put hV' (hcl)
  clear hk hV' hRa
  refine Back.of (LB true) hR rfl ?_
  refine sim_run 30 [] (hR.cast (by kernel_rfl)) (by kernel_rfl) trivial (fun ρ134 w134 hm134 hRa => ?_)
  refine sim_ret (LB true) hRa (by kernel_rfl) (by kernel_rfl) ?_
  exact ⟨rfl, hRa.keeps.kept⟩
set_option maxRecDepth 100000 in
set_option maxHeartbeats 4000000 in
theorem apart_c {V : Nat → List Value → World → Prop} (hcl : ∀ n vs w w', V n vs w → Below w.heap.size w w' → V n vs w') (hbT : b ∉ T)
  (g0 : ∀ {vs w}, V 17 vs w → vs.length = 0 → Calls Tryz.prog 98 #[.pointer (some ⟨b, 0, none⟩)] w fun e w' => ∃ v, e = .returned v ∧ V 18 (vs ++ [v]) w' ∧ Kept (· ∈ T) w w')
  (g1 : ∀ {vs w}, V 18 vs w → vs.length = 1 → Calls Tryz.prog 99 #[.pointer (some ⟨b, 0, none⟩)] w fun e w' => ∃ v, e = .returned v ∧ V 19 (vs ++ [v]) w' ∧ Kept (· ∈ T) w w')
  (g2 : ∀ {vs w}, V 19 vs w → vs.length = 2 → Calls Tryz.prog 100 #[.pointer (some ⟨b, 0, none⟩)] w fun e w' => ∃ v, e = .returned v ∧ V 20 (vs ++ [v]) w' ∧ Kept (· ∈ T) w w')
  (g3 : ∀ {vs w}, V 20 vs w → vs.length = 3 → Calls Tryz.prog 101 #[.pointer (some ⟨b, 0, none⟩)] w fun e w' => ∃ v, e = .returned v ∧ V 21 (vs ++ [v]) w' ∧ Kept (· ∈ T) w w')
  (g4 : ∀ {vs w}, V 21 vs w → vs.length = 4 → Calls Tryz.prog 102 #[.pointer (some ⟨b, 0, none⟩)] w fun e w' => ∃ v, e = .returned v ∧ V 22 (vs ++ [v]) w' ∧ Kept (· ∈ T) w w')
  (g5 : ∀ {vs w}, V 22 vs w → vs.length = 5 → Calls Tryz.prog 103 #[.pointer (some ⟨b, 0, none⟩)] w fun e w' => ∃ v, e = .returned v ∧ V 23 (vs ++ [v]) w' ∧ Kept (· ∈ T) w w')
  (g6 : ∀ {vs w}, V 23 vs w → vs.length = 6 → Calls Tryz.prog 104 #[.pointer (some ⟨b, 0, none⟩)] w fun e w' => ∃ v, e = .returned v ∧ V 24 (vs ++ [v]) w' ∧ Kept (· ∈ T) w w')
  (g7 : ∀ {vs w}, V 24 vs w → vs.length = 7 → Calls Tryz.prog 105 #[.pointer (some ⟨b, 0, none⟩)] w fun e w' => ∃ v, e = .returned v ∧ V 25 (vs ++ [v]) w' ∧ Kept (· ∈ T) w w')
  (g8 : ∀ {vs w}, V 25 vs w → vs.length = 8 → Calls Tryz.prog 106 #[.pointer (some ⟨b, 0, none⟩)] w fun e w' => ∃ v, e = .returned v ∧ V 26 (vs ++ [v]) w' ∧ Kept (· ∈ T) w w')
  (g9 : ∀ {vs w}, V 26 vs w → vs.length = 9 → Calls Tryz.prog 107 #[.pointer (some ⟨b, 0, none⟩)] w fun e w' => ∃ v, e = .returned v ∧ V 27 (vs ++ [v]) w' ∧ Kept (· ∈ T) w w')
  (g10 : ∀ {vs w}, V 27 vs w → vs.length = 10 → Calls Tryz.prog 108 #[.pointer (some ⟨b, 0, none⟩)] w fun e w' => ∃ v, e = .returned v ∧ V 28 (vs ++ [v]) w' ∧ Kept (· ∈ T) w w')
  (g11 : ∀ {vs w}, V 28 vs w → vs.length = 11 → Calls Tryz.prog 109 #[.pointer (some ⟨b, 0, none⟩)] w fun e w' => ∃ v, e = .returned v ∧ V 29 (vs ++ [v]) w' ∧ Kept (· ∈ T) w w')
  (g12 : ∀ {vs w}, V 29 vs w → vs.length = 12 → Calls Tryz.prog 110 #[.pointer (some ⟨b, 0, none⟩)] w fun e w' => ∃ v, e = .returned v ∧ V 30 (vs ++ [v]) w' ∧ Kept (· ∈ T) w w')
  (g13 : ∀ {vs w}, V 30 vs w → vs.length = 13 → Calls Tryz.prog 111 #[.pointer (some ⟨b, 0, none⟩)] w fun e w' => ∃ v, e = .returned v ∧ V 31 (vs ++ [v]) w' ∧ Kept (· ∈ T) w w')
  (g14 : ∀ {vs w}, V 31 vs w → vs.length = 14 → Calls Tryz.prog 112 #[.pointer (some ⟨b, 0, none⟩)] w fun e w' => ∃ v, e = .returned v ∧ V 32 (vs ++ [v]) w' ∧ Kept (· ∈ T) w w')
  (g15 : ∀ {vs w}, V 32 vs w → vs.length = 15 → Calls Tryz.prog 113 #[.pointer (some ⟨b, 0, none⟩)] w fun e w' => ∃ v, e = .returned v ∧ V 33 (vs ++ [v]) w' ∧ Kept (· ∈ T) w w')
  (g16 : ∀ {vs w}, V 33 vs w → vs.length = 16 → Calls Tryz.prog 114 #[.pointer (some ⟨b, 0, none⟩)] w fun e w' => ∃ v, e = .returned v ∧ V 34 (vs ++ [v]) w' ∧ Kept (· ∈ T) w w')
  (next : ∀ (v0 v1 v2 v3 v4 v5 v6 v7 v8 v9 v10 v11 v12 v13 v14 v15 v16 : Value) (w : World) (ρ : Nm) (d : Nat → Value), Rel T wS ρ [⟨bkR x, false⟩] w → V 34 (v0 :: v1 :: v2 :: v3 :: v4 :: v5 :: v6 :: v7 :: v8 :: v9 :: v10 :: v11 :: v12 :: v13 :: v14 :: v15 :: v16 :: []) w → ρ 0 = (b, 0) → At Tryz.prog (bodyPost Tryz.prog Tryz.f26 fun e w' => e = .returned (.bool true) ∧ Kept (· ∈ T) wS w') ⟨regK Tryz.f26 69, fillJ (tmplJ Tryz.f26.ntmps 0 [(0, .ptr 0 0), (3, .v v0), (4, .v v1), (5, .v v2), (6, .v v3), (7, .v v4), (8, .v v5), (9, .v v6), (10, .v v7), (11, .v v8), (12, .v v9), (13, .v v10), (14, .v v11), (15, .v v12), (16, .v v13), (17, .v v14), (18, .v v15), (19, .v v16)]) d 0, [⟨bkR x, false⟩]⟩ ρ w)
  (w : World) (ρ : Nm) (hR : Rel T wS ρ [⟨bkR x, false⟩] w) (hV : V 17 [] w) (e0 : ρ 0 = (b, 0)) (d : Nat → Value) :
    At Tryz.prog (bodyPost Tryz.prog Tryz.f26 fun e w' => e = .returned (.bool true) ∧ Kept (· ∈ T) wS w') ⟨regK Tryz.f26 52, fillJ (tmplJ Tryz.f26.ntmps 0 [(0, .ptr 0 0)]) d 0, [⟨bkR x, false⟩]⟩ ρ w := by
  have hag := hR.ag_ 1 (by kernel_rfl)
  have hV := VS.of (ρ := ρ) (rs := [⟨bkR x, false⟩]) hV rfl (hcl _ _)
  refine sim_run 30 [] (hR.cast (by kernel_rfl)) (by kernel_rfl) trivial (fun ρ100 w100 hm100 hRa => ?_)
  have hag := hag.moved (hm100.castL (by kernel_rfl))
  have hV := hV.moved (hm100.castL (by kernel_rfl))
  clear hm100 hR
  refine sim_call 98 [.ptr 0 0] (by kernel_rfl) ?_
  simp only [denL, LV.den, Nm.at_, (hag.at_ 0 (by omega)).trans e0, Nat.add_zero]
  refine Calls.mono (g0 hV.is rfl) ?_
  rintro _ w100' ⟨v0, rfl, hV', hk⟩
  have hR := keptB (cs := bkR x) hRa (by kernel_rfl) hag e0 hbT hk
  have hV := hV.put hV' (hcl _ _)
  clear hk hV' hRa
  refine Back.of (.v v0) hR rfl ?_
  refine sim_run 4 [] (hR.cast (by kernel_rfl)) (by kernel_rfl) trivial (fun ρ150 w150 hm150 hRa => ?_)
  have hag := hag.moved (hm150.castL (by kernel_rfl))
  have hV := hV.moved (hm150.castL (by kernel_rfl))
  clear hm150 hR
  have hR := hRa
  clear hRa
  refine sim_to (regK Tryz.f26 53) (tmplJ Tryz.f26.ntmps 0 [(0, .ptr 0 0), (3, .v v0)]) [⟨bkR x, false⟩] (by kernel_rfl) (by kernel_rfl) (by kernel_rfl) (fun d => ?_)
  have hR := hR.cast (rs' := [⟨bkR x, false⟩]) (by kernel_rfl)
  have hV := hV.castR (rs' := [⟨bkR x, false⟩]) (by kernel_rfl)
  have hag := hag.castR (rs' := [⟨bkR x, false⟩]) (by kernel_rfl)
  refine sim_run 30 [] (hR.cast (by kernel_rfl)) (by kernel_rfl) trivial (fun ρ101 w101 hm101 hRa => ?_)
  have hag := hag.moved (hm101.castL (by kernel_rfl))
  have hV := hV.moved (hm101.castL (by kernel_rfl))
  clear hm101 hR
  refine sim_call 99 [.ptr 0 0] (by kernel_rfl) ?_
  simp only [denL, LV.den, Nm.at_, (hag.at_ 0 (by omega)).trans e0, Nat.add_zero]
  refine Calls.mono (g1 hV.is rfl) ?_
  rintro _ w101' ⟨v1, rfl, hV', hk⟩
  have hR := keptB (cs := bkR x) hRa (by kernel_rfl) hag e0 hbT hk
  have hV := hV.put hV' (hcl _ _)
  clear hk hV' hRa
  refine Back.of (.v v1) hR rfl ?_
  refine sim_run 4 [] (hR.cast (by kernel_rfl)) (by kernel_rfl) trivial (fun ρ151 w151 hm151 hRa => ?_)
  have hag := hag.moved (hm151.castL (by kernel_rfl))
  have hV := hV.moved (hm151.castL (by kernel_rfl))
  clear hm151 hR
  have hR := hRa
  clear hRa
  refine sim_to (regK Tryz.f26 54) (tmplJ Tryz.f26.ntmps 0 [(0, .ptr 0 0), (3, .v v0), (4, .v v1)]) [⟨bkR x, false⟩] (by kernel_rfl) (by kernel_rfl) (by kernel_rfl) (fun d => ?_)
  have hR := hR.cast (rs' := [⟨bkR x, false⟩]) (by kernel_rfl)
  have hV := hV.castR (rs' := [⟨bkR x, false⟩]) (by kernel_rfl)
  have hag := hag.castR (rs' := [⟨bkR x, false⟩]) (by kernel_rfl)
  refine sim_run 30 [] (hR.cast (by kernel_rfl)) (by kernel_rfl) trivial (fun ρ102 w102 hm102 hRa => ?_)
  have hag := hag.moved (hm102.castL (by kernel_rfl))
  have hV := hV.moved (hm102.castL (by kernel_rfl))
  clear hm102 hR
  refine sim_call 100 [.ptr 0 0] (by kernel_rfl) ?_
  simp only [denL, LV.den, Nm.at_, (hag.at_ 0 (by omega)).trans e0, Nat.add_zero]
  refine Calls.mono (g2 hV.is rfl) ?_
  rintro _ w102' ⟨v2, rfl, hV', hk⟩
  have hR := keptB (cs := bkR x) hRa (by kernel_rfl) hag e0 hbT hk
  have hV := hV.put hV' (hcl _ _)
  clear hk hV' hRa
  refine Back.of (.v v2) hR rfl ?_
  refine sim_run 4 [] (hR.cast (by kernel_rfl)) (by kernel_rfl) trivial (fun ρ152 w152 hm152 hRa => ?_)
  have hag := hag.moved (hm152.castL (by kernel_rfl))
  have hV := hV.moved (hm152.castL (by kernel_rfl))
  clear hm152 hR
  have hR := hRa
  clear hRa
  refine sim_to (regK Tryz.f26 55) (tmplJ Tryz.f26.ntmps 0 [(0, .ptr 0 0), (3, .v v0), (4, .v v1), (5, .v v2)]) [⟨bkR x, false⟩] (by kernel_rfl) (by kernel_rfl) (by kernel_rfl) (fun d => ?_)
  have hR := hR.cast (rs' := [⟨bkR x, false⟩]) (by kernel_rfl)
  have hV := hV.castR (rs' := [⟨bkR x, false⟩]) (by kernel_rfl)
  have hag := hag.castR (rs' := [⟨bkR x, false⟩]) (by kernel_rfl)
  refine sim_run 30 [] (hR.cast (by kernel_rfl)) (by kernel_rfl) trivial (fun ρ103 w103 hm103 hRa => ?_)
  have hag := hag.moved (hm103.castL (by kernel_rfl))
  have hV := hV.moved (hm103.castL (by kernel_rfl))
  clear hm103 hR
  refine sim_call 101 [.ptr 0 0] (by kernel_rfl) ?_
  simp only [denL, LV.den, Nm.at_, (hag.at_ 0 (by omega)).trans e0, Nat.add_zero]
  refine Calls.mono (g3 hV.is rfl) ?_
  rintro _ w103' ⟨v3, rfl, hV', hk⟩
  have hR := keptB (cs := bkR x) hRa (by kernel_rfl) hag e0 hbT hk
  have hV := hV.put hV' (hcl _ _)
  clear hk hV' hRa
  refine Back.of (.v v3) hR rfl ?_
  refine sim_run 4 [] (hR.cast (by kernel_rfl)) (by kernel_rfl) trivial (fun ρ153 w153 hm153 hRa => ?_)
  have hag := hag.moved (hm153.castL (by kernel_rfl))
  have hV := hV.moved (hm153.castL (by kernel_rfl))
  clear hm153 hR
  have hR := hRa
  clear hRa
  refine sim_to (regK Tryz.f26 56) (tmplJ Tryz.f26.ntmps 0 [(0, .ptr 0 0), (3, .v v0), (4, .v v1), (5, .v v2), (6, .v v3)]) [⟨bkR x, false⟩] (by kernel_rfl) (by kernel_rfl) (by kernel_rfl) (fun d => ?_)
  have hR := hR.cast (rs' := [⟨bkR x, false⟩]) (by kernel_rfl)
  have hV := hV.castR (rs' := [⟨bkR x, false⟩]) (by kernel_rfl)
  have hag := hag.castR (rs' := [⟨bkR x, false⟩]) (by kernel_rfl)
  refine sim_run 30 [] (hR.cast (by kernel_rfl)) (by kernel_rfl) trivial (fun ρ104 w104 hm104 hRa => ?_)
  have hag := hag.moved (hm104.castL (by kernel_rfl))
  have hV := hV.moved (hm104.castL (by kernel_rfl))
  clear hm104 hR
  refine sim_call 102 [.ptr 0 0] (by kernel_rfl) ?_
  simp only [denL, LV.den, Nm.at_, (hag.at_ 0 (by omega)).trans e0, Nat.add_zero]
  refine Calls.mono (g4 hV.is rfl) ?_
  rintro _ w104' ⟨v4, rfl, hV', hk⟩
  have hR := keptB (cs := bkR x) hRa (by kernel_rfl) hag e0 hbT hk
  have hV := hV.put hV' (hcl _ _)
  clear hk hV' hRa
  refine Back.of (.v v4) hR rfl ?_
  refine sim_run 4 [] (hR.cast (by kernel_rfl)) (by kernel_rfl) trivial (fun ρ154 w154 hm154 hRa => ?_)
  have hag := hag.moved (hm154.castL (by kernel_rfl))
  have hV := hV.moved (hm154.castL (by kernel_rfl))
  clear hm154 hR
  have hR := hRa
  clear hRa
  refine sim_to (regK Tryz.f26 57) (tmplJ Tryz.f26.ntmps 0 [(0, .ptr 0 0), (3, .v v0), (4, .v v1), (5, .v v2), (6, .v v3), (7, .v v4)]) [⟨bkR x, false⟩] (by kernel_rfl) (by kernel_rfl) (by kernel_rfl) (fun d => ?_)
  have hR := hR.cast (rs' := [⟨bkR x, false⟩]) (by kernel_rfl)
  have hV := hV.castR (rs' := [⟨bkR x, false⟩]) (by kernel_rfl)
  have hag := hag.castR (rs' := [⟨bkR x, false⟩]) (by kernel_rfl)
  refine sim_run 30 [] (hR.cast (by kernel_rfl)) (by kernel_rfl) trivial (fun ρ105 w105 hm105 hRa => ?_)
  have hag := hag.moved (hm105.castL (by kernel_rfl))
  have hV := hV.moved (hm105.castL (by kernel_rfl))
  clear hm105 hR
  refine sim_call 103 [.ptr 0 0] (by kernel_rfl) ?_
  simp only [denL, LV.den, Nm.at_, (hag.at_ 0 (by omega)).trans e0, Nat.add_zero]
  refine Calls.mono (g5 hV.is rfl) ?_
  rintro _ w105' ⟨v5, rfl, hV', hk⟩
  have hR := keptB (cs := bkR x) hRa (by kernel_rfl) hag e0 hbT hk
  have hV := hV.put hV' (hcl _ _)
  clear hk hV' hRa
  refine Back.of (.v v5) hR rfl ?_
  refine sim_run 4 [] (hR.cast (by kernel_rfl)) (by kernel_rfl) trivial (fun ρ155 w155 hm155 hRa => ?_)
  have hag := hag.moved (hm155.castL (by kernel_rfl))
  have hV := hV.moved (hm155.castL (by kernel_rfl))
  clear hm155 hR
  have hR := hRa
  clear hRa
  refine sim_to (regK Tryz.f26 58) (tmplJ Tryz.f26.ntmps 0 [(0, .ptr 0 0), (3, .v v0), (4, .v v1), (5, .v v2), (6, .v v3), (7, .v v4), (8, .v v5)]) [⟨bkR x, false⟩] (by kernel_rfl) (by kernel_rfl) (by kernel_rfl) (fun d => ?_)
  have hR := hR.cast (rs' := [⟨bkR x, false⟩]) (by kernel_rfl)
  have hV := hV.castR (rs' := [⟨bkR x, false⟩]) (by kernel_rfl)
  have hag := hag.castR (rs' := [⟨bkR x, false⟩]) (by kernel_rfl)
  refine sim_run 30 [] (hR.cast (by kernel_rfl)) (by kernel_rfl) trivial (fun ρ106 w106 hm106 hRa => ?_)
  have hag := hag.moved (hm106.castL (by kernel_rfl))
  have hV := hV.moved (hm106.castL (by kernel_rfl))
  clear hm106 hR
  refine sim_call 104 [.ptr 0 0] (by kernel_rfl) ?_
  simp only [denL, LV.den, Nm.at_, (hag.at_ 0 (by omega)).trans e0, Nat.add_zero]
  refine Calls.mono (g6 hV.is rfl) ?_
  rintro _ w106' ⟨v6, rfl, hV', hk⟩
  have hR := keptB (cs := bkR x) hRa (by kernel_rfl) hag e0 hbT hk
  have hV := hV.put hV' (hcl _ _)
  clear hk hV' hRa
  refine Back.of (.v v6) hR rfl ?_
  refine sim_run 4 [] (hR.cast (by kernel_rfl)) (by kernel_rfl) trivial (fun ρ156 w156 hm156 hRa => ?_)
  have hag := hag.moved (hm156.castL (by kernel_rfl))
  have hV := hV.moved (hm156.castL (by kernel_rfl))
  clear hm156 hR
  have hR := hRa
  clear hRa
  refine sim_to (regK Tryz.f26 59) (tmplJ Tryz.f26.ntmps 0 [(0, .ptr 0 0), (3, .v v0), (4, .v v1), (5, .v v2), (6, .v v3), (7, .v v4), (8, .v v5), (9, .v v6)]) [⟨bkR x, false⟩] (by kernel_rfl) (by kernel_rfl) (by kernel_rfl) (fun d => ?_)
  have hR := hR.cast (rs' := [⟨bkR x, false⟩]) (by kernel_rfl)
  have hV := hV.castR (rs' := [⟨bkR x, false⟩]) (by kernel_rfl)
  have hag := hag.castR (rs' := [⟨bkR x, false⟩]) (by kernel_rfl)
  refine sim_run 30 [] (hR.cast (by kernel_rfl)) (by kernel_rfl) trivial (fun ρ107 w107 hm107 hRa => ?_)
  have hag := hag.moved (hm107.castL (by kernel_rfl))
  have hV := hV.moved (hm107.castL (by kernel_rfl))
  clear hm107 hR
  refine sim_call 105 [.ptr 0 0] (by kernel_rfl) ?_
  simp only [denL, LV.den, Nm.at_, (hag.at_ 0 (by omega)).trans e0, Nat.add_zero]
  refine Calls.mono (g7 hV.is rfl) ?_
  rintro _ w107' ⟨v7, rfl, hV', hk⟩
  have hR := keptB (cs := bkR x) hRa (by kernel_rfl) hag e0 hbT hk
  have hV := hV.put hV' (hcl _ _)
  clear hk hV' hRa
  refine Back.of (.v v7) hR rfl ?_
  refine sim_run 4 [] (hR.cast (by kernel_rfl)) (by kernel_rfl) trivial (fun ρ157 w157 hm157 hRa => ?_)
  have hag := hag.moved (hm157.castL (by kernel_rfl))
  have hV := hV.moved (hm157.castL (by kernel_rfl))
  clear hm157 hR
  have hR := hRa
  clear hRa
  refine sim_to (regK Tryz.f26 60) (tmplJ Tryz.f26.ntmps 0 [(0, .ptr 0 0), (3, .v v0), (4, .v v1), (5, .v v2), (6, .v v3), (7, .v v4), (8, .v v5), (9, .v v6), (10, .v v7)]) [⟨bkR x, false⟩] (by kernel_rfl) (by kernel_rfl) (by kernel_rfl) (fun d => ?_)
  have hR := hR.cast (rs' := [⟨bkR x, false⟩]) (by kernel_rfl)
  have hV := hV.castR (rs' := [⟨bkR x, false⟩]) (by kernel_rfl)
  have hag := hag.castR (rs' := [⟨bkR x, false⟩]) (by kernel_rfl)
  refine sim_run 30 [] (hR.cast (by kernel_rfl)) (by kernel_rfl) trivial (fun ρ108 w108 hm108 hRa => ?_)
  have hag := hag.moved (hm108.castL (by kernel_rfl))
  have hV := hV.moved (hm108.castL (by kernel_rfl))
  clear hm108 hR
  refine sim_call 106 [.ptr 0 0] (by kernel_rfl) ?_
  simp only [denL, LV.den, Nm.at_, (hag.at_ 0 (by omega)).trans e0, Nat.add_zero]
  refine Calls.mono (g8 hV.is rfl) ?_
  rintro _ w108' ⟨v8, rfl, hV', hk⟩
  have hR := keptB (cs := bkR x) hRa (by kernel_rfl) hag e0 hbT hk
  have hV := hV.put hV' (hcl _ _)
  clear hk hV' hRa
  refine Back.of (.v v8) hR rfl ?_
  refine sim_run 4 [] (hR.cast (by kernel_rfl)) (by kernel_rfl) trivial (fun ρ158 w158 hm158 hRa => ?_)
  have hag := hag.moved (hm158.castL (by kernel_rfl))
  have hV := hV.moved (hm158.castL (by kernel_rfl))
  clear hm158 hR
  have hR := hRa
  clear hRa
  refine sim_to (regK Tryz.f26 61) (tmplJ Tryz.f26.ntmps 0 [(0, .ptr 0 0), (3, .v v0), (4, .v v1), (5, .v v2), (6, .v v3), (7, .v v4), (8, .v v5), (9, .v v6), (10, .v v7), (11, .v v8)]) [⟨bkR x, false⟩] (by kernel_rfl) (by kernel_rfl) (by kernel_rfl) (fun d => ?_)
  have hR := hR.cast (rs' := [⟨bkR x, false⟩]) (by kernel_rfl)
  have hV := hV.castR (rs' := [⟨bkR x, false⟩]) (by kernel_rfl)
  have hag := hag.castR (rs' := [⟨bkR x, false⟩]) (by kernel_rfl)
  refine sim_run 30 [] (hR.cast (by kernel_rfl)) (by kernel_rfl) trivial (fun ρ109 w109 hm109 hRa => ?_)
  have hag := hag.moved (hm109.castL (by kernel_rfl))
  have hV := hV.moved (hm109.castL (by kernel_rfl))
  clear hm109 hR
  refine sim_call 107 [.ptr 0 0] (by kernel_rfl) ?_
  simp only [denL, LV.den, Nm.at_, (hag.at_ 0 (by omega)).trans e0, Nat.add_zero]
  refine Calls.mono (g9 hV.is rfl) ?_
  rintro _ w109' ⟨v9, rfl, hV', hk⟩
  have hR := keptB (cs := bkR x) hRa (by kernel_rfl) hag e0 hbT hk
  have hV := hV.put hV' (hcl _ _)
  clear hk hV' hRa
  refine Back.of (.v v9) hR rfl ?_
  refine sim_run 4 [] (hR.cast (by kernel_rfl)) (by kernel_rfl) trivial (fun ρ159 w159 hm159 hRa => ?_)
  have hag := hag.moved (hm159.castL (by kernel_rfl))
  have hV := hV.moved (hm159.castL (by kernel_rfl))
  clear hm159 hR
  have hR := hRa
  clear hRa
  refine sim_to (regK Tryz.f26 62) (tmplJ Tryz.f26.ntmps 0 [(0, .ptr 0 0), (3, .v v0), (4, .v v1), (5, .v v2), (6, .v v3), (7, .v v4), (8, .v v5), (9, .v v6), (10, .v v7), (11, .v v8), (12, .v v9)]) [⟨bkR x, false⟩] (by kernel_rfl) (by kernel_rfl) (by kernel_rfl) (fun d => ?_)
  have hR := hR.cast (rs' := [⟨bkR x, false⟩]) (by kernel_rfl)
  have hV := hV.castR (rs' := [⟨bkR x, false⟩]) (by kernel_rfl)
  have hag := hag.castR (rs' := [⟨bkR x, false⟩]) (by kernel_rfl)
  refine sim_run 30 [] (hR.cast (by kernel_rfl)) (by kernel_rfl) trivial (fun ρ110 w110 hm110 hRa => ?_)
  have hag := hag.moved (hm110.castL (by kernel_rfl))
  have hV := hV.moved (hm110.castL (by kernel_rfl))
  clear hm110 hR
  refine sim_call 108 [.ptr 0 0] (by kernel_rfl) ?_
  simp only [denL, LV.den, Nm.at_, (hag.at_ 0 (by omega)).trans e0, Nat.add_zero]
  refine Calls.mono (g10 hV.is rfl) ?_
  rintro _ w110' ⟨v10, rfl, hV', hk⟩
  have hR := keptB (cs := bkR x) hRa (by kernel_rfl) hag e0 hbT hk
  have hV := hV.put hV' (hcl _ _)
  clear hk hV' hRa
  refine Back.of (.v v10) hR rfl ?_
  refine sim_run 4 [] (hR.cast (by kernel_rfl)) (by kernel_rfl) trivial (fun ρ160 w160 hm160 hRa => ?_)
  have hag := hag.moved (hm160.castL (by kernel_rfl))
  have hV := hV.moved (hm160.castL (by kernel_rfl))
  clear hm160 hR
  have hR := hRa
  clear hRa
  refine sim_to (regK Tryz.f26 63) (tmplJ Tryz.f26.ntmps 0 [(0, .ptr 0 0), (3, .v v0), (4, .v v1), (5, .v v2), (6, .v v3), (7, .v v4), (8, .v v5), (9, .v v6), (10, .v v7), (11, .v v8), (12, .v v9), (13, .v v10)]) [⟨bkR x, false⟩] (by kernel_rfl) (by kernel_rfl) (by kernel_rfl) (fun d => ?_)
  have hR := hR.cast (rs' := [⟨bkR x, false⟩]) (by kernel_rfl)
  have hV := hV.castR (rs' := [⟨bkR x, false⟩]) (by kernel_rfl)
  have hag := hag.castR (rs' := [⟨bkR x, false⟩]) (by kernel_rfl)
  refine sim_run 30 [] (hR.cast (by kernel_rfl)) (by kernel_rfl) trivial (fun ρ111 w111 hm111 hRa => ?_)
  have hag := hag.moved (hm111.castL (by kernel_rfl))
  have hV := hV.moved (hm111.castL (by kernel_rfl))
  clear hm111 hR
  refine sim_call 109 [.ptr 0 0] (by kernel_rfl) ?_
  simp only [denL, LV.den, Nm.at_, (hag.at_ 0 (by omega)).trans e0, Nat.add_zero]
  refine Calls.mono (g11 hV.is rfl) ?_
  rintro _ w111' ⟨v11, rfl, hV', hk⟩
  have hR := keptB (cs := bkR x) hRa (by kernel_rfl) hag e0 hbT hk
  have hV := hV.put hV' (hcl _ _)
  clear hk hV' hRa
  refine Back.of (.v v11) hR rfl ?_
  refine sim_run 4 [] (hR.cast (by kernel_rfl)) (by kernel_rfl) trivial (fun ρ161 w161 hm161 hRa => ?_)
  have hag := hag.moved (hm161.castL (by kernel_rfl))
  have hV := hV.moved (hm161.castL (by kernel_rfl))
  clear hm161 hR
  have hR := hRa
  clear hRa
  refine sim_to (regK Tryz.f26 64) (tmplJ Tryz.f26.ntmps 0 [(0, .ptr 0 0), (3, .v v0), (4, .v v1), (5, .v v2), (6, .v v3), (7, .v v4), (8, .v v5), (9, .v v6), (10, .v v7), (11, .v v8), (12, .v v9), (13, .v v10), (14, .v v11)]) [⟨bkR x, false⟩] (by kernel_rfl) (by kernel_rfl) (by kernel_rfl) (fun d => ?_)
  have hR := hR.cast (rs' := [⟨bkR x, false⟩]) (by kernel_rfl)
  have hV := hV.castR (rs' := [⟨bkR x, false⟩]) (by kernel_rfl)
  have hag := hag.castR (rs' := [⟨bkR x, false⟩]) (by kernel_rfl)
  refine sim_run 30 [] (hR.cast (by kernel_rfl)) (by kernel_rfl) trivial (fun ρ112 w112 hm112 hRa => ?_)
  have hag := hag.moved (hm112.castL (by kernel_rfl))
  have hV := hV.moved (hm112.castL (by kernel_rfl))
  clear hm112 hR
  refine sim_call 110 [.ptr 0 0] (by kernel_rfl) ?_
  simp only [denL, LV.den, Nm.at_, (hag.at_ 0 (by omega)).trans e0, Nat.add_zero]
  refine Calls.mono (g12 hV.is rfl) ?_
  rintro _ w112' ⟨v12, rfl, hV', hk⟩
  have hR := keptB (cs := bkR x) hRa (by kernel_rfl) hag e0 hbT hk
  have hV := hV.put hV' (hcl _ _)
  clear hk hV' hRa
  refine Back.of (.v v12) hR rfl ?_
  refine sim_run 4 [] (hR.cast (by kernel_rfl)) (by kernel_rfl) trivial (fun ρ162 w162 hm162 hRa => ?_)
  have hag := hag.moved (hm162.castL (by kernel_rfl))
  have hV := hV.moved (hm162.castL (by kernel_rfl))
  clear hm162 hR
  have hR := hRa
  clear hRa
  refine sim_to (regK Tryz.f26 65) (tmplJ Tryz.f26.ntmps 0 [(0, .ptr 0 0), (3, .v v0), (4, .v v1), (5, .v v2), (6, .v v3), (7, .v v4), (8, .v v5), (9, .v v6), (10, .v v7), (11, .v v8), (12, .v v9), (13, .v v10), (14, .v v11), (15, .v v12)]) [⟨bkR x, false⟩] (by kernel_rfl) (by kernel_rfl) (by kernel_rfl) (fun d => ?_)
  have hR := hR.cast (rs' := [⟨bkR x, false⟩]) (by kernel_rfl)
  have hV := hV.castR (rs' := [⟨bkR x, false⟩]) (by kernel_rfl)
  have hag := hag.castR (rs' := [⟨bkR x, false⟩]) (by kernel_rfl)
  refine sim_run 30 [] (hR.cast (by kernel_rfl)) (by kernel_rfl) trivial (fun ρ113 w113 hm113 hRa => ?_)
  have hag := hag.moved (hm113.castL (by kernel_rfl))
  have hV := hV.moved (hm113.castL (by kernel_rfl))
  clear hm113 hR
  refine sim_call 111 [.ptr 0 0] (by kernel_rfl) ?_
  simp only [denL, LV.den, Nm.at_, (hag.at_ 0 (by omega)).trans e0, Nat.add_zero]
  refine Calls.mono (g13 hV.is rfl) ?_
  rintro _ w113' ⟨v13, rfl, hV', hk⟩
  have hR := keptB (cs := bkR x) hRa (by kernel_rfl) hag e0 hbT hk
  have hV := hV.put hV' (hcl _ _)
  clear hk hV' hRa
  refine Back.of (.v v13) hR rfl ?_
  refine sim_run 4 [] (hR.cast (by kernel_rfl)) (by kernel_rfl) trivial (fun ρ163 w163 hm163 hRa => ?_)
  have hag := hag.moved (hm163.castL (by kernel_rfl))
  have hV := hV.moved (hm163.castL (by kernel_rfl))
  clear hm163 hR
  have hR := hRa
  clear hRa
  refine sim_to (regK Tryz.f26 66) (tmplJ Tryz.f26.ntmps 0 [(0, .ptr 0 0), (3, .v v0), (4, .v v1), (5, .v v2), (6, .v v3), (7, .v v4), (8, .v v5), (9, .v v6), (10, .v v7), (11, .v v8), (12, .v v9), (13, .v v10), (14, .v v11), (15, .v v12), (16, .v v13)]) [⟨bkR x, false⟩] (by kernel_rfl) (by kernel_rfl) (by kernel_rfl) (fun d => ?_)
  have hR := hR.cast (rs' := [⟨bkR x, false⟩]) (by kernel_rfl)
  have hV := hV.castR (rs' := [⟨bkR x, false⟩]) (by kernel_rfl)
  have hag := hag.castR (rs' := [⟨bkR x, false⟩]) (by kernel_rfl)
  refine sim_run 30 [] (hR.cast (by kernel_rfl)) (by kernel_rfl) trivial (fun ρ114 w114 hm114 hRa => ?_)
  have hag := hag.moved (hm114.castL (by kernel_rfl))
  have hV := hV.moved (hm114.castL (by kernel_rfl))
  clear hm114 hR
  refine sim_call 112 [.ptr 0 0] (by kernel_rfl) ?_
  simp only [denL, LV.den, Nm.at_, (hag.at_ 0 (by omega)).trans e0, Nat.add_zero]
  refine Calls.mono (g14 hV.is rfl) ?_
  rintro _ w114' ⟨v14, rfl, hV', hk⟩
  have hR := keptB (cs := bkR x) hRa (by kernel_rfl) hag e0 hbT hk
  have hV := hV.put hV' (hcl _ _)
  clear hk hV' hRa
  refine Back.of (.v v14) hR rfl ?_
  refine sim_run 4 [] (hR.cast (by kernel_rfl)) (by kernel_rfl) trivial (fun ρ164 w164 hm164 hRa => ?_)
  have hag := hag.moved (hm164.castL (by kernel_rfl))
  have hV := hV.moved (hm164.castL (by kernel_rfl))
  clear hm164 hR
  have hR := hRa
  clear hRa
  refine sim_to (regK Tryz.f26 67) (tmplJ Tryz.f26.ntmps 0 [(0, .ptr 0 0), (3, .v v0), (4, .v v1), (5, .v v2), (6, .v v3), (7, .v v4), (8, .v v5), (9, .v v6), (10, .v v7), (11, .v v8), (12, .v v9), (13, .v v10), (14, .v v11), (15, .v v12), (16, .v v13), (17, .v v14)]) [⟨bkR x, false⟩] (by kernel_rfl) (by kernel_rfl) (by kernel_rfl) (fun d => ?_)
  have hR := hR.cast (rs' := [⟨bkR x, false⟩]) (by kernel_rfl)
  have hV := hV.castR (rs' := [⟨bkR x, false⟩]) (by kernel_rfl)
  have hag := hag.castR (rs' := [⟨bkR x, false⟩]) (by kernel_rfl)
  refine sim_run 30 [] (hR.cast (by kernel_rfl)) (by kernel_rfl) trivial (fun ρ115 w115 hm115 hRa => ?_)
  have hag := hag.moved (hm115.castL (by kernel_rfl))
  have hV := hV.moved (hm115.castL (by kernel_rfl))
  clear hm115 hR
  refine sim_call 113 [.ptr 0 0] (by kernel_rfl) ?_
  simp only [denL, LV.den, Nm.at_, (hag.at_ 0 (by omega)).trans e0, Nat.add_zero]
  refine Calls.mono (g15 hV.is rfl) ?_
  rintro _ w115' ⟨v15, rfl, hV', hk⟩
  have hR := keptB (cs := bkR x) hRa (by kernel_rfl) hag e0 hbT hk
  have hV := hV.put hV' (hcl _ _)
  clear hk hV' hRa
  refine Back.of (.v v15) hR rfl ?_
  refine sim_run 4 [] (hR.cast (by kernel_rfl)) (by kernel_rfl) trivial (fun ρ165 w165 hm165 hRa => ?_)
  have hag := hag.moved (hm165.castL (by kernel_rfl))
  have hV := hV.moved (hm165.castL (by kernel_rfl))
  clear hm165 hR
  have hR := hRa
  clear hRa
  refine sim_to (regK Tryz.f26 68) (tmplJ Tryz.f26.ntmps 0 [(0, .ptr 0 0), (3, .v v0), (4, .v v1), (5, .v v2), (6, .v v3), (7, .v v4), (8, .v v5), (9, .v v6), (10, .v v7), (11, .v v8), (12, .v v9), (13, .v v10), (14, .v v11), (15, .v v12), (16, .v v13), (17, .v v14), (18, .v v15)]) [⟨bkR x, false⟩] (by kernel_rfl) (by kernel_rfl) (by kernel_rfl) (fun d => ?_)
  have hR := hR.cast (rs' := [⟨bkR x, false⟩]) (by kernel_rfl)
  have hV := hV.castR (rs' := [⟨bkR x, false⟩]) (by kernel_rfl)
  have hag := hag.castR (rs' := [⟨bkR x, false⟩]) (by kernel_rfl)
  refine sim_run 30 [] (hR.cast (by kernel_rfl)) (by kernel_rfl) trivial (fun ρ116 w116 hm116 hRa => ?_)
  have hag := hag.moved (hm116.castL (by kernel_rfl))
  have hV := hV.moved (hm116.castL (by kernel_rfl))
  clear hm116 hR
  refine sim_call 114 [.ptr 0 0] (by kernel_rfl) ?_
  simp only [denL, LV.den, Nm.at_, (hag.at_ 0 (by omega)).trans e0, Nat.add_zero]
  refine Calls.mono (g16 hV.is rfl) ?_
  rintro _ w116' ⟨v16, rfl, hV', hk⟩
  have hR := keptB (cs := bkR x) hRa (by kernel_rfl) hag e0 hbT hk
  have hV := hV.put hV' (hcl _ _)
  clear hk hV' hRa
  refine Back.of (.v v16) hR rfl ?_
  refine sim_run 4 [] (hR.cast (by kernel_rfl)) (by kernel_rfl) trivial (fun ρ166 w166 hm166 hRa => ?_)
  have hag := hag.moved (hm166.castL (by kernel_rfl))
  have hV := hV.moved (hm166.castL (by kernel_rfl))
  clear hm166 hR
  have hR := hRa
  clear hRa
  refine sim_to (regK Tryz.f26 69) (tmplJ Tryz.f26.ntmps 0 [(0, .ptr 0 0), (3, .v v0), (4, .v v1), (5, .v v2), (6, .v v3), (7, .v v4), (8, .v v5), (9, .v v6), (10, .v v7), (11, .v v8), (12, .v v9), (13, .v v10), (14, .v v11), (15, .v v12), (16, .v v13), (17, .v v14), (18, .v v15), (19, .v v16)]) [⟨bkR x, false⟩] (by kernel_rfl) (by kernel_rfl) (by kernel_rfl) (fun d => ?_)
  have hR := hR.cast (rs' := [⟨bkR x, false⟩]) (by kernel_rfl)
  have hV := hV.castR (rs' := [⟨bkR x, false⟩]) (by kernel_rfl)
  have hag := hag.castR (rs' := [⟨bkR x, false⟩]) (by kernel_rfl)
  exact next v0 v1 v2 v3 v4 v5 v6 v7 v8 v9 v10 v11 v12 v13 v14 v15 v16 _ _ d hR hV.is ((hag.at_ 0 (by omega)).trans e0)
set_option maxRecDepth 100000 in
set_option maxHeartbeats 4000000 in
theorem apart_b {V : Nat → World → Prop} (hcl : ∀ n w w', V n w → Below w.heap.size w w' → V n w') (hbT : b ∉ T)
  (p0 : ∀ {w}, V 0 w → Calls Tryz.prog 81 #[.pointer (some ⟨b, 0, none⟩)] w fun e w' => e = .returned (.tuple #[]) ∧ V 1 w' ∧ Kept (· ∈ T) w w')
  (p1 : ∀ {w}, V 1 w → Calls Tryz.prog 82 #[.pointer (some ⟨b, 0, none⟩)] w fun e w' => e = .returned (.tuple #[]) ∧ V 2 w' ∧ Kept (· ∈ T) w w')
  (p2 : ∀ {w}, V 2 w → Calls Tryz.prog 83 #[.pointer (some ⟨b, 0, none⟩)] w fun e w' => e = .returned (.tuple #[]) ∧ V 3 w' ∧ Kept (· ∈ T) w w')
  (p3 : ∀ {w}, V 3 w → Calls Tryz.prog 84 #[.pointer (some ⟨b, 0, none⟩)] w fun e w' => e = .returned (.tuple #[]) ∧ V 4 w' ∧ Kept (· ∈ T) w w')
  (p4 : ∀ {w}, V 4 w → Calls Tryz.prog 85 #[.pointer (some ⟨b, 0, none⟩)] w fun e w' => e = .returned (.tuple #[]) ∧ V 5 w' ∧ Kept (· ∈ T) w w')
  (p5 : ∀ {w}, V 5 w → Calls Tryz.prog 86 #[.pointer (some ⟨b, 0, none⟩)] w fun e w' => e = .returned (.tuple #[]) ∧ V 6 w' ∧ Kept (· ∈ T) w w')
  (p6 : ∀ {w}, V 6 w → Calls Tryz.prog 87 #[.pointer (some ⟨b, 0, none⟩)] w fun e w' => e = .returned (.tuple #[]) ∧ V 7 w' ∧ Kept (· ∈ T) w w')
  (p7 : ∀ {w}, V 7 w → Calls Tryz.prog 88 #[.pointer (some ⟨b, 0, none⟩)] w fun e w' => e = .returned (.tuple #[]) ∧ V 8 w' ∧ Kept (· ∈ T) w w')
  (p8 : ∀ {w}, V 8 w → Calls Tryz.prog 89 #[.pointer (some ⟨b, 0, none⟩)] w fun e w' => e = .returned (.tuple #[]) ∧ V 9 w' ∧ Kept (· ∈ T) w w')
  (p9 : ∀ {w}, V 9 w → Calls Tryz.prog 90 #[.pointer (some ⟨b, 0, none⟩)] w fun e w' => e = .returned (.tuple #[]) ∧ V 10 w' ∧ Kept (· ∈ T) w w')
  (p10 : ∀ {w}, V 10 w → Calls Tryz.prog 91 #[.pointer (some ⟨b, 0, none⟩)] w fun e w' => e = .returned (.tuple #[]) ∧ V 11 w' ∧ Kept (· ∈ T) w w')
  (p11 : ∀ {w}, V 11 w → Calls Tryz.prog 92 #[.pointer (some ⟨b, 0, none⟩)] w fun e w' => e = .returned (.tuple #[]) ∧ V 12 w' ∧ Kept (· ∈ T) w w')
  (p12 : ∀ {w}, V 12 w → Calls Tryz.prog 93 #[.pointer (some ⟨b, 0, none⟩)] w fun e w' => e = .returned (.tuple #[]) ∧ V 13 w' ∧ Kept (· ∈ T) w w')
  (p13 : ∀ {w}, V 13 w → Calls Tryz.prog 94 #[.pointer (some ⟨b, 0, none⟩)] w fun e w' => e = .returned (.tuple #[]) ∧ V 14 w' ∧ Kept (· ∈ T) w w')
  (p14 : ∀ {w}, V 14 w → Calls Tryz.prog 95 #[.pointer (some ⟨b, 0, none⟩)] w fun e w' => e = .returned (.tuple #[]) ∧ V 15 w' ∧ Kept (· ∈ T) w w')
  (p15 : ∀ {w}, V 15 w → Calls Tryz.prog 96 #[.pointer (some ⟨b, 0, none⟩)] w fun e w' => e = .returned (.tuple #[]) ∧ V 16 w' ∧ Kept (· ∈ T) w w')
  (p16 : ∀ {w}, V 16 w → Calls Tryz.prog 97 #[.pointer (some ⟨b, 0, none⟩)] w fun e w' => e = .returned (.tuple #[]) ∧ V 17 w' ∧ Kept (· ∈ T) w w')
  (next : ∀ (w : World) (ρ : Nm) (d : Nat → Value), Rel T wS ρ [⟨bkR x, false⟩] w → V 17 w → ρ 0 = (b, 0) → At Tryz.prog (bodyPost Tryz.prog Tryz.f26 fun e w' => e = .returned (.bool true) ∧ Kept (· ∈ T) wS w') ⟨regK Tryz.f26 52, fillJ (tmplJ Tryz.f26.ntmps 0 [(0, .ptr 0 0)]) d 0, [⟨bkR x, false⟩]⟩ ρ w)
  (w : World) (ρ : Nm) (hR : Rel T wS ρ [⟨bkR x, false⟩] w) (hV : V 0 w) (e0 : ρ 0 = (b, 0)) (d : Nat → Value) :
    At Tryz.prog (bodyPost Tryz.prog Tryz.f26 fun e w' => e = .returned (.bool true) ∧ Kept (· ∈ T) wS w') ⟨regK Tryz.f26 35, fillJ (tmplJ Tryz.f26.ntmps 0 [(0, .ptr 0 0)]) d 0, [⟨bkR x, false⟩]⟩ ρ w := by
  have hag := hR.ag_ 1 (by kernel_rfl)
  have hV := VS.of (ρ := ρ) (rs := [⟨bkR x, false⟩]) hV rfl (hcl _)
  refine sim_run 30 [] (hR.cast (by kernel_rfl)) (by kernel_rfl) trivial (fun ρ100 w100 hm100 hRa => ?_)
  have hag := hag.moved (hm100.castL (by kernel_rfl))
  have hV := hV.moved (hm100.castL (by kernel_rfl))
  clear hm100 hR
  refine sim_call 81 [.ptr 0 0] (by kernel_rfl) ?_
  simp only [denL, LV.den, Nm.at_, (hag.at_ 0 (by omega)).trans e0, Nat.add_zero]
  refine Calls.mono (p0 hV.is) ?_
  rintro _ w100' ⟨rfl, hV', hk⟩
  have hR := keptB (cs := bkR x) hRa (by kernel_rfl) hag e0 hbT hk
  have hV := hV.put hV' (hcl _)
  clear hk hV' hRa
  refine Back.of (.tup []) hR rfl ?_
  refine sim_run 3 [] (hR.cast (by kernel_rfl)) (by kernel_rfl) trivial (fun ρ150 w150 hm150 hRa => ?_)
  have hag := hag.moved (hm150.castL (by kernel_rfl))
  have hV := hV.moved (hm150.castL (by kernel_rfl))
  clear hm150 hR
  have hR := hRa
  clear hRa
  refine sim_to (regK Tryz.f26 36) (tmplJ Tryz.f26.ntmps 0 [(0, .ptr 0 0)]) [⟨bkR x, false⟩] (by kernel_rfl) (by kernel_rfl) (by kernel_rfl) (fun d => ?_)
  have hR := hR.cast (rs' := [⟨bkR x, false⟩]) (by kernel_rfl)
  have hV := hV.castR (rs' := [⟨bkR x, false⟩]) (by kernel_rfl)
  have hag := hag.castR (rs' := [⟨bkR x, false⟩]) (by kernel_rfl)
  refine sim_run 30 [] (hR.cast (by kernel_rfl)) (by kernel_rfl) trivial (fun ρ101 w101 hm101 hRa => ?_)
  have hag := hag.moved (hm101.castL (by kernel_rfl))
  have hV := hV.moved (hm101.castL (by kernel_rfl))
  clear hm101 hR
  refine sim_call 82 [.ptr 0 0] (by kernel_rfl) ?_
  simp only [denL, LV.den, Nm.at_, (hag.at_ 0 (by omega)).trans e0, Nat.add_zero]
  refine Calls.mono (p1 hV.is) ?_
  rintro _ w101' ⟨rfl, hV', hk⟩
  have hR := keptB (cs := bkR x) hRa (by kernel_rfl) hag e0 hbT hk
  have hV := hV.put hV' (hcl _)
  clear hk hV' hRa
  refine Back.of (.tup []) hR rfl ?_
  refine sim_run 3 [] (hR.cast (by kernel_rfl)) (by kernel_rfl) trivial (fun ρ151 w151 hm151 hRa => ?_)
  have hag := hag.moved (hm151.castL (by kernel_rfl))
  have hV := hV.moved (hm151.castL (by kernel_rfl))
  clear hm151 hR
  have hR := hRa
  clear hRa
  refine sim_to (regK Tryz.f26 37) (tmplJ Tryz.f26.ntmps 0 [(0, .ptr 0 0)]) [⟨bkR x, false⟩] (by kernel_rfl) (by kernel_rfl) (by kernel_rfl) (fun d => ?_)
  have hR := hR.cast (rs' := [⟨bkR x, false⟩]) (by kernel_rfl)
  have hV := hV.castR (rs' := [⟨bkR x, false⟩]) (by kernel_rfl)
  have hag := hag.castR (rs' := [⟨bkR x, false⟩]) (by kernel_rfl)
  refine sim_run 30 [] (hR.cast (by kernel_rfl)) (by kernel_rfl) trivial (fun ρ102 w102 hm102 hRa => ?_)
  have hag := hag.moved (hm102.castL (by kernel_rfl))
  have hV := hV.moved (hm102.castL (by kernel_rfl))
  clear hm102 hR
  refine sim_call 83 [.ptr 0 0] (by kernel_rfl) ?_
  simp only [denL, LV.den, Nm.at_, (hag.at_ 0 (by omega)).trans e0, Nat.add_zero]
  refine Calls.mono (p2 hV.is) ?_
  rintro _ w102' ⟨rfl, hV', hk⟩
  have hR := keptB (cs := bkR x) hRa (by kernel_rfl) hag e0 hbT hk
  have hV := hV.put hV' (hcl _)
  clear hk hV' hRa
  refine Back.of (.tup []) hR rfl ?_
  refine sim_run 3 [] (hR.cast (by kernel_rfl)) (by kernel_rfl) trivial (fun ρ152 w152 hm152 hRa => ?_)
  have hag := hag.moved (hm152.castL (by kernel_rfl))
  have hV := hV.moved (hm152.castL (by kernel_rfl))
  clear hm152 hR
  have hR := hRa
  clear hRa
  refine sim_to (regK Tryz.f26 38) (tmplJ Tryz.f26.ntmps 0 [(0, .ptr 0 0)]) [⟨bkR x, false⟩] (by kernel_rfl) (by kernel_rfl) (by kernel_rfl) (fun d => ?_)
  have hR := hR.cast (rs' := [⟨bkR x, false⟩]) (by kernel_rfl)
  have hV := hV.castR (rs' := [⟨bkR x, false⟩]) (by kernel_rfl)
  have hag := hag.castR (rs' := [⟨bkR x, false⟩]) (by kernel_rfl)
  refine sim_run 30 [] (hR.cast (by kernel_rfl)) (by kernel_rfl) trivial (fun ρ103 w103 hm103 hRa => ?_)
  have hag := hag.moved (hm103.castL (by kernel_rfl))
  have hV := hV.moved (hm103.castL (by kernel_rfl))
  clear hm103 hR
  refine sim_call 84 [.ptr 0 0] (by kernel_rfl) ?_
  simp only [denL, LV.den, Nm.at_, (hag.at_ 0 (by omega)).trans e0, Nat.add_zero]
  refine Calls.mono (p3 hV.is) ?_
  rintro _ w103' ⟨rfl, hV', hk⟩
  have hR := keptB (cs := bkR x) hRa (by kernel_rfl) hag e0 hbT hk
  have hV := hV.put hV' (hcl _)
  clear hk hV' hRa
  refine Back.of (.tup []) hR rfl ?_
  refine sim_run 3 [] (hR.cast (by kernel_rfl)) (by kernel_rfl) trivial (fun ρ153 w153 hm153 hRa => ?_)
  have hag := hag.moved (hm153.castL (by kernel_rfl))
  have hV := hV.moved (hm153.castL (by kernel_rfl))
  clear hm153 hR
  have hR := hRa
  clear hRa
  refine sim_to (regK Tryz.f26 39) (tmplJ Tryz.f26.ntmps 0 [(0, .ptr 0 0)]) [⟨bkR x, false⟩] (by kernel_rfl) (by kernel_rfl) (by kernel_rfl) (fun d => ?_)
  have hR := hR.cast (rs' := [⟨bkR x, false⟩]) (by kernel_rfl)
  have hV := hV.castR (rs' := [⟨bkR x, false⟩]) (by kernel_rfl)
  have hag := hag.castR (rs' := [⟨bkR x, false⟩]) (by kernel_rfl)
  refine sim_run 30 [] (hR.cast (by kernel_rfl)) (by kernel_rfl) trivial (fun ρ104 w104 hm104 hRa => ?_)
  have hag := hag.moved (hm104.castL (by kernel_rfl))
  have hV := hV.moved (hm104.castL (by kernel_rfl))
  clear hm104 hR
  refine sim_call 85 [.ptr 0 0] (by kernel_rfl) ?_
  simp only [denL, LV.den, Nm.at_, (hag.at_ 0 (by omega)).trans e0, Nat.add_zero]
  refine Calls.mono (p4 hV.is) ?_
  rintro _ w104' ⟨rfl, hV', hk⟩
  have hR := keptB (cs := bkR x) hRa (by kernel_rfl) hag e0 hbT hk
  have hV := hV.put hV' (hcl _)
  clear hk hV' hRa
  refine Back.of (.tup []) hR rfl ?_
  refine sim_run 3 [] (hR.cast (by kernel_rfl)) (by kernel_rfl) trivial (fun ρ154 w154 hm154 hRa => ?_)
  have hag := hag.moved (hm154.castL (by kernel_rfl))
  have hV := hV.moved (hm154.castL (by kernel_rfl))
  clear hm154 hR
  have hR := hRa
  clear hRa
  refine sim_to (regK Tryz.f26 40) (tmplJ Tryz.f26.ntmps 0 [(0, .ptr 0 0)]) [⟨bkR x, false⟩] (by kernel_rfl) (by kernel_rfl) (by kernel_rfl) (fun d => ?_)
  have hR := hR.cast (rs' := [⟨bkR x, false⟩]) (by kernel_rfl)
  have hV := hV.castR (rs' := [⟨bkR x, false⟩]) (by kernel_rfl)
  have hag := hag.castR (rs' := [⟨bkR x, false⟩]) (by kernel_rfl)
  refine sim_run 30 [] (hR.cast (by kernel_rfl)) (by kernel_rfl) trivial (fun ρ105 w105 hm105 hRa => ?_)
  have hag := hag.moved (hm105.castL (by kernel_rfl))
  have hV := hV.moved (hm105.castL (by kernel_rfl))
  clear hm105 hR
  refine sim_call 86 [.ptr 0 0] (by kernel_rfl) ?_
  simp only [denL, LV.den, Nm.at_, (hag.at_ 0 (by omega)).trans e0, Nat.add_zero]
  refine Calls.mono (p5 hV.is) ?_
  rintro _ w105' ⟨rfl, hV', hk⟩
  have hR := keptB (cs := bkR x) hRa (by kernel_rfl) hag e0 hbT hk
  have hV := hV.put hV' (hcl _)
  clear hk hV' hRa
  refine Back.of (.tup []) hR rfl ?_
  refine sim_run 3 [] (hR.cast (by kernel_rfl)) (by kernel_rfl) trivial (fun ρ155 w155 hm155 hRa => ?_)
  have hag := hag.moved (hm155.castL (by kernel_rfl))
  have hV := hV.moved (hm155.castL (by kernel_rfl))
  clear hm155 hR
  have hR := hRa
  clear hRa
  refine sim_to (regK Tryz.f26 41) (tmplJ Tryz.f26.ntmps 0 [(0, .ptr 0 0)]) [⟨bkR x, false⟩] (by kernel_rfl) (by kernel_rfl) (by kernel_rfl) (fun d => ?_)
  have hR := hR.cast (rs' := [⟨bkR x, false⟩]) (by kernel_rfl)
  have hV := hV.castR (rs' := [⟨bkR x, false⟩]) (by kernel_rfl)
  have hag := hag.castR (rs' := [⟨bkR x, false⟩]) (by kernel_rfl)
  refine sim_run 30 [] (hR.cast (by kernel_rfl)) (by kernel_rfl) trivial (fun ρ106 w106 hm106 hRa => ?_)
  have hag := hag.moved (hm106.castL (by kernel_rfl))
  have hV := hV.moved (hm106.castL (by kernel_rfl))
  clear hm106 hR
  refine sim_call 87 [.ptr 0 0] (by kernel_rfl) ?_
  simp only [denL, LV.den, Nm.at_, (hag.at_ 0 (by omega)).trans e0, Nat.add_zero]
  refine Calls.mono (p6 hV.is) ?_
  rintro _ w106' ⟨rfl, hV', hk⟩
  have hR := keptB (cs := bkR x) hRa (by kernel_rfl) hag e0 hbT hk
  have hV := hV.put hV' (hcl _)
  clear hk hV' hRa
  refine Back.of (.tup []) hR rfl ?_
  refine sim_run 3 [] (hR.cast (by kernel_rfl)) (by kernel_rfl) trivial (fun ρ156 w156 hm156 hRa => ?_)
  have hag := hag.moved (hm156.castL (by kernel_rfl))
  have hV := hV.moved (hm156.castL (by kernel_rfl))
  clear hm156 hR
  have hR := hRa
  clear hRa
  refine sim_to (regK Tryz.f26 42) (tmplJ Tryz.f26.ntmps 0 [(0, .ptr 0 0)]) [⟨bkR x, false⟩] (by kernel_rfl) (by kernel_rfl) (by kernel_rfl) (fun d => ?_)
  have hR := hR.cast (rs' := [⟨bkR x, false⟩]) (by kernel_rfl)
  have hV := hV.castR (rs' := [⟨bkR x, false⟩]) (by kernel_rfl)
  have hag := hag.castR (rs' := [⟨bkR x, false⟩]) (by kernel_rfl)
  refine sim_run 30 [] (hR.cast (by kernel_rfl)) (by kernel_rfl) trivial (fun ρ107 w107 hm107 hRa => ?_)
  have hag := hag.moved (hm107.castL (by kernel_rfl))
  have hV := hV.moved (hm107.castL (by kernel_rfl))
  clear hm107 hR
  refine sim_call 88 [.ptr 0 0] (by kernel_rfl) ?_
  simp only [denL, LV.den, Nm.at_, (hag.at_ 0 (by omega)).trans e0, Nat.add_zero]
  refine Calls.mono (p7 hV.is) ?_
  rintro _ w107' ⟨rfl, hV', hk⟩
  have hR := keptB (cs := bkR x) hRa (by kernel_rfl) hag e0 hbT hk
  have hV := hV.put hV' (hcl _)
  clear hk hV' hRa
  refine Back.of (.tup []) hR rfl ?_
  refine sim_run 3 [] (hR.cast (by kernel_rfl)) (by kernel_rfl) trivial (fun ρ157 w157 hm157 hRa => ?_)
  have hag := hag.moved (hm157.castL (by kernel_rfl))
  have hV := hV.moved (hm157.castL (by kernel_rfl))
  clear hm157 hR
  have hR := hRa
  clear hRa
  refine sim_to (regK Tryz.f26 43) (tmplJ Tryz.f26.ntmps 0 [(0, .ptr 0 0)]) [⟨bkR x, false⟩] (by kernel_rfl) (by kernel_rfl) (by kernel_rfl) (fun d => ?_)
  have hR := hR.cast (rs' := [⟨bkR x, false⟩]) (by kernel_rfl)
  have hV := hV.castR (rs' := [⟨bkR x, false⟩]) (by kernel_rfl)
  have hag := hag.castR (rs' := [⟨bkR x, false⟩]) (by kernel_rfl)
  refine sim_run 30 [] (hR.cast (by kernel_rfl)) (by kernel_rfl) trivial (fun ρ108 w108 hm108 hRa => ?_)
  have hag := hag.moved (hm108.castL (by kernel_rfl))
  have hV := hV.moved (hm108.castL (by kernel_rfl))
  clear hm108 hR
  refine sim_call 89 [.ptr 0 0] (by kernel_rfl) ?_
  simp only [denL, LV.den, Nm.at_, (hag.at_ 0 (by omega)).trans e0, Nat.add_zero]
  refine Calls.mono (p8 hV.is) ?_
  rintro _ w108' ⟨rfl, hV', hk⟩
  have hR := keptB (cs := bkR x) hRa (by kernel_rfl) hag e0 hbT hk
  have hV := hV.put hV' (hcl _)
  clear hk hV' hRa
  refine Back.of (.tup []) hR rfl ?_
  refine sim_run 3 [] (hR.cast (by kernel_rfl)) (by kernel_rfl) trivial (fun ρ158 w158 hm158 hRa => ?_)
  have hag := hag.moved (hm158.castL (by kernel_rfl))
  have hV := hV.moved (hm158.castL (by kernel_rfl))
  clear hm158 hR
  have hR := hRa
  clear hRa
  refine sim_to (regK Tryz.f26 44) (tmplJ Tryz.f26.ntmps 0 [(0, .ptr 0 0)]) [⟨bkR x, false⟩] (by kernel_rfl) (by kernel_rfl) (by kernel_rfl) (fun d => ?_)
  have hR := hR.cast (rs' := [⟨bkR x, false⟩]) (by kernel_rfl)
  have hV := hV.castR (rs' := [⟨bkR x, false⟩]) (by kernel_rfl)
  have hag := hag.castR (rs' := [⟨bkR x, false⟩]) (by kernel_rfl)
  refine sim_run 30 [] (hR.cast (by kernel_rfl)) (by kernel_rfl) trivial (fun ρ109 w109 hm109 hRa => ?_)
  have hag := hag.moved (hm109.castL (by kernel_rfl))
  have hV := hV.moved (hm109.castL (by kernel_rfl))
  clear hm109 hR
  refine sim_call 90 [.ptr 0 0] (by kernel_rfl) ?_
  simp only [denL, LV.den, Nm.at_, (hag.at_ 0 (by omega)).trans e0, Nat.add_zero]
  refine Calls.mono (p9 hV.is) ?_
  rintro _ w109' ⟨rfl, hV', hk⟩
  have hR := keptB (cs := bkR x) hRa (by kernel_rfl) hag e0 hbT hk
  have hV := hV.put hV' (hcl _)
  clear hk hV' hRa
  refine Back.of (.tup []) hR rfl ?_
  refine sim_run 3 [] (hR.cast (by kernel_rfl)) (by kernel_rfl) trivial (fun ρ159 w159 hm159 hRa => ?_)
  have hag := hag.moved (hm159.castL (by kernel_rfl))
  have hV := hV.moved (hm159.castL (by kernel_rfl))
  clear hm159 hR
  have hR := hRa
  clear hRa
  refine sim_to (regK Tryz.f26 45) (tmplJ Tryz.f26.ntmps 0 [(0, .ptr 0 0)]) [⟨bkR x, false⟩] (by kernel_rfl) (by kernel_rfl) (by kernel_rfl) (fun d => ?_)
  have hR := hR.cast (rs' := [⟨bkR x, false⟩]) (by kernel_rfl)
  have hV := hV.castR (rs' := [⟨bkR x, false⟩]) (by kernel_rfl)
  have hag := hag.castR (rs' := [⟨bkR x, false⟩]) (by kernel_rfl)
  refine sim_run 30 [] (hR.cast (by kernel_rfl)) (by kernel_rfl) trivial (fun ρ110 w110 hm110 hRa => ?_)
  have hag := hag.moved (hm110.castL (by kernel_rfl))
  have hV := hV.moved (hm110.castL (by kernel_rfl))
  clear hm110 hR
  refine sim_call 91 [.ptr 0 0] (by kernel_rfl) ?_
  simp only [denL, LV.den, Nm.at_, (hag.at_ 0 (by omega)).trans e0, Nat.add_zero]
  refine Calls.mono (p10 hV.is) ?_
  rintro _ w110' ⟨rfl, hV', hk⟩
  have hR := keptB (cs := bkR x) hRa (by kernel_rfl) hag e0 hbT hk
  have hV := hV.put hV' (hcl _)
  clear hk hV' hRa
  refine Back.of (.tup []) hR rfl ?_
  refine sim_run 3 [] (hR.cast (by kernel_rfl)) (by kernel_rfl) trivial (fun ρ160 w160 hm160 hRa => ?_)
  have hag := hag.moved (hm160.castL (by kernel_rfl))
  have hV := hV.moved (hm160.castL (by kernel_rfl))
  clear hm160 hR
  have hR := hRa
  clear hRa
  refine sim_to (regK Tryz.f26 46) (tmplJ Tryz.f26.ntmps 0 [(0, .ptr 0 0)]) [⟨bkR x, false⟩] (by kernel_rfl) (by kernel_rfl) (by kernel_rfl) (fun d => ?_)
  have hR := hR.cast (rs' := [⟨bkR x, false⟩]) (by kernel_rfl)
  have hV := hV.castR (rs' := [⟨bkR x, false⟩]) (by kernel_rfl)
  have hag := hag.castR (rs' := [⟨bkR x, false⟩]) (by kernel_rfl)
  refine sim_run 30 [] (hR.cast (by kernel_rfl)) (by kernel_rfl) trivial (fun ρ111 w111 hm111 hRa => ?_)
  have hag := hag.moved (hm111.castL (by kernel_rfl))
  have hV := hV.moved (hm111.castL (by kernel_rfl))
  clear hm111 hR
  refine sim_call 92 [.ptr 0 0] (by kernel_rfl) ?_
  simp only [denL, LV.den, Nm.at_, (hag.at_ 0 (by omega)).trans e0, Nat.add_zero]
  refine Calls.mono (p11 hV.is) ?_
  rintro _ w111' ⟨rfl, hV', hk⟩
  have hR := keptB (cs := bkR x) hRa (by kernel_rfl) hag e0 hbT hk
  have hV := hV.put hV' (hcl _)
  clear hk hV' hRa
  refine Back.of (.tup []) hR rfl ?_
  refine sim_run 3 [] (hR.cast (by kernel_rfl)) (by kernel_rfl) trivial (fun ρ161 w161 hm161 hRa => ?_)
  have hag := hag.moved (hm161.castL (by kernel_rfl))
  have hV := hV.moved (hm161.castL (by kernel_rfl))
  clear hm161 hR
  have hR := hRa
  clear hRa
  refine sim_to (regK Tryz.f26 47) (tmplJ Tryz.f26.ntmps 0 [(0, .ptr 0 0)]) [⟨bkR x, false⟩] (by kernel_rfl) (by kernel_rfl) (by kernel_rfl) (fun d => ?_)
  have hR := hR.cast (rs' := [⟨bkR x, false⟩]) (by kernel_rfl)
  have hV := hV.castR (rs' := [⟨bkR x, false⟩]) (by kernel_rfl)
  have hag := hag.castR (rs' := [⟨bkR x, false⟩]) (by kernel_rfl)
  refine sim_run 30 [] (hR.cast (by kernel_rfl)) (by kernel_rfl) trivial (fun ρ112 w112 hm112 hRa => ?_)
  have hag := hag.moved (hm112.castL (by kernel_rfl))
  have hV := hV.moved (hm112.castL (by kernel_rfl))
  clear hm112 hR
  refine sim_call 93 [.ptr 0 0] (by kernel_rfl) ?_
  simp only [denL, LV.den, Nm.at_, (hag.at_ 0 (by omega)).trans e0, Nat.add_zero]
  refine Calls.mono (p12 hV.is) ?_
  rintro _ w112' ⟨rfl, hV', hk⟩
  have hR := keptB (cs := bkR x) hRa (by kernel_rfl) hag e0 hbT hk
  have hV := hV.put hV' (hcl _)
  clear hk hV' hRa
  refine Back.of (.tup []) hR rfl ?_
  refine sim_run 3 [] (hR.cast (by kernel_rfl)) (by kernel_rfl) trivial (fun ρ162 w162 hm162 hRa => ?_)
  have hag := hag.moved (hm162.castL (by kernel_rfl))
  have hV := hV.moved (hm162.castL (by kernel_rfl))
  clear hm162 hR
  have hR := hRa
  clear hRa
  refine sim_to (regK Tryz.f26 48) (tmplJ Tryz.f26.ntmps 0 [(0, .ptr 0 0)]) [⟨bkR x, false⟩] (by kernel_rfl) (by kernel_rfl) (by kernel_rfl) (fun d => ?_)
  have hR := hR.cast (rs' := [⟨bkR x, false⟩]) (by kernel_rfl)
  have hV := hV.castR (rs' := [⟨bkR x, false⟩]) (by kernel_rfl)
  have hag := hag.castR (rs' := [⟨bkR x, false⟩]) (by kernel_rfl)
  refine sim_run 30 [] (hR.cast (by kernel_rfl)) (by kernel_rfl) trivial (fun ρ113 w113 hm113 hRa => ?_)
  have hag := hag.moved (hm113.castL (by kernel_rfl))
  have hV := hV.moved (hm113.castL (by kernel_rfl))
  clear hm113 hR
  refine sim_call 94 [.ptr 0 0] (by kernel_rfl) ?_
  simp only [denL, LV.den, Nm.at_, (hag.at_ 0 (by omega)).trans e0, Nat.add_zero]
  refine Calls.mono (p13 hV.is) ?_
  rintro _ w113' ⟨rfl, hV', hk⟩
  have hR := keptB (cs := bkR x) hRa (by kernel_rfl) hag e0 hbT hk
  have hV := hV.put hV' (hcl _)
  clear hk hV' hRa
  refine Back.of (.tup []) hR rfl ?_
  refine sim_run 3 [] (hR.cast (by kernel_rfl)) (by kernel_rfl) trivial (fun ρ163 w163 hm163 hRa => ?_)
  have hag := hag.moved (hm163.castL (by kernel_rfl))
  have hV := hV.moved (hm163.castL (by kernel_rfl))
  clear hm163 hR
  have hR := hRa
  clear hRa
  refine sim_to (regK Tryz.f26 49) (tmplJ Tryz.f26.ntmps 0 [(0, .ptr 0 0)]) [⟨bkR x, false⟩] (by kernel_rfl) (by kernel_rfl) (by kernel_rfl) (fun d => ?_)
  have hR := hR.cast (rs' := [⟨bkR x, false⟩]) (by kernel_rfl)
  have hV := hV.castR (rs' := [⟨bkR x, false⟩]) (by kernel_rfl)
  have hag := hag.castR (rs' := [⟨bkR x, false⟩]) (by kernel_rfl)
  refine sim_run 30 [] (hR.cast (by kernel_rfl)) (by kernel_rfl) trivial (fun ρ114 w114 hm114 hRa => ?_)
  have hag := hag.moved (hm114.castL (by kernel_rfl))
  have hV := hV.moved (hm114.castL (by kernel_rfl))
  clear hm114 hR
  refine sim_call 95 [.ptr 0 0] (by kernel_rfl) ?_
  simp only [denL, LV.den, Nm.at_, (hag.at_ 0 (by omega)).trans e0, Nat.add_zero]
  refine Calls.mono (p14 hV.is) ?_
  rintro _ w114' ⟨rfl, hV', hk⟩
  have hR := keptB (cs := bkR x) hRa (by kernel_rfl) hag e0 hbT hk
  have hV := hV.put hV' (hcl _)
  clear hk hV' hRa
  refine Back.of (.tup []) hR rfl ?_
  refine sim_run 3 [] (hR.cast (by kernel_rfl)) (by kernel_rfl) trivial (fun ρ164 w164 hm164 hRa => ?_)
  have hag := hag.moved (hm164.castL (by kernel_rfl))
  have hV := hV.moved (hm164.castL (by kernel_rfl))
  clear hm164 hR
  have hR := hRa
  clear hRa
  refine sim_to (regK Tryz.f26 50) (tmplJ Tryz.f26.ntmps 0 [(0, .ptr 0 0)]) [⟨bkR x, false⟩] (by kernel_rfl) (by kernel_rfl) (by kernel_rfl) (fun d => ?_)
  have hR := hR.cast (rs' := [⟨bkR x, false⟩]) (by kernel_rfl)
  have hV := hV.castR (rs' := [⟨bkR x, false⟩]) (by kernel_rfl)
  have hag := hag.castR (rs' := [⟨bkR x, false⟩]) (by kernel_rfl)
  refine sim_run 30 [] (hR.cast (by kernel_rfl)) (by kernel_rfl) trivial (fun ρ115 w115 hm115 hRa => ?_)
  have hag := hag.moved (hm115.castL (by kernel_rfl))
  have hV := hV.moved (hm115.castL (by kernel_rfl))
  clear hm115 hR
  refine sim_call 96 [.ptr 0 0] (by kernel_rfl) ?_
  simp only [denL, LV.den, Nm.at_, (hag.at_ 0 (by omega)).trans e0, Nat.add_zero]
  refine Calls.mono (p15 hV.is) ?_
  rintro _ w115' ⟨rfl, hV', hk⟩
  have hR := keptB (cs := bkR x) hRa (by kernel_rfl) hag e0 hbT hk
  have hV := hV.put hV' (hcl _)
  clear hk hV' hRa
  refine Back.of (.tup []) hR rfl ?_
  refine sim_run 3 [] (hR.cast (by kernel_rfl)) (by kernel_rfl) trivial (fun ρ165 w165 hm165 hRa => ?_)
  have hag := hag.moved (hm165.castL (by kernel_rfl))
  have hV := hV.moved (hm165.castL (by kernel_rfl))
  clear hm165 hR
  have hR := hRa
  clear hRa
  refine sim_to (regK Tryz.f26 51) (tmplJ Tryz.f26.ntmps 0 [(0, .ptr 0 0)]) [⟨bkR x, false⟩] (by kernel_rfl) (by kernel_rfl) (by kernel_rfl) (fun d => ?_)
  have hR := hR.cast (rs' := [⟨bkR x, false⟩]) (by kernel_rfl)
  have hV := hV.castR (rs' := [⟨bkR x, false⟩]) (by kernel_rfl)
  have hag := hag.castR (rs' := [⟨bkR x, false⟩]) (by kernel_rfl)
  refine sim_run 30 [] (hR.cast (by kernel_rfl)) (by kernel_rfl) trivial (fun ρ116 w116 hm116 hRa => ?_)
  have hag := hag.moved (hm116.castL (by kernel_rfl))
  have hV := hV.moved (hm116.castL (by kernel_rfl))
  clear hm116 hR
  refine sim_call 97 [.ptr 0 0] (by kernel_rfl) ?_
  simp only [denL, LV.den, Nm.at_, (hag.at_ 0 (by omega)).trans e0, Nat.add_zero]
  refine Calls.mono (p16 hV.is) ?_
  rintro _ w116' ⟨rfl, hV', hk⟩
  have hR := keptB (cs := bkR x) hRa (by kernel_rfl) hag e0 hbT hk
  have hV := hV.put hV' (hcl _)
  clear hk hV' hRa
  refine Back.of (.tup []) hR rfl ?_
  refine sim_run 3 [] (hR.cast (by kernel_rfl)) (by kernel_rfl) trivial (fun ρ166 w166 hm166 hRa => ?_)
  have hag := hag.moved (hm166.castL (by kernel_rfl))
  have hV := hV.moved (hm166.castL (by kernel_rfl))
  clear hm166 hR
  have hR := hRa
  clear hRa
  refine sim_to (regK Tryz.f26 52) (tmplJ Tryz.f26.ntmps 0 [(0, .ptr 0 0)]) [⟨bkR x, false⟩] (by kernel_rfl) (by kernel_rfl) (by kernel_rfl) (fun d => ?_)
  have hR := hR.cast (rs' := [⟨bkR x, false⟩]) (by kernel_rfl)
  have hV := hV.castR (rs' := [⟨bkR x, false⟩]) (by kernel_rfl)
  have hag := hag.castR (rs' := [⟨bkR x, false⟩]) (by kernel_rfl)
  exact next _ _ d hR hV.is ((hag.at_ 0 (by omega)).trans e0)
set_option maxRecDepth 100000 in
set_option maxHeartbeats 4000000 in
theorem apart_a {W : World → Prop} (hcl : ∀ w w', W w → Below w.heap.size w w' → W w') (hbT : b ∉ T)
  (s0 : ∀ {w}, W w → Calls Tryz.prog 64 #[.pointer (some ⟨b, 0, none⟩)] w fun e w' => e = .returned (.bool true) ∧ W w' ∧ Kept (· ∈ T) w w')
  (s1 : ∀ {w}, W w → Calls Tryz.prog 65 #[.pointer (some ⟨b, 0, none⟩)] w fun e w' => e = .returned (.bool true) ∧ W w' ∧ Kept (· ∈ T) w w')
  (s2 : ∀ {w}, W w → Calls Tryz.prog 66 #[.pointer (some ⟨b, 0, none⟩)] w fun e w' => e = .returned (.bool true) ∧ W w' ∧ Kept (· ∈ T) w w')
  (s3 : ∀ {w}, W w → Calls Tryz.prog 67 #[.pointer (some ⟨b, 0, none⟩)] w fun e w' => e = .returned (.bool true) ∧ W w' ∧ Kept (· ∈ T) w w')
  (s4 : ∀ {w}, W w → Calls Tryz.prog 68 #[.pointer (some ⟨b, 0, none⟩)] w fun e w' => e = .returned (.bool true) ∧ W w' ∧ Kept (· ∈ T) w w')
  (s5 : ∀ {w}, W w → Calls Tryz.prog 69 #[.pointer (some ⟨b, 0, none⟩)] w fun e w' => e = .returned (.bool true) ∧ W w' ∧ Kept (· ∈ T) w w')
  (s6 : ∀ {w}, W w → Calls Tryz.prog 70 #[.pointer (some ⟨b, 0, none⟩)] w fun e w' => e = .returned (.bool true) ∧ W w' ∧ Kept (· ∈ T) w w')
  (s7 : ∀ {w}, W w → Calls Tryz.prog 71 #[.pointer (some ⟨b, 0, none⟩)] w fun e w' => e = .returned (.bool true) ∧ W w' ∧ Kept (· ∈ T) w w')
  (s8 : ∀ {w}, W w → Calls Tryz.prog 72 #[.pointer (some ⟨b, 0, none⟩)] w fun e w' => e = .returned (.bool true) ∧ W w' ∧ Kept (· ∈ T) w w')
  (s9 : ∀ {w}, W w → Calls Tryz.prog 73 #[.pointer (some ⟨b, 0, none⟩)] w fun e w' => e = .returned (.bool true) ∧ W w' ∧ Kept (· ∈ T) w w')
  (s10 : ∀ {w}, W w → Calls Tryz.prog 74 #[.pointer (some ⟨b, 0, none⟩)] w fun e w' => e = .returned (.bool true) ∧ W w' ∧ Kept (· ∈ T) w w')
  (s11 : ∀ {w}, W w → Calls Tryz.prog 75 #[.pointer (some ⟨b, 0, none⟩)] w fun e w' => e = .returned (.bool true) ∧ W w' ∧ Kept (· ∈ T) w w')
  (s12 : ∀ {w}, W w → Calls Tryz.prog 76 #[.pointer (some ⟨b, 0, none⟩)] w fun e w' => e = .returned (.bool true) ∧ W w' ∧ Kept (· ∈ T) w w')
  (s13 : ∀ {w}, W w → Calls Tryz.prog 77 #[.pointer (some ⟨b, 0, none⟩)] w fun e w' => e = .returned (.bool true) ∧ W w' ∧ Kept (· ∈ T) w w')
  (s14 : ∀ {w}, W w → Calls Tryz.prog 78 #[.pointer (some ⟨b, 0, none⟩)] w fun e w' => e = .returned (.bool true) ∧ W w' ∧ Kept (· ∈ T) w w')
  (s15 : ∀ {w}, W w → Calls Tryz.prog 79 #[.pointer (some ⟨b, 0, none⟩)] w fun e w' => e = .returned (.bool true) ∧ W w' ∧ Kept (· ∈ T) w w')
  (s16 : ∀ {w}, W w → Calls Tryz.prog 80 #[.pointer (some ⟨b, 0, none⟩)] w fun e w' => e = .returned (.bool true) ∧ W w' ∧ Kept (· ∈ T) w w')
  (next : ∀ (w : World) (ρ : Nm) (d : Nat → Value), Rel T wS ρ [⟨bkR x, false⟩] w → W w → ρ 0 = (b, 0) → At Tryz.prog (bodyPost Tryz.prog Tryz.f26 fun e w' => e = .returned (.bool true) ∧ Kept (· ∈ T) wS w') ⟨regK Tryz.f26 35, fillJ (tmplJ Tryz.f26.ntmps 0 [(0, .ptr 0 0)]) d 0, [⟨bkR x, false⟩]⟩ ρ w)
  (hB : Blk wS b 56 (bkC x).toArray) (hV : W wS) : Calls Tryz.prog 26 #[.pointer (some ⟨b, 0, none⟩)] wS fun e w' => e = .returned (.bool true) ∧ Kept (· ∈ T) wS w' := by
  obtain ⟨ρ, e0, hR⟩ := blk_open hB false T (by simp) (by kernel_rfl)
  rw [bkR_eq] at hR
  have hag := hR.ag_ 1 (by kernel_rfl)
  have hV := VS.of (ρ := ρ) (rs := [⟨bkR x, false⟩]) hV rfl hcl
  refine sim_enter Tryz.func26 ρ [.ptr 0 0] [⟨bkR x, false⟩] (by kernel_rfl) (by simp only [denL, LV.den, Nm.at_, e0]) ?_
  refine sim_run 30 [] (hR.cast (by kernel_rfl)) (by kernel_rfl) trivial (fun ρ100 w100 hm100 hRa => ?_)
  have hag := hag.moved (hm100.castL (by kernel_rfl))
  have hV := hV.moved (hm100.castL (by kernel_rfl))
  clear hm100 hR
  refine sim_call 64 [.ptr 0 0] (by kernel_rfl) ?_
  simp only [denL, LV.den, Nm.at_, (hag.at_ 0 (by omega)).trans e0, Nat.add_zero]
  refine Calls.mono (s0 hV.is) ?_
  rintro _ w100' ⟨rfl, hV', hk⟩
  have hR := keptB (cs := bkR x) hRa (by kernel_rfl) hag e0 hbT hk
  have hV := hV.put hV' (hcl)
  clear hk hV' hRa
  refine Back.of (LB true) hR rfl ?_
  refine sim_run 7 [] (hR.cast (by kernel_rfl)) (by kernel_rfl) trivial (fun ρ150 w150 hm150 hRa => ?_)
  have hag := hag.moved (hm150.castL (by kernel_rfl))
  have hV := hV.moved (hm150.castL (by kernel_rfl))
  clear hm150 hR
  have hR := hRa
  clear hRa
  refine sim_to (regK Tryz.f26 3) (tmplJ Tryz.f26.ntmps 0 [(0, .ptr 0 0)]) [⟨bkR x, false⟩] (by kernel_rfl) (by kernel_rfl) (by kernel_rfl) (fun d => ?_)
  have hR := hR.cast (rs' := [⟨bkR x, false⟩]) (by kernel_rfl)
  have hV := hV.castR (rs' := [⟨bkR x, false⟩]) (by kernel_rfl)
  have hag := hag.castR (rs' := [⟨bkR x, false⟩]) (by kernel_rfl)
  refine sim_run 30 [] (hR.cast (by kernel_rfl)) (by kernel_rfl) trivial (fun ρ101 w101 hm101 hRa => ?_)
  have hag := hag.moved (hm101.castL (by kernel_rfl))
  have hV := hV.moved (hm101.castL (by kernel_rfl))
  clear hm101 hR
  refine sim_call 65 [.ptr 0 0] (by kernel_rfl) ?_
  simp only [denL, LV.den, Nm.at_, (hag.at_ 0 (by omega)).trans e0, Nat.add_zero]
  refine Calls.mono (s1 hV.is) ?_
  rintro _ w101' ⟨rfl, hV', hk⟩
  have hR := keptB (cs := bkR x) hRa (by kernel_rfl) hag e0 hbT hk
  have hV := hV.put hV' (hcl)
  clear hk hV' hRa
  refine Back.of (LB true) hR rfl ?_
  refine sim_run 7 [] (hR.cast (by kernel_rfl)) (by kernel_rfl) trivial (fun ρ151 w151 hm151 hRa => ?_)
  have hag := hag.moved (hm151.castL (by kernel_rfl))
  have hV := hV.moved (hm151.castL (by kernel_rfl))
  clear hm151 hR
  have hR := hRa
  clear hRa
  refine sim_to (regK Tryz.f26 5) (tmplJ Tryz.f26.ntmps 0 [(0, .ptr 0 0)]) [⟨bkR x, false⟩] (by kernel_rfl) (by kernel_rfl) (by kernel_rfl) (fun d => ?_)
  have hR := hR.cast (rs' := [⟨bkR x, false⟩]) (by kernel_rfl)
  have hV := hV.castR (rs' := [⟨bkR x, false⟩]) (by kernel_rfl)
  have hag := hag.castR (rs' := [⟨bkR x, false⟩]) (by kernel_rfl)
  refine sim_run 30 [] (hR.cast (by kernel_rfl)) (by kernel_rfl) trivial (fun ρ102 w102 hm102 hRa => ?_)
  have hag := hag.moved (hm102.castL (by kernel_rfl))
  have hV := hV.moved (hm102.castL (by kernel_rfl))
  clear hm102 hR
  refine sim_call 66 [.ptr 0 0] (by kernel_rfl) ?_
  simp only [denL, LV.den, Nm.at_, (hag.at_ 0 (by omega)).trans e0, Nat.add_zero]
  refine Calls.mono (s2 hV.is) ?_
  rintro _ w102' ⟨rfl, hV', hk⟩
  have hR := keptB (cs := bkR x) hRa (by kernel_rfl) hag e0 hbT hk
  have hV := hV.put hV' (hcl)
  clear hk hV' hRa
  refine Back.of (LB true) hR rfl ?_
  refine sim_run 7 [] (hR.cast (by kernel_rfl)) (by kernel_rfl) trivial (fun ρ152 w152 hm152 hRa => ?_)
  have hag := hag.moved (hm152.castL (by kernel_rfl))
  have hV := hV.moved (hm152.castL (by kernel_rfl))
  clear hm152 hR
  have hR := hRa
  clear hRa
  refine sim_to (regK Tryz.f26 7) (tmplJ Tryz.f26.ntmps 0 [(0, .ptr 0 0)]) [⟨bkR x, false⟩] (by kernel_rfl) (by kernel_rfl) (by kernel_rfl) (fun d => ?_)
  have hR := hR.cast (rs' := [⟨bkR x, false⟩]) (by kernel_rfl)
  have hV := hV.castR (rs' := [⟨bkR x, false⟩]) (by kernel_rfl)
  have hag := hag.castR (rs' := [⟨bkR x, false⟩]) (by kernel_rfl)
  refine sim_run 30 [] (hR.cast (by kernel_rfl)) (by kernel_rfl) trivial (fun ρ103 w103 hm103 hRa => ?_)
  have hag := hag.moved (hm103.castL (by kernel_rfl))
  have hV := hV.moved (hm103.castL (by kernel_rfl))
  clear hm103 hR
  refine sim_call 67 [.ptr 0 0] (by kernel_rfl) ?_
  simp only [denL, LV.den, Nm.at_, (hag.at_ 0 (by omega)).trans e0, Nat.add_zero]
  refine Calls.mono (s3 hV.is) ?_
  rintro _ w103' ⟨rfl, hV', hk⟩
  have hR := keptB (cs := bkR x) hRa (by kernel_rfl) hag e0 hbT hk
  have hV := hV.put hV' (hcl)
  clear hk hV' hRa
  refine Back.of (LB true) hR rfl ?_
  refine sim_run 7 [] (hR.cast (by kernel_rfl)) (by kernel_rfl) trivial (fun ρ153 w153 hm153 hRa => ?_)
  have hag := hag.moved (hm153.castL (by kernel_rfl))
  have hV := hV.moved (hm153.castL (by kernel_rfl))
  clear hm153 hR
  have hR := hRa
  clear hRa
  refine sim_to (regK Tryz.f26 9) (tmplJ Tryz.f26.ntmps 0 [(0, .ptr 0 0)]) [⟨bkR x, false⟩] (by kernel_rfl) (by kernel_rfl) (by kernel_rfl) (fun d => ?_)
  have hR := hR.cast (rs' := [⟨bkR x, false⟩]) (by kernel_rfl)
  have hV := hV.castR (rs' := [⟨bkR x, false⟩]) (by kernel_rfl)
  have hag := hag.castR (rs' := [⟨bkR x, false⟩]) (by kernel_rfl)
  refine sim_run 30 [] (hR.cast (by kernel_rfl)) (by kernel_rfl) trivial (fun ρ104 w104 hm104 hRa => ?_)
  have hag := hag.moved (hm104.castL (by kernel_rfl))
  have hV := hV.moved (hm104.castL (by kernel_rfl))
  clear hm104 hR
  refine sim_call 68 [.ptr 0 0] (by kernel_rfl) ?_
  simp only [denL, LV.den, Nm.at_, (hag.at_ 0 (by omega)).trans e0, Nat.add_zero]
  refine Calls.mono (s4 hV.is) ?_
  rintro _ w104' ⟨rfl, hV', hk⟩
  have hR := keptB (cs := bkR x) hRa (by kernel_rfl) hag e0 hbT hk
  have hV := hV.put hV' (hcl)
  clear hk hV' hRa
  refine Back.of (LB true) hR rfl ?_
  refine sim_run 7 [] (hR.cast (by kernel_rfl)) (by kernel_rfl) trivial (fun ρ154 w154 hm154 hRa => ?_)
  have hag := hag.moved (hm154.castL (by kernel_rfl))
  have hV := hV.moved (hm154.castL (by kernel_rfl))
  clear hm154 hR
  have hR := hRa
  clear hRa
  refine sim_to (regK Tryz.f26 11) (tmplJ Tryz.f26.ntmps 0 [(0, .ptr 0 0)]) [⟨bkR x, false⟩] (by kernel_rfl) (by kernel_rfl) (by kernel_rfl) (fun d => ?_)
  have hR := hR.cast (rs' := [⟨bkR x, false⟩]) (by kernel_rfl)
  have hV := hV.castR (rs' := [⟨bkR x, false⟩]) (by kernel_rfl)
  have hag := hag.castR (rs' := [⟨bkR x, false⟩]) (by kernel_rfl)
  refine sim_run 30 [] (hR.cast (by kernel_rfl)) (by kernel_rfl) trivial (fun ρ105 w105 hm105 hRa => ?_)
  have hag := hag.moved (hm105.castL (by kernel_rfl))
  have hV := hV.moved (hm105.castL (by kernel_rfl))
  clear hm105 hR
  refine sim_call 69 [.ptr 0 0] (by kernel_rfl) ?_
  simp only [denL, LV.den, Nm.at_, (hag.at_ 0 (by omega)).trans e0, Nat.add_zero]
  refine Calls.mono (s5 hV.is) ?_
  rintro _ w105' ⟨rfl, hV', hk⟩
  have hR := keptB (cs := bkR x) hRa (by kernel_rfl) hag e0 hbT hk
  have hV := hV.put hV' (hcl)
  clear hk hV' hRa
  refine Back.of (LB true) hR rfl ?_
  refine sim_run 7 [] (hR.cast (by kernel_rfl)) (by kernel_rfl) trivial (fun ρ155 w155 hm155 hRa => ?_)
  have hag := hag.moved (hm155.castL (by kernel_rfl))
  have hV := hV.moved (hm155.castL (by kernel_rfl))
  clear hm155 hR
  have hR := hRa
  clear hRa
  refine sim_to (regK Tryz.f26 13) (tmplJ Tryz.f26.ntmps 0 [(0, .ptr 0 0)]) [⟨bkR x, false⟩] (by kernel_rfl) (by kernel_rfl) (by kernel_rfl) (fun d => ?_)
  have hR := hR.cast (rs' := [⟨bkR x, false⟩]) (by kernel_rfl)
  have hV := hV.castR (rs' := [⟨bkR x, false⟩]) (by kernel_rfl)
  have hag := hag.castR (rs' := [⟨bkR x, false⟩]) (by kernel_rfl)
  refine sim_run 30 [] (hR.cast (by kernel_rfl)) (by kernel_rfl) trivial (fun ρ106 w106 hm106 hRa => ?_)
  have hag := hag.moved (hm106.castL (by kernel_rfl))
  have hV := hV.moved (hm106.castL (by kernel_rfl))
  clear hm106 hR
  refine sim_call 70 [.ptr 0 0] (by kernel_rfl) ?_
  simp only [denL, LV.den, Nm.at_, (hag.at_ 0 (by omega)).trans e0, Nat.add_zero]
  refine Calls.mono (s6 hV.is) ?_
  rintro _ w106' ⟨rfl, hV', hk⟩
  have hR := keptB (cs := bkR x) hRa (by kernel_rfl) hag e0 hbT hk
  have hV := hV.put hV' (hcl)
  clear hk hV' hRa
  refine Back.of (LB true) hR rfl ?_
  refine sim_run 7 [] (hR.cast (by kernel_rfl)) (by kernel_rfl) trivial (fun ρ156 w156 hm156 hRa => ?_)
  have hag := hag.moved (hm156.castL (by kernel_rfl))
  have hV := hV.moved (hm156.castL (by kernel_rfl))
  clear hm156 hR
  have hR := hRa
  clear hRa
  refine sim_to (regK Tryz.f26 15) (tmplJ Tryz.f26.ntmps 0 [(0, .ptr 0 0)]) [⟨bkR x, false⟩] (by kernel_rfl) (by kernel_rfl) (by kernel_rfl) (fun d => ?_)
  have hR := hR.cast (rs' := [⟨bkR x, false⟩]) (by kernel_rfl)
  have hV := hV.castR (rs' := [⟨bkR x, false⟩]) (by kernel_rfl)
  have hag := hag.castR (rs' := [⟨bkR x, false⟩]) (by kernel_rfl)
  refine sim_run 30 [] (hR.cast (by kernel_rfl)) (by kernel_rfl) trivial (fun ρ107 w107 hm107 hRa => ?_)
  have hag := hag.moved (hm107.castL (by kernel_rfl))
  have hV := hV.moved (hm107.castL (by kernel_rfl))
  clear hm107 hR
  refine sim_call 71 [.ptr 0 0] (by kernel_rfl) ?_
  simp only [denL, LV.den, Nm.at_, (hag.at_ 0 (by omega)).trans e0, Nat.add_zero]
  refine Calls.mono (s7 hV.is) ?_
  rintro _ w107' ⟨rfl, hV', hk⟩
  have hR := keptB (cs := bkR x) hRa (by kernel_rfl) hag e0 hbT hk
  have hV := hV.put hV' (hcl)
  clear hk hV' hRa
  refine Back.of (LB true) hR rfl ?_
  refine sim_run 7 [] (hR.cast (by kernel_rfl)) (by kernel_rfl) trivial (fun ρ157 w157 hm157 hRa => ?_)
  have hag := hag.moved (hm157.castL (by kernel_rfl))
  have hV := hV.moved (hm157.castL (by kernel_rfl))
  clear hm157 hR
  have hR := hRa
  clear hRa
  refine sim_to (regK Tryz.f26 17) (tmplJ Tryz.f26.ntmps 0 [(0, .ptr 0 0)]) [⟨bkR x, false⟩] (by kernel_rfl) (by kernel_rfl) (by kernel_rfl) (fun d => ?_)
  have hR := hR.cast (rs' := [⟨bkR x, false⟩]) (by kernel_rfl)
  have hV := hV.castR (rs' := [⟨bkR x, false⟩]) (by kernel_rfl)
  have hag := hag.castR (rs' := [⟨bkR x, false⟩]) (by kernel_rfl)
  refine sim_run 30 [] (hR.cast (by kernel_rfl)) (by kernel_rfl) trivial (fun ρ108 w108 hm108 hRa => ?_)
  have hag := hag.moved (hm108.castL (by kernel_rfl))
  have hV := hV.moved (hm108.castL (by kernel_rfl))
  clear hm108 hR
  refine sim_call 72 [.ptr 0 0] (by kernel_rfl) ?_
  simp only [denL, LV.den, Nm.at_, (hag.at_ 0 (by omega)).trans e0, Nat.add_zero]
  refine Calls.mono (s8 hV.is) ?_
  rintro _ w108' ⟨rfl, hV', hk⟩
  have hR := keptB (cs := bkR x) hRa (by kernel_rfl) hag e0 hbT hk
  have hV := hV.put hV' (hcl)
  clear hk hV' hRa
  refine Back.of (LB true) hR rfl ?_
  refine sim_run 7 [] (hR.cast (by kernel_rfl)) (by kernel_rfl) trivial (fun ρ158 w158 hm158 hRa => ?_)
  have hag := hag.moved (hm158.castL (by kernel_rfl))
  have hV := hV.moved (hm158.castL (by kernel_rfl))
  clear hm158 hR
  have hR := hRa
  clear hRa
  refine sim_to (regK Tryz.f26 19) (tmplJ Tryz.f26.ntmps 0 [(0, .ptr 0 0)]) [⟨bkR x, false⟩] (by kernel_rfl) (by kernel_rfl) (by kernel_rfl) (fun d => ?_)
  have hR := hR.cast (rs' := [⟨bkR x, false⟩]) (by kernel_rfl)
  have hV := hV.castR (rs' := [⟨bkR x, false⟩]) (by kernel_rfl)
  have hag := hag.castR (rs' := [⟨bkR x, false⟩]) (by kernel_rfl)
  refine sim_run 30 [] (hR.cast (by kernel_rfl)) (by kernel_rfl) trivial (fun ρ109 w109 hm109 hRa => ?_)
  have hag := hag.moved (hm109.castL (by kernel_rfl))
  have hV := hV.moved (hm109.castL (by kernel_rfl))
  clear hm109 hR
  refine sim_call 73 [.ptr 0 0] (by kernel_rfl) ?_
  simp only [denL, LV.den, Nm.at_, (hag.at_ 0 (by omega)).trans e0, Nat.add_zero]
  refine Calls.mono (s9 hV.is) ?_
  rintro _ w109' ⟨rfl, hV', hk⟩
  have hR := keptB (cs := bkR x) hRa (by kernel_rfl) hag e0 hbT hk
  have hV := hV.put hV' (hcl)
  clear hk hV' hRa
  refine Back.of (LB true) hR rfl ?_
  refine sim_run 7 [] (hR.cast (by kernel_rfl)) (by kernel_rfl) trivial (fun ρ159 w159 hm159 hRa => ?_)
  have hag := hag.moved (hm159.castL (by kernel_rfl))
  have hV := hV.moved (hm159.castL (by kernel_rfl))
  clear hm159 hR
  have hR := hRa
  clear hRa
  refine sim_to (regK Tryz.f26 21) (tmplJ Tryz.f26.ntmps 0 [(0, .ptr 0 0)]) [⟨bkR x, false⟩] (by kernel_rfl) (by kernel_rfl) (by kernel_rfl) (fun d => ?_)
  have hR := hR.cast (rs' := [⟨bkR x, false⟩]) (by kernel_rfl)
  have hV := hV.castR (rs' := [⟨bkR x, false⟩]) (by kernel_rfl)
  have hag := hag.castR (rs' := [⟨bkR x, false⟩]) (by kernel_rfl)
  refine sim_run 30 [] (hR.cast (by kernel_rfl)) (by kernel_rfl) trivial (fun ρ110 w110 hm110 hRa => ?_)
  have hag := hag.moved (hm110.castL (by kernel_rfl))
  have hV := hV.moved (hm110.castL (by kernel_rfl))
  clear hm110 hR
  refine sim_call 74 [.ptr 0 0] (by kernel_rfl) ?_
  simp only [denL, LV.den, Nm.at_, (hag.at_ 0 (by omega)).trans e0, Nat.add_zero]
  refine Calls.mono (s10 hV.is) ?_
  rintro _ w110' ⟨rfl, hV', hk⟩
  have hR := keptB (cs := bkR x) hRa (by kernel_rfl) hag e0 hbT hk
  have hV := hV.put hV' (hcl)
  clear hk hV' hRa
  refine Back.of (LB true) hR rfl ?_
  refine sim_run 7 [] (hR.cast (by kernel_rfl)) (by kernel_rfl) trivial (fun ρ160 w160 hm160 hRa => ?_)
  have hag := hag.moved (hm160.castL (by kernel_rfl))
  have hV := hV.moved (hm160.castL (by kernel_rfl))
  clear hm160 hR
  have hR := hRa
  clear hRa
  refine sim_to (regK Tryz.f26 23) (tmplJ Tryz.f26.ntmps 0 [(0, .ptr 0 0)]) [⟨bkR x, false⟩] (by kernel_rfl) (by kernel_rfl) (by kernel_rfl) (fun d => ?_)
  have hR := hR.cast (rs' := [⟨bkR x, false⟩]) (by kernel_rfl)
  have hV := hV.castR (rs' := [⟨bkR x, false⟩]) (by kernel_rfl)
  have hag := hag.castR (rs' := [⟨bkR x, false⟩]) (by kernel_rfl)
  refine sim_run 30 [] (hR.cast (by kernel_rfl)) (by kernel_rfl) trivial (fun ρ111 w111 hm111 hRa => ?_)
  have hag := hag.moved (hm111.castL (by kernel_rfl))
  have hV := hV.moved (hm111.castL (by kernel_rfl))
  clear hm111 hR
  refine sim_call 75 [.ptr 0 0] (by kernel_rfl) ?_
  simp only [denL, LV.den, Nm.at_, (hag.at_ 0 (by omega)).trans e0, Nat.add_zero]
  refine Calls.mono (s11 hV.is) ?_
  rintro _ w111' ⟨rfl, hV', hk⟩
  have hR := keptB (cs := bkR x) hRa (by kernel_rfl) hag e0 hbT hk
  have hV := hV.put hV' (hcl)
  clear hk hV' hRa
  refine Back.of (LB true) hR rfl ?_
  refine sim_run 7 [] (hR.cast (by kernel_rfl)) (by kernel_rfl) trivial (fun ρ161 w161 hm161 hRa => ?_)
  have hag := hag.moved (hm161.castL (by kernel_rfl))
  have hV := hV.moved (hm161.castL (by kernel_rfl))
  clear hm161 hR
  have hR := hRa
  clear hRa
  refine sim_to (regK Tryz.f26 25) (tmplJ Tryz.f26.ntmps 0 [(0, .ptr 0 0)]) [⟨bkR x, false⟩] (by kernel_rfl) (by kernel_rfl) (by kernel_rfl) (fun d => ?_)
  have hR := hR.cast (rs' := [⟨bkR x, false⟩]) (by kernel_rfl)
  have hV := hV.castR (rs' := [⟨bkR x, false⟩]) (by kernel_rfl)
  have hag := hag.castR (rs' := [⟨bkR x, false⟩]) (by kernel_rfl)
  refine sim_run 30 [] (hR.cast (by kernel_rfl)) (by kernel_rfl) trivial (fun ρ112 w112 hm112 hRa => ?_)
  have hag := hag.moved (hm112.castL (by kernel_rfl))
  have hV := hV.moved (hm112.castL (by kernel_rfl))
  clear hm112 hR
  refine sim_call 76 [.ptr 0 0] (by kernel_rfl) ?_
  simp only [denL, LV.den, Nm.at_, (hag.at_ 0 (by omega)).trans e0, Nat.add_zero]
  refine Calls.mono (s12 hV.is) ?_
  rintro _ w112' ⟨rfl, hV', hk⟩
  have hR := keptB (cs := bkR x) hRa (by kernel_rfl) hag e0 hbT hk
  have hV := hV.put hV' (hcl)
  clear hk hV' hRa
  refine Back.of (LB true) hR rfl ?_
  refine sim_run 7 [] (hR.cast (by kernel_rfl)) (by kernel_rfl) trivial (fun ρ162 w162 hm162 hRa => ?_)
  have hag := hag.moved (hm162.castL (by kernel_rfl))
  have hV := hV.moved (hm162.castL (by kernel_rfl))
  clear hm162 hR
  have hR := hRa
  clear hRa
  refine sim_to (regK Tryz.f26 27) (tmplJ Tryz.f26.ntmps 0 [(0, .ptr 0 0)]) [⟨bkR x, false⟩] (by kernel_rfl) (by kernel_rfl) (by kernel_rfl) (fun d => ?_)
  have hR := hR.cast (rs' := [⟨bkR x, false⟩]) (by kernel_rfl)
  have hV := hV.castR (rs' := [⟨bkR x, false⟩]) (by kernel_rfl)
  have hag := hag.castR (rs' := [⟨bkR x, false⟩]) (by kernel_rfl)
  refine sim_run 30 [] (hR.cast (by kernel_rfl)) (by kernel_rfl) trivial (fun ρ113 w113 hm113 hRa => ?_)
  have hag := hag.moved (hm113.castL (by kernel_rfl))
  have hV := hV.moved (hm113.castL (by kernel_rfl))
  clear hm113 hR
  refine sim_call 77 [.ptr 0 0] (by kernel_rfl) ?_
  simp only [denL, LV.den, Nm.at_, (hag.at_ 0 (by omega)).trans e0, Nat.add_zero]
  refine Calls.mono (s13 hV.is) ?_
  rintro _ w113' ⟨rfl, hV', hk⟩
  have hR := keptB (cs := bkR x) hRa (by kernel_rfl) hag e0 hbT hk
  have hV := hV.put hV' (hcl)
  clear hk hV' hRa
  refine Back.of (LB true) hR rfl ?_
  refine sim_run 7 [] (hR.cast (by kernel_rfl)) (by kernel_rfl) trivial (fun ρ163 w163 hm163 hRa => ?_)
  have hag := hag.moved (hm163.castL (by kernel_rfl))
  have hV := hV.moved (hm163.castL (by kernel_rfl))
  clear hm163 hR
  have hR := hRa
  clear hRa
  refine sim_to (regK Tryz.f26 29) (tmplJ Tryz.f26.ntmps 0 [(0, .ptr 0 0)]) [⟨bkR x, false⟩] (by kernel_rfl) (by kernel_rfl) (by kernel_rfl) (fun d => ?_)
  have hR := hR.cast (rs' := [⟨bkR x, false⟩]) (by kernel_rfl)
  have hV := hV.castR (rs' := [⟨bkR x, false⟩]) (by kernel_rfl)
  have hag := hag.castR (rs' := [⟨bkR x, false⟩]) (by kernel_rfl)
  refine sim_run 30 [] (hR.cast (by kernel_rfl)) (by kernel_rfl) trivial (fun ρ114 w114 hm114 hRa => ?_)
  have hag := hag.moved (hm114.castL (by kernel_rfl))
  have hV := hV.moved (hm114.castL (by kernel_rfl))
  clear hm114 hR
  refine sim_call 78 [.ptr 0 0] (by kernel_rfl) ?_
  simp only [denL, LV.den, Nm.at_, (hag.at_ 0 (by omega)).trans e0, Nat.add_zero]
  refine Calls.mono (s14 hV.is) ?_
  rintro _ w114' ⟨rfl, hV', hk⟩
  have hR := keptB (cs := bkR x) hRa (by kernel_rfl) hag e0 hbT hk
  have hV := hV.put hV' (hcl)
  clear hk hV' hRa
  refine Back.of (LB true) hR rfl ?_
  refine sim_run 7 [] (hR.cast (by kernel_rfl)) (by kernel_rfl) trivial (fun ρ164 w164 hm164 hRa => ?_)
  have hag := hag.moved (hm164.castL (by kernel_rfl))
  have hV := hV.moved (hm164.castL (by kernel_rfl))
  clear hm164 hR
  have hR := hRa
  clear hRa
  refine sim_to (regK Tryz.f26 31) (tmplJ Tryz.f26.ntmps 0 [(0, .ptr 0 0)]) [⟨bkR x, false⟩] (by kernel_rfl) (by kernel_rfl) (by kernel_rfl) (fun d => ?_)
  have hR := hR.cast (rs' := [⟨bkR x, false⟩]) (by kernel_rfl)
  have hV := hV.castR (rs' := [⟨bkR x, false⟩]) (by kernel_rfl)
  have hag := hag.castR (rs' := [⟨bkR x, false⟩]) (by kernel_rfl)
  refine sim_run 30 [] (hR.cast (by kernel_rfl)) (by kernel_rfl) trivial (fun ρ115 w115 hm115 hRa => ?_)
  have hag := hag.moved (hm115.castL (by kernel_rfl))
  have hV := hV.moved (hm115.castL (by kernel_rfl))
  clear hm115 hR
  refine sim_call 79 [.ptr 0 0] (by kernel_rfl) ?_
  simp only [denL, LV.den, Nm.at_, (hag.at_ 0 (by omega)).trans e0, Nat.add_zero]
  refine Calls.mono (s15 hV.is) ?_
  rintro _ w115' ⟨rfl, hV', hk⟩
  have hR := keptB (cs := bkR x) hRa (by kernel_rfl) hag e0 hbT hk
  have hV := hV.put hV' (hcl)
  clear hk hV' hRa
  refine Back.of (LB true) hR rfl ?_
  refine sim_run 7 [] (hR.cast (by kernel_rfl)) (by kernel_rfl) trivial (fun ρ165 w165 hm165 hRa => ?_)
  have hag := hag.moved (hm165.castL (by kernel_rfl))
  have hV := hV.moved (hm165.castL (by kernel_rfl))
  clear hm165 hR
  have hR := hRa
  clear hRa
  refine sim_to (regK Tryz.f26 33) (tmplJ Tryz.f26.ntmps 0 [(0, .ptr 0 0)]) [⟨bkR x, false⟩] (by kernel_rfl) (by kernel_rfl) (by kernel_rfl) (fun d => ?_)
  have hR := hR.cast (rs' := [⟨bkR x, false⟩]) (by kernel_rfl)
  have hV := hV.castR (rs' := [⟨bkR x, false⟩]) (by kernel_rfl)
  have hag := hag.castR (rs' := [⟨bkR x, false⟩]) (by kernel_rfl)
  refine sim_run 30 [] (hR.cast (by kernel_rfl)) (by kernel_rfl) trivial (fun ρ116 w116 hm116 hRa => ?_)
  have hag := hag.moved (hm116.castL (by kernel_rfl))
  have hV := hV.moved (hm116.castL (by kernel_rfl))
  clear hm116 hR
  refine sim_call 80 [.ptr 0 0] (by kernel_rfl) ?_
  simp only [denL, LV.den, Nm.at_, (hag.at_ 0 (by omega)).trans e0, Nat.add_zero]
  refine Calls.mono (s16 hV.is) ?_
  rintro _ w116' ⟨rfl, hV', hk⟩
  have hR := keptB (cs := bkR x) hRa (by kernel_rfl) hag e0 hbT hk
  have hV := hV.put hV' (hcl)
  clear hk hV' hRa
  refine Back.of (LB true) hR rfl ?_
  refine sim_run 6 [] (hR.cast (by kernel_rfl)) (by kernel_rfl) trivial (fun ρ166 w166 hm166 hRa => ?_)
  have hag := hag.moved (hm166.castL (by kernel_rfl))
  have hV := hV.moved (hm166.castL (by kernel_rfl))
  clear hm166 hR
  have hR := hRa
  clear hRa
  refine sim_to (regK Tryz.f26 35) (tmplJ Tryz.f26.ntmps 0 [(0, .ptr 0 0)]) [⟨bkR x, false⟩] (by kernel_rfl) (by kernel_rfl) (by kernel_rfl) (fun d => ?_)
  have hR := hR.cast (rs' := [⟨bkR x, false⟩]) (by kernel_rfl)
  have hV := hV.castR (rs' := [⟨bkR x, false⟩]) (by kernel_rfl)
  have hag := hag.castR (rs' := [⟨bkR x, false⟩]) (by kernel_rfl)
  exact next _ _ d hR hV.is ((hag.at_ 0 (by omega)).trans e0)
end
end Go.Proofs.YtedfbdeklepekaaGreat
