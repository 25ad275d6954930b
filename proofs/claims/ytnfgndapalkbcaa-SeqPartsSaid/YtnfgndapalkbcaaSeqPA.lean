/-
  SeqParts: what stands all through; none of all is one that is ahead.
  SeqParts: one of a class is looked at: it is above the one ahead of it and the same as the first.
  SeqParts: one of a class is kept.
  SeqParts: none that is kept is the one looked at.
-/
import Derived.Test.YtnfgndapalkbcaaRowZ
namespace Go.Proofs.Ytnfgndapalkbcaa
section
open Go Go.RowKit
/-- how much there is at least -/
def SzW (B : Nat) : World → Prop := fun w => B ≤ w.heap.size
theorem SzW.same {B : Nat} : ∀ (w1 w2 : World) (S' : Nat → Prop), SzW B w1 → (∀ x, False → x < w1.heap.size) → Kept S' w1 w2 → (∀ x, False → ¬ S' x) → SzW B w2 := fun _ _ _ h _ hk _ => Nat.le_trans h hk.size
/-- the graph, the classes and those that stand first -/
structure PS (q : GrP) (u : List Nat) (ls : List Lk) (cB cb : Nat) (cL : Option Addr) (cs : List (List Int)) (tB tb : Nat) (tL : Option Addr) (ts : List (List Int)) (ρ : Nm) (rs : List Reg) (w : World) : Prop where
  g : Sta q.has (GrV q u ls) ρ rs w
  c : Sta (btw cb cB) (RowZ cB cb cL cs) ρ rs w
  t : Sta (btw tb tB) (RowZ tB tb tL ts) ρ rs w
  z : Sta (fun _ => False) (SzW tB) ρ rs w
section
variable {q : GrP} {u : List Nat} {ls : List Lk} {cB cb : Nat} {cL : Option Addr} {cs : List (List Int)} {tB tb : Nat} {tL : Option Addr} {ts : List (List Int)} {ρ ρ' : Nm} {rs rs' : List Reg} {w w' : World}
theorem PS.moved (h : PS q u ls cB cb cL cs tB tb tL ts ρ rs w) (hm : Moved ρ rs w ρ' rs' w') : PS q u ls cB cb cL cs tB tb tL ts ρ' rs' w' := ⟨h.g.moved hm, h.c.moved hm, h.t.moved hm, h.z.moved hm⟩
theorem PS.below (h : PS q u ls cB cb cL cs tB tb tL ts ρ rs w) (hb : Below w.heap.size w w') : PS q u ls cB cb cL cs tB tb tL ts ρ rs w' := ⟨h.g.below hb, h.c.below hb, h.t.below hb, h.z.below hb⟩
theorem PS.drew (h : PS q u ls cB cb cL cs tB tb tL ts ρ rs w) : PS q u ls cB cb cL cs tB tb tL ts ρ rs w.drew := ⟨h.g.drew, h.c.drew, h.t.drew, h.z.drew⟩
theorem PS.castR (h : PS q u ls cB cb cL cs tB tb tL ts ρ rs w) (e : rs = rs') : PS q u ls cB cb cL cs tB tb tL ts ρ rs' w := e ▸ h
theorem PS.cut {N : Nat} (h : PS q u ls cB cb cL cs tB tb tL ts ρ' rs' w) (hag : Ag N ρ ρ' rs') (hN : rs.length = N) (e0 : rs'.take N = rs) : PS q u ls cB cb cL cs tB tb tL ts ρ rs w := ⟨h.g.cut hag hN e0, h.c.cut hag hN e0, h.t.cut hag hN e0, h.z.cut hag hN e0⟩
theorem PS.grown {B : Nat} (h : PS q u ls cB cb cL cs tB tb tL ts ρ rs w) (hq : ∀ x, q.has x → x < B) (hc : cB ≤ B) (ht : tB ≤ B) {n s : Nat} {e : TypeId} {v : Value} {xs : List Value} (ho : w.ownsRow B e s v n xs) (hg : w.grownBy w' v.ownBlock) : PS q u ls cB cb cL cs tB tb tL ts ρ rs w' :=
  ⟨h.g.grown hg (fun x hx e => by have h1 := own_ge ho e; have := hq x hx; omega), h.c.grown hg (fun x hx e => by have h1 := own_ge ho e; have := hx.2; omega), h.t.grown hg (fun x hx e => by have h1 := own_ge ho e; have := hx.2; omega), h.z.grown hg (fun _ hx => hx.elim)⟩
end
attribute [local irreducible] run goO leaveK someK nextK nextT nextOT nextOD loopBody loopRest loopK fillJ tmplOf tmplJ mergeT At AtO drawOk ordOf gateOf callC callO topOp topO idxOf appOf storeOf clearOf sliceOf calleeOf calleeO topQ idxQ newRowOf resL stepOp seek
set_option maxRecDepth 100000 in
set_option maxHeartbeats 4000000 in
theorem parts_aj {Q : Exit → Act → World → Prop} {R : Ending → World → Prop} [hB : Body Try.prog Q Try.f8 R] {ρ : Nm} {w0 w : World} {q : GrP} {u : List Nat} {ls : List Lk} {cB cb : Nat} {cL : Option Addr} {cs : List (List Int)} {tB tb : Nat} {tL : Option Addr} {ts : List (List Int)} {cc tc na ca ga nl cl gl ab aB k : Nat} {at1 i1 : Nat} {al : List Int} {la : List Nat} {x : Nat} (hR : Rel [] w0 ρ [gR q] w) (hp : PS q u ls cB cb cL cs tB tb tL ts ρ [gR q] w) (hal : Own ρ [gR q] w ab 3 1 (.slice (some ⟨gl, 0, none⟩) nl cl) nl (ints al)) (hla : Own ρ [gR q] w aB 3 1 (.slice (some ⟨ga, 0, none⟩) na ca) na (ints (la.map Int.ofNat))) (hx : la[k]? = some x) (hxa : (x : Int) ∉ al) (hnl : nl ≤ 100) (hk : k < na) (hna : na ≤ 1000) (hall : al.length = nl) (d : Nat → Value)
    (hfin : ∀ (c' : Cfg) (ρ' : Nm) (w' : World), c'.k = [] → mergeT (tmplJ Try.f8.ntmps 0 [(7, .ptr 0 0), (10, .v (.slice cL cs.length cc)), (11, .v (.slice tL ts.length tc)), (12, .v (.slice (some ⟨gl, 0, none⟩) nl cl)), (19, LI at1), (20, LI i1), (21, .v (.slice (some ⟨ga, 0, none⟩) na ca)), (22, LI ((k : Int) + 1))]) c'.tmps = c'.tmps → (tmplJ Try.f8.ntmps 0 [(7, .ptr 0 0), (10, .v (.slice cL cs.length cc)), (11, .v (.slice tL ts.length tc)), (12, .v (.slice (some ⟨gl, 0, none⟩) nl cl)), (19, LI at1), (20, LI i1), (21, .v (.slice (some ⟨ga, 0, none⟩) na ca)), (22, LI ((k : Int) + 1))]).length = c'.tmps.length → Ag 1 ρ ρ' c'.rs → Rel [] w0 ρ' c'.rs w' → c'.rs.take 1 = [gR q] → PS q u ls cB cb cL cs tB tb tL ts ρ' c'.rs w' → Own ρ' c'.rs w' ab 3 1 (.slice (some ⟨gl, 0, none⟩) nl cl) nl (ints al) → Own ρ' c'.rs w' aB 3 1 (.slice (some ⟨ga, 0, none⟩) na ca) na (ints (la.map Int.ofNat)) → At Try.prog Q c' ρ' w') :
    At Try.prog Q ⟨regK Try.f8 51, fillJ (tmplJ Try.f8.ntmps 0 [(7, .ptr 0 0), (10, .v (.slice cL cs.length cc)), (11, .v (.slice tL ts.length tc)), (12, .v (.slice (some ⟨gl, 0, none⟩) nl cl)), (19, LI at1), (20, LI i1), (21, .v (.slice (some ⟨ga, 0, none⟩) na ca)), (22, LI (k : Int))]) d 0, [gR q]⟩ ρ w := by
  have hag := hR.ag_ 1 (by kernel_rfl)
  refine sim_run 3 [] (hR.cast (by kernel_rfl)) (by kernel_rfl) trivial (fun ρ100 w100 hm100 hR100 => ?_)
  have hp := hp.moved (hm100.castL (by kernel_rfl))
  have hal := hal.moved (hm100.castL (by kernel_rfl))
  have hla := hla.moved (hm100.castL (by kernel_rfl))
  have hag := hag.moved (hm100.castL (by kernel_rfl))
  
  have hb1 := hag.ag
  refine sim_loop (ι := Nat) (T := []) (w0 := w0) 0 [7, 10, 11, 12, 19, 20, 21, 22] (fun j => [(23, LI j)]) (fun _ => [gR q]) (fun j w1 => j ≤ nl ∧ PS q u ls cB cb cL cs tB tb tL ts ρ100 [gR q] w1 ∧ Own ρ100 [gR q] w1 ab 3 1 (.slice (some ⟨gl, 0, none⟩) nl cl) nl (ints al) ∧ Own ρ100 [gR q] w1 aB 3 1 (.slice (some ⟨ga, 0, none⟩) na ca) na (ints (la.map Int.ofNat))) (fun j => nl - j) (by kernel_rfl) (by kernel_rfl) ((by assumption : Rel _ _ _ _ _).cast (by kernel_rfl)) ⟨Nat.zero_le _, hp.castR (by kernel_rfl), hal.castR (by kernel_rfl), hla.castR (by kernel_rfl)⟩ ?_
  iterate 8 (try clear hp)
  iterate 8 (try clear hal)
  iterate 8 (try clear hla)
  iterate 8 (try clear hag)
  rintro j d2 w2 hR2 ⟨hj, hp, hal, hla⟩
  have hag := hR2.ag_ 1 (by kernel_rfl)
  by_cases hlt : j < nl
  · obtain ⟨z, hz⟩ : ∃ z, al[j]? = some z := ⟨_, List.getElem?_eq_getElem (by omega)⟩
    have hzx : z ≠ (x : Int) := fun e => hxa (e ▸ List.mem_of_getElem? hz)
    have hzb : (z == (x : Int)) = false := beq_eq_false_iff_ne.2 hzx
    refine sim_seeZ z j 1 (by kernel_rfl) hz hal hlt hR2 (by kernel_rfl) (fun ρE hmE eE hRE => ?_)
    have hp := hp.moved hmE
    have hal := hal.moved hmE
    have hla := hla.moved hmE
    have hag := hag.moved hmE
    refine sim_seeZ (x : Int) k 2 (by kernel_rfl) (by rw [List.getElem?_map, hx]; rfl) hla hk hRE (by kernel_rfl) (fun ρF hmF eF hRF => ?_)
    have hp := hp.moved hmF
    have hal := hal.moved hmF
    have hla := hla.moved hmF
    have hag := hag.moved hmF
    have eE := (hmF.at_ 1 (by kernel_rfl)).trans eE
    have hag3 := hRF.ag_ 3 (by kernel_rfl)
    refine sim_run 8 [] (hRF.cast (by kernel_rfl)) (by kernel_rfl) trivial (fun ρ200 w200 hm200 hR200 => ?_)
    have hp := hp.moved (hm200.castL (by kernel_rfl))
    have hal := hal.moved (hm200.castL (by kernel_rfl))
    have hla := hla.moved (hm200.castL (by kernel_rfl))
    have hag := hag.moved (hm200.castL (by kernel_rfl))
    have hag3 := hag3.moved (hm200.castL (by kernel_rfl))
    refine sim_know 232 (decide ((↑j : Int) < (↑nl : Int))) true (by kernel_rfl) (decide_eq_true (by omega)) ?_
    refine sim_run 5 [] (hR200.cast (by kernel_rfl)) (by kernel_rfl) trivial (fun ρ201 w201 hm201 hR201 => ?_)
    have hp := hp.moved (hm201.castL (by kernel_rfl))
    have hal := hal.moved (hm201.castL (by kernel_rfl))
    have hla := hla.moved (hm201.castL (by kernel_rfl))
    have hag := hag.moved (hm201.castL (by kernel_rfl))
    have hag3 := hag3.moved (hm201.castL (by kernel_rfl))
    refine sim_draw [] (by kernel_rfl) (by kernel_rfl) hR201 (fun hR202 => ?_)
    have hp := hp.drew
    have hal := hal.drew
    have hla := hla.drew
    refine sim_ordN 2 [] hR202 (by kernel_rfl) trivial (fun ρ203 w203 hm203 hR203 => ?_)
    have hag := hag.moved (hm203.castL (by kernel_rfl))
    have hag3 := hag3.moved (hm203.castL (by kernel_rfl))
    have hp := hp.moved (hm203.castL (by kernel_rfl))
    have hal := hal.moved (hm203.castL (by kernel_rfl))
    have hla := hla.moved (hm203.castL (by kernel_rfl))
    refine sim_ord_index (.v (.slice (some ⟨gl, 0, none⟩) nl cl)) nl 1 (j : Int) 1 0 (by kernel_rfl) (by omega) (by omega) rfl hR203 (by simp only [Nm.at_, hag3.at_ 1 (by omega), eE, Nat.add_zero, Nat.zero_add, Int.toNat_natCast, Nat.mul_one]) (fun hR204 => ?_)
    refine sim_ordN 3 [] hR204 (by kernel_rfl) trivial (fun ρ205 w205 hm205 hR205 => ?_)
    have hag := hag.moved (hm205.castL (by kernel_rfl))
    have hag3 := hag3.moved (hm205.castL (by kernel_rfl))
    have hp := hp.moved (hm205.castL (by kernel_rfl))
    have hal := hal.moved (hm205.castL (by kernel_rfl))
    have hla := hla.moved (hm205.castL (by kernel_rfl))
    refine sim_ord_index (.v (.slice (some ⟨ga, 0, none⟩) na ca)) na 1 (k : Int) 2 0 (by kernel_rfl) (by omega) (by omega) rfl hR205 (by simp only [Nm.at_, hag3.at_ 2 (by omega), eF, Nat.add_zero, Nat.zero_add, Int.toNat_natCast, Nat.mul_one]) (fun hR207 => ?_)
    refine sim_ordN 2 [] hR207 (by kernel_rfl) trivial (fun ρ208 w208 hm208 hR208 => ?_)
    have hag := hag.moved (hm208.castL (by kernel_rfl))
    have hag3 := hag3.moved (hm208.castL (by kernel_rfl))
    have hp := hp.moved (hm208.castL (by kernel_rfl))
    have hal := hal.moved (hm208.castL (by kernel_rfl))
    have hla := hla.moved (hm208.castL (by kernel_rfl))
    refine sim_ord_endR hR208 (by kernel_rfl) (fun hR209 => ?_)
    refine sim_know 243 (z == (↑x : Int)) false (by kernel_rfl) (by assumption) ?_
    refine sim_run 8 [⟨53, 1, LI (IntKind.i64.wrap ((↑j : Int) + 1)), LI ((↑j : Int) + 1)⟩] (hR209.cast (by kernel_rfl)) (by kernel_rfl) ⟨eqi (IntWalk.i64_in _ (by omega)), trivial⟩ (fun ρ210 w210 hm210 hR210 => ?_)
    have hag := hag.moved (hm210.castL (by kernel_rfl))
    have hag3 := hag3.moved (hm210.castL (by kernel_rfl))
    have hp := hp.moved (hm210.castL (by kernel_rfl))
    have hal := hal.moved (hm210.castL (by kernel_rfl))
    have hla := hla.moved (hm210.castL (by kernel_rfl))
    
    exact sim_again (j + 1) (by kernel_rfl) (by show nl - (j + 1) < nl - j; omega) (by kernel_rfl) (by kernel_rfl) (by kernel_rfl) hag.ag (Rel.cast (by assumption) (by kernel_rfl)) (by kernel_rfl) (by kernel_rfl) ⟨hlt, hp.cut hag rfl (by kernel_rfl), hal.cut hag rfl (by kernel_rfl), hla.cut hag rfl (by kernel_rfl)⟩
  · refine sim_run 8 [] (hR2.cast (by kernel_rfl)) (by kernel_rfl) trivial (fun ρ300 w300 hm300 hR300 => ?_)
    have hp := hp.moved (hm300.castL (by kernel_rfl))
    have hal := hal.moved (hm300.castL (by kernel_rfl))
    have hla := hla.moved (hm300.castL (by kernel_rfl))
    have hag := hag.moved (hm300.castL (by kernel_rfl))
    refine sim_know 232 (decide ((↑j : Int) < (↑nl : Int))) false (by kernel_rfl) (decide_eq_false (by omega)) ?_
    refine sim_run 1 [] (hR300.cast (by kernel_rfl)) (by kernel_rfl) trivial (fun ρ301 w301 hm301 hR301 => ?_)
    have hp := hp.moved (hm301.castL (by kernel_rfl))
    have hal := hal.moved (hm301.castL (by kernel_rfl))
    have hla := hla.moved (hm301.castL (by kernel_rfl))
    have hag := hag.moved (hm301.castL (by kernel_rfl))
    refine sim_leave (by kernel_rfl) ?_
    refine sim_run 6 [⟨50, 1, LI (IntKind.i64.wrap ((↑k : Int) + 1)), LI ((↑k : Int) + 1)⟩] (hR301.cast (by kernel_rfl)) (by kernel_rfl) ⟨eqi (IntWalk.i64_in _ (by omega)), trivial⟩ (fun ρ302 w302 hm302 hR302 => ?_)
    have hp := hp.moved (hm302.castL (by kernel_rfl))
    have hal := hal.moved (hm302.castL (by kernel_rfl))
    have hla := hla.moved (hm302.castL (by kernel_rfl))
    have hag := hag.moved (hm302.castL (by kernel_rfl))
    
    have hagN : Ag 1 ρ _ _ := ⟨hb1.tr hag.ag, hag.le⟩
    exact hfin _ _ _ (by kernel_rfl) (by kernel_rfl) (by kernel_rfl) hagN (Rel.cast (by assumption) (by kernel_rfl)) (by kernel_rfl) (hp.castR (by kernel_rfl)) (hal.castR (by kernel_rfl)) (hla.castR (by kernel_rfl))
end

section
open Go Go.RowKit
theorem parts_same {b g c : Nat} {A : Option Addr} {u : List Nat} {ls : List Lk} {w : World} (L : Option Addr) (z x : Int) (h : UfAt w b g u A c) (hGI : GInv u ls) (hsm : sameI u [z, x] = true) (hr : Reads w w.heap.size 1 L 2 (ints [z, x])) : Calls Try.prog 14 #[.pointer (some ⟨b, 0, none⟩), .slice L 2 2] w fun e w' => e = .returned (.bool true) ∧ Below w.heap.size w w' := by
  have := ufSame_b L 2 2 w.heap.size [z, x] h hGI.good hGI.le hr (by omega)
  rw [hsm] at this
  exact this
attribute [local irreducible] run goO leaveK someK nextK nextT nextOT nextOD loopBody loopRest loopK fillJ tmplOf tmplJ mergeT At AtO drawOk ordOf gateOf callC callO topOp topO idxOf appOf storeOf clearOf sliceOf calleeOf calleeO topQ idxQ newRowOf resL stepOp seek
set_option maxRecDepth 100000 in
set_option maxHeartbeats 4000000 in
theorem parts_26 {Q : Exit → Act → World → Prop} {R : Ending → World → Prop} [hB : Body Try.prog Q Try.f8 R] {ρ : Nm} {w0 w : World} {q : GrP} {u : List Nat} {ls : List Lk} {A : Option Addr} {n cp : Nat} {cB cb : Nat} {cL : Option Addr} {cs : List (List Int)} {tB tb : Nat} {tL : Option Addr} {ts : List (List Int)} {cc tc nl ab i k : Nat} {va : Value} {al ci : List Int} {z : Int} (hR : Rel [] w0 ρ [gR q] w) (hp : PS q u ls cB cb cL cs tB tb tL ts ρ [gR q] w) (hal : Own ρ [gR q] w ab 3 1 va nl (ints al)) (hGI : GInv u ls) (_ : ρ 0 = (q.b, 0)) (hcs : cs[i]? = some ci) (hz : ci[k]? = some z) (hsrt : ci.Pairwise (· < ·)) (hsm : ∀ y ∈ ci, y ≠ z → sameI u [z, y] = true) (_ : cs.length ≤ 100) (hci : ci.length ≤ 100) (d : Nat → Value)
    (hfin : ∀ (c' : Cfg) (ρ' : Nm) (w' : World), c'.k = [] → mergeT (tmplJ Try.f8.ntmps 0 [(2, .v (.slice A n cp)), (7, .ptr 0 0), (10, .v (.slice cL cs.length cc)), (11, .v (.slice tL ts.length tc)), (12, .v va), (13, LI (i : Int)), (14, LI ((k : Int) + 1))]) c'.tmps = c'.tmps → ((tmplJ Try.f8.ntmps 0 [(2, .v (.slice A n cp)), (7, .ptr 0 0), (10, .v (.slice cL cs.length cc)), (11, .v (.slice tL ts.length tc)), (12, .v va), (13, LI (i : Int)), (14, LI ((k : Int) + 1))])).length = c'.tmps.length → Ag 1 ρ ρ' c'.rs → Rel [] w0 ρ' c'.rs w' → c'.rs.take 1 = [gR q] → PS q u ls cB cb cL cs tB tb tL ts ρ' c'.rs w' → Own ρ' c'.rs w' ab 3 1 va nl (ints al) → At Try.prog Q c' ρ' w') :
    At Try.prog Q ⟨regK Try.f8 26, fillJ (tmplJ Try.f8.ntmps 0 [(2, .v (.slice A n cp)), (7, .ptr 0 0), (10, .v (.slice cL cs.length cc)), (11, .v (.slice tL ts.length tc)), (12, .v va), (13, LI (i : Int)), (14, LI (k : Int))]) d 0, [gR q]⟩ ρ w := by
  have hag := hR.ag_ 1 (by kernel_rfl)
  cases k with
  | zero =>
    refine sim_run 9 [] (hR.cast (by kernel_rfl)) (by kernel_rfl) trivial (fun ρ100 w100 hm100 hR100 => ?_)
    have hp := hp.moved (hm100.castL (by kernel_rfl))
    have hal := hal.moved (hm100.castL (by kernel_rfl))
    have hag := hag.moved (hm100.castL (by kernel_rfl))
    
    exact hfin _ _ _ (by kernel_rfl) (by kernel_rfl) (by kernel_rfl) hag (Rel.cast (by assumption) (by kernel_rfl)) (by kernel_rfl) (hp.castR (by kernel_rfl)) (hal.castR (by kernel_rfl))
  | succ m =>
    have hil := (List.getElem?_eq_some_iff.1 hcs).1
    have hkl := (List.getElem?_eq_some_iff.1 hz).1
    obtain ⟨y, hy⟩ : ∃ y, ci[m]? = some y := ⟨_, List.getElem?_eq_getElem (by omega)⟩
    obtain ⟨x0, hx0⟩ : ∃ x, ci[0]? = some x := ⟨_, List.getElem?_eq_getElem (by omega)⟩
    have hyz : y < z := by
      obtain ⟨h1, e1⟩ := List.getElem?_eq_some_iff.1 hy
      obtain ⟨h2, e2⟩ := List.getElem?_eq_some_iff.1 hz
      rw [← e1, ← e2]
      exact List.pairwise_iff_getElem.1 hsrt m (m + 1) h1 h2 (by omega)
    have hxz : x0 < z := by
      obtain ⟨h1, e1⟩ := List.getElem?_eq_some_iff.1 hx0
      obtain ⟨h2, e2⟩ := List.getElem?_eq_some_iff.1 hz
      rw [← e1, ← e2]
      exact List.pairwise_iff_getElem.1 hsrt 0 (m + 1) h1 h2 (by omega)
    have hsm := hsm x0 (List.mem_of_getElem? hx0) (by omega)
    have hz1 : (((m + 1 : Nat) : Int) - 1).toNat = m := by omega
    refine sim_seeRowZ i 1 (by kernel_rfl) hcs hp.c hR (by kernel_rfl) (fun gc oc Ac1 cc1 ρE eA hgb hrd hcc hAt hmE eE hRE => ?_)
    subst eA
    have hp := hp.moved hmE
    have hal := hal.moved hmE
    have hag := hag.moved hmE
    have hrd := hrd.moved hmE
    refine sim_seeInt (m + 1) 2 (by kernel_rfl) hz hrd hRE (by kernel_rfl) (fun gx ox ρF eA hgx hmF eF hRF => ?_)
    subst eA
    have hp := hp.moved hmF
    have hal := hal.moved hmF
    have hag := hag.moved hmF
    have hrd := hrd.moved hmF
    have eE := (hmF.at_ 1 (by kernel_rfl)).trans eE
    refine sim_seeInt m 3 (by kernel_rfl) hy hrd hRF (by kernel_rfl) (fun g3 o3 ρG eA hg3 hmG eG hRG => ?_)
    injection eA with eA
    injection eA with eg eo
    subst eg eo
    have hp := hp.moved hmG
    have hal := hal.moved hmG
    have hag := hag.moved hmG
    have hrd := hrd.moved hmG
    have eE := (hmG.at_ 1 (by kernel_rfl)).trans eE
    have eF := (hmG.at_ 2 (by kernel_rfl)).trans eF
    refine sim_seeInt 0 4 (by kernel_rfl) hx0 hrd hRG (by kernel_rfl) (fun g3 o3 ρH eA hg4 hmH eH hRH => ?_)
    injection eA with eA
    injection eA with eg eo
    subst eg eo
    have hp := hp.moved hmH
    have hal := hal.moved hmH
    have hag := hag.moved hmH
    have eE := (hmH.at_ 1 (by kernel_rfl)).trans eE
    have eF := (hmH.at_ 2 (by kernel_rfl)).trans eF
    have eG := (hmH.at_ 3 (by kernel_rfl)).trans eG
    have hag5 := hRH.ag_ 5 (by kernel_rfl)
    clear hrd
    refine sim_draw [] (by kernel_rfl) (by kernel_rfl) (hRH.cast (by kernel_rfl)) (fun hR200 => ?_)
    have hrd := hrd.drew
    have hp := hp.drew
    have hal := hal.drew
    refine sim_ordN 3 [] hR200 (by kernel_rfl) trivial (fun ρ201 w201 hm201 hR201 => ?_)
    have hag := hag.moved (hm201.castL (by kernel_rfl))
    have hag5 := hag5.moved (hm201.castL (by kernel_rfl))
    have hp := hp.moved (hm201.castL (by kernel_rfl))
    have hal := hal.moved (hm201.castL (by kernel_rfl))
    refine sim_knowO hR201 118 (decide ((↑(m + 1) : Int) > 0)) true (by kernel_rfl) (decide_eq_true (by omega)) (fun hR202 => ?_)
    refine sim_ordN 2 [] hR202 (by kernel_rfl) trivial (fun ρ203 w203 hm203 hR203 => ?_)
    have hag := hag.moved (hm203.castL (by kernel_rfl))
    have hag5 := hag5.moved (hm203.castL (by kernel_rfl))
    have hp := hp.moved (hm203.castL (by kernel_rfl))
    have hal := hal.moved (hm203.castL (by kernel_rfl))
    refine sim_ord_index (.v (.slice (some ⟨gc, oc, none⟩) cs.length cc)) cs.length 1 (i : Int) 1 0 (by kernel_rfl) (by omega) (by omega) rfl hR203 (by simp only [Nm.at_, hag5.at_ 1 (by omega), eE, Nat.add_zero, Int.toNat_natCast, Nat.mul_one]) (fun hR204 => ?_)
    refine sim_ordN 2 [] hR204 (by kernel_rfl) trivial (fun ρ205 w205 hm205 hR205 => ?_)
    have hag := hag.moved (hm205.castL (by kernel_rfl))
    have hag5 := hag5.moved (hm205.castL (by kernel_rfl))
    have hp := hp.moved (hm205.castL (by kernel_rfl))
    have hal := hal.moved (hm205.castL (by kernel_rfl))
    refine sim_ord_index (.v (.slice (some ⟨gx, ox, none⟩) ci.length cc1)) ci.length 1 ((m + 1 : Nat) : Int) 2 0 (by kernel_rfl) (by omega) (by omega) rfl hR205 (by simp only [Nm.at_, hag5.at_ 2 (by omega), eF, Nat.add_zero, Int.toNat_natCast, Nat.mul_one]) (fun hR207 => ?_)
    refine sim_ordN 3 [] hR207 (by kernel_rfl) trivial (fun ρ208 w208 hm208 hR208 => ?_)
    have hag := hag.moved (hm208.castL (by kernel_rfl))
    have hag5 := hag5.moved (hm208.castL (by kernel_rfl))
    have hp := hp.moved (hm208.castL (by kernel_rfl))
    have hal := hal.moved (hm208.castL (by kernel_rfl))
    refine sim_ord_index (.v (.slice (some ⟨gc, oc, none⟩) cs.length cc)) cs.length 1 (i : Int) 1 0 (by kernel_rfl) (by omega) (by omega) rfl hR208 (by simp only [Nm.at_, hag5.at_ 1 (by omega), eE, Nat.add_zero, Int.toNat_natCast, Nat.mul_one]) (fun hR209 => ?_)
    refine sim_ordN 3 [⟨26, 15, LI (IntKind.i64.wrap ((↑(m + 1) : Int) - 1)), LI ((↑(m + 1) : Int) - 1)⟩] hR209 (by kernel_rfl) ⟨eqi (IntWalk.i64_in _ (by omega)), trivial⟩ (fun ρ210 w210 hm210 hR210 => ?_)
    have hag := hag.moved (hm210.castL (by kernel_rfl))
    have hag5 := hag5.moved (hm210.castL (by kernel_rfl))
    have hp := hp.moved (hm210.castL (by kernel_rfl))
    have hal := hal.moved (hm210.castL (by kernel_rfl))
    refine sim_ord_index (.v (.slice (some ⟨gx, ox, none⟩) ci.length cc1)) ci.length 1 (((m + 1 : Nat) : Int) - 1) 3 0 (by kernel_rfl) (by omega) (by omega) rfl hR210 (by simp only [Nm.at_, hag5.at_ 3 (by omega), eG, Nat.add_zero, hz1, Nat.mul_one]) (fun hR213 => ?_)
    refine sim_ordN 3 [] hR213 (by kernel_rfl) trivial (fun ρ214 w214 hm214 hR214 => ?_)
    have hag := hag.moved (hm214.castL (by kernel_rfl))
    have hag5 := hag5.moved (hm214.castL (by kernel_rfl))
    have hp := hp.moved (hm214.castL (by kernel_rfl))
    have hal := hal.moved (hm214.castL (by kernel_rfl))
    refine sim_knowO hR214 135 (decide (z ≤ y)) false (by kernel_rfl) (decide_eq_false (by omega)) (fun hR215 => ?_)
    refine sim_ordN 6 [] hR215 (by kernel_rfl) trivial (fun ρ216 w216 hm216 hR216 => ?_)
    have hag := hag.moved (hm216.castL (by kernel_rfl))
    have hag5 := hag5.moved (hm216.castL (by kernel_rfl))
    have hp := hp.moved (hm216.castL (by kernel_rfl))
    have hal := hal.moved (hm216.castL (by kernel_rfl))
    refine sim_ord_index (.v (.slice (some ⟨gc, oc, none⟩) cs.length cc)) cs.length 1 (i : Int) 1 0 (by kernel_rfl) (by omega) (by omega) rfl hR216 (by simp only [Nm.at_, hag5.at_ 1 (by omega), eE, Nat.add_zero, Int.toNat_natCast, Nat.mul_one]) (fun hR217 => ?_)
    refine sim_ordN 2 [] hR217 (by kernel_rfl) trivial (fun ρ218 w218 hm218 hR218 => ?_)
    have hag := hag.moved (hm218.castL (by kernel_rfl))
    have hag5 := hag5.moved (hm218.castL (by kernel_rfl))
    have hp := hp.moved (hm218.castL (by kernel_rfl))
    have hal := hal.moved (hm218.castL (by kernel_rfl))
    refine sim_ord_index (.v (.slice (some ⟨gx, ox, none⟩) ci.length cc1)) ci.length 1 ((m + 1 : Nat) : Int) 2 0 (by kernel_rfl) (by omega) (by omega) rfl hR218 (by simp only [Nm.at_, hag5.at_ 2 (by omega), eF, Nat.add_zero, Int.toNat_natCast, Nat.mul_one]) (fun hR220 => ?_)
    refine sim_ordN 3 [] hR220 (by kernel_rfl) trivial (fun ρ221 w221 hm221 hR221 => ?_)
    have hag := hag.moved (hm221.castL (by kernel_rfl))
    have hag5 := hag5.moved (hm221.castL (by kernel_rfl))
    have hp := hp.moved (hm221.castL (by kernel_rfl))
    have hal := hal.moved (hm221.castL (by kernel_rfl))
    refine sim_ord_index (.v (.slice (some ⟨gc, oc, none⟩) cs.length cc)) cs.length 1 (i : Int) 1 0 (by kernel_rfl) (by omega) (by omega) rfl hR221 (by simp only [Nm.at_, hag5.at_ 1 (by omega), eE, Nat.add_zero, Int.toNat_natCast, Nat.mul_one]) (fun hR222 => ?_)
    refine sim_ordN 1 [] hR222 (by kernel_rfl) trivial (fun ρ223 w223 hm223 hR223 => ?_)
    have hag := hag.moved (hm223.castL (by kernel_rfl))
    have hag5 := hag5.moved (hm223.castL (by kernel_rfl))
    have hp := hp.moved (hm223.castL (by kernel_rfl))
    have hal := hal.moved (hm223.castL (by kernel_rfl))
    refine sim_ord_index (.v (.slice (some ⟨gx, ox, none⟩) ci.length cc1)) ci.length 1 0 4 0 (by kernel_rfl) (by omega) (by omega) rfl hR223 (by simp only [Nm.at_, hag5.at_ 4 (by omega), eH, Nat.add_zero]; rfl) (fun hR227 => ?_)
    refine sim_ordN 2 [] hR227 (by kernel_rfl) trivial (fun ρ228 w228 hm228 hR228 => ?_)
    have hag := hag.moved (hm228.castL (by kernel_rfl))
    have hag5 := hag5.moved (hm228.castL (by kernel_rfl))
    have hp := hp.moved (hm228.castL (by kernel_rfl))
    have hal := hal.moved (hm228.castL (by kernel_rfl))
    refine sim_ord_call (T := []) (w0 := w0) 14 [.v (Value.pointer (some (Addr.mk q.pb 0 none))), .slc 5 0 2 2] (by kernel_rfl) ?_
    refine Calls.mono (parts_same _ (z) (x0) (hp.g.is.uf) (hGI) (hsm) (Rel.reads (RelO.rel (by assumption)) (n := 5) (size := 1) (m := 2) (vs := ints [z, x0]) (b := true) (by kernel_rfl) rfl)) ?_
    rintro e229 w229 ⟨rfl, hb229⟩
    have hR229 := hR228.call hb229 (LB true)
    have hp := hp.below hb229
    have hal := hal.below hb229
    refine BackO.of (LB true) hR229 rfl ?_
    refine sim_ordN 3 [] hR229 (by kernel_rfl) trivial (fun ρ230 w230 hm230 hR230 => ?_)
    have hag := hag.moved (hm230.castL (by kernel_rfl))
    have hag5 := hag5.moved (hm230.castL (by kernel_rfl))
    have hp := hp.moved (hm230.castL (by kernel_rfl))
    have hal := hal.moved (hm230.castL (by kernel_rfl))
    refine sim_ord_endR hR230 (by kernel_rfl) (fun hR231 => ?_)
    refine sim_run 8 [⟨19, 1, LI (IntKind.i64.wrap ((↑(m + 1) : Int) + 1)), LI ((↑(m + 1) : Int) + 1)⟩] (hR231.cast (by kernel_rfl)) (by kernel_rfl) ⟨eqi (IntWalk.i64_in _ (by omega)), trivial⟩ (fun ρ232 w232 hm232 hR232 => ?_)
    have hag := hag.moved (hm232.castL (by kernel_rfl))
    have hag5 := hag5.moved (hm232.castL (by kernel_rfl))
    have hp := hp.moved (hm232.castL (by kernel_rfl))
    have hal := hal.moved (hm232.castL (by kernel_rfl))
    
    exact hfin _ _ _ (by kernel_rfl) (by kernel_rfl) (by kernel_rfl) hag (Rel.cast (by assumption) (by kernel_rfl)) (by kernel_rfl) (hp.castR (by kernel_rfl)) (hal.castR (by kernel_rfl))
end

section
open Go Go.RowKit
theorem ints_snoc (ρ : Nm) (al : List Int) (z : Int) : ints al ++ denL ρ [LI z] = ints (al ++ [z]) := by
  unfold ints
  rw [List.map_append]
  rfl
attribute [local irreducible] run goO leaveK someK nextK nextT nextOT nextOD loopBody loopRest loopK fillJ tmplOf tmplJ mergeT At AtO drawOk ordOf gateOf callC callO topOp topO idxOf appOf storeOf clearOf sliceOf calleeOf calleeO topQ idxQ newRowOf resL stepOp seek
set_option maxRecDepth 100000 in
set_option maxHeartbeats 4000000 in
theorem parts_25 {Q : Exit → Act → World → Prop} {R : Ending → World → Prop} [hB : Body Try.prog Q Try.f8 R] {ρ : Nm} {w0 w : World} {q : GrP} {u : List Nat} {ls : List Lk} {A : Option Addr} {n cp : Nat} {cB cb : Nat} {cL : Option Addr} {cs : List (List Int)} {tB tb : Nat} {tL : Option Addr} {ts : List (List Int)} {cc tc nl i k : Nat} {va : Value} {al ci : List Int} {z : Int} (hR : Rel [] w0 ρ [gR q] w) (hp : PS q u ls cB cb cL cs tB tb tL ts ρ [gR q] w) (hal : Own ρ [gR q] w tB 3 1 va nl (ints al)) (hGI : GInv u ls) (e0 : ρ 0 = (q.b, 0)) (hcs : cs[i]? = some ci) (hz : ci[k]? = some z) (hsrt : ci.Pairwise (· < ·)) (hsm : ∀ y ∈ ci, y ≠ z → sameI u [z, y] = true) (hcl : cs.length ≤ 100) (hci : ci.length ≤ 100) (hql : ∀ x, q.has x → x < tB) (hcB : cB ≤ tB) (hw0 : w0.heap.size ≤ tB) (hnl : nl ≤ 100) (d : Nat → Value)
    (hfin : ∀ (va : Value) (c' : Cfg) (ρ' : Nm) (w' : World), c'.k = [] → mergeT (tmplJ Try.f8.ntmps 0 [(2, .v (.slice A n cp)), (7, .ptr 0 0), (10, .v (.slice cL cs.length cc)), (11, .v (.slice tL ts.length tc)), (12, .v va), (13, LI (i : Int)), (14, LI ((k : Int) + 1))]) c'.tmps = c'.tmps → ((tmplJ Try.f8.ntmps 0 [(2, .v (.slice A n cp)), (7, .ptr 0 0), (10, .v (.slice cL cs.length cc)), (11, .v (.slice tL ts.length tc)), (12, .v va), (13, LI (i : Int)), (14, LI ((k : Int) + 1))])).length = c'.tmps.length → Ag 1 ρ ρ' c'.rs → Rel [] w0 ρ' c'.rs w' → c'.rs.take 1 = [gR q] → PS q u ls cB cb cL cs tB tb tL ts ρ' c'.rs w' → Own ρ' c'.rs w' tB 3 1 va (nl + 1) (ints (al ++ [z])) → At Try.prog Q c' ρ' w') :
    At Try.prog Q ⟨regK Try.f8 25, fillJ (tmplJ Try.f8.ntmps 0 [(2, .v (.slice A n cp)), (7, .ptr 0 0), (10, .v (.slice cL cs.length cc)), (11, .v (.slice tL ts.length tc)), (12, .v va), (13, LI (i : Int)), (14, LI (k : Int))]) d 0, [gR q]⟩ ρ w := by
  have hag := hR.ag_ 1 (by kernel_rfl)
  have hil := (List.getElem?_eq_some_iff.1 hcs).1
  have hkl := (List.getElem?_eq_some_iff.1 hz).1
  refine sim_seeRowZ i 1 (by kernel_rfl) hcs hp.c hR (by kernel_rfl) (fun gc oc Ac1 cc1 ρE eA hgb hrd hcc hAt hmE eE hRE => ?_)
  subst eA
  have hp := hp.moved hmE
  have hal := hal.moved hmE
  have hag := hag.moved hmE
  have hrd := hrd.moved hmE
  refine sim_seeInt k 2 (by kernel_rfl) hz hrd hRE (by kernel_rfl) (fun gx ox ρF eA hgx hmF eF hRF => ?_)
  subst eA
  have hp := hp.moved hmF
  have hal := hal.moved hmF
  have hag := hag.moved hmF
  have eE := (hmF.at_ 1 (by kernel_rfl)).trans eE
  have hag3 := hRF.ag_ 3 (by kernel_rfl)
  clear hrd
  refine sim_run 3 [] (hRF.cast (by kernel_rfl)) (by kernel_rfl) trivial (fun ρ100 w100 hm100 hR100 => ?_)
  have hp := hp.moved (hm100.castL (by kernel_rfl))
  have hal := hal.moved (hm100.castL (by kernel_rfl))
  have hag := hag.moved (hm100.castL (by kernel_rfl))
  have hag3 := hag3.moved (hm100.castL (by kernel_rfl))
  refine sim_place (.v (.slice (some ⟨gc, oc, none⟩) cs.length cc)) cs.length 1 (i : Int) 1 0 (by kernel_rfl) (by omega) (by omega) rfl (by simp only [Nm.at_, hag3.at_ 1 (by omega), eE, Nat.add_zero, Int.toNat_natCast, Nat.mul_one]) ?_
  refine sim_run 2 [] (hR100.cast (by kernel_rfl)) (by kernel_rfl) trivial (fun ρ102 w102 hm102 hR102 => ?_)
  have hp := hp.moved (hm102.castL (by kernel_rfl))
  have hal := hal.moved (hm102.castL (by kernel_rfl))
  have hag := hag.moved (hm102.castL (by kernel_rfl))
  have hag3 := hag3.moved (hm102.castL (by kernel_rfl))
  refine sim_place (.v (.slice (some ⟨gx, ox, none⟩) ci.length cc1)) ci.length 1 (k : Int) 2 0 (by kernel_rfl) (by omega) (by omega) rfl (by simp only [Nm.at_, hag3.at_ 2 (by omega), eF, Nat.add_zero, Int.toNat_natCast, Nat.mul_one]) ?_
  refine sim_run 2 [] (hR102.cast (by kernel_rfl)) (by kernel_rfl) trivial (fun ρ105 w105 hm105 hR105 => ?_)
  have hp := hp.moved (hm105.castL (by kernel_rfl))
  have hal := hal.moved (hm105.castL (by kernel_rfl))
  have hag := hag.moved (hm105.castL (by kernel_rfl))
  have hag3 := hag3.moved (hm105.castL (by kernel_rfl))
  
  refine sim_appendO 31 va (.slc 3 0 1 1) (by kernel_rfl) (by assumption : Rel _ _ _ _ _) int_ty hal 3 1 1 rfl [LI z] (by kernel_rfl) rfl (by kernel_rfl) (by unfold maxLen; omega) (by omega) hp.z.is (fun g' hg' => .inr (by have := own_ge hal.own hg'; omega)) [0, 1, 2] (by kernel_rfl) (fun k0 hk0 g' hg' => by
    have h4 := own_ge hal.own hg'
    have h5 := hql q.b (.inl rfl)
    have h6 := hgb.2
    obtain ⟨_, eX, eY, h7⟩ := hgx
    injection eX with eX
    subst eX
    simp only [List.mem_cons, List.not_mem_nil, or_false] at hk0
    rcases hk0 with rfl | rfl | rfl
    · rw [hag.at_ 0 (by omega), e0]
      show q.b ≠ g'
      omega
    · rw [hag3.at_ 1 (by omega), eE]
      show gc ≠ g'
      omega
    · rw [hag3.at_ 2 (by omega), eF]
      show gx ≠ g'
      omega) (fun v' w6 hvo hgr hR6 => ?_)
  have hp := hp.grown hql hcB (Nat.le_refl _) hal.own hgr
  rw [ints_snoc] at hvo
  clear hal
  refine sim_run 3 [] (hR6.cast (by kernel_rfl)) (by kernel_rfl) trivial (fun ρ200 w200 hm200 hR200 => ?_)
  have hag := hag.moved (hm200.castL (by kernel_rfl))
  have hag3 := hag3.moved (hm200.castL (by kernel_rfl))
  have hvo := hvo.moved (hm200.castL (by kernel_rfl))
  have hp := hp.moved (hm200.castL (by kernel_rfl))
  
  have hbN := hag.ag
  refine sim_to (regK Try.f8 26) (tmplJ Try.f8.ntmps 0 [(2, .v (.slice A n cp)), (7, .ptr 0 0), (10, .v (.slice (some ⟨gc, oc, none⟩) cs.length cc)), (11, .v (.slice tL ts.length tc)), (12, .v v'), (13, LI (i : Int)), (14, LI (k : Int))]) [gR q] (by kernel_rfl) (by kernel_rfl) (by kernel_rfl) (fun d6 => ?_)
  refine parts_26 (w0 := w0) (Rel.cut (rs := [gR q]) (by assumption : Rel _ _ _ _ _) (by kernel_rfl) (Agree.refl 1 _) (by kernel_rfl)) (hp.cut ⟨Agree.refl 1 _, Nat.le_of_ble_eq_true (by kernel_rfl)⟩ rfl (by kernel_rfl)) (hvo.cut ⟨Agree.refl 1 _, Nat.le_of_ble_eq_true (by kernel_rfl)⟩ rfl (by kernel_rfl)) hGI ((hbN 0 (by omega)).trans e0) hcs hz hsrt hsm hcl hci d6 (fun c' ρ' w' q1 q2 q3 q4 q5 q6 q7 q8 => ?_)
  exact hfin v' c' ρ' w' q1 q2 q3 ⟨hbN.tr q4.ag, q4.le⟩ q5 q6 q7 q8
end

section
open Go Go.RowKit
attribute [local irreducible] run goO leaveK someK nextK nextT nextOT nextOD loopBody loopRest loopK fillJ tmplOf tmplJ mergeT At AtO drawOk ordOf gateOf callC callO topOp topO idxOf appOf storeOf clearOf sliceOf calleeOf calleeO topQ idxQ newRowOf resL stepOp seek
set_option maxRecDepth 100000 in
set_option maxHeartbeats 4000000 in
theorem parts_20 {Q : Exit → Act → World → Prop} {R : Ending → World → Prop} [hB : Body Try.prog Q Try.f8 R] {ρ : Nm} {w0 w : World} {q : GrP} {u : List Nat} {ls : List Lk} {A : Option Addr} {n cp : Nat} {cB cb : Nat} {cL : Option Addr} {cs : List (List Int)} {tB tb : Nat} {tL : Option Addr} {ts : List (List Int)} {cc tc nl i k : Nat} {va : Value} {al ci : List Int} {z : Int} (hR : Rel [] w0 ρ [gR q] w) (hp : PS q u ls cB cb cL cs tB tb tL ts ρ [gR q] w) (hal : Own ρ [gR q] w tB 3 1 va nl (ints al)) (hGI : GInv u ls) (e0 : ρ 0 = (q.b, 0)) (hcs : cs[i]? = some ci) (hz : ci[k]? = some z) (hsrt : ci.Pairwise (· < ·)) (hsm : ∀ y ∈ ci, y ≠ z → sameI u [z, y] = true) (hcl : cs.length ≤ 100) (hci : ci.length ≤ 100) (hql : ∀ x, q.has x → x < tB) (hcB : cB ≤ tB) (hw0 : w0.heap.size ≤ tB) (hnl : nl ≤ 100) (hva : ∃ L cl, va = .slice L nl cl) (hall : al.length = nl) (hnot : z ∉ al) (d : Nat → Value)
    (hfin : ∀ (va : Value) (c' : Cfg) (ρ' : Nm) (w' : World), c'.k = [] → mergeT (tmplJ Try.f8.ntmps 0 [(2, .v (.slice A n cp)), (7, .ptr 0 0), (10, .v (.slice cL cs.length cc)), (11, .v (.slice tL ts.length tc)), (12, .v va), (13, LI (i : Int)), (14, LI ((k : Int) + 1))]) c'.tmps = c'.tmps → ((tmplJ Try.f8.ntmps 0 [(2, .v (.slice A n cp)), (7, .ptr 0 0), (10, .v (.slice cL cs.length cc)), (11, .v (.slice tL ts.length tc)), (12, .v va), (13, LI (i : Int)), (14, LI ((k : Int) + 1))])).length = c'.tmps.length → Ag 1 ρ ρ' c'.rs → Rel [] w0 ρ' c'.rs w' → c'.rs.take 1 = [gR q] → PS q u ls cB cb cL cs tB tb tL ts ρ' c'.rs w' → Own ρ' c'.rs w' tB 3 1 va (nl + 1) (ints (al ++ [z])) → At Try.prog Q c' ρ' w') :
    At Try.prog Q ⟨regK Try.f8 20, fillJ (tmplJ Try.f8.ntmps 0 [(2, .v (.slice A n cp)), (7, .ptr 0 0), (10, .v (.slice cL cs.length cc)), (11, .v (.slice tL ts.length tc)), (12, .v va), (13, LI (i : Int)), (14, LI (k : Int))]) d 0, [gR q]⟩ ρ w := by
  have hil := (List.getElem?_eq_some_iff.1 hcs).1
  have hkl := (List.getElem?_eq_some_iff.1 hz).1
  obtain ⟨L, cl, rfl⟩ := hva
  have hag := hR.ag_ 1 (by kernel_rfl)
  by_cases h0 : nl = 0
  · subst h0
    refine sim_run 3 [] (hR.cast (by kernel_rfl)) (by kernel_rfl) trivial (fun ρ100 w100 hm100 hR100 => ?_)
    have hp := hp.moved (hm100.castL (by kernel_rfl))
    have hag := hag.moved (hm100.castL (by kernel_rfl))
    have hal := hal.moved (hm100.castL (by kernel_rfl))
    refine sim_unroll 2 (by kernel_rfl) ?_
    refine sim_run 13 [] (hR100.cast (by kernel_rfl)) (by kernel_rfl) trivial (fun ρ101 w101 hm101 hR101 => ?_)
    have hp := hp.moved (hm101.castL (by kernel_rfl))
    have hag := hag.moved (hm101.castL (by kernel_rfl))
    have hal := hal.moved (hm101.castL (by kernel_rfl))
    
    have hbN := hag.ag
    refine sim_to (regK Try.f8 25) (tmplJ Try.f8.ntmps 0 [(2, .v (.slice A n cp)), (7, .ptr 0 0), (10, .v (.slice cL cs.length cc)), (11, .v (.slice tL ts.length tc)), (12, .v (.slice L 0 cl)), (13, LI (i : Int)), (14, LI (k : Int))]) [gR q] (by kernel_rfl) (by kernel_rfl) (by kernel_rfl) (fun d6 => ?_)
    refine parts_25 (w0 := w0) ((by assumption : Rel _ _ _ _ _).cast (by kernel_rfl)) (hp.castR (by kernel_rfl)) (hal.castR (by kernel_rfl)) hGI ((hbN 0 (by omega)).trans e0) hcs hz hsrt hsm hcl hci hql hcB hw0 hnl d6 (fun va c' ρ' w' q1 q2 q3 q4 q5 q6 q7 q8 => ?_)
    exact hfin va c' ρ' w' q1 q2 q3 ⟨hbN.tr q4.ag, q4.le⟩ q5 q6 q7 q8
  · obtain ⟨gl, rfl⟩ : ∃ g, L = some ⟨g, 0, none⟩ := own_first hal.own (by omega)
    refine sim_run 3 [] (hR.cast (by kernel_rfl)) (by kernel_rfl) trivial (fun ρ200 w200 hm200 hR200 => ?_)
    have hp := hp.moved (hm200.castL (by kernel_rfl))
    have hag := hag.moved (hm200.castL (by kernel_rfl))
    have hal := hal.moved (hm200.castL (by kernel_rfl))
    
    have hb0 := hag.ag
    refine sim_loop (ι := Nat) (T := []) (w0 := w0) 0 [2, 7, 10, 11, 12, 13, 14] (fun j => [(15, LI j)]) (fun _ => [gR q]) (fun j w1 => j ≤ nl ∧ PS q u ls cB cb cL cs tB tb tL ts ρ200 [gR q] w1 ∧ Own ρ200 [gR q] w1 tB 3 1 (.slice (some ⟨gl, 0, none⟩) nl cl) nl (ints al)) (fun j => nl - j) (by kernel_rfl) (by kernel_rfl) ((by assumption : Rel _ _ _ _ _).cast (by kernel_rfl)) ⟨Nat.zero_le _, hp.castR (by kernel_rfl), hal.castR (by kernel_rfl)⟩ ?_
    iterate 8 (try clear hp)
    iterate 8 (try clear hal)
    iterate 8 (try clear hag)
    rintro j d2 w2 hR2 ⟨hj, hp, hal⟩
    have hag := hR2.ag_ 1 (by kernel_rfl)
    by_cases hlt : j < nl
    · obtain ⟨y, hy⟩ : ∃ y, al[j]? = some y := ⟨_, List.getElem?_eq_getElem (by omega)⟩
      have hyz : (y == z) = false := beq_eq_false_iff_ne.2 fun e => hnot (e ▸ List.mem_of_getElem? hy)
      refine sim_seeZ y j 1 (by kernel_rfl) hy hal hlt hR2 (by kernel_rfl) (fun ρD hmD eD hRD => ?_)
      have hp := hp.moved hmD
      have hal := hal.moved hmD
      have hag := hag.moved hmD
      refine sim_seeRowZ i 2 (by kernel_rfl) hcs hp.c hRD (by kernel_rfl) (fun gc oc Ac1 cc1 ρE eA hgb hrd hcc hAt hmE eE hRE => ?_)
      subst eA
      have hp := hp.moved hmE
      have hal := hal.moved hmE
      have hag := hag.moved hmE
      have hrd := hrd.moved hmE
      refine sim_seeInt k 3 (by kernel_rfl) hz hrd hRE (by kernel_rfl) (fun gx ox ρF eA hgx hmF eF hRF => ?_)
      subst eA
      have hp := hp.moved hmF
      have hal := hal.moved hmF
      have hag := hag.moved hmF
      have eE := (hmF.at_ 2 (by kernel_rfl)).trans eE
      have eD := (hmF.at_ 1 (by kernel_rfl)).trans ((hmE.at_ 1 (by kernel_rfl)).trans eD)
      have hag4 := hRF.ag_ 4 (by kernel_rfl)
      clear hrd
      refine sim_run 8 [] (hRF.cast (by kernel_rfl)) (by kernel_rfl) trivial (fun ρ300 w300 hm300 hR300 => ?_)
      have hp := hp.moved (hm300.castL (by kernel_rfl))
      have hal := hal.moved (hm300.castL (by kernel_rfl))
      have hag := hag.moved (hm300.castL (by kernel_rfl))
      have hag4 := hag4.moved (hm300.castL (by kernel_rfl))
      refine sim_know 91 (decide ((↑j : Int) < (↑nl : Int))) true (by kernel_rfl) (decide_eq_true (by omega)) ?_
      refine sim_run 5 [] (hR300.cast (by kernel_rfl)) (by kernel_rfl) trivial (fun ρ301 w301 hm301 hR301 => ?_)
      have hp := hp.moved (hm301.castL (by kernel_rfl))
      have hal := hal.moved (hm301.castL (by kernel_rfl))
      have hag := hag.moved (hm301.castL (by kernel_rfl))
      have hag4 := hag4.moved (hm301.castL (by kernel_rfl))
      refine sim_draw [] (by kernel_rfl) (by kernel_rfl) hR301 (fun hR302 => ?_)
      have hp := hp.drew
      have hal := hal.drew
      refine sim_ordN 2 [] hR302 (by kernel_rfl) trivial (fun ρ303 w303 hm303 hR303 => ?_)
      have hag := hag.moved (hm303.castL (by kernel_rfl))
      have hag4 := hag4.moved (hm303.castL (by kernel_rfl))
      have hp := hp.moved (hm303.castL (by kernel_rfl))
      have hal := hal.moved (hm303.castL (by kernel_rfl))
      refine sim_ord_index (.v (.slice (some ⟨gl, 0, none⟩) nl cl)) nl 1 (j : Int) 1 0 (by kernel_rfl) (by omega) (by omega) rfl hR303 (by simp only [Nm.at_, hag4.at_ 1 (by omega), eD, Nat.add_zero, Nat.zero_add, Int.toNat_natCast, Nat.mul_one]) (fun hR304 => ?_)
      refine sim_ordN 3 [] hR304 (by kernel_rfl) trivial (fun ρ305 w305 hm305 hR305 => ?_)
      have hag := hag.moved (hm305.castL (by kernel_rfl))
      have hag4 := hag4.moved (hm305.castL (by kernel_rfl))
      have hp := hp.moved (hm305.castL (by kernel_rfl))
      have hal := hal.moved (hm305.castL (by kernel_rfl))
      refine sim_ord_index (.v (.slice (some ⟨gc, oc, none⟩) cs.length cc)) cs.length 1 (i : Int) 2 0 (by kernel_rfl) (by omega) (by omega) rfl hR305 (by simp only [Nm.at_, hag4.at_ 2 (by omega), eE, Nat.add_zero, Int.toNat_natCast, Nat.mul_one]) (fun hR307 => ?_)
      refine sim_ordN 2 [] hR307 (by kernel_rfl) trivial (fun ρ308 w308 hm308 hR308 => ?_)
      have hag := hag.moved (hm308.castL (by kernel_rfl))
      have hag4 := hag4.moved (hm308.castL (by kernel_rfl))
      have hp := hp.moved (hm308.castL (by kernel_rfl))
      have hal := hal.moved (hm308.castL (by kernel_rfl))
      refine sim_ord_index (.v (.slice (some ⟨gx, ox, none⟩) ci.length cc1)) ci.length 1 (k : Int) 3 0 (by kernel_rfl) (by omega) (by omega) rfl hR308 (by simp only [Nm.at_, hag4.at_ 3 (by omega), eF, Nat.add_zero, Int.toNat_natCast, Nat.mul_one]) (fun hR311 => ?_)
      refine sim_ordN 2 [] hR311 (by kernel_rfl) trivial (fun ρ312 w312 hm312 hR312 => ?_)
      have hag := hag.moved (hm312.castL (by kernel_rfl))
      have hag4 := hag4.moved (hm312.castL (by kernel_rfl))
      have hp := hp.moved (hm312.castL (by kernel_rfl))
      have hal := hal.moved (hm312.castL (by kernel_rfl))
      refine sim_ord_endR hR312 (by kernel_rfl) (fun hR313 => ?_)
      refine sim_know 105 (y == z) false (by kernel_rfl) (by assumption) ?_
      refine sim_run 8 [⟨22, 1, LI (IntKind.i64.wrap ((↑j : Int) + 1)), LI ((↑j : Int) + 1)⟩] (hR313.cast (by kernel_rfl)) (by kernel_rfl) ⟨eqi (IntWalk.i64_in _ (by omega)), trivial⟩ (fun ρ314 w314 hm314 hR314 => ?_)
      have hag := hag.moved (hm314.castL (by kernel_rfl))
      have hag4 := hag4.moved (hm314.castL (by kernel_rfl))
      have hp := hp.moved (hm314.castL (by kernel_rfl))
      have hal := hal.moved (hm314.castL (by kernel_rfl))
      
      exact sim_again (j + 1) (by kernel_rfl) (by show nl - (j + 1) < nl - j; omega) (by kernel_rfl) (by kernel_rfl) (by kernel_rfl) hag.ag (Rel.cast (by assumption) (by kernel_rfl)) (by kernel_rfl) (by kernel_rfl) ⟨hlt, hp.cut hag rfl (by kernel_rfl), hal.cut hag rfl (by kernel_rfl)⟩
    · refine sim_run 8 [] (hR2.cast (by kernel_rfl)) (by kernel_rfl) trivial (fun ρ400 w400 hm400 hR400 => ?_)
      have hp := hp.moved (hm400.castL (by kernel_rfl))
      have hal := hal.moved (hm400.castL (by kernel_rfl))
      have hag := hag.moved (hm400.castL (by kernel_rfl))
      refine sim_know 91 (decide ((↑j : Int) < (↑nl : Int))) false (by kernel_rfl) (decide_eq_false (by omega)) ?_
      refine sim_run 1 [] (hR400.cast (by kernel_rfl)) (by kernel_rfl) trivial (fun ρ401 w401 hm401 hR401 => ?_)
      have hp := hp.moved (hm401.castL (by kernel_rfl))
      have hal := hal.moved (hm401.castL (by kernel_rfl))
      have hag := hag.moved (hm401.castL (by kernel_rfl))
      refine sim_leave (by kernel_rfl) ?_
      refine sim_run 2 [] (hR401.cast (by kernel_rfl)) (by kernel_rfl) trivial (fun ρ402 w402 hm402 hR402 => ?_)
      have hp := hp.moved (hm402.castL (by kernel_rfl))
      have hal := hal.moved (hm402.castL (by kernel_rfl))
      have hag := hag.moved (hm402.castL (by kernel_rfl))
      
      have hbN := hb0.tr hag.ag
      refine sim_to (regK Try.f8 25) (tmplJ Try.f8.ntmps 0 [(2, .v (.slice A n cp)), (7, .ptr 0 0), (10, .v (.slice cL cs.length cc)), (11, .v (.slice tL ts.length tc)), (12, .v (.slice (some ⟨gl, 0, none⟩) nl cl)), (13, LI (i : Int)), (14, LI (k : Int))]) [gR q] (by kernel_rfl) (by kernel_rfl) (by kernel_rfl) (fun d6 => ?_)
      refine parts_25 (w0 := w0) ((by assumption : Rel _ _ _ _ _).cast (by kernel_rfl)) (hp.castR (by kernel_rfl)) (hal.castR (by kernel_rfl)) hGI ((hbN 0 (by omega)).trans e0) hcs hz hsrt hsm hcl hci hql hcB hw0 hnl d6 (fun va c' ρ' w' q1 q2 q3 q4 q5 q6 q7 q8 => ?_)
      exact hfin va c' ρ' w' q1 q2 q3 ⟨hbN.tr q4.ag, q4.le⟩ q5 q6 q7 q8
end
end Go.Proofs.Ytnfgndapalkbcaa
