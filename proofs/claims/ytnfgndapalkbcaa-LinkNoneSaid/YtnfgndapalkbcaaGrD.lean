/-
  link.order's closures: whether a class is ready.
-/
import Derived.Test.YtnfgndapalkbcaaGrC
import Derived.Test.YtnfgndapalkbcaaFnI
namespace Go.Proofs.Ytnfgndapalkbcaa
open Go Go.RowKit
def encU (_ : Unit) : Value := .agg #[]
theorem mis_ty : Try.prog.underlying 93 = some (.map 3 94) := Try.underlying93
theorem zero_unit (w : World) : (zeroValue 94).run Try.prog w = .ok (encU ()) w := by kernel_rfl
/-- the order in the midst, in memory -/
structure OrV (u : List Nat) (l : List Lk) (pd od pa oq gd gm : Nat) (D : List (Ent Int Unit)) (ck : Nat) (m : List (Ent Int Value)) (cm B0 : Nat) (done : List Nat) (w : World) : Prop where
  cd : w.cell? ⟨pd, od, none⟩ = some (.map (some gd))
  ca : w.cell? ⟨pa, oq, none⟩ = some (.map (some gm))
  md : Mp encZ encU w gd D ck
  ma : Mp encZ id w gm m cm
  rw : Rws ρ0 [] w B0 m (aheadI u l)
  hm : HdM u l m
  hd : ∀ t : Nat, hasK (t : Int) D = done.contains t
theorem OrV.below {u : List Nat} {l : List Lk} {pd od pa oq gd gm : Nat} {D : List (Ent Int Unit)} {ck : Nat} {m : List (Ent Int Value)} {cm B0 : Nat} {done : List Nat} {w w' : World} (h : OrV u l pd od pa oq gd gm D ck m cm B0 done w) (hb : Below w.heap.size w w') : OrV u l pd od pa oq gd gm D ck m cm B0 done w' :=
  ⟨(hb.cell (p := ⟨pd, od, none⟩) (World.block_lt_of_cell? _ _ h.cd)).trans h.cd, (hb.cell (p := ⟨pa, oq, none⟩) (World.block_lt_of_cell? _ _ h.ca)).trans h.ca, h.md.same (hb.block _ h.md.size), h.ma.same (hb.block _ h.ma.size), h.rw.below hb, h.hm, h.hd⟩
theorem mpo_in {K V : Type} {enc : K → Value} {encV : V → Value} {w : World} {g : Nat} {l : List (Ent K V)} {clock : Nat} (h : Mp enc encV w g l clock) {ρ : Nm} {rs : List Reg} (hro : allRo rs = true) : MpO enc encV ρ rs w (some g) l clock := ⟨fun q hq => by injection hq with hq; subst hq; exact ⟨h, fun hw => wrS_allRo hro hw⟩, fun e => by cases e⟩
theorem open_cell {T : List Nat} {w0 w : World} {ρ : Nm} {rs : List Reg} (hR : Rel T w0 ρ rs w) (hu : undR rs.length rs = true) (hro : allRo rs = true) (g o : Nat) (v : Value) (hc : w.cell? ⟨g, o, none⟩ = some v) : ∃ ρ', Agree rs.length ρ ρ' ∧ ρ' rs.length = (g, o) ∧ Rel T w0 ρ' (rs ++ [⟨[.v v], false⟩]) w :=
  hR.open_ hu g o [.v v] rfl false (World.block_lt_of_cell? _ _ hc) (fun j x hx => by
    match j, hx with
    | 0, hx => simp only [List.getElem?_cons_zero, Option.some.injEq] at hx; subst hx; exact hc
    | j + 1, hx => simp at hx) (fun h => by cases h) (fun n r hn hw he => by
    rcases hw with hw | hw
    · cases hw
    · exact (wrS_allRo (ρ := ρ) (g := g) hro ⟨n, r, hn, hw, he⟩).elim)
theorem inner_enters : Enters Try.prog 57 := ⟨_, Try.func57, by kernel_rfl, by kernel_rfl⟩
theorem ready_enters : Enters Try.prog 56 := ⟨_, Try.func56, by kernel_rfl, by kernel_rfl⟩
theorem containsFI_row (f : FuncId) (hf : Enters Try.prog f) (caps : Array Value) (p : Int → Bool) (base : Nat) (v : Value) (l : List Int) (b0 : Bool) (w : World) (hO : w.ownsRow base 3 1 v l.length (ints l)) (hb0 : l.any p = b0) (hl : l.length ≤ 100000) (hp : PredZ w f caps p l) : Calls Try.prog 52 #[v, .func (.func f) #[] caps] w fun e w2 => e = .returned (.bool b0) ∧ Below w.heap.size w w2 := by
  obtain ⟨Av, cv, hve⟩ := own_row hO
  rw [hve] at hO ⊢
  rw [← hb0]
  exact containsFI_any f hf caps p Av _ cv w.heap.size l w (Reads.of_own hO) (Nat.le_refl _) hl hp
attribute [local irreducible] run goO leaveK someK nextK nextT nextOT nextOD loopBody loopRest loopK fillJ tmplOf tmplJ mergeT At AtO drawOk ordOf gateOf callC callO topOp topO idxOf appOf storeOf clearOf sliceOf calleeOf calleeO topQ idxQ newRowOf resL stepOp seek
set_option maxRecDepth 100000 in
set_option maxHeartbeats 4000000 in
theorem inner_any (pd od gd : Nat) (D : List (Ent Int Unit)) (ck : Nat) (z : Int) (w : World) (hc : w.cell? ⟨pd, od, none⟩ = some (.map (some gd))) (hM : Mp encZ encU w gd D ck) : Calls Try.prog 57 #[.int .i64 z, .pointer (some ⟨pd, od + 0, none⟩)] w fun e w' => e = .returned (.bool (!hasK z D)) ∧ Below w.heap.size w w' := by
  obtain ⟨ρ, _, e0, hR⟩ := open_cell (Rel.start [] w ρ0) rfl (by kernel_rfl) pd od _ hc
  have e0 : ρ 0 = (pd, od) := e0
  have hM := mpo_in hM (ρ := ρ) (rs := [⟨[.v (.map (some gd))], false⟩]) (by kernel_rfl)
  refine sim_enter Try.func57 ρ [LI z, .ptr 0 0] [⟨[.v (.map (some gd))], false⟩] (by kernel_rfl) (by simp only [denL, LV.den, Nm.at_, e0]) ?_
  have hR := hR.cast rfl
  refine sim_run 8 [] (hR.cast (by kernel_rfl)) (by kernel_rfl) trivial (fun ρ100 w100 hm100 hR100 => ?_)
  have hM := hM.moved (hm100.castL (by kernel_rfl))
  refine sim_look (enc := encZ) (encV := encU) (mx := .v (Value.map (some gd))) (kx := LI z) (ok := true) z (.tup [.v (encU ()), LB (hasK z D)]) (by kernel_rfl) mis_ty kt_int zero_unit hM rfl rfl (by rfl) ?_
  refine sim_run 13 [] (hR100.cast (by kernel_rfl)) (by kernel_rfl) trivial (fun ρ102 w102 hm102 hR102 => ?_)
  have hM := hM.moved (hm102.castL (by kernel_rfl))
  refine sim_ret (LB (!hasK z D)) hR102 (by kernel_rfl) (by kernel_rfl) ?_
  exact ⟨rfl, hR102.toBelow⟩
  
theorem rdy_done {ah : Nat → List Nat} {done : List Nat} {p : Nat} (h : done.contains p = true) : Uf.rdy ah done p = false := by
  unfold Uf.rdy
  rw [h]
  rfl
theorem rdy_not {u : List Nat} {l : List Lk} {done : List Nat} {D : List (Ent Int Unit)} {p : Nat} {b0 : Bool} (hd : ∀ t : Nat, hasK (t : Int) D = done.contains t) (h : done.contains p = false) (hb : ((aheadI u l (p : Int)).any fun z => !hasK z D) = b0) : Uf.rdy (Uf.aheadM u l) done p = !b0 := by
  unfold Uf.rdy
  rw [h, ← hb]
  unfold aheadI
  rw [Int.toNat_natCast, List.any_map, List.not_any_eq_all_not]
  simp only [Bool.not_false, Bool.true_and]
  congr 1
  funext x
  show done.contains x = !!hasK (x : Int) D
  rw [hd, Bool.not_not]
theorem inner_pred {u : List Nat} {l : List Lk} {pd od pa oq gd gm : Nat} {D : List (Ent Int Unit)} {ck : Nat} {m : List (Ent Int Value)} {cm B0 : Nat} {done : List Nat} {w w2 : World} (h : OrV u l pd od pa oq gd gm D ck m cm B0 done w) (hb : Below w.heap.size w w2) (zs : List Int) : PredZ w2 57 #[.pointer (some ⟨pd, od + 0, none⟩)] (fun z => !hasK z D) zs := by
  intro x w3 _ hb3
  have h3 := (h.below hb).below hb3
  exact inner_any pd od gd D ck x w3 h3.cd h3.md
set_option maxRecDepth 100000 in
set_option maxHeartbeats 4000000 in
theorem ready_any {u : List Nat} {l : List Lk} {pd od pa oq gd gm : Nat} {D : List (Ent Int Unit)} {ck : Nat} {m : List (Ent Int Value)} {cm B0 : Nat} {done : List Nat} {w : World} (h : OrV u l pd od pa oq gd gm D ck m cm B0 done w) (hg : Uf.Good u) (hl : l.length ≤ 100000) (base B : Nat) :
    PredR w 56 #[.pointer (some ⟨pd, od + 0, none⟩), .pointer (some ⟨pa, oq + 0, none⟩)] (fun c => Uf.rdy (Uf.aheadM u l) done (c.headD 0)) base B (Uf.classes u) := by
  intro xs A cap w1 hx hb0 hrd hA
  obtain ⟨k, hk, hke⟩ := List.getElem_of_mem hx
  obtain ⟨p, r, hpr, hpin⟩ := class_get hg (k := k) (c := xs) (by rw [List.getElem?_eq_getElem hk, hke])
  have hO := h.below hb0
  clear h
  obtain ⟨ga, oa, rfl, hgB, hcs⟩ := hrd.spot (by rw [hpr, List.length_cons]; omega) (by omega)
  have hcp := hcs 0 (.int .i64 (p : Int)) (by rw [hpr]; rfl)
  dsimp only
  rw [show xs.headD 0 = p from by rw [hpr]; rfl]
  obtain ⟨ρ1, _, e0, hR1⟩ := open_cell (Rel.start [] w1 ρ0) rfl (by kernel_rfl) pd od _ hO.cd
  have e0 : ρ1 0 = (pd, od) := e0
  obtain ⟨ρ2, a2, e1, hR2⟩ := open_cell hR1 rfl (by kernel_rfl) pa oq _ hO.ca
  have e1 : ρ2 1 = (pa, oq) := e1
  have e0 := (a2 0 (by show 0 < 1; omega)).trans e0
  obtain ⟨ρ3, a3, e2, hR3⟩ := open_cell hR2 rfl (by kernel_rfl) ga (oa + 0) _ hcp
  have e2 : ρ3 2 = (ga, oa + 0) := e2
  have e1 := (a3 1 (by show 1 < 2; omega)).trans e1
  have e0 := (a3 0 (by show 0 < 2; omega)).trans e0
  have hR := hR3.cast (rs' := [⟨[.v (.map (some gd))], false⟩, ⟨[.v (.map (some gm))], false⟩, ⟨[LI (p : Int)], false⟩]) rfl
  have hM := mpo_in hO.md (ρ := ρ3) (rs := [⟨[.v (.map (some gd))], false⟩, ⟨[.v (.map (some gm))], false⟩, ⟨[LI (p : Int)], false⟩]) (by kernel_rfl)
  have hMa := mpo_in hO.ma (ρ := ρ3) (rs := [⟨[.v (.map (some gd))], false⟩, ⟨[.v (.map (some gm))], false⟩, ⟨[LI (p : Int)], false⟩]) (by kernel_rfl)
  have hrw : Rws ρ3 [⟨[.v (.map (some gd))], false⟩, ⟨[.v (.map (some gm))], false⟩, ⟨[LI (p : Int)], false⟩] w1 B0 m (aheadI u l) := hO.rw.map fun e _ ho => ⟨ho.own, fun g _ hw => wrS_allRo (by kernel_rfl) hw⟩
  have hrow := hrw.at_ (hO.hm.none (p : Int))
  have hag := hR.ag_ 3 (by kernel_rfl)
  refine sim_enter Try.func56 ρ3 [.v (.slice (some ⟨ga, oa, none⟩) xs.length cap), .ptr 0 0, .ptr 1 0] [⟨[.v (.map (some gd))], false⟩, ⟨[.v (.map (some gm))], false⟩, ⟨[LI (p : Int)], false⟩] (by kernel_rfl) (by simp only [denL, LV.den, Nm.at_, e0, e1]; rfl) ?_
  have hdp := hO.hd p
  have hxl : 0 < xs.length := by rw [hpr, List.length_cons]; omega
  generalize hv : (look (p : Int) m).getD nilRow = v at hrow
  have hIX : True := trivial
  cases hdn : done.contains p with
  | true =>
    rw [hdn] at hdp
    refine sim_run 6 [] (hR.cast (by kernel_rfl)) (by kernel_rfl) trivial (fun ρ200 w200 hm200 hR200 => ?_)
    have hM := hM.moved (hm200.castL (by kernel_rfl))
    have hMa := hMa.moved (hm200.castL (by kernel_rfl))
    have hrw := hrw.moved (hm200.castL (by kernel_rfl))
    have hag := hag.moved (hm200.castL (by kernel_rfl))
    have hrow := hrow.moved (hm200.castL (by kernel_rfl))
    refine sim_drawF2 [(0, false), (1, false), (2, false), (3, false)] (4, [(5, false), (6, false), (7, false), (8, true), (9, true), (10, false)]) (8, [(4, true), (5, false), (6, false), (7, false), (9, true), (10, false)]) (some 9) (by kernel_rfl) (by kernel_rfl) hR200 (fun hR201 => ?_) (fun hR201 => ?_)
    have hM := hM.drew
    have hMa := hMa.drew
    have hrw := hrw.drew
    have hrow := hrow.drew
    refine sim_ordN 2 [] hR201 (by kernel_rfl) trivial (fun ρ202 w202 hm202 hR202 => ?_)
    have hag := hag.moved (hm202.castL (by kernel_rfl))
    have hM := hM.moved (hm202.castL (by kernel_rfl))
    have hMa := hMa.moved (hm202.castL (by kernel_rfl))
    have hrw := hrw.moved (hm202.castL (by kernel_rfl))
    have hrow := hrow.moved (hm202.castL (by kernel_rfl))
    refine sim_ord_index (.v (.slice (some ⟨ga, oa, none⟩) xs.length cap)) xs.length 1 0 2 0 (by kernel_rfl) (by omega) (by omega) rfl hR202 (by simp only [Nm.at_, hag.at_ 2 (by omega), e2]; rfl) (fun hR203 => ?_)
    refine sim_ordN 1 [] hR203 (by kernel_rfl) trivial (fun ρ204 w204 hm204 hR204 => ?_)
    have hag := hag.moved (hm204.castL (by kernel_rfl))
    have hM := hM.moved (hm204.castL (by kernel_rfl))
    have hMa := hMa.moved (hm204.castL (by kernel_rfl))
    have hrw := hrw.moved (hm204.castL (by kernel_rfl))
    have hrow := hrow.moved (hm204.castL (by kernel_rfl))
    refine sim_ord_look (enc := encZ) (encV := encU) (mx := .v (Value.map (some gd))) (kx := LI ((↑p : Int))) (ok := true) (p : Int) (.tup [.v (encU ()), LB true]) (by kernel_rfl) mis_ty kt_int zero_unit hM rfl rfl hR204 (by rw [hdp]; rfl) (fun hR205 => ?_)
    refine sim_ordN 6 [] hR205 (by kernel_rfl) trivial (fun ρ206 w206 hm206 hR206 => ?_)
    have hag := hag.moved (hm206.castL (by kernel_rfl))
    have hM := hM.moved (hm206.castL (by kernel_rfl))
    have hMa := hMa.moved (hm206.castL (by kernel_rfl))
    have hrw := hrw.moved (hm206.castL (by kernel_rfl))
    have hrow := hrow.moved (hm206.castL (by kernel_rfl))
    refine sim_ord_endR hR206 (by kernel_rfl) (fun hR207 => ?_)
    refine sim_run 9 [] (hR207.cast (by kernel_rfl)) (by kernel_rfl) trivial (fun ρ208 w208 hm208 hR208 => ?_)
    have hag := hag.moved (hm208.castL (by kernel_rfl))
    have hM := hM.moved (hm208.castL (by kernel_rfl))
    have hMa := hMa.moved (hm208.castL (by kernel_rfl))
    have hrw := hrw.moved (hm208.castL (by kernel_rfl))
    have hrow := hrow.moved (hm208.castL (by kernel_rfl))
    refine sim_ret (LB false) hR208 (by kernel_rfl) (by kernel_rfl) ?_
    rotate_left
    have hM := hM.drew
    have hMa := hMa.drew
    have hrw := hrw.drew
    have hrow := hrow.drew
    refine sim_ordN 2 [] hR201 (by kernel_rfl) trivial (fun ρ209 w209 hm209 hR209 => ?_)
    have hag := hag.moved (hm209.castL (by kernel_rfl))
    have hM := hM.moved (hm209.castL (by kernel_rfl))
    have hMa := hMa.moved (hm209.castL (by kernel_rfl))
    have hrw := hrw.moved (hm209.castL (by kernel_rfl))
    have hrow := hrow.moved (hm209.castL (by kernel_rfl))
    refine sim_ord_index (.v (.slice (some ⟨ga, oa, none⟩) xs.length cap)) xs.length 1 0 2 0 (by kernel_rfl) (by omega) (by omega) rfl hR209 (by simp only [Nm.at_, hag.at_ 2 (by omega), e2]; rfl) (fun hR210 => ?_)
    refine sim_ordN 2 [] hR210 (by kernel_rfl) trivial (fun ρ211 w211 hm211 hR211 => ?_)
    have hag := hag.moved (hm211.castL (by kernel_rfl))
    have hM := hM.moved (hm211.castL (by kernel_rfl))
    have hMa := hMa.moved (hm211.castL (by kernel_rfl))
    have hrw := hrw.moved (hm211.castL (by kernel_rfl))
    have hrow := hrow.moved (hm211.castL (by kernel_rfl))
    refine sim_ord_look (enc := encZ) (encV := encU) (mx := .v (Value.map (some gd))) (kx := LI ((↑p : Int))) (ok := true) (p : Int) (.tup [.v (encU ()), LB true]) (by kernel_rfl) mis_ty kt_int zero_unit hM rfl rfl hR211 (by rw [hdp]; rfl) (fun hR212 => ?_)
    refine sim_ordN 5 [] hR212 (by kernel_rfl) trivial (fun ρ213 w213 hm213 hR213 => ?_)
    have hag := hag.moved (hm213.castL (by kernel_rfl))
    have hM := hM.moved (hm213.castL (by kernel_rfl))
    have hMa := hMa.moved (hm213.castL (by kernel_rfl))
    have hrw := hrw.moved (hm213.castL (by kernel_rfl))
    have hrow := hrow.moved (hm213.castL (by kernel_rfl))
    refine sim_ord_endR hR213 (by kernel_rfl) (fun hR214 => ?_)
    refine sim_run 9 [] (hR214.cast (by kernel_rfl)) (by kernel_rfl) trivial (fun ρ215 w215 hm215 hR215 => ?_)
    have hag := hag.moved (hm215.castL (by kernel_rfl))
    have hM := hM.moved (hm215.castL (by kernel_rfl))
    have hMa := hMa.moved (hm215.castL (by kernel_rfl))
    have hrw := hrw.moved (hm215.castL (by kernel_rfl))
    have hrow := hrow.moved (hm215.castL (by kernel_rfl))
    refine sim_ret (LB false) hR215 (by kernel_rfl) (by kernel_rfl) ?_
    rotate_left
    
    all_goals
      rw [rdy_done hdn]
      exact ⟨rfl, (by assumption : Rel _ _ _ _ _).toBelow⟩
  | false =>
    rw [hdn] at hdp
    have hal : (aheadI u l (p : Int)).length ≤ 100000 := by rw [aheadI_len]; exact Nat.le_trans (ahead_len u l _) hl
    generalize hb0 : ((aheadI u l (p : Int)).any fun z => !hasK z D) = b0
    rw [rdy_not hO.hd hdn hb0]
    refine sim_run 6 [] (hR.cast (by kernel_rfl)) (by kernel_rfl) trivial (fun ρ300 w300 hm300 hR300 => ?_)
    have hM := hM.moved (hm300.castL (by kernel_rfl))
    have hMa := hMa.moved (hm300.castL (by kernel_rfl))
    have hrw := hrw.moved (hm300.castL (by kernel_rfl))
    have hag := hag.moved (hm300.castL (by kernel_rfl))
    have hrow := hrow.moved (hm300.castL (by kernel_rfl))
    refine sim_drawF2 [(0, false), (1, false), (2, false), (3, false)] (4, [(5, false), (6, false), (7, false), (8, true), (9, true), (10, false)]) (8, [(4, true), (5, false), (6, false), (7, false), (9, true), (10, false)]) (some 9) (by kernel_rfl) (by kernel_rfl) hR300 (fun hR301 => ?_) (fun hR301 => ?_)
    have hM := hM.drew
    have hMa := hMa.drew
    have hrw := hrw.drew
    have hrow := hrow.drew
    refine sim_ordN 2 [] hR301 (by kernel_rfl) trivial (fun ρ302 w302 hm302 hR302 => ?_)
    have hag := hag.moved (hm302.castL (by kernel_rfl))
    have hM := hM.moved (hm302.castL (by kernel_rfl))
    have hMa := hMa.moved (hm302.castL (by kernel_rfl))
    have hrw := hrw.moved (hm302.castL (by kernel_rfl))
    have hrow := hrow.moved (hm302.castL (by kernel_rfl))
    refine sim_ord_index (.v (.slice (some ⟨ga, oa, none⟩) xs.length cap)) xs.length 1 0 2 0 (by kernel_rfl) (by omega) (by omega) rfl hR302 (by simp only [Nm.at_, hag.at_ 2 (by omega), e2]; rfl) (fun hR303 => ?_)
    refine sim_ordN 1 [] hR303 (by kernel_rfl) trivial (fun ρ304 w304 hm304 hR304 => ?_)
    have hag := hag.moved (hm304.castL (by kernel_rfl))
    have hM := hM.moved (hm304.castL (by kernel_rfl))
    have hMa := hMa.moved (hm304.castL (by kernel_rfl))
    have hrw := hrw.moved (hm304.castL (by kernel_rfl))
    have hrow := hrow.moved (hm304.castL (by kernel_rfl))
    refine sim_ord_look (enc := encZ) (encV := encU) (mx := .v (Value.map (some gd))) (kx := LI ((↑p : Int))) (ok := true) (p : Int) (.tup [.v (encU ()), LB false]) (by kernel_rfl) mis_ty kt_int zero_unit hM rfl rfl hR304 (by rw [hdp]; rfl) (fun hR305 => ?_)
    refine sim_ordN 6 [] hR305 (by kernel_rfl) trivial (fun ρ306 w306 hm306 hR306 => ?_)
    have hag := hag.moved (hm306.castL (by kernel_rfl))
    have hM := hM.moved (hm306.castL (by kernel_rfl))
    have hMa := hMa.moved (hm306.castL (by kernel_rfl))
    have hrw := hrw.moved (hm306.castL (by kernel_rfl))
    have hrow := hrow.moved (hm306.castL (by kernel_rfl))
    refine sim_ord_endR hR306 (by kernel_rfl) (fun hR307 => ?_)
    refine sim_run 7 [] (hR307.cast (by kernel_rfl)) (by kernel_rfl) trivial (fun ρ308 w308 hm308 hR308 => ?_)
    have hag := hag.moved (hm308.castL (by kernel_rfl))
    have hM := hM.moved (hm308.castL (by kernel_rfl))
    have hMa := hMa.moved (hm308.castL (by kernel_rfl))
    have hrw := hrw.moved (hm308.castL (by kernel_rfl))
    have hrow := hrow.moved (hm308.castL (by kernel_rfl))
    refine sim_draw [] (by kernel_rfl) (by kernel_rfl) hR308 (fun hR309 => ?_)
    have hM := hM.drew
    have hMa := hMa.drew
    have hrw := hrw.drew
    have hrow := hrow.drew
    refine sim_ordN 2 [] hR309 (by kernel_rfl) trivial (fun ρ310 w310 hm310 hR310 => ?_)
    have hag := hag.moved (hm310.castL (by kernel_rfl))
    have hM := hM.moved (hm310.castL (by kernel_rfl))
    have hMa := hMa.moved (hm310.castL (by kernel_rfl))
    have hrw := hrw.moved (hm310.castL (by kernel_rfl))
    have hrow := hrow.moved (hm310.castL (by kernel_rfl))
    refine sim_ord_index (.v (.slice (some ⟨ga, oa, none⟩) xs.length cap)) xs.length 1 0 2 0 (by kernel_rfl) (by omega) (by omega) rfl hR310 (by simp only [Nm.at_, hag.at_ 2 (by omega), e2]; rfl) (fun hR311 => ?_)
    refine sim_ordN 2 [] hR311 (by kernel_rfl) trivial (fun ρ312 w312 hm312 hR312 => ?_)
    have hag := hag.moved (hm312.castL (by kernel_rfl))
    have hM := hM.moved (hm312.castL (by kernel_rfl))
    have hMa := hMa.moved (hm312.castL (by kernel_rfl))
    have hrw := hrw.moved (hm312.castL (by kernel_rfl))
    have hrow := hrow.moved (hm312.castL (by kernel_rfl))
    refine sim_ord_look (enc := encZ) (encV := id) (mx := .v (Value.map (some gm))) (kx := LI ((↑p : Int))) (ok := false) (p : Int) (.v v) (by kernel_rfl) mii_ty kt_int zero_row hMa rfl rfl hR312 (by show v = _; exact hv.symm) (fun hR314 => ?_)
    refine sim_ord_call (T := []) (w0 := w1) 52 [.v v, .fnv (Fn.func 57) [] [.ptr 0 0]] (by kernel_rfl) ?_
    have ez0_315 := (hag.at_ 0 (by omega)).trans e0
    simp only [denL, LV.den, Nm.at_, ez0_315, Nat.add_zero]
    refine Calls.mono (containsFI_row _ (inner_enters) _ ((fun z => !hasK z D)) (B0) (v) (aheadI u l (p : Int)) (b0) _ (hrow.own) (hb0) (hal) (inner_pred hO (hR314).rel.toBelow _)) ?_
    rintro e315 w315 ⟨rfl, hb315⟩
    have hR315 := hR314.call hb315 (LB b0)
    have hM := hM.below hb315
    have hMa := hMa.below hb315
    have hrw := hrw.below hb315
    have hrow := hrow.below hb315
    refine BackO.of (LB b0) hR315 rfl ?_
    refine sim_ordN 2 [] hR315 (by kernel_rfl) trivial (fun ρ316 w316 hm316 hR316 => ?_)
    have hag := hag.moved (hm316.castL (by kernel_rfl))
    have hM := hM.moved (hm316.castL (by kernel_rfl))
    have hMa := hMa.moved (hm316.castL (by kernel_rfl))
    have hrw := hrw.moved (hm316.castL (by kernel_rfl))
    have hrow := hrow.moved (hm316.castL (by kernel_rfl))
    refine sim_ord_endR hR316 (by kernel_rfl) (fun hR317 => ?_)
    refine sim_ret (LB !b0) (hR317.cast (by kernel_rfl)) (by kernel_rfl) (by kernel_rfl) ?_
    exact ⟨rfl, hR317.toBelow⟩
    have hM := hM.drew
    have hMa := hMa.drew
    have hrw := hrw.drew
    have hrow := hrow.drew
    refine sim_ordN 2 [] hR301 (by kernel_rfl) trivial (fun ρ318 w318 hm318 hR318 => ?_)
    have hag := hag.moved (hm318.castL (by kernel_rfl))
    have hM := hM.moved (hm318.castL (by kernel_rfl))
    have hMa := hMa.moved (hm318.castL (by kernel_rfl))
    have hrw := hrw.moved (hm318.castL (by kernel_rfl))
    have hrow := hrow.moved (hm318.castL (by kernel_rfl))
    refine sim_ord_index (.v (.slice (some ⟨ga, oa, none⟩) xs.length cap)) xs.length 1 0 2 0 (by kernel_rfl) (by omega) (by omega) rfl hR318 (by simp only [Nm.at_, hag.at_ 2 (by omega), e2]; rfl) (fun hR319 => ?_)
    refine sim_ordN 2 [] hR319 (by kernel_rfl) trivial (fun ρ320 w320 hm320 hR320 => ?_)
    have hag := hag.moved (hm320.castL (by kernel_rfl))
    have hM := hM.moved (hm320.castL (by kernel_rfl))
    have hMa := hMa.moved (hm320.castL (by kernel_rfl))
    have hrw := hrw.moved (hm320.castL (by kernel_rfl))
    have hrow := hrow.moved (hm320.castL (by kernel_rfl))
    refine sim_ord_look (enc := encZ) (encV := encU) (mx := .v (Value.map (some gd))) (kx := LI ((↑p : Int))) (ok := true) (p : Int) (.tup [.v (encU ()), LB false]) (by kernel_rfl) mis_ty kt_int zero_unit hM rfl rfl hR320 (by rw [hdp]; rfl) (fun hR321 => ?_)
    refine sim_ordN 5 [] hR321 (by kernel_rfl) trivial (fun ρ322 w322 hm322 hR322 => ?_)
    have hag := hag.moved (hm322.castL (by kernel_rfl))
    have hM := hM.moved (hm322.castL (by kernel_rfl))
    have hMa := hMa.moved (hm322.castL (by kernel_rfl))
    have hrw := hrw.moved (hm322.castL (by kernel_rfl))
    have hrow := hrow.moved (hm322.castL (by kernel_rfl))
    refine sim_ord_endR hR322 (by kernel_rfl) (fun hR323 => ?_)
    refine sim_run 7 [] (hR323.cast (by kernel_rfl)) (by kernel_rfl) trivial (fun ρ324 w324 hm324 hR324 => ?_)
    have hag := hag.moved (hm324.castL (by kernel_rfl))
    have hM := hM.moved (hm324.castL (by kernel_rfl))
    have hMa := hMa.moved (hm324.castL (by kernel_rfl))
    have hrw := hrw.moved (hm324.castL (by kernel_rfl))
    have hrow := hrow.moved (hm324.castL (by kernel_rfl))
    refine sim_draw [] (by kernel_rfl) (by kernel_rfl) hR324 (fun hR325 => ?_)
    have hM := hM.drew
    have hMa := hMa.drew
    have hrw := hrw.drew
    have hrow := hrow.drew
    refine sim_ordN 2 [] hR325 (by kernel_rfl) trivial (fun ρ326 w326 hm326 hR326 => ?_)
    have hag := hag.moved (hm326.castL (by kernel_rfl))
    have hM := hM.moved (hm326.castL (by kernel_rfl))
    have hMa := hMa.moved (hm326.castL (by kernel_rfl))
    have hrw := hrw.moved (hm326.castL (by kernel_rfl))
    have hrow := hrow.moved (hm326.castL (by kernel_rfl))
    refine sim_ord_index (.v (.slice (some ⟨ga, oa, none⟩) xs.length cap)) xs.length 1 0 2 0 (by kernel_rfl) (by omega) (by omega) rfl hR326 (by simp only [Nm.at_, hag.at_ 2 (by omega), e2]; rfl) (fun hR327 => ?_)
    refine sim_ordN 2 [] hR327 (by kernel_rfl) trivial (fun ρ328 w328 hm328 hR328 => ?_)
    have hag := hag.moved (hm328.castL (by kernel_rfl))
    have hM := hM.moved (hm328.castL (by kernel_rfl))
    have hMa := hMa.moved (hm328.castL (by kernel_rfl))
    have hrw := hrw.moved (hm328.castL (by kernel_rfl))
    have hrow := hrow.moved (hm328.castL (by kernel_rfl))
    refine sim_ord_look (enc := encZ) (encV := id) (mx := .v (Value.map (some gm))) (kx := LI ((↑p : Int))) (ok := false) (p : Int) (.v v) (by kernel_rfl) mii_ty kt_int zero_row hMa rfl rfl hR328 (by show v = _; exact hv.symm) (fun hR330 => ?_)
    refine sim_ord_call (T := []) (w0 := w1) 52 [.v v, .fnv (Fn.func 57) [] [.ptr 0 0]] (by kernel_rfl) ?_
    have ez0_331 := (hag.at_ 0 (by omega)).trans e0
    simp only [denL, LV.den, Nm.at_, ez0_331, Nat.add_zero]
    refine Calls.mono (containsFI_row _ (inner_enters) _ ((fun z => !hasK z D)) (B0) (v) (aheadI u l (p : Int)) (b0) _ (hrow.own) (hb0) (hal) (inner_pred hO (hR330).rel.toBelow _)) ?_
    rintro e331 w331 ⟨rfl, hb331⟩
    have hR331 := hR330.call hb331 (LB b0)
    have hM := hM.below hb331
    have hMa := hMa.below hb331
    have hrw := hrw.below hb331
    have hrow := hrow.below hb331
    refine BackO.of (LB b0) hR331 rfl ?_
    refine sim_ordN 2 [] hR331 (by kernel_rfl) trivial (fun ρ332 w332 hm332 hR332 => ?_)
    have hag := hag.moved (hm332.castL (by kernel_rfl))
    have hM := hM.moved (hm332.castL (by kernel_rfl))
    have hMa := hMa.moved (hm332.castL (by kernel_rfl))
    have hrw := hrw.moved (hm332.castL (by kernel_rfl))
    have hrow := hrow.moved (hm332.castL (by kernel_rfl))
    refine sim_ord_endR hR332 (by kernel_rfl) (fun hR333 => ?_)
    refine sim_ret (LB !b0) (hR333.cast (by kernel_rfl)) (by kernel_rfl) (by kernel_rfl) ?_
    exact ⟨rfl, hR333.toBelow⟩
    
end Go.Proofs.Ytnfgndapalkbcaa
