/-
  complineref12.Graph: Join.
-/
import Derived.Test.YtedfbdeklepekaaGreatRfG
namespace Go.Proofs.YtedfbdeklepekaaGreat
open Go Go.RowKit
theorem joinV_eq (u ys : List Nat) : joinV u ys = joinU u (ys.headD 0) ys.tail := by
  cases ys with
  | nil => rfl
  | cons a r => exact joinV_cons u a r
theorem joinN_eq (u ys : List Nat) : joinN u ys = joinC u (ys.headD 0) ys.tail := by
  cases ys with
  | nil => rfl
  | cons a r => exact joinN_cons u a r
attribute [local irreducible] run goO leaveK someK nextK nextT nextOT nextOD loopBody loopRest loopK fillJ tmplOf tmplJ mergeT At AtO drawOk ordOf gateOf callC callO topOp topO idxOf appOf storeOf clearOf sliceOf calleeOf calleeO topQ idxQ newRowOf resL stepOp seek
set_option maxRecDepth 100000 in
set_option maxHeartbeats 4000000 in
theorem join_rd {Q : Exit → Act → World → Prop} {R : Ending → World → Prop} [hB : Body Tryz.prog Q Tryz.f11 R] {ρ : Nm} {w0 w : World} {b : Nat} {A : Option Addr} {c : Nat} {vL : Value} {cur : List Value} {u : List Nat} {ga oa m cl cnt i : Nat} {x0 x : Nat} (hR : Rel [b] w0 ρ [⟨[.v (.slice A u.length c), .v vL], true⟩, ⟨[LI (x0 : Int)], false⟩, ⟨[LI (x : Int)], false⟩] w) (hbox : RowV ρ [⟨[.v (.slice A u.length c), .v vL], true⟩, ⟨[LI (x0 : Int)], false⟩, ⟨[LI (x : Int)], false⟩] w b 36 cur) (hcl : 2 = cur.length) (ho : Own ρ [⟨[.v (.slice A u.length c), .v vL], true⟩, ⟨[LI (x0 : Int)], false⟩, ⟨[LI (x : Int)], false⟩] w 0 3 1 (.slice A u.length c) u.length (nats (hds u))) (e0 : ρ 0 = (b, 0)) (e1 : ρ 1 = (ga, oa)) (e2 : ρ 2 = (ga, oa + i)) (hg : Uf.Good u) (hu : u.length ≤ 1000) (hx0 : 1 ≤ x0 ∧ x0 ≤ u.length) (hx : 1 ≤ x ∧ x ≤ u.length) (hb : b < w0.heap.size) (hcnt : cnt ≤ 1000000) (him : i < m) (hm : m ≤ 1000000) (d : Nat → Value)
    (hfin : ∀ (c' : Cfg) (ρ' : Nm) (w' : World) (A' : Option Addr) (c1 : Nat), c'.k = [] → mergeT (tmplJ Tryz.f11.ntmps 0 [(0, .ptr 0 0), (1, .v (.slice (some ⟨ga, oa, none⟩) m cl)), (7, LI ((cnt + Uf.more u x0 x : Nat) : Int)), (8, LI ((i : Int) + 1))]) c'.tmps = c'.tmps → (tmplJ Tryz.f11.ntmps 0 [(0, .ptr 0 0), (1, .v (.slice (some ⟨ga, oa, none⟩) m cl)), (7, LI ((cnt + Uf.more u x0 x : Nat) : Int)), (8, LI ((i : Int) + 1))]).length = c'.tmps.length → Ag 1 ρ ρ' c'.rs → Rel [b] w0 ρ' c'.rs w' → c'.rs.take 1 = [⟨[.v (.slice A' u.length c1), .v vL], true⟩] → RowV ρ' c'.rs w' b 36 cur → Own ρ' c'.rs w' 0 3 1 (.slice A' u.length c1) u.length (nats (hds (Uf.step u x0 x))) → (∀ a, A' = some a → A = some a ∨ w0.heap.size ≤ a.block) → At Tryz.prog Q c' ρ' w') :
    At Tryz.prog Q ⟨regK Tryz.f11 10, fillJ (tmplJ Tryz.f11.ntmps 0 [(0, .ptr 0 0), (1, .v (.slice (some ⟨ga, oa, none⟩) m cl)), (7, LI (cnt : Int)), (8, LI (i : Int))]) d 0, [⟨[.v (.slice A u.length c), .v vL], true⟩, ⟨[LI (x0 : Int)], false⟩, ⟨[LI (x : Int)], false⟩]⟩ ρ w := by
  have hag := hR.ag_ 3 (by kernel_rfl)
  have hag1 := hR.ag_ 1 (by kernel_rfl)
  obtain ⟨a, ha⟩ : ∃ a, Uf.hd u x0 = a := ⟨_, rfl⟩
  obtain ⟨h, hh⟩ : ∃ a, Uf.hd u x = a := ⟨_, rfl⟩
  have hxI : headI u (x0 : Int) = (a : Int) := by rw [headI_nat hx0, ha]
  have hyI : headI u (x : Int) = (h : Int) := by rw [headI_nat hx, hh]
  have hal := (Uf.hd_spec hg x0 hx0.1 hx0.2).2.1
  have hhl := (Uf.hd_spec hg x hx.1 hx.2).2.1
  rw [ha] at hal
  rw [hh] at hhl
  rcases Nat.lt_trichotomy a h with hah | hah | hah
  · have e3 : Uf.more u x0 x = 1 := by unfold Uf.more; rw [if_neg (by omega)]
    rw [e3, hds_step hg hx0 hx hah (.inl ⟨ha, hh⟩), show ((cnt + 1 : Nat) : Int) = (cnt : Int) + 1 from rfl] at hfin
    refine sim_draw [] (by kernel_rfl) (by kernel_rfl) (hR.cast (by kernel_rfl)) (fun hR100 => ?_)
    have hbox := hbox.drew
    have ho := ho.drew
    refine sim_ordN 2 [] hR100 (by kernel_rfl) trivial (fun ρ101 w101 hm101 hR101 => ?_)
    have hag := hag.moved (hm101.castL (by kernel_rfl))
    have hag1 := hag1.moved (hm101.castL (by kernel_rfl))
    have hbox := hbox.moved (hm101.castL (by kernel_rfl))
    have ho := ho.moved (hm101.castL (by kernel_rfl))
    refine sim_ord_index (.v (.slice (some ⟨ga, oa, none⟩) m cl)) m 1 0 1 0 (by kernel_rfl) (by omega) (by omega) rfl hR101 (by simp only [Nm.at_, hag.at_ 1 (by omega), e1, Nat.add_zero, Int.toNat_zero, Nat.zero_mul]) (fun hR102 => ?_)
    refine sim_ordN 4 [] hR102 (by kernel_rfl) trivial (fun ρ103 w103 hm103 hR103 => ?_)
    have hag := hag.moved (hm103.castL (by kernel_rfl))
    have hag1 := hag1.moved (hm103.castL (by kernel_rfl))
    have hbox := hbox.moved (hm103.castL (by kernel_rfl))
    have ho := ho.moved (hm103.castL (by kernel_rfl))
    refine sim_ord_index (.v (.slice (some ⟨ga, oa, none⟩) m cl)) m 1 i 2 0 (by kernel_rfl) (by omega) (by omega) rfl hR103 (by simp only [Nm.at_, hag.at_ 2 (by omega), e2, Nat.add_zero, Int.toNat_natCast, Nat.mul_one]) (fun hR105 => ?_)
    refine sim_ordN 1 [] hR105 (by kernel_rfl) trivial (fun ρ106 w106 hm106 hR106 => ?_)
    have hag := hag.moved (hm106.castL (by kernel_rfl))
    have hag1 := hag1.moved (hm106.castL (by kernel_rfl))
    have hbox := hbox.moved (hm106.castL (by kernel_rfl))
    have ho := ho.moved (hm106.castL (by kernel_rfl))
    refine sim_ord_call (T := [b]) (w0 := w0) 20 [.ptr 0 0, LI ((↑x0 : Int))] (by kernel_rfl) ?_
    have ez0_107 := (hag.at_ 0 (by omega)).trans e0
    simp only [denL, LV.den, Nm.at_, ez0_107, Nat.add_zero]
    refine Calls.mono (head12_eq ((RfP.mk b A c vL)) (u) _ _ _ (rfv_of hR106.rel hbox hag1 e0 (by kernel_rfl) hcl ho rfl) (by assumption) (by assumption)) ?_
    rintro e107 w107 ⟨rfl, hb107⟩
    have hR107 := hR106.call hb107 (LI ((↑a : Int)))
    have hbox := hbox.below hb107
    have ho := ho.below hb107
    refine BackO.of (LI ((↑a : Int))) hR107 rfl ?_
    refine sim_ord_call (T := [b]) (w0 := w0) 20 [.ptr 0 0, LI ((↑x : Int))] (by kernel_rfl) ?_
    have ez0_108 := (hag.at_ 0 (by omega)).trans e0
    simp only [denL, LV.den, Nm.at_, ez0_107, Nat.add_zero]
    refine Calls.mono (head12_eq ((RfP.mk b A c vL)) (u) _ _ _ (rfv_of hR107.rel hbox hag1 e0 (by kernel_rfl) hcl ho rfl) (by assumption) (by assumption)) ?_
    rintro e108 w108 ⟨rfl, hb108⟩
    have hR108 := hR107.call hb108 (LI ((↑h : Int)))
    have hbox := hbox.below hb108
    have ho := ho.below hb108
    refine BackO.of (LI ((↑h : Int))) hR108 rfl ?_
    refine sim_ordN 2 [] hR108 (by kernel_rfl) trivial (fun ρ109 w109 hm109 hR109 => ?_)
    have hag := hag.moved (hm109.castL (by kernel_rfl))
    have hag1 := hag1.moved (hm109.castL (by kernel_rfl))
    have hbox := hbox.moved (hm109.castL (by kernel_rfl))
    have ho := ho.moved (hm109.castL (by kernel_rfl))
    refine sim_ord_endR hR109 (by kernel_rfl) (fun hR110 => ?_)
    refine sim_run 7 [] (hR110.cast (by kernel_rfl)) (by kernel_rfl) trivial (fun ρ111 w111 hm111 hR111 => ?_)
    have hag := hag.moved (hm111.castL (by kernel_rfl))
    have hag1 := hag1.moved (hm111.castL (by kernel_rfl))
    have hbox := hbox.moved (hm111.castL (by kernel_rfl))
    have ho := ho.moved (hm111.castL (by kernel_rfl))
    refine sim_know 45 ((↑a : Int) == (↑h : Int)) false (by kernel_rfl) (decide_eq_false (by omega)) ?_
    refine sim_run 15 [⟨12, 1, LI (IntKind.i64.wrap ((↑cnt : Int) + 1)), LI ((↑cnt : Int) + 1)⟩] (hR111.cast (by kernel_rfl)) (by kernel_rfl) ⟨eqi (IntWalk.i64_in _ (by omega)), trivial⟩ (fun ρ112 w112 hm112 hR112 => ?_)
    have hag := hag.moved (hm112.castL (by kernel_rfl))
    have hag1 := hag1.moved (hm112.castL (by kernel_rfl))
    have hbox := hbox.moved (hm112.castL (by kernel_rfl))
    have ho := ho.moved (hm112.castL (by kernel_rfl))
    refine sim_know 50 (decide ((↑h : Int) < (↑a : Int))) false (by kernel_rfl) (decide_eq_false (by omega)) ?_
    refine sim_run 4 [] (hR112.cast (by kernel_rfl)) (by kernel_rfl) trivial (fun ρ113 w113 hm113 hR113 => ?_)
    have hag := hag.moved (hm113.castL (by kernel_rfl))
    have hag1 := hag1.moved (hm113.castL (by kernel_rfl))
    have hbox := hbox.moved (hm113.castL (by kernel_rfl))
    have ho := ho.moved (hm113.castL (by kernel_rfl))
    
    have hz1 := ((by assumption : Rel _ _ _ _ _)).ag_ 1 (by kernel_rfl)
    have e0z := (hag1.at_ 0 (by omega)).trans e0
    have hRz := ((by assumption : Rel _ _ _ _ _)).cut (rs := [⟨[.v (.slice A u.length c), .v vL], true⟩]) (by kernel_rfl) (Agree.refl _ _) (by kernel_rfl)
    have hoz := ho.cut (rs := [⟨[.v (.slice A u.length c), .v vL], true⟩]) hz1 rfl (by kernel_rfl)
    have hboxz := rowCut (cs := [.v (.slice A u.length c), .v vL]) (by assumption : Rel _ _ _ _ _) hbox hz1 e0z (by kernel_rfl) hcl
    have hagz := hag1.ag
    refine sim_to (regK Tryz.f11 15) (tmplJ Tryz.f11.ntmps 0 [(0, .ptr 0 0), (1, .v (.slice (some ⟨ga, oa, none⟩) m cl)), (7, LI ((cnt : Int) + 1)), (8, LI (i : Int)), (9, LI (a : Int)), (10, LI (h : Int))]) [⟨[.v (.slice A u.length c), .v vL], true⟩] (by kernel_rfl) (by kernel_rfl) (by kernel_rfl) (fun d5 => ?_)
    exact join_h hRz hboxz hcl hoz e0z hu (by omega) hb hcnt (by omega) (by omega) (by omega) d5 (fun c' ρ' w' A' c1 hk hm' hl hag' hR' htk hbox' ho' hA' => hfin c' ρ' w' A' c1 hk hm' hl ⟨hagz.tr hag'.ag, hag'.le⟩ hR' htk hbox' ho' (fun a ha => .inr (hA' a ha)))
  · have e3 : Uf.more u x0 x = 0 := by unfold Uf.more; rw [if_pos (by omega)]
    have e4 : Uf.step u x0 x = u := by unfold Uf.step; rw [if_pos (by omega)]
    rw [e3, e4, Nat.add_zero] at hfin
    refine sim_draw [] (by kernel_rfl) (by kernel_rfl) (hR.cast (by kernel_rfl)) (fun hR200 => ?_)
    have hbox := hbox.drew
    have ho := ho.drew
    refine sim_ordN 2 [] hR200 (by kernel_rfl) trivial (fun ρ201 w201 hm201 hR201 => ?_)
    have hag := hag.moved (hm201.castL (by kernel_rfl))
    have hag1 := hag1.moved (hm201.castL (by kernel_rfl))
    have hbox := hbox.moved (hm201.castL (by kernel_rfl))
    have ho := ho.moved (hm201.castL (by kernel_rfl))
    refine sim_ord_index (.v (.slice (some ⟨ga, oa, none⟩) m cl)) m 1 0 1 0 (by kernel_rfl) (by omega) (by omega) rfl hR201 (by simp only [Nm.at_, hag.at_ 1 (by omega), e1, Nat.add_zero, Int.toNat_zero, Nat.zero_mul]) (fun hR202 => ?_)
    refine sim_ordN 4 [] hR202 (by kernel_rfl) trivial (fun ρ203 w203 hm203 hR203 => ?_)
    have hag := hag.moved (hm203.castL (by kernel_rfl))
    have hag1 := hag1.moved (hm203.castL (by kernel_rfl))
    have hbox := hbox.moved (hm203.castL (by kernel_rfl))
    have ho := ho.moved (hm203.castL (by kernel_rfl))
    refine sim_ord_index (.v (.slice (some ⟨ga, oa, none⟩) m cl)) m 1 i 2 0 (by kernel_rfl) (by omega) (by omega) rfl hR203 (by simp only [Nm.at_, hag.at_ 2 (by omega), e2, Nat.add_zero, Int.toNat_natCast, Nat.mul_one]) (fun hR205 => ?_)
    refine sim_ordN 1 [] hR205 (by kernel_rfl) trivial (fun ρ206 w206 hm206 hR206 => ?_)
    have hag := hag.moved (hm206.castL (by kernel_rfl))
    have hag1 := hag1.moved (hm206.castL (by kernel_rfl))
    have hbox := hbox.moved (hm206.castL (by kernel_rfl))
    have ho := ho.moved (hm206.castL (by kernel_rfl))
    refine sim_ord_call (T := [b]) (w0 := w0) 20 [.ptr 0 0, LI ((↑x0 : Int))] (by kernel_rfl) ?_
    have ez0_207 := (hag.at_ 0 (by omega)).trans e0
    simp only [denL, LV.den, Nm.at_, ez0_207, Nat.add_zero]
    refine Calls.mono (head12_eq ((RfP.mk b A c vL)) (u) _ _ _ (rfv_of hR206.rel hbox hag1 e0 (by kernel_rfl) hcl ho rfl) (by assumption) (by assumption)) ?_
    rintro e207 w207 ⟨rfl, hb207⟩
    have hR207 := hR206.call hb207 (LI ((↑a : Int)))
    have hbox := hbox.below hb207
    have ho := ho.below hb207
    refine BackO.of (LI ((↑a : Int))) hR207 rfl ?_
    refine sim_ord_call (T := [b]) (w0 := w0) 20 [.ptr 0 0, LI ((↑x : Int))] (by kernel_rfl) ?_
    have ez0_208 := (hag.at_ 0 (by omega)).trans e0
    simp only [denL, LV.den, Nm.at_, ez0_207, Nat.add_zero]
    refine Calls.mono (head12_eq ((RfP.mk b A c vL)) (u) _ _ _ (rfv_of hR207.rel hbox hag1 e0 (by kernel_rfl) hcl ho rfl) (by assumption) (by assumption)) ?_
    rintro e208 w208 ⟨rfl, hb208⟩
    have hR208 := hR207.call hb208 (LI ((↑h : Int)))
    have hbox := hbox.below hb208
    have ho := ho.below hb208
    refine BackO.of (LI ((↑h : Int))) hR208 rfl ?_
    refine sim_ordN 2 [] hR208 (by kernel_rfl) trivial (fun ρ209 w209 hm209 hR209 => ?_)
    have hag := hag.moved (hm209.castL (by kernel_rfl))
    have hag1 := hag1.moved (hm209.castL (by kernel_rfl))
    have hbox := hbox.moved (hm209.castL (by kernel_rfl))
    have ho := ho.moved (hm209.castL (by kernel_rfl))
    refine sim_ord_endR hR209 (by kernel_rfl) (fun hR210 => ?_)
    refine sim_run 7 [] (hR210.cast (by kernel_rfl)) (by kernel_rfl) trivial (fun ρ211 w211 hm211 hR211 => ?_)
    have hag := hag.moved (hm211.castL (by kernel_rfl))
    have hag1 := hag1.moved (hm211.castL (by kernel_rfl))
    have hbox := hbox.moved (hm211.castL (by kernel_rfl))
    have ho := ho.moved (hm211.castL (by kernel_rfl))
    refine sim_know 45 ((↑a : Int) == (↑h : Int)) true (by kernel_rfl) (decide_eq_true (by omega)) ?_
    refine sim_run 7 [⟨9, 1, LI (IntKind.i64.wrap ((↑i : Int) + 1)), LI ((↑i : Int) + 1)⟩] (hR211.cast (by kernel_rfl)) (by kernel_rfl) ⟨eqi (IntWalk.i64_in _ (by omega)), trivial⟩ (fun ρ212 w212 hm212 hR212 => ?_)
    have hag := hag.moved (hm212.castL (by kernel_rfl))
    have hag1 := hag1.moved (hm212.castL (by kernel_rfl))
    have hbox := hbox.moved (hm212.castL (by kernel_rfl))
    have ho := ho.moved (hm212.castL (by kernel_rfl))
    
    exact hfin _ _ _ A c (by kernel_rfl) (by kernel_rfl) (by kernel_rfl) hag1 (by assumption : Rel _ _ _ _ _) (by kernel_rfl) hbox ho (fun a ha => .inl ha)
  · have e3 : Uf.more u x0 x = 1 := by unfold Uf.more; rw [if_neg (by omega)]
    rw [e3, hds_step hg hx0 hx hah (.inr ⟨ha, hh⟩), show ((cnt + 1 : Nat) : Int) = (cnt : Int) + 1 from rfl] at hfin
    refine sim_draw [] (by kernel_rfl) (by kernel_rfl) (hR.cast (by kernel_rfl)) (fun hR300 => ?_)
    have hbox := hbox.drew
    have ho := ho.drew
    refine sim_ordN 2 [] hR300 (by kernel_rfl) trivial (fun ρ301 w301 hm301 hR301 => ?_)
    have hag := hag.moved (hm301.castL (by kernel_rfl))
    have hag1 := hag1.moved (hm301.castL (by kernel_rfl))
    have hbox := hbox.moved (hm301.castL (by kernel_rfl))
    have ho := ho.moved (hm301.castL (by kernel_rfl))
    refine sim_ord_index (.v (.slice (some ⟨ga, oa, none⟩) m cl)) m 1 0 1 0 (by kernel_rfl) (by omega) (by omega) rfl hR301 (by simp only [Nm.at_, hag.at_ 1 (by omega), e1, Nat.add_zero, Int.toNat_zero, Nat.zero_mul]) (fun hR302 => ?_)
    refine sim_ordN 4 [] hR302 (by kernel_rfl) trivial (fun ρ303 w303 hm303 hR303 => ?_)
    have hag := hag.moved (hm303.castL (by kernel_rfl))
    have hag1 := hag1.moved (hm303.castL (by kernel_rfl))
    have hbox := hbox.moved (hm303.castL (by kernel_rfl))
    have ho := ho.moved (hm303.castL (by kernel_rfl))
    refine sim_ord_index (.v (.slice (some ⟨ga, oa, none⟩) m cl)) m 1 i 2 0 (by kernel_rfl) (by omega) (by omega) rfl hR303 (by simp only [Nm.at_, hag.at_ 2 (by omega), e2, Nat.add_zero, Int.toNat_natCast, Nat.mul_one]) (fun hR305 => ?_)
    refine sim_ordN 1 [] hR305 (by kernel_rfl) trivial (fun ρ306 w306 hm306 hR306 => ?_)
    have hag := hag.moved (hm306.castL (by kernel_rfl))
    have hag1 := hag1.moved (hm306.castL (by kernel_rfl))
    have hbox := hbox.moved (hm306.castL (by kernel_rfl))
    have ho := ho.moved (hm306.castL (by kernel_rfl))
    refine sim_ord_call (T := [b]) (w0 := w0) 20 [.ptr 0 0, LI ((↑x0 : Int))] (by kernel_rfl) ?_
    have ez0_307 := (hag.at_ 0 (by omega)).trans e0
    simp only [denL, LV.den, Nm.at_, ez0_307, Nat.add_zero]
    refine Calls.mono (head12_eq ((RfP.mk b A c vL)) (u) _ _ _ (rfv_of hR306.rel hbox hag1 e0 (by kernel_rfl) hcl ho rfl) (by assumption) (by assumption)) ?_
    rintro e307 w307 ⟨rfl, hb307⟩
    have hR307 := hR306.call hb307 (LI ((↑a : Int)))
    have hbox := hbox.below hb307
    have ho := ho.below hb307
    refine BackO.of (LI ((↑a : Int))) hR307 rfl ?_
    refine sim_ord_call (T := [b]) (w0 := w0) 20 [.ptr 0 0, LI ((↑x : Int))] (by kernel_rfl) ?_
    have ez0_308 := (hag.at_ 0 (by omega)).trans e0
    simp only [denL, LV.den, Nm.at_, ez0_307, Nat.add_zero]
    refine Calls.mono (head12_eq ((RfP.mk b A c vL)) (u) _ _ _ (rfv_of hR307.rel hbox hag1 e0 (by kernel_rfl) hcl ho rfl) (by assumption) (by assumption)) ?_
    rintro e308 w308 ⟨rfl, hb308⟩
    have hR308 := hR307.call hb308 (LI ((↑h : Int)))
    have hbox := hbox.below hb308
    have ho := ho.below hb308
    refine BackO.of (LI ((↑h : Int))) hR308 rfl ?_
    refine sim_ordN 2 [] hR308 (by kernel_rfl) trivial (fun ρ309 w309 hm309 hR309 => ?_)
    have hag := hag.moved (hm309.castL (by kernel_rfl))
    have hag1 := hag1.moved (hm309.castL (by kernel_rfl))
    have hbox := hbox.moved (hm309.castL (by kernel_rfl))
    have ho := ho.moved (hm309.castL (by kernel_rfl))
    refine sim_ord_endR hR309 (by kernel_rfl) (fun hR310 => ?_)
    refine sim_run 7 [] (hR310.cast (by kernel_rfl)) (by kernel_rfl) trivial (fun ρ311 w311 hm311 hR311 => ?_)
    have hag := hag.moved (hm311.castL (by kernel_rfl))
    have hag1 := hag1.moved (hm311.castL (by kernel_rfl))
    have hbox := hbox.moved (hm311.castL (by kernel_rfl))
    have ho := ho.moved (hm311.castL (by kernel_rfl))
    refine sim_know 45 ((↑a : Int) == (↑h : Int)) false (by kernel_rfl) (decide_eq_false (by omega)) ?_
    refine sim_run 15 [⟨12, 1, LI (IntKind.i64.wrap ((↑cnt : Int) + 1)), LI ((↑cnt : Int) + 1)⟩] (hR311.cast (by kernel_rfl)) (by kernel_rfl) ⟨eqi (IntWalk.i64_in _ (by omega)), trivial⟩ (fun ρ312 w312 hm312 hR312 => ?_)
    have hag := hag.moved (hm312.castL (by kernel_rfl))
    have hag1 := hag1.moved (hm312.castL (by kernel_rfl))
    have hbox := hbox.moved (hm312.castL (by kernel_rfl))
    have ho := ho.moved (hm312.castL (by kernel_rfl))
    refine sim_know 50 (decide ((↑h : Int) < (↑a : Int))) true (by kernel_rfl) (decide_eq_true (by omega)) ?_
    refine sim_run 9 [] (hR312.cast (by kernel_rfl)) (by kernel_rfl) trivial (fun ρ313 w313 hm313 hR313 => ?_)
    have hag := hag.moved (hm313.castL (by kernel_rfl))
    have hag1 := hag1.moved (hm313.castL (by kernel_rfl))
    have hbox := hbox.moved (hm313.castL (by kernel_rfl))
    have ho := ho.moved (hm313.castL (by kernel_rfl))
    
    have hz1 := ((by assumption : Rel _ _ _ _ _)).ag_ 1 (by kernel_rfl)
    have e0z := (hag1.at_ 0 (by omega)).trans e0
    have hRz := ((by assumption : Rel _ _ _ _ _)).cut (rs := [⟨[.v (.slice A u.length c), .v vL], true⟩]) (by kernel_rfl) (Agree.refl _ _) (by kernel_rfl)
    have hoz := ho.cut (rs := [⟨[.v (.slice A u.length c), .v vL], true⟩]) hz1 rfl (by kernel_rfl)
    have hboxz := rowCut (cs := [.v (.slice A u.length c), .v vL]) (by assumption : Rel _ _ _ _ _) hbox hz1 e0z (by kernel_rfl) hcl
    have hagz := hag1.ag
    refine sim_to (regK Tryz.f11 15) (tmplJ Tryz.f11.ntmps 0 [(0, .ptr 0 0), (1, .v (.slice (some ⟨ga, oa, none⟩) m cl)), (7, LI ((cnt : Int) + 1)), (8, LI (i : Int)), (9, LI (h : Int)), (10, LI (a : Int))]) [⟨[.v (.slice A u.length c), .v vL], true⟩] (by kernel_rfl) (by kernel_rfl) (by kernel_rfl) (fun d5 => ?_)
    exact join_h hRz hboxz hcl hoz e0z hu (by omega) hb hcnt (by omega) (by omega) (by omega) d5 (fun c' ρ' w' A' c1 hk hm' hl hag' hR' htk hbox' ho' hA' => hfin c' ρ' w' A' c1 hk hm' hl ⟨hagz.tr hag'.ag, hag'.le⟩ hR' htk hbox' ho' (fun a ha => .inr (hA' a ha)))
end Go.Proofs.YtedfbdeklepekaaGreat
