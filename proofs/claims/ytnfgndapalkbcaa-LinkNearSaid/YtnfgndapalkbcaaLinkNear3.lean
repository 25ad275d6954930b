/-
  LinkNear: one that stands ahead is of another class, and they are told in order.
-/
import Derived.Test.YtnfgndapalkbcaaLinkNear2
namespace Go.Proofs.Ytnfgndapalkbcaa
open Go Go.RowKit
theorem near_same {b g c : Nat} {A : Option Addr} {u : List Nat} {ls : List Lk} {w : World} (L : Option Addr) (i x : Nat) (h : UfAt w b g u A c) (hGI : GInv u ls) (hsm : sameI u [(i : Int), (x : Int)] = false) (hr : Reads w w.heap.size 1 L 2 (ints [(i : Int), (x : Int)])) : Calls Try.prog 14 #[.pointer (some ⟨b, 0, none⟩), .slice L 2 2] w fun e w' => e = .returned (.bool false) ∧ Below w.heap.size w w' := by
  have := ufSame_b L 2 2 w.heap.size [(i : Int), (x : Int)] h hGI.good hGI.le hr (by omega)
  rw [hsm] at this
  exact this
theorem cls_le' (u : List Nat) (h : Nat) : (Uf.cls u h).length ≤ u.length := by
  unfold Uf.cls
  exact Nat.le_trans (List.length_filter_le _ _) (by rw [List.length_range']; exact Nat.le_refl _)
theorem near_class {b g c : Nat} {A : Option Addr} {u : List Nat} {ls : List Lk} {w : World} (x : Nat) (h : UfAt w b g u A c) (hGI : GInv u ls) (hx : 1 ≤ x ∧ x ≤ u.length) : Calls Try.prog 15 #[.pointer (some ⟨b, 0, none⟩), .int .i64 (x : Int)] w (NatsN w (Uf.cls u (Uf.hd u x))) :=
  (class_in b A c u x w h.rd h.lt.1 hGI.good hGI.le hx).mono fun _ _ h => h
theorem Sta.natsR {T : List Nat} {w0 : World} {ρ : Nm} {rs : List Reg} {w w' : World} {A : Option Addr} {n c : Nat} {l : List Nat} (hR : Rel T w0 ρ rs w) (h : w'.ownsRow w.heap.size 3 1 (.slice A n c) n (nats l)) : Sta (readS A w'.heap.size) (ReadW w'.heap.size 1 A n (nats l)) ρ rs w' :=
  Sta.new hR (Reads.of_own h) (fun x hx => by
    obtain ⟨ad, rfl, rfl, _⟩ := hx
    exact (h.lt _ rfl).1) (fun x hx => by obtain ⟨_, _, _, h1⟩ := hx; exact h1) ReadW.same
attribute [local irreducible] run goO leaveK someK nextK nextT nextOT nextOD loopBody loopRest loopK fillJ tmplOf tmplJ mergeT At AtO drawOk ordOf gateOf callC callO topOp topO idxOf appOf storeOf clearOf sliceOf calleeOf calleeO topQ idxQ newRowOf resL stepOp seek
set_option maxRecDepth 100000 in
set_option maxHeartbeats 4000000 in
theorem near_chk {Q : Exit → Act → World → Prop} {R : Ending → World → Prop} [hB : Body Try.prog Q Try.f3 R] {ρ : Nm} {w0 w : World} {q : GrP} {u : List Nat} {ls : List Lk} {x i N k na ca ga oa Ba : Nat} {a : List Nat} (hR : Rel [] w0 ρ [gR q, ⟨[LI (x : Int)], false⟩] w) (hs : Sta q.has (GrV q u ls) ρ [gR q, ⟨[LI (x : Int)], false⟩] w) (ha : Sta (readS (some ⟨ga, oa, none⟩) Ba) (ReadW Ba 1 (some ⟨ga, oa, none⟩) na (nats a)) ρ [gR q, ⟨[LI (x : Int)], false⟩] w) (hGI : GInv u ls) (e1 : ρ 1 = (ga, oa + k)) (hna : a.length = na) (hna1 : na ≤ 1000) (hk : k < na) (hx : a[k]? = some x) (hxu : 1 ≤ x ∧ x ≤ u.length) (hsm : sameI u [(i : Int), (x : Int)] = false) (hsrt : ∀ m p, k = m + 1 → a[m]? = some p → p < x) (hall : ∀ y ∈ Uf.cls u (Uf.hd u x), y ∈ a) (d : Nat → Value)
    (hfin : ∀ (c' : Cfg) (ρ' : Nm) (w' : World), c'.k = [] → mergeT (tmplJ Try.f3.ntmps 0 [(0, LI (N : Int)), (5, .ptr 0 0), (8, LI (i : Int)), (9, .v (.slice (some ⟨ga, oa, none⟩) na ca)), (10, LI ((k : Int) + 1))]) c'.tmps = c'.tmps → (tmplJ Try.f3.ntmps 0 [(0, LI (N : Int)), (5, .ptr 0 0), (8, LI (i : Int)), (9, .v (.slice (some ⟨ga, oa, none⟩) na ca)), (10, LI ((k : Int) + 1))]).length = c'.tmps.length → Ag 1 ρ ρ' c'.rs → Rel [] w0 ρ' c'.rs w' → c'.rs.take 1 = [gR q] → Sta q.has (GrV q u ls) ρ' c'.rs w' → Sta (readS (some ⟨ga, oa, none⟩) Ba) (ReadW Ba 1 (some ⟨ga, oa, none⟩) na (nats a)) ρ' c'.rs w' → At Try.prog Q c' ρ' w') :
    At Try.prog Q ⟨regK Try.f3 23, fillJ (tmplJ Try.f3.ntmps 0 [(0, LI (N : Int)), (5, .ptr 0 0), (8, LI (i : Int)), (9, .v (.slice (some ⟨ga, oa, none⟩) na ca)), (10, LI (k : Int)), (12, LB true)]) d 0, [gR q, ⟨[LI (x : Int)], false⟩]⟩ ρ w := by
  have hag2 := hR.ag_ 2 (by kernel_rfl)
  have hag1 := hR.ag_ 1 (by kernel_rfl)
  have hcl := cls_le' u (Uf.hd u x)
  have hule := hGI.le
  cases k with
  | zero =>
    refine sim_draw [] (by kernel_rfl) (by kernel_rfl) (hR.cast (by kernel_rfl)) (fun hR2000 => ?_)
    have hs := hs.drew
    have ha := ha.drew
    refine sim_ordN 10 [] hR2000 (by kernel_rfl) trivial (fun ρ2001 w2001 hm2001 hR2001 => ?_)
    have hag2 := hag2.moved (hm2001.castL (by kernel_rfl))
    have hag1 := hag1.moved (hm2001.castL (by kernel_rfl))
    have hs := hs.moved (hm2001.castL (by kernel_rfl))
    have ha := ha.moved (hm2001.castL (by kernel_rfl))
    refine sim_ord_index (.v (.slice (some ⟨ga, oa, none⟩) na ca)) na 1 ((0 : Nat) : Int) 1 0 (by kernel_rfl) (by omega) (by omega) rfl hR2001 (by simp only [Nm.at_, hag2.at_ 1 (by omega), e1, Nat.add_zero, Int.toNat_natCast, Nat.mul_one]) (fun hR2002 => ?_)
    refine sim_ordN 2 [] hR2002 (by kernel_rfl) trivial (fun ρ2003 w2003 hm2003 hR2003 => ?_)
    have hag2 := hag2.moved (hm2003.castL (by kernel_rfl))
    have hag1 := hag1.moved (hm2003.castL (by kernel_rfl))
    have hs := hs.moved (hm2003.castL (by kernel_rfl))
    have ha := ha.moved (hm2003.castL (by kernel_rfl))
    refine sim_ord_call (T := []) (w0 := w0) 14 [.v (Value.pointer (some (Addr.mk q.pb 0 none))), .slc 2 0 2 2] (by kernel_rfl) ?_
    refine Calls.mono (near_same _ (i) (x) (hs.is.uf) (hGI) (hsm) (Rel.reads (RelO.rel (by assumption)) (n := 2) (size := 1) (m := 2) (vs := ints [(i : Int), (x : Int)]) (b := true) (by kernel_rfl) rfl)) ?_
    rintro e2004 w2004 ⟨rfl, hb2004⟩
    have hR2004 := hR2003.call hb2004 (LB false)
    have hs := hs.below hb2004
    have ha := ha.below hb2004
    refine BackO.of (LB false) hR2004 rfl ?_
    refine sim_ordN 17 [] hR2004 (by kernel_rfl) trivial (fun ρ2005 w2005 hm2005 hR2005 => ?_)
    have hag2 := hag2.moved (hm2005.castL (by kernel_rfl))
    have hag1 := hag1.moved (hm2005.castL (by kernel_rfl))
    have hs := hs.moved (hm2005.castL (by kernel_rfl))
    have ha := ha.moved (hm2005.castL (by kernel_rfl))
    refine sim_ord_endR hR2005 (by kernel_rfl) (fun hR2006 => ?_)
    refine sim_run 3 [] (hR2006.cast (by kernel_rfl)) (by kernel_rfl) trivial (fun ρ2007 w2007 hm2007 hR2007 => ?_)
    have hag2 := hag2.moved (hm2007.castL (by kernel_rfl))
    have hag1 := hag1.moved (hm2007.castL (by kernel_rfl))
    have hs := hs.moved (hm2007.castL (by kernel_rfl))
    have ha := ha.moved (hm2007.castL (by kernel_rfl))
    refine sim_draw [] (by kernel_rfl) (by kernel_rfl) hR2007 (fun hR2008 => ?_)
    have hs := hs.drew
    have ha := ha.drew
    refine sim_ordN 6 [] hR2008 (by kernel_rfl) trivial (fun ρ2009 w2009 hm2009 hR2009 => ?_)
    have hag2 := hag2.moved (hm2009.castL (by kernel_rfl))
    have hag1 := hag1.moved (hm2009.castL (by kernel_rfl))
    have hs := hs.moved (hm2009.castL (by kernel_rfl))
    have ha := ha.moved (hm2009.castL (by kernel_rfl))
    refine sim_ord_index (.v (.slice (some ⟨ga, oa, none⟩) na ca)) na 1 ((0 : Nat) : Int) 1 0 (by kernel_rfl) (by omega) (by omega) rfl hR2009 (by simp only [Nm.at_, hag2.at_ 1 (by omega), e1, Nat.add_zero, Int.toNat_natCast, Nat.mul_one]) (fun hR2010 => ?_)
    refine sim_ordN 1 [] hR2010 (by kernel_rfl) trivial (fun ρ2011 w2011 hm2011 hR2011 => ?_)
    have hag2 := hag2.moved (hm2011.castL (by kernel_rfl))
    have hag1 := hag1.moved (hm2011.castL (by kernel_rfl))
    have hs := hs.moved (hm2011.castL (by kernel_rfl))
    have ha := ha.moved (hm2011.castL (by kernel_rfl))
    refine sim_ord_call (T := []) (w0 := w0) 15 [.v (Value.pointer (some (Addr.mk q.pb 0 none))), LI ((↑x : Int))] (by kernel_rfl) ?_
    refine Calls.mono (near_class (x) (hs.is.uf) (hGI) (hxu)) ?_
    rintro e2012 w2012 ⟨Ac, cc, rfl, ho2012, hb2012⟩
    have hc := Sta.natsR (hR2011).rel ho2012
    have hR2012 := (hR2011).call hb2012 (.v (.slice Ac (Uf.cls u (Uf.hd u x)).length cc))
    have hs := hs.below hb2012
    have ha := ha.below hb2012
    refine BackO.of (.v (.slice Ac (Uf.cls u (Uf.hd u x)).length cc)) hR2012 rfl ?_
    refine sim_ordN 1 [] hR2012 (by kernel_rfl) trivial (fun ρ2013 w2013 hm2013 hR2013 => ?_)
    have hag2 := hag2.moved (hm2013.castL (by kernel_rfl))
    have hag1 := hag1.moved (hm2013.castL (by kernel_rfl))
    have hc := hc.moved (hm2013.castL (by kernel_rfl))
    have hs := hs.moved (hm2013.castL (by kernel_rfl))
    have ha := ha.moved (hm2013.castL (by kernel_rfl))
    refine sim_ord_endR hR2013 (by kernel_rfl) (fun hR2014 => ?_)
    refine sim_run 2 [] (hR2014.cast (by kernel_rfl)) (by kernel_rfl) trivial (fun ρ2015 w2015 hm2015 hR2015 => ?_)
    have hag2 := hag2.moved (hm2015.castL (by kernel_rfl))
    have hag1 := hag1.moved (hm2015.castL (by kernel_rfl))
    have hc := hc.moved (hm2015.castL (by kernel_rfl))
    have hs := hs.moved (hm2015.castL (by kernel_rfl))
    have ha := ha.moved (hm2015.castL (by kernel_rfl))
    
    have hRZ := (by assumption : Rel _ _ _ _ _)
    have hz := hRZ.ag_ 2 (by kernel_rfl)
    refine sim_to (regK Try.f3 26) (tmplJ Try.f3.ntmps 0 [(0, LI (N : Int)), (5, .ptr 0 0), (8, LI (i : Int)), (9, .v (.slice (some ⟨ga, oa, none⟩) na ca)), (10, LI ((0 : Nat) : Int)), (14, .v (.slice Ac (Uf.cls u (Uf.hd u x)).length cc))]) [gR q, ⟨[LI (x : Int)], false⟩] (by kernel_rfl) (by kernel_rfl) (by kernel_rfl) (fun d3 => ?_)
    exact near_cl (hRZ.cut (rs := [gR q, ⟨[LI (x : Int)], false⟩]) (by kernel_rfl) (fun _ _ => rfl) (by kernel_rfl)) (hs.cut hz rfl (by kernel_rfl)) (ha.cut hz rfl (by kernel_rfl)) (hc.cut hz rfl (by kernel_rfl)) hna hna1 rfl (by omega) hk hall d3 (fun c' ρ' w' hk' hm' hl' hag' hR' htk hs' ha' => hfin c' ρ' w' hk' hm' hl' ⟨hag1.ag.trans hag'.ag (by omega), hag'.le⟩ hR' htk hs' ha')
  | succ m =>
    obtain ⟨p, hp⟩ : ∃ p, a[m]? = some p := ⟨_, List.getElem?_eq_getElem (by omega)⟩
    have hpx := hsrt m p rfl hp
    refine sim_seeNat m 2 (by kernel_rfl) hp ha hR (by kernel_rfl) (fun g3 o3 ρE eA hgE hmE eE hRE => ?_)
    injection eA with eA
    injection eA with eg eo
    subst eg eo
    have hs := hs.moved hmE
    have ha := ha.moved hmE
    have hag2 := hag2.moved hmE
    have hag1 := hag1.moved hmE
    have hag3 := hRE.ag_ 3 (by kernel_rfl)
    have e1' := (hag2.at_ 1 (by omega)).trans e1
    have hz1 : (((m + 1 : Nat) : Int) - 1).toNat = m := by omega
    refine sim_draw [] (by kernel_rfl) (by kernel_rfl) (hRE.cast (by kernel_rfl)) (fun hR2100 => ?_)
    have hs := hs.drew
    have ha := ha.drew
    refine sim_ordN 10 [] hR2100 (by kernel_rfl) trivial (fun ρ2101 w2101 hm2101 hR2101 => ?_)
    have hag2 := hag2.moved (hm2101.castL (by kernel_rfl))
    have hag1 := hag1.moved (hm2101.castL (by kernel_rfl))
    have hag3 := hag3.moved (hm2101.castL (by kernel_rfl))
    have hs := hs.moved (hm2101.castL (by kernel_rfl))
    have ha := ha.moved (hm2101.castL (by kernel_rfl))
    refine sim_ord_index (.v (.slice (some ⟨ga, oa, none⟩) na ca)) na 1 ((m + 1 : Nat) : Int) 1 0 (by kernel_rfl) (by omega) (by omega) rfl hR2101 (by simp only [Nm.at_, hag3.at_ 1 (by omega), e1', Nat.add_zero, Int.toNat_natCast, Nat.mul_one]) (fun hR2102 => ?_)
    refine sim_ordN 2 [] hR2102 (by kernel_rfl) trivial (fun ρ2103 w2103 hm2103 hR2103 => ?_)
    have hag2 := hag2.moved (hm2103.castL (by kernel_rfl))
    have hag1 := hag1.moved (hm2103.castL (by kernel_rfl))
    have hag3 := hag3.moved (hm2103.castL (by kernel_rfl))
    have hs := hs.moved (hm2103.castL (by kernel_rfl))
    have ha := ha.moved (hm2103.castL (by kernel_rfl))
    refine sim_ord_call (T := []) (w0 := w0) 14 [.v (Value.pointer (some (Addr.mk q.pb 0 none))), .slc 3 0 2 2] (by kernel_rfl) ?_
    refine Calls.mono (near_same _ (i) (x) (hs.is.uf) (hGI) (hsm) (Rel.reads (RelO.rel (by assumption)) (n := 3) (size := 1) (m := 2) (vs := ints [(i : Int), (x : Int)]) (b := true) (by kernel_rfl) rfl)) ?_
    rintro e2104 w2104 ⟨rfl, hb2104⟩
    have hR2104 := hR2103.call hb2104 (LB false)
    have hs := hs.below hb2104
    have ha := ha.below hb2104
    refine BackO.of (LB false) hR2104 rfl ?_
    refine sim_ordN 5 [] hR2104 (by kernel_rfl) trivial (fun ρ2105 w2105 hm2105 hR2105 => ?_)
    have hag2 := hag2.moved (hm2105.castL (by kernel_rfl))
    have hag1 := hag1.moved (hm2105.castL (by kernel_rfl))
    have hag3 := hag3.moved (hm2105.castL (by kernel_rfl))
    have hs := hs.moved (hm2105.castL (by kernel_rfl))
    have ha := ha.moved (hm2105.castL (by kernel_rfl))
    refine sim_knowO hR2105 103 (decide ((↑(m + 1) : Int) > 0)) true (by kernel_rfl) (decide_eq_true (by omega)) (fun hR2106 => ?_)
    refine sim_ordN 2 [] hR2106 (by kernel_rfl) trivial (fun ρ2107 w2107 hm2107 hR2107 => ?_)
    have hag2 := hag2.moved (hm2107.castL (by kernel_rfl))
    have hag1 := hag1.moved (hm2107.castL (by kernel_rfl))
    have hag3 := hag3.moved (hm2107.castL (by kernel_rfl))
    have hs := hs.moved (hm2107.castL (by kernel_rfl))
    have ha := ha.moved (hm2107.castL (by kernel_rfl))
    refine sim_ord_index (.v (.slice (some ⟨ga, oa, none⟩) na ca)) na 1 ((m + 1 : Nat) : Int) 1 0 (by kernel_rfl) (by omega) (by omega) rfl hR2107 (by simp only [Nm.at_, hag3.at_ 1 (by omega), e1', Nat.add_zero, Int.toNat_natCast, Nat.mul_one]) (fun hR2108 => ?_)
    refine sim_ordN 4 [⟨23, 25, LI (IntKind.i64.wrap ((↑(m + 1) : Int) - 1)), LI ((↑(m + 1) : Int) - 1)⟩] hR2108 (by kernel_rfl) ⟨eqi (IntWalk.i64_in _ (by omega)), trivial⟩ (fun ρ2109 w2109 hm2109 hR2109 => ?_)
    have hag2 := hag2.moved (hm2109.castL (by kernel_rfl))
    have hag1 := hag1.moved (hm2109.castL (by kernel_rfl))
    have hag3 := hag3.moved (hm2109.castL (by kernel_rfl))
    have hs := hs.moved (hm2109.castL (by kernel_rfl))
    have ha := ha.moved (hm2109.castL (by kernel_rfl))
    refine sim_ord_index (.v (.slice (some ⟨ga, oa, none⟩) na ca)) na 1 (((m + 1 : Nat) : Int) - 1) 2 0 (by kernel_rfl) (by omega) (by omega) rfl hR2109 (by simp only [Nm.at_, hag3.at_ 2 (by omega), eE, Nat.add_zero, hz1, Nat.mul_one]) (fun hR2111 => ?_)
    refine sim_ordN 4 [] hR2111 (by kernel_rfl) trivial (fun ρ2112 w2112 hm2112 hR2112 => ?_)
    have hag2 := hag2.moved (hm2112.castL (by kernel_rfl))
    have hag1 := hag1.moved (hm2112.castL (by kernel_rfl))
    have hag3 := hag3.moved (hm2112.castL (by kernel_rfl))
    have hs := hs.moved (hm2112.castL (by kernel_rfl))
    have ha := ha.moved (hm2112.castL (by kernel_rfl))
    refine sim_ord_endR hR2112 (by kernel_rfl) (fun hR2113 => ?_)
    refine sim_know 115 (decide ((↑x : Int) ≤ (↑p : Int))) false (by kernel_rfl) (decide_eq_false (by omega)) ?_
    refine sim_run 3 [] (hR2113.cast (by kernel_rfl)) (by kernel_rfl) trivial (fun ρ2114 w2114 hm2114 hR2114 => ?_)
    have hag2 := hag2.moved (hm2114.castL (by kernel_rfl))
    have hag1 := hag1.moved (hm2114.castL (by kernel_rfl))
    have hag3 := hag3.moved (hm2114.castL (by kernel_rfl))
    have hs := hs.moved (hm2114.castL (by kernel_rfl))
    have ha := ha.moved (hm2114.castL (by kernel_rfl))
    refine sim_draw [] (by kernel_rfl) (by kernel_rfl) hR2114 (fun hR2115 => ?_)
    have hs := hs.drew
    have ha := ha.drew
    refine sim_ordN 6 [] hR2115 (by kernel_rfl) trivial (fun ρ2116 w2116 hm2116 hR2116 => ?_)
    have hag2 := hag2.moved (hm2116.castL (by kernel_rfl))
    have hag1 := hag1.moved (hm2116.castL (by kernel_rfl))
    have hag3 := hag3.moved (hm2116.castL (by kernel_rfl))
    have hs := hs.moved (hm2116.castL (by kernel_rfl))
    have ha := ha.moved (hm2116.castL (by kernel_rfl))
    refine sim_ord_index (.v (.slice (some ⟨ga, oa, none⟩) na ca)) na 1 ((m + 1 : Nat) : Int) 1 0 (by kernel_rfl) (by omega) (by omega) rfl hR2116 (by simp only [Nm.at_, hag3.at_ 1 (by omega), e1', Nat.add_zero, Int.toNat_natCast, Nat.mul_one]) (fun hR2117 => ?_)
    refine sim_ordN 1 [] hR2117 (by kernel_rfl) trivial (fun ρ2118 w2118 hm2118 hR2118 => ?_)
    have hag2 := hag2.moved (hm2118.castL (by kernel_rfl))
    have hag1 := hag1.moved (hm2118.castL (by kernel_rfl))
    have hag3 := hag3.moved (hm2118.castL (by kernel_rfl))
    have hs := hs.moved (hm2118.castL (by kernel_rfl))
    have ha := ha.moved (hm2118.castL (by kernel_rfl))
    refine sim_ord_call (T := []) (w0 := w0) 15 [.v (Value.pointer (some (Addr.mk q.pb 0 none))), LI ((↑x : Int))] (by kernel_rfl) ?_
    refine Calls.mono (near_class (x) (hs.is.uf) (hGI) (hxu)) ?_
    rintro e2119 w2119 ⟨Ac, cc, rfl, ho2119, hb2119⟩
    have hc := Sta.natsR (hR2118).rel ho2119
    have hR2119 := (hR2118).call hb2119 (.v (.slice Ac (Uf.cls u (Uf.hd u x)).length cc))
    have hs := hs.below hb2119
    have ha := ha.below hb2119
    refine BackO.of (.v (.slice Ac (Uf.cls u (Uf.hd u x)).length cc)) hR2119 rfl ?_
    refine sim_ordN 1 [] hR2119 (by kernel_rfl) trivial (fun ρ2120 w2120 hm2120 hR2120 => ?_)
    have hag2 := hag2.moved (hm2120.castL (by kernel_rfl))
    have hag1 := hag1.moved (hm2120.castL (by kernel_rfl))
    have hag3 := hag3.moved (hm2120.castL (by kernel_rfl))
    have hc := hc.moved (hm2120.castL (by kernel_rfl))
    have hs := hs.moved (hm2120.castL (by kernel_rfl))
    have ha := ha.moved (hm2120.castL (by kernel_rfl))
    refine sim_ord_endR hR2120 (by kernel_rfl) (fun hR2121 => ?_)
    refine sim_run 2 [] (hR2121.cast (by kernel_rfl)) (by kernel_rfl) trivial (fun ρ2122 w2122 hm2122 hR2122 => ?_)
    have hag2 := hag2.moved (hm2122.castL (by kernel_rfl))
    have hag1 := hag1.moved (hm2122.castL (by kernel_rfl))
    have hag3 := hag3.moved (hm2122.castL (by kernel_rfl))
    have hc := hc.moved (hm2122.castL (by kernel_rfl))
    have hs := hs.moved (hm2122.castL (by kernel_rfl))
    have ha := ha.moved (hm2122.castL (by kernel_rfl))
    
    have hRZ := (by assumption : Rel _ _ _ _ _)
    have hz := hRZ.ag_ 2 (by kernel_rfl)
    refine sim_to (regK Try.f3 26) (tmplJ Try.f3.ntmps 0 [(0, LI (N : Int)), (5, .ptr 0 0), (8, LI (i : Int)), (9, .v (.slice (some ⟨ga, oa, none⟩) na ca)), (10, LI ((m + 1 : Nat) : Int)), (14, .v (.slice Ac (Uf.cls u (Uf.hd u x)).length cc))]) [gR q, ⟨[LI (x : Int)], false⟩] (by kernel_rfl) (by kernel_rfl) (by kernel_rfl) (fun d3 => ?_)
    exact near_cl (hRZ.cut (rs := [gR q, ⟨[LI (x : Int)], false⟩]) (by kernel_rfl) (fun _ _ => rfl) (by kernel_rfl)) (hs.cut hz rfl (by kernel_rfl)) (ha.cut hz rfl (by kernel_rfl)) (hc.cut hz rfl (by kernel_rfl)) hna hna1 rfl (by omega) hk hall d3 (fun c' ρ' w' hk' hm' hl' hag' hR' htk hs' ha' => hfin c' ρ' w' hk' hm' hl' ⟨hag1.ag.trans hag'.ag (by omega), hag'.le⟩ hR' htk hs' ha')
end Go.Proofs.Ytnfgndapalkbcaa
