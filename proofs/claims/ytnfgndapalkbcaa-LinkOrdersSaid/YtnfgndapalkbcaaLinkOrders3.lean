/-
  LinkOrders: what the links say holds of the places.
-/
import Derived.Test.YtnfgndapalkbcaaLinkOrders2
namespace Go.Proofs.Ytnfgndapalkbcaa
open Go Go.RowKit
theorem nodup_idx {l : List Nat} (h : l.Nodup) {p r a : Nat} (h1 : l[p]? = some a) (h2 : l[r]? = some a) : p = r := by
  obtain ⟨l1, e1⟩ := List.getElem?_eq_some_iff.1 h1
  obtain ⟨l2, e2⟩ := List.getElem?_eq_some_iff.1 h2
  rcases Nat.lt_trichotomy p r with hh | hh | hh
  · exact absurd (e1.trans e2.symm) (List.pairwise_iff_getElem.1 h p r l1 l2 hh)
  · exact hh
  · exact absurd (e2.trans e1.symm) (List.pairwise_iff_getElem.1 h r p l2 l1 hh)
theorem ord_with {u : List Nat} {ls : List Lk} (hGI : GInv u ls) {s t p r : Nat} (hx : (⟨1, (s : Int), (t : Int)⟩ : Lk) ∈ ls) (h1 : (Uf.orderM u ls)[p]? = some (Uf.hd u s)) (h2 : (Uf.orderM u ls)[r]? = some (Uf.hd u t)) : p = r := by
  have := hGI.same _ hx rfl
  have h3 : Uf.hd u s = Uf.hd u t := this
  rw [← h3] at h2
  exact nodup_idx (Uf.order_inv u ls).nodup h1 h2
theorem ord_before {u : List Nat} {ls : List Lk} {s t p r : Nat} (hx : (⟨2, (s : Int), (t : Int)⟩ : Lk) ∈ ls) (h1 : (Uf.orderM u ls)[p]? = some (Uf.hd u s)) (h2 : (Uf.orderM u ls)[r]? = some (Uf.hd u t)) : p < r := by
  have hm : Uf.hd u s ∈ Uf.aheadM u ls (Uf.hd u t) := Uf.mem_ahead.2 ⟨_, hx, rfl, rfl, rfl⟩
  have := (Uf.order_inv u ls).ahead r _ h2 _ hm
  obtain ⟨j, hj, e⟩ := List.getElem_of_mem this
  rw [List.getElem_take] at e
  have hjr : j < r := by simp at hj; omega
  have hjl : j < (Uf.orderM u ls).length := by simp at hj; omega
  have hj2 : (Uf.orderM u ls)[j]? = some (Uf.hd u s) := by rw [List.getElem?_eq_getElem hjl, e]
  rw [nodup_idx (Uf.order_inv u ls).nodup h1 hj2]
  exact hjr
attribute [local irreducible] run goO leaveK someK nextK nextT nextOT nextOD loopBody loopRest loopK fillJ tmplOf tmplJ mergeT At AtO drawOk ordOf gateOf callC callO topOp topO idxOf appOf storeOf clearOf sliceOf calleeOf calleeO topQ idxQ newRowOf resL stepOp seek
set_option maxRecDepth 100000 in
set_option maxHeartbeats 4000000 in
theorem ord_links (w0 : World) (q q2 : GrP) (u2 : List Nat) (ls2 : List Lk) (ok : Bool) (xss : List (List Nat)) (Lo : Option Addr) (co n3 b3 B3 : Nat) (h3 : n3 = xss.length) (hx : xss.length ≤ 1000) (hxx : ∀ xs ∈ xss, xs.length ≤ 1000) (hGI2 : GInv u2 ls2) (hok : ok = true → (Uf.orderM u2 ls2).map (Uf.cls u2) = xss) (N np cp bp gp : Nat) (pl : List Int) (hN : N ≤ 1000) (hnp : np = N + 1) (u : List Nat) (ls : List Lk) (hGI : GInv u ls) (hul : u.length = N) (hpos : ∀ j, 1 ≤ j → j ≤ N → ∃ p : Nat, pl[j]? = some (p : Int) ∧ (Uf.orderM u ls)[p]? = some (Uf.hd u j)) (w : World) (ρ : Nm) (hR : Rel [] w0 ρ [gR q, gR q2] w) (hs : Sta q.has (GrV q u ls) ρ [gR q, gR q2] w) (hs2 : Sta q2.has (GrV q2 u2 ls2) ρ [gR q, gR q2] w) (hrow : Sta (btw b3 B3) (RowW B3 b3 Lo xss) ρ [gR q, gR q2] w) (hpl : Own ρ [gR q, gR q2] w bp 3 1 (.slice (some ⟨gp, 0, none⟩) np cp) np (ints pl)) (e0 : ρ 0 = (q.b, 0)) (e1 : ρ 1 = (q2.b, 0)) (d : Nat → Value) :
    At Try.prog (bodyPost Try.prog Try.f4 (okO w0)) ⟨regK Try.f4 34, fillJ (tmplJ Try.f4.ntmps 0 [(0, LI (N : Int)), (5, .ptr 0 0), (7, .ptr 1 0), (9, LB ok), (13, .v (.slice Lo n3 co)), (14, .v (.slice (some ⟨gp, 0, none⟩) np cp))]) d 0, [gR q, gR q2]⟩ ρ w := by
  subst h3
  have hag := hR.ag_ 2 (by kernel_rfl)
  have hfew := hGI.few
  refine sim_run 1 [] (hR.cast (by kernel_rfl)) (by kernel_rfl) trivial (fun ρ3000 w3000 hm3000 hR3000 => ?_)
  have hs := hs.moved (hm3000.castL (by kernel_rfl))
  have hs2 := hs2.moved (hm3000.castL (by kernel_rfl))
  have hrow := hrow.moved (hm3000.castL (by kernel_rfl))
  have hpl := hpl.moved (hm3000.castL (by kernel_rfl))
  have hag := hag.moved (hm3000.castL (by kernel_rfl))
  refine sim_call 17 [.ptr 0 0] (by kernel_rfl) ?_
  have ez0_3001 := (hag.at_ 0 (by omega)).trans e0
  simp only [denL, LV.den, Nm.at_, ez0_3001, Nat.add_zero]
  refine Calls.mono (links_any (q) (u) (ls) _ (hs.is) (hGI)) ?_
  rintro e3001 w3001 ⟨Aw, cw, rfl, ho3001, hb3001⟩
  have hlk := Own.start (hR3000) ho3001
  have hR3001 := (hR3000).below hb3001
  have hs := hs.below hb3001
  have hs2 := hs2.below hb3001
  have hrow := hrow.below hb3001
  have hpl := hpl.below hb3001
  refine Back.of (.v (.slice Aw ls.length cw)) hR3001 rfl ?_
  refine sim_run 8 [] (hR3001.cast (by kernel_rfl)) (by kernel_rfl) trivial (fun ρ3002 w3002 hm3002 hR3002 => ?_)
  have hag := hag.moved (hm3002.castL (by kernel_rfl))
  have hlk := hlk.moved (hm3002.castL (by kernel_rfl))
  have hs := hs.moved (hm3002.castL (by kernel_rfl))
  have hs2 := hs2.moved (hm3002.castL (by kernel_rfl))
  have hrow := hrow.moved (hm3002.castL (by kernel_rfl))
  have hpl := hpl.moved (hm3002.castL (by kernel_rfl))
  
  have e1 := (hag.at_ 1 (by omega)).trans e1
  obtain ⟨bl, hlk⟩ : ∃ bl : Nat, Own ρ3002 _ _ bl 30 3 (.slice Aw ls.length cw) ls.length (lkV ls) := ⟨_, hlk⟩
  refine sim_loop (ι := Nat) (T := []) (w0 := w0) 0 [0, 7, 9, 13, 14, 18] (fun i => [(19, LI i)]) (fun _ => [gR q, gR q2]) (fun i w1 => i ≤ ls.length ∧ Sta q2.has (GrV q2 u2 ls2) ρ3002 [gR q, gR q2] w1 ∧ Sta (btw b3 B3) (RowW B3 b3 Lo xss) ρ3002 [gR q, gR q2] w1 ∧ Own ρ3002 [gR q, gR q2] w1 bp 3 1 (.slice (some ⟨gp, 0, none⟩) np cp) np (ints pl) ∧ Own ρ3002 [gR q, gR q2] w1 bl 30 3 (.slice Aw ls.length cw) ls.length (lkV ls)) (fun i => ls.length - i) (by kernel_rfl) (by kernel_rfl) ((by assumption : Rel _ _ _ _ _).cast (by kernel_rfl)) ⟨Nat.zero_le _, hs2.castR (by kernel_rfl), hrow.castR (by kernel_rfl), hpl.castR (by kernel_rfl), hlk.castR (by kernel_rfl)⟩ ?_
  iterate 8 (try clear hs)
  iterate 8 (try clear hs2)
  iterate 8 (try clear hrow)
  iterate 8 (try clear hpl)
  iterate 8 (try clear hlk)
  iterate 8 (try clear hag)
  rintro i d w2 hR2 ⟨hi, hs2, hrow, hpl, hlk⟩
  have hag := hR2.ag_ 2 (by kernel_rfl)
  by_cases hlt : i < ls.length
  · obtain ⟨⟨kd, s0, t0⟩, hxx0⟩ : ∃ x, ls[i]? = some x := ⟨_, List.getElem?_eq_getElem hlt⟩
    have hxm := List.mem_of_getElem? hxx0
    obtain ⟨⟨hs1, hs3⟩, ht1, ht3⟩ := hGI.inl _ hxm
    have hkd := hGI.kind _ hxm
    dsimp only at hs1 hs3 ht1 ht3 hkd
    obtain ⟨s, rfl⟩ : ∃ s : Nat, s0 = s := ⟨s0.toNat, by omega⟩
    obtain ⟨t, rfl⟩ : ∃ t : Nat, t0 = t := ⟨t0.toNat, by omega⟩
    obtain ⟨p, hp, hpo⟩ := hpos s (by omega) (by omega)
    obtain ⟨r, hr, hro⟩ := hpos t (by omega) (by omega)
    obtain ⟨gl, ol, hA, _, _⟩ := (Reads.of_own hlk.own).spot (by omega) (by omega)
    subst hA
    refine sim_seeO (xss := ls.map Lk.cells) (sz := 3) (n := ls.length) (Lk.cells ⟨kd, (s : Int), (t : Int)⟩) i 2 (by kernel_rfl) (by rw [List.getElem?_map, hxx0]; rfl) hlk (lk_in ls) (by omega) hlt hR2 (by kernel_rfl) (fun ρE hmE eE hRE => ?_)
    have hs2 := hs2.moved hmE
    have hrow := hrow.moved hmE
    have hpl := hpl.moved hmE
    have hlk := hlk.moved hmE
    have hag := hag.moved hmE
    refine sim_seeZ (p : Int) s 3 (by kernel_rfl) hp hpl (by omega) hRE (by kernel_rfl) (fun ρF hmF eF hRF => ?_)
    have hs2 := hs2.moved hmF
    have hrow := hrow.moved hmF
    have hpl := hpl.moved hmF
    have hlk := hlk.moved hmF
    have hag := hag.moved hmF
    have e2 := (hmF.at_ 2 (by kernel_rfl)).trans eE
    refine sim_seeZ (r : Int) t 4 (by kernel_rfl) hr hpl (by omega) hRF (by kernel_rfl) (fun ρG hmG eG hRG => ?_)
    have hs2 := hs2.moved hmG
    have hrow := hrow.moved hmG
    have hpl := hpl.moved hmG
    have hlk := hlk.moved hmG
    have hag := hag.moved hmG
    have e2 := (hmG.at_ 2 (by kernel_rfl)).trans e2
    have e3 := (hmG.at_ 3 (by kernel_rfl)).trans eF
    have hag5 := hRG.ag_ 5 (by kernel_rfl)
    rcases hkd with rfl | rfl
    · obtain rfl := ord_with hGI hxm hpo hro
      refine sim_run 8 [] (hRG.cast (by kernel_rfl)) (by kernel_rfl) trivial (fun ρ3100 w3100 hm3100 hR3100 => ?_)
      have hs2 := hs2.moved (hm3100.castL (by kernel_rfl))
      have hrow := hrow.moved (hm3100.castL (by kernel_rfl))
      have hpl := hpl.moved (hm3100.castL (by kernel_rfl))
      have hlk := hlk.moved (hm3100.castL (by kernel_rfl))
      have hag := hag.moved (hm3100.castL (by kernel_rfl))
      have hag5 := hag5.moved (hm3100.castL (by kernel_rfl))
      refine sim_know 187 (decide ((↑i : Int) < (↑ls.length : Int))) true (by kernel_rfl) (decide_eq_true (by omega)) ?_
      refine sim_run 5 [] (hR3100.cast (by kernel_rfl)) (by kernel_rfl) trivial (fun ρ3101 w3101 hm3101 hR3101 => ?_)
      have hs2 := hs2.moved (hm3101.castL (by kernel_rfl))
      have hrow := hrow.moved (hm3101.castL (by kernel_rfl))
      have hpl := hpl.moved (hm3101.castL (by kernel_rfl))
      have hlk := hlk.moved (hm3101.castL (by kernel_rfl))
      have hag := hag.moved (hm3101.castL (by kernel_rfl))
      have hag5 := hag5.moved (hm3101.castL (by kernel_rfl))
      refine sim_draw [] (by kernel_rfl) (by kernel_rfl) hR3101 (fun hR3102 => ?_)
      have hs2 := hs2.drew
      have hrow := hrow.drew
      have hpl := hpl.drew
      have hlk := hlk.drew
      refine sim_ordN 2 [] hR3102 (by kernel_rfl) trivial (fun ρ3103 w3103 hm3103 hR3103 => ?_)
      have hag := hag.moved (hm3103.castL (by kernel_rfl))
      have hag5 := hag5.moved (hm3103.castL (by kernel_rfl))
      have hs2 := hs2.moved (hm3103.castL (by kernel_rfl))
      have hrow := hrow.moved (hm3103.castL (by kernel_rfl))
      have hpl := hpl.moved (hm3103.castL (by kernel_rfl))
      have hlk := hlk.moved (hm3103.castL (by kernel_rfl))
      refine sim_ord_index (.v (.slice (some ⟨gl, ol, none⟩) ls.length cw)) ls.length 3 (i : Int) 2 0 (by kernel_rfl) (by omega) (by omega) rfl hR3103 (by simp only [Nm.at_, hag5.at_ 2 (by omega), e2, Nat.add_zero, Int.toNat_natCast]) (fun hR3104 => ?_)
      refine sim_ordN 7 [] hR3104 (by kernel_rfl) trivial (fun ρ3105 w3105 hm3105 hR3105 => ?_)
      have hag := hag.moved (hm3105.castL (by kernel_rfl))
      have hag5 := hag5.moved (hm3105.castL (by kernel_rfl))
      have hs2 := hs2.moved (hm3105.castL (by kernel_rfl))
      have hrow := hrow.moved (hm3105.castL (by kernel_rfl))
      have hpl := hpl.moved (hm3105.castL (by kernel_rfl))
      have hlk := hlk.moved (hm3105.castL (by kernel_rfl))
      refine sim_ord_index (.v (.slice (some ⟨gl, ol, none⟩) ls.length cw)) ls.length 3 (i : Int) 2 0 (by kernel_rfl) (by omega) (by omega) rfl hR3105 (by simp only [Nm.at_, hag5.at_ 2 (by omega), e2, Nat.add_zero, Int.toNat_natCast]) (fun hR3106 => ?_)
      refine sim_ordN 2 [] hR3106 (by kernel_rfl) trivial (fun ρ3107 w3107 hm3107 hR3107 => ?_)
      have hag := hag.moved (hm3107.castL (by kernel_rfl))
      have hag5 := hag5.moved (hm3107.castL (by kernel_rfl))
      have hs2 := hs2.moved (hm3107.castL (by kernel_rfl))
      have hrow := hrow.moved (hm3107.castL (by kernel_rfl))
      have hpl := hpl.moved (hm3107.castL (by kernel_rfl))
      have hlk := hlk.moved (hm3107.castL (by kernel_rfl))
      refine sim_ord_index (.v (.slice (some ⟨gp, 0, none⟩) np cp)) np 1 (s : Int) 3 0 (by kernel_rfl) (by omega) (by omega) rfl hR3107 (by simp only [Nm.at_, hag5.at_ 3 (by omega), e3, Nat.add_zero, Nat.zero_add, Int.toNat_natCast, Nat.mul_one]) (fun hR3109 => ?_)
      refine sim_ordN 4 [] hR3109 (by kernel_rfl) trivial (fun ρ3110 w3110 hm3110 hR3110 => ?_)
      have hag := hag.moved (hm3110.castL (by kernel_rfl))
      have hag5 := hag5.moved (hm3110.castL (by kernel_rfl))
      have hs2 := hs2.moved (hm3110.castL (by kernel_rfl))
      have hrow := hrow.moved (hm3110.castL (by kernel_rfl))
      have hpl := hpl.moved (hm3110.castL (by kernel_rfl))
      have hlk := hlk.moved (hm3110.castL (by kernel_rfl))
      refine sim_ord_index (.v (.slice (some ⟨gl, ol, none⟩) ls.length cw)) ls.length 3 (i : Int) 2 0 (by kernel_rfl) (by omega) (by omega) rfl hR3110 (by simp only [Nm.at_, hag5.at_ 2 (by omega), e2, Nat.add_zero, Int.toNat_natCast]) (fun hR3111 => ?_)
      refine sim_ordN 2 [] hR3111 (by kernel_rfl) trivial (fun ρ3112 w3112 hm3112 hR3112 => ?_)
      have hag := hag.moved (hm3112.castL (by kernel_rfl))
      have hag5 := hag5.moved (hm3112.castL (by kernel_rfl))
      have hs2 := hs2.moved (hm3112.castL (by kernel_rfl))
      have hrow := hrow.moved (hm3112.castL (by kernel_rfl))
      have hpl := hpl.moved (hm3112.castL (by kernel_rfl))
      have hlk := hlk.moved (hm3112.castL (by kernel_rfl))
      refine sim_ord_index (.v (.slice (some ⟨gp, 0, none⟩) np cp)) np 1 (t : Int) 4 0 (by kernel_rfl) (by omega) (by omega) rfl hR3112 (by simp only [Nm.at_, hag5.at_ 4 (by omega), eG, Nat.add_zero, Nat.zero_add, Int.toNat_natCast, Nat.mul_one]) (fun hR3115 => ?_)
      refine sim_ordN 4 [] hR3115 (by kernel_rfl) trivial (fun ρ3116 w3116 hm3116 hR3116 => ?_)
      have hag := hag.moved (hm3116.castL (by kernel_rfl))
      have hag5 := hag5.moved (hm3116.castL (by kernel_rfl))
      have hs2 := hs2.moved (hm3116.castL (by kernel_rfl))
      have hrow := hrow.moved (hm3116.castL (by kernel_rfl))
      have hpl := hpl.moved (hm3116.castL (by kernel_rfl))
      have hlk := hlk.moved (hm3116.castL (by kernel_rfl))
      refine sim_knowO hR3116 215 ((↑p : Int) != (↑p : Int)) false (by kernel_rfl) (bne_self_eq_false _) (fun hR3117 => ?_)
      refine sim_ordN 2 [] hR3117 (by kernel_rfl) trivial (fun ρ3118 w3118 hm3118 hR3118 => ?_)
      have hag := hag.moved (hm3118.castL (by kernel_rfl))
      have hag5 := hag5.moved (hm3118.castL (by kernel_rfl))
      have hs2 := hs2.moved (hm3118.castL (by kernel_rfl))
      have hrow := hrow.moved (hm3118.castL (by kernel_rfl))
      have hpl := hpl.moved (hm3118.castL (by kernel_rfl))
      have hlk := hlk.moved (hm3118.castL (by kernel_rfl))
      refine sim_ord_index (.v (.slice (some ⟨gl, ol, none⟩) ls.length cw)) ls.length 3 (i : Int) 2 0 (by kernel_rfl) (by omega) (by omega) rfl hR3118 (by simp only [Nm.at_, hag5.at_ 2 (by omega), e2, Nat.add_zero, Int.toNat_natCast]) (fun hR3119 => ?_)
      refine sim_ordN 23 [] hR3119 (by kernel_rfl) trivial (fun ρ3120 w3120 hm3120 hR3120 => ?_)
      have hag := hag.moved (hm3120.castL (by kernel_rfl))
      have hag5 := hag5.moved (hm3120.castL (by kernel_rfl))
      have hs2 := hs2.moved (hm3120.castL (by kernel_rfl))
      have hrow := hrow.moved (hm3120.castL (by kernel_rfl))
      have hpl := hpl.moved (hm3120.castL (by kernel_rfl))
      have hlk := hlk.moved (hm3120.castL (by kernel_rfl))
      refine sim_ord_endR hR3120 (by kernel_rfl) (fun hR3121 => ?_)
      refine sim_run 8 [⟨37, 1, LI (IntKind.i64.wrap ((↑i : Int) + 1)), LI ((↑i : Int) + 1)⟩] (hR3121.cast (by kernel_rfl)) (by kernel_rfl) ⟨eqi (IntWalk.i64_in _ (by omega)), trivial⟩ (fun ρ3122 w3122 hm3122 hR3122 => ?_)
      have hag := hag.moved (hm3122.castL (by kernel_rfl))
      have hag5 := hag5.moved (hm3122.castL (by kernel_rfl))
      have hs2 := hs2.moved (hm3122.castL (by kernel_rfl))
      have hrow := hrow.moved (hm3122.castL (by kernel_rfl))
      have hpl := hpl.moved (hm3122.castL (by kernel_rfl))
      have hlk := hlk.moved (hm3122.castL (by kernel_rfl))
      
      exact sim_again (i + 1) (by kernel_rfl) (by show ls.length - (i + 1) < ls.length - i; omega) (by kernel_rfl) (by kernel_rfl) (by kernel_rfl) hag.ag (Rel.cast (by assumption) (by kernel_rfl)) (by kernel_rfl) (by kernel_rfl) ⟨hlt, hs2.cut hag rfl (by kernel_rfl), hrow.cut hag rfl (by kernel_rfl), hpl.cut hag rfl (by kernel_rfl), hlk.cut hag rfl (by kernel_rfl)⟩
    · have hlt2 := ord_before hxm hpo hro
      refine sim_run 8 [] (hRG.cast (by kernel_rfl)) (by kernel_rfl) trivial (fun ρ3200 w3200 hm3200 hR3200 => ?_)
      have hs2 := hs2.moved (hm3200.castL (by kernel_rfl))
      have hrow := hrow.moved (hm3200.castL (by kernel_rfl))
      have hpl := hpl.moved (hm3200.castL (by kernel_rfl))
      have hlk := hlk.moved (hm3200.castL (by kernel_rfl))
      have hag := hag.moved (hm3200.castL (by kernel_rfl))
      have hag5 := hag5.moved (hm3200.castL (by kernel_rfl))
      refine sim_know 187 (decide ((↑i : Int) < (↑ls.length : Int))) true (by kernel_rfl) (decide_eq_true (by omega)) ?_
      refine sim_run 5 [] (hR3200.cast (by kernel_rfl)) (by kernel_rfl) trivial (fun ρ3201 w3201 hm3201 hR3201 => ?_)
      have hs2 := hs2.moved (hm3201.castL (by kernel_rfl))
      have hrow := hrow.moved (hm3201.castL (by kernel_rfl))
      have hpl := hpl.moved (hm3201.castL (by kernel_rfl))
      have hlk := hlk.moved (hm3201.castL (by kernel_rfl))
      have hag := hag.moved (hm3201.castL (by kernel_rfl))
      have hag5 := hag5.moved (hm3201.castL (by kernel_rfl))
      refine sim_draw [] (by kernel_rfl) (by kernel_rfl) hR3201 (fun hR3202 => ?_)
      have hs2 := hs2.drew
      have hrow := hrow.drew
      have hpl := hpl.drew
      have hlk := hlk.drew
      refine sim_ordN 2 [] hR3202 (by kernel_rfl) trivial (fun ρ3203 w3203 hm3203 hR3203 => ?_)
      have hag := hag.moved (hm3203.castL (by kernel_rfl))
      have hag5 := hag5.moved (hm3203.castL (by kernel_rfl))
      have hs2 := hs2.moved (hm3203.castL (by kernel_rfl))
      have hrow := hrow.moved (hm3203.castL (by kernel_rfl))
      have hpl := hpl.moved (hm3203.castL (by kernel_rfl))
      have hlk := hlk.moved (hm3203.castL (by kernel_rfl))
      refine sim_ord_index (.v (.slice (some ⟨gl, ol, none⟩) ls.length cw)) ls.length 3 (i : Int) 2 0 (by kernel_rfl) (by omega) (by omega) rfl hR3203 (by simp only [Nm.at_, hag5.at_ 2 (by omega), e2, Nat.add_zero, Int.toNat_natCast]) (fun hR3204 => ?_)
      refine sim_ordN 25 [] hR3204 (by kernel_rfl) trivial (fun ρ3205 w3205 hm3205 hR3205 => ?_)
      have hag := hag.moved (hm3205.castL (by kernel_rfl))
      have hag5 := hag5.moved (hm3205.castL (by kernel_rfl))
      have hs2 := hs2.moved (hm3205.castL (by kernel_rfl))
      have hrow := hrow.moved (hm3205.castL (by kernel_rfl))
      have hpl := hpl.moved (hm3205.castL (by kernel_rfl))
      have hlk := hlk.moved (hm3205.castL (by kernel_rfl))
      refine sim_ord_index (.v (.slice (some ⟨gl, ol, none⟩) ls.length cw)) ls.length 3 (i : Int) 2 0 (by kernel_rfl) (by omega) (by omega) rfl hR3205 (by simp only [Nm.at_, hag5.at_ 2 (by omega), e2, Nat.add_zero, Int.toNat_natCast]) (fun hR3206 => ?_)
      refine sim_ordN 7 [] hR3206 (by kernel_rfl) trivial (fun ρ3207 w3207 hm3207 hR3207 => ?_)
      have hag := hag.moved (hm3207.castL (by kernel_rfl))
      have hag5 := hag5.moved (hm3207.castL (by kernel_rfl))
      have hs2 := hs2.moved (hm3207.castL (by kernel_rfl))
      have hrow := hrow.moved (hm3207.castL (by kernel_rfl))
      have hpl := hpl.moved (hm3207.castL (by kernel_rfl))
      have hlk := hlk.moved (hm3207.castL (by kernel_rfl))
      refine sim_ord_index (.v (.slice (some ⟨gl, ol, none⟩) ls.length cw)) ls.length 3 (i : Int) 2 0 (by kernel_rfl) (by omega) (by omega) rfl hR3207 (by simp only [Nm.at_, hag5.at_ 2 (by omega), e2, Nat.add_zero, Int.toNat_natCast]) (fun hR3208 => ?_)
      refine sim_ordN 2 [] hR3208 (by kernel_rfl) trivial (fun ρ3209 w3209 hm3209 hR3209 => ?_)
      have hag := hag.moved (hm3209.castL (by kernel_rfl))
      have hag5 := hag5.moved (hm3209.castL (by kernel_rfl))
      have hs2 := hs2.moved (hm3209.castL (by kernel_rfl))
      have hrow := hrow.moved (hm3209.castL (by kernel_rfl))
      have hpl := hpl.moved (hm3209.castL (by kernel_rfl))
      have hlk := hlk.moved (hm3209.castL (by kernel_rfl))
      refine sim_ord_index (.v (.slice (some ⟨gp, 0, none⟩) np cp)) np 1 (s : Int) 3 0 (by kernel_rfl) (by omega) (by omega) rfl hR3209 (by simp only [Nm.at_, hag5.at_ 3 (by omega), e3, Nat.add_zero, Nat.zero_add, Int.toNat_natCast, Nat.mul_one]) (fun hR3211 => ?_)
      refine sim_ordN 4 [] hR3211 (by kernel_rfl) trivial (fun ρ3212 w3212 hm3212 hR3212 => ?_)
      have hag := hag.moved (hm3212.castL (by kernel_rfl))
      have hag5 := hag5.moved (hm3212.castL (by kernel_rfl))
      have hs2 := hs2.moved (hm3212.castL (by kernel_rfl))
      have hrow := hrow.moved (hm3212.castL (by kernel_rfl))
      have hpl := hpl.moved (hm3212.castL (by kernel_rfl))
      have hlk := hlk.moved (hm3212.castL (by kernel_rfl))
      refine sim_ord_index (.v (.slice (some ⟨gl, ol, none⟩) ls.length cw)) ls.length 3 (i : Int) 2 0 (by kernel_rfl) (by omega) (by omega) rfl hR3212 (by simp only [Nm.at_, hag5.at_ 2 (by omega), e2, Nat.add_zero, Int.toNat_natCast]) (fun hR3213 => ?_)
      refine sim_ordN 2 [] hR3213 (by kernel_rfl) trivial (fun ρ3214 w3214 hm3214 hR3214 => ?_)
      have hag := hag.moved (hm3214.castL (by kernel_rfl))
      have hag5 := hag5.moved (hm3214.castL (by kernel_rfl))
      have hs2 := hs2.moved (hm3214.castL (by kernel_rfl))
      have hrow := hrow.moved (hm3214.castL (by kernel_rfl))
      have hpl := hpl.moved (hm3214.castL (by kernel_rfl))
      have hlk := hlk.moved (hm3214.castL (by kernel_rfl))
      refine sim_ord_index (.v (.slice (some ⟨gp, 0, none⟩) np cp)) np 1 (t : Int) 4 0 (by kernel_rfl) (by omega) (by omega) rfl hR3214 (by simp only [Nm.at_, hag5.at_ 4 (by omega), eG, Nat.add_zero, Nat.zero_add, Int.toNat_natCast, Nat.mul_one]) (fun hR3217 => ?_)
      refine sim_ordN 4 [] hR3217 (by kernel_rfl) trivial (fun ρ3218 w3218 hm3218 hR3218 => ?_)
      have hag := hag.moved (hm3218.castL (by kernel_rfl))
      have hag5 := hag5.moved (hm3218.castL (by kernel_rfl))
      have hs2 := hs2.moved (hm3218.castL (by kernel_rfl))
      have hrow := hrow.moved (hm3218.castL (by kernel_rfl))
      have hpl := hpl.moved (hm3218.castL (by kernel_rfl))
      have hlk := hlk.moved (hm3218.castL (by kernel_rfl))
      refine sim_ord_endR hR3218 (by kernel_rfl) (fun hR3219 => ?_)
      refine sim_know 241 (decide ((↑p : Int) ≥ (↑r : Int))) false (by kernel_rfl) (decide_eq_false (by omega)) ?_
      refine sim_run 8 [⟨37, 1, LI (IntKind.i64.wrap ((↑i : Int) + 1)), LI ((↑i : Int) + 1)⟩] (hR3219.cast (by kernel_rfl)) (by kernel_rfl) ⟨eqi (IntWalk.i64_in _ (by omega)), trivial⟩ (fun ρ3220 w3220 hm3220 hR3220 => ?_)
      have hag := hag.moved (hm3220.castL (by kernel_rfl))
      have hag5 := hag5.moved (hm3220.castL (by kernel_rfl))
      have hs2 := hs2.moved (hm3220.castL (by kernel_rfl))
      have hrow := hrow.moved (hm3220.castL (by kernel_rfl))
      have hpl := hpl.moved (hm3220.castL (by kernel_rfl))
      have hlk := hlk.moved (hm3220.castL (by kernel_rfl))
      
      exact sim_again (i + 1) (by kernel_rfl) (by show ls.length - (i + 1) < ls.length - i; omega) (by kernel_rfl) (by kernel_rfl) (by kernel_rfl) hag.ag (Rel.cast (by assumption) (by kernel_rfl)) (by kernel_rfl) (by kernel_rfl) ⟨hlt, hs2.cut hag rfl (by kernel_rfl), hrow.cut hag rfl (by kernel_rfl), hpl.cut hag rfl (by kernel_rfl), hlk.cut hag rfl (by kernel_rfl)⟩
  · refine sim_run 8 [] (hR2.cast (by kernel_rfl)) (by kernel_rfl) trivial (fun ρ3300 w3300 hm3300 hR3300 => ?_)
    have hs2 := hs2.moved (hm3300.castL (by kernel_rfl))
    have hrow := hrow.moved (hm3300.castL (by kernel_rfl))
    have hpl := hpl.moved (hm3300.castL (by kernel_rfl))
    have hlk := hlk.moved (hm3300.castL (by kernel_rfl))
    have hag := hag.moved (hm3300.castL (by kernel_rfl))
    refine sim_know 187 (decide ((↑i : Int) < (↑ls.length : Int))) false (by kernel_rfl) (decide_eq_false (by omega)) ?_
    refine sim_run 1 [] (hR3300.cast (by kernel_rfl)) (by kernel_rfl) trivial (fun ρ3301 w3301 hm3301 hR3301 => ?_)
    have hs2 := hs2.moved (hm3301.castL (by kernel_rfl))
    have hrow := hrow.moved (hm3301.castL (by kernel_rfl))
    have hpl := hpl.moved (hm3301.castL (by kernel_rfl))
    have hlk := hlk.moved (hm3301.castL (by kernel_rfl))
    have hag := hag.moved (hm3301.castL (by kernel_rfl))
    refine sim_leave (by kernel_rfl) ?_
    refine sim_run 3 [] (hR3301.cast (by kernel_rfl)) (by kernel_rfl) trivial (fun ρ3302 w3302 hm3302 hR3302 => ?_)
    have hs2 := hs2.moved (hm3302.castL (by kernel_rfl))
    have hrow := hrow.moved (hm3302.castL (by kernel_rfl))
    have hpl := hpl.moved (hm3302.castL (by kernel_rfl))
    have hlk := hlk.moved (hm3302.castL (by kernel_rfl))
    have hag := hag.moved (hm3302.castL (by kernel_rfl))
    
    have e1 := (hag.at_ 1 (by omega)).trans e1
    refine sim_to (regK Try.f4 40) (tmplJ Try.f4.ntmps 0 [(0, LI (N : Int)), (7, .ptr 1 0), (9, LB ok), (13, .v (.slice Lo xss.length co)), (14, .v (.slice (some ⟨gp, 0, none⟩) np cp))]) [gR q, gR q2] (by kernel_rfl) (by kernel_rfl) (by kernel_rfl) (fun d6 => ?_)
    exact ord_pos w0 q q2 u2 ls2 ok xss Lo co _ b3 B3 rfl hx hxx hGI2 hok N np cp bp gp pl hN hnp (fun j h1 h2 => by obtain ⟨p, h, _⟩ := hpos j h1 h2; exact ⟨p, h⟩) _ _ ((by assumption : Rel _ _ _ _ _).cast (by kernel_rfl)) (hs2.castR (by kernel_rfl)) (hrow.castR (by kernel_rfl)) (hpl.castR (by kernel_rfl)) e1 d6
end Go.Proofs.Ytnfgndapalkbcaa
