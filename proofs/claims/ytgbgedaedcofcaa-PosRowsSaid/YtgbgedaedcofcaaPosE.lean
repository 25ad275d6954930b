/-
  pos: Whole, Total.
-/
import Derived.Test.YtgbgedaedcofcaaPosD
import Derived.Test.YtgbgedaedcofcaaAcc
import Derived.Test.YtgbgedaedcofcaaArr
namespace Go.Proofs.Ytgbgedaedcofcaa
open Go Go.RowKit
attribute [local irreducible] run goO leaveK someK nextK nextT nextOT nextOD loopBody loopRest loopK fillJ tmplOf tmplJ mergeT At AtO drawOk ordOf gateOf callC callO topOp topO idxOf appOf storeOf clearOf sliceOf calleeOf calleeO topQ idxQ newRowOf resL stepOp seek

def sum3 (b : B3) : Int := b.1 + (b.2.1 + b.2.2)
theorem three_is64 {b : B3} (h : okB b) : ∀ x ∈ [b.1, b.2.1, b.2.2], IsI64 x := by
  obtain ⟨⟨a1, a2⟩, ⟨b1, b2⟩, c1, c2⟩ := h
  intro x hx
  simp only [List.mem_cons, List.not_mem_nil, or_false] at hx
  unfold IsI64
  rcases hx with rfl | rfl | rfl <;> omega
set_option maxRecDepth 100000 in
set_option maxHeartbeats 4000000 in
theorem whole_any (g : Nat) (m : Option Nat) (l : List (Ent Key B3)) (clock : Nat) (k : Key) (w : World) (hb : Blk w g 74 #[.map m]) (hM : MpO encK encB ρ0 [] w m l clock) (hok : ∀ e ∈ l, okB e.val) :
    Calls Try.prog 22 #[.pointer (some ⟨g, 0, none⟩), .agg #[.string k.1, .string k.2]] w fun e w' => e = .returned (.int .i64 (clampV (sum3 (getM l k)))) ∧ Below w.heap.size w w' := by
  have hg : w.cell? ⟨g, 0, none⟩ = some (.map m) := hb.cell 0
  obtain ⟨ρ, _, e0, hR⟩ := (Rel.start [] w ρ0).open_ rfl g 0 [.v (.map m)] rfl false (World.block_lt_of_cell? _ _ hg) (fun j v hv => by
    match j, hv with
    | 0, hv => injection hv with hv; rw [← hv]; exact hg) (fun h => by cases h) (fun n r hn => by simp at hn)
  have e0 : ρ 0 = (g, 0) := e0
  refine sim_enter Try.func22 ρ [.ptr 0 0, .agg [LS k.1, LS k.2]] [⟨[.v (.map m)], false⟩] (by kernel_rfl) (by simp only [denL, LV.den, Nm.at_, e0]) ?_
  have hR := hR.cast rfl
  have hM := hM.over (ρ := ρ) (r := ⟨[.v (.map m)], false⟩) hb e0
  obtain ⟨b, hv⟩ : ∃ b, getM l k = b := ⟨_, rfl⟩
  have hvo : okB b := hv ▸ getM_ok hok k
  rw [hv]
  refine sim_run 14 [] (hR.cast (by kernel_rfl)) (by kernel_rfl) trivial (fun ρ100 w100 hm100 hR100 => ?_)
  have hM := hM.moved (hm100.castL (by kernel_rfl))
  refine sim_drawF2 [(0, false), (1, false), (2, false), (3, false), (4, false)] (5, [(6, true), (7, true)]) (6, [(5, true), (7, true)]) (some 7) (by kernel_rfl) (by kernel_rfl) hR100 (fun hR101 => ?_) (fun hR101 => ?_)
  have hM := hM.drew
  refine sim_ordN 5 [] hR101 (by kernel_rfl) trivial (fun ρ102 w102 hm102 hR102 => ?_)
  have hM := hM.moved (hm102.castL (by kernel_rfl))
  refine sim_ord_look (enc := encK) (encV := encB) (mx := .v (Value.map m)) (kx := .agg [LS k.fst, LS k.snd]) (ok := false) k (.agg [LI b.1, LI b.2.1, LI b.2.2]) (by kernel_rfl) mp_ty kt_key zero_b3 hM rfl rfl hR102 (by rw [show (look k _).getD (0, 0, 0) = b from hv]; rfl) (fun hR103 => ?_)
  refine sim_ordN 2 [] hR103 (by kernel_rfl) trivial (fun ρ104 w104 hm104 hR104 => ?_)
  have hM := hM.moved (hm104.castL (by kernel_rfl))
  refine sim_ord_endR hR104 (by kernel_rfl) (fun hR105 => ?_)
  refine sim_run 6 [] hR105 (by kernel_rfl) trivial (fun ρ106 w106 hm106 hR106 => ?_)
  have hM := hM.moved (hm106.castL (by kernel_rfl))
  rotate_left
  have hM := hM.drew
  refine sim_ordN 6 [] hR101 (by kernel_rfl) trivial (fun ρ107 w107 hm107 hR107 => ?_)
  have hM := hM.moved (hm107.castL (by kernel_rfl))
  refine sim_ord_look (enc := encK) (encV := encB) (mx := .v (Value.map m)) (kx := .agg [LS k.fst, LS k.snd]) (ok := false) k (.agg [LI b.1, LI b.2.1, LI b.2.2]) (by kernel_rfl) mp_ty kt_key zero_b3 hM rfl rfl hR107 (by rw [show (look k _).getD (0, 0, 0) = b from hv]; rfl) (fun hR108 => ?_)
  refine sim_ordN 1 [] hR108 (by kernel_rfl) trivial (fun ρ109 w109 hm109 hR109 => ?_)
  have hM := hM.moved (hm109.castL (by kernel_rfl))
  refine sim_ord_endR hR109 (by kernel_rfl) (fun hR110 => ?_)
  refine sim_run 6 [] hR110 (by kernel_rfl) trivial (fun ρ111 w111 hm111 hR111 => ?_)
  have hM := hM.moved (hm111.castL (by kernel_rfl))
  rotate_left
  
  · refine sim_arr 2 0 3 (by kernel_rfl) ?_
    have hrd := (hR106).readsP (n := 2) (size := 1) (m := 3) (vs := ints [b.1, b.2.1, b.2.2]) (b := true) (by kernel_rfl) rfl
    refine sim_call 41 [.ptr 3 0, .slc 2 0 3 3] (by kernel_rfl) ?_
    refine (accAdd_any _ _ false _ 3 3 [b.1, b.2.1, b.2.2] _ ((hR106).at_cell 3 0 (LB false) (by kernel_rfl)) ((hR106).unfrozen (q := 3) (r := ⟨[LB false], true⟩) (by kernel_rfl) rfl (by show 0 < 1; omega)) _ hrd (three_is64 hvo) (by omega)).mono ?_
    rw [show sumI [b.1, b.2.1, b.2.2] = sum3 b from by simp [sumI, sum3]]
    rintro e w2 ⟨rfl, ho⟩
    have hR2 := (hR106).orAt (q := 3) (x := false) (by kernel_rfl) ho
    refine Back.of (LI (clampV (sum3 b))) hR2 rfl ?_
    refine sim_run 2 [] (hR2.cast (by kernel_rfl)) (by kernel_rfl) trivial (fun ρ200 w200 hm200 hR200 => ?_)
    refine sim_ret (LI (clampV (sum3 b))) hR200 (by kernel_rfl) (by kernel_rfl) ?_
    exact ⟨rfl, hR200.toBelow⟩
    
  · refine sim_arr 2 0 3 (by kernel_rfl) ?_
    have hrd := (hR111).readsP (n := 2) (size := 1) (m := 3) (vs := ints [b.1, b.2.1, b.2.2]) (b := true) (by kernel_rfl) rfl
    refine sim_call 41 [.ptr 3 0, .slc 2 0 3 3] (by kernel_rfl) ?_
    refine (accAdd_any _ _ false _ 3 3 [b.1, b.2.1, b.2.2] _ ((hR111).at_cell 3 0 (LB false) (by kernel_rfl)) ((hR111).unfrozen (q := 3) (r := ⟨[LB false], true⟩) (by kernel_rfl) rfl (by show 0 < 1; omega)) _ hrd (three_is64 hvo) (by omega)).mono ?_
    rw [show sumI [b.1, b.2.1, b.2.2] = sum3 b from by simp [sumI, sum3]]
    rintro e w2 ⟨rfl, ho⟩
    have hR2 := (hR111).orAt (q := 3) (x := false) (by kernel_rfl) ho
    refine Back.of (LI (clampV (sum3 b))) hR2 rfl ?_
    refine sim_run 2 [] (hR2.cast (by kernel_rfl)) (by kernel_rfl) trivial (fun ρ300 w300 hm300 hR300 => ?_)
    refine sim_ret (LI (clampV (sum3 b))) hR300 (by kernel_rfl) (by kernel_rfl) ?_
    exact ⟨rfl, hR300.toBelow⟩
    
end Go.Proofs.Ytgbgedaedcofcaa
