/-
  pos: Part; name.Compare, Before.
-/
import Derived.Test.YtgbgedaedcofcaaPosB
namespace Go.Proofs.Ytgbgedaedcofcaa
open Go Go.RowKit
attribute [local irreducible] run goO leaveK someK nextK nextT nextOT nextOD loopBody loopRest loopK fillJ tmplOf tmplJ mergeT At AtO drawOk ordOf gateOf callC callO topOp topO idxOf appOf storeOf clearOf sliceOf calleeOf calleeO topQ idxQ newRowOf resL stepOp seek

theorem partB_out {sub : Int} : (0 ≤ sub ∧ sub < 3) → sub = 0 ∨ sub = 1 ∨ sub = 2 := by omega
def partM (b : B3) (sub : Int) : Int := if 0 ≤ sub ∧ sub < 3 then partB b sub else 0
set_option maxRecDepth 100000 in
theorem part_any (g : Nat) (m : Option Nat) (l : List (Ent Key B3)) (clock : Nat) (k : Key) (sub : Int) (w : World) (hb : Blk w g 74 #[.map m]) (hM : MpO encK encB ρ0 [] w m l clock) :
    Calls Try.prog 19 #[.pointer (some ⟨g, 0, none⟩), .agg #[.string k.1, .string k.2], .int .i64 sub] w fun e w' => e = .returned (.int .i64 (partM (getM l k) sub)) ∧ Below w.heap.size w w' := by
  have hg : w.cell? ⟨g, 0, none⟩ = some (.map m) := hb.cell 0
  obtain ⟨ρ, _, e0, hR⟩ := (Rel.start [] w ρ0).open_ rfl g 0 [.v (.map m)] rfl false (World.block_lt_of_cell? _ _ hg) (fun j v hv => by
    match j, hv with
    | 0, hv => injection hv with hv; rw [← hv]; exact hg) (fun h => by cases h) (fun n r hn => by simp at hn)
  have e0 : ρ 0 = (g, 0) := e0
  refine sim_enter Try.func19 ρ [.ptr 0 0, .agg [LS k.1, LS k.2], LI sub] [⟨[.v (.map m)], false⟩] (by kernel_rfl) (by simp only [denL, LV.den, Nm.at_, e0]) ?_
  have hR := hR.cast rfl
  have hM := hM.over (ρ := ρ) (r := ⟨[.v (.map m)], false⟩) hb e0
  obtain ⟨b, hv⟩ : ∃ b, getM l k = b := ⟨_, rfl⟩
  rw [hv]
  by_cases hs : 0 ≤ sub ∧ sub < 3
  · obtain ⟨s1, s2⟩ := hs
    have e1 : partM b sub = partB b sub := by unfold partM; rw [if_pos ⟨s1, s2⟩]
    rw [e1]
    rcases partB_out ⟨s1, s2⟩ with rfl | rfl | rfl
    · refine sim_run 12 [] (hR.cast (by kernel_rfl)) (by kernel_rfl) trivial (fun ρ100 w100 hm100 hR100 => ?_)
      have hM := hM.moved (hm100.castL (by kernel_rfl))
      refine sim_call 36 [LI 0] (by kernel_rfl) ?_
      refine Calls.mono (isPart_any _ _) ?_
      rintro e101 w101 ⟨rfl, hb101⟩
      have hR101 := hR100.below hb101
      have hM := hM.below hb101
      refine Back.of (LB (decide (0 ≤ 0) && decide (0 < 3))) hR101 rfl ?_
      refine sim_run 6 [] (hR101.cast (by kernel_rfl)) (by kernel_rfl) trivial (fun ρ102 w102 hm102 hR102 => ?_)
      have hM := hM.moved (hm102.castL (by kernel_rfl))
      refine sim_draw [] (by kernel_rfl) (by kernel_rfl) hR102 (fun hR103 => ?_)
      have hM := hM.drew
      refine sim_ordN 6 [] hR103 (by kernel_rfl) trivial (fun ρ104 w104 hm104 hR104 => ?_)
      have hM := hM.moved (hm104.castL (by kernel_rfl))
      refine sim_ord_look (enc := encK) (encV := encB) (mx := .v (Value.map m)) (kx := .agg [LS k.fst, LS k.snd]) (ok := false) k (.agg [LI b.1, LI b.2.1, LI b.2.2]) (by kernel_rfl) mp_ty kt_key zero_b3 hM rfl rfl hR104 (by rw [show (look k _).getD (0, 0, 0) = b from hv]; rfl) (fun hR105 => ?_)
      refine sim_ordN 2 [] hR105 (by kernel_rfl) trivial (fun ρ106 w106 hm106 hR106 => ?_)
      have hM := hM.moved (hm106.castL (by kernel_rfl))
      refine sim_ord_endR hR106 (by kernel_rfl) (fun hR107 => ?_)
      refine sim_ret (LI b.fst) hR107 (by kernel_rfl) (by kernel_rfl) ?_
      exact ⟨rfl, hR107.toBelow⟩
      
    · refine sim_run 12 [] (hR.cast (by kernel_rfl)) (by kernel_rfl) trivial (fun ρ200 w200 hm200 hR200 => ?_)
      have hM := hM.moved (hm200.castL (by kernel_rfl))
      refine sim_call 36 [LI 1] (by kernel_rfl) ?_
      refine Calls.mono (isPart_any _ _) ?_
      rintro e201 w201 ⟨rfl, hb201⟩
      have hR201 := hR200.below hb201
      have hM := hM.below hb201
      refine Back.of (LB (decide (0 ≤ 1) && decide (1 < 3))) hR201 rfl ?_
      refine sim_run 6 [] (hR201.cast (by kernel_rfl)) (by kernel_rfl) trivial (fun ρ202 w202 hm202 hR202 => ?_)
      have hM := hM.moved (hm202.castL (by kernel_rfl))
      refine sim_draw [] (by kernel_rfl) (by kernel_rfl) hR202 (fun hR203 => ?_)
      have hM := hM.drew
      refine sim_ordN 6 [] hR203 (by kernel_rfl) trivial (fun ρ204 w204 hm204 hR204 => ?_)
      have hM := hM.moved (hm204.castL (by kernel_rfl))
      refine sim_ord_look (enc := encK) (encV := encB) (mx := .v (Value.map m)) (kx := .agg [LS k.fst, LS k.snd]) (ok := false) k (.agg [LI b.1, LI b.2.1, LI b.2.2]) (by kernel_rfl) mp_ty kt_key zero_b3 hM rfl rfl hR204 (by rw [show (look k _).getD (0, 0, 0) = b from hv]; rfl) (fun hR205 => ?_)
      refine sim_ordN 2 [] hR205 (by kernel_rfl) trivial (fun ρ206 w206 hm206 hR206 => ?_)
      have hM := hM.moved (hm206.castL (by kernel_rfl))
      refine sim_ord_endR hR206 (by kernel_rfl) (fun hR207 => ?_)
      refine sim_ret (LI b.snd.fst) hR207 (by kernel_rfl) (by kernel_rfl) ?_
      exact ⟨rfl, hR207.toBelow⟩
      
    · refine sim_run 12 [] (hR.cast (by kernel_rfl)) (by kernel_rfl) trivial (fun ρ300 w300 hm300 hR300 => ?_)
      have hM := hM.moved (hm300.castL (by kernel_rfl))
      refine sim_call 36 [LI 2] (by kernel_rfl) ?_
      refine Calls.mono (isPart_any _ _) ?_
      rintro e301 w301 ⟨rfl, hb301⟩
      have hR301 := hR300.below hb301
      have hM := hM.below hb301
      refine Back.of (LB (decide (0 ≤ 2) && decide (2 < 3))) hR301 rfl ?_
      refine sim_run 6 [] (hR301.cast (by kernel_rfl)) (by kernel_rfl) trivial (fun ρ302 w302 hm302 hR302 => ?_)
      have hM := hM.moved (hm302.castL (by kernel_rfl))
      refine sim_draw [] (by kernel_rfl) (by kernel_rfl) hR302 (fun hR303 => ?_)
      have hM := hM.drew
      refine sim_ordN 6 [] hR303 (by kernel_rfl) trivial (fun ρ304 w304 hm304 hR304 => ?_)
      have hM := hM.moved (hm304.castL (by kernel_rfl))
      refine sim_ord_look (enc := encK) (encV := encB) (mx := .v (Value.map m)) (kx := .agg [LS k.fst, LS k.snd]) (ok := false) k (.agg [LI b.1, LI b.2.1, LI b.2.2]) (by kernel_rfl) mp_ty kt_key zero_b3 hM rfl rfl hR304 (by rw [show (look k _).getD (0, 0, 0) = b from hv]; rfl) (fun hR305 => ?_)
      refine sim_ordN 2 [] hR305 (by kernel_rfl) trivial (fun ρ306 w306 hm306 hR306 => ?_)
      have hM := hM.moved (hm306.castL (by kernel_rfl))
      refine sim_ord_endR hR306 (by kernel_rfl) (fun hR307 => ?_)
      refine sim_ret (LI b.snd.snd) hR307 (by kernel_rfl) (by kernel_rfl) ?_
      exact ⟨rfl, hR307.toBelow⟩
      
  · have e1 : partM b sub = 0 := by unfold partM; rw [if_neg hs]
    rw [e1]
    have e2 : (decide (0 ≤ sub) && decide (sub < 3)) = false := by simp; omega
    refine sim_run 12 [] (hR.cast (by kernel_rfl)) (by kernel_rfl) trivial (fun ρ400 w400 hm400 hR400 => ?_)
    have hM := hM.moved (hm400.castL (by kernel_rfl))
    refine sim_call 36 [LI sub] (by kernel_rfl) ?_
    refine Calls.mono (isPart_any _ _) ?_
    rintro e401 w401 ⟨rfl, hb401⟩
    have hR401 := hR400.below hb401
    have hM := hM.below hb401
    refine Back.of (LB (decide (0 ≤ sub) && decide (sub < 3))) hR401 rfl ?_
    refine sim_run 3 [] (hR401.cast (by kernel_rfl)) (by kernel_rfl) trivial (fun ρ402 w402 hm402 hR402 => ?_)
    have hM := hM.moved (hm402.castL (by kernel_rfl))
    refine sim_know 13 (!(decide (0 ≤ sub) && decide (sub < 3))) true (by kernel_rfl) (by simp; omega) ?_
    refine sim_run 5 [] (hR402.cast (by kernel_rfl)) (by kernel_rfl) trivial (fun ρ403 w403 hm403 hR403 => ?_)
    have hM := hM.moved (hm403.castL (by kernel_rfl))
    refine sim_ret (LI 0) hR403 (by kernel_rfl) (by kernel_rfl) ?_
    exact ⟨rfl, hR403.toBelow⟩
    
theorem Rel.rowW {T : List Nat} {w0 : World} {ρ : Nm} {rs : List Reg} {w : World} {g : Nat} {t : TypeId} {cur : List Value} (_ : Rel T w0 ρ rs w) (h : Blk w g t cur.toArray) : RowV ρ rs w g t cur := .start h ρ rs
theorem box_cell1 {T : List Nat} {w0 : World} {ρ ρb : Nm} {rs : List Reg} {w : World} {g N0 : Nat} {t : TypeId} {cur : List Value} {u : Value} (h : RowV ρ rs w g t cur) (hR : Rel T w0 ρ rs w) (hag : Ag N0 ρb ρ rs) (hn : rs[0]? = some ⟨[.v u], true⟩) (e0 : ρb 0 = (g, 0)) (hl : 1 = cur.length) (hN : 0 < N0 := by omega) : Blk w g t #[u] := h.full hR hag hn e0 hl
theorem new_any (w : World) : Calls Try.prog 14 #[] w fun e w' => ∃ g, e = .returned (.pointer (some ⟨g, 0, none⟩)) ∧ w.heap.size ≤ g ∧ Blk w' g 74 #[.map none] ∧ Below w.heap.size w w' := by
  refine sim_enter Try.func14 ρ0 [] [] (by kernel_rfl) rfl ?_
  have hR := Rel.start [] w ρ0
  refine sim_run 7 [] (hR.cast (by kernel_rfl)) (by kernel_rfl) trivial (fun ρ500 w500 hm500 hR500 => ?_)
  
  refine sim_box (e := 74) (x := .agg [.v (.map none)]) 0 (by kernel_rfl) (by kernel_rfl) hR500 (by kernel_rfl) (fun ρ2 w2 hm2 e2 hR2 hb2 => ?_)
  have hag := hR2.ag_ 1 (by kernel_rfl)
  have hbox := hR2.rowW (cur := [.map none]) hb2
  refine sim_run 2 [] (hR2.cast (by kernel_rfl)) (by kernel_rfl) trivial (fun ρ600 w600 hm600 hR600 => ?_)
  have hag := hag.moved (hm600.castL (by kernel_rfl))
  have hbox := hbox.moved (hm600.castL (by kernel_rfl))
  refine sim_ret (.ptr 0 0) hR600 (by kernel_rfl) (by kernel_rfl) ?_
  
  have hsz := hR500.keeps.size
  exact ⟨w500.heap.size, by simp only [LV.den, Nm.at_, hag.at_ 0 (by omega), e2, Nat.add_zero], hsz, box_cell1 hbox (by assumption : Rel _ _ _ _ _) hag (by kernel_rfl) e2 rfl, ((by assumption : Rel _ _ _ _ _)).toBelow⟩
end Go.Proofs.Ytgbgedaedcofcaa
