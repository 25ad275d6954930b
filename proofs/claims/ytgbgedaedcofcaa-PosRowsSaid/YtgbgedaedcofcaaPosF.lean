/-
  pos: Total.
-/
import Derived.Test.YtgbgedaedcofcaaPosE
namespace Go.Proofs.Ytgbgedaedcofcaa
open Go Go.RowKit
attribute [local irreducible] run goO leaveK someK nextK nextT nextOT nextOD loopBody loopRest loopK fillJ tmplOf tmplJ mergeT At AtO drawOk ordOf gateOf callC callO topOp topO idxOf appOf storeOf clearOf sliceOf calleeOf calleeO topQ idxQ newRowOf resL stepOp seek

def three (b : B3) : List Int := [b.1, b.2.1, b.2.2]
def allOf (l : List (Ent Key B3)) (ks : List Key) : List Int := ks.flatMap fun k => three (getM l k)
theorem Own.low {ρ : Nm} {rs : List Reg} {w : World} {b b' : Nat} {e : TypeId} {s : Nat} {v : Value} {n : Nat} {xs : List Value} (h : Own ρ rs w b e s v n xs) (hb : b' ≤ b) : Own ρ rs w b' e s v n xs :=
  ⟨⟨h.own.1, h.own.2.imp id (fun ⟨g, cap, cur, h1, h2, r⟩ => ⟨g, cap, cur, h1, Nat.le_trans hb h2, r⟩)⟩, h.far⟩
theorem allOf_len (l : List (Ent Key B3)) (ks : List Key) : (allOf l ks).length = 3 * ks.length := by
  induction ks with
  | nil => rfl
  | cons a ks ih =>
    show (three (getM l a) ++ allOf l ks).length = _
    rw [List.length_append, ih, List.length_cons]
    show 3 + _ = _
    omega
theorem allOf_is64 {l : List (Ent Key B3)} (hok : ∀ e ∈ l, okB e.val) (ks : List Key) : ∀ x ∈ allOf l ks, IsI64 x := by
  intro x hx
  obtain ⟨k, _, hk⟩ := List.mem_flatMap.1 hx
  exact three_is64 (getM_ok hok k) x hk
theorem allOf_step {l : List (Ent Key B3)} {ks : List Key} {k : Nat} {kk : Key} (h : ks[k]? = some kk) : allOf l (ks.take (k + 1)) = allOf l (ks.take k) ++ three (getM l kk) := by
  rw [List.take_add_one, h]
  simp [allOf]
theorem int_ty : RowTy Try.prog 82 3 1 8 := .of Try.underlying82 (by kernel_rfl) rfl
set_option maxRecDepth 100000 in
set_option maxHeartbeats 4000000 in
theorem total_any (g : Nat) (m : Option Nat) (l : List (Ent Key B3)) (clock : Nat) (asset : ByteArray) (w : World) (hb : Blk w g 74 #[.map m]) (hM : MpO encK encB ρ0 [] w m l clock) (hok : ∀ e ∈ l, okB e.val) (hlen : l.length ≤ 1000000) :
    Calls Try.prog 21 #[.pointer (some ⟨g, 0, none⟩), .string asset] w fun e w' => e = .returned (.int .i64 (clampV (sumI (allOf l (sortKs (pickKs [asset] l)))))) ∧ Below w.heap.size w w' := by
  have hg : w.cell? ⟨g, 0, none⟩ = some (.map m) := hb.cell 0
  obtain ⟨ρ, _, e0, hR⟩ := (Rel.start [] w ρ0).open_ rfl g 0 [.v (.map m)] rfl false (World.block_lt_of_cell? _ _ hg) (fun j v hv => by
    match j, hv with
    | 0, hv => injection hv with hv; rw [← hv]; exact hg) (fun h => by cases h) (fun n r hn => by simp at hn)
  have e0 : ρ 0 = (g, 0) := e0
  refine sim_enter Try.func21 ρ [.ptr 0 0, LS asset] [⟨[.v (.map m)], false⟩] (by kernel_rfl) (by simp only [denL, LV.den, Nm.at_, e0]) ?_
  have hR := hR.cast rfl
  have hM := hM.over (ρ := ρ) (r := ⟨[.v (.map m)], false⟩) hb e0
  have hag := hR.ag_ 1 (by kernel_rfl)
  refine sim_run 14 [] (hR.cast (by kernel_rfl)) (by kernel_rfl) trivial (fun ρ100 w100 hm100 hR100 => ?_)
  have hM := hM.moved (hm100.castL (by kernel_rfl))
  have hag := hag.moved (hm100.castL (by kernel_rfl))
  
  have hrd := hR100.readsP (n := 1) (size := 1) (m := 1) (vs := txtsV [asset]) (b := true) (by kernel_rfl) rfl
  have e100 : ρ100 0 = (g, 0) := (hag.at_ 0 (by omega)).trans e0
  have hb1 := hb.below hR100.toBelow hb.lt
  refine sim_call 18 [.ptr 0 0, .slc 1 0 1 1] (by kernel_rfl) ?_
  refine Calls.mono (show Calls _ _ _ _ (KeysN _ (sortKs (pickKs [asset] l))) from by
    simp only [denL, LV.den, Nm.at_, e100]
    exact keys_any g m l clock _ 1 1 _ [asset] _ hb1 hM.bare hrd (Nat.le_refl _) (by omega) hlen) ?_
  obtain ⟨ks, hks⟩ : ∃ ks, sortKs (pickKs [asset] l) = ks := ⟨_, rfl⟩
  rw [hks]
  rintro e2 w2 ⟨A2, cap2, rfl, hown2, hb2⟩
  have hR2 := hR100.below hb2
  have hM := hM.below hb2
  have hrow := Own.start hR100 hown2
  rw [List.flatMap_def] at hrow
  have hw2 : w100.heap.size ≤ w2.heap.size := hb2.size
  refine Back.of (.v (.slice A2 ks.length cap2)) hR2 rfl ?_
  refine sim_run 4 [] (hR2.cast (by kernel_rfl)) (by kernel_rfl) trivial (fun ρ200 w200 hm200 hR200 => ?_)
  have hag := hag.moved (hm200.castL (by kernel_rfl))
  have hM := hM.moved (hm200.castL (by kernel_rfl))
  have hrow := hrow.moved (hm200.castL (by kernel_rfl))
  
  have e200 : ρ200 0 = (g, 0) := (hag.at_ 0 (by omega)).trans e0
  have hgl : g < w.heap.size := hb.lt
  have hsz := hR200.keeps.size
  have hw1 := hR100.keeps.size
  have hlk : ks.length ≤ l.length := by rw [← hks, sortKs_len]; exact Nat.le_trans (pickKs_len _ _) (Nat.le_refl _)
  refine sim_loop (ι := Nat × Value × List Int) (T := []) (w0 := w) (0, .slice none 0 0, []) [0, 1, 4, 13, 14] (fun x => [(5, .v x.2.1), (15, LI x.1)]) (fun _ => [⟨[.v (.map m)], false⟩, ⟨[LS asset], true⟩])
    (fun x w1 => x.1 ≤ ks.length ∧ MpO encK encB ρ200 [⟨[.v (.map m)], false⟩, ⟨[LS asset], true⟩] w1 m l clock ∧ Own ρ200 [⟨[.v (.map m)], false⟩, ⟨[LS asset], true⟩] w1 w100.heap.size 24 2 (.slice A2 ks.length cap2) ks.length (ks.map encL).flatten ∧ x.2.2 = allOf l (ks.take x.1) ∧ ∃ B, w.heap.size ≤ B ∧ (∀ ga, (Value.slice A2 ks.length cap2).ownBlock = some ga → ga < B) ∧ Own ρ200 [⟨[.v (.map m)], false⟩, ⟨[LS asset], true⟩] w1 B 3 1 x.2.1 x.2.2.length (ints x.2.2))
    (fun x => ks.length - x.1) (by kernel_rfl) (by kernel_rfl) (hR200.cast (by kernel_rfl)) ⟨Nat.zero_le _, hM.castR (by kernel_rfl), hrow.castR (by kernel_rfl), rfl, w2.heap.size, by omega, fun ga hga => own_lt hown2 hga, ⟨World.ownsRow_nil _ _ _ _, fun g hg => by cases hg⟩⟩ ?_
  iterate 6 (try clear hM)
  iterate 6 (try clear hrow)
  iterate 6 (try clear hag)
  rintro ⟨k, vo, xs⟩ d w3 hR3 ⟨hk, hM, hrow, hxs, B, hwB, hka, hvo⟩
  dsimp only at hk hM hrow hxs hvo hka
  have hag := hR3.ag_ 2 (by kernel_rfl)
  by_cases hkl : k < ks.length
  · obtain ⟨kk, hkk⟩ : ∃ kk, ks[k]? = some kk := ⟨_, List.getElem?_eq_getElem hkl⟩
    obtain ⟨ga, oa, hA2, _, _⟩ := (Reads.of_own hrow.own).spot (by omega) (by omega)
    subst hA2
    refine sim_seeO (encL kk) k 2 (by kernel_rfl) (by rw [List.getElem?_map, hkk]; rfl) hrow (by intro y hy; obtain ⟨z, _, rfl⟩ := List.mem_map.1 hy; rfl) (by omega) hkl hR3 (by kernel_rfl) (fun ρ4 hm4 e4 hR4 => ?_)
    have hvo := hvo.low (Nat.succ_le_of_lt (hka ga rfl))
    have hga : _ ≤ ga := own_ge hrow.own rfl
    have hM := hM.moved hm4
    have hrow := hrow.moved hm4
    have hvo := hvo.moved hm4
    have hag := hag.moved hm4
    have hag3 := hR4.ag_ 3 (by kernel_rfl)
    obtain ⟨b, hv⟩ : ∃ b, getM l kk = b := ⟨_, rfl⟩
    have hxl := allOf_len l (ks.take k)
    rw [← hxs, List.length_take] at hxl
    refine sim_run 5 [] hR4 (by kernel_rfl) trivial (fun ρ300 w300 hm300 hR300 => ?_)
    have hM := hM.moved (hm300.castL (by kernel_rfl))
    have hrow := hrow.moved (hm300.castL (by kernel_rfl))
    have hvo := hvo.moved (hm300.castL (by kernel_rfl))
    have hag := hag.moved (hm300.castL (by kernel_rfl))
    have hag3 := hag3.moved (hm300.castL (by kernel_rfl))
    refine sim_know 16 (decide ((↑(k, vo, xs).fst : Int) < (↑ks.length : Int))) true (by kernel_rfl) (decide_eq_true (by omega)) ?_
    refine sim_run 6 [] (hR300.cast (by kernel_rfl)) (by kernel_rfl) trivial (fun ρ301 w301 hm301 hR301 => ?_)
    have hM := hM.moved (hm301.castL (by kernel_rfl))
    have hrow := hrow.moved (hm301.castL (by kernel_rfl))
    have hvo := hvo.moved (hm301.castL (by kernel_rfl))
    have hag := hag.moved (hm301.castL (by kernel_rfl))
    have hag3 := hag3.moved (hm301.castL (by kernel_rfl))
    refine sim_place (.v (.slice (some ⟨ga, oa, none⟩) ks.length cap2)) ks.length 2 k 2 0 (by kernel_rfl) (by omega) (by omega) rfl (by simp only [Nm.at_, hag3.at_ 2 (by omega), e4, Int.toNat_natCast, Nat.add_zero]) ?_
    refine sim_run 5 [] (hR301.cast (by kernel_rfl)) (by kernel_rfl) trivial (fun ρ303 w303 hm303 hR303 => ?_)
    have hM := hM.moved (hm303.castL (by kernel_rfl))
    have hrow := hrow.moved (hm303.castL (by kernel_rfl))
    have hvo := hvo.moved (hm303.castL (by kernel_rfl))
    have hag := hag.moved (hm303.castL (by kernel_rfl))
    have hag3 := hag3.moved (hm303.castL (by kernel_rfl))
    refine sim_drawF2 [(0, false), (1, false), (2, false), (3, false), (4, false)] (5, [(6, true), (7, true)]) (6, [(5, true), (7, true)]) (some 7) (by kernel_rfl) (by kernel_rfl) hR303 (fun hR304 => ?_) (fun hR304 => ?_)
    have hM := hM.drew
    have hrow := hrow.drew
    have hvo := hvo.drew
    refine sim_ordN 5 [] hR304 (by kernel_rfl) trivial (fun ρ305 w305 hm305 hR305 => ?_)
    have hag := hag.moved (hm305.castL (by kernel_rfl))
    have hag3 := hag3.moved (hm305.castL (by kernel_rfl))
    have hM := hM.moved (hm305.castL (by kernel_rfl))
    have hrow := hrow.moved (hm305.castL (by kernel_rfl))
    have hvo := hvo.moved (hm305.castL (by kernel_rfl))
    refine sim_ord_look (enc := encK) (encV := encB) (mx := .v (Value.map m)) (kx := .agg [LS kk.fst, LS kk.snd]) (ok := false) kk (.agg [LI b.1, LI b.2.1, LI b.2.2]) (by kernel_rfl) mp_ty kt_key zero_b3 hM rfl rfl hR305 (by rw [show (look kk _).getD (0, 0, 0) = b from hv]; rfl) (fun hR306 => ?_)
    refine sim_ordN 2 [] hR306 (by kernel_rfl) trivial (fun ρ307 w307 hm307 hR307 => ?_)
    have hag := hag.moved (hm307.castL (by kernel_rfl))
    have hag3 := hag3.moved (hm307.castL (by kernel_rfl))
    have hM := hM.moved (hm307.castL (by kernel_rfl))
    have hrow := hrow.moved (hm307.castL (by kernel_rfl))
    have hvo := hvo.moved (hm307.castL (by kernel_rfl))
    refine sim_ord_endR hR307 (by kernel_rfl) (fun hR308 => ?_)
    refine sim_run 2 [] hR308 (by kernel_rfl) trivial (fun ρ309 w309 hm309 hR309 => ?_)
    have hag := hag.moved (hm309.castL (by kernel_rfl))
    have hag3 := hag3.moved (hm309.castL (by kernel_rfl))
    have hM := hM.moved (hm309.castL (by kernel_rfl))
    have hrow := hrow.moved (hm309.castL (by kernel_rfl))
    have hvo := hvo.moved (hm309.castL (by kernel_rfl))
    rotate_left
    have hM := hM.drew
    have hrow := hrow.drew
    have hvo := hvo.drew
    refine sim_ordN 6 [] hR304 (by kernel_rfl) trivial (fun ρ310 w310 hm310 hR310 => ?_)
    have hag := hag.moved (hm310.castL (by kernel_rfl))
    have hag3 := hag3.moved (hm310.castL (by kernel_rfl))
    have hM := hM.moved (hm310.castL (by kernel_rfl))
    have hrow := hrow.moved (hm310.castL (by kernel_rfl))
    have hvo := hvo.moved (hm310.castL (by kernel_rfl))
    refine sim_ord_look (enc := encK) (encV := encB) (mx := .v (Value.map m)) (kx := .agg [LS kk.fst, LS kk.snd]) (ok := false) kk (.agg [LI b.1, LI b.2.1, LI b.2.2]) (by kernel_rfl) mp_ty kt_key zero_b3 hM rfl rfl hR310 (by rw [show (look kk _).getD (0, 0, 0) = b from hv]; rfl) (fun hR311 => ?_)
    refine sim_ordN 1 [] hR311 (by kernel_rfl) trivial (fun ρ312 w312 hm312 hR312 => ?_)
    have hag := hag.moved (hm312.castL (by kernel_rfl))
    have hag3 := hag3.moved (hm312.castL (by kernel_rfl))
    have hM := hM.moved (hm312.castL (by kernel_rfl))
    have hrow := hrow.moved (hm312.castL (by kernel_rfl))
    have hvo := hvo.moved (hm312.castL (by kernel_rfl))
    refine sim_ord_endR hR312 (by kernel_rfl) (fun hR313 => ?_)
    refine sim_run 2 [] hR313 (by kernel_rfl) trivial (fun ρ314 w314 hm314 hR314 => ?_)
    have hag := hag.moved (hm314.castL (by kernel_rfl))
    have hag3 := hag3.moved (hm314.castL (by kernel_rfl))
    have hM := hM.moved (hm314.castL (by kernel_rfl))
    have hrow := hrow.moved (hm314.castL (by kernel_rfl))
    have hvo := hvo.moved (hm314.castL (by kernel_rfl))
    rotate_left
    
    · refine sim_arr 4 0 3 (by kernel_rfl) ?_
      have hgs : ga < _ := own_lt hrow.own rfl
      refine sim_appendO 82 vo (.slc 4 0 3 3) (by kernel_rfl) (hR309.cast (by kernel_rfl)) int_ty (hvo.castR (by kernel_rfl)) 4 3 3 rfl (three b |>.map LI) (by kernel_rfl) rfl (by kernel_rfl) (by unfold maxLen; omega) (by omega) (by omega) (fun g' hg' => .inr (by have := own_ge hvo.own hg'; omega)) [0, 2] (by kernel_rfl) (fun k0 hk0 g' hg' => by
        have hgg := own_ge hvo.own hg'
        simp only [List.mem_cons, List.not_mem_nil, or_false] at hk0
        rcases hk0 with rfl | rfl
        · rw [hag.at_ 0 (by omega), e200]
          show g ≠ g'
          omega
        · rw [hag3.at_ 2 (by omega), e4]
          show ga ≠ g'
          omega) (fun v' w12 hvo' hgr hR12 => ?_)
      have hM := hM.grownO hvo.own hgr
      have hrow := hrow.grown hgr (fun g' hg' e => by
        have := own_ge hvo.own e
        have hg' : ga = g' := Option.some.inj hg'
        omega)
      have hvo := hvo'
      clear hvo'
      refine sim_run 7 [⟨7, 0, LI (IntKind.i64.wrap ((↑(k, vo, xs).fst : Int) + 1)), LI ((↑(k, vo, xs).fst : Int) + 1)⟩] (hR12.cast (by kernel_rfl)) (by kernel_rfl) ⟨eqi (IntWalk.i64_in _ (by omega)), trivial⟩ (fun ρ600 w600 hm600 hR600 => ?_)
      have hag := hag.moved (hm600.castL (by kernel_rfl))
      have hag3 := hag3.moved (hm600.castL (by kernel_rfl))
      have hM := hM.moved (hm600.castL (by kernel_rfl))
      have hrow := hrow.moved (hm600.castL (by kernel_rfl))
      have hvo := hvo.moved (hm600.castL (by kernel_rfl))
      
      exact sim_again (k + 1, v', xs ++ three b) (by kernel_rfl) (by show ks.length - (k + 1) < ks.length - k; omega) (by kernel_rfl) (by kernel_rfl) (by kernel_rfl) hag.ag (Rel.cast (by assumption) (by kernel_rfl)) (by kernel_rfl) (by kernel_rfl) ⟨by show k + 1 ≤ ks.length; omega, hM.cut hag (by kernel_rfl) (by kernel_rfl), hrow.cut hag (by kernel_rfl) (by kernel_rfl), by show xs ++ three b = _; rw [allOf_step hkk, hv, hxs], ga + 1, by omega, fun g' hg' => by have hg' : ga = g' := Option.some.inj hg'; omega, by
        show Own _ _ _ _ _ _ v' (xs ++ three b).length (ints (xs ++ three b))
        rw [List.length_append, show ints (xs ++ three b) = ints xs ++ ints (three b) from List.map_append]
        exact hvo.cut hag (by kernel_rfl) (by kernel_rfl)⟩
    · refine sim_arr 4 0 3 (by kernel_rfl) ?_
      have hgs : ga < _ := own_lt hrow.own rfl
      refine sim_appendO 82 vo (.slc 4 0 3 3) (by kernel_rfl) (hR314.cast (by kernel_rfl)) int_ty (hvo.castR (by kernel_rfl)) 4 3 3 rfl (three b |>.map LI) (by kernel_rfl) rfl (by kernel_rfl) (by unfold maxLen; omega) (by omega) (by omega) (fun g' hg' => .inr (by have := own_ge hvo.own hg'; omega)) [0, 2] (by kernel_rfl) (fun k0 hk0 g' hg' => by
        have hgg := own_ge hvo.own hg'
        simp only [List.mem_cons, List.not_mem_nil, or_false] at hk0
        rcases hk0 with rfl | rfl
        · rw [hag.at_ 0 (by omega), e200]
          show g ≠ g'
          omega
        · rw [hag3.at_ 2 (by omega), e4]
          show ga ≠ g'
          omega) (fun v' w12 hvo' hgr hR12 => ?_)
      have hM := hM.grownO hvo.own hgr
      have hrow := hrow.grown hgr (fun g' hg' e => by
        have := own_ge hvo.own e
        have hg' : ga = g' := Option.some.inj hg'
        omega)
      have hvo := hvo'
      clear hvo'
      refine sim_run 7 [⟨7, 0, LI (IntKind.i64.wrap ((↑(k, vo, xs).fst : Int) + 1)), LI ((↑(k, vo, xs).fst : Int) + 1)⟩] (hR12.cast (by kernel_rfl)) (by kernel_rfl) ⟨eqi (IntWalk.i64_in _ (by omega)), trivial⟩ (fun ρ700 w700 hm700 hR700 => ?_)
      have hag := hag.moved (hm700.castL (by kernel_rfl))
      have hag3 := hag3.moved (hm700.castL (by kernel_rfl))
      have hM := hM.moved (hm700.castL (by kernel_rfl))
      have hrow := hrow.moved (hm700.castL (by kernel_rfl))
      have hvo := hvo.moved (hm700.castL (by kernel_rfl))
      
      exact sim_again (k + 1, v', xs ++ three b) (by kernel_rfl) (by show ks.length - (k + 1) < ks.length - k; omega) (by kernel_rfl) (by kernel_rfl) (by kernel_rfl) hag.ag (Rel.cast (by assumption) (by kernel_rfl)) (by kernel_rfl) (by kernel_rfl) ⟨by show k + 1 ≤ ks.length; omega, hM.cut hag (by kernel_rfl) (by kernel_rfl), hrow.cut hag (by kernel_rfl) (by kernel_rfl), by show xs ++ three b = _; rw [allOf_step hkk, hv, hxs], ga + 1, by omega, fun g' hg' => by have hg' : ga = g' := Option.some.inj hg'; omega, by
        show Own _ _ _ _ _ _ v' (xs ++ three b).length (ints (xs ++ three b))
        rw [List.length_append, show ints (xs ++ three b) = ints xs ++ ints (three b) from List.map_append]
        exact hvo.cut hag (by kernel_rfl) (by kernel_rfl)⟩
  · have hke : k = ks.length := by omega
    subst hke
    obtain ⟨Av, cv, hve⟩ : ∃ Av cv, vo = .slice Av xs.length cv := by
      rcases hvo.own.2 with ⟨h1, h2⟩ | ⟨g', cap, cur, h1, _⟩
      · exact ⟨none, 0, by rw [h1, h2]⟩
      · exact ⟨_, cap, h1⟩
    subst hve
    refine sim_run 5 [] (hR3.cast (by kernel_rfl)) (by kernel_rfl) trivial (fun ρ400 w400 hm400 hR400 => ?_)
    have hM := hM.moved (hm400.castL (by kernel_rfl))
    have hrow := hrow.moved (hm400.castL (by kernel_rfl))
    have hag := hag.moved (hm400.castL (by kernel_rfl))
    have hvo := hvo.moved (hm400.castL (by kernel_rfl))
    refine sim_know 16 (decide ((↑(ks.length, Value.slice Av xs.length cv, xs).fst : Int) < (↑ks.length : Int))) false (by kernel_rfl) (decide_eq_false (by omega)) ?_
    refine sim_run 1 [] (hR400.cast (by kernel_rfl)) (by kernel_rfl) trivial (fun ρ401 w401 hm401 hR401 => ?_)
    have hM := hM.moved (hm401.castL (by kernel_rfl))
    have hrow := hrow.moved (hm401.castL (by kernel_rfl))
    have hag := hag.moved (hm401.castL (by kernel_rfl))
    have hvo := hvo.moved (hm401.castL (by kernel_rfl))
    refine sim_leave (by kernel_rfl) ?_
    refine sim_run 7 [] (hR401.cast (by kernel_rfl)) (by kernel_rfl) trivial (fun ρ402 w402 hm402 hR402 => ?_)
    have hM := hM.moved (hm402.castL (by kernel_rfl))
    have hrow := hrow.moved (hm402.castL (by kernel_rfl))
    have hag := hag.moved (hm402.castL (by kernel_rfl))
    have hvo := hvo.moved (hm402.castL (by kernel_rfl))
    
    rw [List.take_length] at hxs
    have hxl := allOf_len l ks
    refine sim_call 41 [.ptr 2 0, .v (.slice Av xs.length cv)] (by kernel_rfl) ?_
    refine (accAdd_any _ _ false Av xs.length cv xs _ ((hR402).at_cell 2 0 (LB false) (by kernel_rfl)) ((hR402).unfrozen (q := 2) (r := ⟨[LB false], true⟩) (by kernel_rfl) rfl (by show 0 < 1; omega)) _ hvo.reads (hxs ▸ allOf_is64 hok ks) (by rw [hxs]; omega)).mono ?_
    rw [hxs]
    rintro e w5 ⟨rfl, ho⟩
    have hR5 := (hR402).orAt (q := 2) (x := false) (by kernel_rfl) ho
    refine Back.of (LI (clampV (sumI (allOf l ks)))) hR5 rfl ?_
    refine sim_run 2 [] (hR5.cast (by kernel_rfl)) (by kernel_rfl) trivial (fun ρ500 w500 hm500 hR500 => ?_)
    refine sim_ret (LI (clampV (sumI (allOf l ks)))) hR500 (by kernel_rfl) (by kernel_rfl) ?_
    exact ⟨rfl, hR500.toBelow⟩
    
end Go.Proofs.Ytgbgedaedcofcaa
