/-
  book: Cancel.
-/
import Derived.Test.YtodjhkmbgennaaaBookF
namespace Go.Proofs.Ytodjhkmbgennaaa
open Go Go.RowKit
attribute [local irreducible] run goO goN ordGoN eqlOf eqlOper eqlOfO cellL leaveK someK nextK nextT nextOT nextOD loopBody loopRest loopK fillJ tmplOf tmplJ mergeT At AtO drawOk ordOf gateOf callC callO topOp topO idxOf appOf storeOf clearOf sliceOf calleeOf calleeO topQ idxQ newRowOf resL stepOp seek

set_option maxRecDepth 100000 in
theorem cancel_slc (g h len cap : Nat) (xs : List In) (rest : List Value) (party : ByteArray) (id : Int) (hid : Is64 id) (hm : Is64 (atI xs id).mate) (w : World) (hs : BkS w g h len cap xs rest) :
    Calls Try.prog 25 #[.pointer (some ⟨g, 0, none⟩), .string party, .int .i64 id] w (BkPost w h rest (cancelM xs party id).1 (cancelM xs party id).2) := by
  have hl := hs.len
  have hne := hs.ne
  obtain ⟨ρ, e0, hag, hR, hrow⟩ := book_start hs
  refine sim_enter Try.func25 ρ [.ptr 0 0, LS party, LI id] [⟨[.v (.slice (some ⟨h, 0, none⟩) len cap)], false⟩] (by kernel_rfl) (by simp only [denL, LV.den, Nm.at_, e0]) ?_
  unfold BkPost cancelM
  refine sim_run 10 [] hR (by kernel_rfl) trivial (fun ρ100 w100 hm100 hR100 => ?_)
  have hag := hag.moved hm100
  have hrow := hrow.moved hm100
  refine sim_call 51 [.ptr 0 0, LS party, LI id] (by kernel_rfl) ?_
  have ez0_101 := (hag.at_ 0 (by omega)).trans e0
  simp only [denL, LV.den, Nm.at_, ez0_101, Nat.add_zero]
  refine Calls.mono (may_row _ _ _ _ _ _ _ (by assumption) _ _ (by have h := (hR100.at_cell 0 0 (.v (Value.slice (some (Addr.mk h 0 none)) len cap)) (by kernel_rfl)); simp only [Nm.at_, ez0_101] at h; exact h) hrow.close0 (by assumption)) ?_
  rintro e101 w101 ⟨rfl, hb101⟩
  have hR101 := hR100.below hb101
  have hrow := hrow.below hb101
  refine Back.of (LI (mayM xs party id)) hR101 rfl ?_
  refine sim_run 7 [] hR101 (by kernel_rfl) trivial (fun ρ102 w102 hm102 hR102 => ?_)
  have hag := hag.moved hm102
  have hrow := hrow.moved hm102
  refine sim_fork 15 (mayM xs party id != 0) (by kernel_rfl) (fun hq103 => ?_) (fun hq103 => ?_)
  have hq103 := nb_t hq103
  have hq103 := of_decide_eq_false hq103
  refine sim_run 6 [] hR102 (by kernel_rfl) trivial (fun ρ104 w104 hm104 hR104 => ?_)
  have hag := hag.moved hm104
  have hrow := hrow.moved hm104
  refine sim_ret (LI (mayM xs party id)) hR104 (by kernel_rfl) (by kernel_rfl) ?_
  rotate_left
  have hq103 := nb_f hq103
  have hq103 := of_decide_eq_true hq103
  refine sim_run 6 [] hR102 (by kernel_rfl) trivial (fun ρ105 w105 hm105 hR105 => ?_)
  have hag := hag.moved hm105
  have hrow := hrow.moved hm105
  rotate_left
  
  · rw [if_pos hq103]
    exact ⟨rfl, hrow.close0, hR104.keeps.kept⟩
  · have hin := may_in hq103
    have ho : ¬(id < 1 ∨ id > len) := by rw [← hl]; exact hin
    rw [if_neg (by rw [hq103]; simp)]
    refine sim_call 49 [.ptr 0 0, LI id] (by kernel_rfl) ?_
    have ez0_200 := (hag.at_ 0 (by omega)).trans e0
    simp only [denL, LV.den, Nm.at_, ez0_200, Nat.add_zero]
    refine Calls.mono (at_in _ _ _ _ (by assumption) _ _ _ (by assumption) (by have h := (hR105.at_cell 0 0 (.v (Value.slice (some (Addr.mk h 0 none)) len cap)) (by kernel_rfl)); simp only [Nm.at_, ez0_200] at h; exact h)) ?_
    rintro e200 w200 ⟨rfl, hb200⟩
    have hQ200 := hR105.below hb200
    have hrow := hrow.below hb200
    refine Back.elem _ 1 hrow hag (by kernel_rfl) (by omega) (by simp; try omega) (.inl (by simp)) hQ200 (by kernel_rfl) [0] (by kernel_rfl) (by intro k hk; simp only [List.mem_singleton] at hk; subst hk; rw [e0]; exact ⟨by omega, hne⟩) rfl (fun x200 ρ200 hx200 ha200 e200 hag hR200 hrow => ?_)
    obtain rfl := atI_of hx200
    have e0 := (ha200 0 (by omega)).trans e0
    refine sim_run 11 [] hR200 (by kernel_rfl) trivial (fun ρ201 w201 hm201 hR201 => ?_)
    have hag := hag.moved hm201
    have hrow := hrow.moved hm201
    refine sim_fork 24 ((atI xs id).state == 0) (by kernel_rfl) (fun hq202 => ?_) (fun hq202 => ?_)
    have hq202 := of_decide_eq_true hq202
    refine sim_run 5 [] hR201 (by kernel_rfl) trivial (fun ρ203 w203 hm203 hR203 => ?_)
    have hag := hag.moved hm203
    have hrow := hrow.moved hm203
    refine sim_into Try.func50 [LI 3, .slc 2 0 1 1] (by kernel_rfl) (by kernel_rfl) ?_
    have hag204 := hR203.ag_ 3 (by kernel_rfl)
    refine sim_run 16 [] hR203 (by kernel_rfl) trivial (fun ρ205 w205 hm205 hR205 => ?_)
    have hag := hag.moved hm205
    have hrow := hrow.moved hm205
    have hag204 := hag204.moved hm205
    refine sim_unroll 3 (by kernel_rfl) ?_
    refine sim_run 12 [] hR205 (by kernel_rfl) trivial (fun ρ206 w206 hm206 hR206 => ?_)
    have hag := hag.moved hm206
    have hrow := hrow.moved hm206
    have hag204 := hag204.moved hm206
    refine sim_idx 2 0 1 1 0 1 (by kernel_rfl) (by omega) ?_
    refine sim_run 18 [] hR206 (by kernel_rfl) trivial (fun ρ207 w207 hm207 hR207 => ?_)
    have hag := hag.moved hm207
    have hrow := hrow.moved hm207
    have hag204 := hag204.moved hm207
    refine sim_call 63 [LI ((atI xs id).state), LI 3] (by kernel_rfl) ?_
    refine Calls.mono (next_any _ _ _) ?_
    rintro e208 w208 ⟨rfl, hb208⟩
    have hR208 := hR207.below hb208
    have hrow := hrow.below hb208
    refine Back.of (.tup [LI ((nextM (atI xs id).state 3).fst), LB ((nextM (atI xs id).state 3).snd)]) hR208 rfl ?_
    refine sim_run 10 [] hR208 (by kernel_rfl) trivial (fun ρ209 w209 hm209 hR209 => ?_)
    have hag := hag.moved hm209
    have hag204 := hag204.moved hm209
    have hrow := hrow.moved hm209
    refine sim_fork 27 ((nextM (atI xs id).state 3).snd) (by kernel_rfl) (fun hq210 => ?_) (fun hq210 => ?_)
    refine sim_run 32 [] hR209 (by kernel_rfl) trivial (fun ρ211 w211 hm211 hR211 => ?_)
    have hag := hag.moved hm211
    have hag204 := hag204.moved hm211
    have hrow := hrow.moved hm211
    refine sim_out 3 (LI 1) hR211 (by kernel_rfl) (by kernel_rfl) hag204.ag (by kernel_rfl) ?_
    refine sim_run 5 [] hR211 (by kernel_rfl) trivial (fun ρ212 w212 hm212 hR212 => ?_)
    have hag := hag.moved hm212
    have hag204 := hag204.moved hm212
    have hrow := hrow.moved hm212
    refine sim_ret (LI 0) hR212 (by kernel_rfl) (by kernel_rfl) ?_
    rotate_left
    refine sim_run 20 [] hR209 (by kernel_rfl) trivial (fun ρ213 w213 hm213 hR213 => ?_)
    have hag := hag.moved hm213
    have hag204 := hag204.moved hm213
    have hrow := hrow.moved hm213
    refine sim_out 3 (LI 0) hR213 (by kernel_rfl) (by kernel_rfl) hag204.ag (by kernel_rfl) ?_
    refine sim_run 5 [] hR213 (by kernel_rfl) trivial (fun ρ214 w214 hm214 hR214 => ?_)
    have hag := hag.moved hm214
    have hag204 := hag204.moved hm214
    have hrow := hrow.moved hm214
    refine sim_ret (LI 0) hR214 (by kernel_rfl) (by kernel_rfl) ?_
    rotate_left
    have hq202 := of_decide_eq_false hq202
    refine sim_run 14 [] hR201 (by kernel_rfl) trivial (fun ρ215 w215 hm215 hR215 => ?_)
    have hag := hag.moved hm215
    have hrow := hrow.moved hm215
    rotate_left
    
    · rw [if_pos hq202]
      refine ⟨rfl, ?_, hR212.keeps.kept⟩
      unfold updI
      rw [doI_t hq210]
      exact hrow.close1 (by omega) _ (bk_cell hR212 hag e200 { atI xs id with state := (nextM (atI xs id).state 3).1 } (by kernel_rfl))
    · rw [if_pos hq202]
      refine ⟨rfl, ?_, hR214.keeps.kept⟩
      unfold updI
      rw [doI_f hq210]
      exact hrow.close1 (by omega) _ (bk_cell hR214 hag e200 (atI xs id) (by kernel_rfl))
    · rw [if_neg hq202]
      have hy : (atI (updI xs id fun x => { x with wish := true }) id).mate = (atI xs id).mate := by rw [atI_upd hin]
      have hmu := mateI_upd (xs := xs) (id := id) (f := fun x => { x with wish := true }) hin rfl
      by_cases hz : mateI xs id = 0
      · have hz2 : mateI (updI xs id fun x => { x with wish := true }) id = 0 := hmu.trans hz
        rw [if_neg (fun hc => hc.1 hz)]
        refine sim_call 52 [.ptr 0 0, .ptr 1 0] (by kernel_rfl) ?_
        have ez1_300 := (hag.at_ 1 (by omega)).trans e200
        have ez0_300 := (hag.at_ 0 (by omega)).trans e0
        simp only [denL, LV.den, Nm.at_, ez1_300, ez0_300, Nat.add_zero]
        refine Calls.mono (mate_none _ _ _ _ _ _ _ _ (by have h := (hR215.at_cell 0 0 (.v (Value.slice (some (Addr.mk h 0 none)) len cap)) (by kernel_rfl)); simp only [Nm.at_, ez0_300] at h; exact h) (hrow.close1 (xs := xs) (k := (id - 1).toNat) (by omega) { atI xs id with wish := true } (bk_cell hR215 hag e200 _ (by kernel_rfl))) (by rw [List.length_set]; exact hl) (fun hc => hin ((outB_upd (f := fun x => { x with wish := true })).1 hc)) (by have := hm; rw [← hy] at this; exact this) (by assumption)) ?_
        rintro e300 w300 ⟨rfl, hb300⟩
        have hR300 := hR215.below hb300
        have hrow := hrow.below hb300
        refine Back.of (.v (Value.pointer none)) hR300 rfl ?_
        refine sim_run 19 [] hR300 (by kernel_rfl) trivial (fun ρ301 w301 hm301 hR301 => ?_)
        have hag := hag.moved hm301
        have hrow := hrow.moved hm301
        refine sim_ret (LI 0) hR301 (by kernel_rfl) (by kernel_rfl) ?_
        exact ⟨rfl, hrow.close1 (by omega) { atI xs id with wish := true } (bk_cell hR301 hag e200 _ (by kernel_rfl)), hR301.keeps.kept⟩
        
      · obtain ⟨m, hmz⟩ : ∃ m, mateI xs id = m := ⟨_, rfl⟩
        obtain ⟨hmi, hmne, _⟩ := mateI_in hz
        rw [hmz] at hmi hmne hz ⊢
        have hz2 : mateI (updI xs id fun x => { x with wish := true }) id = m ∧ m ≠ 0 := ⟨hmu.trans hmz, hz⟩
        have hm2 : ¬(m < 1 ∨ m > len) := by rw [← hl]; exact hmi
        refine sim_call 52 [.ptr 0 0, .ptr 1 0] (by kernel_rfl) ?_
        have ez1_400 := (hag.at_ 1 (by omega)).trans e200
        have ez0_400 := (hag.at_ 0 (by omega)).trans e0
        simp only [denL, LV.den, Nm.at_, ez1_400, ez0_400, Nat.add_zero]
        refine Calls.mono (mate_some _ _ _ _ _ _ _ _ (by have h := (hR215.at_cell 0 0 (.v (Value.slice (some (Addr.mk h 0 none)) len cap)) (by kernel_rfl)); simp only [Nm.at_, ez0_400] at h; exact h) (hrow.close1 (xs := xs) (k := (id - 1).toNat) (by omega) { atI xs id with wish := true } (bk_cell hR215 hag e200 _ (by kernel_rfl))) (by rw [List.length_set]; exact hl) (fun hc => hin ((outB_upd (f := fun x => { x with wish := true })).1 hc)) (by have := hm; rw [← hy] at this; exact this) _ (by assumption)) ?_
        rintro e400 w400 ⟨rfl, hb400⟩
        have hQ400 := hR215.below hb400
        have hrow := hrow.below hb400
        refine Back.elem _ 2 hrow hag (by kernel_rfl) (by omega) (by simp; try omega) (.inl (by simp)) hQ400 (by kernel_rfl) [0] (by kernel_rfl) (by intro k hk; simp only [List.mem_singleton] at hk; subst hk; rw [e0]; exact ⟨by omega, hne⟩) rfl (fun x400 ρ400 hx400 ha400 e400 hag hR400 hrow => ?_)
        obtain rfl := atI_of hx400
        have e0 := (ha400 0 (by omega)).trans e0
        have e200 := (ha400 1 (by omega)).trans e200
        refine sim_run 13 [] hR400 (by kernel_rfl) trivial (fun ρ401 w401 hm401 hR401 => ?_)
        have hag := hag.moved hm401
        have hrow := hrow.moved hm401
        refine sim_fork 41 ((atI xs m).wish) (by kernel_rfl) (fun hq402 => ?_) (fun hq402 => ?_)
        refine sim_run 5 [] hR401 (by kernel_rfl) trivial (fun ρ403 w403 hm403 hR403 => ?_)
        have hag := hag.moved hm403
        have hrow := hrow.moved hm403
        refine sim_into Try.func50 [LI 3, .slc 3 0 2 2] (by kernel_rfl) (by kernel_rfl) ?_
        have hag404 := hR403.ag_ 4 (by kernel_rfl)
        refine sim_run 16 [] hR403 (by kernel_rfl) trivial (fun ρ405 w405 hm405 hR405 => ?_)
        have hag := hag.moved hm405
        have hrow := hrow.moved hm405
        have hag404 := hag404.moved hm405
        refine sim_unroll 3 (by kernel_rfl) ?_
        refine sim_run 12 [] hR405 (by kernel_rfl) trivial (fun ρ406 w406 hm406 hR406 => ?_)
        have hag := hag.moved hm406
        have hrow := hrow.moved hm406
        have hag404 := hag404.moved hm406
        refine sim_idx 3 0 2 2 0 1 (by kernel_rfl) (by omega) ?_
        refine sim_run 18 [] hR406 (by kernel_rfl) trivial (fun ρ407 w407 hm407 hR407 => ?_)
        have hag := hag.moved hm407
        have hrow := hrow.moved hm407
        have hag404 := hag404.moved hm407
        refine sim_call 63 [LI ((atI xs id).state), LI 3] (by kernel_rfl) ?_
        refine Calls.mono (next_any _ _ _) ?_
        rintro e408 w408 ⟨rfl, hb408⟩
        have hR408 := hR407.below hb408
        have hrow := hrow.below hb408
        refine Back.of (.tup [LI ((nextM (atI xs id).state 3).fst), LB ((nextM (atI xs id).state 3).snd)]) hR408 rfl ?_
        refine sim_run 10 [] hR408 (by kernel_rfl) trivial (fun ρ409 w409 hm409 hR409 => ?_)
        have hag := hag.moved hm409
        have hag404 := hag404.moved hm409
        have hrow := hrow.moved hm409
        refine sim_fork 27 ((nextM (atI xs id).state 3).snd) (by kernel_rfl) (fun hq410 => ?_) (fun hq410 => ?_)
        refine sim_run 31 [] hR409 (by kernel_rfl) trivial (fun ρ411 w411 hm411 hR411 => ?_)
        have hag := hag.moved hm411
        have hag404 := hag404.moved hm411
        have hrow := hrow.moved hm411
        refine sim_idx 3 0 2 2 1 1 (by kernel_rfl) (by omega) ?_
        refine sim_run 18 [] hR411 (by kernel_rfl) trivial (fun ρ412 w412 hm412 hR412 => ?_)
        have hag := hag.moved hm412
        have hag404 := hag404.moved hm412
        have hrow := hrow.moved hm412
        refine sim_call 63 [LI ((atI xs m).state), LI 3] (by kernel_rfl) ?_
        refine Calls.mono (next_any _ _ _) ?_
        rintro e413 w413 ⟨rfl, hb413⟩
        have hR413 := hR412.below hb413
        have hrow := hrow.below hb413
        refine Back.of (.tup [LI ((nextM (atI xs m).state 3).fst), LB ((nextM (atI xs m).state 3).snd)]) hR413 rfl ?_
        refine sim_run 10 [] hR413 (by kernel_rfl) trivial (fun ρ414 w414 hm414 hR414 => ?_)
        have hag := hag.moved hm414
        have hag404 := hag404.moved hm414
        have hrow := hrow.moved hm414
        refine sim_fork 27 ((nextM (atI xs m).state 3).snd) (by kernel_rfl) (fun hq415 => ?_) (fun hq415 => ?_)
        refine sim_run 32 [] hR414 (by kernel_rfl) trivial (fun ρ416 w416 hm416 hR416 => ?_)
        have hag := hag.moved hm416
        have hag404 := hag404.moved hm416
        have hrow := hrow.moved hm416
        refine sim_out 4 (LI 2) hR416 (by kernel_rfl) (by kernel_rfl) hag404.ag (by kernel_rfl) ?_
        refine sim_run 5 [] hR416 (by kernel_rfl) trivial (fun ρ417 w417 hm417 hR417 => ?_)
        have hag := hag.moved hm417
        have hag404 := hag404.moved hm417
        have hrow := hrow.moved hm417
        refine sim_ret (LI 0) hR417 (by kernel_rfl) (by kernel_rfl) ?_
        rotate_left
        refine sim_run 20 [] hR414 (by kernel_rfl) trivial (fun ρ418 w418 hm418 hR418 => ?_)
        have hag := hag.moved hm418
        have hag404 := hag404.moved hm418
        have hrow := hrow.moved hm418
        refine sim_out 4 (LI 1) hR418 (by kernel_rfl) (by kernel_rfl) hag404.ag (by kernel_rfl) ?_
        refine sim_run 5 [] hR418 (by kernel_rfl) trivial (fun ρ419 w419 hm419 hR419 => ?_)
        have hag := hag.moved hm419
        have hag404 := hag404.moved hm419
        have hrow := hrow.moved hm419
        refine sim_ret (LI 0) hR419 (by kernel_rfl) (by kernel_rfl) ?_
        rotate_left
        refine sim_run 19 [] hR409 (by kernel_rfl) trivial (fun ρ420 w420 hm420 hR420 => ?_)
        have hag := hag.moved hm420
        have hag404 := hag404.moved hm420
        have hrow := hrow.moved hm420
        refine sim_idx 3 0 2 2 1 1 (by kernel_rfl) (by omega) ?_
        refine sim_run 18 [] hR420 (by kernel_rfl) trivial (fun ρ421 w421 hm421 hR421 => ?_)
        have hag := hag.moved hm421
        have hag404 := hag404.moved hm421
        have hrow := hrow.moved hm421
        refine sim_call 63 [LI ((atI xs m).state), LI 3] (by kernel_rfl) ?_
        refine Calls.mono (next_any _ _ _) ?_
        rintro e422 w422 ⟨rfl, hb422⟩
        have hR422 := hR421.below hb422
        have hrow := hrow.below hb422
        refine Back.of (.tup [LI ((nextM (atI xs m).state 3).fst), LB ((nextM (atI xs m).state 3).snd)]) hR422 rfl ?_
        refine sim_run 10 [] hR422 (by kernel_rfl) trivial (fun ρ423 w423 hm423 hR423 => ?_)
        have hag := hag.moved hm423
        have hag404 := hag404.moved hm423
        have hrow := hrow.moved hm423
        refine sim_fork 27 ((nextM (atI xs m).state 3).snd) (by kernel_rfl) (fun hq424 => ?_) (fun hq424 => ?_)
        refine sim_run 32 [] hR423 (by kernel_rfl) trivial (fun ρ425 w425 hm425 hR425 => ?_)
        have hag := hag.moved hm425
        have hag404 := hag404.moved hm425
        have hrow := hrow.moved hm425
        refine sim_out 4 (LI 1) hR425 (by kernel_rfl) (by kernel_rfl) hag404.ag (by kernel_rfl) ?_
        refine sim_run 5 [] hR425 (by kernel_rfl) trivial (fun ρ426 w426 hm426 hR426 => ?_)
        have hag := hag.moved hm426
        have hag404 := hag404.moved hm426
        have hrow := hrow.moved hm426
        refine sim_ret (LI 0) hR426 (by kernel_rfl) (by kernel_rfl) ?_
        rotate_left
        refine sim_run 20 [] hR423 (by kernel_rfl) trivial (fun ρ427 w427 hm427 hR427 => ?_)
        have hag := hag.moved hm427
        have hag404 := hag404.moved hm427
        have hrow := hrow.moved hm427
        refine sim_out 4 (LI 0) hR427 (by kernel_rfl) (by kernel_rfl) hag404.ag (by kernel_rfl) ?_
        refine sim_run 5 [] hR427 (by kernel_rfl) trivial (fun ρ428 w428 hm428 hR428 => ?_)
        have hag := hag.moved hm428
        have hag404 := hag404.moved hm428
        have hrow := hrow.moved hm428
        refine sim_ret (LI 0) hR428 (by kernel_rfl) (by kernel_rfl) ?_
        rotate_left
        refine sim_run 6 [] hR401 (by kernel_rfl) trivial (fun ρ429 w429 hm429 hR429 => ?_)
        have hag := hag.moved hm429
        have hrow := hrow.moved hm429
        refine sim_ret (LI 0) hR429 (by kernel_rfl) (by kernel_rfl) ?_
        rotate_left
        
        · rw [if_pos ⟨hz, hq402⟩, upd_upd hin, upd2_eq hin hmi hmne]
          refine ⟨rfl, ?_, hR417.keeps.kept⟩
          rw [doI_t (x := { atI xs id with wish := true }) hq410, doI_t hq415]
          exact hrow.close2 (by omega) (by omega) (by omega) { atI xs id with wish := true, state := (nextM (atI xs id).state 3).1 } { atI xs m with state := (nextM (atI xs m).state 3).1 } (bk_cell hR417 hag e200 _ (by kernel_rfl)) (bk_cell hR417 hag e400 _ (by kernel_rfl))
        · rw [if_pos ⟨hz, hq402⟩, upd_upd hin, upd2_eq hin hmi hmne]
          refine ⟨rfl, ?_, hR419.keeps.kept⟩
          rw [doI_t (x := { atI xs id with wish := true }) hq410, doI_f hq415]
          exact hrow.close2 (by omega) (by omega) (by omega) { atI xs id with wish := true, state := (nextM (atI xs id).state 3).1 } (atI xs m) (bk_cell hR419 hag e200 _ (by kernel_rfl)) (bk_cell hR419 hag e400 _ (by kernel_rfl))
        · rw [if_pos ⟨hz, hq402⟩, upd_upd hin, upd2_eq hin hmi hmne]
          refine ⟨rfl, ?_, hR426.keeps.kept⟩
          rw [doI_f (x := { atI xs id with wish := true }) hq410, doI_t hq424]
          exact hrow.close2 (by omega) (by omega) (by omega) { atI xs id with wish := true } { atI xs m with state := (nextM (atI xs m).state 3).1 } (bk_cell hR426 hag e200 _ (by kernel_rfl)) (bk_cell hR426 hag e400 _ (by kernel_rfl))
        · rw [if_pos ⟨hz, hq402⟩, upd_upd hin, upd2_eq hin hmi hmne]
          refine ⟨rfl, ?_, hR428.keeps.kept⟩
          rw [doI_f (x := { atI xs id with wish := true }) hq410, doI_f hq424]
          exact hrow.close2 (by omega) (by omega) (by omega) { atI xs id with wish := true } (atI xs m) (bk_cell hR428 hag e200 _ (by kernel_rfl)) (bk_cell hR428 hag e400 _ (by kernel_rfl))
        · rw [if_neg (fun hc => by rw [hc.2] at hq402; cases hq402)]
          refine ⟨rfl, ?_, hR429.keeps.kept⟩
          have := hrow.close2 (by omega) (by omega) (by omega) { atI xs id with wish := true } (atI xs m) (bk_cell hR429 hag e200 _ (by kernel_rfl)) (bk_cell hR429 hag e400 _ (by kernel_rfl))
          rw [List.set_getElem_of_get (by rw [List.getElem?_set, if_neg (by omega)]; exact atI_get hmi)] at this
          exact this
end Go.Proofs.Ytodjhkmbgennaaa
