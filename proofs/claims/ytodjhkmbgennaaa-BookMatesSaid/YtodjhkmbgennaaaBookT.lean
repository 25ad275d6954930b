/-
  book: Expire.
-/
import Derived.Test.YtodjhkmbgennaaaBookS
namespace Go.Proofs.Ytodjhkmbgennaaa
open Go Go.RowKit
attribute [local irreducible] run goO goN ordGoN eqlOf eqlOper eqlOfO cellL leaveK someK nextK nextT nextOT nextOD loopBody loopRest loopK fillJ tmplOf tmplJ mergeT At AtO drawOk ordOf gateOf callC callO topOp topO idxOf appOf storeOf clearOf sliceOf calleeOf calleeO topQ idxQ newRowOf resL stepOp seek

def expI (xs : List In) (id : Int) : List In :=
  if outB xs id ∨ openB (atI xs id).state = false then xs
  else if mateI xs id = 0 then updI xs id (doI 4) else updI (updI xs id (doI 4)) (mateI xs id) (doI 4)
def expAll (xs : List In) (ids : List Int) : List In := ids.foldl expI xs
theorem exp_len (xs : List In) (id : Int) : (expI xs id).length = xs.length := by
  unfold expI
  split
  · rfl
  · split <;> simp [upd_len]
theorem expAll_len : ∀ (ids : List Int) (xs : List In), (expAll xs ids).length = xs.length
  | [], _ => rfl
  | id :: ids, xs => by
    have := expAll_len ids (expI xs id)
    rw [exp_len] at this
    exact this
theorem expAll_snoc (xs : List In) (ids : List Int) (id : Int) : expAll xs (ids ++ [id]) = expI (expAll xs ids) id := by
  unfold expAll
  rw [List.foldl_append]
  rfl
theorem okL.exp {xs : List In} (h : okL xs) (id : Int) : okL (expI xs id) := by
  unfold expI
  split
  · exact h
  · split
    · exact h.upd id (by rw [doI_mate]; exact h.at_ id)
    · exact okL.upd (h.upd id (by rw [doI_mate]; exact h.at_ id)) _ (by rw [doI_mate]; exact okL.at_ (h.upd id (by rw [doI_mate]; exact h.at_ id)) _)
theorem okL.expAll : ∀ (ids : List Int) {xs : List In}, okL xs → okL (expAll xs ids)
  | [], _, h => h
  | id :: ids, xs, h => okL.expAll ids (h.exp id)
theorem open_of {s : Int} (h : (decide (s < 0) || decide (s > 2)) = false) : openB s = true := by
  refine (openB_iff _).2 ?_
  simp at h
  omega
theorem open_not {s : Int} (h : (decide (s < 0) || decide (s > 2)) = true) : openB s = false := by
  cases e : openB s with
  | false => rfl
  | true =>
    have := (openB_iff _).1 e
    simp at h
    omega
set_option maxRecDepth 100000 in
theorem expire_slc (g h len cap : Nat) (xs : List In) (rest : List Value) (A : Option Addr) (n cp Bn : Nat) (ids : List Int) (hids : ∀ i ∈ ids, Is64 i) (hxs : okL xs) (w : World) (hs : BkS w g h len cap xs rest) (hrd : Reads w Bn 1 A n (ints ids)) (hBn : Bn ≤ w.heap.size) (hA : 0 < n → ∀ a, A = some a → a.block ∉ [h]) (hn : n ≤ 1000000) :
    Calls Try.prog 33 #[.pointer (some ⟨g, 0, none⟩), .slice A n cp] w fun e w' => ∃ z, BkPost w h rest (expAll xs ids) z e w' := by
  have hl := hs.len
  have hne := hs.ne
  have hnl := hrd.int_len
  obtain ⟨ρ, e0, hag, hR, hrow⟩ := book_start hs
  refine sim_enter Try.func33 ρ [.ptr 0 0, .v (.slice A n cp)] [⟨[.v (.slice (some ⟨h, 0, none⟩) len cap)], false⟩] (by kernel_rfl) (by simp only [denL, LV.den, Nm.at_, e0]) ?_
  refine sim_run 16 [] hR (by kernel_rfl) trivial (fun ρ100 w100 hm100 hR100 => ?_)
  have hag := hag.moved hm100
  have hrow := hrow.moved hm100
  
  have e0 := (hag.at_ 0 (by omega)).trans e0
  refine sim_loop (ι := Nat × Int) (T := [h]) (w0 := w) (0, 0) [0, 1, 9, 10] (fun x => [(5, LI x.2), (11, LI x.1)]) (fun _ => [⟨[.v (.slice (some ⟨h, 0, none⟩) len cap)], false⟩]) (fun x w1 => x.1 ≤ n ∧ Blk w1 h 25 (insts (expAll xs (ids.take x.1)) ++ rest).toArray) (fun x => n - x.1) (by kernel_rfl) (by kernel_rfl) (hR100.cast (by kernel_rfl)) ⟨Nat.zero_le _, hrow.close0⟩ ?_
  iterate 12 (try clear hrow)
  iterate 12 (try clear hag)
  clear hm100 hR100
  rintro ⟨k, z⟩ d w2 hR2 ⟨hk, hblk⟩
  have hk : k ≤ n := hk
  obtain ⟨ys, hys⟩ : ∃ ys, expAll xs (ids.take k) = ys := ⟨_, rfl⟩
  have hblk : Blk w2 h 25 (insts ys ++ rest).toArray := by rw [← hys]; exact hblk
  have hokY : okL ys := by rw [← hys]; exact okL.expAll _ hxs
  have hl : ys.length = len := by rw [← hys, expAll_len]; exact hl
  have hrow : RowI ρ100 [⟨[.v (.slice (some ⟨h, 0, none⟩) len cap)], false⟩] w2 h ys rest [] := .start hblk _ _ rfl
  have hag0 := hR2.ag_ 1 (by kernel_rfl)
  by_cases hlt : k < n
  · obtain ⟨ga, oa, rfl, _, _⟩ := hrd.spot (by omega) (by omega)
    refine sim_run 5 [] hR2 (by kernel_rfl) trivial (fun ρ200 w200 hm200 hR200 => ?_)
    have hrow := hrow.moved hm200
    have hag0 := hag0.moved hm200
    refine sim_know 12 (decide ((↑(k, z).fst : Int) < (↑n : Int))) true (by kernel_rfl) (decide_eq_true (by omega)) ?_
    refine sim_run 6 [] hR200 (by kernel_rfl) trivial (fun ρ201 w201 hm201 hR201 => ?_)
    have hrow := hrow.moved hm201
    have hag0 := hag0.moved hm201
    
    have hx : (ints ids)[k]? = some (.int .i64 (ids[k]'(by omega))) := by unfold ints; rw [List.getElem?_map, List.getElem?_eq_getElem (by omega)]; rfl
    have hid : Is64 (ids[k]'(by omega)) := hids _ (List.getElem_mem _)
    generalize hidk : ids[k]'(by omega) = id at hx hid
    have hnext : expAll xs (ids.take (k + 1)) = expI ys id := by
      rw [List.take_add_one, List.getElem?_eq_getElem (by omega), hidk]
      show expAll xs (ids.take k ++ [id]) = _
      rw [expAll_snoc, hys]
    refine sim_cell cp k 1 (.int .i64 id) (by kernel_rfl) (by kernel_rfl) hlt hrd hx hBn (hA (by omega)) hR201 (by kernel_rfl) (fun ρ4 hm4 hf4 hR4 => ?_)
    have hrow := hrow.moved hm4
    have hag0 := hag0.moved hm4
    have hag := hR4.ag_ 2 (by kernel_rfl)
    have h40 : ρ100 0 = ρ4 0 := (hag0.at_ 0 (by omega)).symm
    have e0 := h40.symm.trans e0
    have hf4 := hf4 h (by simp)
    have hm := hokY.at_ id
    by_cases hin : outB ys id
    · have hin2 : id < 1 ∨ id > len := by rw [← hl]; exact hin
      have he : expI ys id = ys := by unfold expI; rw [if_pos (.inl hin)]
      refine sim_run 7 [] hR4 (by kernel_rfl) trivial (fun ρ300 w300 hm300 hR300 => ?_)
      have hrow := hrow.moved hm300
      have hag0 := hag0.moved hm300
      have hag := hag.moved hm300
      refine sim_call 49 [.ptr 0 0, LI id] (by kernel_rfl) ?_
      have ez0_301 := (hag.at_ 0 (by omega)).trans e0
      simp only [denL, LV.den, Nm.at_, ez0_301, Nat.add_zero]
      refine Calls.mono (at_out _ _ _ _ (by assumption) _ _ _ (by assumption) (by have h := (hR300.at_cell 0 0 (.v (Value.slice (some (Addr.mk h 0 none)) len cap)) (by kernel_rfl)); simp only [Nm.at_, ez0_301] at h; exact h) (fun _ => ⟨h, rfl⟩)) ?_
      rintro e301 w301 ⟨rfl, hb301⟩
      have hR301 := hR300.below hb301
      have hrow := hrow.below hb301
      refine Back.of (.v (Value.pointer none)) hR301 rfl ?_
      refine sim_run 22 [⟨8, 0, LI (IntKind.i64.wrap ((↑k : Int) + 1)), LI ((↑k : Int) + 1)⟩] hR301 (by kernel_rfl) ⟨eqi (IntWalk.i64_in _ (by omega)), trivial⟩ (fun ρ302 w302 hm302 hR302 => ?_)
      have hag0 := hag0.moved hm302
      have hag := hag.moved hm302
      have hrow := hrow.moved hm302
      
      · refine sim_again (k + 1, z) (by kernel_rfl) (by show n - (k + 1) < n - k; omega) (by kernel_rfl) (by kernel_rfl) (by kernel_rfl) ?_ hR302 (by kernel_rfl) (by kernel_rfl) ⟨hlt, ?_⟩
        · intro q hq
          obtain rfl : q = 0 := by simp at hq; exact hq
          exact (hag.at_ 0 (by omega)).trans h40.symm
        · show Blk _ h _ (insts (expAll xs (ids.take (k + 1))) ++ rest).toArray
          rw [hnext]
          rw [he]
          exact hrow.close0
    · have ho : ¬(id < 1 ∨ id > len) := by rw [← hl]; exact hin
      by_cases hz : mateI ys id = 0
      · refine sim_run 7 [] hR4 (by kernel_rfl) trivial (fun ρ400 w400 hm400 hR400 => ?_)
        have hrow := hrow.moved hm400
        have hag0 := hag0.moved hm400
        have hag := hag.moved hm400
        refine sim_call 49 [.ptr 0 0, LI id] (by kernel_rfl) ?_
        have ez0_401 := (hag.at_ 0 (by omega)).trans e0
        simp only [denL, LV.den, Nm.at_, ez0_401, Nat.add_zero]
        refine Calls.mono (at_in _ _ _ _ (by assumption) _ _ _ (by assumption) (by have h := (hR400.at_cell 0 0 (.v (Value.slice (some (Addr.mk h 0 none)) len cap)) (by kernel_rfl)); simp only [Nm.at_, ez0_401] at h; exact h)) ?_
        rintro e401 w401 ⟨rfl, hb401⟩
        have hQ401 := hR400.below hb401
        have hrow := hrow.below hb401
        refine Back.elem _ 2 hrow hag (by kernel_rfl) (by omega) (by simp; try omega) (.inl (by simp)) hQ401 (by kernel_rfl) [0, 1] (by kernel_rfl) (by intro k hk; simp only [List.mem_cons, List.not_mem_nil, or_false] at hk; rcases hk with rfl | rfl; rw [e0]; exact ⟨by omega, hne⟩; exact ⟨by omega, hf4⟩) rfl (fun x401 ρ401 hx401 ha401 e401 hag hR401 hrow => ?_)
        obtain rfl := atI_of hx401
        have e0 := (ha401 0 (by omega)).trans e0
        have hf4 : (ρ401 1).1 ≠ h := by rw [ha401 1 (by omega)]; exact hf4
        have eM := e401
        refine sim_run 12 [] hR401 (by kernel_rfl) trivial (fun ρ402 w402 hm402 hR402 => ?_)
        have hag := hag.moved hm402
        have hrow := hrow.moved hm402
        refine sim_call 31 [.slc 3 0 1 1] (by kernel_rfl) ?_
        refine Calls.mono (open_any _ _ _ _ (hR402.at_cell 3 0 (LI ((atI ys id).state)) (by kernel_rfl))) ?_
        rintro e403 w403 ⟨rfl, hb403⟩
        have hR403 := hR402.below hb403
        have hrow := hrow.below hb403
        refine Back.of (LB (openB (atI ys id).state)) hR403 rfl ?_
        refine sim_run 2 [] hR403 (by kernel_rfl) trivial (fun ρ404 w404 hm404 hR404 => ?_)
        have hag := hag.moved hm404
        have hrow := hrow.moved hm404
        refine sim_fork 27 (openB (atI ys id).state) (by kernel_rfl) (fun hq405 => ?_) (fun hq405 => ?_)
        have hq405 := nb_t hq405
        refine sim_run 6 [] hR404 (by kernel_rfl) trivial (fun ρ406 w406 hm406 hR406 => ?_)
        have hag := hag.moved hm406
        have hrow := hrow.moved hm406
        refine sim_call 52 [.ptr 0 0, .ptr 2 0] (by kernel_rfl) ?_
        have ez2_407 := (hag.at_ 2 (by omega)).trans e401
        have ez0_407 := (hag.at_ 0 (by omega)).trans e0
        simp only [denL, LV.den, Nm.at_, ez2_407, ez0_407, Nat.add_zero]
        refine Calls.mono (mate_none _ _ _ _ _ _ _ _ (by have h := (hR406.at_cell 0 0 (.v (Value.slice (some (Addr.mk h 0 none)) len cap)) (by kernel_rfl)); simp only [Nm.at_, ez0_407] at h; exact h) (hrow.same1 hin (bk_cell hR406 hag eM _ (by kernel_rfl))) (by assumption) (by assumption) (by assumption) (by assumption)) ?_
        rintro e407 w407 ⟨rfl, hb407⟩
        have hR407 := hR406.below hb407
        have hrow := hrow.below hb407
        refine Back.of (.v (Value.pointer none)) hR407 rfl ?_
        refine sim_run 1 [] hR407 (by kernel_rfl) trivial (fun ρ408 w408 hm408 hR408 => ?_)
        have hag := hag.moved hm408
        have hrow := hrow.moved hm408
        refine sim_into Try.func50 [LI 4, .slc 4 0 2 2] (by kernel_rfl) (by kernel_rfl) ?_
        have hag409 := hR408.ag_ 5 (by kernel_rfl)
        refine sim_run 16 [] hR408 (by kernel_rfl) trivial (fun ρ410 w410 hm410 hR410 => ?_)
        have hag := hag.moved hm410
        have hrow := hrow.moved hm410
        have hag409 := hag409.moved hm410
        refine sim_unroll 3 (by kernel_rfl) ?_
        refine sim_run 12 [] hR410 (by kernel_rfl) trivial (fun ρ411 w411 hm411 hR411 => ?_)
        have hag := hag.moved hm411
        have hrow := hrow.moved hm411
        have hag409 := hag409.moved hm411
        refine sim_idx 4 0 2 2 0 1 (by kernel_rfl) (by omega) ?_
        refine sim_run 18 [] hR411 (by kernel_rfl) trivial (fun ρ412 w412 hm412 hR412 => ?_)
        have hag := hag.moved hm412
        have hrow := hrow.moved hm412
        have hag409 := hag409.moved hm412
        refine sim_call 63 [LI ((atI ys id).state), LI 4] (by kernel_rfl) ?_
        refine Calls.mono (next_any _ _ _) ?_
        rintro e413 w413 ⟨rfl, hb413⟩
        have hR413 := hR412.below hb413
        have hrow := hrow.below hb413
        refine Back.of (.tup [LI ((nextM (atI ys id).state 4).fst), LB ((nextM (atI ys id).state 4).snd)]) hR413 rfl ?_
        refine sim_run 10 [] hR413 (by kernel_rfl) trivial (fun ρ414 w414 hm414 hR414 => ?_)
        have hag := hag.moved hm414
        have hag409 := hag409.moved hm414
        have hrow := hrow.moved hm414
        refine sim_fork 27 ((nextM (atI ys id).state 4).snd) (by kernel_rfl) (fun hq415 => ?_) (fun hq415 => ?_)
        refine sim_run 31 [] hR414 (by kernel_rfl) trivial (fun ρ416 w416 hm416 hR416 => ?_)
        have hag := hag.moved hm416
        have hag409 := hag409.moved hm416
        have hrow := hrow.moved hm416
        refine sim_idx 4 0 2 2 1 1 (by kernel_rfl) (by omega) ?_
        refine sim_run 28 [] hR416 (by kernel_rfl) trivial (fun ρ417 w417 hm417 hR417 => ?_)
        have hag := hag.moved hm417
        have hag409 := hag409.moved hm417
        have hrow := hrow.moved hm417
        refine sim_out 5 (LI 1) hR417 (by kernel_rfl) (by kernel_rfl) hag409.ag (by kernel_rfl) ?_
        refine sim_run 8 [⟨8, 0, LI (IntKind.i64.wrap ((↑k : Int) + 1)), LI ((↑k : Int) + 1)⟩] hR417 (by kernel_rfl) ⟨eqi (IntWalk.i64_in _ (by omega)), trivial⟩ (fun ρ418 w418 hm418 hR418 => ?_)
        have hag := hag.moved hm418
        have hag409 := hag409.moved hm418
        have hrow := hrow.moved hm418
        rotate_left
        refine sim_run 19 [] hR414 (by kernel_rfl) trivial (fun ρ419 w419 hm419 hR419 => ?_)
        have hag := hag.moved hm419
        have hag409 := hag409.moved hm419
        have hrow := hrow.moved hm419
        refine sim_idx 4 0 2 2 1 1 (by kernel_rfl) (by omega) ?_
        refine sim_run 28 [] hR419 (by kernel_rfl) trivial (fun ρ420 w420 hm420 hR420 => ?_)
        have hag := hag.moved hm420
        have hag409 := hag409.moved hm420
        have hrow := hrow.moved hm420
        refine sim_out 5 (LI 0) hR420 (by kernel_rfl) (by kernel_rfl) hag409.ag (by kernel_rfl) ?_
        refine sim_run 8 [⟨8, 0, LI (IntKind.i64.wrap ((↑k : Int) + 1)), LI ((↑k : Int) + 1)⟩] hR420 (by kernel_rfl) ⟨eqi (IntWalk.i64_in _ (by omega)), trivial⟩ (fun ρ421 w421 hm421 hR421 => ?_)
        have hag := hag.moved hm421
        have hag409 := hag409.moved hm421
        have hrow := hrow.moved hm421
        rotate_left
        have hq405 := nb_f hq405
        refine sim_run 7 [⟨8, 0, LI (IntKind.i64.wrap ((↑(k, z).fst : Int) + 1)), LI ((↑(k, z).fst : Int) + 1)⟩] hR404 (by kernel_rfl) ⟨eqi (IntWalk.i64_in _ (by omega)), trivial⟩ (fun ρ422 w422 hm422 hR422 => ?_)
        have hag := hag.moved hm422
        have hrow := hrow.moved hm422
        rotate_left
        
        · refine sim_again (k + 1, IntKind.i64.wrap (z + 1)) (by kernel_rfl) (by show n - (k + 1) < n - k; omega) (by kernel_rfl) (by kernel_rfl) (by kernel_rfl) ?_ hR418 (by kernel_rfl) (by kernel_rfl) ⟨hlt, ?_⟩
          · intro q hq
            obtain rfl : q = 0 := by simp at hq; exact hq
            exact (hag.at_ 0 (by omega)).trans ((ha401 0 (by omega)).trans h40.symm)
          · show Blk _ h _ (insts (expAll xs (ids.take (k + 1))) ++ rest).toArray
            rw [hnext]
            unfold expI
            rw [if_neg (fun hc => hc.elim hin (fun h1 => by rw [open_of hq405] at h1; cases h1)), if_pos hz]
            unfold updI
            rw [doI_t hq415]
            exact hrow.close1 (by omega) _ (bk_cell hR418 hag eM { atI ys id with state := (nextM (atI ys id).state 4).1 } (by kernel_rfl))
        · refine sim_again (k + 1, IntKind.i64.wrap (z + 0)) (by kernel_rfl) (by show n - (k + 1) < n - k; omega) (by kernel_rfl) (by kernel_rfl) (by kernel_rfl) ?_ hR421 (by kernel_rfl) (by kernel_rfl) ⟨hlt, ?_⟩
          · intro q hq
            obtain rfl : q = 0 := by simp at hq; exact hq
            exact (hag.at_ 0 (by omega)).trans ((ha401 0 (by omega)).trans h40.symm)
          · show Blk _ h _ (insts (expAll xs (ids.take (k + 1))) ++ rest).toArray
            rw [hnext]
            unfold expI
            rw [if_neg (fun hc => hc.elim hin (fun h1 => by rw [open_of hq405] at h1; cases h1)), if_pos hz]
            unfold updI
            rw [doI_f hq415]
            exact hrow.close1 (by omega) _ (bk_cell hR421 hag eM (atI ys id) (by kernel_rfl))
        · refine sim_again (k + 1, z) (by kernel_rfl) (by show n - (k + 1) < n - k; omega) (by kernel_rfl) (by kernel_rfl) (by kernel_rfl) ?_ hR422 (by kernel_rfl) (by kernel_rfl) ⟨hlt, ?_⟩
          · intro q hq
            obtain rfl : q = 0 := by simp at hq; exact hq
            exact (hag.at_ 0 (by omega)).trans ((ha401 0 (by omega)).trans h40.symm)
          · show Blk _ h _ (insts (expAll xs (ids.take (k + 1))) ++ rest).toArray
            rw [hnext]
            unfold expI
            rw [if_pos (.inr (open_not hq405))]
            exact hrow.same1 hin (bk_cell hR422 hag eM _ (by kernel_rfl))
      · obtain ⟨m, hmz⟩ : ∃ m, mateI ys id = m := ⟨_, rfl⟩
        obtain ⟨hmi, hmne, _⟩ := mateI_in hz
        rw [hmz] at hmi hmne hz
        have hz2 : mateI ys id = m ∧ m ≠ 0 := ⟨hmz, hz⟩
        have hm2 : ¬(m < 1 ∨ m > len) := by rw [← hl]; exact hmi
        refine sim_run 7 [] hR4 (by kernel_rfl) trivial (fun ρ500 w500 hm500 hR500 => ?_)
        have hrow := hrow.moved hm500
        have hag0 := hag0.moved hm500
        have hag := hag.moved hm500
        refine sim_call 49 [.ptr 0 0, LI id] (by kernel_rfl) ?_
        have ez0_501 := (hag.at_ 0 (by omega)).trans e0
        simp only [denL, LV.den, Nm.at_, ez0_501, Nat.add_zero]
        refine Calls.mono (at_in _ _ _ _ (by assumption) _ _ _ (by assumption) (by have h := (hR500.at_cell 0 0 (.v (Value.slice (some (Addr.mk h 0 none)) len cap)) (by kernel_rfl)); simp only [Nm.at_, ez0_501] at h; exact h)) ?_
        rintro e501 w501 ⟨rfl, hb501⟩
        have hQ501 := hR500.below hb501
        have hrow := hrow.below hb501
        refine Back.elem _ 2 hrow hag (by kernel_rfl) (by omega) (by simp; try omega) (.inl (by simp)) hQ501 (by kernel_rfl) [0, 1] (by kernel_rfl) (by intro k hk; simp only [List.mem_cons, List.not_mem_nil, or_false] at hk; rcases hk with rfl | rfl; rw [e0]; exact ⟨by omega, hne⟩; exact ⟨by omega, hf4⟩) rfl (fun x501 ρ501 hx501 ha501 e501 hag hR501 hrow => ?_)
        obtain rfl := atI_of hx501
        have e0 := (ha501 0 (by omega)).trans e0
        have hf4 : (ρ501 1).1 ≠ h := by rw [ha501 1 (by omega)]; exact hf4
        have eM := e501
        refine sim_run 12 [] hR501 (by kernel_rfl) trivial (fun ρ502 w502 hm502 hR502 => ?_)
        have hag := hag.moved hm502
        have hrow := hrow.moved hm502
        refine sim_call 31 [.slc 3 0 1 1] (by kernel_rfl) ?_
        refine Calls.mono (open_any _ _ _ _ (hR502.at_cell 3 0 (LI ((atI ys id).state)) (by kernel_rfl))) ?_
        rintro e503 w503 ⟨rfl, hb503⟩
        have hR503 := hR502.below hb503
        have hrow := hrow.below hb503
        refine Back.of (LB (openB (atI ys id).state)) hR503 rfl ?_
        refine sim_run 2 [] hR503 (by kernel_rfl) trivial (fun ρ504 w504 hm504 hR504 => ?_)
        have hag := hag.moved hm504
        have hrow := hrow.moved hm504
        refine sim_fork 27 (openB (atI ys id).state) (by kernel_rfl) (fun hq505 => ?_) (fun hq505 => ?_)
        have hq505 := nb_t hq505
        refine sim_run 6 [] hR504 (by kernel_rfl) trivial (fun ρ506 w506 hm506 hR506 => ?_)
        have hag := hag.moved hm506
        have hrow := hrow.moved hm506
        refine sim_call 52 [.ptr 0 0, .ptr 2 0] (by kernel_rfl) ?_
        have ez2_507 := (hag.at_ 2 (by omega)).trans e501
        have ez0_507 := (hag.at_ 0 (by omega)).trans e0
        simp only [denL, LV.den, Nm.at_, ez2_507, ez0_507, Nat.add_zero]
        refine Calls.mono (mate_some _ _ _ _ _ _ _ _ (by have h := (hR506.at_cell 0 0 (.v (Value.slice (some (Addr.mk h 0 none)) len cap)) (by kernel_rfl)); simp only [Nm.at_, ez0_507] at h; exact h) (hrow.same1 hin (bk_cell hR506 hag eM _ (by kernel_rfl))) (by assumption) (by assumption) (by assumption) _ (by assumption)) ?_
        rintro e507 w507 ⟨rfl, hb507⟩
        have hQ507 := hR506.below hb507
        have hrow := hrow.below hb507
        refine Back.elem _ 4 hrow hag (by kernel_rfl) (by omega) (by simp; try omega) (.inl (by simp)) hQ507 (by kernel_rfl) [0, 1] (by kernel_rfl) (by intro k hk; simp only [List.mem_cons, List.not_mem_nil, or_false] at hk; rcases hk with rfl | rfl; rw [e0]; exact ⟨by omega, hne⟩; exact ⟨by omega, hf4⟩) rfl (fun x507 ρ507 hx507 ha507 e507 hag hR507 hrow => ?_)
        obtain rfl := atI_of hx507
        have eM := (ha507 2 (by omega)).trans eM
        have e0 := (ha507 0 (by omega)).trans e0
        have e501 := (ha507 2 (by omega)).trans e501
        have hf4 : (ρ507 1).1 ≠ h := by rw [ha507 1 (by omega)]; exact hf4
        refine sim_run 1 [] hR507 (by kernel_rfl) trivial (fun ρ508 w508 hm508 hR508 => ?_)
        have hag := hag.moved hm508
        have hrow := hrow.moved hm508
        refine sim_into Try.func50 [LI 4, .slc 5 0 2 2] (by kernel_rfl) (by kernel_rfl) ?_
        have hag509 := hR508.ag_ 6 (by kernel_rfl)
        refine sim_run 16 [] hR508 (by kernel_rfl) trivial (fun ρ510 w510 hm510 hR510 => ?_)
        have hag := hag.moved hm510
        have hrow := hrow.moved hm510
        have hag509 := hag509.moved hm510
        refine sim_unroll 3 (by kernel_rfl) ?_
        refine sim_run 12 [] hR510 (by kernel_rfl) trivial (fun ρ511 w511 hm511 hR511 => ?_)
        have hag := hag.moved hm511
        have hrow := hrow.moved hm511
        have hag509 := hag509.moved hm511
        refine sim_idx 5 0 2 2 0 1 (by kernel_rfl) (by omega) ?_
        refine sim_run 18 [] hR511 (by kernel_rfl) trivial (fun ρ512 w512 hm512 hR512 => ?_)
        have hag := hag.moved hm512
        have hrow := hrow.moved hm512
        have hag509 := hag509.moved hm512
        refine sim_call 63 [LI ((atI ys id).state), LI 4] (by kernel_rfl) ?_
        refine Calls.mono (next_any _ _ _) ?_
        rintro e513 w513 ⟨rfl, hb513⟩
        have hR513 := hR512.below hb513
        have hrow := hrow.below hb513
        refine Back.of (.tup [LI ((nextM (atI ys id).state 4).fst), LB ((nextM (atI ys id).state 4).snd)]) hR513 rfl ?_
        refine sim_run 10 [] hR513 (by kernel_rfl) trivial (fun ρ514 w514 hm514 hR514 => ?_)
        have hag := hag.moved hm514
        have hag509 := hag509.moved hm514
        have hrow := hrow.moved hm514
        refine sim_fork 27 ((nextM (atI ys id).state 4).snd) (by kernel_rfl) (fun hq515 => ?_) (fun hq515 => ?_)
        refine sim_run 31 [] hR514 (by kernel_rfl) trivial (fun ρ516 w516 hm516 hR516 => ?_)
        have hag := hag.moved hm516
        have hag509 := hag509.moved hm516
        have hrow := hrow.moved hm516
        refine sim_idx 5 0 2 2 1 1 (by kernel_rfl) (by omega) ?_
        refine sim_run 18 [] hR516 (by kernel_rfl) trivial (fun ρ517 w517 hm517 hR517 => ?_)
        have hag := hag.moved hm517
        have hag509 := hag509.moved hm517
        have hrow := hrow.moved hm517
        refine sim_call 63 [LI ((atI ys m).state), LI 4] (by kernel_rfl) ?_
        refine Calls.mono (next_any _ _ _) ?_
        rintro e518 w518 ⟨rfl, hb518⟩
        have hR518 := hR517.below hb518
        have hrow := hrow.below hb518
        refine Back.of (.tup [LI ((nextM (atI ys m).state 4).fst), LB ((nextM (atI ys m).state 4).snd)]) hR518 rfl ?_
        refine sim_run 10 [] hR518 (by kernel_rfl) trivial (fun ρ519 w519 hm519 hR519 => ?_)
        have hag := hag.moved hm519
        have hag509 := hag509.moved hm519
        have hrow := hrow.moved hm519
        refine sim_fork 27 ((nextM (atI ys m).state 4).snd) (by kernel_rfl) (fun hq520 => ?_) (fun hq520 => ?_)
        refine sim_run 32 [] hR519 (by kernel_rfl) trivial (fun ρ521 w521 hm521 hR521 => ?_)
        have hag := hag.moved hm521
        have hag509 := hag509.moved hm521
        have hrow := hrow.moved hm521
        refine sim_out 6 (LI 2) hR521 (by kernel_rfl) (by kernel_rfl) hag509.ag (by kernel_rfl) ?_
        refine sim_run 8 [⟨8, 0, LI (IntKind.i64.wrap ((↑(k, z).fst : Int) + 1)), LI ((↑(k, z).fst : Int) + 1)⟩] hR521 (by kernel_rfl) ⟨eqi (IntWalk.i64_in _ (by omega)), trivial⟩ (fun ρ522 w522 hm522 hR522 => ?_)
        have hag := hag.moved hm522
        have hag509 := hag509.moved hm522
        have hrow := hrow.moved hm522
        rotate_left
        refine sim_run 20 [] hR519 (by kernel_rfl) trivial (fun ρ523 w523 hm523 hR523 => ?_)
        have hag := hag.moved hm523
        have hag509 := hag509.moved hm523
        have hrow := hrow.moved hm523
        refine sim_out 6 (LI 1) hR523 (by kernel_rfl) (by kernel_rfl) hag509.ag (by kernel_rfl) ?_
        refine sim_run 8 [⟨8, 0, LI (IntKind.i64.wrap ((↑(k, z).fst : Int) + 1)), LI ((↑(k, z).fst : Int) + 1)⟩] hR523 (by kernel_rfl) ⟨eqi (IntWalk.i64_in _ (by omega)), trivial⟩ (fun ρ524 w524 hm524 hR524 => ?_)
        have hag := hag.moved hm524
        have hag509 := hag509.moved hm524
        have hrow := hrow.moved hm524
        rotate_left
        refine sim_run 19 [] hR514 (by kernel_rfl) trivial (fun ρ525 w525 hm525 hR525 => ?_)
        have hag := hag.moved hm525
        have hag509 := hag509.moved hm525
        have hrow := hrow.moved hm525
        refine sim_idx 5 0 2 2 1 1 (by kernel_rfl) (by omega) ?_
        refine sim_run 18 [] hR525 (by kernel_rfl) trivial (fun ρ526 w526 hm526 hR526 => ?_)
        have hag := hag.moved hm526
        have hag509 := hag509.moved hm526
        have hrow := hrow.moved hm526
        refine sim_call 63 [LI ((atI ys m).state), LI 4] (by kernel_rfl) ?_
        refine Calls.mono (next_any _ _ _) ?_
        rintro e527 w527 ⟨rfl, hb527⟩
        have hR527 := hR526.below hb527
        have hrow := hrow.below hb527
        refine Back.of (.tup [LI ((nextM (atI ys m).state 4).fst), LB ((nextM (atI ys m).state 4).snd)]) hR527 rfl ?_
        refine sim_run 10 [] hR527 (by kernel_rfl) trivial (fun ρ528 w528 hm528 hR528 => ?_)
        have hag := hag.moved hm528
        have hag509 := hag509.moved hm528
        have hrow := hrow.moved hm528
        refine sim_fork 27 ((nextM (atI ys m).state 4).snd) (by kernel_rfl) (fun hq529 => ?_) (fun hq529 => ?_)
        refine sim_run 32 [] hR528 (by kernel_rfl) trivial (fun ρ530 w530 hm530 hR530 => ?_)
        have hag := hag.moved hm530
        have hag509 := hag509.moved hm530
        have hrow := hrow.moved hm530
        refine sim_out 6 (LI 1) hR530 (by kernel_rfl) (by kernel_rfl) hag509.ag (by kernel_rfl) ?_
        refine sim_run 8 [⟨8, 0, LI (IntKind.i64.wrap ((↑(k, z).fst : Int) + 1)), LI ((↑(k, z).fst : Int) + 1)⟩] hR530 (by kernel_rfl) ⟨eqi (IntWalk.i64_in _ (by omega)), trivial⟩ (fun ρ531 w531 hm531 hR531 => ?_)
        have hag := hag.moved hm531
        have hag509 := hag509.moved hm531
        have hrow := hrow.moved hm531
        rotate_left
        refine sim_run 20 [] hR528 (by kernel_rfl) trivial (fun ρ532 w532 hm532 hR532 => ?_)
        have hag := hag.moved hm532
        have hag509 := hag509.moved hm532
        have hrow := hrow.moved hm532
        refine sim_out 6 (LI 0) hR532 (by kernel_rfl) (by kernel_rfl) hag509.ag (by kernel_rfl) ?_
        refine sim_run 8 [⟨8, 0, LI (IntKind.i64.wrap ((↑(k, z).fst : Int) + 1)), LI ((↑(k, z).fst : Int) + 1)⟩] hR532 (by kernel_rfl) ⟨eqi (IntWalk.i64_in _ (by omega)), trivial⟩ (fun ρ533 w533 hm533 hR533 => ?_)
        have hag := hag.moved hm533
        have hag509 := hag509.moved hm533
        have hrow := hrow.moved hm533
        rotate_left
        have hq505 := nb_f hq505
        refine sim_run 7 [⟨8, 0, LI (IntKind.i64.wrap ((↑(k, z).fst : Int) + 1)), LI ((↑(k, z).fst : Int) + 1)⟩] hR504 (by kernel_rfl) ⟨eqi (IntWalk.i64_in _ (by omega)), trivial⟩ (fun ρ534 w534 hm534 hR534 => ?_)
        have hag := hag.moved hm534
        have hrow := hrow.moved hm534
        rotate_left
        
        · refine sim_again (k + 1, IntKind.i64.wrap (z + 2)) (by kernel_rfl) (by show n - (k + 1) < n - k; omega) (by kernel_rfl) (by kernel_rfl) (by kernel_rfl) ?_ hR522 (by kernel_rfl) (by kernel_rfl) ⟨hlt, ?_⟩
          · intro q hq
            obtain rfl : q = 0 := by simp at hq; exact hq
            exact (hag.at_ 0 (by omega)).trans ((ha507 0 (by omega)).trans ((ha501 0 (by omega)).trans h40.symm))
          · show Blk _ h _ (insts (expAll xs (ids.take (k + 1))) ++ rest).toArray
            rw [hnext]
            unfold expI
            rw [if_neg (fun hc => hc.elim hin (fun h1 => by rw [open_of hq505] at h1; cases h1)), if_neg (by rw [hmz]; exact hz), hmz, upd2_eq hin hmi hmne, doI_t hq515, doI_t hq520]
            exact hrow.close2 (by omega) (by omega) (by omega) { atI ys id with state := (nextM (atI ys id).state 4).1 } { atI ys m with state := (nextM (atI ys m).state 4).1 } (bk_cell hR522 hag eM _ (by kernel_rfl)) (bk_cell hR522 hag e507 _ (by kernel_rfl))
        · refine sim_again (k + 1, IntKind.i64.wrap (z + 1)) (by kernel_rfl) (by show n - (k + 1) < n - k; omega) (by kernel_rfl) (by kernel_rfl) (by kernel_rfl) ?_ hR524 (by kernel_rfl) (by kernel_rfl) ⟨hlt, ?_⟩
          · intro q hq
            obtain rfl : q = 0 := by simp at hq; exact hq
            exact (hag.at_ 0 (by omega)).trans ((ha507 0 (by omega)).trans ((ha501 0 (by omega)).trans h40.symm))
          · show Blk _ h _ (insts (expAll xs (ids.take (k + 1))) ++ rest).toArray
            rw [hnext]
            unfold expI
            rw [if_neg (fun hc => hc.elim hin (fun h1 => by rw [open_of hq505] at h1; cases h1)), if_neg (by rw [hmz]; exact hz), hmz, upd2_eq hin hmi hmne, doI_t hq515, doI_f hq520]
            exact hrow.close2 (by omega) (by omega) (by omega) { atI ys id with state := (nextM (atI ys id).state 4).1 } (atI ys m) (bk_cell hR524 hag eM _ (by kernel_rfl)) (bk_cell hR524 hag e507 _ (by kernel_rfl))
        · refine sim_again (k + 1, IntKind.i64.wrap (z + 1)) (by kernel_rfl) (by show n - (k + 1) < n - k; omega) (by kernel_rfl) (by kernel_rfl) (by kernel_rfl) ?_ hR531 (by kernel_rfl) (by kernel_rfl) ⟨hlt, ?_⟩
          · intro q hq
            obtain rfl : q = 0 := by simp at hq; exact hq
            exact (hag.at_ 0 (by omega)).trans ((ha507 0 (by omega)).trans ((ha501 0 (by omega)).trans h40.symm))
          · show Blk _ h _ (insts (expAll xs (ids.take (k + 1))) ++ rest).toArray
            rw [hnext]
            unfold expI
            rw [if_neg (fun hc => hc.elim hin (fun h1 => by rw [open_of hq505] at h1; cases h1)), if_neg (by rw [hmz]; exact hz), hmz, upd2_eq hin hmi hmne, doI_f hq515, doI_t hq529]
            exact hrow.close2 (by omega) (by omega) (by omega) (atI ys id) { atI ys m with state := (nextM (atI ys m).state 4).1 } (bk_cell hR531 hag eM _ (by kernel_rfl)) (bk_cell hR531 hag e507 _ (by kernel_rfl))
        · refine sim_again (k + 1, IntKind.i64.wrap (z + 0)) (by kernel_rfl) (by show n - (k + 1) < n - k; omega) (by kernel_rfl) (by kernel_rfl) (by kernel_rfl) ?_ hR533 (by kernel_rfl) (by kernel_rfl) ⟨hlt, ?_⟩
          · intro q hq
            obtain rfl : q = 0 := by simp at hq; exact hq
            exact (hag.at_ 0 (by omega)).trans ((ha507 0 (by omega)).trans ((ha501 0 (by omega)).trans h40.symm))
          · show Blk _ h _ (insts (expAll xs (ids.take (k + 1))) ++ rest).toArray
            rw [hnext]
            unfold expI
            rw [if_neg (fun hc => hc.elim hin (fun h1 => by rw [open_of hq505] at h1; cases h1)), if_neg (by rw [hmz]; exact hz), hmz, upd2_eq hin hmi hmne, doI_f hq515, doI_f hq529]
            exact hrow.close2 (by omega) (by omega) (by omega) (atI ys id) (atI ys m) (bk_cell hR533 hag eM _ (by kernel_rfl)) (bk_cell hR533 hag e507 _ (by kernel_rfl))
        · refine sim_again (k + 1, z) (by kernel_rfl) (by show n - (k + 1) < n - k; omega) (by kernel_rfl) (by kernel_rfl) (by kernel_rfl) ?_ hR534 (by kernel_rfl) (by kernel_rfl) ⟨hlt, ?_⟩
          · intro q hq
            obtain rfl : q = 0 := by simp at hq; exact hq
            exact (hag.at_ 0 (by omega)).trans ((ha501 0 (by omega)).trans h40.symm)
          · show Blk _ h _ (insts (expAll xs (ids.take (k + 1))) ++ rest).toArray
            rw [hnext]
            unfold expI
            rw [if_pos (.inr (open_not hq505))]
            exact hrow.same1 hin (bk_cell hR534 hag eM _ (by kernel_rfl))
  · refine sim_run 5 [] hR2 (by kernel_rfl) trivial (fun ρ600 w600 hm600 hR600 => ?_)
    have hrow := hrow.moved hm600
    have hag0 := hag0.moved hm600
    refine sim_know 12 (decide ((↑(k, z).fst : Int) < (↑n : Int))) false (by kernel_rfl) (decide_eq_false (by omega)) ?_
    refine sim_run 1 [] hR600 (by kernel_rfl) trivial (fun ρ601 w601 hm601 hR601 => ?_)
    have hrow := hrow.moved hm601
    have hag0 := hag0.moved hm601
    refine sim_leave (by kernel_rfl) ?_
    refine sim_run 5 [] hR601 (by kernel_rfl) trivial (fun ρ602 w602 hm602 hR602 => ?_)
    have hrow := hrow.moved hm602
    have hag0 := hag0.moved hm602
    refine sim_ret (LI ((k, z).snd)) hR602 (by kernel_rfl) (by kernel_rfl) ?_
    
    refine ⟨z, rfl, ?_, hR602.keeps.kept⟩
    have h9 := hrow.close0
    have hkn : k = n := by omega
    rw [← hys, hkn, ← hnl, List.take_length] at h9
    exact h9
set_option maxRecDepth 100000 in
theorem expire_nil (A : Option Addr) (n cp Bn : Nat) (ids : List Int) (hids : ∀ i ∈ ids, Is64 i) (w : World) (g : Nat) (hb : Blk w g 85 #[.slice none 0 0]) (hrd : Reads w Bn 1 A n (ints ids)) (hBn : Bn ≤ w.heap.size) (hn : n ≤ 1000000) :
    Calls Try.prog 33 #[.pointer (some ⟨g, 0, none⟩), .slice A n cp] w fun e w' => e = .returned (.int .i64 0) ∧ Below w.heap.size w w' := by
  have hnl := hrd.int_len
  obtain ⟨ρ, e0, hag, hR⟩ := book_nil hb
  refine sim_enter Try.func33 ρ [.ptr 0 0, .v (.slice A n cp)] [⟨[.v (.slice none 0 0)], false⟩] (by kernel_rfl) (by simp only [denL, LV.den, Nm.at_, e0]) ?_
  refine sim_run 16 [] hR (by kernel_rfl) trivial (fun ρ1100 w1100 hm1100 hR1100 => ?_)
  have hag := hag.moved hm1100
  
  have e0 := (hag.at_ 0 (by omega)).trans e0
  refine sim_loop (ι := Nat) (T := []) (w0 := w) 0 [0, 1, 5, 9, 10] (fun x => [(11, LI x)]) (fun _ => [⟨[.v (.slice none 0 0)], false⟩]) (fun x w1 => x ≤ n) (fun x => n - x) (by kernel_rfl) (by kernel_rfl) (hR1100.cast (by kernel_rfl)) (Nat.zero_le _) ?_
  iterate 6 (try clear hag)
  clear hm1100 hR1100 hR
  rintro k d w2 hR2 hk
  have hag0 := hR2.ag_ 1 (by kernel_rfl)
  by_cases hlt : k < n
  · obtain ⟨ga, oa, rfl, _, _⟩ := hrd.spot (by omega) (by omega)
    have hx : (ints ids)[k]? = some (.int .i64 (ids[k]'(by omega))) := by unfold ints; rw [List.getElem?_map, List.getElem?_eq_getElem (by omega)]; rfl
    have hid : Is64 (ids[k]'(by omega)) := hids _ (List.getElem_mem _)
    generalize hidk : ids[k]'(by omega) = id at hx hid
    refine sim_run 5 [] hR2 (by kernel_rfl) trivial (fun ρ1200 w1200 hm1200 hR1200 => ?_)
    have hag0 := hag0.moved hm1200
    refine sim_know 12 (decide ((↑k : Int) < (↑n : Int))) true (by kernel_rfl) (decide_eq_true (by omega)) ?_
    refine sim_run 6 [] hR1200 (by kernel_rfl) trivial (fun ρ1201 w1201 hm1201 hR1201 => ?_)
    have hag0 := hag0.moved hm1201
    refine sim_cell cp k 1 (.int .i64 id) (by kernel_rfl) (by kernel_rfl) hlt hrd hx hBn (by simp) hR1201 (by kernel_rfl) (fun ρ1202 hm1202 hf1202 hR1202 => ?_)
    have hag0 := hag0.moved hm1202
    refine sim_run 7 [] hR1202 (by kernel_rfl) trivial (fun ρ1203 w1203 hm1203 hR1203 => ?_)
    have hag0 := hag0.moved hm1203
    refine sim_call 49 [.ptr 0 0, LI id] (by kernel_rfl) ?_
    have ez0_1204 := (hag0.at_ 0 (by omega)).trans e0
    simp only [denL, LV.den, Nm.at_, ez0_1204, Nat.add_zero]
    refine Calls.mono (at_nil _ (by assumption) _ _ (by have h := (hR1203.at_cell 0 0 (.v (Value.slice none 0 0)) (by kernel_rfl)); simp only [Nm.at_, ez0_1204] at h; exact h)) ?_
    rintro e1204 w1204 ⟨rfl, hb1204⟩
    have hR1204 := hR1203.below hb1204
    refine Back.of (.v (Value.pointer none)) hR1204 rfl ?_
    refine sim_run 22 [⟨8, 0, LI (IntKind.i64.wrap ((↑k : Int) + 1)), LI ((↑k : Int) + 1)⟩] hR1204 (by kernel_rfl) ⟨eqi (IntWalk.i64_in _ (by omega)), trivial⟩ (fun ρ1205 w1205 hm1205 hR1205 => ?_)
    have hag0 := hag0.moved hm1205
    
    refine sim_again (k + 1) (by kernel_rfl) (by show n - (k + 1) < n - k; omega) (by kernel_rfl) (by kernel_rfl) (by kernel_rfl) hag0.ag hR1205 (by kernel_rfl) (by kernel_rfl) hlt
  · refine sim_run 5 [] hR2 (by kernel_rfl) trivial (fun ρ1300 w1300 hm1300 hR1300 => ?_)
    have hag0 := hag0.moved hm1300
    refine sim_know 12 (decide ((↑k : Int) < (↑n : Int))) false (by kernel_rfl) (decide_eq_false (by omega)) ?_
    refine sim_run 1 [] hR1300 (by kernel_rfl) trivial (fun ρ1301 w1301 hm1301 hR1301 => ?_)
    have hag0 := hag0.moved hm1301
    refine sim_leave (by kernel_rfl) ?_
    refine sim_run 5 [] hR1301 (by kernel_rfl) trivial (fun ρ1302 w1302 hm1302 hR1302 => ?_)
    have hag0 := hag0.moved hm1302
    refine sim_ret (LI 0) hR1302 (by kernel_rfl) (by kernel_rfl) ?_
    exact ⟨rfl, hR1302.toBelow⟩
    
theorem expire_bk (B g : Nat) (v : Value) (xs : List In) (A : Option Addr) (n cp Bn : Nat) (ids : List Int) (w : World) (h : BkV w B g v xs) (hxs : okL xs) (hids : ∀ i ∈ ids, Is64 i) (hrd : Reads w Bn 1 A n (ints ids)) (hBn : Bn ≤ w.heap.size) (hA : 0 < n → ∀ a, A = some a → v.ownBlock ≠ some a.block) (hn : n ≤ 1000000) :
    Calls Try.prog 33 #[.pointer (some ⟨g, 0, none⟩), .slice A n cp] w fun e w' => ∃ z, BkQ w B g v (expAll xs ids) (.int .i64 z) e w' := by
  rcases h.form with ⟨rfl, rfl⟩ | ⟨hb, cap, rest, rfl, hs, h1, _, h3, h4⟩
  · have e1 : expAll [] ids = [] := List.eq_nil_of_length_eq_zero (expAll_len ..)
    rw [e1]
    exact (expire_nil A n cp Bn ids hids w g h.cell hrd hBn hn).mono (fun e w' hp => ⟨0, bkq_nil h hp⟩)
  · exact (expire_slc g hb xs.length cap xs rest A n cp Bn ids hids hxs w hs hrd hBn (fun h0 a ha => by have := hA h0 a ha; simp only [Value.ownBlock, ne_eq, Option.some.injEq] at this; simp; exact fun e => this e.symm) hn).mono (fun e w' ⟨z, hp⟩ => ⟨z, hp.q hs h1 h.ge h3 h4 (expAll_len ..)⟩)
end Go.Proofs.Ytodjhkmbgennaaa
