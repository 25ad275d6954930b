/-
  book: Keep, SetPart, SetPrio, Cancel: what they leave.
-/
import Derived.Test.YtodjhkmbgennaaaBookD
namespace Go.Proofs.Ytodjhkmbgennaaa
open Go Go.RowKit
attribute [local irreducible] run goO goN ordGoN eqlOf eqlOper eqlOfO cellL leaveK someK nextK nextT nextOT nextOD loopBody loopRest loopK fillJ tmplOf tmplJ mergeT At AtO drawOk ordOf gateOf callC callO topOp topO idxOf appOf storeOf clearOf sliceOf calleeOf calleeO topQ idxQ newRowOf resL stepOp seek

/-- an element written -/
def updI (xs : List In) (id : Int) (f : In → In) : List In := xs.set (id - 1).toNat (f (atI xs id))
def keepM (xs : List In) (party : ByteArray) (id : Int) : List In := if mayM xs party id = 0 then updI xs id (fun x => { x with wish := false }) else xs
theorem may_in {xs : List In} {party : ByteArray} {id : Int} (h : mayM xs party id = 0) : ¬outB xs id := by
  intro ho
  unfold mayM at h
  rw [if_pos ho] at h
  omega
/-- of a book with a row -/
structure BkS (w : World) (g h len cap : Nat) (xs : List In) (rest : List Value) : Prop where
  box : Blk w g 85 #[.slice (some ⟨h, 0, none⟩) len cap]
  row : Blk w h 25 (insts xs ++ rest).toArray
  len : xs.length = len
  ne : g ≠ h
theorem may_row (h len cap : Nat) (xs : List In) (rest : List Value) (party : ByteArray) (id : Int) (hid : Is64 id) (w : World) (g : Nat) (hg : w.cell? ⟨g, 0, none⟩ = some (.slice (some ⟨h, 0, none⟩) len cap)) (hb : Blk w h 25 (insts xs ++ rest).toArray) (hl : xs.length = len) :
    Calls Try.prog 51 #[.pointer (some ⟨g, 0, none⟩), .string party, .int .i64 id] w fun e w' => e = .returned (.int .i64 (mayM xs party id)) ∧ Below w.heap.size w w' := by
  refine may_any (some ⟨h, 0, none⟩) len cap w.heap.size xs party id hid w g hg (fun _ => ⟨h, rfl⟩) ⟨by rw [insts_length, hl], fun _ => ⟨_, rfl, hb.lt, fun j u hu => ?_⟩⟩ (Nat.le_refl _)
  have e : (⟨h, 0, none⟩ : Addr).add j = ⟨h, j, none⟩ := by unfold Addr.add; by_cases hj : j = 0 <;> simp [hj]
  rw [e, hb.cell]
  simp only [List.getElem?_toArray]
  rw [List.getElem?_append_left (by exact (List.getElem?_eq_some_iff.1 hu).1), hu]
theorem bk_cell {ρ ρb : Nm} {n k N0 : Nat} {w : World} {T : List Nat} {w0 : World} {rs : List Reg} {h : Nat} (hR : Rel T w0 ρ rs w) (hag : Ag N0 ρb ρ rs) (e0 : ρb n = (h, k * 21)) (y : In) (hc : rs[n]? = some ⟨y.cells.map .v, true⟩) (j : Nat) (v : Value) (hv : y.cells[j]? = some v) (hn : n < N0 := by omega) : w.cell? ⟨h, k * 21 + j, none⟩ = some v := by
  have e := (hag.at_ n hn).trans e0
  have := hR.cell n _ hc j (.v v) (by simp only [List.getElem?_map, hv, Option.map_some])
  simp only [Nm.at_, e, LV.den] at this
  exact this
theorem book_start {w : World} {g h len cap : Nat} {xs : List In} {rest : List Value} (hs : BkS w g h len cap xs rest) :
    ∃ ρ : Nm, ρ 0 = (g, 0) ∧ Ag 1 ρ ρ [⟨[.v (.slice (some ⟨h, 0, none⟩) len cap)], false⟩] ∧ Rel [h] w ρ [⟨[.v (.slice (some ⟨h, 0, none⟩) len cap)], false⟩] w ∧ RowI ρ [⟨[.v (.slice (some ⟨h, 0, none⟩) len cap)], false⟩] w h xs rest [] := by
  have hg : w.cell? ⟨g, 0, none⟩ = some (.slice (some ⟨h, 0, none⟩) len cap) := hs.box.cell 0
  obtain ⟨ρ, _, e0, hR⟩ := (Rel.start [h] w ρ0).open_ rfl g 0 [.v (.slice (some ⟨h, 0, none⟩) len cap)] rfl false (World.block_lt_of_cell? _ _ hg) (fun j v hv => by
    match j, hv with
    | 0, hv => injection hv with hv; rw [← hv]; exact hg) (fun h => by cases h) (fun n r hn => by simp at hn)
  exact ⟨ρ, e0, .start 1 ρ _ rfl, hR.cast rfl, .start hs.row _ _ rfl⟩
/-- what a method leaves in place -/
def BkPost (w : World) (h : Nat) (rest : List Value) (xs' : List In) (ec : Int) (e : Ending) (w' : World) : Prop := e = .returned (.int .i64 ec) ∧ Blk w' h 25 (insts xs' ++ rest).toArray ∧ Kept (· ∈ [h]) w w'
set_option maxRecDepth 100000 in
theorem keep_slc (g h len cap : Nat) (xs : List In) (rest : List Value) (party : ByteArray) (id : Int) (hid : Is64 id) (w : World) (hs : BkS w g h len cap xs rest) :
    Calls Try.prog 26 #[.pointer (some ⟨g, 0, none⟩), .string party, .int .i64 id] w (BkPost w h rest (keepM xs party id) (mayM xs party id)) := by
  have hl := hs.len
  have hne := hs.ne
  obtain ⟨ρ, e0, hag, hR, hrow⟩ := book_start hs
  refine sim_enter Try.func26 ρ [.ptr 0 0, LS party, LI id] [⟨[.v (.slice (some ⟨h, 0, none⟩) len cap)], false⟩] (by kernel_rfl) (by simp only [denL, LV.den, Nm.at_, e0]) ?_
  unfold BkPost keepM
  refine sim_run 9 [] hR (by kernel_rfl) trivial (fun ρ100 w100 hm100 hR100 => ?_)
  have hag := hag.moved hm100
  have hrow := hrow.moved hm100
  refine sim_call 51 [.ptr 0 0, LS party, LI id] (by kernel_rfl) ?_
  have ez0_101 := (hag.at_ 0 (by omega)).trans e0
  simp only [denL, LV.den, Nm.at_, ez0_101, Nat.add_zero]
  refine Calls.mono (may_row _ _ _ _ _ _ _ (by assumption) _ _ (by have h := (hR100.at_cell 0 0 (.v (Value.slice (some (Addr.mk h 0 none)) len cap)) (by kernel_rfl)); simp only [Nm.at_, ez0_101] at h; exact h) hrow.close0 (by assumption)) ?_
  rintro e101 w101 ⟨rfl, hb101⟩
  have hR101 := hR100.below hb101
  have hrow := hrow.below hb101
  refine Back.of (LI (mayM xs party id)) hR101 rfl ?_
  refine sim_run 8 [] hR101 (by kernel_rfl) trivial (fun ρ102 w102 hm102 hR102 => ?_)
  have hag := hag.moved hm102
  have hrow := hrow.moved hm102
  refine sim_fork 13 (mayM xs party id == 0) (by kernel_rfl) (fun hq103 => ?_) (fun hq103 => ?_)
  have hq103 := of_decide_eq_true hq103
  refine sim_run 4 [] hR102 (by kernel_rfl) trivial (fun ρ104 w104 hm104 hR104 => ?_)
  have hag := hag.moved hm104
  have hrow := hrow.moved hm104
  rotate_left
  have hq103 := of_decide_eq_false hq103
  refine sim_run 7 [] hR102 (by kernel_rfl) trivial (fun ρ105 w105 hm105 hR105 => ?_)
  have hag := hag.moved hm105
  have hrow := hrow.moved hm105
  refine sim_ret (LI (mayM xs party id)) hR105 (by kernel_rfl) (by kernel_rfl) ?_
  rotate_left
  
  · have hin := may_in hq103
    have ho : ¬(id < 1 ∨ id > len) := by rw [← hl]; exact hin
    rw [if_pos hq103]
    refine sim_call 49 [.ptr 0 0, LI id] (by kernel_rfl) ?_
    have ez0_200 := (hag.at_ 0 (by omega)).trans e0
    simp only [denL, LV.den, Nm.at_, ez0_200, Nat.add_zero]
    refine Calls.mono (at_in _ _ _ _ (by assumption) _ _ _ (by assumption) (by have h := (hR104.at_cell 0 0 (.v (Value.slice (some (Addr.mk h 0 none)) len cap)) (by kernel_rfl)); simp only [Nm.at_, ez0_200] at h; exact h)) ?_
    rintro e200 w200 ⟨rfl, hb200⟩
    have hQ200 := hR104.below hb200
    have hrow := hrow.below hb200
    refine Back.elem _ 1 hrow hag (by kernel_rfl) (by omega) (by simp; try omega) (.inl (by simp)) hQ200 (by kernel_rfl) [0] (by kernel_rfl) (by intro k hk; simp only [List.mem_singleton] at hk; subst hk; rw [e0]; exact ⟨by omega, hne⟩) rfl (fun x200 ρ200 hx200 ha200 e200 hag hR200 hrow => ?_)
    obtain rfl := atI_of hx200
    have e0 := (ha200 0 (by omega)).trans e0
    refine sim_run 9 [] hR200 (by kernel_rfl) trivial (fun ρ201 w201 hm201 hR201 => ?_)
    have hag := hag.moved hm201
    have hrow := hrow.moved hm201
    refine sim_ret (LI (mayM xs party id)) hR201 (by kernel_rfl) (by kernel_rfl) ?_
    exact ⟨rfl, hrow.close1 (by omega) { atI xs id with wish := false } (bk_cell hR201 hag e200 _ (by kernel_rfl)), hR201.keeps.kept⟩
    
  · rw [if_neg hq103]
    exact ⟨rfl, hrow.close0, hR105.keeps.kept⟩
def setPartM (xs : List In) (party : ByteArray) (id : Int) (on : Bool) : List In := if mayM xs party id = 0 then updI xs id (fun x => { x with part := on }) else xs
set_option maxRecDepth 100000 in
theorem setPart_slc (g h len cap : Nat) (xs : List In) (rest : List Value) (party : ByteArray) (id : Int) (on : Bool) (hid : Is64 id) (w : World) (hs : BkS w g h len cap xs rest) :
    Calls Try.prog 30 #[.pointer (some ⟨g, 0, none⟩), .string party, .int .i64 id, .bool on] w (BkPost w h rest (setPartM xs party id on) (mayM xs party id)) := by
  have hl := hs.len
  have hne := hs.ne
  obtain ⟨ρ, e0, hag, hR, hrow⟩ := book_start hs
  refine sim_enter Try.func30 ρ [.ptr 0 0, LS party, LI id, LB on] [⟨[.v (.slice (some ⟨h, 0, none⟩) len cap)], false⟩] (by kernel_rfl) (by simp only [denL, LV.den, Nm.at_, e0]) ?_
  unfold BkPost setPartM
  refine sim_run 9 [] hR (by kernel_rfl) trivial (fun ρ300 w300 hm300 hR300 => ?_)
  have hag := hag.moved hm300
  have hrow := hrow.moved hm300
  refine sim_call 51 [.ptr 0 0, LS party, LI id] (by kernel_rfl) ?_
  have ez0_301 := (hag.at_ 0 (by omega)).trans e0
  simp only [denL, LV.den, Nm.at_, ez0_301, Nat.add_zero]
  refine Calls.mono (may_row _ _ _ _ _ _ _ (by assumption) _ _ (by have h := (hR300.at_cell 0 0 (.v (Value.slice (some (Addr.mk h 0 none)) len cap)) (by kernel_rfl)); simp only [Nm.at_, ez0_301] at h; exact h) hrow.close0 (by assumption)) ?_
  rintro e301 w301 ⟨rfl, hb301⟩
  have hR301 := hR300.below hb301
  have hrow := hrow.below hb301
  refine Back.of (LI (mayM xs party id)) hR301 rfl ?_
  refine sim_run 8 [] hR301 (by kernel_rfl) trivial (fun ρ302 w302 hm302 hR302 => ?_)
  have hag := hag.moved hm302
  have hrow := hrow.moved hm302
  refine sim_fork 15 (mayM xs party id == 0) (by kernel_rfl) (fun hq303 => ?_) (fun hq303 => ?_)
  have hq303 := of_decide_eq_true hq303
  refine sim_run 4 [] hR302 (by kernel_rfl) trivial (fun ρ304 w304 hm304 hR304 => ?_)
  have hag := hag.moved hm304
  have hrow := hrow.moved hm304
  rotate_left
  have hq303 := of_decide_eq_false hq303
  refine sim_run 7 [] hR302 (by kernel_rfl) trivial (fun ρ305 w305 hm305 hR305 => ?_)
  have hag := hag.moved hm305
  have hrow := hrow.moved hm305
  refine sim_ret (LI (mayM xs party id)) hR305 (by kernel_rfl) (by kernel_rfl) ?_
  rotate_left
  
  · have hin := may_in hq303
    have ho : ¬(id < 1 ∨ id > len) := by rw [← hl]; exact hin
    rw [if_pos hq303]
    refine sim_call 49 [.ptr 0 0, LI id] (by kernel_rfl) ?_
    have ez0_400 := (hag.at_ 0 (by omega)).trans e0
    simp only [denL, LV.den, Nm.at_, ez0_400, Nat.add_zero]
    refine Calls.mono (at_in _ _ _ _ (by assumption) _ _ _ (by assumption) (by have h := (hR304.at_cell 0 0 (.v (Value.slice (some (Addr.mk h 0 none)) len cap)) (by kernel_rfl)); simp only [Nm.at_, ez0_400] at h; exact h)) ?_
    rintro e400 w400 ⟨rfl, hb400⟩
    have hQ400 := hR304.below hb400
    have hrow := hrow.below hb400
    refine Back.elem _ 1 hrow hag (by kernel_rfl) (by omega) (by simp; try omega) (.inl (by simp)) hQ400 (by kernel_rfl) [0] (by kernel_rfl) (by intro k hk; simp only [List.mem_singleton] at hk; subst hk; rw [e0]; exact ⟨by omega, hne⟩) rfl (fun x400 ρ400 hx400 ha400 e400 hag hR400 hrow => ?_)
    obtain rfl := atI_of hx400
    have e0 := (ha400 0 (by omega)).trans e0
    refine sim_run 10 [] hR400 (by kernel_rfl) trivial (fun ρ401 w401 hm401 hR401 => ?_)
    have hag := hag.moved hm401
    have hrow := hrow.moved hm401
    refine sim_ret (LI (mayM xs party id)) hR401 (by kernel_rfl) (by kernel_rfl) ?_
    exact ⟨rfl, hrow.close1 (by omega) { atI xs id with part := on } (bk_cell hR401 hag e400 _ (by kernel_rfl)), hR401.keeps.kept⟩
    
  · rw [if_neg hq303]
    exact ⟨rfl, hrow.close0, hR305.keeps.kept⟩
def setPrioM (xs : List In) (party : ByteArray) (id prio : Int) : List In × Int := if mayM xs party id = 0 then (if isPrioB prio then (updI xs id (fun x => { x with prio := prio }), 0) else (xs, 1)) else (xs, mayM xs party id)
set_option maxRecDepth 100000 in
theorem setPrio_slc (g h len cap : Nat) (xs : List In) (rest : List Value) (party : ByteArray) (id prio : Int) (hid : Is64 id) (w : World) (hs : BkS w g h len cap xs rest) :
    Calls Try.prog 29 #[.pointer (some ⟨g, 0, none⟩), .string party, .int .i64 id, .int .i64 prio] w (BkPost w h rest (setPrioM xs party id prio).1 (setPrioM xs party id prio).2) := by
  have hl := hs.len
  have hne := hs.ne
  obtain ⟨ρ, e0, hag, hR, hrow⟩ := book_start hs
  refine sim_enter Try.func29 ρ [.ptr 0 0, LS party, LI id, LI prio] [⟨[.v (.slice (some ⟨h, 0, none⟩) len cap)], false⟩] (by kernel_rfl) (by simp only [denL, LV.den, Nm.at_, e0]) ?_
  unfold BkPost setPrioM
  refine sim_run 10 [] hR (by kernel_rfl) trivial (fun ρ500 w500 hm500 hR500 => ?_)
  have hag := hag.moved hm500
  have hrow := hrow.moved hm500
  refine sim_call 51 [.ptr 0 0, LS party, LI id] (by kernel_rfl) ?_
  have ez0_501 := (hag.at_ 0 (by omega)).trans e0
  simp only [denL, LV.den, Nm.at_, ez0_501, Nat.add_zero]
  refine Calls.mono (may_row _ _ _ _ _ _ _ (by assumption) _ _ (by have h := (hR500.at_cell 0 0 (.v (Value.slice (some (Addr.mk h 0 none)) len cap)) (by kernel_rfl)); simp only [Nm.at_, ez0_501] at h; exact h) hrow.close0 (by assumption)) ?_
  rintro e501 w501 ⟨rfl, hb501⟩
  have hR501 := hR500.below hb501
  have hrow := hrow.below hb501
  refine Back.of (LI (mayM xs party id)) hR501 rfl ?_
  refine sim_run 7 [] hR501 (by kernel_rfl) trivial (fun ρ502 w502 hm502 hR502 => ?_)
  have hag := hag.moved hm502
  have hrow := hrow.moved hm502
  refine sim_fork 15 (mayM xs party id != 0) (by kernel_rfl) (fun hq503 => ?_) (fun hq503 => ?_)
  have hq503 := nb_t hq503
  have hq503 := of_decide_eq_false hq503
  refine sim_run 6 [] hR502 (by kernel_rfl) trivial (fun ρ504 w504 hm504 hR504 => ?_)
  have hag := hag.moved hm504
  have hrow := hrow.moved hm504
  refine sim_ret (LI (mayM xs party id)) hR504 (by kernel_rfl) (by kernel_rfl) ?_
  rotate_left
  have hq503 := nb_f hq503
  have hq503 := of_decide_eq_true hq503
  refine sim_run 6 [] hR502 (by kernel_rfl) trivial (fun ρ505 w505 hm505 hR505 => ?_)
  have hag := hag.moved hm505
  have hrow := hrow.moved hm505
  refine sim_call 47 [LI prio] (by kernel_rfl) ?_
  refine Calls.mono (isPrio_any _ _) ?_
  rintro e506 w506 ⟨rfl, hb506⟩
  have hR506 := hR505.below hb506
  have hrow := hrow.below hb506
  refine Back.of (LB (isPrioB prio)) hR506 rfl ?_
  refine sim_run 2 [] hR506 (by kernel_rfl) trivial (fun ρ507 w507 hm507 hR507 => ?_)
  have hag := hag.moved hm507
  have hrow := hrow.moved hm507
  refine sim_fork 19 (!isPrioB prio) (by kernel_rfl) (fun hq508 => ?_) (fun hq508 => ?_)
  have hq508 := nb_t hq508
  refine sim_run 5 [] hR507 (by kernel_rfl) trivial (fun ρ509 w509 hm509 hR509 => ?_)
  have hag := hag.moved hm509
  have hrow := hrow.moved hm509
  refine sim_ret (LI 1) hR509 (by kernel_rfl) (by kernel_rfl) ?_
  rotate_left
  have hq508 := nb_f hq508
  refine sim_run 6 [] hR507 (by kernel_rfl) trivial (fun ρ510 w510 hm510 hR510 => ?_)
  have hag := hag.moved hm510
  have hrow := hrow.moved hm510
  rotate_left
  
  · rw [if_neg hq503]
    exact ⟨rfl, hrow.close0, hR504.keeps.kept⟩
  · rw [if_pos hq503, if_neg (by rw [hq508]; simp)]
    exact ⟨rfl, hrow.close0, hR509.keeps.kept⟩
  · have hin := may_in hq503
    have ho : ¬(id < 1 ∨ id > len) := by rw [← hl]; exact hin
    rw [if_pos hq503, if_pos hq508]
    refine sim_call 49 [.ptr 0 0, LI id] (by kernel_rfl) ?_
    have ez0_600 := (hag.at_ 0 (by omega)).trans e0
    simp only [denL, LV.den, Nm.at_, ez0_600, Nat.add_zero]
    refine Calls.mono (at_in _ _ _ _ (by assumption) _ _ _ (by assumption) (by have h := (hR510.at_cell 0 0 (.v (Value.slice (some (Addr.mk h 0 none)) len cap)) (by kernel_rfl)); simp only [Nm.at_, ez0_600] at h; exact h)) ?_
    rintro e600 w600 ⟨rfl, hb600⟩
    have hQ600 := hR510.below hb600
    have hrow := hrow.below hb600
    refine Back.elem _ 1 hrow hag (by kernel_rfl) (by omega) (by simp; try omega) (.inl (by simp)) hQ600 (by kernel_rfl) [0] (by kernel_rfl) (by intro k hk; simp only [List.mem_singleton] at hk; subst hk; rw [e0]; exact ⟨by omega, hne⟩) rfl (fun x600 ρ600 hx600 ha600 e600 hag hR600 hrow => ?_)
    obtain rfl := atI_of hx600
    have e0 := (ha600 0 (by omega)).trans e0
    refine sim_run 9 [] hR600 (by kernel_rfl) trivial (fun ρ601 w601 hm601 hR601 => ?_)
    have hag := hag.moved hm601
    have hrow := hrow.moved hm601
    refine sim_ret (LI 0) hR601 (by kernel_rfl) (by kernel_rfl) ?_
    exact ⟨rfl, hrow.close1 (by omega) { atI xs id with prio := prio } (bk_cell hR601 hag e600 _ (by kernel_rfl)), hR601.keeps.kept⟩
    
/-- an event is done -/
def doI (e : Int) (x : In) : In := if (nextM x.state e).2 then { x with state := (nextM x.state e).1 } else x
/-- the mate's Id, 0 if there is none -/
def mateI (xs : List In) (id : Int) : Int := if outB xs (atI xs id).mate ∨ (atI xs id).mate = id then 0 else (atI xs id).mate
def cancelM (xs : List In) (party : ByteArray) (id : Int) : List In × Int :=
  if mayM xs party id ≠ 0 then (xs, mayM xs party id)
  else if (atI xs id).state = 0 then (updI xs id (doI 3), 0)
  else
    let ys := updI xs id (fun x => { x with wish := true })
    if mateI xs id ≠ 0 ∧ (atI xs (mateI xs id)).wish then (updI (updI ys id (doI 3)) (mateI xs id) (doI 3), 0) else (ys, 0)
end Go.Proofs.Ytodjhkmbgennaaa
