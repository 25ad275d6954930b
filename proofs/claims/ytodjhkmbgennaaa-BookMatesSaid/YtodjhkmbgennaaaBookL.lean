/-
  book: the methods over a book at large.
-/
import Derived.Test.YtodjhkmbgennaaaBookI
import Derived.Test.YtodjhkmbgennaaaBookK
namespace Go.Proofs.Ytodjhkmbgennaaa
open Go Go.RowKit
attribute [local irreducible] run goO goN ordGoN eqlOf eqlOper eqlOfO cellL leaveK someK nextK nextT nextOT nextOD loopBody loopRest loopK fillJ tmplOf tmplJ mergeT At AtO drawOk ordOf gateOf callC callO topOp topO idxOf appOf storeOf clearOf sliceOf calleeOf calleeO topQ idxQ newRowOf resL stepOp seek

/-- a book whose row is nil, or has a block -/
theorem BkV.form {w : World} {B g : Nat} {v : Value} {xs : List In} (h : BkV w B g v xs) : (v = .slice none 0 0 ∧ xs = []) ∨ ∃ (hb cap : Nat) (rest : List Value), v = .slice (some ⟨hb, 0, none⟩) xs.length cap ∧ BkS w g hb xs.length cap xs rest ∧ B ≤ hb ∧ xs.length ≤ cap ∧ cap ≤ maxLen ∧ (insts xs ++ rest).length = cap * 21 := by
  rcases h.row.2 with ⟨rfl, h0⟩ | ⟨hb, cap, cur, rfl, h1, h2, h3, h4, h5, h6⟩
  · exact .inl ⟨rfl, List.eq_nil_of_length_eq_zero h0⟩
  · have e : cur.toList = insts xs ++ cur.toList.drop (xs.length * 21) := by rw [← h6, List.take_append_drop]
    refine .inr ⟨hb, cap, cur.toList.drop (xs.length * 21), rfl, ⟨h.cell, ?_, rfl, fun e => h.ne (by simp [Value.ownBlock, e])⟩, h1, h3, h4, ?_⟩
    · rw [← e]
      exact h2
    · rw [← e, Array.length_toList, h5]
/-- what a method leaves -/
def BkQ (w : World) (B g : Nat) (v : Value) (xs' : List In) (V : Value) (e : Ending) (w' : World) : Prop :=
  ∃ v', e = .returned V ∧ BkV w' B g v' xs' ∧ Kept (fun k => k = g ∨ v.ownBlock = some k) w w' ∧ (v'.ownBlock = v.ownBlock ∨ ∃ k, w.heap.size ≤ k ∧ v'.ownBlock = some k)
theorem BkPost.q {w w' : World} {B g h cap : Nat} {xs xs' : List In} {rest : List Value} {ec : Int} {e : Ending} (hs : BkS w g h xs.length cap xs rest) (hb : B ≤ h) (hg : B ≤ g) (hm : cap ≤ maxLen) (hl : (insts xs ++ rest).length = cap * 21) (hx : xs'.length = xs.length) (hp : BkPost w h rest xs' ec e w') :
    BkQ w B g (.slice (some ⟨h, 0, none⟩) xs.length cap) xs' (.int .i64 ec) e w' := by
  obtain ⟨he, h1, h2⟩ := hp
  refine ⟨.slice (some ⟨h, 0, none⟩) xs.length cap, he, ⟨?_, ?_, ?_, hg⟩, h2.mono (fun x hx => .inl (.inr (by simp at hx; simp [Value.ownBlock, hx]))), .inl rfl⟩
  · exact (h2.block g hs.box.lt (by simpa using hs.ne)).trans hs.box
  · have hl2 := insts_length xs
    have hl3 := insts_length xs'
    rw [List.length_append] at hl
    rw [← hx]
    exact own_of_blk (cur := insts xs' ++ rest) h1 hb (by omega) hm (by rw [List.length_append]; rw [hx] at hl3; omega) (by rw [← hl3, List.take_left]) rfl
  · have := hs.ne
    simp only [Value.ownBlock, ne_eq, Option.some.injEq]
    exact fun e => this e.symm
theorem BkV.below {w w' : World} {B g : Nat} {v : Value} {xs : List In} (h : BkV w B g v xs) (hb : Below w.heap.size w w') : BkV w' B g v xs :=
  ⟨h.cell.below hb h.cell.lt, own_kept (S := fun _ => False) h.row (Kept.of_below _ hb) (fun _ _ h => h), h.ne, h.ge⟩
theorem bkq_nil {w w' : World} {B g : Nat} {V : Value} {e : Ending} (h : BkV w B g (.slice none 0 0) []) (hp : e = .returned V ∧ Below w.heap.size w w') : BkQ w B g (.slice none 0 0) [] V e w' :=
  ⟨.slice none 0 0, hp.1, h.below hp.2, Kept.of_below _ hp.2, .inl rfl⟩
theorem may_nilM (party : ByteArray) (id : Int) : mayM [] party id = 3 := by
  unfold mayM
  rw [if_pos (by unfold outB; simp; omega)]
theorem outB_nil (id : Int) : outB [] id := by unfold outB; simp; omega
theorem may_nil (party : ByteArray) (id : Int) (hid : Is64 id) (w : World) (g : Nat) (hg : w.cell? ⟨g, 0, none⟩ = some (.slice none 0 0)) :
    Calls Try.prog 51 #[.pointer (some ⟨g, 0, none⟩), .string party, .int .i64 id] w fun e w' => e = .returned (.int .i64 3) ∧ Below w.heap.size w w' := by
  have := may_any none 0 0 w.heap.size [] party id hid w g hg (fun h => absurd h (by omega)) ⟨rfl, fun h => absurd h (by omega)⟩ (Nat.le_refl _)
  rw [may_nilM] at this
  exact this
theorem at_nil (id : Int) (hid : Is64 id) (w : World) (g : Nat) (hg : w.cell? ⟨g, 0, none⟩ = some (.slice none 0 0)) :
    Calls Try.prog 49 #[.pointer (some ⟨g, 0, none⟩), .int .i64 id] w fun e w' => e = .returned (.pointer none) ∧ Below w.heap.size w w' :=
  at_out none 0 0 id hid w g 0 (by omega) hg (fun h => absurd h (by omega))
theorem book_nil {w : World} {g : Nat} (hb : Blk w g 85 #[.slice none 0 0]) : ∃ ρ : Nm, ρ 0 = (g, 0) ∧ Ag 1 ρ ρ [⟨[.v (.slice none 0 0)], false⟩] ∧ Rel [] w ρ [⟨[.v (.slice none 0 0)], false⟩] w := by
  have hg : w.cell? ⟨g, 0, none⟩ = some (.slice none 0 0) := hb.cell 0
  obtain ⟨ρ, _, e0, hR⟩ := (Rel.start [] w ρ0).open_ rfl g 0 [.v (.slice none 0 0)] rfl false (World.block_lt_of_cell? _ _ hg) (fun j v hv => by
    match j, hv with
    | 0, hv => injection hv with hv; rw [← hv]; exact hg) (fun h => by cases h) (fun n r hn => by simp at hn)
  exact ⟨ρ, e0, .start 1 ρ _ rfl, hR.cast rfl⟩
set_option maxRecDepth 100000 in
theorem keep_nil (party : ByteArray) (id : Int) (hid : Is64 id) (w : World) (g : Nat) (hb : Blk w g 85 #[.slice none 0 0]) :
    Calls Try.prog 26 #[.pointer (some ⟨g, 0, none⟩), .string party, .int .i64 id] w fun e w' => e = .returned (.int .i64 3) ∧ Below w.heap.size w w' := by
  obtain ⟨ρ, e0, hag, hR⟩ := book_nil hb
  refine sim_enter Try.func26 ρ [.ptr 0 0, LS party, LI id] [⟨[.v (.slice none 0 0)], false⟩] (by kernel_rfl) (by simp only [denL, LV.den, Nm.at_, e0]) ?_
  refine sim_run 9 [] hR (by kernel_rfl) trivial (fun ρ100 w100 hm100 hR100 => ?_)
  have hag := hag.moved hm100
  refine sim_call 51 [.ptr 0 0, LS party, LI id] (by kernel_rfl) ?_
  have ez0_101 := (hag.at_ 0 (by omega)).trans e0
  simp only [denL, LV.den, Nm.at_, ez0_101, Nat.add_zero]
  refine Calls.mono (may_nil _ _ (by assumption) _ _ (by have h := (hR100.at_cell 0 0 (.v (Value.slice none 0 0)) (by kernel_rfl)); simp only [Nm.at_, ez0_101] at h; exact h)) ?_
  rintro e101 w101 ⟨rfl, hb101⟩
  have hR101 := hR100.below hb101
  refine Back.of (LI 3) hR101 rfl ?_
  refine sim_run 15 [] hR101 (by kernel_rfl) trivial (fun ρ102 w102 hm102 hR102 => ?_)
  have hag := hag.moved hm102
  refine sim_ret (LI 3) hR102 (by kernel_rfl) (by kernel_rfl) ?_
  exact ⟨rfl, hR102.toBelow⟩
  
set_option maxRecDepth 100000 in
theorem setPart_nil (party : ByteArray) (id : Int) (on : Bool) (hid : Is64 id) (w : World) (g : Nat) (hb : Blk w g 85 #[.slice none 0 0]) :
    Calls Try.prog 30 #[.pointer (some ⟨g, 0, none⟩), .string party, .int .i64 id, .bool on] w fun e w' => e = .returned (.int .i64 3) ∧ Below w.heap.size w w' := by
  obtain ⟨ρ, e0, hag, hR⟩ := book_nil hb
  refine sim_enter Try.func30 ρ [.ptr 0 0, LS party, LI id, LB on] [⟨[.v (.slice none 0 0)], false⟩] (by kernel_rfl) (by simp only [denL, LV.den, Nm.at_, e0]) ?_
  refine sim_run 9 [] hR (by kernel_rfl) trivial (fun ρ200 w200 hm200 hR200 => ?_)
  have hag := hag.moved hm200
  refine sim_call 51 [.ptr 0 0, LS party, LI id] (by kernel_rfl) ?_
  have ez0_201 := (hag.at_ 0 (by omega)).trans e0
  simp only [denL, LV.den, Nm.at_, ez0_201, Nat.add_zero]
  refine Calls.mono (may_nil _ _ (by assumption) _ _ (by have h := (hR200.at_cell 0 0 (.v (Value.slice none 0 0)) (by kernel_rfl)); simp only [Nm.at_, ez0_201] at h; exact h)) ?_
  rintro e201 w201 ⟨rfl, hb201⟩
  have hR201 := hR200.below hb201
  refine Back.of (LI 3) hR201 rfl ?_
  refine sim_run 15 [] hR201 (by kernel_rfl) trivial (fun ρ202 w202 hm202 hR202 => ?_)
  have hag := hag.moved hm202
  refine sim_ret (LI 3) hR202 (by kernel_rfl) (by kernel_rfl) ?_
  exact ⟨rfl, hR202.toBelow⟩
  
set_option maxRecDepth 100000 in
theorem setPrio_nil (party : ByteArray) (id prio : Int) (hid : Is64 id) (w : World) (g : Nat) (hb : Blk w g 85 #[.slice none 0 0]) :
    Calls Try.prog 29 #[.pointer (some ⟨g, 0, none⟩), .string party, .int .i64 id, .int .i64 prio] w fun e w' => e = .returned (.int .i64 3) ∧ Below w.heap.size w w' := by
  obtain ⟨ρ, e0, hag, hR⟩ := book_nil hb
  refine sim_enter Try.func29 ρ [.ptr 0 0, LS party, LI id, LI prio] [⟨[.v (.slice none 0 0)], false⟩] (by kernel_rfl) (by simp only [denL, LV.den, Nm.at_, e0]) ?_
  refine sim_run 10 [] hR (by kernel_rfl) trivial (fun ρ300 w300 hm300 hR300 => ?_)
  have hag := hag.moved hm300
  refine sim_call 51 [.ptr 0 0, LS party, LI id] (by kernel_rfl) ?_
  have ez0_301 := (hag.at_ 0 (by omega)).trans e0
  simp only [denL, LV.den, Nm.at_, ez0_301, Nat.add_zero]
  refine Calls.mono (may_nil _ _ (by assumption) _ _ (by have h := (hR300.at_cell 0 0 (.v (Value.slice none 0 0)) (by kernel_rfl)); simp only [Nm.at_, ez0_301] at h; exact h)) ?_
  rintro e301 w301 ⟨rfl, hb301⟩
  have hR301 := hR300.below hb301
  refine Back.of (LI 3) hR301 rfl ?_
  refine sim_run 13 [] hR301 (by kernel_rfl) trivial (fun ρ302 w302 hm302 hR302 => ?_)
  have hag := hag.moved hm302
  refine sim_ret (LI 3) hR302 (by kernel_rfl) (by kernel_rfl) ?_
  exact ⟨rfl, hR302.toBelow⟩
  
set_option maxRecDepth 100000 in
theorem cancel_nil (party : ByteArray) (id : Int) (hid : Is64 id) (w : World) (g : Nat) (hb : Blk w g 85 #[.slice none 0 0]) :
    Calls Try.prog 25 #[.pointer (some ⟨g, 0, none⟩), .string party, .int .i64 id] w fun e w' => e = .returned (.int .i64 3) ∧ Below w.heap.size w w' := by
  obtain ⟨ρ, e0, hag, hR⟩ := book_nil hb
  refine sim_enter Try.func25 ρ [.ptr 0 0, LS party, LI id] [⟨[.v (.slice none 0 0)], false⟩] (by kernel_rfl) (by simp only [denL, LV.den, Nm.at_, e0]) ?_
  refine sim_run 10 [] hR (by kernel_rfl) trivial (fun ρ400 w400 hm400 hR400 => ?_)
  have hag := hag.moved hm400
  refine sim_call 51 [.ptr 0 0, LS party, LI id] (by kernel_rfl) ?_
  have ez0_401 := (hag.at_ 0 (by omega)).trans e0
  simp only [denL, LV.den, Nm.at_, ez0_401, Nat.add_zero]
  refine Calls.mono (may_nil _ _ (by assumption) _ _ (by have h := (hR400.at_cell 0 0 (.v (Value.slice none 0 0)) (by kernel_rfl)); simp only [Nm.at_, ez0_401] at h; exact h)) ?_
  rintro e401 w401 ⟨rfl, hb401⟩
  have hR401 := hR400.below hb401
  refine Back.of (LI 3) hR401 rfl ?_
  refine sim_run 13 [] hR401 (by kernel_rfl) trivial (fun ρ402 w402 hm402 hR402 => ?_)
  have hag := hag.moved hm402
  refine sim_ret (LI 3) hR402 (by kernel_rfl) (by kernel_rfl) ?_
  exact ⟨rfl, hR402.toBelow⟩
  
set_option maxRecDepth 100000 in
theorem pair_nil (d r amount : Int) (hd : Is64 d) (hr : Is64 r) (w : World) (g : Nat) (hb : Blk w g 85 #[.slice none 0 0]) :
    Calls Try.prog 24 #[.pointer (some ⟨g, 0, none⟩), .int .i64 d, .int .i64 r, .int .i64 amount] w fun e w' => e = .returned (.int .i64 3) ∧ Below w.heap.size w w' := by
  obtain ⟨ρ, e0, hag, hR⟩ := book_nil hb
  refine sim_enter Try.func24 ρ [.ptr 0 0, LI d, LI r, LI amount] [⟨[.v (.slice none 0 0)], false⟩] (by kernel_rfl) (by simp only [denL, LV.den, Nm.at_, e0]) ?_
  refine sim_run 16 [] hR (by kernel_rfl) trivial (fun ρ500 w500 hm500 hR500 => ?_)
  have hag := hag.moved hm500
  refine sim_call 49 [.ptr 0 0, LI d] (by kernel_rfl) ?_
  have ez0_501 := (hag.at_ 0 (by omega)).trans e0
  simp only [denL, LV.den, Nm.at_, ez0_501, Nat.add_zero]
  refine Calls.mono (at_nil _ (by assumption) _ _ (by have h := (hR500.at_cell 0 0 (.v (Value.slice none 0 0)) (by kernel_rfl)); simp only [Nm.at_, ez0_501] at h; exact h)) ?_
  rintro e501 w501 ⟨rfl, hb501⟩
  have hR501 := hR500.below hb501
  refine Back.of (.v (Value.pointer none)) hR501 rfl ?_
  refine sim_run 2 [] hR501 (by kernel_rfl) trivial (fun ρ502 w502 hm502 hR502 => ?_)
  have hag := hag.moved hm502
  refine sim_call 49 [.ptr 0 0, LI r] (by kernel_rfl) ?_
  have ez0_503 := (hag.at_ 0 (by omega)).trans e0
  simp only [denL, LV.den, Nm.at_, ez0_503, Nat.add_zero]
  refine Calls.mono (at_nil _ (by assumption) _ _ (by have h := (hR502.at_cell 0 0 (.v (Value.slice none 0 0)) (by kernel_rfl)); simp only [Nm.at_, ez0_503] at h; exact h)) ?_
  rintro e503 w503 ⟨rfl, hb503⟩
  have hR503 := hR502.below hb503
  refine Back.of (.v (Value.pointer none)) hR503 rfl ?_
  refine sim_run 20 [] hR503 (by kernel_rfl) trivial (fun ρ504 w504 hm504 hR504 => ?_)
  have hag := hag.moved hm504
  refine sim_ret (LI 3) hR504 (by kernel_rfl) (by kernel_rfl) ?_
  exact ⟨rfl, hR504.toBelow⟩
  
set_option maxRecDepth 100000 in
theorem settle_nil (id qty paid : Int) (hid : Is64 id) (w : World) (g : Nat) (hb : Blk w g 85 #[.slice none 0 0]) :
    Calls Try.prog 32 #[.pointer (some ⟨g, 0, none⟩), .int .i64 id, .int .i64 qty, .int .i64 paid] w fun e w' => e = .returned (.int .i64 3) ∧ Below w.heap.size w w' := by
  obtain ⟨ρ, e0, hag, hR⟩ := book_nil hb
  refine sim_enter Try.func32 ρ [.ptr 0 0, LI id, LI qty, LI paid] [⟨[.v (.slice none 0 0)], false⟩] (by kernel_rfl) (by simp only [denL, LV.den, Nm.at_, e0]) ?_
  refine sim_run 16 [] hR (by kernel_rfl) trivial (fun ρ600 w600 hm600 hR600 => ?_)
  have hag := hag.moved hm600
  refine sim_call 49 [.ptr 0 0, LI id] (by kernel_rfl) ?_
  have ez0_601 := (hag.at_ 0 (by omega)).trans e0
  simp only [denL, LV.den, Nm.at_, ez0_601, Nat.add_zero]
  refine Calls.mono (at_nil _ (by assumption) _ _ (by have h := (hR600.at_cell 0 0 (.v (Value.slice none 0 0)) (by kernel_rfl)); simp only [Nm.at_, ez0_601] at h; exact h)) ?_
  rintro e601 w601 ⟨rfl, hb601⟩
  have hR601 := hR600.below hb601
  refine Back.of (.v (Value.pointer none)) hR601 rfl ?_
  refine sim_run 15 [] hR601 (by kernel_rfl) trivial (fun ρ602 w602 hm602 hR602 => ?_)
  have hag := hag.moved hm602
  refine sim_ret (LI 3) hR602 (by kernel_rfl) (by kernel_rfl) ?_
  exact ⟨rfl, hR602.toBelow⟩
  
theorem keep_len (xs : List In) (party : ByteArray) (id : Int) : (keepM xs party id).length = xs.length := by unfold keepM; split <;> simp [upd_len]
theorem keep_bk (B g : Nat) (v : Value) (xs : List In) (party : ByteArray) (id : Int) (w : World) (h : BkV w B g v xs) (hid : Is64 id) :
    Calls Try.prog 26 #[.pointer (some ⟨g, 0, none⟩), .string party, .int .i64 id] w (BkQ w B g v (keepM xs party id) (.int .i64 (mayM xs party id))) := by
  rcases h.form with ⟨rfl, rfl⟩ | ⟨hb, cap, rest, rfl, hs, h1, _, h3, h4⟩
  · have e1 : keepM [] party id = [] := by unfold keepM; rw [if_neg (by rw [may_nilM]; omega)]
    have e2 : mayM [] party id = 3 := by exact may_nilM _ _
    rw [e1, e2]
    exact (keep_nil party id hid w g h.cell).mono (fun e w' hp => bkq_nil h hp)
  · exact (keep_slc g hb xs.length cap xs rest party id hid w hs).mono (fun e w' hp => hp.q hs h1 h.ge h3 h4 (keep_len ..))
theorem setPart_len (xs : List In) (party : ByteArray) (id : Int) (on : Bool) : (setPartM xs party id on).length = xs.length := by unfold setPartM; split <;> simp [upd_len]
theorem setPart_bk (B g : Nat) (v : Value) (xs : List In) (party : ByteArray) (id : Int) (on : Bool) (w : World) (h : BkV w B g v xs) (hid : Is64 id) :
    Calls Try.prog 30 #[.pointer (some ⟨g, 0, none⟩), .string party, .int .i64 id, .bool on] w (BkQ w B g v (setPartM xs party id on) (.int .i64 (mayM xs party id))) := by
  rcases h.form with ⟨rfl, rfl⟩ | ⟨hb, cap, rest, rfl, hs, h1, _, h3, h4⟩
  · have e1 : setPartM [] party id on = [] := by unfold setPartM; rw [if_neg (by rw [may_nilM]; omega)]
    have e2 : mayM [] party id = 3 := by exact may_nilM _ _
    rw [e1, e2]
    exact (setPart_nil party id on hid w g h.cell).mono (fun e w' hp => bkq_nil h hp)
  · exact (setPart_slc g hb xs.length cap xs rest party id on hid w hs).mono (fun e w' hp => hp.q hs h1 h.ge h3 h4 (setPart_len ..))
theorem setPrio_len (xs : List In) (party : ByteArray) (id prio : Int) : ((setPrioM xs party id prio).1).length = xs.length := by unfold setPrioM; split <;> (try split) <;> (try split) <;> simp [upd_len]
theorem setPrio_bk (B g : Nat) (v : Value) (xs : List In) (party : ByteArray) (id prio : Int) (w : World) (h : BkV w B g v xs) (hid : Is64 id) :
    Calls Try.prog 29 #[.pointer (some ⟨g, 0, none⟩), .string party, .int .i64 id, .int .i64 prio] w (BkQ w B g v ((setPrioM xs party id prio).1) (.int .i64 ((setPrioM xs party id prio).2))) := by
  rcases h.form with ⟨rfl, rfl⟩ | ⟨hb, cap, rest, rfl, hs, h1, _, h3, h4⟩
  · have e1 : (setPrioM [] party id prio).1 = [] := by unfold setPrioM; rw [if_neg (by rw [may_nilM]; omega)]
    have e2 : (setPrioM [] party id prio).2 = 3 := by unfold setPrioM; rw [if_neg (by rw [may_nilM]; omega)]; exact may_nilM _ _
    rw [e1, e2]
    exact (setPrio_nil party id prio hid w g h.cell).mono (fun e w' hp => bkq_nil h hp)
  · exact (setPrio_slc g hb xs.length cap xs rest party id prio hid w hs).mono (fun e w' hp => hp.q hs h1 h.ge h3 h4 (setPrio_len ..))
theorem cancel_len (xs : List In) (party : ByteArray) (id : Int) : ((cancelM xs party id).1).length = xs.length := by unfold cancelM; simp only; split <;> (try split) <;> (try split) <;> simp [upd_len]
theorem cancel_bk (B g : Nat) (v : Value) (xs : List In) (party : ByteArray) (id : Int) (w : World) (h : BkV w B g v xs) (hid : Is64 id) (hm : Is64 (atI xs id).mate) :
    Calls Try.prog 25 #[.pointer (some ⟨g, 0, none⟩), .string party, .int .i64 id] w (BkQ w B g v ((cancelM xs party id).1) (.int .i64 ((cancelM xs party id).2))) := by
  rcases h.form with ⟨rfl, rfl⟩ | ⟨hb, cap, rest, rfl, hs, h1, _, h3, h4⟩
  · have e1 : (cancelM [] party id).1 = [] := by unfold cancelM; rw [if_pos (by rw [may_nilM]; omega)]
    have e2 : (cancelM [] party id).2 = 3 := by unfold cancelM; rw [if_pos (by rw [may_nilM]; omega)]; exact may_nilM _ _
    rw [e1, e2]
    exact (cancel_nil party id hid w g h.cell).mono (fun e w' hp => bkq_nil h hp)
  · exact (cancel_slc g hb xs.length cap xs rest party id hid hm w hs).mono (fun e w' hp => hp.q hs h1 h.ge h3 h4 (cancel_len ..))
theorem pair_len (xs : List In) (d r amount : Int) : ((pairM xs d r amount).1).length = xs.length := by unfold pairM; split <;> (try split) <;> (try split) <;> simp [upd_len]
theorem pair_bk (B g : Nat) (v : Value) (xs : List In) (d r amount : Int) (w : World) (h : BkV w B g v xs) (hd : Is64 d) (hr : Is64 r) :
    Calls Try.prog 24 #[.pointer (some ⟨g, 0, none⟩), .int .i64 d, .int .i64 r, .int .i64 amount] w (BkQ w B g v ((pairM xs d r amount).1) (.int .i64 ((pairM xs d r amount).2))) := by
  rcases h.form with ⟨rfl, rfl⟩ | ⟨hb, cap, rest, rfl, hs, h1, _, h3, h4⟩
  · have e1 : (pairM [] d r amount).1 = [] := by unfold pairM; rw [if_pos (.inl (outB_nil d))]
    have e2 : (pairM [] d r amount).2 = 3 := by unfold pairM; rw [if_pos (.inl (outB_nil d))]
    rw [e1, e2]
    exact (pair_nil d r amount hd hr w g h.cell).mono (fun e w' hp => bkq_nil h hp)
  · exact (pair_slc g hb xs.length cap xs rest d r amount hd hr w hs).mono (fun e w' hp => hp.q hs h1 h.ge h3 h4 (pair_len ..))
theorem settle_len (xs : List In) (id qty paid : Int) : ((settleM xs id qty paid).1).length = xs.length := by unfold settleM; simp only; split <;> (try split) <;> (try split) <;> (try split) <;> simp [upd_len]
theorem settle_bk (B g : Nat) (v : Value) (xs : List In) (id qty paid : Int) (w : World) (h : BkV w B g v xs) (hid : Is64 id) (hm : Is64 (atI xs id).mate) (hq : Is64 (atI xs id).term.qty) :
    Calls Try.prog 32 #[.pointer (some ⟨g, 0, none⟩), .int .i64 id, .int .i64 qty, .int .i64 paid] w (BkQ w B g v ((settleM xs id qty paid).1) (.int .i64 ((settleM xs id qty paid).2))) := by
  rcases h.form with ⟨rfl, rfl⟩ | ⟨hb, cap, rest, rfl, hs, h1, _, h3, h4⟩
  · have e1 : (settleM [] id qty paid).1 = [] := by rw [settle_out (outB_nil id)]
    have e2 : (settleM [] id qty paid).2 = 3 := by rw [settle_out (outB_nil id)]
    rw [e1, e2]
    exact (settle_nil id qty paid hid w g h.cell).mono (fun e w' hp => bkq_nil h hp)
  · exact (settle_slc g hb xs.length cap xs rest id qty paid hid hm hq w hs).mono (fun e w' hp => hp.q hs h1 h.ge h3 h4 (settle_len ..))
/-- Add, its term in parts -/
theorem add_bk (B g : Nat) (v : Value) (xs : List In) (a0 a1 a2 a3 a5 a6 a7 : ByteArray) (a4 : Bool) (a8 a9 a10 a11 prio : Int) (part held : Bool) (w : World) (h : BkV w B g v xs) (ht : (⟨a0, a1, a2, a3, a4, a5, a6, a7, a8, a9, a10, a11⟩ : Tm).short) :
    Calls Try.prog 21 #[.pointer (some ⟨g, 0, none⟩), .agg #[.string a0, .string a1, .string a2, .string a3, .bool a4, .string a5, .string a6, .string a7, .int .i64 a8, .int .i64 a9, .int .i64 a10, .int .i64 a11], .int .i64 prio, .bool part, .bool held] w
      (BkQ w B g v (addM xs ⟨a0, a1, a2, a3, a4, a5, a6, a7, a8, a9, a10, a11⟩ prio part held).1 (.tuple #[.int .i64 (addM xs ⟨a0, a1, a2, a3, a4, a5, a6, a7, a8, a9, a10, a11⟩ prio part held).2.1, .int .i64 (addM xs ⟨a0, a1, a2, a3, a4, a5, a6, a7, a8, a9, a10, a11⟩ prio part held).2.2])) := by
  have hB : B ≤ w.heap.size := by have := h.ge; have := h.cell.lt; omega
  rcases h.form with ⟨rfl, rfl⟩ | ⟨hb, cap, rest, rfl, _⟩
  · exact (add_slc none 0 0 B g [] ⟨a0, a1, a2, a3, a4, a5, a6, a7, a8, a9, a10, a11⟩ prio part held ht w h rfl hB).mono (fun e w' hp => hp)
  · exact (add_slc _ xs.length cap B g xs ⟨a0, a1, a2, a3, a4, a5, a6, a7, a8, a9, a10, a11⟩ prio part held ht w h rfl hB).mono (fun e w' hp => hp)
/-- Get -/
theorem get_bk (B g : Nat) (v : Value) (xs : List In) (id : Int) (w : World) (h : BkV w B g v xs) (hid : Is64 id) :
    Calls Try.prog 22 #[.pointer (some ⟨g, 0, none⟩), .int .i64 id] w fun e w' => e = .returned (.tuple #[(getM xs id).1.val, .int .i64 (getM xs id).2]) ∧ Below w.heap.size w w' := by
  obtain ⟨A, cap, rfl, hA, hr⟩ : ∃ A cap, v = .slice A xs.length cap ∧ (0 < xs.length → ∃ k, A = some ⟨k, 0, none⟩) ∧ Reads w w.heap.size 21 A xs.length (insts xs) := by
    rcases h.form with ⟨rfl, rfl⟩ | ⟨hb, cap, rest, rfl, _⟩
    · exact ⟨none, 0, rfl, fun h => absurd h (by simp), .of_own h.row⟩
    · exact ⟨_, cap, rfl, fun _ => ⟨_, rfl⟩, .of_own h.row⟩
  exact get_slc A xs.length cap w.heap.size xs id hid w g (h.cell.cell 0) hA hr (Nat.le_refl _)

/-! ### A book beside what is in view -/
structure BkO (ρ : Nm) (rs : List Reg) (w : World) (B g : Nat) (v : Value) (xs : List In) : Prop where
  bk : BkV w B g v xs
  far : ¬ wrS ρ rs g
  farV : ∀ k, v.ownBlock = some k → ¬ wrS ρ rs k
theorem BkV.ownL {w : World} {B g : Nat} {v : Value} {xs : List In} (h : BkV w B g v xs) {k : Nat} (hk : v.ownBlock = some k) : k < w.heap.size := own_lt h.row hk
theorem BkO.moved {ρ ρ' : Nm} {rs rs' : List Reg} {w w' : World} {B g : Nat} {v : Value} {xs : List In} (h : BkO ρ rs w B g v xs) (hm : Moved ρ rs w ρ' rs' w') : BkO ρ' rs' w' B g v xs :=
  ⟨⟨(hm.kept.block g h.bk.cell.lt h.far).trans h.bk.cell, own_kept h.bk.row hm.kept h.farV, h.bk.ne, h.bk.ge⟩, fun hw => (hm.wrs g hw).elim h.far (fun h1 => by have := h.bk.cell.lt; omega), fun k hk hw => (hm.wrs k hw).elim (h.farV k hk) (fun h1 => by have := h.bk.ownL hk; omega)⟩
theorem BkO.below {ρ : Nm} {rs : List Reg} {w w' : World} {B g : Nat} {v : Value} {xs : List In} (h : BkO ρ rs w B g v xs) (hb : Below w.heap.size w w') : BkO ρ rs w' B g v xs := ⟨h.bk.below hb, h.far, h.farV⟩
theorem BkO.drew {ρ : Nm} {rs : List Reg} {w : World} {B g : Nat} {v : Value} {xs : List In} (h : BkO ρ rs w B g v xs) : BkO ρ rs w.drew B g v xs := ⟨⟨h.bk.cell.drew, h.bk.row, h.bk.ne, h.bk.ge⟩, h.far, h.farV⟩
theorem BkO.new {T : List Nat} {w0 : World} {ρ : Nm} {rs : List Reg} {w w' : World} {B g : Nat} (hR : Rel T w0 ρ rs w) (hg : w.heap.size ≤ g) (hb : BkV w' B g (.slice none 0 0) []) : BkO ρ rs w' B g (.slice none 0 0) [] :=
  ⟨hb, fun hw => by have := hR.wr_lt hw; omega, fun k hk => by simp [Value.ownBlock] at hk⟩
/-- behind a method -/
theorem BkO.after {T : List Nat} {w0 : World} {ρ : Nm} {rs : List Reg} {w w' : World} {B g : Nat} {v v' : Value} {xs xs' : List In} (h : BkO ρ rs w B g v xs) (hR : Rel T w0 ρ rs w) (hw0 : w0.heap.size ≤ B) (hb : BkV w' B g v' xs') (hk : Kept (fun k => k = g ∨ v.ownBlock = some k) w w') (hv : v'.ownBlock = v.ownBlock ∨ ∃ k, w.heap.size ≤ k ∧ v'.ownBlock = some k)
    (l : List Nat) (hl : roAll rs 0 = l) (hidx : ∀ k ∈ l, (ρ k).1 < w0.heap.size) : BkO ρ rs w' B g v' xs' ∧ Rel T w0 ρ rs w' := by
  have hge : ∀ k, v.ownBlock = some k → B ≤ k := fun k hk => own_ge h.bk.row hk
  refine ⟨⟨hb, h.far, fun k hk hw => ?_⟩, hR.kept hk (fun n r hn _ hS => ?_) (fun x hx => .inr ?_)⟩
  · rcases hv with h1 | ⟨k', h1, h2⟩
    · exact h.farV k (h1 ▸ hk) hw
    · rw [h2] at hk
      injection hk with hk
      have := hR.wr_lt hw
      omega
  · cases hw : r.wr with
    | true =>
      rcases hS with hS | hS
      · exact h.far ⟨n, r, hn, hw, hS⟩
      · exact h.farV _ hS ⟨n, r, hn, hw, rfl⟩
    | false =>
      have := roAll_mem rs 0 n r hn hw
      rw [hl, Nat.zero_add] at this
      have h1 := hidx n this
      have h2 := h.bk.ge
      rcases hS with hS | hS
      · omega
      · have := hge _ hS
        omega
  · rcases hx with hx | hx
    · have := h.bk.ge
      omega
    · have := hge x hx
      omega
end Go.Proofs.Ytodjhkmbgennaaa
