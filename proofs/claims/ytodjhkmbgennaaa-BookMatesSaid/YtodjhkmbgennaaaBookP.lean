/-
  book: Hold.
-/
import Derived.Test.YtodjhkmbgennaaaBookL
import Derived.Test.YtodjhkmbgennaaaSimHN
namespace Go.Proofs.Ytodjhkmbgennaaa
open Go Go.RowKit
attribute [local irreducible] run goO goN ordGoN eqlOf eqlOper eqlOfO cellL leaveK someK nextK nextT nextOT nextOD loopBody loopRest loopK fillJ tmplOf tmplJ mergeT At AtO drawOk ordOf gateOf callC callO topOp topO idxOf appOf storeOf clearOf sliceOf calleeOf calleeO topQ idxQ newRowOf resL stepOp seek

theorem RowI.cast {ρ : Nm} {rs rs' : List Reg} {w : World} {h : Nat} {xs : List In} {rest : List Value} {ks : List Nat} (hr : RowI ρ rs w h xs rest ks) (e : rs = rs') : RowI ρ rs' w h xs rest ks := e ▸ hr
def heldI (on : Bool) (x : In) : In := { x with held := on }
def holdAll (xs : List In) (on : Bool) (ids : List Int) : List In := ids.foldl (fun ys id => updI ys id (heldI on)) xs
def holdE (xs : List In) (party : ByteArray) : List Int → Int
  | [] => 0
  | id :: ids => if mayM xs party id ≠ 0 then mayM xs party id else holdE xs party ids
theorem holdE_skip {xs : List In} {party : ByteArray} : ∀ (ids : List Int) (k : Nat), (∀ i ∈ ids.take k, mayM xs party i = 0) → holdE xs party ids = holdE xs party (ids.drop k)
  | _, 0, _ => rfl
  | [], _ + 1, _ => rfl
  | id :: ids, k + 1, h => by
    have h0 := h id (by simp)
    simp only [holdE, List.drop_succ_cons]
    rw [if_neg (by rw [h0]; simp)]
    exact holdE_skip ids k (fun i hi => h i (by simp [hi]))
theorem holdAll_len : ∀ (ids : List Int) (xs : List In) (on : Bool), (holdAll xs on ids).length = xs.length
  | [], _, _ => rfl
  | id :: ids, xs, on => by
    have := holdAll_len ids (updI xs id (heldI on)) on
    rw [upd_len] at this
    exact this
theorem holdAll_snoc (xs : List In) (on : Bool) (ids : List Int) (id : Int) : holdAll xs on (ids ++ [id]) = updI (holdAll xs on ids) id (heldI on) := by
  unfold holdAll
  rw [List.foldl_append]
  rfl
set_option maxRecDepth 100000 in
theorem hold_slc (g h len cap : Nat) (xs : List In) (rest : List Value) (party : ByteArray) (on : Bool) (A : Option Addr) (n cp Bn : Nat) (ids : List Int) (hids : ∀ i ∈ ids, Is64 i) (w : World) (hs : BkS w g h len cap xs rest) (hrd : Reads w Bn 1 A n (ints ids)) (hBn : Bn ≤ w.heap.size) (hA : 0 < n → ∀ a, A = some a → a.block ∉ [h]) (hn : n ≤ 1000000) :
    Calls Try.prog 28 #[.pointer (some ⟨g, 0, none⟩), .string party, .bool on, .slice A n cp] w (BkPost w h rest (if holdE xs party ids = 0 then holdAll xs on ids else xs) (holdE xs party ids)) := by
  have hl := hs.len
  have hne := hs.ne
  have hnl := hrd.int_len
  obtain ⟨ρ, e0, hag, hR, hrow⟩ := book_start hs
  refine sim_enter Try.func28 ρ [.ptr 0 0, LS party, LB on, .v (.slice A n cp)] [⟨[.v (.slice (some ⟨h, 0, none⟩) len cap)], false⟩] (by kernel_rfl) (by simp only [denL, LV.den, Nm.at_, e0]) ?_
  refine sim_run 20 [] hR (by kernel_rfl) trivial (fun ρ100 w100 hm100 hR100 => ?_)
  have hag := hag.moved hm100
  have hrow := hrow.moved hm100
  
  have e0 := (hag.at_ 0 (by omega)).trans e0
  refine sim_loop (ι := Nat) (T := [h]) (w0 := w) 0 [0, 1, 2, 3, 16, 17] (fun k => [(18, LI k)]) (fun _ => [⟨[.v (.slice (some ⟨h, 0, none⟩) len cap)], false⟩]) (fun k w1 => k ≤ n ∧ (∀ i ∈ ids.take k, mayM xs party i = 0) ∧ Blk w1 h 25 (insts xs ++ rest).toArray) (fun k => n - k) (by kernel_rfl) (by kernel_rfl) (hR100.cast (by kernel_rfl)) ⟨Nat.zero_le _, by simp, hrow.close0⟩ ?_
  clear hrow hag hR hm100 hR100
  rintro k d w2 hR2 ⟨hk, hno, hblk⟩
  have hrow : RowI ρ100 [⟨[.v (.slice (some ⟨h, 0, none⟩) len cap)], false⟩] w2 h xs rest [] := .start hblk _ _ rfl
  have hag := hR2.ag_ 1 (by kernel_rfl)
  by_cases hlt : k < n
  · obtain ⟨ga, oa, rfl, _, _⟩ := hrd.spot (by omega) (by omega)
    refine sim_run 5 [] hR2 (by kernel_rfl) trivial (fun ρ200 w200 hm200 hR200 => ?_)
    have hrow := hrow.moved hm200
    have hag := hag.moved hm200
    refine sim_know 19 (decide ((↑k : Int) < (↑n : Int))) true (by kernel_rfl) (decide_eq_true (by omega)) ?_
    refine sim_run 6 [] hR200 (by kernel_rfl) trivial (fun ρ201 w201 hm201 hR201 => ?_)
    have hrow := hrow.moved hm201
    have hag := hag.moved hm201
    
    have hx : (ints ids)[k]? = some (.int .i64 (ids[k]'(by omega))) := by unfold ints; rw [List.getElem?_map, List.getElem?_eq_getElem (by omega)]; rfl
    have hid : Is64 (ids[k]'(by omega)) := hids _ (List.getElem_mem _)
    generalize hidk : ids[k]'(by omega) = id at hx hid
    refine sim_cell cp k 1 (.int .i64 id) (by kernel_rfl) (by kernel_rfl) hlt hrd hx hBn (hA (by omega)) hR201 (by kernel_rfl) (fun ρ4 hm4 hf4 hR4 => ?_)
    have hrow := hrow.moved hm4
    have hag := hag.moved hm4
    have hlk : ids.drop k = id :: ids.drop (k + 1) := by rw [← hidk, List.getElem_cons_drop]
    refine sim_run 8 [] hR4 (by kernel_rfl) trivial (fun ρ300 w300 hm300 hR300 => ?_)
    have hrow := hrow.moved hm300
    have hag := hag.moved hm300
    refine sim_call 51 [.ptr 0 0, LS party, LI id] (by kernel_rfl) ?_
    have ez0_301 := (hag.at_ 0 (by omega)).trans e0
    simp only [denL, LV.den, Nm.at_, ez0_301, Nat.add_zero]
    refine Calls.mono (may_row _ _ _ _ _ _ _ (by assumption) _ _ (by have h := (hR300.at_cell 0 0 (.v (Value.slice (some (Addr.mk h 0 none)) len cap)) (by kernel_rfl)); simp only [Nm.at_, ez0_301] at h; exact h) hrow.close0 (by assumption)) ?_
    rintro e301 w301 ⟨rfl, hb301⟩
    have hR301 := hR300.below hb301
    have hrow := hrow.below hb301
    refine Back.of (LI (mayM xs party id)) hR301 rfl ?_
    refine sim_run 7 [] hR301 (by kernel_rfl) trivial (fun ρ302 w302 hm302 hR302 => ?_)
    have hag := hag.moved hm302
    have hrow := hrow.moved hm302
    refine sim_fork 27 (mayM xs party id != 0) (by kernel_rfl) (fun hq303 => ?_) (fun hq303 => ?_)
    have hq303 := nb_t hq303
    have hq303 := of_decide_eq_false hq303
    refine sim_run 6 [] hR302 (by kernel_rfl) trivial (fun ρ304 w304 hm304 hR304 => ?_)
    have hag := hag.moved hm304
    have hrow := hrow.moved hm304
    refine sim_ret (LI (mayM xs party id)) hR304 (by kernel_rfl) (by kernel_rfl) ?_
    rotate_left
    have hq303 := nb_f hq303
    have hq303 := of_decide_eq_true hq303
    refine sim_run 7 [⟨9, 0, LI (IntKind.i64.wrap ((↑k : Int) + 1)), LI ((↑k : Int) + 1)⟩] hR302 (by kernel_rfl) ⟨eqi (IntWalk.i64_in _ (by omega)), trivial⟩ (fun ρ305 w305 hm305 hR305 => ?_)
    have hag := hag.moved hm305
    have hrow := hrow.moved hm305
    rotate_left
    
    · have e : holdE xs party ids = mayM xs party id := by
        rw [holdE_skip ids k hno, hlk]
        simp only [holdE]
        rw [if_pos hq303]
      simp only [e]
      rw [if_neg hq303]
      exact ⟨rfl, hrow.close0, hR304.keeps.kept⟩
    · refine sim_again (k + 1) (by kernel_rfl) (by show n - (k + 1) < n - k; omega) (by kernel_rfl) (by kernel_rfl) (by kernel_rfl) (hag.ag) hR305 (by kernel_rfl) (by kernel_rfl) ⟨hlt, fun i hi => ?_, hrow.close0⟩
      rw [List.take_add_one, List.mem_append] at hi
      rcases hi with hi | hi
      · exact hno i hi
      · rw [List.getElem?_eq_getElem (by omega), hidk] at hi
        simp at hi
        rw [hi]
        exact hq303
  · have hkn : k = n := by omega
    refine sim_run 5 [] hR2 (by kernel_rfl) trivial (fun ρ400 w400 hm400 hR400 => ?_)
    have hrow := hrow.moved hm400
    have hag := hag.moved hm400
    refine sim_know 19 (decide ((↑k : Int) < (↑n : Int))) false (by kernel_rfl) (decide_eq_false (by omega)) ?_
    refine sim_run 1 [] hR400 (by kernel_rfl) trivial (fun ρ401 w401 hm401 hR401 => ?_)
    have hrow := hrow.moved hm401
    have hag := hag.moved hm401
    refine sim_leave (by kernel_rfl) ?_
    refine sim_run 8 [] hR401 (by kernel_rfl) trivial (fun ρ402 w402 hm402 hR402 => ?_)
    have hrow := hrow.moved hm402
    have hag := hag.moved hm402
    
    have hall : ∀ i ∈ ids, mayM xs party i = 0 := fun i hi => hno i (by rw [hkn, ← hnl, List.take_length]; exact hi)
    have e : holdE xs party ids = 0 := by
      rw [holdE_skip ids n (by rw [← hkn]; exact hno), ← hnl, List.drop_length]
      rfl
    simp only [e, if_true]
    have e0 := (hag.at_ 0 (by omega)).trans e0
    refine sim_loop (ι := Nat) (T := [h]) (w0 := w) 0 [0, 1, 2, 3, 30, 31] (fun k => [(32, LI k)]) (fun _ => [⟨[.v (.slice (some ⟨h, 0, none⟩) len cap)], false⟩]) (fun k w1 => k ≤ n ∧ Blk w1 h 25 (insts (holdAll xs on (ids.take k)) ++ rest).toArray) (fun k => n - k) (by kernel_rfl) (by kernel_rfl) (hR402.cast (by kernel_rfl)) ⟨Nat.zero_le _, hrow.close0⟩ ?_
    iterate 12 (try clear hrow)
    iterate 12 (try clear hag)
    clear hm402 hR402
    rintro k d w6 hR6 ⟨hk6, hblk⟩
    have hrow : RowI ρ402 [⟨[.v (.slice (some ⟨h, 0, none⟩) len cap)], false⟩] w6 h (holdAll xs on (ids.take k)) rest [] := .start hblk _ _ rfl
    have hag := hR6.ag_ 1 (by kernel_rfl)
    have hlen := holdAll_len (ids.take k) xs on
    by_cases hlt : k < n
    · obtain ⟨ga, oa, rfl, _, _⟩ := hrd.spot (by omega) (by omega)
      refine sim_run 5 [] hR6 (by kernel_rfl) trivial (fun ρ600 w600 hm600 hR600 => ?_)
      have hrow := hrow.moved hm600
      have hag := hag.moved hm600
      refine sim_know 33 (decide ((↑k : Int) < (↑n : Int))) true (by kernel_rfl) (decide_eq_true (by omega)) ?_
      refine sim_run 6 [] hR600 (by kernel_rfl) trivial (fun ρ601 w601 hm601 hR601 => ?_)
      have hrow := hrow.moved hm601
      have hag := hag.moved hm601
      
      have hx : (ints ids)[k]? = some (.int .i64 (ids[k]'(by omega))) := by unfold ints; rw [List.getElem?_map, List.getElem?_eq_getElem (by omega)]; rfl
      have hid : Is64 (ids[k]'(by omega)) := hids _ (List.getElem_mem _)
      have hin : ¬outB xs (ids[k]'(by omega)) := may_in (hall _ (List.getElem_mem _))
      generalize hidk : ids[k]'(by omega) = id at hx hid hin
      have ho : ¬(id < 1 ∨ id > len) := by rw [← hl]; exact hin
      refine sim_cell cp k 1 (.int .i64 id) (by kernel_rfl) (by kernel_rfl) hlt hrd hx hBn (hA (by omega)) hR601 (by kernel_rfl) (fun ρ4 hm4 hf4 hR4 => ?_)
      have hrow := hrow.moved hm4
      have hag := hag.moved hm4
      have h40 : ρ402 0 = ρ4 0 := (hag.at_ 0 (by omega)).symm
      have e0 := h40.symm.trans e0
      have hag := hR4.ag_ 2 (by kernel_rfl)
      have hf4 := hf4 h (by simp)
      refine sim_run 6 [] hR4 (by kernel_rfl) trivial (fun ρ700 w700 hm700 hR700 => ?_)
      have hrow := hrow.moved hm700
      have hag := hag.moved hm700
      refine sim_call 49 [.ptr 0 0, LI id] (by kernel_rfl) ?_
      have ez0_701 := (hag.at_ 0 (by omega)).trans e0
      simp only [denL, LV.den, Nm.at_, ez0_701, Nat.add_zero]
      refine Calls.mono (at_in _ _ _ _ (by assumption) _ _ _ (by assumption) (by have h := (hR700.at_cell 0 0 (.v (Value.slice (some (Addr.mk h 0 none)) len cap)) (by kernel_rfl)); simp only [Nm.at_, ez0_701] at h; exact h)) ?_
      rintro e701 w701 ⟨rfl, hb701⟩
      have hQ701 := hR700.below hb701
      have hrow := hrow.below hb701
      refine Back.elem _ 2 hrow hag (by kernel_rfl) (by omega) (by simp) (.inl (by simp)) hQ701 (by kernel_rfl) [0, 1] (by kernel_rfl) (by intro k hk; simp only [List.mem_cons, List.not_mem_nil, or_false] at hk; rcases hk with rfl | rfl; rw [e0]; exact ⟨by omega, hne⟩; exact ⟨by omega, hf4⟩) rfl (fun x701 ρ701 hx701 ha701 e701 hag hR701 hrow => ?_)
      obtain rfl := atI_of hx701
      have e0 := (ha701 0 (by omega)).trans e0
      refine sim_run 10 [⟨14, 0, LI (IntKind.i64.wrap ((↑k : Int) + 1)), LI ((↑k : Int) + 1)⟩] hR701 (by kernel_rfl) ⟨eqi (IntWalk.i64_in _ (by omega)), trivial⟩ (fun ρ702 w702 hm702 hR702 => ?_)
      have hag := hag.moved hm702
      have hrow := hrow.moved hm702
      
      refine sim_again (k + 1) (by kernel_rfl) (by show n - (k + 1) < n - k; omega) (by kernel_rfl) (by kernel_rfl) (by kernel_rfl) ?_ hR702 (by kernel_rfl) (by kernel_rfl) ⟨hlt, ?_⟩
      · intro m hm
        obtain rfl : m = 0 := by simp at hm; exact hm
        exact (hag.at_ 0 (by omega)).trans ((ha701 0 (by omega)).trans h40.symm)
      · rw [List.take_add_one, List.getElem?_eq_getElem (by omega), hidk]
        show Blk _ h _ (insts (holdAll xs on (ids.take k ++ [id])) ++ rest).toArray
        rw [holdAll_snoc]
        exact hrow.close1 (by omega) (heldI on (atI (holdAll xs on (ids.take k)) id)) (bk_cell hR702 hag e701 _ (by kernel_rfl))
    · refine sim_run 5 [] hR6 (by kernel_rfl) trivial (fun ρ800 w800 hm800 hR800 => ?_)
      have hrow := hrow.moved hm800
      have hag := hag.moved hm800
      refine sim_know 33 (decide ((↑k : Int) < (↑n : Int))) false (by kernel_rfl) (decide_eq_false (by omega)) ?_
      refine sim_run 1 [] hR800 (by kernel_rfl) trivial (fun ρ801 w801 hm801 hR801 => ?_)
      have hrow := hrow.moved hm801
      have hag := hag.moved hm801
      refine sim_leave (by kernel_rfl) ?_
      refine sim_run 4 [] hR801 (by kernel_rfl) trivial (fun ρ802 w802 hm802 hR802 => ?_)
      have hrow := hrow.moved hm802
      have hag := hag.moved hm802
      refine sim_ret (LI 0) hR802 (by kernel_rfl) (by kernel_rfl) ?_
      
      refine ⟨rfl, ?_, hR802.keeps.kept⟩
      have hkn6 : k = n := by omega
      have h9 := hrow.close0
      rw [hkn6, ← hnl, List.take_length] at h9
      exact h9
end Go.Proofs.Ytodjhkmbgennaaa
