/-
  book: Settle.
-/
import Derived.Test.YtodjhkmbgennaaaBookH
namespace Go.Proofs.Ytodjhkmbgennaaa
open Go Go.RowKit
attribute [local irreducible] run goO goN ordGoN eqlOf eqlOper eqlOfO cellL leaveK someK nextK nextT nextOT nextOD loopBody loopRest loopK fillJ tmplOf tmplJ mergeT At AtO drawOk ordOf gateOf callC callO topOp topO idxOf appOf storeOf clearOf sliceOf calleeOf calleeO topQ idxQ newRowOf resL stepOp seek

def leftI (x : In) : Int := if x.done < 0 ∨ x.done > x.term.qty then 0 else x.term.qty - x.done
/-- so much is done and paid -/
def paidI (qty paid : Int) (x : In) : In := { x with done := IntKind.i64.wrap (x.done + qty), paid := IntKind.i64.wrap (x.paid + paid) }
def settleM (xs : List In) (id qty paid : Int) : List In × Int :=
  if outB xs id then (xs, 3)
  else
    let x := atI xs id
    if x.state ≠ 1 ∧ x.state ≠ 2 then (xs, 20)
    else if qty < 1 ∨ qty > leftI x ∨ paid < 0 ∨ paid > IntKind.i64.wrap (x.term.amount - x.paid) then (xs, 1)
    else
      let e := if qty = leftI x then 2 else 1
      let f := fun x => doI e (paidI qty paid x)
      if mateI xs id = 0 then (updI xs id f, 0) else (updI (updI xs id f) (mateI xs id) f, 0)
set_option maxRecDepth 100000 in
theorem left_any (x : In) (hq : Is64 x.term.qty) (w : World) : Calls Try.prog 54 #[x.val] w fun e w' => e = .returned (.int .i64 (leftI x)) ∧ Below w.heap.size w w' := by
  refine sim_enter Try.func54 ρ0 [.v x.val] [] (by kernel_rfl) rfl ?_
  have hR := Rel.start [] w ρ0
  refine sim_run 12 [] hR (by kernel_rfl) trivial (fun ρ900 w900 hm900 hR900 => ?_)
  refine sim_fork 6 (decide (x.done < 0)) (by kernel_rfl) (fun hq901 => ?_) (fun hq901 => ?_)
  have hq901 := of_decide_eq_true hq901
  refine sim_run 13 [] hR900 (by kernel_rfl) trivial (fun ρ902 w902 hm902 hR902 => ?_)
  refine sim_ret (LI 0) hR902 (by kernel_rfl) (by kernel_rfl) ?_
  exact ⟨retv_int (by clear hR902 hm902 hR900 hm900 hR; grind [leftI]), hR902.toBelow⟩
  have hq901 := of_decide_eq_false hq901
  refine sim_run 8 [] hR900 (by kernel_rfl) trivial (fun ρ903 w903 hm903 hR903 => ?_)
  refine sim_fork 13 (decide (x.done > x.term.qty)) (by kernel_rfl) (fun hq904 => ?_) (fun hq904 => ?_)
  have hq904 := of_decide_eq_true hq904
  refine sim_run 5 [] hR903 (by kernel_rfl) trivial (fun ρ905 w905 hm905 hR905 => ?_)
  refine sim_ret (LI 0) hR905 (by kernel_rfl) (by kernel_rfl) ?_
  exact ⟨retv_int (by clear hR905 hm905 hR903 hm903 hR900 hm900 hR; grind [leftI]), hR905.toBelow⟩
  have hq904 := of_decide_eq_false hq904
  refine sim_run 12 [⟨3, 5, LI (IntKind.i64.wrap (x.term.qty - x.done)), LI (x.term.qty - x.done)⟩] hR903 (by kernel_rfl) ⟨eqi (IntWalk.i64_in _ (by unfold Is64 at *; omega)), trivial⟩ (fun ρ906 w906 hm906 hR906 => ?_)
  refine sim_ret (LI (x.term.qty - x.done)) hR906 (by kernel_rfl) (by kernel_rfl) ?_
  exact ⟨retv_int (by clear hR906 hm906 hR903 hm903 hR900 hm900 hR; grind [leftI]), hR906.toBelow⟩
  
theorem settle_out {xs : List In} {id qty paid : Int} (h : outB xs id) : settleM xs id qty paid = (xs, 3) := by unfold settleM; rw [if_pos h]
theorem settle_state {xs : List In} {id qty paid : Int} (h : ¬outB xs id) (h1 : (atI xs id).state ≠ 1) (h2 : (atI xs id).state ≠ 2) : settleM xs id qty paid = (xs, 20) := by
  unfold settleM
  rw [if_neg h]
  simp only
  rw [if_pos ⟨h1, h2⟩]
theorem settle_arg {xs : List In} {id qty paid : Int} (h : ¬outB xs id) (h1 : (atI xs id).state = 1 ∨ (atI xs id).state = 2) (h2 : qty < 1 ∨ qty > leftI (atI xs id) ∨ paid < 0 ∨ paid > IntKind.i64.wrap ((atI xs id).term.amount - (atI xs id).paid)) : settleM xs id qty paid = (xs, 1) := by
  unfold settleM
  rw [if_neg h]
  simp only
  rw [if_neg (fun hc => h1.elim hc.1 hc.2), if_pos h2]
def evOf (xs : List In) (id qty : Int) : Int := if qty = leftI (atI xs id) then 2 else 1
theorem settle_ok {xs : List In} {id qty paid : Int} (h : ¬outB xs id) (h1 : (atI xs id).state = 1 ∨ (atI xs id).state = 2) (h2 : ¬(qty < 1 ∨ qty > leftI (atI xs id) ∨ paid < 0 ∨ paid > IntKind.i64.wrap ((atI xs id).term.amount - (atI xs id).paid))) : settleM xs id qty paid = (if mateI xs id = 0 then updI xs id (fun x => doI (evOf xs id qty) (paidI qty paid x)) else updI (updI xs id (fun x => doI (evOf xs id qty) (paidI qty paid x))) (mateI xs id) (fun x => doI (evOf xs id qty) (paidI qty paid x)), 0) := by
  unfold settleM evOf
  rw [if_neg h]
  simp only
  rw [if_neg (fun hc => h1.elim hc.1 hc.2), if_neg h2]
  split <;> rfl
set_option maxRecDepth 100000 in
theorem settle_slc (g h len cap : Nat) (xs : List In) (rest : List Value) (id qty paid : Int) (hid : Is64 id) (hm : Is64 (atI xs id).mate) (hqi : Is64 (atI xs id).term.qty) (w : World) (hs : BkS w g h len cap xs rest) :
    Calls Try.prog 32 #[.pointer (some ⟨g, 0, none⟩), .int .i64 id, .int .i64 qty, .int .i64 paid] w (BkPost w h rest (settleM xs id qty paid).1 (settleM xs id qty paid).2) := by
  have hl := hs.len
  have hne := hs.ne
  obtain ⟨ρ, e0, hag, hR, hrow⟩ := book_start hs
  refine sim_enter Try.func32 ρ [.ptr 0 0, LI id, LI qty, LI paid] [⟨[.v (.slice (some ⟨h, 0, none⟩) len cap)], false⟩] (by kernel_rfl) (by simp only [denL, LV.den, Nm.at_, e0]) ?_
  unfold BkPost
  by_cases hod : outB xs id
  · have ho : id < 1 ∨ id > len := by rw [← hl]; exact hod
    rw [settle_out hod]
    refine sim_run 16 [] hR (by kernel_rfl) trivial (fun ρ100 w100 hm100 hR100 => ?_)
    have hag := hag.moved hm100
    have hrow := hrow.moved hm100
    refine sim_call 49 [.ptr 0 0, LI id] (by kernel_rfl) ?_
    have ez0_101 := (hag.at_ 0 (by omega)).trans e0
    simp only [denL, LV.den, Nm.at_, ez0_101, Nat.add_zero]
    refine Calls.mono (at_out _ _ _ _ (by assumption) _ _ _ (by assumption) (by have h := (hR100.at_cell 0 0 (.v (Value.slice (some (Addr.mk h 0 none)) len cap)) (by kernel_rfl)); simp only [Nm.at_, ez0_101] at h; exact h) (fun _ => ⟨h, rfl⟩)) ?_
    rintro e101 w101 ⟨rfl, hb101⟩
    have hR101 := hR100.below hb101
    have hrow := hrow.below hb101
    refine Back.of (.v (Value.pointer none)) hR101 rfl ?_
    refine sim_run 15 [] hR101 (by kernel_rfl) trivial (fun ρ102 w102 hm102 hR102 => ?_)
    have hag := hag.moved hm102
    have hrow := hrow.moved hm102
    refine sim_ret (LI 3) hR102 (by kernel_rfl) (by kernel_rfl) ?_
    exact ⟨rfl, hrow.close0, hR102.keeps.kept⟩
    
  · have ho : ¬(id < 1 ∨ id > len) := by rw [← hl]; exact hod
    by_cases hz : mateI xs id = 0
    · refine sim_run 16 [] hR (by kernel_rfl) trivial (fun ρ200 w200 hm200 hR200 => ?_)
      have hag := hag.moved hm200
      have hrow := hrow.moved hm200
      refine sim_call 49 [.ptr 0 0, LI id] (by kernel_rfl) ?_
      have ez0_201 := (hag.at_ 0 (by omega)).trans e0
      simp only [denL, LV.den, Nm.at_, ez0_201, Nat.add_zero]
      refine Calls.mono (at_in _ _ _ _ (by assumption) _ _ _ (by assumption) (by have h := (hR200.at_cell 0 0 (.v (Value.slice (some (Addr.mk h 0 none)) len cap)) (by kernel_rfl)); simp only [Nm.at_, ez0_201] at h; exact h)) ?_
      rintro e201 w201 ⟨rfl, hb201⟩
      have hQ201 := hR200.below hb201
      have hrow := hrow.below hb201
      refine Back.elem _ 1 hrow hag (by kernel_rfl) (by omega) (by simp; try omega) (.inl (by simp)) hQ201 (by kernel_rfl) [0] (by kernel_rfl) (by intro k hk; simp only [List.mem_singleton] at hk; subst hk; rw [e0]; exact ⟨by omega, hne⟩) rfl (fun x201 ρ201 hx201 ha201 e201 hag hR201 hrow => ?_)
      obtain rfl := atI_of hx201
      have e0 := (ha201 0 (by omega)).trans e0
      refine sim_run 19 [] hR201 (by kernel_rfl) trivial (fun ρ202 w202 hm202 hR202 => ?_)
      have hag := hag.moved hm202
      have hrow := hrow.moved hm202
      refine sim_fork 28 ((atI xs id).state != 1) (by kernel_rfl) (fun hq203 => ?_) (fun hq203 => ?_)
      have hq203 := nb_t hq203
      have hq203 := of_decide_eq_false hq203
      refine sim_run 8 [] hR202 (by kernel_rfl) trivial (fun ρ204 w204 hm204 hR204 => ?_)
      have hag := hag.moved hm204
      have hrow := hrow.moved hm204
      refine sim_fork 22 ((atI xs id).state != 2) (by kernel_rfl) (fun hq205 => ?_) (fun hq205 => ?_)
      have hq205 := nb_t hq205
      have hq205 := of_decide_eq_false hq205
      refine sim_run 5 [] hR204 (by kernel_rfl) trivial (fun ρ206 w206 hm206 hR206 => ?_)
      have hag := hag.moved hm206
      have hrow := hrow.moved hm206
      refine sim_ret (LI 20) hR206 (by kernel_rfl) (by kernel_rfl) ?_
      (rw [settle_state hod (by omega) (by omega)]; exact ⟨rfl, hrow.same1 hod (bk_cell hR206 hag e201 _ (by kernel_rfl)), hR206.keeps.kept⟩)
      have hq205 := nb_f hq205
      have hq205 := of_decide_eq_true hq205
      refine sim_run 2 [] hR204 (by kernel_rfl) trivial (fun ρ207 w207 hm207 hR207 => ?_)
      have hag := hag.moved hm207
      have hrow := hrow.moved hm207
      refine sim_draw [] (by kernel_rfl) (by kernel_rfl) hR207 (fun hR208 => ?_)
      have hrow := hrow.drew
      refine sim_ordN 3 [] hR208 (by kernel_rfl) trivial (fun ρ209 w209 hm209 hR209 => ?_)
      have hag := hag.moved hm209
      have hrow := hrow.moved hm209
      refine sim_forkO hR209 38 (decide (qty < 1)) (by kernel_rfl) (fun hq210 hR210 => ?_) (fun hq210 hR210 => ?_)
      have hq210 := of_decide_eq_true hq210
      refine sim_ordN 26 [] hR210 (by kernel_rfl) trivial (fun ρ211 w211 hm211 hR211 => ?_)
      have hag := hag.moved hm211
      have hrow := hrow.moved hm211
      refine sim_ord_endR hR211 (by kernel_rfl) (fun hR212 => ?_)
      refine sim_run 5 [] hR212 (by kernel_rfl) trivial (fun ρ213 w213 hm213 hR213 => ?_)
      have hag := hag.moved hm213
      have hrow := hrow.moved hm213
      refine sim_ret (LI 1) hR213 (by kernel_rfl) (by kernel_rfl) ?_
      (rw [settle_arg hod (by omega) (by omega)]; exact ⟨rfl, hrow.same1 hod (bk_cell hR213 hag e201 _ (by kernel_rfl)), hR213.keeps.kept⟩)
      have hq210 := of_decide_eq_false hq210
      refine sim_ordN 4 [] hR210 (by kernel_rfl) trivial (fun ρ214 w214 hm214 hR214 => ?_)
      have hag := hag.moved hm214
      have hrow := hrow.moved hm214
      refine sim_ord_call (T := [h]) (w0 := w) 54 [.agg [LI ((atI xs id).id), LS ((atI xs id).term.party), LS ((atI xs id).term.account), LS ((atI xs id).term.money), LS ((atI xs id).term.other), LB ((atI xs id).term.deliver), LS ((atI xs id).term.asset), LS ((atI xs id).term.ccy), LS ((atI xs id).term.ref), LI ((atI xs id).term.qty), LI ((atI xs id).term.amount), LI ((atI xs id).term.day), LI ((atI xs id).term.trade), LI ((atI xs id).prio), LB ((atI xs id).part), LB ((atI xs id).held), LB ((atI xs id).wish), LI ((atI xs id).state), LI ((atI xs id).mate), LI ((atI xs id).done), LI ((atI xs id).paid)]] (by kernel_rfl) ?_
      refine Calls.mono (left_any (atI xs id) (by assumption) _) ?_
      rintro e215 w215 ⟨rfl, hb215⟩
      have hR215 := hR214.call hb215 (LI (leftI (atI xs id)))
      have hrow := hrow.below hb215
      refine BackO.of (LI (leftI (atI xs id))) hR215 rfl ?_
      refine sim_ordN 3 [] hR215 (by kernel_rfl) trivial (fun ρ216 w216 hm216 hR216 => ?_)
      have hag := hag.moved hm216
      have hrow := hrow.moved hm216
      refine sim_forkO hR216 46 (decide (qty > leftI (atI xs id))) (by kernel_rfl) (fun hq217 hR217 => ?_) (fun hq217 hR217 => ?_)
      have hq217 := of_decide_eq_true hq217
      refine sim_ordN 18 [] hR217 (by kernel_rfl) trivial (fun ρ218 w218 hm218 hR218 => ?_)
      have hag := hag.moved hm218
      have hrow := hrow.moved hm218
      refine sim_ord_endR hR218 (by kernel_rfl) (fun hR219 => ?_)
      refine sim_run 5 [] hR219 (by kernel_rfl) trivial (fun ρ220 w220 hm220 hR220 => ?_)
      have hag := hag.moved hm220
      have hrow := hrow.moved hm220
      refine sim_ret (LI 1) hR220 (by kernel_rfl) (by kernel_rfl) ?_
      (rw [settle_arg hod (by omega) (by omega)]; exact ⟨rfl, hrow.same1 hod (bk_cell hR220 hag e201 _ (by kernel_rfl)), hR220.keeps.kept⟩)
      have hq217 := of_decide_eq_false hq217
      refine sim_ordN 4 [] hR217 (by kernel_rfl) trivial (fun ρ221 w221 hm221 hR221 => ?_)
      have hag := hag.moved hm221
      have hrow := hrow.moved hm221
      refine sim_forkO hR221 50 (decide (paid < 0)) (by kernel_rfl) (fun hq222 hR222 => ?_) (fun hq222 hR222 => ?_)
      have hq222 := of_decide_eq_true hq222
      refine sim_ordN 14 [] hR222 (by kernel_rfl) trivial (fun ρ223 w223 hm223 hR223 => ?_)
      have hag := hag.moved hm223
      have hrow := hrow.moved hm223
      refine sim_ord_endR hR223 (by kernel_rfl) (fun hR224 => ?_)
      refine sim_run 5 [] hR224 (by kernel_rfl) trivial (fun ρ225 w225 hm225 hR225 => ?_)
      have hag := hag.moved hm225
      have hrow := hrow.moved hm225
      refine sim_ret (LI 1) hR225 (by kernel_rfl) (by kernel_rfl) ?_
      (rw [settle_arg hod (by omega) (by omega)]; exact ⟨rfl, hrow.same1 hod (bk_cell hR225 hag e201 _ (by kernel_rfl)), hR225.keeps.kept⟩)
      have hq222 := of_decide_eq_false hq222
      refine sim_ordN 14 [] hR222 (by kernel_rfl) trivial (fun ρ226 w226 hm226 hR226 => ?_)
      have hag := hag.moved hm226
      have hrow := hrow.moved hm226
      refine sim_ord_endR hR226 (by kernel_rfl) (fun hR227 => ?_)
      refine sim_fork 35 (decide (paid > IntKind.i64.wrap ((atI xs id).term.amount - (atI xs id).paid))) (by kernel_rfl) (fun hq228 => ?_) (fun hq228 => ?_)
      have hq228 := of_decide_eq_true hq228
      refine sim_run 5 [] hR227 (by kernel_rfl) trivial (fun ρ229 w229 hm229 hR229 => ?_)
      have hag := hag.moved hm229
      have hrow := hrow.moved hm229
      refine sim_ret (LI 1) hR229 (by kernel_rfl) (by kernel_rfl) ?_
      (rw [settle_arg hod (by omega) (by omega)]; exact ⟨rfl, hrow.same1 hod (bk_cell hR229 hag e201 _ (by kernel_rfl)), hR229.keeps.kept⟩)
      have hq228 := of_decide_eq_false hq228
      refine sim_run 14 [] hR227 (by kernel_rfl) trivial (fun ρ230 w230 hm230 hR230 => ?_)
      have hag := hag.moved hm230
      have hrow := hrow.moved hm230
      refine sim_call 54 [.agg [LI ((atI xs id).id), LS ((atI xs id).term.party), LS ((atI xs id).term.account), LS ((atI xs id).term.money), LS ((atI xs id).term.other), LB ((atI xs id).term.deliver), LS ((atI xs id).term.asset), LS ((atI xs id).term.ccy), LS ((atI xs id).term.ref), LI ((atI xs id).term.qty), LI ((atI xs id).term.amount), LI ((atI xs id).term.day), LI ((atI xs id).term.trade), LI ((atI xs id).prio), LB ((atI xs id).part), LB ((atI xs id).held), LB ((atI xs id).wish), LI ((atI xs id).state), LI ((atI xs id).mate), LI ((atI xs id).done), LI ((atI xs id).paid)]] (by kernel_rfl) ?_
      refine Calls.mono (left_any (atI xs id) (by assumption) _) ?_
      rintro e231 w231 ⟨rfl, hb231⟩
      have hR231 := hR230.below hb231
      have hrow := hrow.below hb231
      refine Back.of (LI (leftI (atI xs id))) hR231 rfl ?_
      refine sim_run 2 [] hR231 (by kernel_rfl) trivial (fun ρ232 w232 hm232 hR232 => ?_)
      have hag := hag.moved hm232
      have hrow := hrow.moved hm232
      refine sim_fork 69 (qty == leftI (atI xs id)) (by kernel_rfl) (fun hq233 => ?_) (fun hq233 => ?_)
      have hq233 := of_decide_eq_true hq233
      refine sim_run 8 [] hR232 (by kernel_rfl) trivial (fun ρ234 w234 hm234 hR234 => ?_)
      have hag := hag.moved hm234
      have hrow := hrow.moved hm234
      refine sim_call 52 [.ptr 0 0, .ptr 1 0] (by kernel_rfl) ?_
      have ez1_235 := (hag.at_ 1 (by omega)).trans e201
      have ez0_235 := (hag.at_ 0 (by omega)).trans e0
      simp only [denL, LV.den, Nm.at_, ez1_235, ez0_235, Nat.add_zero]
      refine Calls.mono (mate_none _ _ _ _ _ _ _ _ (by have h := (hR234.at_cell 0 0 (.v (Value.slice (some (Addr.mk h 0 none)) len cap)) (by kernel_rfl)); simp only [Nm.at_, ez0_235] at h; exact h) (hrow.same1 hod (bk_cell hR234 hag e201 _ (by kernel_rfl))) (by assumption) (by assumption) (by assumption) (by assumption)) ?_
      rintro e235 w235 ⟨rfl, hb235⟩
      have hR235 := hR234.below hb235
      have hrow := hrow.below hb235
      refine Back.of (.v (Value.pointer none)) hR235 rfl ?_
      refine sim_run 12 [] hR235 (by kernel_rfl) trivial (fun ρ236 w236 hm236 hR236 => ?_)
      have hag := hag.moved hm236
      have hrow := hrow.moved hm236
      refine sim_unroll 3 (by kernel_rfl) ?_
      refine sim_run 12 [] hR236 (by kernel_rfl) trivial (fun ρ237 w237 hm237 hR237 => ?_)
      have hag := hag.moved hm237
      have hrow := hrow.moved hm237
      refine sim_idx 2 0 2 2 0 1 (by kernel_rfl) (by omega) ?_
      refine sim_run 49 [] hR237 (by kernel_rfl) trivial (fun ρ238 w238 hm238 hR238 => ?_)
      have hag := hag.moved hm238
      have hrow := hrow.moved hm238
      refine sim_idx 2 0 2 2 1 1 (by kernel_rfl) (by omega) ?_
      refine sim_run 29 [] hR238 (by kernel_rfl) trivial (fun ρ239 w239 hm239 hR239 => ?_)
      have hag := hag.moved hm239
      have hrow := hrow.moved hm239
      refine sim_into Try.func50 [LI 2, .slc 3 0 2 2] (by kernel_rfl) (by kernel_rfl) ?_
      have hag240 := hR239.ag_ 4 (by kernel_rfl)
      refine sim_run 16 [] hR239 (by kernel_rfl) trivial (fun ρ241 w241 hm241 hR241 => ?_)
      have hag := hag.moved hm241
      have hrow := hrow.moved hm241
      have hag240 := hag240.moved hm241
      refine sim_unroll 3 (by kernel_rfl) ?_
      refine sim_run 12 [] hR241 (by kernel_rfl) trivial (fun ρ242 w242 hm242 hR242 => ?_)
      have hag := hag.moved hm242
      have hrow := hrow.moved hm242
      have hag240 := hag240.moved hm242
      refine sim_idx 3 0 2 2 0 1 (by kernel_rfl) (by omega) ?_
      refine sim_run 18 [] hR242 (by kernel_rfl) trivial (fun ρ243 w243 hm243 hR243 => ?_)
      have hag := hag.moved hm243
      have hrow := hrow.moved hm243
      have hag240 := hag240.moved hm243
      refine sim_call 63 [LI ((atI xs id).state), LI 2] (by kernel_rfl) ?_
      refine Calls.mono (next_any _ _ _) ?_
      rintro e244 w244 ⟨rfl, hb244⟩
      have hR244 := hR243.below hb244
      have hrow := hrow.below hb244
      refine Back.of (.tup [LI ((nextM (atI xs id).state 2).fst), LB ((nextM (atI xs id).state 2).snd)]) hR244 rfl ?_
      refine sim_run 10 [] hR244 (by kernel_rfl) trivial (fun ρ245 w245 hm245 hR245 => ?_)
      have hag := hag.moved hm245
      have hag240 := hag240.moved hm245
      have hrow := hrow.moved hm245
      refine sim_fork 27 ((nextM (atI xs id).state 2).snd) (by kernel_rfl) (fun hq246 => ?_) (fun hq246 => ?_)
      refine sim_run 31 [] hR245 (by kernel_rfl) trivial (fun ρ247 w247 hm247 hR247 => ?_)
      have hag := hag.moved hm247
      have hag240 := hag240.moved hm247
      have hrow := hrow.moved hm247
      refine sim_idx 3 0 2 2 1 1 (by kernel_rfl) (by omega) ?_
      refine sim_run 28 [] hR247 (by kernel_rfl) trivial (fun ρ248 w248 hm248 hR248 => ?_)
      have hag := hag.moved hm248
      have hag240 := hag240.moved hm248
      have hrow := hrow.moved hm248
      refine sim_out 4 (LI 1) hR248 (by kernel_rfl) (by kernel_rfl) hag240.ag (by kernel_rfl) ?_
      refine sim_run 5 [] hR248 (by kernel_rfl) trivial (fun ρ249 w249 hm249 hR249 => ?_)
      have hag := hag.moved hm249
      have hag240 := hag240.moved hm249
      have hrow := hrow.moved hm249
      refine sim_ret (LI 0) hR249 (by kernel_rfl) (by kernel_rfl) ?_
      (rw [settle_ok hod (by omega) (by omega), if_pos hz]; refine ⟨rfl, ?_, hR249.keeps.kept⟩; rw [show evOf xs id qty = 2 from by unfold evOf; rw [if_pos (by omega)]]; unfold updI; dsimp only; rw [doI_t (x := paidI qty paid (atI xs id)) (by assumption)]; exact hrow.close1 (by omega) ({ paidI qty paid (atI xs id) with state := (nextM (atI xs id).state 2).1 }) (bk_cell hR249 hag e201 _ (by kernel_rfl)))
      refine sim_run 19 [] hR245 (by kernel_rfl) trivial (fun ρ250 w250 hm250 hR250 => ?_)
      have hag := hag.moved hm250
      have hag240 := hag240.moved hm250
      have hrow := hrow.moved hm250
      refine sim_idx 3 0 2 2 1 1 (by kernel_rfl) (by omega) ?_
      refine sim_run 28 [] hR250 (by kernel_rfl) trivial (fun ρ251 w251 hm251 hR251 => ?_)
      have hag := hag.moved hm251
      have hag240 := hag240.moved hm251
      have hrow := hrow.moved hm251
      refine sim_out 4 (LI 0) hR251 (by kernel_rfl) (by kernel_rfl) hag240.ag (by kernel_rfl) ?_
      refine sim_run 5 [] hR251 (by kernel_rfl) trivial (fun ρ252 w252 hm252 hR252 => ?_)
      have hag := hag.moved hm252
      have hag240 := hag240.moved hm252
      have hrow := hrow.moved hm252
      refine sim_ret (LI 0) hR252 (by kernel_rfl) (by kernel_rfl) ?_
      (rw [settle_ok hod (by omega) (by omega), if_pos hz]; refine ⟨rfl, ?_, hR252.keeps.kept⟩; rw [show evOf xs id qty = 2 from by unfold evOf; rw [if_pos (by omega)]]; unfold updI; dsimp only; rw [doI_f (x := paidI qty paid (atI xs id)) (by assumption)]; exact hrow.close1 (by omega) (paidI qty paid (atI xs id)) (bk_cell hR252 hag e201 _ (by kernel_rfl)))
      have hq233 := of_decide_eq_false hq233
      refine sim_run 6 [] hR232 (by kernel_rfl) trivial (fun ρ253 w253 hm253 hR253 => ?_)
      have hag := hag.moved hm253
      have hrow := hrow.moved hm253
      refine sim_call 52 [.ptr 0 0, .ptr 1 0] (by kernel_rfl) ?_
      have ez1_254 := (hag.at_ 1 (by omega)).trans e201
      have ez0_254 := (hag.at_ 0 (by omega)).trans e0
      simp only [denL, LV.den, Nm.at_, ez1_254, ez0_254, Nat.add_zero]
      refine Calls.mono (mate_none _ _ _ _ _ _ _ _ (by have h := (hR253.at_cell 0 0 (.v (Value.slice (some (Addr.mk h 0 none)) len cap)) (by kernel_rfl)); simp only [Nm.at_, ez0_254] at h; exact h) (hrow.same1 hod (bk_cell hR253 hag e201 _ (by kernel_rfl))) (by assumption) (by assumption) (by assumption) (by assumption)) ?_
      rintro e254 w254 ⟨rfl, hb254⟩
      have hR254 := hR253.below hb254
      have hrow := hrow.below hb254
      refine Back.of (.v (Value.pointer none)) hR254 rfl ?_
      refine sim_run 12 [] hR254 (by kernel_rfl) trivial (fun ρ255 w255 hm255 hR255 => ?_)
      have hag := hag.moved hm255
      have hrow := hrow.moved hm255
      refine sim_unroll 3 (by kernel_rfl) ?_
      refine sim_run 12 [] hR255 (by kernel_rfl) trivial (fun ρ256 w256 hm256 hR256 => ?_)
      have hag := hag.moved hm256
      have hrow := hrow.moved hm256
      refine sim_idx 2 0 2 2 0 1 (by kernel_rfl) (by omega) ?_
      refine sim_run 49 [] hR256 (by kernel_rfl) trivial (fun ρ257 w257 hm257 hR257 => ?_)
      have hag := hag.moved hm257
      have hrow := hrow.moved hm257
      refine sim_idx 2 0 2 2 1 1 (by kernel_rfl) (by omega) ?_
      refine sim_run 29 [] hR257 (by kernel_rfl) trivial (fun ρ258 w258 hm258 hR258 => ?_)
      have hag := hag.moved hm258
      have hrow := hrow.moved hm258
      refine sim_into Try.func50 [LI 1, .slc 3 0 2 2] (by kernel_rfl) (by kernel_rfl) ?_
      have hag259 := hR258.ag_ 4 (by kernel_rfl)
      refine sim_run 16 [] hR258 (by kernel_rfl) trivial (fun ρ260 w260 hm260 hR260 => ?_)
      have hag := hag.moved hm260
      have hrow := hrow.moved hm260
      have hag259 := hag259.moved hm260
      refine sim_unroll 3 (by kernel_rfl) ?_
      refine sim_run 12 [] hR260 (by kernel_rfl) trivial (fun ρ261 w261 hm261 hR261 => ?_)
      have hag := hag.moved hm261
      have hrow := hrow.moved hm261
      have hag259 := hag259.moved hm261
      refine sim_idx 3 0 2 2 0 1 (by kernel_rfl) (by omega) ?_
      refine sim_run 18 [] hR261 (by kernel_rfl) trivial (fun ρ262 w262 hm262 hR262 => ?_)
      have hag := hag.moved hm262
      have hrow := hrow.moved hm262
      have hag259 := hag259.moved hm262
      refine sim_call 63 [LI ((atI xs id).state), LI 1] (by kernel_rfl) ?_
      refine Calls.mono (next_any _ _ _) ?_
      rintro e263 w263 ⟨rfl, hb263⟩
      have hR263 := hR262.below hb263
      have hrow := hrow.below hb263
      refine Back.of (.tup [LI ((nextM (atI xs id).state 1).fst), LB ((nextM (atI xs id).state 1).snd)]) hR263 rfl ?_
      refine sim_run 10 [] hR263 (by kernel_rfl) trivial (fun ρ264 w264 hm264 hR264 => ?_)
      have hag := hag.moved hm264
      have hag259 := hag259.moved hm264
      have hrow := hrow.moved hm264
      refine sim_fork 27 ((nextM (atI xs id).state 1).snd) (by kernel_rfl) (fun hq265 => ?_) (fun hq265 => ?_)
      refine sim_run 31 [] hR264 (by kernel_rfl) trivial (fun ρ266 w266 hm266 hR266 => ?_)
      have hag := hag.moved hm266
      have hag259 := hag259.moved hm266
      have hrow := hrow.moved hm266
      refine sim_idx 3 0 2 2 1 1 (by kernel_rfl) (by omega) ?_
      refine sim_run 28 [] hR266 (by kernel_rfl) trivial (fun ρ267 w267 hm267 hR267 => ?_)
      have hag := hag.moved hm267
      have hag259 := hag259.moved hm267
      have hrow := hrow.moved hm267
      refine sim_out 4 (LI 1) hR267 (by kernel_rfl) (by kernel_rfl) hag259.ag (by kernel_rfl) ?_
      refine sim_run 5 [] hR267 (by kernel_rfl) trivial (fun ρ268 w268 hm268 hR268 => ?_)
      have hag := hag.moved hm268
      have hag259 := hag259.moved hm268
      have hrow := hrow.moved hm268
      refine sim_ret (LI 0) hR268 (by kernel_rfl) (by kernel_rfl) ?_
      (rw [settle_ok hod (by omega) (by omega), if_pos hz]; refine ⟨rfl, ?_, hR268.keeps.kept⟩; rw [show evOf xs id qty = 1 from by unfold evOf; rw [if_neg (by omega)]]; unfold updI; dsimp only; rw [doI_t (x := paidI qty paid (atI xs id)) (by assumption)]; exact hrow.close1 (by omega) ({ paidI qty paid (atI xs id) with state := (nextM (atI xs id).state 1).1 }) (bk_cell hR268 hag e201 _ (by kernel_rfl)))
      refine sim_run 19 [] hR264 (by kernel_rfl) trivial (fun ρ269 w269 hm269 hR269 => ?_)
      have hag := hag.moved hm269
      have hag259 := hag259.moved hm269
      have hrow := hrow.moved hm269
      refine sim_idx 3 0 2 2 1 1 (by kernel_rfl) (by omega) ?_
      refine sim_run 28 [] hR269 (by kernel_rfl) trivial (fun ρ270 w270 hm270 hR270 => ?_)
      have hag := hag.moved hm270
      have hag259 := hag259.moved hm270
      have hrow := hrow.moved hm270
      refine sim_out 4 (LI 0) hR270 (by kernel_rfl) (by kernel_rfl) hag259.ag (by kernel_rfl) ?_
      refine sim_run 5 [] hR270 (by kernel_rfl) trivial (fun ρ271 w271 hm271 hR271 => ?_)
      have hag := hag.moved hm271
      have hag259 := hag259.moved hm271
      have hrow := hrow.moved hm271
      refine sim_ret (LI 0) hR271 (by kernel_rfl) (by kernel_rfl) ?_
      (rw [settle_ok hod (by omega) (by omega), if_pos hz]; refine ⟨rfl, ?_, hR271.keeps.kept⟩; rw [show evOf xs id qty = 1 from by unfold evOf; rw [if_neg (by omega)]]; unfold updI; dsimp only; rw [doI_f (x := paidI qty paid (atI xs id)) (by assumption)]; exact hrow.close1 (by omega) (paidI qty paid (atI xs id)) (bk_cell hR271 hag e201 _ (by kernel_rfl)))
      have hq203 := nb_f hq203
      have hq203 := of_decide_eq_true hq203
      refine sim_run 10 [] hR202 (by kernel_rfl) trivial (fun ρ272 w272 hm272 hR272 => ?_)
      have hag := hag.moved hm272
      have hrow := hrow.moved hm272
      refine sim_draw [] (by kernel_rfl) (by kernel_rfl) hR272 (fun hR273 => ?_)
      have hrow := hrow.drew
      refine sim_ordN 3 [] hR273 (by kernel_rfl) trivial (fun ρ274 w274 hm274 hR274 => ?_)
      have hag := hag.moved hm274
      have hrow := hrow.moved hm274
      refine sim_forkO hR274 38 (decide (qty < 1)) (by kernel_rfl) (fun hq275 hR275 => ?_) (fun hq275 hR275 => ?_)
      have hq275 := of_decide_eq_true hq275
      refine sim_ordN 26 [] hR275 (by kernel_rfl) trivial (fun ρ276 w276 hm276 hR276 => ?_)
      have hag := hag.moved hm276
      have hrow := hrow.moved hm276
      refine sim_ord_endR hR276 (by kernel_rfl) (fun hR277 => ?_)
      refine sim_run 5 [] hR277 (by kernel_rfl) trivial (fun ρ278 w278 hm278 hR278 => ?_)
      have hag := hag.moved hm278
      have hrow := hrow.moved hm278
      refine sim_ret (LI 1) hR278 (by kernel_rfl) (by kernel_rfl) ?_
      (rw [settle_arg hod (by omega) (by omega)]; exact ⟨rfl, hrow.same1 hod (bk_cell hR278 hag e201 _ (by kernel_rfl)), hR278.keeps.kept⟩)
      have hq275 := of_decide_eq_false hq275
      refine sim_ordN 4 [] hR275 (by kernel_rfl) trivial (fun ρ279 w279 hm279 hR279 => ?_)
      have hag := hag.moved hm279
      have hrow := hrow.moved hm279
      refine sim_ord_call (T := [h]) (w0 := w) 54 [.agg [LI ((atI xs id).id), LS ((atI xs id).term.party), LS ((atI xs id).term.account), LS ((atI xs id).term.money), LS ((atI xs id).term.other), LB ((atI xs id).term.deliver), LS ((atI xs id).term.asset), LS ((atI xs id).term.ccy), LS ((atI xs id).term.ref), LI ((atI xs id).term.qty), LI ((atI xs id).term.amount), LI ((atI xs id).term.day), LI ((atI xs id).term.trade), LI ((atI xs id).prio), LB ((atI xs id).part), LB ((atI xs id).held), LB ((atI xs id).wish), LI ((atI xs id).state), LI ((atI xs id).mate), LI ((atI xs id).done), LI ((atI xs id).paid)]] (by kernel_rfl) ?_
      refine Calls.mono (left_any (atI xs id) (by assumption) _) ?_
      rintro e280 w280 ⟨rfl, hb280⟩
      have hR280 := hR279.call hb280 (LI (leftI (atI xs id)))
      have hrow := hrow.below hb280
      refine BackO.of (LI (leftI (atI xs id))) hR280 rfl ?_
      refine sim_ordN 3 [] hR280 (by kernel_rfl) trivial (fun ρ281 w281 hm281 hR281 => ?_)
      have hag := hag.moved hm281
      have hrow := hrow.moved hm281
      refine sim_forkO hR281 46 (decide (qty > leftI (atI xs id))) (by kernel_rfl) (fun hq282 hR282 => ?_) (fun hq282 hR282 => ?_)
      have hq282 := of_decide_eq_true hq282
      refine sim_ordN 18 [] hR282 (by kernel_rfl) trivial (fun ρ283 w283 hm283 hR283 => ?_)
      have hag := hag.moved hm283
      have hrow := hrow.moved hm283
      refine sim_ord_endR hR283 (by kernel_rfl) (fun hR284 => ?_)
      refine sim_run 5 [] hR284 (by kernel_rfl) trivial (fun ρ285 w285 hm285 hR285 => ?_)
      have hag := hag.moved hm285
      have hrow := hrow.moved hm285
      refine sim_ret (LI 1) hR285 (by kernel_rfl) (by kernel_rfl) ?_
      (rw [settle_arg hod (by omega) (by omega)]; exact ⟨rfl, hrow.same1 hod (bk_cell hR285 hag e201 _ (by kernel_rfl)), hR285.keeps.kept⟩)
      have hq282 := of_decide_eq_false hq282
      refine sim_ordN 4 [] hR282 (by kernel_rfl) trivial (fun ρ286 w286 hm286 hR286 => ?_)
      have hag := hag.moved hm286
      have hrow := hrow.moved hm286
      refine sim_forkO hR286 50 (decide (paid < 0)) (by kernel_rfl) (fun hq287 hR287 => ?_) (fun hq287 hR287 => ?_)
      have hq287 := of_decide_eq_true hq287
      refine sim_ordN 14 [] hR287 (by kernel_rfl) trivial (fun ρ288 w288 hm288 hR288 => ?_)
      have hag := hag.moved hm288
      have hrow := hrow.moved hm288
      refine sim_ord_endR hR288 (by kernel_rfl) (fun hR289 => ?_)
      refine sim_run 5 [] hR289 (by kernel_rfl) trivial (fun ρ290 w290 hm290 hR290 => ?_)
      have hag := hag.moved hm290
      have hrow := hrow.moved hm290
      refine sim_ret (LI 1) hR290 (by kernel_rfl) (by kernel_rfl) ?_
      (rw [settle_arg hod (by omega) (by omega)]; exact ⟨rfl, hrow.same1 hod (bk_cell hR290 hag e201 _ (by kernel_rfl)), hR290.keeps.kept⟩)
      have hq287 := of_decide_eq_false hq287
      refine sim_ordN 14 [] hR287 (by kernel_rfl) trivial (fun ρ291 w291 hm291 hR291 => ?_)
      have hag := hag.moved hm291
      have hrow := hrow.moved hm291
      refine sim_ord_endR hR291 (by kernel_rfl) (fun hR292 => ?_)
      refine sim_fork 35 (decide (paid > IntKind.i64.wrap ((atI xs id).term.amount - (atI xs id).paid))) (by kernel_rfl) (fun hq293 => ?_) (fun hq293 => ?_)
      have hq293 := of_decide_eq_true hq293
      refine sim_run 5 [] hR292 (by kernel_rfl) trivial (fun ρ294 w294 hm294 hR294 => ?_)
      have hag := hag.moved hm294
      have hrow := hrow.moved hm294
      refine sim_ret (LI 1) hR294 (by kernel_rfl) (by kernel_rfl) ?_
      (rw [settle_arg hod (by omega) (by omega)]; exact ⟨rfl, hrow.same1 hod (bk_cell hR294 hag e201 _ (by kernel_rfl)), hR294.keeps.kept⟩)
      have hq293 := of_decide_eq_false hq293
      refine sim_run 14 [] hR292 (by kernel_rfl) trivial (fun ρ295 w295 hm295 hR295 => ?_)
      have hag := hag.moved hm295
      have hrow := hrow.moved hm295
      refine sim_call 54 [.agg [LI ((atI xs id).id), LS ((atI xs id).term.party), LS ((atI xs id).term.account), LS ((atI xs id).term.money), LS ((atI xs id).term.other), LB ((atI xs id).term.deliver), LS ((atI xs id).term.asset), LS ((atI xs id).term.ccy), LS ((atI xs id).term.ref), LI ((atI xs id).term.qty), LI ((atI xs id).term.amount), LI ((atI xs id).term.day), LI ((atI xs id).term.trade), LI ((atI xs id).prio), LB ((atI xs id).part), LB ((atI xs id).held), LB ((atI xs id).wish), LI ((atI xs id).state), LI ((atI xs id).mate), LI ((atI xs id).done), LI ((atI xs id).paid)]] (by kernel_rfl) ?_
      refine Calls.mono (left_any (atI xs id) (by assumption) _) ?_
      rintro e296 w296 ⟨rfl, hb296⟩
      have hR296 := hR295.below hb296
      have hrow := hrow.below hb296
      refine Back.of (LI (leftI (atI xs id))) hR296 rfl ?_
      refine sim_run 2 [] hR296 (by kernel_rfl) trivial (fun ρ297 w297 hm297 hR297 => ?_)
      have hag := hag.moved hm297
      have hrow := hrow.moved hm297
      refine sim_fork 69 (qty == leftI (atI xs id)) (by kernel_rfl) (fun hq298 => ?_) (fun hq298 => ?_)
      have hq298 := of_decide_eq_true hq298
      refine sim_run 8 [] hR297 (by kernel_rfl) trivial (fun ρ299 w299 hm299 hR299 => ?_)
      have hag := hag.moved hm299
      have hrow := hrow.moved hm299
      refine sim_call 52 [.ptr 0 0, .ptr 1 0] (by kernel_rfl) ?_
      have ez1_300 := (hag.at_ 1 (by omega)).trans e201
      have ez0_300 := (hag.at_ 0 (by omega)).trans e0
      simp only [denL, LV.den, Nm.at_, ez1_300, ez0_300, Nat.add_zero]
      refine Calls.mono (mate_none _ _ _ _ _ _ _ _ (by have h := (hR299.at_cell 0 0 (.v (Value.slice (some (Addr.mk h 0 none)) len cap)) (by kernel_rfl)); simp only [Nm.at_, ez0_300] at h; exact h) (hrow.same1 hod (bk_cell hR299 hag e201 _ (by kernel_rfl))) (by assumption) (by assumption) (by assumption) (by assumption)) ?_
      rintro e300 w300 ⟨rfl, hb300⟩
      have hR300 := hR299.below hb300
      have hrow := hrow.below hb300
      refine Back.of (.v (Value.pointer none)) hR300 rfl ?_
      refine sim_run 12 [] hR300 (by kernel_rfl) trivial (fun ρ301 w301 hm301 hR301 => ?_)
      have hag := hag.moved hm301
      have hrow := hrow.moved hm301
      refine sim_unroll 3 (by kernel_rfl) ?_
      refine sim_run 12 [] hR301 (by kernel_rfl) trivial (fun ρ302 w302 hm302 hR302 => ?_)
      have hag := hag.moved hm302
      have hrow := hrow.moved hm302
      refine sim_idx 2 0 2 2 0 1 (by kernel_rfl) (by omega) ?_
      refine sim_run 49 [] hR302 (by kernel_rfl) trivial (fun ρ303 w303 hm303 hR303 => ?_)
      have hag := hag.moved hm303
      have hrow := hrow.moved hm303
      refine sim_idx 2 0 2 2 1 1 (by kernel_rfl) (by omega) ?_
      refine sim_run 29 [] hR303 (by kernel_rfl) trivial (fun ρ304 w304 hm304 hR304 => ?_)
      have hag := hag.moved hm304
      have hrow := hrow.moved hm304
      refine sim_into Try.func50 [LI 2, .slc 3 0 2 2] (by kernel_rfl) (by kernel_rfl) ?_
      have hag305 := hR304.ag_ 4 (by kernel_rfl)
      refine sim_run 16 [] hR304 (by kernel_rfl) trivial (fun ρ306 w306 hm306 hR306 => ?_)
      have hag := hag.moved hm306
      have hrow := hrow.moved hm306
      have hag305 := hag305.moved hm306
      refine sim_unroll 3 (by kernel_rfl) ?_
      refine sim_run 12 [] hR306 (by kernel_rfl) trivial (fun ρ307 w307 hm307 hR307 => ?_)
      have hag := hag.moved hm307
      have hrow := hrow.moved hm307
      have hag305 := hag305.moved hm307
      refine sim_idx 3 0 2 2 0 1 (by kernel_rfl) (by omega) ?_
      refine sim_run 18 [] hR307 (by kernel_rfl) trivial (fun ρ308 w308 hm308 hR308 => ?_)
      have hag := hag.moved hm308
      have hrow := hrow.moved hm308
      have hag305 := hag305.moved hm308
      refine sim_call 63 [LI ((atI xs id).state), LI 2] (by kernel_rfl) ?_
      refine Calls.mono (next_any _ _ _) ?_
      rintro e309 w309 ⟨rfl, hb309⟩
      have hR309 := hR308.below hb309
      have hrow := hrow.below hb309
      refine Back.of (.tup [LI ((nextM (atI xs id).state 2).fst), LB ((nextM (atI xs id).state 2).snd)]) hR309 rfl ?_
      refine sim_run 10 [] hR309 (by kernel_rfl) trivial (fun ρ310 w310 hm310 hR310 => ?_)
      have hag := hag.moved hm310
      have hag305 := hag305.moved hm310
      have hrow := hrow.moved hm310
      refine sim_fork 27 ((nextM (atI xs id).state 2).snd) (by kernel_rfl) (fun hq311 => ?_) (fun hq311 => ?_)
      refine sim_run 31 [] hR310 (by kernel_rfl) trivial (fun ρ312 w312 hm312 hR312 => ?_)
      have hag := hag.moved hm312
      have hag305 := hag305.moved hm312
      have hrow := hrow.moved hm312
      refine sim_idx 3 0 2 2 1 1 (by kernel_rfl) (by omega) ?_
      refine sim_run 28 [] hR312 (by kernel_rfl) trivial (fun ρ313 w313 hm313 hR313 => ?_)
      have hag := hag.moved hm313
      have hag305 := hag305.moved hm313
      have hrow := hrow.moved hm313
      refine sim_out 4 (LI 1) hR313 (by kernel_rfl) (by kernel_rfl) hag305.ag (by kernel_rfl) ?_
      refine sim_run 5 [] hR313 (by kernel_rfl) trivial (fun ρ314 w314 hm314 hR314 => ?_)
      have hag := hag.moved hm314
      have hag305 := hag305.moved hm314
      have hrow := hrow.moved hm314
      refine sim_ret (LI 0) hR314 (by kernel_rfl) (by kernel_rfl) ?_
      (rw [settle_ok hod (by omega) (by omega), if_pos hz]; refine ⟨rfl, ?_, hR314.keeps.kept⟩; rw [show evOf xs id qty = 2 from by unfold evOf; rw [if_pos (by omega)]]; unfold updI; dsimp only; rw [doI_t (x := paidI qty paid (atI xs id)) (by assumption)]; exact hrow.close1 (by omega) ({ paidI qty paid (atI xs id) with state := (nextM (atI xs id).state 2).1 }) (bk_cell hR314 hag e201 _ (by kernel_rfl)))
      refine sim_run 19 [] hR310 (by kernel_rfl) trivial (fun ρ315 w315 hm315 hR315 => ?_)
      have hag := hag.moved hm315
      have hag305 := hag305.moved hm315
      have hrow := hrow.moved hm315
      refine sim_idx 3 0 2 2 1 1 (by kernel_rfl) (by omega) ?_
      refine sim_run 28 [] hR315 (by kernel_rfl) trivial (fun ρ316 w316 hm316 hR316 => ?_)
      have hag := hag.moved hm316
      have hag305 := hag305.moved hm316
      have hrow := hrow.moved hm316
      refine sim_out 4 (LI 0) hR316 (by kernel_rfl) (by kernel_rfl) hag305.ag (by kernel_rfl) ?_
      refine sim_run 5 [] hR316 (by kernel_rfl) trivial (fun ρ317 w317 hm317 hR317 => ?_)
      have hag := hag.moved hm317
      have hag305 := hag305.moved hm317
      have hrow := hrow.moved hm317
      refine sim_ret (LI 0) hR317 (by kernel_rfl) (by kernel_rfl) ?_
      (rw [settle_ok hod (by omega) (by omega), if_pos hz]; refine ⟨rfl, ?_, hR317.keeps.kept⟩; rw [show evOf xs id qty = 2 from by unfold evOf; rw [if_pos (by omega)]]; unfold updI; dsimp only; rw [doI_f (x := paidI qty paid (atI xs id)) (by assumption)]; exact hrow.close1 (by omega) (paidI qty paid (atI xs id)) (bk_cell hR317 hag e201 _ (by kernel_rfl)))
      have hq298 := of_decide_eq_false hq298
      refine sim_run 6 [] hR297 (by kernel_rfl) trivial (fun ρ318 w318 hm318 hR318 => ?_)
      have hag := hag.moved hm318
      have hrow := hrow.moved hm318
      refine sim_call 52 [.ptr 0 0, .ptr 1 0] (by kernel_rfl) ?_
      have ez1_319 := (hag.at_ 1 (by omega)).trans e201
      have ez0_319 := (hag.at_ 0 (by omega)).trans e0
      simp only [denL, LV.den, Nm.at_, ez1_319, ez0_319, Nat.add_zero]
      refine Calls.mono (mate_none _ _ _ _ _ _ _ _ (by have h := (hR318.at_cell 0 0 (.v (Value.slice (some (Addr.mk h 0 none)) len cap)) (by kernel_rfl)); simp only [Nm.at_, ez0_319] at h; exact h) (hrow.same1 hod (bk_cell hR318 hag e201 _ (by kernel_rfl))) (by assumption) (by assumption) (by assumption) (by assumption)) ?_
      rintro e319 w319 ⟨rfl, hb319⟩
      have hR319 := hR318.below hb319
      have hrow := hrow.below hb319
      refine Back.of (.v (Value.pointer none)) hR319 rfl ?_
      refine sim_run 12 [] hR319 (by kernel_rfl) trivial (fun ρ320 w320 hm320 hR320 => ?_)
      have hag := hag.moved hm320
      have hrow := hrow.moved hm320
      refine sim_unroll 3 (by kernel_rfl) ?_
      refine sim_run 12 [] hR320 (by kernel_rfl) trivial (fun ρ321 w321 hm321 hR321 => ?_)
      have hag := hag.moved hm321
      have hrow := hrow.moved hm321
      refine sim_idx 2 0 2 2 0 1 (by kernel_rfl) (by omega) ?_
      refine sim_run 49 [] hR321 (by kernel_rfl) trivial (fun ρ322 w322 hm322 hR322 => ?_)
      have hag := hag.moved hm322
      have hrow := hrow.moved hm322
      refine sim_idx 2 0 2 2 1 1 (by kernel_rfl) (by omega) ?_
      refine sim_run 29 [] hR322 (by kernel_rfl) trivial (fun ρ323 w323 hm323 hR323 => ?_)
      have hag := hag.moved hm323
      have hrow := hrow.moved hm323
      refine sim_into Try.func50 [LI 1, .slc 3 0 2 2] (by kernel_rfl) (by kernel_rfl) ?_
      have hag324 := hR323.ag_ 4 (by kernel_rfl)
      refine sim_run 16 [] hR323 (by kernel_rfl) trivial (fun ρ325 w325 hm325 hR325 => ?_)
      have hag := hag.moved hm325
      have hrow := hrow.moved hm325
      have hag324 := hag324.moved hm325
      refine sim_unroll 3 (by kernel_rfl) ?_
      refine sim_run 12 [] hR325 (by kernel_rfl) trivial (fun ρ326 w326 hm326 hR326 => ?_)
      have hag := hag.moved hm326
      have hrow := hrow.moved hm326
      have hag324 := hag324.moved hm326
      refine sim_idx 3 0 2 2 0 1 (by kernel_rfl) (by omega) ?_
      refine sim_run 18 [] hR326 (by kernel_rfl) trivial (fun ρ327 w327 hm327 hR327 => ?_)
      have hag := hag.moved hm327
      have hrow := hrow.moved hm327
      have hag324 := hag324.moved hm327
      refine sim_call 63 [LI ((atI xs id).state), LI 1] (by kernel_rfl) ?_
      refine Calls.mono (next_any _ _ _) ?_
      rintro e328 w328 ⟨rfl, hb328⟩
      have hR328 := hR327.below hb328
      have hrow := hrow.below hb328
      refine Back.of (.tup [LI ((nextM (atI xs id).state 1).fst), LB ((nextM (atI xs id).state 1).snd)]) hR328 rfl ?_
      refine sim_run 10 [] hR328 (by kernel_rfl) trivial (fun ρ329 w329 hm329 hR329 => ?_)
      have hag := hag.moved hm329
      have hag324 := hag324.moved hm329
      have hrow := hrow.moved hm329
      refine sim_fork 27 ((nextM (atI xs id).state 1).snd) (by kernel_rfl) (fun hq330 => ?_) (fun hq330 => ?_)
      refine sim_run 31 [] hR329 (by kernel_rfl) trivial (fun ρ331 w331 hm331 hR331 => ?_)
      have hag := hag.moved hm331
      have hag324 := hag324.moved hm331
      have hrow := hrow.moved hm331
      refine sim_idx 3 0 2 2 1 1 (by kernel_rfl) (by omega) ?_
      refine sim_run 28 [] hR331 (by kernel_rfl) trivial (fun ρ332 w332 hm332 hR332 => ?_)
      have hag := hag.moved hm332
      have hag324 := hag324.moved hm332
      have hrow := hrow.moved hm332
      refine sim_out 4 (LI 1) hR332 (by kernel_rfl) (by kernel_rfl) hag324.ag (by kernel_rfl) ?_
      refine sim_run 5 [] hR332 (by kernel_rfl) trivial (fun ρ333 w333 hm333 hR333 => ?_)
      have hag := hag.moved hm333
      have hag324 := hag324.moved hm333
      have hrow := hrow.moved hm333
      refine sim_ret (LI 0) hR333 (by kernel_rfl) (by kernel_rfl) ?_
      (rw [settle_ok hod (by omega) (by omega), if_pos hz]; refine ⟨rfl, ?_, hR333.keeps.kept⟩; rw [show evOf xs id qty = 1 from by unfold evOf; rw [if_neg (by omega)]]; unfold updI; dsimp only; rw [doI_t (x := paidI qty paid (atI xs id)) (by assumption)]; exact hrow.close1 (by omega) ({ paidI qty paid (atI xs id) with state := (nextM (atI xs id).state 1).1 }) (bk_cell hR333 hag e201 _ (by kernel_rfl)))
      refine sim_run 19 [] hR329 (by kernel_rfl) trivial (fun ρ334 w334 hm334 hR334 => ?_)
      have hag := hag.moved hm334
      have hag324 := hag324.moved hm334
      have hrow := hrow.moved hm334
      refine sim_idx 3 0 2 2 1 1 (by kernel_rfl) (by omega) ?_
      refine sim_run 28 [] hR334 (by kernel_rfl) trivial (fun ρ335 w335 hm335 hR335 => ?_)
      have hag := hag.moved hm335
      have hag324 := hag324.moved hm335
      have hrow := hrow.moved hm335
      refine sim_out 4 (LI 0) hR335 (by kernel_rfl) (by kernel_rfl) hag324.ag (by kernel_rfl) ?_
      refine sim_run 5 [] hR335 (by kernel_rfl) trivial (fun ρ336 w336 hm336 hR336 => ?_)
      have hag := hag.moved hm336
      have hag324 := hag324.moved hm336
      have hrow := hrow.moved hm336
      refine sim_ret (LI 0) hR336 (by kernel_rfl) (by kernel_rfl) ?_
      (rw [settle_ok hod (by omega) (by omega), if_pos hz]; refine ⟨rfl, ?_, hR336.keeps.kept⟩; rw [show evOf xs id qty = 1 from by unfold evOf; rw [if_neg (by omega)]]; unfold updI; dsimp only; rw [doI_f (x := paidI qty paid (atI xs id)) (by assumption)]; exact hrow.close1 (by omega) (paidI qty paid (atI xs id)) (bk_cell hR336 hag e201 _ (by kernel_rfl)))
      
    · obtain ⟨m, hmz⟩ : ∃ m, mateI xs id = m := ⟨_, rfl⟩
      obtain ⟨hmi, hmne, _⟩ := mateI_in hz
      have hz0 := hz
      rw [hmz] at hmi hmne hz
      have hz2 : mateI xs id = m ∧ m ≠ 0 := ⟨hmz, hz⟩
      have hm2 : ¬(m < 1 ∨ m > len) := by rw [← hl]; exact hmi
      refine sim_run 16 [] hR (by kernel_rfl) trivial (fun ρ300 w300 hm300 hR300 => ?_)
      have hag := hag.moved hm300
      have hrow := hrow.moved hm300
      refine sim_call 49 [.ptr 0 0, LI id] (by kernel_rfl) ?_
      have ez0_301 := (hag.at_ 0 (by omega)).trans e0
      simp only [denL, LV.den, Nm.at_, ez0_301, Nat.add_zero]
      refine Calls.mono (at_in _ _ _ _ (by assumption) _ _ _ (by assumption) (by have h := (hR300.at_cell 0 0 (.v (Value.slice (some (Addr.mk h 0 none)) len cap)) (by kernel_rfl)); simp only [Nm.at_, ez0_301] at h; exact h)) ?_
      rintro e301 w301 ⟨rfl, hb301⟩
      have hQ301 := hR300.below hb301
      have hrow := hrow.below hb301
      refine Back.elem _ 1 hrow hag (by kernel_rfl) (by omega) (by simp; try omega) (.inl (by simp)) hQ301 (by kernel_rfl) [0] (by kernel_rfl) (by intro k hk; simp only [List.mem_singleton] at hk; subst hk; rw [e0]; exact ⟨by omega, hne⟩) rfl (fun x301 ρ301 hx301 ha301 e301 hag hR301 hrow => ?_)
      obtain rfl := atI_of hx301
      have e0 := (ha301 0 (by omega)).trans e0
      refine sim_run 19 [] hR301 (by kernel_rfl) trivial (fun ρ302 w302 hm302 hR302 => ?_)
      have hag := hag.moved hm302
      have hrow := hrow.moved hm302
      refine sim_fork 28 ((atI xs id).state != 1) (by kernel_rfl) (fun hq303 => ?_) (fun hq303 => ?_)
      have hq303 := nb_t hq303
      have hq303 := of_decide_eq_false hq303
      refine sim_run 8 [] hR302 (by kernel_rfl) trivial (fun ρ304 w304 hm304 hR304 => ?_)
      have hag := hag.moved hm304
      have hrow := hrow.moved hm304
      refine sim_fork 22 ((atI xs id).state != 2) (by kernel_rfl) (fun hq305 => ?_) (fun hq305 => ?_)
      have hq305 := nb_t hq305
      have hq305 := of_decide_eq_false hq305
      refine sim_run 5 [] hR304 (by kernel_rfl) trivial (fun ρ306 w306 hm306 hR306 => ?_)
      have hag := hag.moved hm306
      have hrow := hrow.moved hm306
      refine sim_ret (LI 20) hR306 (by kernel_rfl) (by kernel_rfl) ?_
      (rw [settle_state hod (by omega) (by omega)]; exact ⟨rfl, hrow.same1 hod (bk_cell hR306 hag e301 _ (by kernel_rfl)), hR306.keeps.kept⟩)
      have hq305 := nb_f hq305
      have hq305 := of_decide_eq_true hq305
      refine sim_run 2 [] hR304 (by kernel_rfl) trivial (fun ρ307 w307 hm307 hR307 => ?_)
      have hag := hag.moved hm307
      have hrow := hrow.moved hm307
      refine sim_draw [] (by kernel_rfl) (by kernel_rfl) hR307 (fun hR308 => ?_)
      have hrow := hrow.drew
      refine sim_ordN 3 [] hR308 (by kernel_rfl) trivial (fun ρ309 w309 hm309 hR309 => ?_)
      have hag := hag.moved hm309
      have hrow := hrow.moved hm309
      refine sim_forkO hR309 38 (decide (qty < 1)) (by kernel_rfl) (fun hq310 hR310 => ?_) (fun hq310 hR310 => ?_)
      have hq310 := of_decide_eq_true hq310
      refine sim_ordN 26 [] hR310 (by kernel_rfl) trivial (fun ρ311 w311 hm311 hR311 => ?_)
      have hag := hag.moved hm311
      have hrow := hrow.moved hm311
      refine sim_ord_endR hR311 (by kernel_rfl) (fun hR312 => ?_)
      refine sim_run 5 [] hR312 (by kernel_rfl) trivial (fun ρ313 w313 hm313 hR313 => ?_)
      have hag := hag.moved hm313
      have hrow := hrow.moved hm313
      refine sim_ret (LI 1) hR313 (by kernel_rfl) (by kernel_rfl) ?_
      (rw [settle_arg hod (by omega) (by omega)]; exact ⟨rfl, hrow.same1 hod (bk_cell hR313 hag e301 _ (by kernel_rfl)), hR313.keeps.kept⟩)
      have hq310 := of_decide_eq_false hq310
      refine sim_ordN 4 [] hR310 (by kernel_rfl) trivial (fun ρ314 w314 hm314 hR314 => ?_)
      have hag := hag.moved hm314
      have hrow := hrow.moved hm314
      refine sim_ord_call (T := [h]) (w0 := w) 54 [.agg [LI ((atI xs id).id), LS ((atI xs id).term.party), LS ((atI xs id).term.account), LS ((atI xs id).term.money), LS ((atI xs id).term.other), LB ((atI xs id).term.deliver), LS ((atI xs id).term.asset), LS ((atI xs id).term.ccy), LS ((atI xs id).term.ref), LI ((atI xs id).term.qty), LI ((atI xs id).term.amount), LI ((atI xs id).term.day), LI ((atI xs id).term.trade), LI ((atI xs id).prio), LB ((atI xs id).part), LB ((atI xs id).held), LB ((atI xs id).wish), LI ((atI xs id).state), LI ((atI xs id).mate), LI ((atI xs id).done), LI ((atI xs id).paid)]] (by kernel_rfl) ?_
      refine Calls.mono (left_any (atI xs id) (by assumption) _) ?_
      rintro e315 w315 ⟨rfl, hb315⟩
      have hR315 := hR314.call hb315 (LI (leftI (atI xs id)))
      have hrow := hrow.below hb315
      refine BackO.of (LI (leftI (atI xs id))) hR315 rfl ?_
      refine sim_ordN 3 [] hR315 (by kernel_rfl) trivial (fun ρ316 w316 hm316 hR316 => ?_)
      have hag := hag.moved hm316
      have hrow := hrow.moved hm316
      refine sim_forkO hR316 46 (decide (qty > leftI (atI xs id))) (by kernel_rfl) (fun hq317 hR317 => ?_) (fun hq317 hR317 => ?_)
      have hq317 := of_decide_eq_true hq317
      refine sim_ordN 18 [] hR317 (by kernel_rfl) trivial (fun ρ318 w318 hm318 hR318 => ?_)
      have hag := hag.moved hm318
      have hrow := hrow.moved hm318
      refine sim_ord_endR hR318 (by kernel_rfl) (fun hR319 => ?_)
      refine sim_run 5 [] hR319 (by kernel_rfl) trivial (fun ρ320 w320 hm320 hR320 => ?_)
      have hag := hag.moved hm320
      have hrow := hrow.moved hm320
      refine sim_ret (LI 1) hR320 (by kernel_rfl) (by kernel_rfl) ?_
      (rw [settle_arg hod (by omega) (by omega)]; exact ⟨rfl, hrow.same1 hod (bk_cell hR320 hag e301 _ (by kernel_rfl)), hR320.keeps.kept⟩)
      have hq317 := of_decide_eq_false hq317
      refine sim_ordN 4 [] hR317 (by kernel_rfl) trivial (fun ρ321 w321 hm321 hR321 => ?_)
      have hag := hag.moved hm321
      have hrow := hrow.moved hm321
      refine sim_forkO hR321 50 (decide (paid < 0)) (by kernel_rfl) (fun hq322 hR322 => ?_) (fun hq322 hR322 => ?_)
      have hq322 := of_decide_eq_true hq322
      refine sim_ordN 14 [] hR322 (by kernel_rfl) trivial (fun ρ323 w323 hm323 hR323 => ?_)
      have hag := hag.moved hm323
      have hrow := hrow.moved hm323
      refine sim_ord_endR hR323 (by kernel_rfl) (fun hR324 => ?_)
      refine sim_run 5 [] hR324 (by kernel_rfl) trivial (fun ρ325 w325 hm325 hR325 => ?_)
      have hag := hag.moved hm325
      have hrow := hrow.moved hm325
      refine sim_ret (LI 1) hR325 (by kernel_rfl) (by kernel_rfl) ?_
      (rw [settle_arg hod (by omega) (by omega)]; exact ⟨rfl, hrow.same1 hod (bk_cell hR325 hag e301 _ (by kernel_rfl)), hR325.keeps.kept⟩)
      have hq322 := of_decide_eq_false hq322
      refine sim_ordN 14 [] hR322 (by kernel_rfl) trivial (fun ρ326 w326 hm326 hR326 => ?_)
      have hag := hag.moved hm326
      have hrow := hrow.moved hm326
      refine sim_ord_endR hR326 (by kernel_rfl) (fun hR327 => ?_)
      refine sim_fork 35 (decide (paid > IntKind.i64.wrap ((atI xs id).term.amount - (atI xs id).paid))) (by kernel_rfl) (fun hq328 => ?_) (fun hq328 => ?_)
      have hq328 := of_decide_eq_true hq328
      refine sim_run 5 [] hR327 (by kernel_rfl) trivial (fun ρ329 w329 hm329 hR329 => ?_)
      have hag := hag.moved hm329
      have hrow := hrow.moved hm329
      refine sim_ret (LI 1) hR329 (by kernel_rfl) (by kernel_rfl) ?_
      (rw [settle_arg hod (by omega) (by omega)]; exact ⟨rfl, hrow.same1 hod (bk_cell hR329 hag e301 _ (by kernel_rfl)), hR329.keeps.kept⟩)
      have hq328 := of_decide_eq_false hq328
      refine sim_run 14 [] hR327 (by kernel_rfl) trivial (fun ρ330 w330 hm330 hR330 => ?_)
      have hag := hag.moved hm330
      have hrow := hrow.moved hm330
      refine sim_call 54 [.agg [LI ((atI xs id).id), LS ((atI xs id).term.party), LS ((atI xs id).term.account), LS ((atI xs id).term.money), LS ((atI xs id).term.other), LB ((atI xs id).term.deliver), LS ((atI xs id).term.asset), LS ((atI xs id).term.ccy), LS ((atI xs id).term.ref), LI ((atI xs id).term.qty), LI ((atI xs id).term.amount), LI ((atI xs id).term.day), LI ((atI xs id).term.trade), LI ((atI xs id).prio), LB ((atI xs id).part), LB ((atI xs id).held), LB ((atI xs id).wish), LI ((atI xs id).state), LI ((atI xs id).mate), LI ((atI xs id).done), LI ((atI xs id).paid)]] (by kernel_rfl) ?_
      refine Calls.mono (left_any (atI xs id) (by assumption) _) ?_
      rintro e331 w331 ⟨rfl, hb331⟩
      have hR331 := hR330.below hb331
      have hrow := hrow.below hb331
      refine Back.of (LI (leftI (atI xs id))) hR331 rfl ?_
      refine sim_run 2 [] hR331 (by kernel_rfl) trivial (fun ρ332 w332 hm332 hR332 => ?_)
      have hag := hag.moved hm332
      have hrow := hrow.moved hm332
      refine sim_fork 69 (qty == leftI (atI xs id)) (by kernel_rfl) (fun hq333 => ?_) (fun hq333 => ?_)
      have hq333 := of_decide_eq_true hq333
      refine sim_run 8 [] hR332 (by kernel_rfl) trivial (fun ρ334 w334 hm334 hR334 => ?_)
      have hag := hag.moved hm334
      have hrow := hrow.moved hm334
      refine sim_call 52 [.ptr 0 0, .ptr 1 0] (by kernel_rfl) ?_
      have ez1_335 := (hag.at_ 1 (by omega)).trans e301
      have ez0_335 := (hag.at_ 0 (by omega)).trans e0
      simp only [denL, LV.den, Nm.at_, ez1_335, ez0_335, Nat.add_zero]
      refine Calls.mono (mate_some _ _ _ _ _ _ _ _ (by have h := (hR334.at_cell 0 0 (.v (Value.slice (some (Addr.mk h 0 none)) len cap)) (by kernel_rfl)); simp only [Nm.at_, ez0_335] at h; exact h) (hrow.same1 hod (bk_cell hR334 hag e301 _ (by kernel_rfl))) (by assumption) (by assumption) (by assumption) _ (by assumption)) ?_
      rintro e335 w335 ⟨rfl, hb335⟩
      have hQ335 := hR334.below hb335
      have hrow := hrow.below hb335
      refine Back.elem _ 2 hrow hag (by kernel_rfl) (by omega) (by simp; try omega) (.inl (by simp)) hQ335 (by kernel_rfl) [0] (by kernel_rfl) (by intro k hk; simp only [List.mem_singleton] at hk; subst hk; rw [e0]; exact ⟨by omega, hne⟩) rfl (fun x335 ρ335 hx335 ha335 e335 hag hR335 hrow => ?_)
      obtain rfl := atI_of hx335
      have e0 := (ha335 0 (by omega)).trans e0
      have e301 := (ha335 1 (by omega)).trans e301
      have eM := e335
      refine sim_run 12 [] hR335 (by kernel_rfl) trivial (fun ρ336 w336 hm336 hR336 => ?_)
      have hag := hag.moved hm336
      have hrow := hrow.moved hm336
      refine sim_unroll 3 (by kernel_rfl) ?_
      refine sim_run 12 [] hR336 (by kernel_rfl) trivial (fun ρ337 w337 hm337 hR337 => ?_)
      have hag := hag.moved hm337
      have hrow := hrow.moved hm337
      refine sim_idx 3 0 2 2 0 1 (by kernel_rfl) (by omega) ?_
      refine sim_run 49 [] hR337 (by kernel_rfl) trivial (fun ρ338 w338 hm338 hR338 => ?_)
      have hag := hag.moved hm338
      have hrow := hrow.moved hm338
      refine sim_idx 3 0 2 2 1 1 (by kernel_rfl) (by omega) ?_
      refine sim_run 51 [] hR338 (by kernel_rfl) trivial (fun ρ339 w339 hm339 hR339 => ?_)
      have hag := hag.moved hm339
      have hrow := hrow.moved hm339
      refine sim_into Try.func50 [LI 2, .slc 4 0 2 2] (by kernel_rfl) (by kernel_rfl) ?_
      have hag340 := hR339.ag_ 5 (by kernel_rfl)
      refine sim_run 16 [] hR339 (by kernel_rfl) trivial (fun ρ341 w341 hm341 hR341 => ?_)
      have hag := hag.moved hm341
      have hrow := hrow.moved hm341
      have hag340 := hag340.moved hm341
      refine sim_unroll 3 (by kernel_rfl) ?_
      refine sim_run 12 [] hR341 (by kernel_rfl) trivial (fun ρ342 w342 hm342 hR342 => ?_)
      have hag := hag.moved hm342
      have hrow := hrow.moved hm342
      have hag340 := hag340.moved hm342
      refine sim_idx 4 0 2 2 0 1 (by kernel_rfl) (by omega) ?_
      refine sim_run 18 [] hR342 (by kernel_rfl) trivial (fun ρ343 w343 hm343 hR343 => ?_)
      have hag := hag.moved hm343
      have hrow := hrow.moved hm343
      have hag340 := hag340.moved hm343
      refine sim_call 63 [LI ((atI xs id).state), LI 2] (by kernel_rfl) ?_
      refine Calls.mono (next_any _ _ _) ?_
      rintro e344 w344 ⟨rfl, hb344⟩
      have hR344 := hR343.below hb344
      have hrow := hrow.below hb344
      refine Back.of (.tup [LI ((nextM (atI xs id).state 2).fst), LB ((nextM (atI xs id).state 2).snd)]) hR344 rfl ?_
      refine sim_run 10 [] hR344 (by kernel_rfl) trivial (fun ρ345 w345 hm345 hR345 => ?_)
      have hag := hag.moved hm345
      have hag340 := hag340.moved hm345
      have hrow := hrow.moved hm345
      refine sim_fork 27 ((nextM (atI xs id).state 2).snd) (by kernel_rfl) (fun hq346 => ?_) (fun hq346 => ?_)
      refine sim_run 31 [] hR345 (by kernel_rfl) trivial (fun ρ347 w347 hm347 hR347 => ?_)
      have hag := hag.moved hm347
      have hag340 := hag340.moved hm347
      have hrow := hrow.moved hm347
      refine sim_idx 4 0 2 2 1 1 (by kernel_rfl) (by omega) ?_
      refine sim_run 18 [] hR347 (by kernel_rfl) trivial (fun ρ348 w348 hm348 hR348 => ?_)
      have hag := hag.moved hm348
      have hag340 := hag340.moved hm348
      have hrow := hrow.moved hm348
      refine sim_call 63 [LI ((atI xs m).state), LI 2] (by kernel_rfl) ?_
      refine Calls.mono (next_any _ _ _) ?_
      rintro e349 w349 ⟨rfl, hb349⟩
      have hR349 := hR348.below hb349
      have hrow := hrow.below hb349
      refine Back.of (.tup [LI ((nextM (atI xs m).state 2).fst), LB ((nextM (atI xs m).state 2).snd)]) hR349 rfl ?_
      refine sim_run 10 [] hR349 (by kernel_rfl) trivial (fun ρ350 w350 hm350 hR350 => ?_)
      have hag := hag.moved hm350
      have hag340 := hag340.moved hm350
      have hrow := hrow.moved hm350
      refine sim_fork 27 ((nextM (atI xs m).state 2).snd) (by kernel_rfl) (fun hq351 => ?_) (fun hq351 => ?_)
      refine sim_run 32 [] hR350 (by kernel_rfl) trivial (fun ρ352 w352 hm352 hR352 => ?_)
      have hag := hag.moved hm352
      have hag340 := hag340.moved hm352
      have hrow := hrow.moved hm352
      refine sim_out 5 (LI 2) hR352 (by kernel_rfl) (by kernel_rfl) hag340.ag (by kernel_rfl) ?_
      refine sim_run 5 [] hR352 (by kernel_rfl) trivial (fun ρ353 w353 hm353 hR353 => ?_)
      have hag := hag.moved hm353
      have hag340 := hag340.moved hm353
      have hrow := hrow.moved hm353
      refine sim_ret (LI 0) hR353 (by kernel_rfl) (by kernel_rfl) ?_
      (rw [settle_ok hod (by omega) (by omega), if_neg hz0, hmz, upd2_eq hod hmi hmne]; refine ⟨rfl, ?_, hR353.keeps.kept⟩; rw [show evOf xs id qty = 2 from by unfold evOf; rw [if_pos (by omega)], doI_t (x := paidI qty paid (atI xs id)) (by assumption), doI_t (x := paidI qty paid (atI xs m)) (by assumption)]; exact hrow.close2 (by omega) (by omega) (by omega) ({ paidI qty paid (atI xs id) with state := (nextM (atI xs id).state 2).1 }) ({ paidI qty paid (atI xs m) with state := (nextM (atI xs m).state 2).1 }) (bk_cell hR353 hag e301 _ (by kernel_rfl)) (bk_cell hR353 hag eM _ (by kernel_rfl)))
      refine sim_run 20 [] hR350 (by kernel_rfl) trivial (fun ρ354 w354 hm354 hR354 => ?_)
      have hag := hag.moved hm354
      have hag340 := hag340.moved hm354
      have hrow := hrow.moved hm354
      refine sim_out 5 (LI 1) hR354 (by kernel_rfl) (by kernel_rfl) hag340.ag (by kernel_rfl) ?_
      refine sim_run 5 [] hR354 (by kernel_rfl) trivial (fun ρ355 w355 hm355 hR355 => ?_)
      have hag := hag.moved hm355
      have hag340 := hag340.moved hm355
      have hrow := hrow.moved hm355
      refine sim_ret (LI 0) hR355 (by kernel_rfl) (by kernel_rfl) ?_
      (rw [settle_ok hod (by omega) (by omega), if_neg hz0, hmz, upd2_eq hod hmi hmne]; refine ⟨rfl, ?_, hR355.keeps.kept⟩; rw [show evOf xs id qty = 2 from by unfold evOf; rw [if_pos (by omega)], doI_t (x := paidI qty paid (atI xs id)) (by assumption), doI_f (x := paidI qty paid (atI xs m)) (by assumption)]; exact hrow.close2 (by omega) (by omega) (by omega) ({ paidI qty paid (atI xs id) with state := (nextM (atI xs id).state 2).1 }) (paidI qty paid (atI xs m)) (bk_cell hR355 hag e301 _ (by kernel_rfl)) (bk_cell hR355 hag eM _ (by kernel_rfl)))
      refine sim_run 19 [] hR345 (by kernel_rfl) trivial (fun ρ356 w356 hm356 hR356 => ?_)
      have hag := hag.moved hm356
      have hag340 := hag340.moved hm356
      have hrow := hrow.moved hm356
      refine sim_idx 4 0 2 2 1 1 (by kernel_rfl) (by omega) ?_
      refine sim_run 18 [] hR356 (by kernel_rfl) trivial (fun ρ357 w357 hm357 hR357 => ?_)
      have hag := hag.moved hm357
      have hag340 := hag340.moved hm357
      have hrow := hrow.moved hm357
      refine sim_call 63 [LI ((atI xs m).state), LI 2] (by kernel_rfl) ?_
      refine Calls.mono (next_any _ _ _) ?_
      rintro e358 w358 ⟨rfl, hb358⟩
      have hR358 := hR357.below hb358
      have hrow := hrow.below hb358
      refine Back.of (.tup [LI ((nextM (atI xs m).state 2).fst), LB ((nextM (atI xs m).state 2).snd)]) hR358 rfl ?_
      refine sim_run 10 [] hR358 (by kernel_rfl) trivial (fun ρ359 w359 hm359 hR359 => ?_)
      have hag := hag.moved hm359
      have hag340 := hag340.moved hm359
      have hrow := hrow.moved hm359
      refine sim_fork 27 ((nextM (atI xs m).state 2).snd) (by kernel_rfl) (fun hq360 => ?_) (fun hq360 => ?_)
      refine sim_run 32 [] hR359 (by kernel_rfl) trivial (fun ρ361 w361 hm361 hR361 => ?_)
      have hag := hag.moved hm361
      have hag340 := hag340.moved hm361
      have hrow := hrow.moved hm361
      refine sim_out 5 (LI 1) hR361 (by kernel_rfl) (by kernel_rfl) hag340.ag (by kernel_rfl) ?_
      refine sim_run 5 [] hR361 (by kernel_rfl) trivial (fun ρ362 w362 hm362 hR362 => ?_)
      have hag := hag.moved hm362
      have hag340 := hag340.moved hm362
      have hrow := hrow.moved hm362
      refine sim_ret (LI 0) hR362 (by kernel_rfl) (by kernel_rfl) ?_
      (rw [settle_ok hod (by omega) (by omega), if_neg hz0, hmz, upd2_eq hod hmi hmne]; refine ⟨rfl, ?_, hR362.keeps.kept⟩; rw [show evOf xs id qty = 2 from by unfold evOf; rw [if_pos (by omega)], doI_f (x := paidI qty paid (atI xs id)) (by assumption), doI_t (x := paidI qty paid (atI xs m)) (by assumption)]; exact hrow.close2 (by omega) (by omega) (by omega) (paidI qty paid (atI xs id)) ({ paidI qty paid (atI xs m) with state := (nextM (atI xs m).state 2).1 }) (bk_cell hR362 hag e301 _ (by kernel_rfl)) (bk_cell hR362 hag eM _ (by kernel_rfl)))
      refine sim_run 20 [] hR359 (by kernel_rfl) trivial (fun ρ363 w363 hm363 hR363 => ?_)
      have hag := hag.moved hm363
      have hag340 := hag340.moved hm363
      have hrow := hrow.moved hm363
      refine sim_out 5 (LI 0) hR363 (by kernel_rfl) (by kernel_rfl) hag340.ag (by kernel_rfl) ?_
      refine sim_run 5 [] hR363 (by kernel_rfl) trivial (fun ρ364 w364 hm364 hR364 => ?_)
      have hag := hag.moved hm364
      have hag340 := hag340.moved hm364
      have hrow := hrow.moved hm364
      refine sim_ret (LI 0) hR364 (by kernel_rfl) (by kernel_rfl) ?_
      (rw [settle_ok hod (by omega) (by omega), if_neg hz0, hmz, upd2_eq hod hmi hmne]; refine ⟨rfl, ?_, hR364.keeps.kept⟩; rw [show evOf xs id qty = 2 from by unfold evOf; rw [if_pos (by omega)], doI_f (x := paidI qty paid (atI xs id)) (by assumption), doI_f (x := paidI qty paid (atI xs m)) (by assumption)]; exact hrow.close2 (by omega) (by omega) (by omega) (paidI qty paid (atI xs id)) (paidI qty paid (atI xs m)) (bk_cell hR364 hag e301 _ (by kernel_rfl)) (bk_cell hR364 hag eM _ (by kernel_rfl)))
      have hq333 := of_decide_eq_false hq333
      refine sim_run 6 [] hR332 (by kernel_rfl) trivial (fun ρ365 w365 hm365 hR365 => ?_)
      have hag := hag.moved hm365
      have hrow := hrow.moved hm365
      refine sim_call 52 [.ptr 0 0, .ptr 1 0] (by kernel_rfl) ?_
      have ez1_366 := (hag.at_ 1 (by omega)).trans e301
      have ez0_366 := (hag.at_ 0 (by omega)).trans e0
      simp only [denL, LV.den, Nm.at_, ez1_366, ez0_366, Nat.add_zero]
      refine Calls.mono (mate_some _ _ _ _ _ _ _ _ (by have h := (hR365.at_cell 0 0 (.v (Value.slice (some (Addr.mk h 0 none)) len cap)) (by kernel_rfl)); simp only [Nm.at_, ez0_366] at h; exact h) (hrow.same1 hod (bk_cell hR365 hag e301 _ (by kernel_rfl))) (by assumption) (by assumption) (by assumption) _ (by assumption)) ?_
      rintro e366 w366 ⟨rfl, hb366⟩
      have hQ366 := hR365.below hb366
      have hrow := hrow.below hb366
      refine Back.elem _ 2 hrow hag (by kernel_rfl) (by omega) (by simp; try omega) (.inl (by simp)) hQ366 (by kernel_rfl) [0] (by kernel_rfl) (by intro k hk; simp only [List.mem_singleton] at hk; subst hk; rw [e0]; exact ⟨by omega, hne⟩) rfl (fun x366 ρ366 hx366 ha366 e366 hag hR366 hrow => ?_)
      obtain rfl := atI_of hx366
      have e0 := (ha366 0 (by omega)).trans e0
      have e301 := (ha366 1 (by omega)).trans e301
      have eM := e366
      refine sim_run 12 [] hR366 (by kernel_rfl) trivial (fun ρ367 w367 hm367 hR367 => ?_)
      have hag := hag.moved hm367
      have hrow := hrow.moved hm367
      refine sim_unroll 3 (by kernel_rfl) ?_
      refine sim_run 12 [] hR367 (by kernel_rfl) trivial (fun ρ368 w368 hm368 hR368 => ?_)
      have hag := hag.moved hm368
      have hrow := hrow.moved hm368
      refine sim_idx 3 0 2 2 0 1 (by kernel_rfl) (by omega) ?_
      refine sim_run 49 [] hR368 (by kernel_rfl) trivial (fun ρ369 w369 hm369 hR369 => ?_)
      have hag := hag.moved hm369
      have hrow := hrow.moved hm369
      refine sim_idx 3 0 2 2 1 1 (by kernel_rfl) (by omega) ?_
      refine sim_run 51 [] hR369 (by kernel_rfl) trivial (fun ρ370 w370 hm370 hR370 => ?_)
      have hag := hag.moved hm370
      have hrow := hrow.moved hm370
      refine sim_into Try.func50 [LI 1, .slc 4 0 2 2] (by kernel_rfl) (by kernel_rfl) ?_
      have hag371 := hR370.ag_ 5 (by kernel_rfl)
      refine sim_run 16 [] hR370 (by kernel_rfl) trivial (fun ρ372 w372 hm372 hR372 => ?_)
      have hag := hag.moved hm372
      have hrow := hrow.moved hm372
      have hag371 := hag371.moved hm372
      refine sim_unroll 3 (by kernel_rfl) ?_
      refine sim_run 12 [] hR372 (by kernel_rfl) trivial (fun ρ373 w373 hm373 hR373 => ?_)
      have hag := hag.moved hm373
      have hrow := hrow.moved hm373
      have hag371 := hag371.moved hm373
      refine sim_idx 4 0 2 2 0 1 (by kernel_rfl) (by omega) ?_
      refine sim_run 18 [] hR373 (by kernel_rfl) trivial (fun ρ374 w374 hm374 hR374 => ?_)
      have hag := hag.moved hm374
      have hrow := hrow.moved hm374
      have hag371 := hag371.moved hm374
      refine sim_call 63 [LI ((atI xs id).state), LI 1] (by kernel_rfl) ?_
      refine Calls.mono (next_any _ _ _) ?_
      rintro e375 w375 ⟨rfl, hb375⟩
      have hR375 := hR374.below hb375
      have hrow := hrow.below hb375
      refine Back.of (.tup [LI ((nextM (atI xs id).state 1).fst), LB ((nextM (atI xs id).state 1).snd)]) hR375 rfl ?_
      refine sim_run 10 [] hR375 (by kernel_rfl) trivial (fun ρ376 w376 hm376 hR376 => ?_)
      have hag := hag.moved hm376
      have hag371 := hag371.moved hm376
      have hrow := hrow.moved hm376
      refine sim_fork 27 ((nextM (atI xs id).state 1).snd) (by kernel_rfl) (fun hq377 => ?_) (fun hq377 => ?_)
      refine sim_run 31 [] hR376 (by kernel_rfl) trivial (fun ρ378 w378 hm378 hR378 => ?_)
      have hag := hag.moved hm378
      have hag371 := hag371.moved hm378
      have hrow := hrow.moved hm378
      refine sim_idx 4 0 2 2 1 1 (by kernel_rfl) (by omega) ?_
      refine sim_run 18 [] hR378 (by kernel_rfl) trivial (fun ρ379 w379 hm379 hR379 => ?_)
      have hag := hag.moved hm379
      have hag371 := hag371.moved hm379
      have hrow := hrow.moved hm379
      refine sim_call 63 [LI ((atI xs m).state), LI 1] (by kernel_rfl) ?_
      refine Calls.mono (next_any _ _ _) ?_
      rintro e380 w380 ⟨rfl, hb380⟩
      have hR380 := hR379.below hb380
      have hrow := hrow.below hb380
      refine Back.of (.tup [LI ((nextM (atI xs m).state 1).fst), LB ((nextM (atI xs m).state 1).snd)]) hR380 rfl ?_
      refine sim_run 10 [] hR380 (by kernel_rfl) trivial (fun ρ381 w381 hm381 hR381 => ?_)
      have hag := hag.moved hm381
      have hag371 := hag371.moved hm381
      have hrow := hrow.moved hm381
      refine sim_fork 27 ((nextM (atI xs m).state 1).snd) (by kernel_rfl) (fun hq382 => ?_) (fun hq382 => ?_)
      refine sim_run 32 [] hR381 (by kernel_rfl) trivial (fun ρ383 w383 hm383 hR383 => ?_)
      have hag := hag.moved hm383
      have hag371 := hag371.moved hm383
      have hrow := hrow.moved hm383
      refine sim_out 5 (LI 2) hR383 (by kernel_rfl) (by kernel_rfl) hag371.ag (by kernel_rfl) ?_
      refine sim_run 5 [] hR383 (by kernel_rfl) trivial (fun ρ384 w384 hm384 hR384 => ?_)
      have hag := hag.moved hm384
      have hag371 := hag371.moved hm384
      have hrow := hrow.moved hm384
      refine sim_ret (LI 0) hR384 (by kernel_rfl) (by kernel_rfl) ?_
      (rw [settle_ok hod (by omega) (by omega), if_neg hz0, hmz, upd2_eq hod hmi hmne]; refine ⟨rfl, ?_, hR384.keeps.kept⟩; rw [show evOf xs id qty = 1 from by unfold evOf; rw [if_neg (by omega)], doI_t (x := paidI qty paid (atI xs id)) (by assumption), doI_t (x := paidI qty paid (atI xs m)) (by assumption)]; exact hrow.close2 (by omega) (by omega) (by omega) ({ paidI qty paid (atI xs id) with state := (nextM (atI xs id).state 1).1 }) ({ paidI qty paid (atI xs m) with state := (nextM (atI xs m).state 1).1 }) (bk_cell hR384 hag e301 _ (by kernel_rfl)) (bk_cell hR384 hag eM _ (by kernel_rfl)))
      refine sim_run 20 [] hR381 (by kernel_rfl) trivial (fun ρ385 w385 hm385 hR385 => ?_)
      have hag := hag.moved hm385
      have hag371 := hag371.moved hm385
      have hrow := hrow.moved hm385
      refine sim_out 5 (LI 1) hR385 (by kernel_rfl) (by kernel_rfl) hag371.ag (by kernel_rfl) ?_
      refine sim_run 5 [] hR385 (by kernel_rfl) trivial (fun ρ386 w386 hm386 hR386 => ?_)
      have hag := hag.moved hm386
      have hag371 := hag371.moved hm386
      have hrow := hrow.moved hm386
      refine sim_ret (LI 0) hR386 (by kernel_rfl) (by kernel_rfl) ?_
      (rw [settle_ok hod (by omega) (by omega), if_neg hz0, hmz, upd2_eq hod hmi hmne]; refine ⟨rfl, ?_, hR386.keeps.kept⟩; rw [show evOf xs id qty = 1 from by unfold evOf; rw [if_neg (by omega)], doI_t (x := paidI qty paid (atI xs id)) (by assumption), doI_f (x := paidI qty paid (atI xs m)) (by assumption)]; exact hrow.close2 (by omega) (by omega) (by omega) ({ paidI qty paid (atI xs id) with state := (nextM (atI xs id).state 1).1 }) (paidI qty paid (atI xs m)) (bk_cell hR386 hag e301 _ (by kernel_rfl)) (bk_cell hR386 hag eM _ (by kernel_rfl)))
      refine sim_run 19 [] hR376 (by kernel_rfl) trivial (fun ρ387 w387 hm387 hR387 => ?_)
      have hag := hag.moved hm387
      have hag371 := hag371.moved hm387
      have hrow := hrow.moved hm387
      refine sim_idx 4 0 2 2 1 1 (by kernel_rfl) (by omega) ?_
      refine sim_run 18 [] hR387 (by kernel_rfl) trivial (fun ρ388 w388 hm388 hR388 => ?_)
      have hag := hag.moved hm388
      have hag371 := hag371.moved hm388
      have hrow := hrow.moved hm388
      refine sim_call 63 [LI ((atI xs m).state), LI 1] (by kernel_rfl) ?_
      refine Calls.mono (next_any _ _ _) ?_
      rintro e389 w389 ⟨rfl, hb389⟩
      have hR389 := hR388.below hb389
      have hrow := hrow.below hb389
      refine Back.of (.tup [LI ((nextM (atI xs m).state 1).fst), LB ((nextM (atI xs m).state 1).snd)]) hR389 rfl ?_
      refine sim_run 10 [] hR389 (by kernel_rfl) trivial (fun ρ390 w390 hm390 hR390 => ?_)
      have hag := hag.moved hm390
      have hag371 := hag371.moved hm390
      have hrow := hrow.moved hm390
      refine sim_fork 27 ((nextM (atI xs m).state 1).snd) (by kernel_rfl) (fun hq391 => ?_) (fun hq391 => ?_)
      refine sim_run 32 [] hR390 (by kernel_rfl) trivial (fun ρ392 w392 hm392 hR392 => ?_)
      have hag := hag.moved hm392
      have hag371 := hag371.moved hm392
      have hrow := hrow.moved hm392
      refine sim_out 5 (LI 1) hR392 (by kernel_rfl) (by kernel_rfl) hag371.ag (by kernel_rfl) ?_
      refine sim_run 5 [] hR392 (by kernel_rfl) trivial (fun ρ393 w393 hm393 hR393 => ?_)
      have hag := hag.moved hm393
      have hag371 := hag371.moved hm393
      have hrow := hrow.moved hm393
      refine sim_ret (LI 0) hR393 (by kernel_rfl) (by kernel_rfl) ?_
      (rw [settle_ok hod (by omega) (by omega), if_neg hz0, hmz, upd2_eq hod hmi hmne]; refine ⟨rfl, ?_, hR393.keeps.kept⟩; rw [show evOf xs id qty = 1 from by unfold evOf; rw [if_neg (by omega)], doI_f (x := paidI qty paid (atI xs id)) (by assumption), doI_t (x := paidI qty paid (atI xs m)) (by assumption)]; exact hrow.close2 (by omega) (by omega) (by omega) (paidI qty paid (atI xs id)) ({ paidI qty paid (atI xs m) with state := (nextM (atI xs m).state 1).1 }) (bk_cell hR393 hag e301 _ (by kernel_rfl)) (bk_cell hR393 hag eM _ (by kernel_rfl)))
      refine sim_run 20 [] hR390 (by kernel_rfl) trivial (fun ρ394 w394 hm394 hR394 => ?_)
      have hag := hag.moved hm394
      have hag371 := hag371.moved hm394
      have hrow := hrow.moved hm394
      refine sim_out 5 (LI 0) hR394 (by kernel_rfl) (by kernel_rfl) hag371.ag (by kernel_rfl) ?_
      refine sim_run 5 [] hR394 (by kernel_rfl) trivial (fun ρ395 w395 hm395 hR395 => ?_)
      have hag := hag.moved hm395
      have hag371 := hag371.moved hm395
      have hrow := hrow.moved hm395
      refine sim_ret (LI 0) hR395 (by kernel_rfl) (by kernel_rfl) ?_
      (rw [settle_ok hod (by omega) (by omega), if_neg hz0, hmz, upd2_eq hod hmi hmne]; refine ⟨rfl, ?_, hR395.keeps.kept⟩; rw [show evOf xs id qty = 1 from by unfold evOf; rw [if_neg (by omega)], doI_f (x := paidI qty paid (atI xs id)) (by assumption), doI_f (x := paidI qty paid (atI xs m)) (by assumption)]; exact hrow.close2 (by omega) (by omega) (by omega) (paidI qty paid (atI xs id)) (paidI qty paid (atI xs m)) (bk_cell hR395 hag e301 _ (by kernel_rfl)) (bk_cell hR395 hag eM _ (by kernel_rfl)))
      have hq303 := nb_f hq303
      have hq303 := of_decide_eq_true hq303
      refine sim_run 10 [] hR302 (by kernel_rfl) trivial (fun ρ396 w396 hm396 hR396 => ?_)
      have hag := hag.moved hm396
      have hrow := hrow.moved hm396
      refine sim_draw [] (by kernel_rfl) (by kernel_rfl) hR396 (fun hR397 => ?_)
      have hrow := hrow.drew
      refine sim_ordN 3 [] hR397 (by kernel_rfl) trivial (fun ρ398 w398 hm398 hR398 => ?_)
      have hag := hag.moved hm398
      have hrow := hrow.moved hm398
      refine sim_forkO hR398 38 (decide (qty < 1)) (by kernel_rfl) (fun hq399 hR399 => ?_) (fun hq399 hR399 => ?_)
      have hq399 := of_decide_eq_true hq399
      refine sim_ordN 26 [] hR399 (by kernel_rfl) trivial (fun ρ400 w400 hm400 hR400 => ?_)
      have hag := hag.moved hm400
      have hrow := hrow.moved hm400
      refine sim_ord_endR hR400 (by kernel_rfl) (fun hR401 => ?_)
      refine sim_run 5 [] hR401 (by kernel_rfl) trivial (fun ρ402 w402 hm402 hR402 => ?_)
      have hag := hag.moved hm402
      have hrow := hrow.moved hm402
      refine sim_ret (LI 1) hR402 (by kernel_rfl) (by kernel_rfl) ?_
      (rw [settle_arg hod (by omega) (by omega)]; exact ⟨rfl, hrow.same1 hod (bk_cell hR402 hag e301 _ (by kernel_rfl)), hR402.keeps.kept⟩)
      have hq399 := of_decide_eq_false hq399
      refine sim_ordN 4 [] hR399 (by kernel_rfl) trivial (fun ρ403 w403 hm403 hR403 => ?_)
      have hag := hag.moved hm403
      have hrow := hrow.moved hm403
      refine sim_ord_call (T := [h]) (w0 := w) 54 [.agg [LI ((atI xs id).id), LS ((atI xs id).term.party), LS ((atI xs id).term.account), LS ((atI xs id).term.money), LS ((atI xs id).term.other), LB ((atI xs id).term.deliver), LS ((atI xs id).term.asset), LS ((atI xs id).term.ccy), LS ((atI xs id).term.ref), LI ((atI xs id).term.qty), LI ((atI xs id).term.amount), LI ((atI xs id).term.day), LI ((atI xs id).term.trade), LI ((atI xs id).prio), LB ((atI xs id).part), LB ((atI xs id).held), LB ((atI xs id).wish), LI ((atI xs id).state), LI ((atI xs id).mate), LI ((atI xs id).done), LI ((atI xs id).paid)]] (by kernel_rfl) ?_
      refine Calls.mono (left_any (atI xs id) (by assumption) _) ?_
      rintro e404 w404 ⟨rfl, hb404⟩
      have hR404 := hR403.call hb404 (LI (leftI (atI xs id)))
      have hrow := hrow.below hb404
      refine BackO.of (LI (leftI (atI xs id))) hR404 rfl ?_
      refine sim_ordN 3 [] hR404 (by kernel_rfl) trivial (fun ρ405 w405 hm405 hR405 => ?_)
      have hag := hag.moved hm405
      have hrow := hrow.moved hm405
      refine sim_forkO hR405 46 (decide (qty > leftI (atI xs id))) (by kernel_rfl) (fun hq406 hR406 => ?_) (fun hq406 hR406 => ?_)
      have hq406 := of_decide_eq_true hq406
      refine sim_ordN 18 [] hR406 (by kernel_rfl) trivial (fun ρ407 w407 hm407 hR407 => ?_)
      have hag := hag.moved hm407
      have hrow := hrow.moved hm407
      refine sim_ord_endR hR407 (by kernel_rfl) (fun hR408 => ?_)
      refine sim_run 5 [] hR408 (by kernel_rfl) trivial (fun ρ409 w409 hm409 hR409 => ?_)
      have hag := hag.moved hm409
      have hrow := hrow.moved hm409
      refine sim_ret (LI 1) hR409 (by kernel_rfl) (by kernel_rfl) ?_
      (rw [settle_arg hod (by omega) (by omega)]; exact ⟨rfl, hrow.same1 hod (bk_cell hR409 hag e301 _ (by kernel_rfl)), hR409.keeps.kept⟩)
      have hq406 := of_decide_eq_false hq406
      refine sim_ordN 4 [] hR406 (by kernel_rfl) trivial (fun ρ410 w410 hm410 hR410 => ?_)
      have hag := hag.moved hm410
      have hrow := hrow.moved hm410
      refine sim_forkO hR410 50 (decide (paid < 0)) (by kernel_rfl) (fun hq411 hR411 => ?_) (fun hq411 hR411 => ?_)
      have hq411 := of_decide_eq_true hq411
      refine sim_ordN 14 [] hR411 (by kernel_rfl) trivial (fun ρ412 w412 hm412 hR412 => ?_)
      have hag := hag.moved hm412
      have hrow := hrow.moved hm412
      refine sim_ord_endR hR412 (by kernel_rfl) (fun hR413 => ?_)
      refine sim_run 5 [] hR413 (by kernel_rfl) trivial (fun ρ414 w414 hm414 hR414 => ?_)
      have hag := hag.moved hm414
      have hrow := hrow.moved hm414
      refine sim_ret (LI 1) hR414 (by kernel_rfl) (by kernel_rfl) ?_
      (rw [settle_arg hod (by omega) (by omega)]; exact ⟨rfl, hrow.same1 hod (bk_cell hR414 hag e301 _ (by kernel_rfl)), hR414.keeps.kept⟩)
      have hq411 := of_decide_eq_false hq411
      refine sim_ordN 14 [] hR411 (by kernel_rfl) trivial (fun ρ415 w415 hm415 hR415 => ?_)
      have hag := hag.moved hm415
      have hrow := hrow.moved hm415
      refine sim_ord_endR hR415 (by kernel_rfl) (fun hR416 => ?_)
      refine sim_fork 35 (decide (paid > IntKind.i64.wrap ((atI xs id).term.amount - (atI xs id).paid))) (by kernel_rfl) (fun hq417 => ?_) (fun hq417 => ?_)
      have hq417 := of_decide_eq_true hq417
      refine sim_run 5 [] hR416 (by kernel_rfl) trivial (fun ρ418 w418 hm418 hR418 => ?_)
      have hag := hag.moved hm418
      have hrow := hrow.moved hm418
      refine sim_ret (LI 1) hR418 (by kernel_rfl) (by kernel_rfl) ?_
      (rw [settle_arg hod (by omega) (by omega)]; exact ⟨rfl, hrow.same1 hod (bk_cell hR418 hag e301 _ (by kernel_rfl)), hR418.keeps.kept⟩)
      have hq417 := of_decide_eq_false hq417
      refine sim_run 14 [] hR416 (by kernel_rfl) trivial (fun ρ419 w419 hm419 hR419 => ?_)
      have hag := hag.moved hm419
      have hrow := hrow.moved hm419
      refine sim_call 54 [.agg [LI ((atI xs id).id), LS ((atI xs id).term.party), LS ((atI xs id).term.account), LS ((atI xs id).term.money), LS ((atI xs id).term.other), LB ((atI xs id).term.deliver), LS ((atI xs id).term.asset), LS ((atI xs id).term.ccy), LS ((atI xs id).term.ref), LI ((atI xs id).term.qty), LI ((atI xs id).term.amount), LI ((atI xs id).term.day), LI ((atI xs id).term.trade), LI ((atI xs id).prio), LB ((atI xs id).part), LB ((atI xs id).held), LB ((atI xs id).wish), LI ((atI xs id).state), LI ((atI xs id).mate), LI ((atI xs id).done), LI ((atI xs id).paid)]] (by kernel_rfl) ?_
      refine Calls.mono (left_any (atI xs id) (by assumption) _) ?_
      rintro e420 w420 ⟨rfl, hb420⟩
      have hR420 := hR419.below hb420
      have hrow := hrow.below hb420
      refine Back.of (LI (leftI (atI xs id))) hR420 rfl ?_
      refine sim_run 2 [] hR420 (by kernel_rfl) trivial (fun ρ421 w421 hm421 hR421 => ?_)
      have hag := hag.moved hm421
      have hrow := hrow.moved hm421
      refine sim_fork 69 (qty == leftI (atI xs id)) (by kernel_rfl) (fun hq422 => ?_) (fun hq422 => ?_)
      have hq422 := of_decide_eq_true hq422
      refine sim_run 8 [] hR421 (by kernel_rfl) trivial (fun ρ423 w423 hm423 hR423 => ?_)
      have hag := hag.moved hm423
      have hrow := hrow.moved hm423
      refine sim_call 52 [.ptr 0 0, .ptr 1 0] (by kernel_rfl) ?_
      have ez1_424 := (hag.at_ 1 (by omega)).trans e301
      have ez0_424 := (hag.at_ 0 (by omega)).trans e0
      simp only [denL, LV.den, Nm.at_, ez1_424, ez0_424, Nat.add_zero]
      refine Calls.mono (mate_some _ _ _ _ _ _ _ _ (by have h := (hR423.at_cell 0 0 (.v (Value.slice (some (Addr.mk h 0 none)) len cap)) (by kernel_rfl)); simp only [Nm.at_, ez0_424] at h; exact h) (hrow.same1 hod (bk_cell hR423 hag e301 _ (by kernel_rfl))) (by assumption) (by assumption) (by assumption) _ (by assumption)) ?_
      rintro e424 w424 ⟨rfl, hb424⟩
      have hQ424 := hR423.below hb424
      have hrow := hrow.below hb424
      refine Back.elem _ 2 hrow hag (by kernel_rfl) (by omega) (by simp; try omega) (.inl (by simp)) hQ424 (by kernel_rfl) [0] (by kernel_rfl) (by intro k hk; simp only [List.mem_singleton] at hk; subst hk; rw [e0]; exact ⟨by omega, hne⟩) rfl (fun x424 ρ424 hx424 ha424 e424 hag hR424 hrow => ?_)
      obtain rfl := atI_of hx424
      have e0 := (ha424 0 (by omega)).trans e0
      have e301 := (ha424 1 (by omega)).trans e301
      have eM := e424
      refine sim_run 12 [] hR424 (by kernel_rfl) trivial (fun ρ425 w425 hm425 hR425 => ?_)
      have hag := hag.moved hm425
      have hrow := hrow.moved hm425
      refine sim_unroll 3 (by kernel_rfl) ?_
      refine sim_run 12 [] hR425 (by kernel_rfl) trivial (fun ρ426 w426 hm426 hR426 => ?_)
      have hag := hag.moved hm426
      have hrow := hrow.moved hm426
      refine sim_idx 3 0 2 2 0 1 (by kernel_rfl) (by omega) ?_
      refine sim_run 49 [] hR426 (by kernel_rfl) trivial (fun ρ427 w427 hm427 hR427 => ?_)
      have hag := hag.moved hm427
      have hrow := hrow.moved hm427
      refine sim_idx 3 0 2 2 1 1 (by kernel_rfl) (by omega) ?_
      refine sim_run 51 [] hR427 (by kernel_rfl) trivial (fun ρ428 w428 hm428 hR428 => ?_)
      have hag := hag.moved hm428
      have hrow := hrow.moved hm428
      refine sim_into Try.func50 [LI 2, .slc 4 0 2 2] (by kernel_rfl) (by kernel_rfl) ?_
      have hag429 := hR428.ag_ 5 (by kernel_rfl)
      refine sim_run 16 [] hR428 (by kernel_rfl) trivial (fun ρ430 w430 hm430 hR430 => ?_)
      have hag := hag.moved hm430
      have hrow := hrow.moved hm430
      have hag429 := hag429.moved hm430
      refine sim_unroll 3 (by kernel_rfl) ?_
      refine sim_run 12 [] hR430 (by kernel_rfl) trivial (fun ρ431 w431 hm431 hR431 => ?_)
      have hag := hag.moved hm431
      have hrow := hrow.moved hm431
      have hag429 := hag429.moved hm431
      refine sim_idx 4 0 2 2 0 1 (by kernel_rfl) (by omega) ?_
      refine sim_run 18 [] hR431 (by kernel_rfl) trivial (fun ρ432 w432 hm432 hR432 => ?_)
      have hag := hag.moved hm432
      have hrow := hrow.moved hm432
      have hag429 := hag429.moved hm432
      refine sim_call 63 [LI ((atI xs id).state), LI 2] (by kernel_rfl) ?_
      refine Calls.mono (next_any _ _ _) ?_
      rintro e433 w433 ⟨rfl, hb433⟩
      have hR433 := hR432.below hb433
      have hrow := hrow.below hb433
      refine Back.of (.tup [LI ((nextM (atI xs id).state 2).fst), LB ((nextM (atI xs id).state 2).snd)]) hR433 rfl ?_
      refine sim_run 10 [] hR433 (by kernel_rfl) trivial (fun ρ434 w434 hm434 hR434 => ?_)
      have hag := hag.moved hm434
      have hag429 := hag429.moved hm434
      have hrow := hrow.moved hm434
      refine sim_fork 27 ((nextM (atI xs id).state 2).snd) (by kernel_rfl) (fun hq435 => ?_) (fun hq435 => ?_)
      refine sim_run 31 [] hR434 (by kernel_rfl) trivial (fun ρ436 w436 hm436 hR436 => ?_)
      have hag := hag.moved hm436
      have hag429 := hag429.moved hm436
      have hrow := hrow.moved hm436
      refine sim_idx 4 0 2 2 1 1 (by kernel_rfl) (by omega) ?_
      refine sim_run 18 [] hR436 (by kernel_rfl) trivial (fun ρ437 w437 hm437 hR437 => ?_)
      have hag := hag.moved hm437
      have hag429 := hag429.moved hm437
      have hrow := hrow.moved hm437
      refine sim_call 63 [LI ((atI xs m).state), LI 2] (by kernel_rfl) ?_
      refine Calls.mono (next_any _ _ _) ?_
      rintro e438 w438 ⟨rfl, hb438⟩
      have hR438 := hR437.below hb438
      have hrow := hrow.below hb438
      refine Back.of (.tup [LI ((nextM (atI xs m).state 2).fst), LB ((nextM (atI xs m).state 2).snd)]) hR438 rfl ?_
      refine sim_run 10 [] hR438 (by kernel_rfl) trivial (fun ρ439 w439 hm439 hR439 => ?_)
      have hag := hag.moved hm439
      have hag429 := hag429.moved hm439
      have hrow := hrow.moved hm439
      refine sim_fork 27 ((nextM (atI xs m).state 2).snd) (by kernel_rfl) (fun hq440 => ?_) (fun hq440 => ?_)
      refine sim_run 32 [] hR439 (by kernel_rfl) trivial (fun ρ441 w441 hm441 hR441 => ?_)
      have hag := hag.moved hm441
      have hag429 := hag429.moved hm441
      have hrow := hrow.moved hm441
      refine sim_out 5 (LI 2) hR441 (by kernel_rfl) (by kernel_rfl) hag429.ag (by kernel_rfl) ?_
      refine sim_run 5 [] hR441 (by kernel_rfl) trivial (fun ρ442 w442 hm442 hR442 => ?_)
      have hag := hag.moved hm442
      have hag429 := hag429.moved hm442
      have hrow := hrow.moved hm442
      refine sim_ret (LI 0) hR442 (by kernel_rfl) (by kernel_rfl) ?_
      (rw [settle_ok hod (by omega) (by omega), if_neg hz0, hmz, upd2_eq hod hmi hmne]; refine ⟨rfl, ?_, hR442.keeps.kept⟩; rw [show evOf xs id qty = 2 from by unfold evOf; rw [if_pos (by omega)], doI_t (x := paidI qty paid (atI xs id)) (by assumption), doI_t (x := paidI qty paid (atI xs m)) (by assumption)]; exact hrow.close2 (by omega) (by omega) (by omega) ({ paidI qty paid (atI xs id) with state := (nextM (atI xs id).state 2).1 }) ({ paidI qty paid (atI xs m) with state := (nextM (atI xs m).state 2).1 }) (bk_cell hR442 hag e301 _ (by kernel_rfl)) (bk_cell hR442 hag eM _ (by kernel_rfl)))
      refine sim_run 20 [] hR439 (by kernel_rfl) trivial (fun ρ443 w443 hm443 hR443 => ?_)
      have hag := hag.moved hm443
      have hag429 := hag429.moved hm443
      have hrow := hrow.moved hm443
      refine sim_out 5 (LI 1) hR443 (by kernel_rfl) (by kernel_rfl) hag429.ag (by kernel_rfl) ?_
      refine sim_run 5 [] hR443 (by kernel_rfl) trivial (fun ρ444 w444 hm444 hR444 => ?_)
      have hag := hag.moved hm444
      have hag429 := hag429.moved hm444
      have hrow := hrow.moved hm444
      refine sim_ret (LI 0) hR444 (by kernel_rfl) (by kernel_rfl) ?_
      (rw [settle_ok hod (by omega) (by omega), if_neg hz0, hmz, upd2_eq hod hmi hmne]; refine ⟨rfl, ?_, hR444.keeps.kept⟩; rw [show evOf xs id qty = 2 from by unfold evOf; rw [if_pos (by omega)], doI_t (x := paidI qty paid (atI xs id)) (by assumption), doI_f (x := paidI qty paid (atI xs m)) (by assumption)]; exact hrow.close2 (by omega) (by omega) (by omega) ({ paidI qty paid (atI xs id) with state := (nextM (atI xs id).state 2).1 }) (paidI qty paid (atI xs m)) (bk_cell hR444 hag e301 _ (by kernel_rfl)) (bk_cell hR444 hag eM _ (by kernel_rfl)))
      refine sim_run 19 [] hR434 (by kernel_rfl) trivial (fun ρ445 w445 hm445 hR445 => ?_)
      have hag := hag.moved hm445
      have hag429 := hag429.moved hm445
      have hrow := hrow.moved hm445
      refine sim_idx 4 0 2 2 1 1 (by kernel_rfl) (by omega) ?_
      refine sim_run 18 [] hR445 (by kernel_rfl) trivial (fun ρ446 w446 hm446 hR446 => ?_)
      have hag := hag.moved hm446
      have hag429 := hag429.moved hm446
      have hrow := hrow.moved hm446
      refine sim_call 63 [LI ((atI xs m).state), LI 2] (by kernel_rfl) ?_
      refine Calls.mono (next_any _ _ _) ?_
      rintro e447 w447 ⟨rfl, hb447⟩
      have hR447 := hR446.below hb447
      have hrow := hrow.below hb447
      refine Back.of (.tup [LI ((nextM (atI xs m).state 2).fst), LB ((nextM (atI xs m).state 2).snd)]) hR447 rfl ?_
      refine sim_run 10 [] hR447 (by kernel_rfl) trivial (fun ρ448 w448 hm448 hR448 => ?_)
      have hag := hag.moved hm448
      have hag429 := hag429.moved hm448
      have hrow := hrow.moved hm448
      refine sim_fork 27 ((nextM (atI xs m).state 2).snd) (by kernel_rfl) (fun hq449 => ?_) (fun hq449 => ?_)
      refine sim_run 32 [] hR448 (by kernel_rfl) trivial (fun ρ450 w450 hm450 hR450 => ?_)
      have hag := hag.moved hm450
      have hag429 := hag429.moved hm450
      have hrow := hrow.moved hm450
      refine sim_out 5 (LI 1) hR450 (by kernel_rfl) (by kernel_rfl) hag429.ag (by kernel_rfl) ?_
      refine sim_run 5 [] hR450 (by kernel_rfl) trivial (fun ρ451 w451 hm451 hR451 => ?_)
      have hag := hag.moved hm451
      have hag429 := hag429.moved hm451
      have hrow := hrow.moved hm451
      refine sim_ret (LI 0) hR451 (by kernel_rfl) (by kernel_rfl) ?_
      (rw [settle_ok hod (by omega) (by omega), if_neg hz0, hmz, upd2_eq hod hmi hmne]; refine ⟨rfl, ?_, hR451.keeps.kept⟩; rw [show evOf xs id qty = 2 from by unfold evOf; rw [if_pos (by omega)], doI_f (x := paidI qty paid (atI xs id)) (by assumption), doI_t (x := paidI qty paid (atI xs m)) (by assumption)]; exact hrow.close2 (by omega) (by omega) (by omega) (paidI qty paid (atI xs id)) ({ paidI qty paid (atI xs m) with state := (nextM (atI xs m).state 2).1 }) (bk_cell hR451 hag e301 _ (by kernel_rfl)) (bk_cell hR451 hag eM _ (by kernel_rfl)))
      refine sim_run 20 [] hR448 (by kernel_rfl) trivial (fun ρ452 w452 hm452 hR452 => ?_)
      have hag := hag.moved hm452
      have hag429 := hag429.moved hm452
      have hrow := hrow.moved hm452
      refine sim_out 5 (LI 0) hR452 (by kernel_rfl) (by kernel_rfl) hag429.ag (by kernel_rfl) ?_
      refine sim_run 5 [] hR452 (by kernel_rfl) trivial (fun ρ453 w453 hm453 hR453 => ?_)
      have hag := hag.moved hm453
      have hag429 := hag429.moved hm453
      have hrow := hrow.moved hm453
      refine sim_ret (LI 0) hR453 (by kernel_rfl) (by kernel_rfl) ?_
      (rw [settle_ok hod (by omega) (by omega), if_neg hz0, hmz, upd2_eq hod hmi hmne]; refine ⟨rfl, ?_, hR453.keeps.kept⟩; rw [show evOf xs id qty = 2 from by unfold evOf; rw [if_pos (by omega)], doI_f (x := paidI qty paid (atI xs id)) (by assumption), doI_f (x := paidI qty paid (atI xs m)) (by assumption)]; exact hrow.close2 (by omega) (by omega) (by omega) (paidI qty paid (atI xs id)) (paidI qty paid (atI xs m)) (bk_cell hR453 hag e301 _ (by kernel_rfl)) (bk_cell hR453 hag eM _ (by kernel_rfl)))
      have hq422 := of_decide_eq_false hq422
      refine sim_run 6 [] hR421 (by kernel_rfl) trivial (fun ρ454 w454 hm454 hR454 => ?_)
      have hag := hag.moved hm454
      have hrow := hrow.moved hm454
      refine sim_call 52 [.ptr 0 0, .ptr 1 0] (by kernel_rfl) ?_
      have ez1_455 := (hag.at_ 1 (by omega)).trans e301
      have ez0_455 := (hag.at_ 0 (by omega)).trans e0
      simp only [denL, LV.den, Nm.at_, ez1_455, ez0_455, Nat.add_zero]
      refine Calls.mono (mate_some _ _ _ _ _ _ _ _ (by have h := (hR454.at_cell 0 0 (.v (Value.slice (some (Addr.mk h 0 none)) len cap)) (by kernel_rfl)); simp only [Nm.at_, ez0_455] at h; exact h) (hrow.same1 hod (bk_cell hR454 hag e301 _ (by kernel_rfl))) (by assumption) (by assumption) (by assumption) _ (by assumption)) ?_
      rintro e455 w455 ⟨rfl, hb455⟩
      have hQ455 := hR454.below hb455
      have hrow := hrow.below hb455
      refine Back.elem _ 2 hrow hag (by kernel_rfl) (by omega) (by simp; try omega) (.inl (by simp)) hQ455 (by kernel_rfl) [0] (by kernel_rfl) (by intro k hk; simp only [List.mem_singleton] at hk; subst hk; rw [e0]; exact ⟨by omega, hne⟩) rfl (fun x455 ρ455 hx455 ha455 e455 hag hR455 hrow => ?_)
      obtain rfl := atI_of hx455
      have e0 := (ha455 0 (by omega)).trans e0
      have e301 := (ha455 1 (by omega)).trans e301
      have eM := e455
      refine sim_run 12 [] hR455 (by kernel_rfl) trivial (fun ρ456 w456 hm456 hR456 => ?_)
      have hag := hag.moved hm456
      have hrow := hrow.moved hm456
      refine sim_unroll 3 (by kernel_rfl) ?_
      refine sim_run 12 [] hR456 (by kernel_rfl) trivial (fun ρ457 w457 hm457 hR457 => ?_)
      have hag := hag.moved hm457
      have hrow := hrow.moved hm457
      refine sim_idx 3 0 2 2 0 1 (by kernel_rfl) (by omega) ?_
      refine sim_run 49 [] hR457 (by kernel_rfl) trivial (fun ρ458 w458 hm458 hR458 => ?_)
      have hag := hag.moved hm458
      have hrow := hrow.moved hm458
      refine sim_idx 3 0 2 2 1 1 (by kernel_rfl) (by omega) ?_
      refine sim_run 51 [] hR458 (by kernel_rfl) trivial (fun ρ459 w459 hm459 hR459 => ?_)
      have hag := hag.moved hm459
      have hrow := hrow.moved hm459
      refine sim_into Try.func50 [LI 1, .slc 4 0 2 2] (by kernel_rfl) (by kernel_rfl) ?_
      have hag460 := hR459.ag_ 5 (by kernel_rfl)
      refine sim_run 16 [] hR459 (by kernel_rfl) trivial (fun ρ461 w461 hm461 hR461 => ?_)
      have hag := hag.moved hm461
      have hrow := hrow.moved hm461
      have hag460 := hag460.moved hm461
      refine sim_unroll 3 (by kernel_rfl) ?_
      refine sim_run 12 [] hR461 (by kernel_rfl) trivial (fun ρ462 w462 hm462 hR462 => ?_)
      have hag := hag.moved hm462
      have hrow := hrow.moved hm462
      have hag460 := hag460.moved hm462
      refine sim_idx 4 0 2 2 0 1 (by kernel_rfl) (by omega) ?_
      refine sim_run 18 [] hR462 (by kernel_rfl) trivial (fun ρ463 w463 hm463 hR463 => ?_)
      have hag := hag.moved hm463
      have hrow := hrow.moved hm463
      have hag460 := hag460.moved hm463
      refine sim_call 63 [LI ((atI xs id).state), LI 1] (by kernel_rfl) ?_
      refine Calls.mono (next_any _ _ _) ?_
      rintro e464 w464 ⟨rfl, hb464⟩
      have hR464 := hR463.below hb464
      have hrow := hrow.below hb464
      refine Back.of (.tup [LI ((nextM (atI xs id).state 1).fst), LB ((nextM (atI xs id).state 1).snd)]) hR464 rfl ?_
      refine sim_run 10 [] hR464 (by kernel_rfl) trivial (fun ρ465 w465 hm465 hR465 => ?_)
      have hag := hag.moved hm465
      have hag460 := hag460.moved hm465
      have hrow := hrow.moved hm465
      refine sim_fork 27 ((nextM (atI xs id).state 1).snd) (by kernel_rfl) (fun hq466 => ?_) (fun hq466 => ?_)
      refine sim_run 31 [] hR465 (by kernel_rfl) trivial (fun ρ467 w467 hm467 hR467 => ?_)
      have hag := hag.moved hm467
      have hag460 := hag460.moved hm467
      have hrow := hrow.moved hm467
      refine sim_idx 4 0 2 2 1 1 (by kernel_rfl) (by omega) ?_
      refine sim_run 18 [] hR467 (by kernel_rfl) trivial (fun ρ468 w468 hm468 hR468 => ?_)
      have hag := hag.moved hm468
      have hag460 := hag460.moved hm468
      have hrow := hrow.moved hm468
      refine sim_call 63 [LI ((atI xs m).state), LI 1] (by kernel_rfl) ?_
      refine Calls.mono (next_any _ _ _) ?_
      rintro e469 w469 ⟨rfl, hb469⟩
      have hR469 := hR468.below hb469
      have hrow := hrow.below hb469
      refine Back.of (.tup [LI ((nextM (atI xs m).state 1).fst), LB ((nextM (atI xs m).state 1).snd)]) hR469 rfl ?_
      refine sim_run 10 [] hR469 (by kernel_rfl) trivial (fun ρ470 w470 hm470 hR470 => ?_)
      have hag := hag.moved hm470
      have hag460 := hag460.moved hm470
      have hrow := hrow.moved hm470
      refine sim_fork 27 ((nextM (atI xs m).state 1).snd) (by kernel_rfl) (fun hq471 => ?_) (fun hq471 => ?_)
      refine sim_run 32 [] hR470 (by kernel_rfl) trivial (fun ρ472 w472 hm472 hR472 => ?_)
      have hag := hag.moved hm472
      have hag460 := hag460.moved hm472
      have hrow := hrow.moved hm472
      refine sim_out 5 (LI 2) hR472 (by kernel_rfl) (by kernel_rfl) hag460.ag (by kernel_rfl) ?_
      refine sim_run 5 [] hR472 (by kernel_rfl) trivial (fun ρ473 w473 hm473 hR473 => ?_)
      have hag := hag.moved hm473
      have hag460 := hag460.moved hm473
      have hrow := hrow.moved hm473
      refine sim_ret (LI 0) hR473 (by kernel_rfl) (by kernel_rfl) ?_
      (rw [settle_ok hod (by omega) (by omega), if_neg hz0, hmz, upd2_eq hod hmi hmne]; refine ⟨rfl, ?_, hR473.keeps.kept⟩; rw [show evOf xs id qty = 1 from by unfold evOf; rw [if_neg (by omega)], doI_t (x := paidI qty paid (atI xs id)) (by assumption), doI_t (x := paidI qty paid (atI xs m)) (by assumption)]; exact hrow.close2 (by omega) (by omega) (by omega) ({ paidI qty paid (atI xs id) with state := (nextM (atI xs id).state 1).1 }) ({ paidI qty paid (atI xs m) with state := (nextM (atI xs m).state 1).1 }) (bk_cell hR473 hag e301 _ (by kernel_rfl)) (bk_cell hR473 hag eM _ (by kernel_rfl)))
      refine sim_run 20 [] hR470 (by kernel_rfl) trivial (fun ρ474 w474 hm474 hR474 => ?_)
      have hag := hag.moved hm474
      have hag460 := hag460.moved hm474
      have hrow := hrow.moved hm474
      refine sim_out 5 (LI 1) hR474 (by kernel_rfl) (by kernel_rfl) hag460.ag (by kernel_rfl) ?_
      refine sim_run 5 [] hR474 (by kernel_rfl) trivial (fun ρ475 w475 hm475 hR475 => ?_)
      have hag := hag.moved hm475
      have hag460 := hag460.moved hm475
      have hrow := hrow.moved hm475
      refine sim_ret (LI 0) hR475 (by kernel_rfl) (by kernel_rfl) ?_
      (rw [settle_ok hod (by omega) (by omega), if_neg hz0, hmz, upd2_eq hod hmi hmne]; refine ⟨rfl, ?_, hR475.keeps.kept⟩; rw [show evOf xs id qty = 1 from by unfold evOf; rw [if_neg (by omega)], doI_t (x := paidI qty paid (atI xs id)) (by assumption), doI_f (x := paidI qty paid (atI xs m)) (by assumption)]; exact hrow.close2 (by omega) (by omega) (by omega) ({ paidI qty paid (atI xs id) with state := (nextM (atI xs id).state 1).1 }) (paidI qty paid (atI xs m)) (bk_cell hR475 hag e301 _ (by kernel_rfl)) (bk_cell hR475 hag eM _ (by kernel_rfl)))
      refine sim_run 19 [] hR465 (by kernel_rfl) trivial (fun ρ476 w476 hm476 hR476 => ?_)
      have hag := hag.moved hm476
      have hag460 := hag460.moved hm476
      have hrow := hrow.moved hm476
      refine sim_idx 4 0 2 2 1 1 (by kernel_rfl) (by omega) ?_
      refine sim_run 18 [] hR476 (by kernel_rfl) trivial (fun ρ477 w477 hm477 hR477 => ?_)
      have hag := hag.moved hm477
      have hag460 := hag460.moved hm477
      have hrow := hrow.moved hm477
      refine sim_call 63 [LI ((atI xs m).state), LI 1] (by kernel_rfl) ?_
      refine Calls.mono (next_any _ _ _) ?_
      rintro e478 w478 ⟨rfl, hb478⟩
      have hR478 := hR477.below hb478
      have hrow := hrow.below hb478
      refine Back.of (.tup [LI ((nextM (atI xs m).state 1).fst), LB ((nextM (atI xs m).state 1).snd)]) hR478 rfl ?_
      refine sim_run 10 [] hR478 (by kernel_rfl) trivial (fun ρ479 w479 hm479 hR479 => ?_)
      have hag := hag.moved hm479
      have hag460 := hag460.moved hm479
      have hrow := hrow.moved hm479
      refine sim_fork 27 ((nextM (atI xs m).state 1).snd) (by kernel_rfl) (fun hq480 => ?_) (fun hq480 => ?_)
      refine sim_run 32 [] hR479 (by kernel_rfl) trivial (fun ρ481 w481 hm481 hR481 => ?_)
      have hag := hag.moved hm481
      have hag460 := hag460.moved hm481
      have hrow := hrow.moved hm481
      refine sim_out 5 (LI 1) hR481 (by kernel_rfl) (by kernel_rfl) hag460.ag (by kernel_rfl) ?_
      refine sim_run 5 [] hR481 (by kernel_rfl) trivial (fun ρ482 w482 hm482 hR482 => ?_)
      have hag := hag.moved hm482
      have hag460 := hag460.moved hm482
      have hrow := hrow.moved hm482
      refine sim_ret (LI 0) hR482 (by kernel_rfl) (by kernel_rfl) ?_
      (rw [settle_ok hod (by omega) (by omega), if_neg hz0, hmz, upd2_eq hod hmi hmne]; refine ⟨rfl, ?_, hR482.keeps.kept⟩; rw [show evOf xs id qty = 1 from by unfold evOf; rw [if_neg (by omega)], doI_f (x := paidI qty paid (atI xs id)) (by assumption), doI_t (x := paidI qty paid (atI xs m)) (by assumption)]; exact hrow.close2 (by omega) (by omega) (by omega) (paidI qty paid (atI xs id)) ({ paidI qty paid (atI xs m) with state := (nextM (atI xs m).state 1).1 }) (bk_cell hR482 hag e301 _ (by kernel_rfl)) (bk_cell hR482 hag eM _ (by kernel_rfl)))
      refine sim_run 20 [] hR479 (by kernel_rfl) trivial (fun ρ483 w483 hm483 hR483 => ?_)
      have hag := hag.moved hm483
      have hag460 := hag460.moved hm483
      have hrow := hrow.moved hm483
      refine sim_out 5 (LI 0) hR483 (by kernel_rfl) (by kernel_rfl) hag460.ag (by kernel_rfl) ?_
      refine sim_run 5 [] hR483 (by kernel_rfl) trivial (fun ρ484 w484 hm484 hR484 => ?_)
      have hag := hag.moved hm484
      have hag460 := hag460.moved hm484
      have hrow := hrow.moved hm484
      refine sim_ret (LI 0) hR484 (by kernel_rfl) (by kernel_rfl) ?_
      (rw [settle_ok hod (by omega) (by omega), if_neg hz0, hmz, upd2_eq hod hmi hmne]; refine ⟨rfl, ?_, hR484.keeps.kept⟩; rw [show evOf xs id qty = 1 from by unfold evOf; rw [if_neg (by omega)], doI_f (x := paidI qty paid (atI xs id)) (by assumption), doI_f (x := paidI qty paid (atI xs m)) (by assumption)]; exact hrow.close2 (by omega) (by omega) (by omega) (paidI qty paid (atI xs id)) (paidI qty paid (atI xs m)) (bk_cell hR484 hag e301 _ (by kernel_rfl)) (bk_cell hR484 hag eM _ (by kernel_rfl)))
      
end Go.Proofs.Ytodjhkmbgennaaa
