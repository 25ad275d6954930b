/-
  Nobody does anything with another party's instruction, nor with one that is over; nothing has changed then: for every list of steps and every step.
-/
import Derived.Test.YtodjhkmbgennaaaBookR
namespace Go.Proofs.Ytodjhkmbgennaaa
open Go Go.RowKit
attribute [local irreducible] run goO goN ordGoN eqlOf eqlOper eqlOfO cellL leaveK someK nextK nextT nextOT nextOD loopBody loopRest loopK fillJ tmplOf tmplJ mergeT At AtO drawOk ordOf gateOf callC callO topOp topO idxOf appOf storeOf clearOf sliceOf calleeOf calleeO topQ idxQ newRowOf resL stepOp seek

set_option maxRecDepth 100000 in
set_option maxHeartbeats 4000000 in
theorem bookRights_walk (w : World) (A : Option Addr) (n cp M : Nat) (os : List OpR) (o : OpR) (hM : M ≤ 140737488355328) (h : Ops w A n M os) (ho : o.ok w w.heap.size M) : Calls Try.prog 7 #[.slice A n cp, o.val] w fun e w' => e = .returned (.bool true) ∧ Below w.heap.size w w' := by
  have hmax := h.max
  refine sim_enter Try.func7 ρ0 [.v (.slice A n cp), .agg (o.cells.map .v)] [] (by kernel_rfl) (by simp only [denL, LV.den, denL_v]; rfl) ?_
  have hR := Rel.start [] w ρ0
  refine sim_run 9 [] hR (by kernel_rfl) trivial (fun ρ100 w100 hm100 hR100 => ?_)
  refine sim_call 27 [.v (Value.slice A n cp)] (by kernel_rfl) ?_
  refine Calls.mono (light14_any _ _ _ _ _ _ (h.at_ hR100.toBelow)) ?_
  rintro e101 w101 ⟨rfl, hb101⟩
  have hR101 := hR100.below hb101
  refine Back.of (LB (lightB os)) hR101 rfl ?_
  refine sim_run 2 [] hR101 (by kernel_rfl) trivial (fun ρ102 w102 hm102 hR102 => ?_)
  refine sim_fork 16 (!lightB os) (by kernel_rfl) (fun hq103 => ?_) (fun hq103 => ?_)
  have hq103 := nb_t hq103
  refine sim_run 3 [] hR102 (by kernel_rfl) trivial (fun ρ104 w104 hm104 hR104 => ?_)
  refine sim_call 20 [] (by kernel_rfl) ?_
  refine Calls.mono (alive14_any _) ?_
  rintro e105 w105 ⟨rfl, hb105⟩
  have hR105 := hR104.below hb105
  refine Back.of (LB true) hR105 rfl ?_
  refine sim_run 2 [] hR105 (by kernel_rfl) trivial (fun ρ106 w106 hm106 hR106 => ?_)
  refine sim_ret (LB true) hR106 (by kernel_rfl) (by kernel_rfl) ?_
  exact ⟨rfl, hR106.toBelow⟩
  have hq103 := nb_f hq103
  refine sim_run 4 [] hR102 (by kernel_rfl) trivial (fun ρ107 w107 hm107 hR107 => ?_)
  refine sim_call 19 [] (by kernel_rfl) ?_
  refine Calls.mono (new_any _) ?_
  rintro e108 w108 ⟨g, rfl, hg108, hb108, hbel108⟩
  have hBw := hR107.keeps.size
  have hbk := BkO.new hR107 hg108 hb108
  have hR108 := hR107.below hbel108
  refine Back.of (.v (Value.pointer (some (Addr.mk g 0 none)))) hR108 rfl ?_
  refine sim_run 16 [] hR108 (by kernel_rfl) trivial (fun ρ109 w109 hm109 hR109 => ?_)
  have hbk := hbk.moved hm109
  
  have hn200 : n ≤ 200 := by
    unfold lightB at hq103
    rw [Bool.and_eq_true] at hq103
    have := of_decide_eq_true hq103.2
    have := h.len
    omega
  refine sim_loop (ι := Nat) (T := []) (w0 := w) 0 [0, 3, 4, 5] (fun k => [(6, LI k)]) (fun _ => [⟨o.cells.map .v, true⟩]) (fun k w1 => k ≤ n ∧ ∃ v xs, BkO ρ109 [⟨o.cells.map .v, true⟩] w1 w107.heap.size g v xs ∧ okL xs) (fun k => n - k) (by kernel_rfl) (by kernel_rfl) (hR109.cast (by kernel_rfl)) ⟨Nat.zero_le _, .slice none 0 0, [], hbk.castR (by kernel_rfl), fun x hx => by cases hx⟩ ?_
  iterate 12 (try clear hbk)
  clear hR109 hm109
  rintro k d w2 hR2 ⟨hk, v, xs, hbk, hxs⟩
  have hag := hR2.ag_ 1 (by kernel_rfl)
  by_cases hlt : k < n
  · obtain ⟨u, hu, hok, hx⟩ := h.get hlt
    refine sim_see u.cells k 1 (by kernel_rfl) hx h.rd (op_len os) (by omega) hlt (Nat.le_refl _) (by simp) hR2 (by kernel_rfl) (fun ga oa ρE eA hgT hgl hmE eE hRE => ?_)
    subst eA
    have hbk := hbk.moved hmE
    have hag1 := hag.moved hmE
    have hag := hRE.ag_ 2 (by kernel_rfl)
    refine sim_run 8 [] hRE (by kernel_rfl) trivial (fun ρ200 w200 hm200 hR200 => ?_)
    have hbk := hbk.moved hm200
    have hag1 := hag1.moved hm200
    have hag := hag.moved hm200
    refine sim_know 24 (decide ((↑k : Int) < (↑n : Int))) true (by kernel_rfl) (decide_eq_true (by omega)) ?_
    refine sim_run 8 [] hR200 (by kernel_rfl) trivial (fun ρ201 w201 hm201 hR201 => ?_)
    have hbk := hbk.moved hm201
    have hag1 := hag1.moved hm201
    have hag := hag.moved hm201
    refine sim_place (.v (.slice (some ⟨ga, oa, none⟩) n cp)) n 20 k 1 0 (by kernel_rfl) (by omega) (by omega) rfl (by simp only [Nm.at_, hag.at_ 1 (by omega), eE, Nat.add_zero, Int.toNat_natCast]) ?_
    refine sim_run 9 [] hR201 (by kernel_rfl) trivial (fun ρ203 w203 hm203 hR203 => ?_)
    have hbk := hbk.moved hm203
    have hag1 := hag1.moved hm203
    have hag := hag.moved hm203
    refine sim_fork 32 (u.kind == 1) (by kernel_rfl) (fun hq204 => ?_) (fun hq204 => ?_)
    have hq204 := of_decide_eq_true hq204
    refine sim_run 1 [] hR203 (by kernel_rfl) trivial (fun ρ205 w205 hm205 hR205 => ?_)
    have hbk := hbk.moved hm205
    have hag1 := hag1.moved hm205
    have hag := hag.moved hm205
    refine sim_draw [] (by kernel_rfl) (by kernel_rfl) hR205 (fun hR206 => ?_)
    have hbk := hbk.drew
    refine sim_ordN 3 [] hR206 (by kernel_rfl) trivial (fun ρ207 w207 hm207 hR207 => ?_)
    have hag1 := hag1.moved hm207
    have hag := hag.moved hm207
    have hbk := hbk.moved hm207
    refine sim_ord_index (.v (.slice (some ⟨ga, oa, none⟩) n cp)) n 20 k 1 0 (by kernel_rfl) (by omega) (by omega) rfl hR207 (by simp only [Nm.at_, hag.at_ 1 (by omega), eE, Nat.add_zero, Int.toNat_natCast]) (fun hR208 => ?_)
    refine sim_ordN 4 [] hR208 (by kernel_rfl) trivial (fun ρ209 w209 hm209 hR209 => ?_)
    have hag1 := hag1.moved hm209
    have hag := hag.moved hm209
    have hbk := hbk.moved hm209
    refine sim_ord_index (.v (.slice (some ⟨ga, oa, none⟩) n cp)) n 20 k 1 0 (by kernel_rfl) (by omega) (by omega) rfl hR209 (by simp only [Nm.at_, hag.at_ 1 (by omega), eE, Nat.add_zero, Int.toNat_natCast]) (fun hR210 => ?_)
    refine sim_ordN 4 [] hR210 (by kernel_rfl) trivial (fun ρ211 w211 hm211 hR211 => ?_)
    have hag1 := hag1.moved hm211
    have hag := hag.moved hm211
    have hbk := hbk.moved hm211
    refine sim_ord_index (.v (.slice (some ⟨ga, oa, none⟩) n cp)) n 20 k 1 0 (by kernel_rfl) (by omega) (by omega) rfl hR211 (by simp only [Nm.at_, hag.at_ 1 (by omega), eE, Nat.add_zero, Int.toNat_natCast]) (fun hR212 => ?_)
    refine sim_ordN 4 [] hR212 (by kernel_rfl) trivial (fun ρ213 w213 hm213 hR213 => ?_)
    have hag1 := hag1.moved hm213
    have hag := hag.moved hm213
    have hbk := hbk.moved hm213
    refine sim_ord_index (.v (.slice (some ⟨ga, oa, none⟩) n cp)) n 20 k 1 0 (by kernel_rfl) (by omega) (by omega) rfl hR213 (by simp only [Nm.at_, hag.at_ 1 (by omega), eE, Nat.add_zero, Int.toNat_natCast]) (fun hR214 => ?_)
    refine sim_ordN 2 [] hR214 (by kernel_rfl) trivial (fun ρ215 w215 hm215 hR215 => ?_)
    have hag1 := hag1.moved hm215
    have hag := hag.moved hm215
    have hbk := hbk.moved hm215
    refine sim_ord_call (T := []) (w0 := w) 21 [.v (Value.pointer (some (Addr.mk g 0 none))), .agg [LS u.t.party, LS u.t.account, LS u.t.money, LS u.t.other, LB u.t.deliver, LS u.t.asset, LS u.t.ccy, LS u.t.ref, LI u.t.qty, LI u.t.amount, LI u.t.day, LI u.t.trade], LI u.a, LB u.on, LB u.off] (by kernel_rfl) ?_
    refine Calls.mono (add_bk _ _ _ _ _ _ _ _ _ _ _ _ _ _ _ _ _ _ _ _ hbk.bk (hok.t.short hM)) ?_
    rintro e216 w216 ⟨v216, rfl, hbv216, hk216, hv216⟩
    obtain ⟨hbk, hQ216⟩ := hbk.after hR215.rel hBw hbv216 hk216 hv216 [1] (by kernel_rfl) (by intro q hq; simp only [List.mem_singleton] at hq; subst hq; rw [hag.at_ 1 (by omega), eE]; exact hgl)
    have hR216 := hR215.with hQ216 (.tup [LI ((addM xs (Tm.mk u.t.party u.t.account u.t.money u.t.other u.t.deliver u.t.asset u.t.ccy u.t.ref u.t.qty u.t.amount u.t.day u.t.trade) u.a u.on u.off).snd.fst), LI ((addM xs (Tm.mk u.t.party u.t.account u.t.money u.t.other u.t.deliver u.t.asset u.t.ccy u.t.ref u.t.qty u.t.amount u.t.day u.t.trade) u.a u.on u.off).snd.snd)])
    refine BackO.of (.tup [LI ((addM xs (Tm.mk u.t.party u.t.account u.t.money u.t.other u.t.deliver u.t.asset u.t.ccy u.t.ref u.t.qty u.t.amount u.t.day u.t.trade) u.a u.on u.off).snd.fst), LI ((addM xs (Tm.mk u.t.party u.t.account u.t.money u.t.other u.t.deliver u.t.asset u.t.ccy u.t.ref u.t.qty u.t.amount u.t.day u.t.trade) u.a u.on u.off).snd.snd)]) hR216 rfl ?_
    refine sim_ord_endR hR216 (by kernel_rfl) (fun hR217 => ?_)
    refine sim_run 7 [⟨8, 1, LI (IntKind.i64.wrap ((↑k : Int) + 1)), LI ((↑k : Int) + 1)⟩] hR217 (by kernel_rfl) ⟨eqi (IntWalk.i64_in _ (by omega)), trivial⟩ (fun ρ218 w218 hm218 hR218 => ?_)
    have hag1 := hag1.moved hm218
    have hag := hag.moved hm218
    have hbk := hbk.moved hm218
    rotate_left
    have hq204 := of_decide_eq_false hq204
    refine sim_run 6 [] hR203 (by kernel_rfl) trivial (fun ρ219 w219 hm219 hR219 => ?_)
    have hbk := hbk.moved hm219
    have hag1 := hag1.moved hm219
    have hag := hag.moved hm219
    refine sim_fork 56 (u.kind == 3) (by kernel_rfl) (fun hq220 => ?_) (fun hq220 => ?_)
    have hq220 := of_decide_eq_true hq220
    refine sim_run 1 [] hR219 (by kernel_rfl) trivial (fun ρ221 w221 hm221 hR221 => ?_)
    have hbk := hbk.moved hm221
    have hag1 := hag1.moved hm221
    have hag := hag.moved hm221
    refine sim_draw [] (by kernel_rfl) (by kernel_rfl) hR221 (fun hR222 => ?_)
    have hbk := hbk.drew
    refine sim_ordN 3 [] hR222 (by kernel_rfl) trivial (fun ρ223 w223 hm223 hR223 => ?_)
    have hag1 := hag1.moved hm223
    have hag := hag.moved hm223
    have hbk := hbk.moved hm223
    refine sim_ord_index (.v (.slice (some ⟨ga, oa, none⟩) n cp)) n 20 k 1 0 (by kernel_rfl) (by omega) (by omega) rfl hR223 (by simp only [Nm.at_, hag.at_ 1 (by omega), eE, Nat.add_zero, Int.toNat_natCast]) (fun hR224 => ?_)
    refine sim_ordN 4 [] hR224 (by kernel_rfl) trivial (fun ρ225 w225 hm225 hR225 => ?_)
    have hag1 := hag1.moved hm225
    have hag := hag.moved hm225
    have hbk := hbk.moved hm225
    refine sim_ord_index (.v (.slice (some ⟨ga, oa, none⟩) n cp)) n 20 k 1 0 (by kernel_rfl) (by omega) (by omega) rfl hR225 (by simp only [Nm.at_, hag.at_ 1 (by omega), eE, Nat.add_zero, Int.toNat_natCast]) (fun hR226 => ?_)
    refine sim_ordN 2 [] hR226 (by kernel_rfl) trivial (fun ρ227 w227 hm227 hR227 => ?_)
    have hag1 := hag1.moved hm227
    have hag := hag.moved hm227
    have hbk := hbk.moved hm227
    refine sim_ord_call (T := []) (w0 := w) 25 [.v (Value.pointer (some (Addr.mk g 0 none))), LS u.party, LI u.a] (by kernel_rfl) ?_
    refine Calls.mono (cancel_bk _ _ _ _ _ _ _ hbk.bk hok.a (hxs.at_ _)) ?_
    rintro e228 w228 ⟨v228, rfl, hbv228, hk228, hv228⟩
    obtain ⟨hbk, hQ228⟩ := hbk.after hR227.rel hBw hbv228 hk228 hv228 [1] (by kernel_rfl) (by intro q hq; simp only [List.mem_singleton] at hq; subst hq; rw [hag.at_ 1 (by omega), eE]; exact hgl)
    have hR228 := hR227.with hQ228 (LI ((cancelM xs u.party u.a).snd))
    refine BackO.of (LI ((cancelM xs u.party u.a).snd)) hR228 rfl ?_
    refine sim_ord_endR hR228 (by kernel_rfl) (fun hR229 => ?_)
    refine sim_run 7 [⟨8, 1, LI (IntKind.i64.wrap ((↑k : Int) + 1)), LI ((↑k : Int) + 1)⟩] hR229 (by kernel_rfl) ⟨eqi (IntWalk.i64_in _ (by omega)), trivial⟩ (fun ρ230 w230 hm230 hR230 => ?_)
    have hag1 := hag1.moved hm230
    have hag := hag.moved hm230
    have hbk := hbk.moved hm230
    rotate_left
    have hq220 := of_decide_eq_false hq220
    refine sim_run 6 [] hR219 (by kernel_rfl) trivial (fun ρ231 w231 hm231 hR231 => ?_)
    have hbk := hbk.moved hm231
    have hag1 := hag1.moved hm231
    have hag := hag.moved hm231
    refine sim_fork 70 (u.kind == 7) (by kernel_rfl) (fun hq232 => ?_) (fun hq232 => ?_)
    have hq232 := of_decide_eq_true hq232
    refine sim_run 1 [] hR231 (by kernel_rfl) trivial (fun ρ233 w233 hm233 hR233 => ?_)
    have hbk := hbk.moved hm233
    have hag1 := hag1.moved hm233
    have hag := hag.moved hm233
    refine sim_draw [] (by kernel_rfl) (by kernel_rfl) hR233 (fun hR234 => ?_)
    have hbk := hbk.drew
    refine sim_ordN 3 [] hR234 (by kernel_rfl) trivial (fun ρ235 w235 hm235 hR235 => ?_)
    have hag1 := hag1.moved hm235
    have hag := hag.moved hm235
    have hbk := hbk.moved hm235
    refine sim_ord_index (.v (.slice (some ⟨ga, oa, none⟩) n cp)) n 20 k 1 0 (by kernel_rfl) (by omega) (by omega) rfl hR235 (by simp only [Nm.at_, hag.at_ 1 (by omega), eE, Nat.add_zero, Int.toNat_natCast]) (fun hR236 => ?_)
    refine sim_ordN 4 [] hR236 (by kernel_rfl) trivial (fun ρ237 w237 hm237 hR237 => ?_)
    have hag1 := hag1.moved hm237
    have hag := hag.moved hm237
    have hbk := hbk.moved hm237
    refine sim_ord_index (.v (.slice (some ⟨ga, oa, none⟩) n cp)) n 20 k 1 0 (by kernel_rfl) (by omega) (by omega) rfl hR237 (by simp only [Nm.at_, hag.at_ 1 (by omega), eE, Nat.add_zero, Int.toNat_natCast]) (fun hR238 => ?_)
    refine sim_ordN 4 [] hR238 (by kernel_rfl) trivial (fun ρ239 w239 hm239 hR239 => ?_)
    have hag1 := hag1.moved hm239
    have hag := hag.moved hm239
    have hbk := hbk.moved hm239
    refine sim_ord_index (.v (.slice (some ⟨ga, oa, none⟩) n cp)) n 20 k 1 0 (by kernel_rfl) (by omega) (by omega) rfl hR239 (by simp only [Nm.at_, hag.at_ 1 (by omega), eE, Nat.add_zero, Int.toNat_natCast]) (fun hR240 => ?_)
    refine sim_ordN 2 [] hR240 (by kernel_rfl) trivial (fun ρ241 w241 hm241 hR241 => ?_)
    have hag1 := hag1.moved hm241
    have hag := hag.moved hm241
    have hbk := hbk.moved hm241
    refine sim_ord_call (T := []) (w0 := w) 24 [.v (Value.pointer (some (Addr.mk g 0 none))), LI u.a, LI u.b, LI u.c] (by kernel_rfl) ?_
    refine Calls.mono (pair_bk _ _ _ _ _ _ _ _ hbk.bk hok.a hok.b) ?_
    rintro e242 w242 ⟨v242, rfl, hbv242, hk242, hv242⟩
    obtain ⟨hbk, hQ242⟩ := hbk.after hR241.rel hBw hbv242 hk242 hv242 [1] (by kernel_rfl) (by intro q hq; simp only [List.mem_singleton] at hq; subst hq; rw [hag.at_ 1 (by omega), eE]; exact hgl)
    have hR242 := hR241.with hQ242 (LI ((pairM xs u.a u.b u.c).snd))
    refine BackO.of (LI ((pairM xs u.a u.b u.c).snd)) hR242 rfl ?_
    refine sim_ord_endR hR242 (by kernel_rfl) (fun hR243 => ?_)
    refine sim_run 7 [⟨8, 1, LI (IntKind.i64.wrap ((↑k : Int) + 1)), LI ((↑k : Int) + 1)⟩] hR243 (by kernel_rfl) ⟨eqi (IntWalk.i64_in _ (by omega)), trivial⟩ (fun ρ244 w244 hm244 hR244 => ?_)
    have hag1 := hag1.moved hm244
    have hag := hag.moved hm244
    have hbk := hbk.moved hm244
    rotate_left
    have hq232 := of_decide_eq_false hq232
    refine sim_run 9 [⟨8, 1, LI (IntKind.i64.wrap ((↑k : Int) + 1)), LI ((↑k : Int) + 1)⟩] hR231 (by kernel_rfl) ⟨eqi (IntWalk.i64_in _ (by omega)), trivial⟩ (fun ρ245 w245 hm245 hR245 => ?_)
    have hbk := hbk.moved hm245
    have hag1 := hag1.moved hm245
    have hag := hag.moved hm245
    rotate_left
    
    · refine sim_again (k + 1) (by kernel_rfl) (by show n - (k + 1) < n - k; omega) (by kernel_rfl) (by kernel_rfl) (by kernel_rfl) hag1.ag hR218 (by kernel_rfl) (by kernel_rfl) ⟨hlt, _, _, hbk.cut hag1 rfl (by kernel_rfl), hxs.add _ _ _ _⟩
    · refine sim_again (k + 1) (by kernel_rfl) (by show n - (k + 1) < n - k; omega) (by kernel_rfl) (by kernel_rfl) (by kernel_rfl) hag1.ag hR230 (by kernel_rfl) (by kernel_rfl) ⟨hlt, _, _, hbk.cut hag1 rfl (by kernel_rfl), hxs.cancel _ _⟩
    · refine sim_again (k + 1) (by kernel_rfl) (by show n - (k + 1) < n - k; omega) (by kernel_rfl) (by kernel_rfl) (by kernel_rfl) hag1.ag hR244 (by kernel_rfl) (by kernel_rfl) ⟨hlt, _, _, hbk.cut hag1 rfl (by kernel_rfl), hxs.pair _ _ _ hok.a hok.b⟩
    · refine sim_again (k + 1) (by kernel_rfl) (by show n - (k + 1) < n - k; omega) (by kernel_rfl) (by kernel_rfl) (by kernel_rfl) hag1.ag hR245 (by kernel_rfl) (by kernel_rfl) ⟨hlt, _, _, hbk.cut hag1 rfl (by kernel_rfl), hxs⟩
  · have hida : ∀ i ∈ [o.a], Is64 i := fun i hi => by rw [List.mem_singleton.1 hi]; exact ho.a
    refine sim_run 8 [] hR2 (by kernel_rfl) trivial (fun ρ300 w300 hm300 hR300 => ?_)
    have hbk := hbk.moved hm300
    have hag := hag.moved hm300
    refine sim_know 24 (decide ((↑k : Int) < (↑n : Int))) false (by kernel_rfl) (decide_eq_false (by omega)) ?_
    refine sim_run 1 [] hR300 (by kernel_rfl) trivial (fun ρ301 w301 hm301 hR301 => ?_)
    have hbk := hbk.moved hm301
    have hag := hag.moved hm301
    refine sim_leave (by kernel_rfl) ?_
    refine sim_run 5 [] hR301 (by kernel_rfl) trivial (fun ρ302 w302 hm302 hR302 => ?_)
    have hbk := hbk.moved hm302
    have hag := hag.moved hm302
    refine sim_call 22 [.v (Value.pointer (some (Addr.mk g 0 none))), LI o.a] (by kernel_rfl) ?_
    refine Calls.mono (get_bk _ _ _ _ _ _ hbk.bk ho.a) ?_
    rintro e303 w303 ⟨rfl, hb303⟩
    have hR303 := hR302.below hb303
    have hbk := hbk.below hb303
    refine Back.of (.tup [.agg (((getM xs o.a).fst).cells.map .v), LI ((getM xs o.a).snd)]) hR303 rfl ?_
    refine sim_run 8 [] hR303 (by kernel_rfl) trivial (fun ρ304 w304 hm304 hR304 => ?_)
    have hag := hag.moved hm304
    have hbk := hbk.moved hm304
    refine sim_draw [] (by kernel_rfl) (by kernel_rfl) hR304 (fun hR305 => ?_)
    have hbk := hbk.drew
    refine sim_ordN 27 [] hR305 (by kernel_rfl) trivial (fun ρ306 w306 hm306 hR306 => ?_)
    have hag := hag.moved hm306
    have hbk := hbk.moved hm306
    refine sim_ord_call (T := []) (w0 := w) 28 [.v (Value.pointer (some (Addr.mk g 0 none))), LS o.party, LB (!(getM xs o.a).fst.held), .slc 2 0 1 1] (by kernel_rfl) ?_
    refine Calls.mono (hold_bk _ _ _ _ _ _ _ _ _ _ ([o.a]) _ hbk.bk (by assumption) (Rel.reads1 hR306.rel 2 _ (by kernel_rfl)) (by omega) (hbk.farA 2 (by kernel_rfl)) (by omega)) ?_
    rintro e307 w307 ⟨v307, rfl, hbv307, hk307, hv307⟩
    obtain ⟨hbk, hQ307⟩ := hbk.after hR306.rel hBw hbv307 hk307 hv307 [] (by kernel_rfl) (by simp)
    have hR307 := hR306.with hQ307 (LI (holdE xs o.party [o.a]))
    refine BackO.of (LI (holdE xs o.party [o.a])) hR307 rfl ?_
    refine sim_ord_call (T := []) (w0 := w) 26 [.v (Value.pointer (some (Addr.mk g 0 none))), LS o.party, LI o.a] (by kernel_rfl) ?_
    refine Calls.mono (keep_bk _ _ _ _ _ _ _ (by assumption) ho.a) ?_
    rintro e308 w308 ⟨v308, rfl, hbv308, hk308, hv308⟩
    obtain ⟨hbk, hQ308⟩ := hbk.after hR307.rel hBw hbv308 hk308 hv308 [] (by kernel_rfl) (by simp)
    have hR308 := hR307.with hQ308 (LI (mayM (holdM xs o.party (!(getM xs o.a).fst.held) [o.a]) o.party o.a))
    refine BackO.of (LI (mayM (holdM xs o.party (!(getM xs o.a).fst.held) [o.a]) o.party o.a)) hR308 rfl ?_
    refine sim_ord_call (T := []) (w0 := w) 29 [.v (Value.pointer (some (Addr.mk g 0 none))), LS o.party, LI o.a, LI 2] (by kernel_rfl) ?_
    refine Calls.mono (setPrio_bk _ _ _ _ _ _ _ _ (by assumption) ho.a) ?_
    rintro e309 w309 ⟨v309, rfl, hbv309, hk309, hv309⟩
    obtain ⟨hbk, hQ309⟩ := hbk.after hR308.rel hBw hbv309 hk309 hv309 [] (by kernel_rfl) (by simp)
    have hR309 := hR308.with hQ309 (LI ((setPrioM (keepM (holdM xs o.party (!(getM xs o.a).fst.held) [o.a]) o.party o.a) o.party o.a 2).snd))
    refine BackO.of (LI ((setPrioM (keepM (holdM xs o.party (!(getM xs o.a).fst.held) [o.a]) o.party o.a) o.party o.a 2).snd)) hR309 rfl ?_
    refine sim_ord_call (T := []) (w0 := w) 30 [.v (Value.pointer (some (Addr.mk g 0 none))), LS o.party, LI o.a, LB (!(getM xs o.a).fst.part)] (by kernel_rfl) ?_
    refine Calls.mono (setPart_bk _ _ _ _ _ _ _ _ (by assumption) ho.a) ?_
    rintro e310 w310 ⟨v310, rfl, hbv310, hk310, hv310⟩
    obtain ⟨hbk, hQ310⟩ := hbk.after hR309.rel hBw hbv310 hk310 hv310 [] (by kernel_rfl) (by simp)
    have hR310 := hR309.with hQ310 (LI (mayM (setPrioM (keepM (holdM xs o.party (!(getM xs o.a).fst.held) [o.a]) o.party o.a) o.party o.a 2).fst o.party o.a))
    refine BackO.of (LI (mayM (setPrioM (keepM (holdM xs o.party (!(getM xs o.a).fst.held) [o.a]) o.party o.a) o.party o.a 2).fst o.party o.a)) hR310 rfl ?_
    refine sim_ordN 2 [] hR310 (by kernel_rfl) trivial (fun ρ311 w311 hm311 hR311 => ?_)
    have hag := hag.moved hm311
    have hbk := hbk.moved hm311
    refine sim_ord_endR hR311 (by kernel_rfl) (fun hR312 => ?_)
    refine sim_run 5 [] hR312 (by kernel_rfl) trivial (fun ρ313 w313 hm313 hR313 => ?_)
    have hag := hag.moved hm313
    have hbk := hbk.moved hm313
    refine sim_call 22 [.v (Value.pointer (some (Addr.mk g 0 none))), LI o.a] (by kernel_rfl) ?_
    refine Calls.mono (get_bk _ _ _ _ _ _ hbk.bk ho.a) ?_
    rintro e314 w314 ⟨rfl, hb314⟩
    have hR314 := hR313.below hb314
    have hbk := hbk.below hb314
    refine Back.of (.tup [.agg (((getM (setPartM (setPrioM (keepM (holdM xs o.party (!(getM xs o.a).fst.held) [o.a]) o.party o.a) o.party o.a 2).fst o.party o.a !(getM xs o.a).fst.part) o.a).fst).cells.map .v), LI ((getM (setPartM (setPrioM (keepM (holdM xs o.party (!(getM xs o.a).fst.held) [o.a]) o.party o.a) o.party o.a 2).fst o.party o.a !(getM xs o.a).fst.part) o.a).snd)]) hR314 rfl ?_
    refine sim_run 19 [] hR314 (by kernel_rfl) trivial (fun ρ315 w315 hm315 hR315 => ?_)
    have hag := hag.moved hm315
    have hbk := hbk.moved hm315
    refine sim_fork 135 ((getM xs o.a).snd != 0) (by kernel_rfl) (fun hq316 => ?_) (fun hq316 => ?_)
    have hq316 := nb_t hq316
    have hq316 := of_decide_eq_false hq316
    refine sim_run 11 [] hR315 (by kernel_rfl) trivial (fun ρ317 w317 hm317 hR317 => ?_)
    have hag := hag.moved hm317
    have hbk := hbk.moved hm317
    rotate_left
    have hq316 := nb_f hq316
    have hq316 := of_decide_eq_true hq316
    refine sim_run 11 [] hR315 (by kernel_rfl) trivial (fun ρ318 w318 hm318 hR318 => ?_)
    have hag := hag.moved hm318
    have hbk := hbk.moved hm318
    refine sim_fork 138 (!(getM xs o.a).fst.term.party.toList == o.party.toList) (by kernel_rfl) (fun hq319 => ?_) (fun hq319 => ?_)
    have hq319 := nb_t hq319
    have hq319 := ba_ne hq319
    refine sim_run 11 [] hR318 (by kernel_rfl) trivial (fun ρ320 w320 hm320 hR320 => ?_)
    have hag := hag.moved hm320
    have hbk := hbk.moved hm320
    rotate_left
    have hq319 := nb_f hq319
    have hq319 := ba_eq hq319
    refine sim_run 6 [] hR318 (by kernel_rfl) trivial (fun ρ321 w321 hm321 hR321 => ?_)
    have hag := hag.moved hm321
    have hbk := hbk.moved hm321
    refine sim_call 31 [.slc 5 0 1 1] (by kernel_rfl) ?_
    refine Calls.mono (open_any _ _ _ _ (hR321.at_cell 5 0 (LI ((getM xs o.a).fst.state)) (by kernel_rfl))) ?_
    rintro e322 w322 ⟨rfl, hb322⟩
    have hR322 := hR321.below hb322
    have hbk := hbk.below hb322
    refine Back.of (LB (openB (getM xs o.a).fst.state)) hR322 rfl ?_
    refine sim_run 3 [] hR322 (by kernel_rfl) trivial (fun ρ323 w323 hm323 hR323 => ?_)
    have hag := hag.moved hm323
    have hbk := hbk.moved hm323
    refine sim_fork 145 (!openB (getM xs o.a).fst.state) (by kernel_rfl) (fun hq324 => ?_) (fun hq324 => ?_)
    have hq324 := nb_t hq324
    have hq324 := nb_f hq324
    refine sim_run 11 [] hR323 (by kernel_rfl) trivial (fun ρ325 w325 hm325 hR325 => ?_)
    have hag := hag.moved hm325
    have hbk := hbk.moved hm325
    rotate_left
    have hq324 := nb_f hq324
    have hq324 := nb_t hq324
    refine sim_run 9 [] hR323 (by kernel_rfl) trivial (fun ρ326 w326 hm326 hR326 => ?_)
    have hag := hag.moved hm326
    have hbk := hbk.moved hm326
    rotate_left
    
    · have hw : mayM xs o.party o.a = 3 := by
        unfold mayM
        rw [if_pos]
        by_cases hob : outB xs o.a
        · exact hob
        · rw [get_atI hob] at hq316
          exact absurd rfl hq316
      have hy : getM (fourM xs o.party o.a (!(getM xs o.a).1.held) (!(getM xs o.a).1.part)) o.a = getM xs o.a := by rw [four_no (by rw [hw]; decide)]
      refine sim_unroll 6 (by kernel_rfl) ?_
      refine sim_run 17 [] hR317 (by kernel_rfl) trivial (fun ρ400 w400 hm400 hR400 => ?_)
      have hag := hag.moved hm400
      have hbk := hbk.moved hm400
      refine sim_idx 3 0 4 4 0 1 (by kernel_rfl) (by omega) ?_
      refine sim_run 4 [] hR400 (by kernel_rfl) trivial (fun ρ401 w401 hm401 hR401 => ?_)
      have hag := hag.moved hm401
      have hbk := hbk.moved hm401
      refine sim_know 162 (holdE xs o.party [o.a] != 3) false (by kernel_rfl) (by simp only [hold_code, may_hold, may_keep, may_prio, prio_code, hw]; rfl) ?_
      refine sim_run 25 [] hR401 (by kernel_rfl) trivial (fun ρ402 w402 hm402 hR402 => ?_)
      have hag := hag.moved hm402
      have hbk := hbk.moved hm402
      refine sim_idx 3 0 4 4 1 1 (by kernel_rfl) (by omega) ?_
      refine sim_run 4 [] hR402 (by kernel_rfl) trivial (fun ρ403 w403 hm403 hR403 => ?_)
      have hag := hag.moved hm403
      have hbk := hbk.moved hm403
      refine sim_know 162 (mayM (holdM xs o.party (!(getM xs o.a).fst.held) [o.a]) o.party o.a != 3) false (by kernel_rfl) (by simp only [hold_code, may_hold, may_keep, may_prio, prio_code, hw]; rfl) ?_
      refine sim_run 25 [] hR403 (by kernel_rfl) trivial (fun ρ404 w404 hm404 hR404 => ?_)
      have hag := hag.moved hm404
      have hbk := hbk.moved hm404
      refine sim_idx 3 0 4 4 2 1 (by kernel_rfl) (by omega) ?_
      refine sim_run 4 [] hR404 (by kernel_rfl) trivial (fun ρ405 w405 hm405 hR405 => ?_)
      have hag := hag.moved hm405
      have hbk := hbk.moved hm405
      refine sim_know 162 ((setPrioM (keepM (holdM xs o.party (!(getM xs o.a).fst.held) [o.a]) o.party o.a) o.party o.a 2).snd != 3) false (by kernel_rfl) (by simp only [hold_code, may_hold, may_keep, may_prio, prio_code, hw]; rfl) ?_
      refine sim_run 25 [] hR405 (by kernel_rfl) trivial (fun ρ406 w406 hm406 hR406 => ?_)
      have hag := hag.moved hm406
      have hbk := hbk.moved hm406
      refine sim_idx 3 0 4 4 3 1 (by kernel_rfl) (by omega) ?_
      refine sim_run 4 [] hR406 (by kernel_rfl) trivial (fun ρ407 w407 hm407 hR407 => ?_)
      have hag := hag.moved hm407
      have hbk := hbk.moved hm407
      refine sim_know 162 (mayM (setPrioM (keepM (holdM xs o.party (!(getM xs o.a).fst.held) [o.a]) o.party o.a) o.party o.a 2).fst o.party o.a != 3) false (by kernel_rfl) (by simp only [hold_code, may_hold, may_keep, may_prio, prio_code, hw]; rfl) ?_
      refine sim_run 28 [] hR407 (by kernel_rfl) trivial (fun ρ408 w408 hm408 hR408 => ?_)
      have hag := hag.moved hm408
      have hbk := hbk.moved hm408
      refine sim_call 20 [] (by kernel_rfl) ?_
      refine Calls.mono (alive14_any _) ?_
      rintro e409 w409 ⟨rfl, hb409⟩
      have hR409 := hR408.below hb409
      have hbk := hbk.below hb409
      refine Back.of (LB true) hR409 rfl ?_
      refine sim_run 7 [] hR409 (by kernel_rfl) trivial (fun ρ410 w410 hm410 hR410 => ?_)
      have hag := hag.moved hm410
      have hbk := hbk.moved hm410
      refine sim_ret (LB ((getM xs o.a).fst.id == (getM (setPartM (setPrioM (keepM (holdM xs o.party (!(getM xs o.a).fst.held) [o.a]) o.party o.a) o.party o.a 2).fst o.party o.a !(getM xs o.a).fst.part) o.a).fst.id && ((getM xs o.a).fst.term.party == (getM (setPartM (setPrioM (keepM (holdM xs o.party (!(getM xs o.a).fst.held) [o.a]) o.party o.a) o.party o.a 2).fst o.party o.a !(getM xs o.a).fst.part) o.a).fst.term.party && ((getM xs o.a).fst.term.account == (getM (setPartM (setPrioM (keepM (holdM xs o.party (!(getM xs o.a).fst.held) [o.a]) o.party o.a) o.party o.a 2).fst o.party o.a !(getM xs o.a).fst.part) o.a).fst.term.account && ((getM xs o.a).fst.term.money == (getM (setPartM (setPrioM (keepM (holdM xs o.party (!(getM xs o.a).fst.held) [o.a]) o.party o.a) o.party o.a 2).fst o.party o.a !(getM xs o.a).fst.part) o.a).fst.term.money && ((getM xs o.a).fst.term.other == (getM (setPartM (setPrioM (keepM (holdM xs o.party (!(getM xs o.a).fst.held) [o.a]) o.party o.a) o.party o.a 2).fst o.party o.a !(getM xs o.a).fst.part) o.a).fst.term.other && ((getM xs o.a).fst.term.deliver == (getM (setPartM (setPrioM (keepM (holdM xs o.party (!(getM xs o.a).fst.held) [o.a]) o.party o.a) o.party o.a 2).fst o.party o.a !(getM xs o.a).fst.part) o.a).fst.term.deliver && ((getM xs o.a).fst.term.asset == (getM (setPartM (setPrioM (keepM (holdM xs o.party (!(getM xs o.a).fst.held) [o.a]) o.party o.a) o.party o.a 2).fst o.party o.a !(getM xs o.a).fst.part) o.a).fst.term.asset && ((getM xs o.a).fst.term.ccy == (getM (setPartM (setPrioM (keepM (holdM xs o.party (!(getM xs o.a).fst.held) [o.a]) o.party o.a) o.party o.a 2).fst o.party o.a !(getM xs o.a).fst.part) o.a).fst.term.ccy && ((getM xs o.a).fst.term.ref == (getM (setPartM (setPrioM (keepM (holdM xs o.party (!(getM xs o.a).fst.held) [o.a]) o.party o.a) o.party o.a 2).fst o.party o.a !(getM xs o.a).fst.part) o.a).fst.term.ref && ((getM xs o.a).fst.term.qty == (getM (setPartM (setPrioM (keepM (holdM xs o.party (!(getM xs o.a).fst.held) [o.a]) o.party o.a) o.party o.a 2).fst o.party o.a !(getM xs o.a).fst.part) o.a).fst.term.qty && ((getM xs o.a).fst.term.amount == (getM (setPartM (setPrioM (keepM (holdM xs o.party (!(getM xs o.a).fst.held) [o.a]) o.party o.a) o.party o.a 2).fst o.party o.a !(getM xs o.a).fst.part) o.a).fst.term.amount && ((getM xs o.a).fst.term.day == (getM (setPartM (setPrioM (keepM (holdM xs o.party (!(getM xs o.a).fst.held) [o.a]) o.party o.a) o.party o.a 2).fst o.party o.a !(getM xs o.a).fst.part) o.a).fst.term.day && ((getM xs o.a).fst.term.trade == (getM (setPartM (setPrioM (keepM (holdM xs o.party (!(getM xs o.a).fst.held) [o.a]) o.party o.a) o.party o.a 2).fst o.party o.a !(getM xs o.a).fst.part) o.a).fst.term.trade && true))))))))))) && ((getM xs o.a).fst.prio == (getM (setPartM (setPrioM (keepM (holdM xs o.party (!(getM xs o.a).fst.held) [o.a]) o.party o.a) o.party o.a 2).fst o.party o.a !(getM xs o.a).fst.part) o.a).fst.prio && ((getM xs o.a).fst.part == (getM (setPartM (setPrioM (keepM (holdM xs o.party (!(getM xs o.a).fst.held) [o.a]) o.party o.a) o.party o.a 2).fst o.party o.a !(getM xs o.a).fst.part) o.a).fst.part && ((getM xs o.a).fst.held == (getM (setPartM (setPrioM (keepM (holdM xs o.party (!(getM xs o.a).fst.held) [o.a]) o.party o.a) o.party o.a 2).fst o.party o.a !(getM xs o.a).fst.part) o.a).fst.held && ((getM xs o.a).fst.wish == (getM (setPartM (setPrioM (keepM (holdM xs o.party (!(getM xs o.a).fst.held) [o.a]) o.party o.a) o.party o.a 2).fst o.party o.a !(getM xs o.a).fst.part) o.a).fst.wish && ((getM xs o.a).fst.state == (getM (setPartM (setPrioM (keepM (holdM xs o.party (!(getM xs o.a).fst.held) [o.a]) o.party o.a) o.party o.a 2).fst o.party o.a !(getM xs o.a).fst.part) o.a).fst.state && ((getM xs o.a).fst.mate == (getM (setPartM (setPrioM (keepM (holdM xs o.party (!(getM xs o.a).fst.held) [o.a]) o.party o.a) o.party o.a 2).fst o.party o.a !(getM xs o.a).fst.part) o.a).fst.mate && ((getM xs o.a).fst.done == (getM (setPartM (setPrioM (keepM (holdM xs o.party (!(getM xs o.a).fst.held) [o.a]) o.party o.a) o.party o.a 2).fst o.party o.a !(getM xs o.a).fst.part) o.a).fst.done && ((getM xs o.a).fst.paid == (getM (setPartM (setPrioM (keepM (holdM xs o.party (!(getM xs o.a).fst.held) [o.a]) o.party o.a) o.party o.a 2).fst o.party o.a !(getM xs o.a).fst.part) o.a).fst.paid && true))))))))))) hR410 (by kernel_rfl) (by kernel_rfl) ?_
      exact ⟨retv_bool (by rw [hy]; simp [ba_beq]), hR410.toBelow⟩
      
    · have hw : mayM xs o.party o.a = 22 := by
        have hob : ¬outB xs o.a := fun hob => by
          unfold getM at hq316
          rw [if_pos (by unfold outB at hob; exact hob)] at hq316
          exact absurd hq316 (by decide)
        rw [get_atI hob] at hq319
        unfold mayM
        rw [if_neg hob, if_pos hq319]
      have hy : getM (fourM xs o.party o.a (!(getM xs o.a).1.held) (!(getM xs o.a).1.part)) o.a = getM xs o.a := by rw [four_no (by rw [hw]; decide)]
      refine sim_unroll 6 (by kernel_rfl) ?_
      refine sim_run 17 [] hR320 (by kernel_rfl) trivial (fun ρ500 w500 hm500 hR500 => ?_)
      have hag := hag.moved hm500
      have hbk := hbk.moved hm500
      refine sim_idx 3 0 4 4 0 1 (by kernel_rfl) (by omega) ?_
      refine sim_run 4 [] hR500 (by kernel_rfl) trivial (fun ρ501 w501 hm501 hR501 => ?_)
      have hag := hag.moved hm501
      have hbk := hbk.moved hm501
      refine sim_know 162 (holdE xs o.party [o.a] != 22) false (by kernel_rfl) (by simp only [hold_code, may_hold, may_keep, may_prio, prio_code, hw]; rfl) ?_
      refine sim_run 25 [] hR501 (by kernel_rfl) trivial (fun ρ502 w502 hm502 hR502 => ?_)
      have hag := hag.moved hm502
      have hbk := hbk.moved hm502
      refine sim_idx 3 0 4 4 1 1 (by kernel_rfl) (by omega) ?_
      refine sim_run 4 [] hR502 (by kernel_rfl) trivial (fun ρ503 w503 hm503 hR503 => ?_)
      have hag := hag.moved hm503
      have hbk := hbk.moved hm503
      refine sim_know 162 (mayM (holdM xs o.party (!(getM xs o.a).fst.held) [o.a]) o.party o.a != 22) false (by kernel_rfl) (by simp only [hold_code, may_hold, may_keep, may_prio, prio_code, hw]; rfl) ?_
      refine sim_run 25 [] hR503 (by kernel_rfl) trivial (fun ρ504 w504 hm504 hR504 => ?_)
      have hag := hag.moved hm504
      have hbk := hbk.moved hm504
      refine sim_idx 3 0 4 4 2 1 (by kernel_rfl) (by omega) ?_
      refine sim_run 4 [] hR504 (by kernel_rfl) trivial (fun ρ505 w505 hm505 hR505 => ?_)
      have hag := hag.moved hm505
      have hbk := hbk.moved hm505
      refine sim_know 162 ((setPrioM (keepM (holdM xs o.party (!(getM xs o.a).fst.held) [o.a]) o.party o.a) o.party o.a 2).snd != 22) false (by kernel_rfl) (by simp only [hold_code, may_hold, may_keep, may_prio, prio_code, hw]; rfl) ?_
      refine sim_run 25 [] hR505 (by kernel_rfl) trivial (fun ρ506 w506 hm506 hR506 => ?_)
      have hag := hag.moved hm506
      have hbk := hbk.moved hm506
      refine sim_idx 3 0 4 4 3 1 (by kernel_rfl) (by omega) ?_
      refine sim_run 4 [] hR506 (by kernel_rfl) trivial (fun ρ507 w507 hm507 hR507 => ?_)
      have hag := hag.moved hm507
      have hbk := hbk.moved hm507
      refine sim_know 162 (mayM (setPrioM (keepM (holdM xs o.party (!(getM xs o.a).fst.held) [o.a]) o.party o.a) o.party o.a 2).fst o.party o.a != 22) false (by kernel_rfl) (by simp only [hold_code, may_hold, may_keep, may_prio, prio_code, hw]; rfl) ?_
      refine sim_run 28 [] hR507 (by kernel_rfl) trivial (fun ρ508 w508 hm508 hR508 => ?_)
      have hag := hag.moved hm508
      have hbk := hbk.moved hm508
      refine sim_call 20 [] (by kernel_rfl) ?_
      refine Calls.mono (alive14_any _) ?_
      rintro e509 w509 ⟨rfl, hb509⟩
      have hR509 := hR508.below hb509
      have hbk := hbk.below hb509
      refine Back.of (LB true) hR509 rfl ?_
      refine sim_run 7 [] hR509 (by kernel_rfl) trivial (fun ρ510 w510 hm510 hR510 => ?_)
      have hag := hag.moved hm510
      have hbk := hbk.moved hm510
      refine sim_ret (LB ((getM xs o.a).fst.id == (getM (setPartM (setPrioM (keepM (holdM xs o.party (!(getM xs o.a).fst.held) [o.a]) o.party o.a) o.party o.a 2).fst o.party o.a !(getM xs o.a).fst.part) o.a).fst.id && ((getM xs o.a).fst.term.party == (getM (setPartM (setPrioM (keepM (holdM xs o.party (!(getM xs o.a).fst.held) [o.a]) o.party o.a) o.party o.a 2).fst o.party o.a !(getM xs o.a).fst.part) o.a).fst.term.party && ((getM xs o.a).fst.term.account == (getM (setPartM (setPrioM (keepM (holdM xs o.party (!(getM xs o.a).fst.held) [o.a]) o.party o.a) o.party o.a 2).fst o.party o.a !(getM xs o.a).fst.part) o.a).fst.term.account && ((getM xs o.a).fst.term.money == (getM (setPartM (setPrioM (keepM (holdM xs o.party (!(getM xs o.a).fst.held) [o.a]) o.party o.a) o.party o.a 2).fst o.party o.a !(getM xs o.a).fst.part) o.a).fst.term.money && ((getM xs o.a).fst.term.other == (getM (setPartM (setPrioM (keepM (holdM xs o.party (!(getM xs o.a).fst.held) [o.a]) o.party o.a) o.party o.a 2).fst o.party o.a !(getM xs o.a).fst.part) o.a).fst.term.other && ((getM xs o.a).fst.term.deliver == (getM (setPartM (setPrioM (keepM (holdM xs o.party (!(getM xs o.a).fst.held) [o.a]) o.party o.a) o.party o.a 2).fst o.party o.a !(getM xs o.a).fst.part) o.a).fst.term.deliver && ((getM xs o.a).fst.term.asset == (getM (setPartM (setPrioM (keepM (holdM xs o.party (!(getM xs o.a).fst.held) [o.a]) o.party o.a) o.party o.a 2).fst o.party o.a !(getM xs o.a).fst.part) o.a).fst.term.asset && ((getM xs o.a).fst.term.ccy == (getM (setPartM (setPrioM (keepM (holdM xs o.party (!(getM xs o.a).fst.held) [o.a]) o.party o.a) o.party o.a 2).fst o.party o.a !(getM xs o.a).fst.part) o.a).fst.term.ccy && ((getM xs o.a).fst.term.ref == (getM (setPartM (setPrioM (keepM (holdM xs o.party (!(getM xs o.a).fst.held) [o.a]) o.party o.a) o.party o.a 2).fst o.party o.a !(getM xs o.a).fst.part) o.a).fst.term.ref && ((getM xs o.a).fst.term.qty == (getM (setPartM (setPrioM (keepM (holdM xs o.party (!(getM xs o.a).fst.held) [o.a]) o.party o.a) o.party o.a 2).fst o.party o.a !(getM xs o.a).fst.part) o.a).fst.term.qty && ((getM xs o.a).fst.term.amount == (getM (setPartM (setPrioM (keepM (holdM xs o.party (!(getM xs o.a).fst.held) [o.a]) o.party o.a) o.party o.a 2).fst o.party o.a !(getM xs o.a).fst.part) o.a).fst.term.amount && ((getM xs o.a).fst.term.day == (getM (setPartM (setPrioM (keepM (holdM xs o.party (!(getM xs o.a).fst.held) [o.a]) o.party o.a) o.party o.a 2).fst o.party o.a !(getM xs o.a).fst.part) o.a).fst.term.day && ((getM xs o.a).fst.term.trade == (getM (setPartM (setPrioM (keepM (holdM xs o.party (!(getM xs o.a).fst.held) [o.a]) o.party o.a) o.party o.a 2).fst o.party o.a !(getM xs o.a).fst.part) o.a).fst.term.trade && true))))))))))) && ((getM xs o.a).fst.prio == (getM (setPartM (setPrioM (keepM (holdM xs o.party (!(getM xs o.a).fst.held) [o.a]) o.party o.a) o.party o.a 2).fst o.party o.a !(getM xs o.a).fst.part) o.a).fst.prio && ((getM xs o.a).fst.part == (getM (setPartM (setPrioM (keepM (holdM xs o.party (!(getM xs o.a).fst.held) [o.a]) o.party o.a) o.party o.a 2).fst o.party o.a !(getM xs o.a).fst.part) o.a).fst.part && ((getM xs o.a).fst.held == (getM (setPartM (setPrioM (keepM (holdM xs o.party (!(getM xs o.a).fst.held) [o.a]) o.party o.a) o.party o.a 2).fst o.party o.a !(getM xs o.a).fst.part) o.a).fst.held && ((getM xs o.a).fst.wish == (getM (setPartM (setPrioM (keepM (holdM xs o.party (!(getM xs o.a).fst.held) [o.a]) o.party o.a) o.party o.a 2).fst o.party o.a !(getM xs o.a).fst.part) o.a).fst.wish && ((getM xs o.a).fst.state == (getM (setPartM (setPrioM (keepM (holdM xs o.party (!(getM xs o.a).fst.held) [o.a]) o.party o.a) o.party o.a 2).fst o.party o.a !(getM xs o.a).fst.part) o.a).fst.state && ((getM xs o.a).fst.mate == (getM (setPartM (setPrioM (keepM (holdM xs o.party (!(getM xs o.a).fst.held) [o.a]) o.party o.a) o.party o.a 2).fst o.party o.a !(getM xs o.a).fst.part) o.a).fst.mate && ((getM xs o.a).fst.done == (getM (setPartM (setPrioM (keepM (holdM xs o.party (!(getM xs o.a).fst.held) [o.a]) o.party o.a) o.party o.a 2).fst o.party o.a !(getM xs o.a).fst.part) o.a).fst.done && ((getM xs o.a).fst.paid == (getM (setPartM (setPrioM (keepM (holdM xs o.party (!(getM xs o.a).fst.held) [o.a]) o.party o.a) o.party o.a 2).fst o.party o.a !(getM xs o.a).fst.part) o.a).fst.paid && true))))))))))) hR510 (by kernel_rfl) (by kernel_rfl) ?_
      exact ⟨retv_bool (by rw [hy]; simp [ba_beq]), hR510.toBelow⟩
      
    · have hw : mayM xs o.party o.a = 20 := by
        have hob : ¬outB xs o.a := fun hob => by
          unfold getM at hq316
          rw [if_pos (by unfold outB at hob; exact hob)] at hq316
          exact absurd hq316 (by decide)
        rw [get_atI hob] at hq319 hq324
        have hop : openB (atI xs o.a).state = false := by
          cases e : openB (atI xs o.a).state with
          | false => rfl
          | true =>
            have := (openB_iff _).1 e
            simp at hq324
            omega
        unfold mayM
        rw [if_neg hob, if_neg (fun h => h hq319), if_pos hop]
      have hy : getM (fourM xs o.party o.a (!(getM xs o.a).1.held) (!(getM xs o.a).1.part)) o.a = getM xs o.a := by rw [four_no (by rw [hw]; decide)]
      refine sim_unroll 6 (by kernel_rfl) ?_
      refine sim_run 17 [] hR325 (by kernel_rfl) trivial (fun ρ600 w600 hm600 hR600 => ?_)
      have hag := hag.moved hm600
      have hbk := hbk.moved hm600
      refine sim_idx 3 0 4 4 0 1 (by kernel_rfl) (by omega) ?_
      refine sim_run 4 [] hR600 (by kernel_rfl) trivial (fun ρ601 w601 hm601 hR601 => ?_)
      have hag := hag.moved hm601
      have hbk := hbk.moved hm601
      refine sim_know 162 (holdE xs o.party [o.a] != 20) false (by kernel_rfl) (by simp only [hold_code, may_hold, may_keep, may_prio, prio_code, hw]; rfl) ?_
      refine sim_run 25 [] hR601 (by kernel_rfl) trivial (fun ρ602 w602 hm602 hR602 => ?_)
      have hag := hag.moved hm602
      have hbk := hbk.moved hm602
      refine sim_idx 3 0 4 4 1 1 (by kernel_rfl) (by omega) ?_
      refine sim_run 4 [] hR602 (by kernel_rfl) trivial (fun ρ603 w603 hm603 hR603 => ?_)
      have hag := hag.moved hm603
      have hbk := hbk.moved hm603
      refine sim_know 162 (mayM (holdM xs o.party (!(getM xs o.a).fst.held) [o.a]) o.party o.a != 20) false (by kernel_rfl) (by simp only [hold_code, may_hold, may_keep, may_prio, prio_code, hw]; rfl) ?_
      refine sim_run 25 [] hR603 (by kernel_rfl) trivial (fun ρ604 w604 hm604 hR604 => ?_)
      have hag := hag.moved hm604
      have hbk := hbk.moved hm604
      refine sim_idx 3 0 4 4 2 1 (by kernel_rfl) (by omega) ?_
      refine sim_run 4 [] hR604 (by kernel_rfl) trivial (fun ρ605 w605 hm605 hR605 => ?_)
      have hag := hag.moved hm605
      have hbk := hbk.moved hm605
      refine sim_know 162 ((setPrioM (keepM (holdM xs o.party (!(getM xs o.a).fst.held) [o.a]) o.party o.a) o.party o.a 2).snd != 20) false (by kernel_rfl) (by simp only [hold_code, may_hold, may_keep, may_prio, prio_code, hw]; rfl) ?_
      refine sim_run 25 [] hR605 (by kernel_rfl) trivial (fun ρ606 w606 hm606 hR606 => ?_)
      have hag := hag.moved hm606
      have hbk := hbk.moved hm606
      refine sim_idx 3 0 4 4 3 1 (by kernel_rfl) (by omega) ?_
      refine sim_run 4 [] hR606 (by kernel_rfl) trivial (fun ρ607 w607 hm607 hR607 => ?_)
      have hag := hag.moved hm607
      have hbk := hbk.moved hm607
      refine sim_know 162 (mayM (setPrioM (keepM (holdM xs o.party (!(getM xs o.a).fst.held) [o.a]) o.party o.a) o.party o.a 2).fst o.party o.a != 20) false (by kernel_rfl) (by simp only [hold_code, may_hold, may_keep, may_prio, prio_code, hw]; rfl) ?_
      refine sim_run 28 [] hR607 (by kernel_rfl) trivial (fun ρ608 w608 hm608 hR608 => ?_)
      have hag := hag.moved hm608
      have hbk := hbk.moved hm608
      refine sim_call 20 [] (by kernel_rfl) ?_
      refine Calls.mono (alive14_any _) ?_
      rintro e609 w609 ⟨rfl, hb609⟩
      have hR609 := hR608.below hb609
      have hbk := hbk.below hb609
      refine Back.of (LB true) hR609 rfl ?_
      refine sim_run 7 [] hR609 (by kernel_rfl) trivial (fun ρ610 w610 hm610 hR610 => ?_)
      have hag := hag.moved hm610
      have hbk := hbk.moved hm610
      refine sim_ret (LB ((getM xs o.a).fst.id == (getM (setPartM (setPrioM (keepM (holdM xs o.party (!(getM xs o.a).fst.held) [o.a]) o.party o.a) o.party o.a 2).fst o.party o.a !(getM xs o.a).fst.part) o.a).fst.id && ((getM xs o.a).fst.term.party == (getM (setPartM (setPrioM (keepM (holdM xs o.party (!(getM xs o.a).fst.held) [o.a]) o.party o.a) o.party o.a 2).fst o.party o.a !(getM xs o.a).fst.part) o.a).fst.term.party && ((getM xs o.a).fst.term.account == (getM (setPartM (setPrioM (keepM (holdM xs o.party (!(getM xs o.a).fst.held) [o.a]) o.party o.a) o.party o.a 2).fst o.party o.a !(getM xs o.a).fst.part) o.a).fst.term.account && ((getM xs o.a).fst.term.money == (getM (setPartM (setPrioM (keepM (holdM xs o.party (!(getM xs o.a).fst.held) [o.a]) o.party o.a) o.party o.a 2).fst o.party o.a !(getM xs o.a).fst.part) o.a).fst.term.money && ((getM xs o.a).fst.term.other == (getM (setPartM (setPrioM (keepM (holdM xs o.party (!(getM xs o.a).fst.held) [o.a]) o.party o.a) o.party o.a 2).fst o.party o.a !(getM xs o.a).fst.part) o.a).fst.term.other && ((getM xs o.a).fst.term.deliver == (getM (setPartM (setPrioM (keepM (holdM xs o.party (!(getM xs o.a).fst.held) [o.a]) o.party o.a) o.party o.a 2).fst o.party o.a !(getM xs o.a).fst.part) o.a).fst.term.deliver && ((getM xs o.a).fst.term.asset == (getM (setPartM (setPrioM (keepM (holdM xs o.party (!(getM xs o.a).fst.held) [o.a]) o.party o.a) o.party o.a 2).fst o.party o.a !(getM xs o.a).fst.part) o.a).fst.term.asset && ((getM xs o.a).fst.term.ccy == (getM (setPartM (setPrioM (keepM (holdM xs o.party (!(getM xs o.a).fst.held) [o.a]) o.party o.a) o.party o.a 2).fst o.party o.a !(getM xs o.a).fst.part) o.a).fst.term.ccy && ((getM xs o.a).fst.term.ref == (getM (setPartM (setPrioM (keepM (holdM xs o.party (!(getM xs o.a).fst.held) [o.a]) o.party o.a) o.party o.a 2).fst o.party o.a !(getM xs o.a).fst.part) o.a).fst.term.ref && ((getM xs o.a).fst.term.qty == (getM (setPartM (setPrioM (keepM (holdM xs o.party (!(getM xs o.a).fst.held) [o.a]) o.party o.a) o.party o.a 2).fst o.party o.a !(getM xs o.a).fst.part) o.a).fst.term.qty && ((getM xs o.a).fst.term.amount == (getM (setPartM (setPrioM (keepM (holdM xs o.party (!(getM xs o.a).fst.held) [o.a]) o.party o.a) o.party o.a 2).fst o.party o.a !(getM xs o.a).fst.part) o.a).fst.term.amount && ((getM xs o.a).fst.term.day == (getM (setPartM (setPrioM (keepM (holdM xs o.party (!(getM xs o.a).fst.held) [o.a]) o.party o.a) o.party o.a 2).fst o.party o.a !(getM xs o.a).fst.part) o.a).fst.term.day && ((getM xs o.a).fst.term.trade == (getM (setPartM (setPrioM (keepM (holdM xs o.party (!(getM xs o.a).fst.held) [o.a]) o.party o.a) o.party o.a 2).fst o.party o.a !(getM xs o.a).fst.part) o.a).fst.term.trade && true))))))))))) && ((getM xs o.a).fst.prio == (getM (setPartM (setPrioM (keepM (holdM xs o.party (!(getM xs o.a).fst.held) [o.a]) o.party o.a) o.party o.a 2).fst o.party o.a !(getM xs o.a).fst.part) o.a).fst.prio && ((getM xs o.a).fst.part == (getM (setPartM (setPrioM (keepM (holdM xs o.party (!(getM xs o.a).fst.held) [o.a]) o.party o.a) o.party o.a 2).fst o.party o.a !(getM xs o.a).fst.part) o.a).fst.part && ((getM xs o.a).fst.held == (getM (setPartM (setPrioM (keepM (holdM xs o.party (!(getM xs o.a).fst.held) [o.a]) o.party o.a) o.party o.a 2).fst o.party o.a !(getM xs o.a).fst.part) o.a).fst.held && ((getM xs o.a).fst.wish == (getM (setPartM (setPrioM (keepM (holdM xs o.party (!(getM xs o.a).fst.held) [o.a]) o.party o.a) o.party o.a 2).fst o.party o.a !(getM xs o.a).fst.part) o.a).fst.wish && ((getM xs o.a).fst.state == (getM (setPartM (setPrioM (keepM (holdM xs o.party (!(getM xs o.a).fst.held) [o.a]) o.party o.a) o.party o.a 2).fst o.party o.a !(getM xs o.a).fst.part) o.a).fst.state && ((getM xs o.a).fst.mate == (getM (setPartM (setPrioM (keepM (holdM xs o.party (!(getM xs o.a).fst.held) [o.a]) o.party o.a) o.party o.a 2).fst o.party o.a !(getM xs o.a).fst.part) o.a).fst.mate && ((getM xs o.a).fst.done == (getM (setPartM (setPrioM (keepM (holdM xs o.party (!(getM xs o.a).fst.held) [o.a]) o.party o.a) o.party o.a 2).fst o.party o.a !(getM xs o.a).fst.part) o.a).fst.done && ((getM xs o.a).fst.paid == (getM (setPartM (setPrioM (keepM (holdM xs o.party (!(getM xs o.a).fst.held) [o.a]) o.party o.a) o.party o.a 2).fst o.party o.a !(getM xs o.a).fst.part) o.a).fst.paid && true))))))))))) hR610 (by kernel_rfl) (by kernel_rfl) ?_
      exact ⟨retv_bool (by rw [hy]; simp [ba_beq]), hR610.toBelow⟩
      
    · have hw : mayM xs o.party o.a = 0 := by
        have hob : ¬outB xs o.a := fun hob => by
          unfold getM at hq316
          rw [if_pos (by unfold outB at hob; exact hob)] at hq316
          exact absurd hq316 (by decide)
        rw [get_atI hob] at hq319 hq324
        have hop : openB (atI xs o.a).state = true := by
          refine (openB_iff _).2 ?_
          simp at hq324
          omega
        unfold mayM
        rw [if_neg hob, if_neg (fun h => h hq319), if_neg (by rw [hop]; decide)]
      have hx1 : getM xs o.a = (atI xs o.a, 0) := get_atI (may_in hw)
      have hy : getM (fourM xs o.party o.a (!(getM xs o.a).1.held) (!(getM xs o.a).1.part)) o.a = ({ atI xs o.a with held := !(getM xs o.a).1.held, wish := false, prio := 2, part := !(getM xs o.a).1.part }, 0) := four_yes hw
      refine sim_unroll 6 (by kernel_rfl) ?_
      refine sim_run 17 [] hR326 (by kernel_rfl) trivial (fun ρ700 w700 hm700 hR700 => ?_)
      have hag := hag.moved hm700
      have hbk := hbk.moved hm700
      refine sim_idx 3 0 4 4 0 1 (by kernel_rfl) (by omega) ?_
      refine sim_run 4 [] hR700 (by kernel_rfl) trivial (fun ρ701 w701 hm701 hR701 => ?_)
      have hag := hag.moved hm701
      have hbk := hbk.moved hm701
      refine sim_know 162 (holdE xs o.party [o.a] != 0) false (by kernel_rfl) (by simp only [hold_code, may_hold, may_keep, may_prio, prio_code, hw]; rfl) ?_
      refine sim_run 25 [] hR701 (by kernel_rfl) trivial (fun ρ702 w702 hm702 hR702 => ?_)
      have hag := hag.moved hm702
      have hbk := hbk.moved hm702
      refine sim_idx 3 0 4 4 1 1 (by kernel_rfl) (by omega) ?_
      refine sim_run 4 [] hR702 (by kernel_rfl) trivial (fun ρ703 w703 hm703 hR703 => ?_)
      have hag := hag.moved hm703
      have hbk := hbk.moved hm703
      refine sim_know 162 (mayM (holdM xs o.party (!(getM xs o.a).fst.held) [o.a]) o.party o.a != 0) false (by kernel_rfl) (by simp only [hold_code, may_hold, may_keep, may_prio, prio_code, hw]; rfl) ?_
      refine sim_run 25 [] hR703 (by kernel_rfl) trivial (fun ρ704 w704 hm704 hR704 => ?_)
      have hag := hag.moved hm704
      have hbk := hbk.moved hm704
      refine sim_idx 3 0 4 4 2 1 (by kernel_rfl) (by omega) ?_
      refine sim_run 4 [] hR704 (by kernel_rfl) trivial (fun ρ705 w705 hm705 hR705 => ?_)
      have hag := hag.moved hm705
      have hbk := hbk.moved hm705
      refine sim_know 162 ((setPrioM (keepM (holdM xs o.party (!(getM xs o.a).fst.held) [o.a]) o.party o.a) o.party o.a 2).snd != 0) false (by kernel_rfl) (by simp only [hold_code, may_hold, may_keep, may_prio, prio_code, hw]; rfl) ?_
      refine sim_run 25 [] hR705 (by kernel_rfl) trivial (fun ρ706 w706 hm706 hR706 => ?_)
      have hag := hag.moved hm706
      have hbk := hbk.moved hm706
      refine sim_idx 3 0 4 4 3 1 (by kernel_rfl) (by omega) ?_
      refine sim_run 4 [] hR706 (by kernel_rfl) trivial (fun ρ707 w707 hm707 hR707 => ?_)
      have hag := hag.moved hm707
      have hbk := hbk.moved hm707
      refine sim_know 162 (mayM (setPrioM (keepM (holdM xs o.party (!(getM xs o.a).fst.held) [o.a]) o.party o.a) o.party o.a 2).fst o.party o.a != 0) false (by kernel_rfl) (by simp only [hold_code, may_hold, may_keep, may_prio, prio_code, hw]; rfl) ?_
      refine sim_run 29 [] hR707 (by kernel_rfl) trivial (fun ρ708 w708 hm708 hR708 => ?_)
      have hag := hag.moved hm708
      have hbk := hbk.moved hm708
      refine sim_call 20 [] (by kernel_rfl) ?_
      refine Calls.mono (alive14_any _) ?_
      rintro e709 w709 ⟨rfl, hb709⟩
      have hR709 := hR708.below hb709
      have hbk := hbk.below hb709
      refine Back.of (LB true) hR709 rfl ?_
      refine sim_run 8 [] hR709 (by kernel_rfl) trivial (fun ρ710 w710 hm710 hR710 => ?_)
      have hag := hag.moved hm710
      have hbk := hbk.moved hm710
      refine sim_know 179 (!(getM (setPartM (setPrioM (keepM (holdM xs o.party (!(getM xs o.a).fst.held) [o.a]) o.party o.a) o.party o.a 2).fst o.party o.a !(getM xs o.a).fst.part) o.a).fst.held == (getM xs o.a).fst.held) true (by kernel_rfl) (by rw [hy]; simp) ?_
      refine sim_run 7 [] hR710 (by kernel_rfl) trivial (fun ρ711 w711 hm711 hR711 => ?_)
      have hag := hag.moved hm711
      have hbk := hbk.moved hm711
      refine sim_know 186 (!(getM (setPartM (setPrioM (keepM (holdM xs o.party (!(getM xs o.a).fst.held) [o.a]) o.party o.a) o.party o.a 2).fst o.party o.a !(getM xs o.a).fst.part) o.a).fst.part == (getM xs o.a).fst.part) true (by kernel_rfl) (by rw [hy]; simp) ?_
      refine sim_run 5 [] hR711 (by kernel_rfl) trivial (fun ρ712 w712 hm712 hR712 => ?_)
      have hag := hag.moved hm712
      have hbk := hbk.moved hm712
      refine sim_know 191 ((getM (setPartM (setPrioM (keepM (holdM xs o.party (!(getM xs o.a).fst.held) [o.a]) o.party o.a) o.party o.a 2).fst o.party o.a !(getM xs o.a).fst.part) o.a).fst.prio == 2) true (by kernel_rfl) (by rw [hy]; simp) ?_
      refine sim_run 5 [] hR712 (by kernel_rfl) trivial (fun ρ713 w713 hm713 hR713 => ?_)
      have hag := hag.moved hm713
      have hbk := hbk.moved hm713
      refine sim_know 196 (!(getM (setPartM (setPrioM (keepM (holdM xs o.party (!(getM xs o.a).fst.held) [o.a]) o.party o.a) o.party o.a 2).fst o.party o.a !(getM xs o.a).fst.part) o.a).fst.wish) true (by kernel_rfl) (by rw [hy]; simp) ?_
      refine sim_run 8 [] hR713 (by kernel_rfl) trivial (fun ρ714 w714 hm714 hR714 => ?_)
      have hag := hag.moved hm714
      have hbk := hbk.moved hm714
      refine sim_ret (LB ((getM (setPartM (setPrioM (keepM (holdM xs o.party (!(getM xs o.a).fst.held) [o.a]) o.party o.a) o.party o.a 2).fst o.party o.a !(getM xs o.a).fst.part) o.a).fst.state == (getM xs o.a).fst.state)) hR714 (by kernel_rfl) (by kernel_rfl) ?_
      exact ⟨retv_bool (by rw [hy, hx1]; simp), hR714.toBelow⟩
      
end Go.Proofs.Ytodjhkmbgennaaa
