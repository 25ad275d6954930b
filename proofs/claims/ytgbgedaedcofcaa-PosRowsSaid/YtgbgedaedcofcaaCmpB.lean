/-
  The document's own order of texts is the order of bytes; complineref8.Before is the order of keys.
-/
import Derived.Test.YtgbgedaedcofcaaCmpS
namespace Go.Proofs.Ytgbgedaedcofcaa
open Go Go.RowKit

def idxB (P : Program) (t : List LV) (o : Oper) : Option (ByteArray × Int) := match o.op with
  | .index ty x ix => match evalL t x, evalL t ix, P.underlying ty with
    | .v (.string s), .v (.int .i64 i), some .string => some (s, i)
    | _, _, _ => none
  | _ => none
def idxBO (P : Program) (c : OCfg) := (topQ c).bind (idxB P c.tmps)
theorem idxB_run {P : Program} {ρ : Nm} {tmps : List LV} {o : Oper} {s : ByteArray} {k : Nat} {u : UInt8} (h : idxB P tmps o = some (s, (k : Int))) (hu : s[k]? = some u) (w : World) : (execOp (act ρ tmps).eval o).run P w = .ok (.value (.int .u8 u.toNat)) w := by
  unfold idxB at h
  split at h
  · rename_i ty x ix hop
    split at h
    · rename_i s' i h1 h2 h3
      simp only [Option.some.injEq, Prod.mk.injEq] at h
      obtain ⟨rfl, rfl⟩ := h
      unfold execOp
      simp [hop, act_eval, h1, h2, LV.den, Instr.index, asIntOf, run_underlying h3, hu]
    · cases h
  · cases h
theorem sim_ord_byte {P : Program} {Q : Exit → Act → World → Prop} {T : List Nat} {w0 w : World} {ρ ρs : Nm} {c : OCfg} (s : ByteArray) (k : Nat) (u : UInt8) (h : idxBO P c = some (s, (k : Int))) (hu : s[k]? = some u) (hR : RelO T w0 c ρs ρ w)
    (next : RelO T w0 (nextO c (.v (.int .u8 u.toNat)) c.rs) ρs ρ w → AtO P Q (nextO c (.v (.int .u8 u.toNat)) c.rs) ρs ρ w) : AtO P Q c ρs ρ w := by
  obtain ⟨o, ho, h2⟩ := Option.bind_eq_some_iff.1 h
  exact sim_ord_pure o ho (.v (.int .u8 u.toNat)) hR (fun w' _ => idxB_run h2 hu w') next

theorem bl_at : ∀ (k : Nat) (a b : List UInt8) (u v : UInt8), a.take k = b.take k → a[k]? = some u → b[k]? = some v → u < v → Op.bytesLess a b = true
  | 0, _ :: _, _ :: _, u, v, _, ha, hb, h => by
    simp only [List.getElem?_cons_zero, Option.some.injEq] at ha hb
    subst ha
    subst hb
    simp [Op.bytesLess, h]
  | k + 1, x :: a, y :: b, u, v, he, ha, hb, h => by
    simp only [List.take_succ_cons, List.cons.injEq] at he
    simp only [List.getElem?_cons_succ] at ha hb
    simp [Op.bytesLess, he.1, bl_at k a b u v he.2 ha hb h]
  | 0, [], _, _, _, _, ha, _, _ => by simp at ha
  | 0, _, [], _, _, _, _, hb, _ => by simp at hb
  | _ + 1, [], _, _, _, _, ha, _, _ => by simp at ha
  | _ + 1, _, [], _, _, _, _, hb, _ => by simp at hb
theorem bl_short : ∀ (a b : List UInt8), a = b.take a.length → a.length < b.length → Op.bytesLess a b = true
  | [], _ :: _, _, _ => rfl
  | [], [], _, h => by simp at h
  | _ :: _, [], _, h => by simp at h
  | x :: a, y :: b, he, h => by
    simp only [List.length_cons, List.take_succ_cons, List.cons.injEq] at he
    simp only [List.length_cons] at h
    simp [Op.bytesLess, he.1, bl_short a b he.2 (by omega)]
theorem ba_get {a : ByteArray} {k : Nat} {u : UInt8} (h : a[k]? = some u) : a.toList[k]? = some u := by
  obtain ⟨h1, h2⟩ := getElem?_eq_some_iff.1 h
  rw [ByteArray.toList_eq]
  rw [← h2]
  exact getElem?_pos a.data.toList k (by simpa using h1)
theorem ba_len (a : ByteArray) : a.toList.length = a.size := by rw [ByteArray.toList_eq]; simp
theorem ltS_at {a b : ByteArray} {k : Nat} {u v : UInt8} (hk : a.toList.take k = b.toList.take k) (ha : a[k]? = some u) (hb : b[k]? = some v) (h : (u.toNat : Int) < v.toNat) : ltS a b = true :=
  bl_at k _ _ u v hk (ba_get ha) (ba_get hb) (by rw [UInt8.lt_iff_toNat_lt]; omega)
theorem ltS_short {a b : ByteArray} {k : Nat} (hk : a.toList.take k = b.toList.take k) (ha : a.size = k) (hb : k < b.size) : ltS a b = true := by
  have h1 := ba_len a
  have h2 := ba_len b
  refine bl_short _ _ ?_ (by omega)
  rw [h1, ha, ← hk, ← ha, ← h1, List.take_length]
theorem ltS_all {a b : ByteArray} {k : Nat} (hk : a.toList.take k = b.toList.take k) (ha : a.size = k) (hb : b.size = k) : a = b := by
  have h1 := ba_len a
  have h2 := ba_len b
  have h : a.toList = b.toList := by
    have e1 : a.toList.take k = a.toList := by rw [← ha, ← h1, List.take_length]
    have e2 : b.toList.take k = b.toList := by rw [← hb, ← h2, List.take_length]
    rw [← e1, ← e2, hk]
  cases a; cases b; simp_all [ByteArray.toList_eq]
theorem cmpS_lt1 {a b : ByteArray} (h : ltS a b = true) : cmpS a b = -1 := if_pos h
theorem cmpS_gt1 {a b : ByteArray} (h : ltS b a = true) : cmpS a b = 1 := by
  have h1 : ltS a b = false := by
    cases hc : ltS a b with
    | false => rfl
    | true => have := ltS_trans h hc; rw [ltS_irrefl] at this; cases this
  unfold cmpS
  rw [h1, h]
  rfl
theorem cmpS_self1 (a : ByteArray) : cmpS a a = 0 := by
  unfold cmpS
  rw [ltS_irrefl]
  rfl
theorem cmpS_neg (a b : ByteArray) : (cmpS a b < 0) = (ltS a b = true) := by
  unfold cmpS
  cases h : ltS a b with
  | true => simp
  | false => cases h2 : ltS b a <;> simp
theorem cmpS_z (a b : ByteArray) : (cmpS a b = 0) = (a = b) := by
  unfold cmpS
  cases h : ltS a b with
  | true =>
    have : a ≠ b := fun e => by rw [e, ltS_irrefl] at h; cases h
    simp [this]
  | false =>
    cases h2 : ltS b a with
    | true =>
      have : a ≠ b := fun e => by rw [e, ltS_irrefl] at h2; cases h2
      simp [this]
    | false => simp [ltS_total h h2]
attribute [local irreducible] run goO leaveK someK nextK nextT nextOT nextOD loopBody loopRest loopK fillJ tmplOf tmplJ mergeT At AtO drawOk ordOf gateOf callC callO topOp topO idxOf appOf storeOf clearOf sliceOf calleeOf calleeO topQ idxQ newRowOf resL stepOp seek
set_option maxRecDepth 100000 in
set_option maxHeartbeats 4000000 in
theorem refCompare_any (a b : ByteArray) (w : World) (hm : a.size ≤ 9223372036854775807) : Calls Try.prog 40 #[.string a, .string b] w fun e w' => e = .returned (.int .i64 (cmpS a b)) ∧ Below w.heap.size w w' := by
  refine sim_enter Try.func40 ρ0 [LS a, LS b] [] (by kernel_rfl) rfl ?_
  have hR := Rel.start [] w ρ0
  refine sim_run 10 [] (hR.cast (by kernel_rfl)) (by kernel_rfl) trivial (fun ρ100 w100 hm100 hR100 => ?_)
  
  refine sim_loop (ι := Nat) (T := []) (w0 := w) 0 [0, 1] (fun k => [(5, LI k)]) (fun _ => []) (fun k w1 => k ≤ a.size ∧ k ≤ b.size ∧ a.toList.take k = b.toList.take k) (fun k => a.size - k) (by kernel_rfl) (by kernel_rfl) ((by assumption : Rel _ _ _ _ _).cast (by kernel_rfl)) ⟨Nat.zero_le _, Nat.zero_le _, rfl⟩ ?_
  rintro k d w2 hR2 ⟨ha, hb, hk⟩
  by_cases h1 : k < a.size ∧ k < b.size
  · obtain ⟨h1, h2⟩ := h1
    obtain ⟨u, hu⟩ : ∃ u, a[k]? = some u := ⟨_, getElem?_pos a k h1⟩
    obtain ⟨v, hv⟩ : ∃ v, b[k]? = some v := ⟨_, getElem?_pos b k h2⟩
    have hag := hR2.ag_ 0 (by kernel_rfl)
    refine sim_run 8 [] (hR2.cast (by kernel_rfl)) (by kernel_rfl) trivial (fun ρ200 w200 hm200 hR200 => ?_)
    have hag := hag.moved (hm200.castL (by kernel_rfl))
    refine sim_know 10 (decide ((↑k : Int) < (↑a.size : Int))) true (by kernel_rfl) (decide_eq_true (by omega)) ?_
    refine sim_run 6 [] (hR200.cast (by kernel_rfl)) (by kernel_rfl) trivial (fun ρ201 w201 hm201 hR201 => ?_)
    have hag := hag.moved (hm201.castL (by kernel_rfl))
    refine sim_know 15 (decide ((↑k : Int) < (↑b.size : Int))) true (by kernel_rfl) (decide_eq_true (by omega)) ?_
    refine sim_run 6 [] (hR201.cast (by kernel_rfl)) (by kernel_rfl) trivial (fun ρ202 w202 hm202 hR202 => ?_)
    have hag := hag.moved (hm202.castL (by kernel_rfl))
    refine sim_draw [] (by kernel_rfl) (by kernel_rfl) hR202 (fun hR203 => ?_)
    refine sim_ordN 2 [] hR203 (by kernel_rfl) trivial (fun ρ204 w204 hm204 hR204 => ?_)
    have hag := hag.moved (hm204.castL (by kernel_rfl))
    refine sim_ord_byte a k u (by kernel_rfl) hu hR204 (fun hR205 => ?_)
    refine sim_ordN 2 [] hR205 (by kernel_rfl) trivial (fun ρ206 w206 hm206 hR206 => ?_)
    have hag := hag.moved (hm206.castL (by kernel_rfl))
    refine sim_ord_byte b k v (by kernel_rfl) hv hR206 (fun hR208 => ?_)
    refine sim_ordN 1 [] hR208 (by kernel_rfl) trivial (fun ρ209 w209 hm209 hR209 => ?_)
    have hag := hag.moved (hm209.castL (by kernel_rfl))
    refine sim_ord_endR hR209 (by kernel_rfl) (fun hR210 => ?_)
    refine sim_fork 24 (decide ((↑u.toNat : Int) < (↑v.toNat : Int))) (by kernel_rfl) (fun hq211 => ?_) (fun hq211 => ?_)
    have hq211 := of_decide_eq_true hq211
    refine sim_run 5 [] (hR210.cast (by kernel_rfl)) (by kernel_rfl) trivial (fun ρ212 w212 hm212 hR212 => ?_)
    have hag := hag.moved (hm212.castL (by kernel_rfl))
    refine sim_ret (LI (-1)) hR212 (by kernel_rfl) (by kernel_rfl) ?_
    rotate_left
    have hq211 := of_decide_eq_false hq211
    refine sim_run 3 [] (hR210.cast (by kernel_rfl)) (by kernel_rfl) trivial (fun ρ213 w213 hm213 hR213 => ?_)
    have hag := hag.moved (hm213.castL (by kernel_rfl))
    refine sim_draw [] (by kernel_rfl) (by kernel_rfl) hR213 (fun hR214 => ?_)
    refine sim_ordN 2 [] hR214 (by kernel_rfl) trivial (fun ρ215 w215 hm215 hR215 => ?_)
    have hag := hag.moved (hm215.castL (by kernel_rfl))
    refine sim_ord_byte a k u (by kernel_rfl) hu hR215 (fun hR216 => ?_)
    refine sim_ordN 2 [] hR216 (by kernel_rfl) trivial (fun ρ217 w217 hm217 hR217 => ?_)
    have hag := hag.moved (hm217.castL (by kernel_rfl))
    refine sim_ord_byte b k v (by kernel_rfl) hv hR217 (fun hR219 => ?_)
    refine sim_ordN 1 [] hR219 (by kernel_rfl) trivial (fun ρ220 w220 hm220 hR220 => ?_)
    have hag := hag.moved (hm220.castL (by kernel_rfl))
    refine sim_ord_endR hR220 (by kernel_rfl) (fun hR221 => ?_)
    refine sim_fork 31 (decide ((↑u.toNat : Int) > (↑v.toNat : Int))) (by kernel_rfl) (fun hq222 => ?_) (fun hq222 => ?_)
    have hq222 := of_decide_eq_true hq222
    refine sim_run 5 [] (hR221.cast (by kernel_rfl)) (by kernel_rfl) trivial (fun ρ223 w223 hm223 hR223 => ?_)
    have hag := hag.moved (hm223.castL (by kernel_rfl))
    refine sim_ret (LI 1) hR223 (by kernel_rfl) (by kernel_rfl) ?_
    rotate_left
    have hq222 := of_decide_eq_false hq222
    refine sim_run 8 [⟨3, 1, LI (IntKind.i64.wrap ((↑k : Int) + 1)), LI ((↑k : Int) + 1)⟩] (hR221.cast (by kernel_rfl)) (by kernel_rfl) ⟨eqi (IntWalk.i64_in _ (by omega)), trivial⟩ (fun ρ224 w224 hm224 hR224 => ?_)
    have hag := hag.moved (hm224.castL (by kernel_rfl))
    rotate_left
    
    · rw [cmpS_lt1 (ltS_at hk hu hv hq211)]
      exact ⟨rfl, ((by assumption : Rel _ _ _ _ _)).toBelow⟩
    · rw [cmpS_gt1 (ltS_at hk.symm hv hu hq222)]
      exact ⟨rfl, ((by assumption : Rel _ _ _ _ _)).toBelow⟩
    · have huv : u = v := UInt8.toNat_inj.1 (by omega)
      refine sim_again (k + 1) (by kernel_rfl) (by show a.size - (k + 1) < a.size - k; omega) (by kernel_rfl) (by kernel_rfl) (by kernel_rfl) hag.ag (Rel.cast (by assumption) (by kernel_rfl)) (by kernel_rfl) (by kernel_rfl) ⟨h1, h2, ?_⟩
      rw [List.take_add_one, List.take_add_one, hk, ba_get hu, ba_get hv, huv]
  · by_cases h3 : k < a.size
    · refine sim_run 8 [] (hR2.cast (by kernel_rfl)) (by kernel_rfl) trivial (fun ρ300 w300 hm300 hR300 => ?_)
      refine sim_know 10 (decide ((↑k : Int) < (↑a.size : Int))) true (by kernel_rfl) (decide_eq_true (by omega)) ?_
      refine sim_run 6 [] (hR300.cast (by kernel_rfl)) (by kernel_rfl) trivial (fun ρ301 w301 hm301 hR301 => ?_)
      refine sim_know 15 (decide ((↑k : Int) < (↑b.size : Int))) false (by kernel_rfl) (decide_eq_false (by omega)) ?_
      refine sim_run 1 [] (hR301.cast (by kernel_rfl)) (by kernel_rfl) trivial (fun ρ302 w302 hm302 hR302 => ?_)
      refine sim_leave (by kernel_rfl) ?_
      refine sim_run 9 [] (hR302.cast (by kernel_rfl)) (by kernel_rfl) trivial (fun ρ303 w303 hm303 hR303 => ?_)
      refine sim_know 36 (decide ((↑a.size : Int) < (↑b.size : Int))) false (by kernel_rfl) (decide_eq_false (by omega)) ?_
      refine sim_run 11 [] (hR303.cast (by kernel_rfl)) (by kernel_rfl) trivial (fun ρ304 w304 hm304 hR304 => ?_)
      refine sim_know 41 (decide ((↑a.size : Int) > (↑b.size : Int))) true (by kernel_rfl) (decide_eq_true (by omega)) ?_
      refine sim_run 5 [] (hR304.cast (by kernel_rfl)) (by kernel_rfl) trivial (fun ρ305 w305 hm305 hR305 => ?_)
      refine sim_ret (LI 1) hR305 (by kernel_rfl) (by kernel_rfl) ?_
      
      rw [cmpS_gt1 (ltS_short hk.symm (by omega) h3)]
      exact ⟨rfl, ((by assumption : Rel _ _ _ _ _)).toBelow⟩
    · refine sim_run 8 [] (hR2.cast (by kernel_rfl)) (by kernel_rfl) trivial (fun ρ400 w400 hm400 hR400 => ?_)
      refine sim_know 10 (decide ((↑k : Int) < (↑a.size : Int))) false (by kernel_rfl) (decide_eq_false (by omega)) ?_
      refine sim_run 7 [] (hR400.cast (by kernel_rfl)) (by kernel_rfl) trivial (fun ρ401 w401 hm401 hR401 => ?_)
      refine sim_leave (by kernel_rfl) ?_
      refine sim_run 9 [] (hR401.cast (by kernel_rfl)) (by kernel_rfl) trivial (fun ρ402 w402 hm402 hR402 => ?_)
      refine sim_fork 36 (decide ((↑a.size : Int) < (↑b.size : Int))) (by kernel_rfl) (fun hq403 => ?_) (fun hq403 => ?_)
      have hq403 := of_decide_eq_true hq403
      refine sim_run 5 [] (hR402.cast (by kernel_rfl)) (by kernel_rfl) trivial (fun ρ404 w404 hm404 hR404 => ?_)
      refine sim_ret (LI (-1)) hR404 (by kernel_rfl) (by kernel_rfl) ?_
      rotate_left
      have hq403 := of_decide_eq_false hq403
      refine sim_run 11 [] (hR402.cast (by kernel_rfl)) (by kernel_rfl) trivial (fun ρ405 w405 hm405 hR405 => ?_)
      refine sim_know 41 (decide ((↑a.size : Int) > (↑b.size : Int))) false (by kernel_rfl) (decide_eq_false (by omega)) ?_
      refine sim_run 6 [] (hR405.cast (by kernel_rfl)) (by kernel_rfl) trivial (fun ρ406 w406 hm406 hR406 => ?_)
      refine sim_ret (LI 0) hR406 (by kernel_rfl) (by kernel_rfl) ?_
      rotate_left
      
      · rw [cmpS_lt1 (ltS_short hk (by omega) (by omega))]
        exact ⟨rfl, ((by assumption : Rel _ _ _ _ _)).toBelow⟩
      · rw [ltS_all hk (by omega) (by omega), cmpS_self1]
        exact ⟨rfl, ((by assumption : Rel _ _ _ _ _)).toBelow⟩
set_option maxRecDepth 100000 in
set_option maxHeartbeats 4000000 in
theorem refBefore_any (a1 a2 b1 b2 : ByteArray) (w : World) (h1 : a1.size ≤ 9223372036854775807) (h2 : a2.size ≤ 9223372036854775807) : Calls Try.prog 20 #[.agg #[.string a1, .string a2], .agg #[.string b1, .string b2]] w fun e w' => e = .returned (.bool (ltS a1 b1 || (decide (a1 = b1) && ltS a2 b2))) ∧ Below w.heap.size w w' := by
  refine sim_enter Try.func20 ρ0 [.agg [LS a1, LS a2], .agg [LS b1, LS b2]] [] (by kernel_rfl) rfl ?_
  have hR := Rel.start [] w ρ0
  refine sim_run 12 [] (hR.cast (by kernel_rfl)) (by kernel_rfl) trivial (fun ρ500 w500 hm500 hR500 => ?_)
  refine sim_call 40 [LS a1, LS b1] (by kernel_rfl) ?_
  refine Calls.mono (refCompare_any _ _ _ (by assumption)) ?_
  rintro e501 w501 ⟨rfl, hb501⟩
  have hR501 := hR500.below hb501
  refine Back.of (LI (cmpS a1 b1)) hR501 rfl ?_
  refine sim_run 7 [] (hR501.cast (by kernel_rfl)) (by kernel_rfl) trivial (fun ρ502 w502 hm502 hR502 => ?_)
  refine sim_fork 13 (decide (cmpS a1 b1 < 0)) (by kernel_rfl) (fun hq503 => ?_) (fun hq503 => ?_)
  have hq503 := of_decide_eq_true hq503
  refine sim_run 13 [] (hR502.cast (by kernel_rfl)) (by kernel_rfl) trivial (fun ρ504 w504 hm504 hR504 => ?_)
  refine sim_ret (LB true) hR504 (by kernel_rfl) (by kernel_rfl) ?_
  rotate_left
  have hq503 := of_decide_eq_false hq503
  refine sim_run 3 [] (hR502.cast (by kernel_rfl)) (by kernel_rfl) trivial (fun ρ505 w505 hm505 hR505 => ?_)
  refine sim_fork 16 (cmpS a1 b1 == 0) (by kernel_rfl) (fun hq506 => ?_) (fun hq506 => ?_)
  have hq506 := of_decide_eq_true hq506
  refine sim_run 4 [] (hR505.cast (by kernel_rfl)) (by kernel_rfl) trivial (fun ρ507 w507 hm507 hR507 => ?_)
  refine sim_call 40 [LS a2, LS b2] (by kernel_rfl) ?_
  refine Calls.mono (refCompare_any _ _ _ (by assumption)) ?_
  rintro e508 w508 ⟨rfl, hb508⟩
  have hR508 := hR507.below hb508
  refine Back.of (LI (cmpS a2 b2)) hR508 rfl ?_
  refine sim_run 5 [] (hR508.cast (by kernel_rfl)) (by kernel_rfl) trivial (fun ρ509 w509 hm509 hR509 => ?_)
  refine sim_ret (LB (decide (cmpS a2 b2 < 0))) hR509 (by kernel_rfl) (by kernel_rfl) ?_
  rotate_left
  have hq506 := of_decide_eq_false hq506
  refine sim_run 10 [] (hR505.cast (by kernel_rfl)) (by kernel_rfl) trivial (fun ρ510 w510 hm510 hR510 => ?_)
  refine sim_ret (LB false) hR510 (by kernel_rfl) (by kernel_rfl) ?_
  rotate_left
  
  · rw [cmpS_neg] at hq503
    exact ⟨by rw [hq503]; rfl, ((by assumption : Rel _ _ _ _ _)).toBelow⟩
  · have hlt : ltS a1 b1 = false := by
      cases hc : ltS a1 b1 with
      | false => rfl
      | true => rw [← cmpS_neg] at hc; omega
    rw [cmpS_z] at hq506
    refine ⟨?_, ((by assumption : Rel _ _ _ _ _)).toBelow⟩
    rw [hlt, decide_eq_true hq506]
    simp only [Bool.false_or, Bool.true_and, cmpS_neg, Bool.decide_eq_true, LV.den]
  · have hlt : ltS a1 b1 = false := by
      cases hc : ltS a1 b1 with
      | false => rfl
      | true => rw [← cmpS_neg] at hc; omega
    rw [cmpS_z] at hq506
    refine ⟨?_, ((by assumption : Rel _ _ _ _ _)).toBelow⟩
    rw [hlt, decide_eq_false hq506]
    rfl
end Go.Proofs.Ytgbgedaedcofcaa
