/-
  credit.Lines.Repay.
  credit.Lines.Repay.
  credit.Lines.Free, credit.New.
  credit.New; credit.Lines.Loan; nil lines.
-/
import Derived.Test.YtioehmngkoffaaaCrVU
namespace Go.Proofs.Ytioehmngkoffaaa
section
open Go Go.RowKit
/-- the block that a map lies in -/
def mT : Option Nat → List Nat
  | none => []
  | some g => [g]
theorem mem_mT {m : Option Nat} {x : Nat} : x ∈ mT m ↔ m = some x := by
  cases m with
  | none => simp [mT]
  | some g => simp [mT, eq_comm]
theorem blk_not_map {w : World} {g : Nat} {t : TypeId} {cs : Array Value} {es : Array MapEntry} {c : Nat} (h : Blk w g t cs) (hm : w.heap[g]? = some (.map es c)) : False := by
  have h1 : w.heap[g]? = _ := h
  rw [hm] at h1
  cases h1
/-- the map alone has turned -/
theorem LnV.turned {q : LnP} {w w' : World} {ρ : Nm} {rs : List Reg} {l' : List (Ent Key LoC)} {ck' : Nat} (h : LnV q w) (hk : Kept (fun k => k ∈ mT q.m) w w') (hM : MpO encK encLo ρ rs w' q.m l' ck') (hsub : ∀ e ∈ l', ∃ e0 ∈ q.l, e0.key = e.key ∧ e0.val.pv = e.val.pv) : LnV ⟨q.b, q.m, l', ck', q.f⟩ w' := by
  refine ⟨h.blk.kept hk (fun hx => blk_not_map h.blk (h.mp.is _ (mem_mT.1 hx)).1.blk), ⟨fun g hg => ⟨(hM.is g hg).1, noW0⟩, hM.nil⟩, fun e he => ?_⟩
  obtain ⟨e0, h0, h1, h2⟩ := hsub e he
  have h3 := h.row e0 h0
  rw [h1, h2] at h3
  exact own_kept h3 hk (fun x hx hm => own_not_map h3 (h.mp.is x (mem_mT.1 hm)).1.blk hx.symm)
theorem ins_mem3 {K V : Type} [DecidableEq K] {k : K} {v : V} {n : Nat} {x : Ent K V} : ∀ {l : List (Ent K V)}, (l.Pairwise fun a b => a.key ≠ b.key) → x ∈ ins k v n l → (x ∈ l ∧ x.key ≠ k) ∨ (x.key = k ∧ x.val = v)
  | [], _, h => by
    obtain rfl := List.mem_singleton.1 h
    exact .inr ⟨rfl, rfl⟩
  | e :: l, hq, h => by
    have hq1 := List.pairwise_cons.1 hq
    simp only [ins] at h
    split at h
    · rename_i hk
      rcases List.mem_cons.1 h with rfl | h
      · exact .inr ⟨hk.symm, rfl⟩
      · exact .inl ⟨by simp [h], fun e' => hq1.1 x h (by rw [e', hk])⟩
    · rename_i hk
      rcases List.mem_cons.1 h with rfl | h
      · exact .inl ⟨by simp, fun e' => hk e'.symm⟩
      · rcases ins_mem3 hq1.2 h with ⟨h1, h2⟩ | h1
        · exact .inl ⟨by simp [h1], h2⟩
        · exact .inr h1
theorem ins_subK {k : Key} {x x' : LoC} {n : Nat} {l : List (Ent Key LoC)} {c : Nat} (hf : Fine l c) (hl : look k l = some x) (hpv : x'.pv = x.pv) : ∀ e ∈ ins k x' n l, ∃ e0 ∈ l, e0.key = e.key ∧ e0.val.pv = e.val.pv := fun e he => by
  rcases ins_mem3 hf.keys he with ⟨h1, _⟩ | ⟨h1, h2⟩
  · exact ⟨e, h1, rfl, rfl⟩
  · obtain ⟨e0, h3, h4, h5⟩ := look_mem hl
    exact ⟨e0, h3, h4.trans h1.symm, by rw [h5, h2, hpv]⟩
theorem del_mem {K V : Type} [DecidableEq K] {k : K} {l : List (Ent K V)} {e : Ent K V} (h : e ∈ del k l) : e ∈ l := (del_sub k l).subset h
theorem clock_has {K V : Type} [DecidableEq K] {k : K} {v : V} {l : List (Ent K V)} {n : Nat} (h : look k l = some v) : clockAfter k l n = n := by
  unfold clockAfter
  rw [if_pos (by unfold hasK; rw [h]; rfl)]
/-- what Repay leaves of the loans -/
def repL (q : LnP) (k : Key) (x : LoC) (a : Int) : List (Ent Key LoC) :=
  if x.amt - a = 0 ∧ (q.f k).length = 0 then del k (ins k { x with amt := x.amt - a } q.ck q.l) else ins k { x with amt := x.amt - a } q.ck q.l
def RepR (q : LnP) (k : Key) (a : Int) (w : World) (e : Ending) (w' : World) : Prop :=
  ∃ n c : Int, e = .returned (.tuple #[.int .i64 n, .int .i64 c]) ∧
    ((look k q.l = none ∧ n = 0 ∧ c = 7 ∧ Below w.heap.size w w') ∨
     (∃ x, look k q.l = some x ∧ ¬ (0 ≤ a ∧ a ≤ x.amt) ∧ n = 0 ∧ c = 1 ∧ Below w.heap.size w w') ∨
     (∃ x, look k q.l = some x ∧ 0 ≤ a ∧ a ≤ x.amt ∧ n = x.amt - a ∧ c = 0 ∧ LnV ⟨q.b, q.m, repL q k x a, q.ck, q.f⟩ w' ∧ Kept (fun y => y ∈ mT q.m) w w'))
attribute [local irreducible] run goO leaveK someK nextK nextT nextOT nextOD loopBody loopRest loopK fillJ tmplOf tmplJ mergeT At AtO drawOk ordOf gateOf callC callO topOp topO idxOf appOf storeOf clearOf sliceOf calleeOf calleeO topQ idxQ newRowOf resL stepOp seek
set_option maxRecDepth 100000 in
set_option maxHeartbeats 4000000 in
theorem repay_bad {R : Ending → World → Prop} {ρ : Nm} {w0 w : World} {q : LnP} {k1 k2 xp xa xc : ByteArray} {a xn : Int} {Ax : Option Addr} {nx cx : Nat} (hR : Rel [] w0 ρ [⟨[.v (.map q.m)], false⟩, ⟨[LS k1, LS k2], true⟩, ⟨[LS xp, LS xa, LS xc, LI xn, .v (.slice Ax nx cx)], true⟩] w) (hin : ¬ (0 ≤ a ∧ a ≤ xn)) (d : Nat → Value) (hret : ∀ w', Below w0.heap.size w0 w' → R (.returned (.tuple #[.int .i64 0, .int .i64 1])) w') :
    At Try.prog (bodyPost Try.prog Try.f9 R) ⟨regK Try.f9 5, fillJ (tmplJ Try.f9.ntmps 0 [(0, .ptr 0 0), (3, LI a), (10, .ptr 1 0), (11, .ptr 2 0), (12, LB true)]) d 0, [⟨[.v (.map q.m)], false⟩, ⟨[LS k1, LS k2], true⟩, ⟨[LS xp, LS xa, LS xc, LI xn, .v (.slice Ax nx cx)], true⟩]⟩ ρ w := by
  by_cases h0 : 0 ≤ a
  · have h1 : ¬ a ≤ xn := fun h1 => hin ⟨h0, h1⟩
    refine sim_run 10 [] (hR.cast (by kernel_rfl)) (by kernel_rfl) trivial (fun ρ100 w100 hm100 hR100 => ?_)
    refine sim_into Try.func22 [LI a, LI 0, LI xn] (by kernel_rfl) (by kernel_rfl) ?_
    have hag101 := hR100.ag_ 3 (by kernel_rfl)
    refine sim_run 10 [] (hR100.cast (by kernel_rfl)) (by kernel_rfl) trivial (fun ρ102 w102 hm102 hR102 => ?_)
    have hag101 := hag101.moved (hm102.castL (by kernel_rfl))
    refine sim_know 10 (decide (a ≥ 0)) true (by kernel_rfl) (decide_eq_true (by omega)) ?_
    refine sim_run 6 [] (hR102.cast (by kernel_rfl)) (by kernel_rfl) trivial (fun ρ103 w103 hm103 hR103 => ?_)
    have hag101 := hag101.moved (hm103.castL (by kernel_rfl))
    refine sim_out 3 (LB (decide (a ≤ xn))) hR103 (by kernel_rfl) (by kernel_rfl) hag101.ag (by kernel_rfl) ?_
    refine sim_run 3 [] (hR103.cast (by kernel_rfl)) (by kernel_rfl) trivial (fun ρ104 w104 hm104 hR104 => ?_)
    have hag101 := hag101.moved (hm104.castL (by kernel_rfl))
    refine sim_know 30 (!decide (a ≤ xn)) true (by kernel_rfl) (by rw [decide_eq_false h1]; rfl) ?_
    refine sim_run 6 [] (hR104.cast (by kernel_rfl)) (by kernel_rfl) trivial (fun ρ105 w105 hm105 hR105 => ?_)
    have hag101 := hag101.moved (hm105.castL (by kernel_rfl))
    refine sim_ret (.tup [LI 0, LI 1]) hR105 (by kernel_rfl) (by kernel_rfl) ?_
    
    exact hret _ ((by assumption : Rel _ _ _ _ _)).toBelow
  · refine sim_run 10 [] (hR.cast (by kernel_rfl)) (by kernel_rfl) trivial (fun ρ200 w200 hm200 hR200 => ?_)
    refine sim_into Try.func22 [LI a, LI 0, LI xn] (by kernel_rfl) (by kernel_rfl) ?_
    have hag201 := hR200.ag_ 3 (by kernel_rfl)
    refine sim_run 10 [] (hR200.cast (by kernel_rfl)) (by kernel_rfl) trivial (fun ρ202 w202 hm202 hR202 => ?_)
    have hag201 := hag201.moved (hm202.castL (by kernel_rfl))
    refine sim_know 10 (decide (a ≥ 0)) false (by kernel_rfl) (decide_eq_false (by omega)) ?_
    refine sim_run 6 [] (hR202.cast (by kernel_rfl)) (by kernel_rfl) trivial (fun ρ203 w203 hm203 hR203 => ?_)
    have hag201 := hag201.moved (hm203.castL (by kernel_rfl))
    refine sim_out 3 (LB false) hR203 (by kernel_rfl) (by kernel_rfl) hag201.ag (by kernel_rfl) ?_
    refine sim_run 9 [] (hR203.cast (by kernel_rfl)) (by kernel_rfl) trivial (fun ρ204 w204 hm204 hR204 => ?_)
    have hag201 := hag201.moved (hm204.castL (by kernel_rfl))
    refine sim_ret (.tup [LI 0, LI 1]) hR204 (by kernel_rfl) (by kernel_rfl) ?_
    
    exact hret _ ((by assumption : Rel _ _ _ _ _)).toBelow
set_option maxRecDepth 100000 in
set_option maxHeartbeats 4000000 in
theorem repay_good {R : Ending → World → Prop} {ρ : Nm} {w0 w : World} {g : Nat} {l : List (Ent Key LoC)} {ck : Nat} {k1 k2 xp xa xc : ByteArray} {a xn : Int} {Ax : Option Addr} {nx cx : Nat} (hR : Rel [g] w0 ρ [⟨[.v (.map (some g))], false⟩, ⟨[LS k1, LS k2], true⟩, ⟨[LS xp, LS xa, LS xc, LI xn, .v (.slice Ax nx cx)], true⟩] w) (hM : MpO encK encLo ρ [⟨[.v (.map (some g))], false⟩, ⟨[LS k1, LS k2], true⟩, ⟨[LS xp, LS xa, LS xc, LI xn, .v (.slice Ax nx cx)], true⟩] w (some g) l ck) (h0 : 0 ≤ a) (h1 : a ≤ xn) (hxn : xn ≤ 1152921504606846976) (_ : nx ≤ 100000) (d : Nat → Value)
    (hret : ∀ (ρ' : Nm) (rs' : List Reg) (w' : World), Rel [g] w0 ρ' rs' w' → MpO encK encLo ρ' rs' w' (some g) (if xn - a = 0 ∧ nx = 0 then del (k1, k2) (ins (k1, k2) ⟨xp, xa, xc, xn - a, .slice Ax nx cx⟩ ck l) else ins (k1, k2) ⟨xp, xa, xc, xn - a, .slice Ax nx cx⟩ ck l) (clockAfter (k1, k2) l ck) → R (.returned (.tuple #[.int .i64 (xn - a), .int .i64 0])) w') :
    At Try.prog (bodyPost Try.prog Try.f9 R) ⟨regK Try.f9 5, fillJ (tmplJ Try.f9.ntmps 0 [(0, .ptr 0 0), (3, LI a), (10, .ptr 1 0), (11, .ptr 2 0), (12, LB true)]) d 0, [⟨[.v (.map (some g))], false⟩, ⟨[LS k1, LS k2], true⟩, ⟨[LS xp, LS xa, LS xc, LI xn, .v (.slice Ax nx cx)], true⟩]⟩ ρ w := by
  have hgT : g ∈ [g] := List.mem_singleton.2 rfl
  by_cases hz : xn - a = 0
  · by_cases hy : nx = 0
    · rw [if_pos ⟨hz, hy⟩] at hret
      refine sim_run 10 [] (hR.cast (by kernel_rfl)) (by kernel_rfl) trivial (fun ρ1100 w1100 hm1100 hR1100 => ?_)
      have hM := hM.moved (hm1100.castL (by kernel_rfl))
      refine sim_into Try.func22 [LI a, LI 0, LI xn] (by kernel_rfl) (by kernel_rfl) ?_
      have hag1101 := hR1100.ag_ 3 (by kernel_rfl)
      refine sim_run 10 [] (hR1100.cast (by kernel_rfl)) (by kernel_rfl) trivial (fun ρ1102 w1102 hm1102 hR1102 => ?_)
      have hM := hM.moved (hm1102.castL (by kernel_rfl))
      have hag1101 := hag1101.moved (hm1102.castL (by kernel_rfl))
      refine sim_know 10 (decide (a ≥ 0)) true (by kernel_rfl) (decide_eq_true (by omega)) ?_
      refine sim_run 6 [] (hR1102.cast (by kernel_rfl)) (by kernel_rfl) trivial (fun ρ1103 w1103 hm1103 hR1103 => ?_)
      have hM := hM.moved (hm1103.castL (by kernel_rfl))
      have hag1101 := hag1101.moved (hm1103.castL (by kernel_rfl))
      refine sim_out 3 (LB (decide (a ≤ xn))) hR1103 (by kernel_rfl) (by kernel_rfl) hag1101.ag (by kernel_rfl) ?_
      refine sim_run 3 [] (hR1103.cast (by kernel_rfl)) (by kernel_rfl) trivial (fun ρ1104 w1104 hm1104 hR1104 => ?_)
      have hM := hM.moved (hm1104.castL (by kernel_rfl))
      have hag1101 := hag1101.moved (hm1104.castL (by kernel_rfl))
      refine sim_know 30 (!decide (a ≤ xn)) false (by kernel_rfl) (by rw [decide_eq_true h1]; rfl) ?_
      refine sim_run 13 [⟨9, 3, LI (IntKind.i64.wrap (xn - a)), LI (xn - a)⟩] (hR1104.cast (by kernel_rfl)) (by kernel_rfl) ⟨eqi (IntWalk.i64_in _ (by omega)), trivial⟩ (fun ρ1105 w1105 hm1105 hR1105 => ?_)
      have hM := hM.moved (hm1105.castL (by kernel_rfl))
      have hag1101 := hag1101.moved (hm1105.castL (by kernel_rfl))
      refine sim_draw [] (by kernel_rfl) (by kernel_rfl) hR1105 (fun hR1106 => ?_)
      have hM := hM.drew
      refine sim_ordN 6 [] hR1106 (by kernel_rfl) trivial (fun ρ1107 w1107 hm1107 hR1107 => ?_)
      have hag1101 := hag1101.moved (hm1107.castL (by kernel_rfl))
      have hM := hM.moved (hm1107.castL (by kernel_rfl))
      refine sim_ord_upd (enc := encK) (encV := encLo) (mx := .v (Value.map (some g))) (kx := .agg [LS k1, LS k2]) (vx := .agg [LS xp, LS xa, LS xc, LI (xn - a), .v (Value.slice Ax nx cx)]) (k1, k2) ⟨xp, xa, xc, xn - a, .slice Ax nx cx⟩ (by kernel_rfl) ml_ty kt_key hM rfl rfl rfl (.inl hgT) hR1107 (fun w1108 ht1108 hM2 hR1108 => ?_)
      have hM := hM2
      clear hM2
      refine sim_ord_endR hR1108 (by kernel_rfl) (fun hR1109 => ?_)
      refine sim_run 7 [] (hR1109.cast (by kernel_rfl)) (by kernel_rfl) trivial (fun ρ1110 w1110 hm1110 hR1110 => ?_)
      have hag1101 := hag1101.moved (hm1110.castL (by kernel_rfl))
      have hM := hM.moved (hm1110.castL (by kernel_rfl))
      refine sim_know 50 (xn - a == 0) true (by kernel_rfl) (decide_eq_true (by omega)) ?_
      refine sim_run 6 [] (hR1110.cast (by kernel_rfl)) (by kernel_rfl) trivial (fun ρ1111 w1111 hm1111 hR1111 => ?_)
      have hag1101 := hag1101.moved (hm1111.castL (by kernel_rfl))
      have hM := hM.moved (hm1111.castL (by kernel_rfl))
      refine sim_know 55 ((↑nx : Int) == 0) true (by kernel_rfl) (decide_eq_true (by omega)) ?_
      refine sim_run 1 [] (hR1111.cast (by kernel_rfl)) (by kernel_rfl) trivial (fun ρ1112 w1112 hm1112 hR1112 => ?_)
      have hag1101 := hag1101.moved (hm1112.castL (by kernel_rfl))
      have hM := hM.moved (hm1112.castL (by kernel_rfl))
      refine sim_draw [] (by kernel_rfl) (by kernel_rfl) hR1112 (fun hR1113 => ?_)
      have hM := hM.drew
      refine sim_ordN 5 [] hR1113 (by kernel_rfl) trivial (fun ρ1114 w1114 hm1114 hR1114 => ?_)
      have hag1101 := hag1101.moved (hm1114.castL (by kernel_rfl))
      have hM := hM.moved (hm1114.castL (by kernel_rfl))
      refine sim_ord_del (enc := encK) (encV := encLo) (mx := .v (Value.map (some g))) (kx := .agg [LS k1, LS k2]) (k1, k2) (by kernel_rfl) rfl ml_ty kt_key hM rfl rfl (.inl hgT) hR1114 (fun w1115 ht1115 hM2 hR1115 => ?_)
      have hM := hM2
      clear hM2
      refine sim_ord_endR hR1115 (by kernel_rfl) (fun hR1116 => ?_)
      refine sim_run 7 [] (hR1116.cast (by kernel_rfl)) (by kernel_rfl) trivial (fun ρ1117 w1117 hm1117 hR1117 => ?_)
      have hag1101 := hag1101.moved (hm1117.castL (by kernel_rfl))
      have hM := hM.moved (hm1117.castL (by kernel_rfl))
      refine sim_ret (.tup [LI (xn - a), LI 0]) hR1117 (by kernel_rfl) (by kernel_rfl) ?_
      
      all_goals exact hret _ _ _ (by assumption) hM
    · rw [if_neg (fun h => hy h.2)] at hret
      refine sim_run 10 [] (hR.cast (by kernel_rfl)) (by kernel_rfl) trivial (fun ρ1200 w1200 hm1200 hR1200 => ?_)
      have hM := hM.moved (hm1200.castL (by kernel_rfl))
      refine sim_into Try.func22 [LI a, LI 0, LI xn] (by kernel_rfl) (by kernel_rfl) ?_
      have hag1201 := hR1200.ag_ 3 (by kernel_rfl)
      refine sim_run 10 [] (hR1200.cast (by kernel_rfl)) (by kernel_rfl) trivial (fun ρ1202 w1202 hm1202 hR1202 => ?_)
      have hM := hM.moved (hm1202.castL (by kernel_rfl))
      have hag1201 := hag1201.moved (hm1202.castL (by kernel_rfl))
      refine sim_know 10 (decide (a ≥ 0)) true (by kernel_rfl) (decide_eq_true (by omega)) ?_
      refine sim_run 6 [] (hR1202.cast (by kernel_rfl)) (by kernel_rfl) trivial (fun ρ1203 w1203 hm1203 hR1203 => ?_)
      have hM := hM.moved (hm1203.castL (by kernel_rfl))
      have hag1201 := hag1201.moved (hm1203.castL (by kernel_rfl))
      refine sim_out 3 (LB (decide (a ≤ xn))) hR1203 (by kernel_rfl) (by kernel_rfl) hag1201.ag (by kernel_rfl) ?_
      refine sim_run 3 [] (hR1203.cast (by kernel_rfl)) (by kernel_rfl) trivial (fun ρ1204 w1204 hm1204 hR1204 => ?_)
      have hM := hM.moved (hm1204.castL (by kernel_rfl))
      have hag1201 := hag1201.moved (hm1204.castL (by kernel_rfl))
      refine sim_know 30 (!decide (a ≤ xn)) false (by kernel_rfl) (by rw [decide_eq_true h1]; rfl) ?_
      refine sim_run 13 [⟨9, 3, LI (IntKind.i64.wrap (xn - a)), LI (xn - a)⟩] (hR1204.cast (by kernel_rfl)) (by kernel_rfl) ⟨eqi (IntWalk.i64_in _ (by omega)), trivial⟩ (fun ρ1205 w1205 hm1205 hR1205 => ?_)
      have hM := hM.moved (hm1205.castL (by kernel_rfl))
      have hag1201 := hag1201.moved (hm1205.castL (by kernel_rfl))
      refine sim_draw [] (by kernel_rfl) (by kernel_rfl) hR1205 (fun hR1206 => ?_)
      have hM := hM.drew
      refine sim_ordN 6 [] hR1206 (by kernel_rfl) trivial (fun ρ1207 w1207 hm1207 hR1207 => ?_)
      have hag1201 := hag1201.moved (hm1207.castL (by kernel_rfl))
      have hM := hM.moved (hm1207.castL (by kernel_rfl))
      refine sim_ord_upd (enc := encK) (encV := encLo) (mx := .v (Value.map (some g))) (kx := .agg [LS k1, LS k2]) (vx := .agg [LS xp, LS xa, LS xc, LI (xn - a), .v (Value.slice Ax nx cx)]) (k1, k2) ⟨xp, xa, xc, xn - a, .slice Ax nx cx⟩ (by kernel_rfl) ml_ty kt_key hM rfl rfl rfl (.inl hgT) hR1207 (fun w1208 ht1208 hM2 hR1208 => ?_)
      have hM := hM2
      clear hM2
      refine sim_ord_endR hR1208 (by kernel_rfl) (fun hR1209 => ?_)
      refine sim_run 7 [] (hR1209.cast (by kernel_rfl)) (by kernel_rfl) trivial (fun ρ1210 w1210 hm1210 hR1210 => ?_)
      have hag1201 := hag1201.moved (hm1210.castL (by kernel_rfl))
      have hM := hM.moved (hm1210.castL (by kernel_rfl))
      refine sim_know 50 (xn - a == 0) true (by kernel_rfl) (decide_eq_true (by omega)) ?_
      refine sim_run 6 [] (hR1210.cast (by kernel_rfl)) (by kernel_rfl) trivial (fun ρ1211 w1211 hm1211 hR1211 => ?_)
      have hag1201 := hag1201.moved (hm1211.castL (by kernel_rfl))
      have hM := hM.moved (hm1211.castL (by kernel_rfl))
      refine sim_know 55 ((↑nx : Int) == 0) false (by kernel_rfl) (decide_eq_false (by omega)) ?_
      refine sim_run 9 [] (hR1211.cast (by kernel_rfl)) (by kernel_rfl) trivial (fun ρ1212 w1212 hm1212 hR1212 => ?_)
      have hag1201 := hag1201.moved (hm1212.castL (by kernel_rfl))
      have hM := hM.moved (hm1212.castL (by kernel_rfl))
      refine sim_ret (.tup [LI (xn - a), LI 0]) hR1212 (by kernel_rfl) (by kernel_rfl) ?_
      
      all_goals exact hret _ _ _ (by assumption) hM
  · rw [if_neg (fun h => hz h.1)] at hret
    refine sim_run 10 [] (hR.cast (by kernel_rfl)) (by kernel_rfl) trivial (fun ρ1300 w1300 hm1300 hR1300 => ?_)
    have hM := hM.moved (hm1300.castL (by kernel_rfl))
    refine sim_into Try.func22 [LI a, LI 0, LI xn] (by kernel_rfl) (by kernel_rfl) ?_
    have hag1301 := hR1300.ag_ 3 (by kernel_rfl)
    refine sim_run 10 [] (hR1300.cast (by kernel_rfl)) (by kernel_rfl) trivial (fun ρ1302 w1302 hm1302 hR1302 => ?_)
    have hM := hM.moved (hm1302.castL (by kernel_rfl))
    have hag1301 := hag1301.moved (hm1302.castL (by kernel_rfl))
    refine sim_know 10 (decide (a ≥ 0)) true (by kernel_rfl) (decide_eq_true (by omega)) ?_
    refine sim_run 6 [] (hR1302.cast (by kernel_rfl)) (by kernel_rfl) trivial (fun ρ1303 w1303 hm1303 hR1303 => ?_)
    have hM := hM.moved (hm1303.castL (by kernel_rfl))
    have hag1301 := hag1301.moved (hm1303.castL (by kernel_rfl))
    refine sim_out 3 (LB (decide (a ≤ xn))) hR1303 (by kernel_rfl) (by kernel_rfl) hag1301.ag (by kernel_rfl) ?_
    refine sim_run 3 [] (hR1303.cast (by kernel_rfl)) (by kernel_rfl) trivial (fun ρ1304 w1304 hm1304 hR1304 => ?_)
    have hM := hM.moved (hm1304.castL (by kernel_rfl))
    have hag1301 := hag1301.moved (hm1304.castL (by kernel_rfl))
    refine sim_know 30 (!decide (a ≤ xn)) false (by kernel_rfl) (by rw [decide_eq_true h1]; rfl) ?_
    refine sim_run 13 [⟨9, 3, LI (IntKind.i64.wrap (xn - a)), LI (xn - a)⟩] (hR1304.cast (by kernel_rfl)) (by kernel_rfl) ⟨eqi (IntWalk.i64_in _ (by omega)), trivial⟩ (fun ρ1305 w1305 hm1305 hR1305 => ?_)
    have hM := hM.moved (hm1305.castL (by kernel_rfl))
    have hag1301 := hag1301.moved (hm1305.castL (by kernel_rfl))
    refine sim_draw [] (by kernel_rfl) (by kernel_rfl) hR1305 (fun hR1306 => ?_)
    have hM := hM.drew
    refine sim_ordN 6 [] hR1306 (by kernel_rfl) trivial (fun ρ1307 w1307 hm1307 hR1307 => ?_)
    have hag1301 := hag1301.moved (hm1307.castL (by kernel_rfl))
    have hM := hM.moved (hm1307.castL (by kernel_rfl))
    refine sim_ord_upd (enc := encK) (encV := encLo) (mx := .v (Value.map (some g))) (kx := .agg [LS k1, LS k2]) (vx := .agg [LS xp, LS xa, LS xc, LI (xn - a), .v (Value.slice Ax nx cx)]) (k1, k2) ⟨xp, xa, xc, xn - a, .slice Ax nx cx⟩ (by kernel_rfl) ml_ty kt_key hM rfl rfl rfl (.inl hgT) hR1307 (fun w1308 ht1308 hM2 hR1308 => ?_)
    have hM := hM2
    clear hM2
    refine sim_ord_endR hR1308 (by kernel_rfl) (fun hR1309 => ?_)
    refine sim_run 7 [] (hR1309.cast (by kernel_rfl)) (by kernel_rfl) trivial (fun ρ1310 w1310 hm1310 hR1310 => ?_)
    have hag1301 := hag1301.moved (hm1310.castL (by kernel_rfl))
    have hM := hM.moved (hm1310.castL (by kernel_rfl))
    refine sim_know 50 (xn - a == 0) false (by kernel_rfl) (decide_eq_false (by omega)) ?_
    refine sim_run 15 [] (hR1310.cast (by kernel_rfl)) (by kernel_rfl) trivial (fun ρ1311 w1311 hm1311 hR1311 => ?_)
    have hag1301 := hag1301.moved (hm1311.castL (by kernel_rfl))
    have hM := hM.moved (hm1311.castL (by kernel_rfl))
    refine sim_ret (.tup [LI (xn - a), LI 0]) hR1311 (by kernel_rfl) (by kernel_rfl) ?_
    
    all_goals exact hret _ _ _ (by assumption) hM
end

section
open Go Go.RowKit
attribute [local irreducible] run goO leaveK someK nextK nextT nextOT nextOD loopBody loopRest loopK fillJ tmplOf tmplJ mergeT At AtO drawOk ordOf gateOf callC callO topOp topO idxOf appOf storeOf clearOf sliceOf calleeOf calleeO topQ idxQ newRowOf resL stepOp seek
set_option maxRecDepth 100000 in
set_option maxHeartbeats 4000000 in
theorem repay_any (q : LnP) (k1 k2 : ByteArray) (a : Int) (w : World) (h : LnV q w) (hok : LnOk 100000 100000 q) (_ : IsI64 a) :
    Calls Try.prog 9 #[.pointer (some ⟨q.b, 0, none⟩), .string k1, .string k2, .int .i64 a] w (RepR q (k1, k2) a w) := by
  unfold RepR
  cases hlk : look (k1, k2) q.l with
  | none =>
    obtain ⟨ρ, e0, hR⟩ := h.open_ false [] (fun h => by cases h)
    have hM := LnV.over (h.sta (ρ := ρ) (rs := [⟨[.v (.map q.m)], false⟩]) (by kernel_rfl))
    refine sim_enter Try.func9 ρ [.ptr 0 0, LS k1, LS k2, LI a] [⟨[.v (.map q.m)], false⟩] (by kernel_rfl) (by simp only [denL, LV.den, Nm.at_, e0]) ?_
    have hag := hR.ag_ 1 (by kernel_rfl)
    refine sim_run 22 [] (hR.cast (by kernel_rfl)) (by kernel_rfl) trivial (fun ρ100 w100 hm100 hR100 => ?_)
    have hM := hM.moved (hm100.castL (by kernel_rfl))
    have hag := hag.moved (hm100.castL (by kernel_rfl))
    refine sim_drawF2 [(0, false), (1, false), (2, false), (3, false), (4, false)] (5, [(6, false), (7, false), (8, false), (9, true), (10, true), (11, false)]) (9, [(5, true), (6, false), (7, false), (8, false), (10, true), (11, false)]) (some 10) (by kernel_rfl) (by kernel_rfl) hR100 (fun hR101 => ?_) (fun hR101 => ?_)
    have hM := hM.drew
    refine sim_ordN 5 [] hR101 (by kernel_rfl) trivial (fun ρ102 w102 hm102 hR102 => ?_)
    have hag := hag.moved (hm102.castL (by kernel_rfl))
    have hM := hM.moved (hm102.castL (by kernel_rfl))
    refine sim_ord_look (enc := encK) (encV := encLo) (mx := .v (Value.map q.m)) (kx := .agg [LS k1, LS k2]) (ok := true) (k1, k2) (.tup [.agg [LS ByteArray.empty, LS ByteArray.empty, LS ByteArray.empty, LI 0, .v (.slice none 0 0)], LB false]) (by kernel_rfl) ml_ty kt_key zero_lo hM rfl rfl hR102 (by unfold hasK; rw [hlk]; rfl) (fun hR103 => ?_)
    refine sim_ordN 6 [] hR103 (by kernel_rfl) trivial (fun ρ104 w104 hm104 hR104 => ?_)
    have hag := hag.moved (hm104.castL (by kernel_rfl))
    have hM := hM.moved (hm104.castL (by kernel_rfl))
    refine sim_ord_endR hR104 (by kernel_rfl) (fun hR105 => ?_)
    refine sim_run 14 [] (hR105.cast (by kernel_rfl)) (by kernel_rfl) trivial (fun ρ106 w106 hm106 hR106 => ?_)
    have hag := hag.moved (hm106.castL (by kernel_rfl))
    have hM := hM.moved (hm106.castL (by kernel_rfl))
    refine sim_ret (.tup [LI 0, LI 7]) hR106 (by kernel_rfl) (by kernel_rfl) ?_
    rotate_left
    have hM := hM.drew
    refine sim_ordN 6 [] hR101 (by kernel_rfl) trivial (fun ρ107 w107 hm107 hR107 => ?_)
    have hag := hag.moved (hm107.castL (by kernel_rfl))
    have hM := hM.moved (hm107.castL (by kernel_rfl))
    refine sim_ord_look (enc := encK) (encV := encLo) (mx := .v (Value.map q.m)) (kx := .agg [LS k1, LS k2]) (ok := true) (k1, k2) (.tup [.agg [LS ByteArray.empty, LS ByteArray.empty, LS ByteArray.empty, LI 0, .v (.slice none 0 0)], LB false]) (by kernel_rfl) ml_ty kt_key zero_lo hM rfl rfl hR107 (by unfold hasK; rw [hlk]; rfl) (fun hR108 => ?_)
    refine sim_ordN 5 [] hR108 (by kernel_rfl) trivial (fun ρ109 w109 hm109 hR109 => ?_)
    have hag := hag.moved (hm109.castL (by kernel_rfl))
    have hM := hM.moved (hm109.castL (by kernel_rfl))
    refine sim_ord_endR hR109 (by kernel_rfl) (fun hR110 => ?_)
    refine sim_run 14 [] (hR110.cast (by kernel_rfl)) (by kernel_rfl) trivial (fun ρ111 w111 hm111 hR111 => ?_)
    have hag := hag.moved (hm111.castL (by kernel_rfl))
    have hM := hM.moved (hm111.castL (by kernel_rfl))
    refine sim_ret (.tup [LI 0, LI 7]) hR111 (by kernel_rfl) (by kernel_rfl) ?_
    rotate_left
    
    all_goals exact ⟨0, 7, rfl, .inl ⟨rfl, rfl, rfl, (by assumption : Rel _ _ _ _ _).toBelow⟩⟩
  | some x =>
    obtain ⟨e, he, hek, hev⟩ := look_mem hlk
    have hrow := h.row e he
    have hamt := hok.amt e he
    rw [hev] at hrow hamt
    rw [hek] at hrow
    generalize hnx : (q.f (k1, k2)).length = nx at hrow
    obtain ⟨xp, xa, xc, xn, xv⟩ := x
    obtain ⟨Ax, cx, hxv⟩ := own_row hrow
    have hxv : xv = .slice Ax nx cx := hxv
    subst hxv
    have hret1 : ∀ n w', n = xn - a → 0 ≤ a → a ≤ xn → LnV ⟨q.b, q.m, repL q (k1, k2) ⟨xp, xa, xc, xn, .slice Ax nx cx⟩ a, q.ck, q.f⟩ w' → Kept (fun y => y ∈ mT q.m) w w' → RepR q (k1, k2) a w (.returned (.tuple #[.int .i64 n, .int .i64 0])) w' := fun n w' h1 h2 h3 h4 h5 => ⟨n, 0, rfl, .inr (.inr ⟨_, hlk, h2, h3, h1, rfl, h4, h5⟩)⟩
    have hret2 : ¬ (0 ≤ a ∧ a ≤ xn) → ∀ w', Below w.heap.size w w' → RepR q (k1, k2) a w (.returned (.tuple #[.int .i64 0, .int .i64 1])) w' := fun hin w' hb => ⟨0, 1, rfl, .inr (.inl ⟨_, hlk, hin, rfl, rfl, hb⟩)⟩
    unfold RepR at hret1 hret2
    rw [hlk] at hret1 hret2
    by_cases hin : 0 ≤ a ∧ a ≤ xn
    · obtain ⟨g, hg⟩ : ∃ g, q.m = some g := by
        cases hm : q.m with
        | some g => exact ⟨g, rfl⟩
        | none =>
          have := (h.mp.nil hm).1
          rw [this] at hlk
          cases hlk
      have hok2 : nx ≤ 100000 := by have := hok.pls e he; rw [hek, hnx] at this; exact this
      obtain ⟨ρ, e0, hR⟩ := h.open_ false [g] (fun h => by cases h)
      rw [hg] at hR
      have hM := LnV.over (h.sta (ρ := ρ) (rs := [⟨[.v (.map (some g))], false⟩]) (by kernel_rfl))
      rw [hg] at hM
      refine sim_enter Try.func9 ρ [.ptr 0 0, LS k1, LS k2, LI a] [⟨[.v (.map (some g))], false⟩] (by kernel_rfl) (by simp only [denL, LV.den, Nm.at_, e0]) ?_
      have hag := hR.ag_ 1 (by kernel_rfl)
      refine sim_run 22 [] (hR.cast (by kernel_rfl)) (by kernel_rfl) trivial (fun ρ400 w400 hm400 hR400 => ?_)
      have hM := hM.moved (hm400.castL (by kernel_rfl))
      have hag := hag.moved (hm400.castL (by kernel_rfl))
      refine sim_drawF2 [(0, false), (1, false), (2, false), (3, false), (4, false)] (5, [(6, false), (7, false), (8, false), (9, true), (10, true), (11, false)]) (9, [(5, true), (6, false), (7, false), (8, false), (10, true), (11, false)]) (some 10) (by kernel_rfl) (by kernel_rfl) hR400 (fun hR401 => ?_) (fun hR401 => ?_)
      have hM := hM.drew
      refine sim_ordN 5 [] hR401 (by kernel_rfl) trivial (fun ρ402 w402 hm402 hR402 => ?_)
      have hag := hag.moved (hm402.castL (by kernel_rfl))
      have hM := hM.moved (hm402.castL (by kernel_rfl))
      refine sim_ord_look (enc := encK) (encV := encLo) (mx := .v (Value.map (some g))) (kx := .agg [LS k1, LS k2]) (ok := true) (k1, k2) (.tup [.agg [LS xp, LS xa, LS xc, LI xn, .v (.slice Ax nx cx)], LB true]) (by kernel_rfl) ml_ty kt_key zero_lo hM rfl rfl hR402 (by unfold hasK; rw [hlk]; rfl) (fun hR403 => ?_)
      refine sim_ordN 6 [] hR403 (by kernel_rfl) trivial (fun ρ404 w404 hm404 hR404 => ?_)
      have hag := hag.moved (hm404.castL (by kernel_rfl))
      have hM := hM.moved (hm404.castL (by kernel_rfl))
      refine sim_ord_endR hR404 (by kernel_rfl) (fun hR405 => ?_)
      refine sim_run 4 [] (hR405.cast (by kernel_rfl)) (by kernel_rfl) trivial (fun ρ406 w406 hm406 hR406 => ?_)
      have hag := hag.moved (hm406.castL (by kernel_rfl))
      have hM := hM.moved (hm406.castL (by kernel_rfl))
      rotate_left
      have hM := hM.drew
      refine sim_ordN 6 [] hR401 (by kernel_rfl) trivial (fun ρ407 w407 hm407 hR407 => ?_)
      have hag := hag.moved (hm407.castL (by kernel_rfl))
      have hM := hM.moved (hm407.castL (by kernel_rfl))
      refine sim_ord_look (enc := encK) (encV := encLo) (mx := .v (Value.map (some g))) (kx := .agg [LS k1, LS k2]) (ok := true) (k1, k2) (.tup [.agg [LS xp, LS xa, LS xc, LI xn, .v (.slice Ax nx cx)], LB true]) (by kernel_rfl) ml_ty kt_key zero_lo hM rfl rfl hR407 (by unfold hasK; rw [hlk]; rfl) (fun hR408 => ?_)
      refine sim_ordN 5 [] hR408 (by kernel_rfl) trivial (fun ρ409 w409 hm409 hR409 => ?_)
      have hag := hag.moved (hm409.castL (by kernel_rfl))
      have hM := hM.moved (hm409.castL (by kernel_rfl))
      refine sim_ord_endR hR409 (by kernel_rfl) (fun hR410 => ?_)
      refine sim_run 4 [] (hR410.cast (by kernel_rfl)) (by kernel_rfl) trivial (fun ρ411 w411 hm411 hR411 => ?_)
      have hag := hag.moved (hm411.castL (by kernel_rfl))
      have hM := hM.moved (hm411.castL (by kernel_rfl))
      rotate_left
      
      all_goals
        refine sim_to (regK Try.f9 5) (tmplJ Try.f9.ntmps 0 [(0, .ptr 0 0), (3, LI a), (10, .ptr 1 0), (11, .ptr 2 0), (12, LB true)]) [⟨[.v (.map (some g))], false⟩, ⟨[LS k1, LS k2], true⟩, ⟨[LS xp, LS xa, LS xc, LI xn, .v (.slice Ax nx cx)], true⟩] (by kernel_rfl) (by kernel_rfl) (by kernel_rfl) (fun dd => ?_)
        refine repay_good (Rel.cast (by assumption) (by kernel_rfl)) (hM.castR (by kernel_rfl)) hin.1 hin.2 hamt.2 hok2 dd (fun ρ' rs' w' hR' hM' => hret1 _ w' rfl hin.1 hin.2 ?_ (by rw [hg]; exact hR'.keeps.kept))
        rw [clock_has hlk] at hM'
        have hrp : repL q (k1, k2) ⟨xp, xa, xc, xn, .slice Ax nx cx⟩ a = (if xn - a = 0 ∧ nx = 0 then del (k1, k2) (ins (k1, k2) ⟨xp, xa, xc, xn - a, .slice Ax nx cx⟩ q.ck q.l) else ins (k1, k2) ⟨xp, xa, xc, xn - a, .slice Ax nx cx⟩ q.ck q.l) := by unfold repL; rw [hnx]
        rw [hrp]
        refine h.turned (by rw [hg]; exact hR'.keeps.kept) (by rw [hg]; exact hM') (fun e0 he0 => ins_subK (n := q.ck) h.fine hlk (x' := ⟨xp, xa, xc, xn - a, .slice Ax nx cx⟩) rfl e0 ?_)
        split at he0
        · exact del_mem he0
        · exact he0
    · obtain ⟨ρ, e0, hR⟩ := h.open_ false [] (fun h => by cases h)
      have hM := LnV.over (h.sta (ρ := ρ) (rs := [⟨[.v (.map q.m)], false⟩]) (by kernel_rfl))
      refine sim_enter Try.func9 ρ [.ptr 0 0, LS k1, LS k2, LI a] [⟨[.v (.map q.m)], false⟩] (by kernel_rfl) (by simp only [denL, LV.den, Nm.at_, e0]) ?_
      have hag := hR.ag_ 1 (by kernel_rfl)
      refine sim_run 22 [] (hR.cast (by kernel_rfl)) (by kernel_rfl) trivial (fun ρ500 w500 hm500 hR500 => ?_)
      have hM := hM.moved (hm500.castL (by kernel_rfl))
      have hag := hag.moved (hm500.castL (by kernel_rfl))
      refine sim_drawF2 [(0, false), (1, false), (2, false), (3, false), (4, false)] (5, [(6, false), (7, false), (8, false), (9, true), (10, true), (11, false)]) (9, [(5, true), (6, false), (7, false), (8, false), (10, true), (11, false)]) (some 10) (by kernel_rfl) (by kernel_rfl) hR500 (fun hR501 => ?_) (fun hR501 => ?_)
      have hM := hM.drew
      refine sim_ordN 5 [] hR501 (by kernel_rfl) trivial (fun ρ502 w502 hm502 hR502 => ?_)
      have hag := hag.moved (hm502.castL (by kernel_rfl))
      have hM := hM.moved (hm502.castL (by kernel_rfl))
      refine sim_ord_look (enc := encK) (encV := encLo) (mx := .v (Value.map q.m)) (kx := .agg [LS k1, LS k2]) (ok := true) (k1, k2) (.tup [.agg [LS xp, LS xa, LS xc, LI xn, .v (.slice Ax nx cx)], LB true]) (by kernel_rfl) ml_ty kt_key zero_lo hM rfl rfl hR502 (by unfold hasK; rw [hlk]; rfl) (fun hR503 => ?_)
      refine sim_ordN 6 [] hR503 (by kernel_rfl) trivial (fun ρ504 w504 hm504 hR504 => ?_)
      have hag := hag.moved (hm504.castL (by kernel_rfl))
      have hM := hM.moved (hm504.castL (by kernel_rfl))
      refine sim_ord_endR hR504 (by kernel_rfl) (fun hR505 => ?_)
      refine sim_run 4 [] (hR505.cast (by kernel_rfl)) (by kernel_rfl) trivial (fun ρ506 w506 hm506 hR506 => ?_)
      have hag := hag.moved (hm506.castL (by kernel_rfl))
      have hM := hM.moved (hm506.castL (by kernel_rfl))
      rotate_left
      have hM := hM.drew
      refine sim_ordN 6 [] hR501 (by kernel_rfl) trivial (fun ρ507 w507 hm507 hR507 => ?_)
      have hag := hag.moved (hm507.castL (by kernel_rfl))
      have hM := hM.moved (hm507.castL (by kernel_rfl))
      refine sim_ord_look (enc := encK) (encV := encLo) (mx := .v (Value.map q.m)) (kx := .agg [LS k1, LS k2]) (ok := true) (k1, k2) (.tup [.agg [LS xp, LS xa, LS xc, LI xn, .v (.slice Ax nx cx)], LB true]) (by kernel_rfl) ml_ty kt_key zero_lo hM rfl rfl hR507 (by unfold hasK; rw [hlk]; rfl) (fun hR508 => ?_)
      refine sim_ordN 5 [] hR508 (by kernel_rfl) trivial (fun ρ509 w509 hm509 hR509 => ?_)
      have hag := hag.moved (hm509.castL (by kernel_rfl))
      have hM := hM.moved (hm509.castL (by kernel_rfl))
      refine sim_ord_endR hR509 (by kernel_rfl) (fun hR510 => ?_)
      refine sim_run 4 [] (hR510.cast (by kernel_rfl)) (by kernel_rfl) trivial (fun ρ511 w511 hm511 hR511 => ?_)
      have hag := hag.moved (hm511.castL (by kernel_rfl))
      have hM := hM.moved (hm511.castL (by kernel_rfl))
      rotate_left
      
      all_goals
        refine sim_to (regK Try.f9 5) (tmplJ Try.f9.ntmps 0 [(0, .ptr 0 0), (3, LI a), (10, .ptr 1 0), (11, .ptr 2 0), (12, LB true)]) [⟨[.v (.map q.m)], false⟩, ⟨[LS k1, LS k2], true⟩, ⟨[LS xp, LS xa, LS xc, LI xn, .v (.slice Ax nx cx)], true⟩] (by kernel_rfl) (by kernel_rfl) (by kernel_rfl) (fun dd => ?_)
        exact repay_bad (Rel.cast (by assumption) (by kernel_rfl)) hin dd (hret2 hin)
end

section
open Go Go.RowKit
def FreeR (q : LnP) (k : Key) (w : World) (e : Ending) (w' : World) : Prop :=
  (look k q.l = none ∧ e = .returned (.tuple #[.slice none 0 0, .int .i64 7]) ∧ Below w.heap.size w w') ∨
  (∃ x, look k q.l = some x ∧ x.amt ≠ 0 ∧ e = .returned (.tuple #[.slice none 0 0, .int .i64 20]) ∧ Below w.heap.size w w') ∨
  (∃ x, look k q.l = some x ∧ x.amt = 0 ∧ e = .returned (.tuple #[x.pv, .int .i64 0]) ∧ LnV ⟨q.b, q.m, del k q.l, q.ck, q.f⟩ w' ∧ w'.ownsRow 0 49 2 x.pv (q.f k).length (plV (q.f k)) ∧ Kept (fun y => y ∈ mT q.m) w w')
attribute [local irreducible] run goO leaveK someK nextK nextT nextOT nextOD loopBody loopRest loopK fillJ tmplOf tmplJ mergeT At AtO drawOk ordOf gateOf callC callO topOp topO idxOf appOf storeOf clearOf sliceOf calleeOf calleeO topQ idxQ newRowOf resL stepOp seek
set_option maxRecDepth 100000 in
set_option maxHeartbeats 4000000 in
theorem free_good {R : Ending → World → Prop} {ρ : Nm} {w0 w : World} {g : Nat} {l : List (Ent Key LoC)} {ck : Nat} {k1 k2 xp xa xc : ByteArray} {xn : Int} {Ax : Option Addr} {nx cx : Nat} (hR : Rel [g] w0 ρ [⟨[.v (.map (some g))], false⟩, ⟨[LS k1, LS k2], true⟩, ⟨[LS xp, LS xa, LS xc, LI xn, .v (.slice Ax nx cx)], true⟩] w) (hM : MpO encK encLo ρ [⟨[.v (.map (some g))], false⟩, ⟨[LS k1, LS k2], true⟩, ⟨[LS xp, LS xa, LS xc, LI xn, .v (.slice Ax nx cx)], true⟩] w (some g) l ck) (hz : xn = 0) (d : Nat → Value)
    (hret : ∀ (ρ' : Nm) (rs' : List Reg) (w' : World), Rel [g] w0 ρ' rs' w' → MpO encK encLo ρ' rs' w' (some g) (del (k1, k2) l) ck → R (.returned (.tuple #[.slice Ax nx cx, .int .i64 0])) w') :
    At Try.prog (bodyPost Try.prog Try.f10 R) ⟨regK Try.f10 5, fillJ (tmplJ Try.f10.ntmps 0 [(0, .ptr 0 0), (8, .ptr 1 0), (9, .ptr 2 0), (10, LB true)]) d 0, [⟨[.v (.map (some g))], false⟩, ⟨[LS k1, LS k2], true⟩, ⟨[LS xp, LS xa, LS xc, LI xn, .v (.slice Ax nx cx)], true⟩]⟩ ρ w := by
  have hgT : g ∈ [g] := List.mem_singleton.2 rfl
  subst hz
  refine sim_run 16 [] (hR.cast (by kernel_rfl)) (by kernel_rfl) trivial (fun ρ100 w100 hm100 hR100 => ?_)
  have hM := hM.moved (hm100.castL (by kernel_rfl))
  refine sim_draw [] (by kernel_rfl) (by kernel_rfl) hR100 (fun hR101 => ?_)
  have hM := hM.drew
  refine sim_ordN 5 [] hR101 (by kernel_rfl) trivial (fun ρ102 w102 hm102 hR102 => ?_)
  have hM := hM.moved (hm102.castL (by kernel_rfl))
  refine sim_ord_del (enc := encK) (encV := encLo) (mx := .v (Value.map (some g))) (kx := .agg [LS k1, LS k2]) (k1, k2) (by kernel_rfl) rfl ml_ty kt_key hM rfl rfl (.inl hgT) hR102 (fun w103 ht103 hM2 hR103 => ?_)
  have hM := hM2
  clear hM2
  refine sim_ord_endR hR103 (by kernel_rfl) (fun hR104 => ?_)
  refine sim_run 7 [] (hR104.cast (by kernel_rfl)) (by kernel_rfl) trivial (fun ρ105 w105 hm105 hR105 => ?_)
  have hM := hM.moved (hm105.castL (by kernel_rfl))
  refine sim_ret (.tup [.v (Value.slice Ax nx cx), LI 0]) hR105 (by kernel_rfl) (by kernel_rfl) ?_
  
  all_goals exact hret _ _ _ (by assumption) hM
set_option maxRecDepth 100000 in
set_option maxHeartbeats 4000000 in
theorem free_any (q : LnP) (k1 k2 : ByteArray) (w : World) (h : LnV q w) :
    Calls Try.prog 10 #[.pointer (some ⟨q.b, 0, none⟩), .string k1, .string k2] w (FreeR q (k1, k2) w) := by
  unfold FreeR
  cases hlk : look (k1, k2) q.l with
  | none =>
    obtain ⟨ρ, e0, hR⟩ := h.open_ false [] (fun h => by cases h)
    have hM := LnV.over (h.sta (ρ := ρ) (rs := [⟨[.v (.map q.m)], false⟩]) (by kernel_rfl))
    refine sim_enter Try.func10 ρ [.ptr 0 0, LS k1, LS k2] [⟨[.v (.map q.m)], false⟩] (by kernel_rfl) (by simp only [denL, LV.den, Nm.at_, e0]) ?_
    have hag := hR.ag_ 1 (by kernel_rfl)
    refine sim_run 22 [] (hR.cast (by kernel_rfl)) (by kernel_rfl) trivial (fun ρ200 w200 hm200 hR200 => ?_)
    have hM := hM.moved (hm200.castL (by kernel_rfl))
    have hag := hag.moved (hm200.castL (by kernel_rfl))
    refine sim_drawF2 [(0, false), (1, false), (2, false), (3, false), (4, false)] (5, [(6, false), (7, false), (8, false), (9, true), (10, true), (11, false)]) (9, [(5, true), (6, false), (7, false), (8, false), (10, true), (11, false)]) (some 10) (by kernel_rfl) (by kernel_rfl) hR200 (fun hR201 => ?_) (fun hR201 => ?_)
    have hM := hM.drew
    refine sim_ordN 5 [] hR201 (by kernel_rfl) trivial (fun ρ202 w202 hm202 hR202 => ?_)
    have hag := hag.moved (hm202.castL (by kernel_rfl))
    have hM := hM.moved (hm202.castL (by kernel_rfl))
    refine sim_ord_look (enc := encK) (encV := encLo) (mx := .v (Value.map q.m)) (kx := .agg [LS k1, LS k2]) (ok := true) (k1, k2) (.tup [.agg [LS ByteArray.empty, LS ByteArray.empty, LS ByteArray.empty, LI 0, .v (.slice none 0 0)], LB false]) (by kernel_rfl) ml_ty kt_key zero_lo hM rfl rfl hR202 (by unfold hasK; rw [hlk]; rfl) (fun hR203 => ?_)
    refine sim_ordN 6 [] hR203 (by kernel_rfl) trivial (fun ρ204 w204 hm204 hR204 => ?_)
    have hag := hag.moved (hm204.castL (by kernel_rfl))
    have hM := hM.moved (hm204.castL (by kernel_rfl))
    refine sim_ord_endR hR204 (by kernel_rfl) (fun hR205 => ?_)
    refine sim_run 14 [] (hR205.cast (by kernel_rfl)) (by kernel_rfl) trivial (fun ρ206 w206 hm206 hR206 => ?_)
    have hag := hag.moved (hm206.castL (by kernel_rfl))
    have hM := hM.moved (hm206.castL (by kernel_rfl))
    refine sim_ret (.tup [.v (Value.slice none 0 0), LI 7]) hR206 (by kernel_rfl) (by kernel_rfl) ?_
    rotate_left
    have hM := hM.drew
    refine sim_ordN 6 [] hR201 (by kernel_rfl) trivial (fun ρ207 w207 hm207 hR207 => ?_)
    have hag := hag.moved (hm207.castL (by kernel_rfl))
    have hM := hM.moved (hm207.castL (by kernel_rfl))
    refine sim_ord_look (enc := encK) (encV := encLo) (mx := .v (Value.map q.m)) (kx := .agg [LS k1, LS k2]) (ok := true) (k1, k2) (.tup [.agg [LS ByteArray.empty, LS ByteArray.empty, LS ByteArray.empty, LI 0, .v (.slice none 0 0)], LB false]) (by kernel_rfl) ml_ty kt_key zero_lo hM rfl rfl hR207 (by unfold hasK; rw [hlk]; rfl) (fun hR208 => ?_)
    refine sim_ordN 5 [] hR208 (by kernel_rfl) trivial (fun ρ209 w209 hm209 hR209 => ?_)
    have hag := hag.moved (hm209.castL (by kernel_rfl))
    have hM := hM.moved (hm209.castL (by kernel_rfl))
    refine sim_ord_endR hR209 (by kernel_rfl) (fun hR210 => ?_)
    refine sim_run 14 [] (hR210.cast (by kernel_rfl)) (by kernel_rfl) trivial (fun ρ211 w211 hm211 hR211 => ?_)
    have hag := hag.moved (hm211.castL (by kernel_rfl))
    have hM := hM.moved (hm211.castL (by kernel_rfl))
    refine sim_ret (.tup [.v (Value.slice none 0 0), LI 7]) hR211 (by kernel_rfl) (by kernel_rfl) ?_
    rotate_left
    
    all_goals exact .inl ⟨rfl, rfl, (by assumption : Rel _ _ _ _ _).toBelow⟩
  | some x =>
    obtain ⟨e, he, hek, hev⟩ := look_mem hlk
    have hrow := h.row e he
    rw [hev] at hrow
    rw [hek] at hrow
    generalize hnx : (q.f (k1, k2)).length = nx at hrow
    obtain ⟨xp, xa, xc, xn, xv⟩ := x
    obtain ⟨Ax, cx, hxv⟩ := own_row hrow
    have hxv : xv = .slice Ax nx cx := hxv
    subst hxv
    by_cases hz : xn = 0
    · obtain ⟨g, hg⟩ : ∃ g, q.m = some g := by
        cases hm : q.m with
        | some g => exact ⟨g, rfl⟩
        | none =>
          have := (h.mp.nil hm).1
          rw [this] at hlk
          cases hlk
      obtain ⟨ρ, e0, hR⟩ := h.open_ false [g] (fun h => by cases h)
      have hM := LnV.over (h.sta (ρ := ρ) (rs := [⟨[.v (.map q.m)], false⟩]) (by kernel_rfl))
      rw [hg] at hR hM
      refine sim_enter Try.func10 ρ [.ptr 0 0, LS k1, LS k2] [⟨[.v (.map (some g))], false⟩] (by kernel_rfl) (by simp only [denL, LV.den, Nm.at_, e0]) ?_
      have hag := hR.ag_ 1 (by kernel_rfl)
      refine sim_run 22 [] (hR.cast (by kernel_rfl)) (by kernel_rfl) trivial (fun ρ400 w400 hm400 hR400 => ?_)
      have hM := hM.moved (hm400.castL (by kernel_rfl))
      have hag := hag.moved (hm400.castL (by kernel_rfl))
      refine sim_drawF2 [(0, false), (1, false), (2, false), (3, false), (4, false)] (5, [(6, false), (7, false), (8, false), (9, true), (10, true), (11, false)]) (9, [(5, true), (6, false), (7, false), (8, false), (10, true), (11, false)]) (some 10) (by kernel_rfl) (by kernel_rfl) hR400 (fun hR401 => ?_) (fun hR401 => ?_)
      have hM := hM.drew
      refine sim_ordN 5 [] hR401 (by kernel_rfl) trivial (fun ρ402 w402 hm402 hR402 => ?_)
      have hag := hag.moved (hm402.castL (by kernel_rfl))
      have hM := hM.moved (hm402.castL (by kernel_rfl))
      refine sim_ord_look (enc := encK) (encV := encLo) (mx := .v (Value.map (some g))) (kx := .agg [LS k1, LS k2]) (ok := true) (k1, k2) (.tup [.agg [LS xp, LS xa, LS xc, LI xn, .v (.slice Ax nx cx)], LB true]) (by kernel_rfl) ml_ty kt_key zero_lo hM rfl rfl hR402 (by unfold hasK; rw [hlk]; rfl) (fun hR403 => ?_)
      refine sim_ordN 6 [] hR403 (by kernel_rfl) trivial (fun ρ404 w404 hm404 hR404 => ?_)
      have hag := hag.moved (hm404.castL (by kernel_rfl))
      have hM := hM.moved (hm404.castL (by kernel_rfl))
      refine sim_ord_endR hR404 (by kernel_rfl) (fun hR405 => ?_)
      refine sim_run 4 [] (hR405.cast (by kernel_rfl)) (by kernel_rfl) trivial (fun ρ406 w406 hm406 hR406 => ?_)
      have hag := hag.moved (hm406.castL (by kernel_rfl))
      have hM := hM.moved (hm406.castL (by kernel_rfl))
      rotate_left
      have hM := hM.drew
      refine sim_ordN 6 [] hR401 (by kernel_rfl) trivial (fun ρ407 w407 hm407 hR407 => ?_)
      have hag := hag.moved (hm407.castL (by kernel_rfl))
      have hM := hM.moved (hm407.castL (by kernel_rfl))
      refine sim_ord_look (enc := encK) (encV := encLo) (mx := .v (Value.map (some g))) (kx := .agg [LS k1, LS k2]) (ok := true) (k1, k2) (.tup [.agg [LS xp, LS xa, LS xc, LI xn, .v (.slice Ax nx cx)], LB true]) (by kernel_rfl) ml_ty kt_key zero_lo hM rfl rfl hR407 (by unfold hasK; rw [hlk]; rfl) (fun hR408 => ?_)
      refine sim_ordN 5 [] hR408 (by kernel_rfl) trivial (fun ρ409 w409 hm409 hR409 => ?_)
      have hag := hag.moved (hm409.castL (by kernel_rfl))
      have hM := hM.moved (hm409.castL (by kernel_rfl))
      refine sim_ord_endR hR409 (by kernel_rfl) (fun hR410 => ?_)
      refine sim_run 4 [] (hR410.cast (by kernel_rfl)) (by kernel_rfl) trivial (fun ρ411 w411 hm411 hR411 => ?_)
      have hag := hag.moved (hm411.castL (by kernel_rfl))
      have hM := hM.moved (hm411.castL (by kernel_rfl))
      rotate_left
      
      all_goals
        refine sim_to (regK Try.f10 5) (tmplJ Try.f10.ntmps 0 [(0, .ptr 0 0), (8, .ptr 1 0), (9, .ptr 2 0), (10, LB true)]) [⟨[.v (.map (some g))], false⟩, ⟨[LS k1, LS k2], true⟩, ⟨[LS xp, LS xa, LS xc, LI xn, .v (.slice Ax nx cx)], true⟩] (by kernel_rfl) (by kernel_rfl) (by kernel_rfl) (fun dd => ?_)
        refine free_good (Rel.cast (by assumption) (by kernel_rfl)) (hM.castR (by kernel_rfl)) hz dd (fun ρ' rs' w' hR' hM' => .inr (.inr ⟨_, rfl, hz, rfl, h.turned (by rw [hg]; exact hR'.keeps.kept) (by rw [hg]; exact hM') (fun e0 he0 => ⟨e0, del_mem he0, rfl, rfl⟩), ?_, by rw [hg]; exact hR'.keeps.kept⟩))
        exact own_kept hrow hR'.keeps.kept (fun y hy hm => own_not_map hrow (h.mp.is y (by rw [List.mem_singleton.1 hm]; exact hg)).1.blk hy.symm)
    · obtain ⟨ρ, e0, hR⟩ := h.open_ false [] (fun h => by cases h)
      have hM := LnV.over (h.sta (ρ := ρ) (rs := [⟨[.v (.map q.m)], false⟩]) (by kernel_rfl))
      refine sim_enter Try.func10 ρ [.ptr 0 0, LS k1, LS k2] [⟨[.v (.map q.m)], false⟩] (by kernel_rfl) (by simp only [denL, LV.den, Nm.at_, e0]) ?_
      have hag := hR.ag_ 1 (by kernel_rfl)
      refine sim_run 22 [] (hR.cast (by kernel_rfl)) (by kernel_rfl) trivial (fun ρ500 w500 hm500 hR500 => ?_)
      have hM := hM.moved (hm500.castL (by kernel_rfl))
      have hag := hag.moved (hm500.castL (by kernel_rfl))
      refine sim_drawF2 [(0, false), (1, false), (2, false), (3, false), (4, false)] (5, [(6, false), (7, false), (8, false), (9, true), (10, true), (11, false)]) (9, [(5, true), (6, false), (7, false), (8, false), (10, true), (11, false)]) (some 10) (by kernel_rfl) (by kernel_rfl) hR500 (fun hR501 => ?_) (fun hR501 => ?_)
      have hM := hM.drew
      refine sim_ordN 5 [] hR501 (by kernel_rfl) trivial (fun ρ502 w502 hm502 hR502 => ?_)
      have hag := hag.moved (hm502.castL (by kernel_rfl))
      have hM := hM.moved (hm502.castL (by kernel_rfl))
      refine sim_ord_look (enc := encK) (encV := encLo) (mx := .v (Value.map q.m)) (kx := .agg [LS k1, LS k2]) (ok := true) (k1, k2) (.tup [.agg [LS xp, LS xa, LS xc, LI xn, .v (.slice Ax nx cx)], LB true]) (by kernel_rfl) ml_ty kt_key zero_lo hM rfl rfl hR502 (by unfold hasK; rw [hlk]; rfl) (fun hR503 => ?_)
      refine sim_ordN 6 [] hR503 (by kernel_rfl) trivial (fun ρ504 w504 hm504 hR504 => ?_)
      have hag := hag.moved (hm504.castL (by kernel_rfl))
      have hM := hM.moved (hm504.castL (by kernel_rfl))
      refine sim_ord_endR hR504 (by kernel_rfl) (fun hR505 => ?_)
      refine sim_run 16 [] (hR505.cast (by kernel_rfl)) (by kernel_rfl) trivial (fun ρ506 w506 hm506 hR506 => ?_)
      have hag := hag.moved (hm506.castL (by kernel_rfl))
      have hM := hM.moved (hm506.castL (by kernel_rfl))
      refine sim_know 28 (xn != 0) true (by kernel_rfl) (bne_iff_ne.2 hz) ?_
      refine sim_run 6 [] (hR506.cast (by kernel_rfl)) (by kernel_rfl) trivial (fun ρ507 w507 hm507 hR507 => ?_)
      have hag := hag.moved (hm507.castL (by kernel_rfl))
      have hM := hM.moved (hm507.castL (by kernel_rfl))
      refine sim_ret (.tup [.v (Value.slice none 0 0), LI 20]) hR507 (by kernel_rfl) (by kernel_rfl) ?_
      rotate_left
      have hM := hM.drew
      refine sim_ordN 6 [] hR501 (by kernel_rfl) trivial (fun ρ508 w508 hm508 hR508 => ?_)
      have hag := hag.moved (hm508.castL (by kernel_rfl))
      have hM := hM.moved (hm508.castL (by kernel_rfl))
      refine sim_ord_look (enc := encK) (encV := encLo) (mx := .v (Value.map q.m)) (kx := .agg [LS k1, LS k2]) (ok := true) (k1, k2) (.tup [.agg [LS xp, LS xa, LS xc, LI xn, .v (.slice Ax nx cx)], LB true]) (by kernel_rfl) ml_ty kt_key zero_lo hM rfl rfl hR508 (by unfold hasK; rw [hlk]; rfl) (fun hR509 => ?_)
      refine sim_ordN 5 [] hR509 (by kernel_rfl) trivial (fun ρ510 w510 hm510 hR510 => ?_)
      have hag := hag.moved (hm510.castL (by kernel_rfl))
      have hM := hM.moved (hm510.castL (by kernel_rfl))
      refine sim_ord_endR hR510 (by kernel_rfl) (fun hR511 => ?_)
      refine sim_run 16 [] (hR511.cast (by kernel_rfl)) (by kernel_rfl) trivial (fun ρ512 w512 hm512 hR512 => ?_)
      have hag := hag.moved (hm512.castL (by kernel_rfl))
      have hM := hM.moved (hm512.castL (by kernel_rfl))
      refine sim_know 28 (xn != 0) true (by kernel_rfl) (bne_iff_ne.2 hz) ?_
      refine sim_run 6 [] (hR512.cast (by kernel_rfl)) (by kernel_rfl) trivial (fun ρ513 w513 hm513 hR513 => ?_)
      have hag := hag.moved (hm513.castL (by kernel_rfl))
      have hM := hM.moved (hm513.castL (by kernel_rfl))
      refine sim_ret (.tup [.v (Value.slice none 0 0), LI 20]) hR513 (by kernel_rfl) (by kernel_rfl) ?_
      rotate_left
      
      all_goals exact .inr (.inl ⟨_, rfl, hz, rfl, (by assumption : Rel _ _ _ _ _).toBelow⟩)
end

section
open Go Go.RowKit
attribute [local irreducible] run goO leaveK someK nextK nextT nextOT nextOD loopBody loopRest loopK fillJ tmplOf tmplJ mergeT At AtO drawOk ordOf gateOf callC callO topOp topO idxOf appOf storeOf clearOf sliceOf calleeOf calleeO topQ idxQ newRowOf resL stepOp seek
set_option maxRecDepth 100000 in
set_option maxHeartbeats 4000000 in
theorem newL_any (w : World) : Calls Try.prog 7 #[] w fun e w' => ∃ g, e = .returned (.pointer (some ⟨g, 0, none⟩)) ∧ LnV ⟨g, none, [], 0, fun _ => []⟩ w' ∧ w.heap.size ≤ g ∧ Below w.heap.size w w' := by
  refine sim_enter Try.func7 ρ0 [] [] (by kernel_rfl) rfl ?_
  have hR := Rel.start [] w ρ0
  refine sim_run 7 [] (hR.cast (by kernel_rfl)) (by kernel_rfl) trivial (fun ρ100 w100 hm100 hR100 => ?_)
  
  have hsz := ((by assumption : Rel _ _ _ _ _)).keeps.size
  refine sim_box (e := 52) (x := .agg [.v (.map none)]) 0 (by kernel_rfl) (by kernel_rfl) (by assumption : Rel _ _ _ _ _) (by kernel_rfl) (fun ρ2 w2 hm2 e2 hR2 hb2 => ?_)
  have hz : Sta (fun x => x = w100.heap.size) (fun w1 => Blk w1 w100.heap.size 52 #[.map none]) ρ2 [] w2 := ⟨hb2, fun _ _ hw => noW0 hw, fun x hx => by rw [hx]; exact hb2.lt, fun w1 w3 S' h _ hk hn => h.kept hk (hn _ rfl)⟩
  have hRz : Rel [] w ρ2 [⟨[], false⟩] w2 := (hR2.forget fun _ => true).cast (by kernel_rfl)
  have hz : Sta (fun x => x = w100.heap.size) (fun w1 => Blk w1 w100.heap.size 52 #[.map none]) ρ2 [⟨[], false⟩] w2 := hz.over fun _ _ hw => wrS_allRo (rs := [⟨[], false⟩]) rfl hw
  refine sim_rs [⟨[], false⟩] ?_
  have hag := hRz.ag_ 1 (by kernel_rfl)
  clear hR2 hm2 hb2
  refine sim_run 2 [] (hRz.cast (by kernel_rfl)) (by kernel_rfl) trivial (fun ρ200 w200 hm200 hR200 => ?_)
  have hz := hz.moved (hm200.castL (by kernel_rfl))
  have hag := hag.moved (hm200.castL (by kernel_rfl))
  refine sim_ret (.ptr 0 0) hR200 (by kernel_rfl) (by kernel_rfl) ?_
  
  refine ⟨w100.heap.size, by simp only [LV.den, Nm.at_, hag.at_ 0 (by omega), e2], ⟨hz.is, MpO.none_, fun _ h => absurd h List.not_mem_nil⟩, hsz, ((by assumption : Rel _ _ _ _ _)).toBelow⟩
/-- a loan, told -/
def LoanR (q : LnP) (k : Key) (w : World) (e : Ending) (w' : World) : Prop :=
  ∃ pv, e = .returned (.tuple #[encLo { q.at_ k with pv := pv }, .bool (hasK k q.l)]) ∧ w'.ownsRow w.heap.size 49 2 pv (if hasK k q.l = true then q.f k else []).length (plV (if hasK k q.l = true then q.f k else [])) ∧ Below w.heap.size w w'
set_option maxRecDepth 100000 in
set_option maxHeartbeats 4000000 in
theorem loan_any (q : LnP) (k1 k2 : ByteArray) (w : World) (h : LnV q w) (hok : LnOk 100000 100000 q) :
    Calls Try.prog 15 #[.pointer (some ⟨q.b, 0, none⟩), .string k1, .string k2] w (LoanR q (k1, k2) w) := by
  obtain ⟨ρ, e0, hR⟩ := h.open_ false [] (fun h => by cases h)
  have hM := LnV.over (h.sta (ρ := ρ) (rs := [⟨[.v (.map q.m)], false⟩]) (by kernel_rfl))
  refine sim_enter Try.func15 ρ [.ptr 0 0, LS k1, LS k2] [⟨[.v (.map q.m)], false⟩] (by kernel_rfl) (by simp only [denL, LV.den, Nm.at_, e0]) ?_
  have hag := hR.ag_ 1 (by kernel_rfl)
  obtain ⟨xp, xa, xc, xn, Ax, nx, cx, hat, hrow, hnl⟩ : ∃ xp xa xc xn Ax nx cx, q.at_ (k1, k2) = ⟨xp, xa, xc, xn, .slice Ax nx cx⟩ ∧ w.ownsRow 0 49 2 (.slice Ax nx cx) nx (plV (if hasK (k1, k2) q.l = true then q.f (k1, k2) else [])) ∧ (if hasK (k1, k2) q.l = true then q.f (k1, k2) else []).length = nx ∧ nx ≤ 100000 := by
    cases hlk : look (k1, k2) q.l with
    | none =>
      have hh : hasK (k1, k2) q.l = false := by unfold hasK; rw [hlk]; rfl
      rw [hh]
      exact ⟨_, _, _, _, none, 0, 0, by unfold LnP.at_; rw [hlk]; rfl, World.ownsRow_nil _ _ _ _, rfl, Nat.zero_le _⟩
    | some x =>
      have hh : hasK (k1, k2) q.l = true := by unfold hasK; rw [hlk]; rfl
      rw [hh, if_pos rfl]
      obtain ⟨e, he, hek, hev⟩ := look_mem hlk
      have hrow := h.row e he
      have hl := hok.pls e he
      rw [hev, hek] at hrow
      rw [hek] at hl
      obtain ⟨xp, xa, xc, xn, xv⟩ := x
      obtain ⟨Ax, cx, hxv⟩ := own_row hrow
      have hxv : xv = .slice Ax (q.f (k1, k2)).length cx := hxv
      subst hxv
      exact ⟨_, _, _, _, Ax, _, cx, by unfold LnP.at_; rw [hlk]; rfl, hrow, rfl, hl⟩
  unfold LoanR
  generalize (if hasK (k1, k2) q.l = true then q.f (k1, k2) else []) = ps at *
  rw [hat]
  unfold LnP.at_ at hat
  generalize hb : hasK (k1, k2) q.l = b at *
  obtain ⟨rfl, hnl⟩ := hnl
  have hr := Own.ro hR hrow (by kernel_rfl)
  refine sim_run 22 [] (hR.cast (by kernel_rfl)) (by kernel_rfl) trivial (fun ρ1100 w1100 hm1100 hR1100 => ?_)
  have hM := hM.moved (hm1100.castL (by kernel_rfl))
  have hag := hag.moved (hm1100.castL (by kernel_rfl))
  have hr := hr.moved (hm1100.castL (by kernel_rfl))
  refine sim_look (enc := encK) (encV := encLo) (mx := .v (Value.map q.m)) (kx := .agg [LS k1, LS k2]) (ok := true) (k1, k2) (.tup [.agg [LS xp, LS xa, LS xc, LI xn, .v (.slice Ax ps.length cx)], LB b]) (by kernel_rfl) ml_ty kt_key zero_lo hM rfl rfl (by rw [hb, hat]; rfl) ?_
  refine sim_run 10 [] (hR1100.cast (by kernel_rfl)) (by kernel_rfl) trivial (fun ρ1102 w1102 hm1102 hR1102 => ?_)
  have hM := hM.moved (hm1102.castL (by kernel_rfl))
  have hag := hag.moved (hm1102.castL (by kernel_rfl))
  have hr := hr.moved (hm1102.castL (by kernel_rfl))
  refine sim_call 21 [.agg [LS xp, LS xa, LS xc, LI xn, .v (Value.slice Ax ps.length cx)]] (by kernel_rfl) ?_
  refine Calls.mono (ownL_any (⟨xp, xa, xc, xn, .slice Ax ps.length cx⟩) (ps) (0) _ (hr.own) ((Nat.zero_le _)) ((by omega))) ?_
  rintro e1103 w1103 ⟨pv, rfl, hpo, hb1103⟩
  obtain ⟨Ap, cq, rfl⟩ := own_row hpo
  have hsz := (hR1102).keeps.size
  have hpo := Own.start hR1102 hpo
  have hR1103 := (hR1102).below hb1103
  have hM := hM.below hb1103
  have hr := hr.below hb1103
  refine Back.of (.agg [LS xp, LS xa, LS xc, LI xn, .v (.slice Ap ps.length cq)]) hR1103 rfl ?_
  refine sim_run 4 [] (hR1103.cast (by kernel_rfl)) (by kernel_rfl) trivial (fun ρ1104 w1104 hm1104 hR1104 => ?_)
  have hag := hag.moved (hm1104.castL (by kernel_rfl))
  have hpo := hpo.moved (hm1104.castL (by kernel_rfl))
  have hM := hM.moved (hm1104.castL (by kernel_rfl))
  have hr := hr.moved (hm1104.castL (by kernel_rfl))
  refine sim_ret (.tup [.agg [LS xp, LS xa, LS xc, LI xn, .v (Value.slice Ap ps.length cq)], LB b]) hR1104 (by kernel_rfl) (by kernel_rfl) ?_
  
  exact ⟨_, rfl, own_base hpo.own hsz, ((by assumption : Rel _ _ _ _ _)).toBelow⟩
theorem repay_nil (k1 k2 : ByteArray) (a : Int) (w : World) : Calls Try.prog 9 #[.pointer none, .string k1, .string k2, .int .i64 a] w fun e w' => e = .returned (.tuple #[.int .i64 0, .int .i64 1]) ∧ Below w.heap.size w w' := by
  refine sim_enter Try.func9 ρ0 [.v (.pointer none), LS k1, LS k2, LI a] [] (by kernel_rfl) rfl ?_
  have hR := Rel.start [] w ρ0
  refine sim_run 17 [] (hR.cast (by kernel_rfl)) (by kernel_rfl) trivial (fun ρ2100 w2100 hm2100 hR2100 => ?_)
  refine sim_ret (.tup [LI 0, LI 1]) hR2100 (by kernel_rfl) (by kernel_rfl) ?_
  exact ⟨rfl, hR2100.toBelow⟩
  
theorem free_nil (k1 k2 : ByteArray) (w : World) : Calls Try.prog 10 #[.pointer none, .string k1, .string k2] w fun e w' => e = .returned (.tuple #[.slice none 0 0, .int .i64 1]) ∧ Below w.heap.size w w' := by
  refine sim_enter Try.func10 ρ0 [.v (.pointer none), LS k1, LS k2] [] (by kernel_rfl) rfl ?_
  have hR := Rel.start [] w ρ0
  refine sim_run 17 [] (hR.cast (by kernel_rfl)) (by kernel_rfl) trivial (fun ρ2200 w2200 hm2200 hR2200 => ?_)
  refine sim_ret (.tup [.v (Value.slice none 0 0), LI 1]) hR2200 (by kernel_rfl) (by kernel_rfl) ?_
  exact ⟨rfl, hR2200.toBelow⟩
  
theorem loan_nil (k1 k2 : ByteArray) (w : World) : Calls Try.prog 15 #[.pointer none, .string k1, .string k2] w fun e w' => e = .returned (.tuple #[encLo noLo, .bool false]) ∧ Below w.heap.size w w' := by
  refine sim_enter Try.func15 ρ0 [.v (.pointer none), LS k1, LS k2] [] (by kernel_rfl) rfl ?_
  have hR := Rel.start [] w ρ0
  refine sim_run 18 [] (hR.cast (by kernel_rfl)) (by kernel_rfl) trivial (fun ρ2300 w2300 hm2300 hR2300 => ?_)
  refine sim_ret (.tup [.agg [LS (ByteArray.mk #[]), LS (ByteArray.mk #[]), LS (ByteArray.mk #[]), LI 0, .v (Value.slice none 0 0)], LB false]) hR2300 (by kernel_rfl) (by kernel_rfl) ?_
  exact ⟨rfl, hR2300.toBelow⟩
  
theorem loans_nil (A : Option Addr) (n cp : Nat) (w : World) : Calls Try.prog 8 #[.pointer none, .slice A n cp] w fun e w' => e = .returned (.slice none 0 0) ∧ Below w.heap.size w w' := by
  refine sim_enter Try.func8 ρ0 [.v (.pointer none), .v (.slice A n cp)] [] (by kernel_rfl) rfl ?_
  have hR := Rel.start [] w ρ0
  refine sim_run 15 [] (hR.cast (by kernel_rfl)) (by kernel_rfl) trivial (fun ρ2400 w2400 hm2400 hR2400 => ?_)
  refine sim_ret (.v (Value.slice none 0 0)) hR2400 (by kernel_rfl) (by kernel_rfl) ?_
  exact ⟨rfl, hR2400.toBelow⟩
  
theorem used_nil (p : ByteArray) (w : World) : Calls Try.prog 14 #[.pointer none, .string p] w fun e w' => e = .returned (.int .i64 0) ∧ Below w.heap.size w w' := by
  refine sim_enter Try.func14 ρ0 [.v (.pointer none), LS p] [] (by kernel_rfl) rfl ?_
  have hR := Rel.start [] w ρ0
  refine sim_run 18 [] (hR.cast (by kernel_rfl)) (by kernel_rfl) trivial (fun ρ2500 w2500 hm2500 hR2500 => ?_)
  
  refine sim_call 8 [.v (.pointer none), .slc 1 0 1 1] (by kernel_rfl) ?_
  refine (loans_nil _ 1 1 _).mono ?_
  rintro e2 w2 ⟨rfl, hb2⟩
  have hR2 := ((by assumption : Rel _ _ _ _ _)).below hb2
  refine Back.of (.v (.slice none 0 0)) hR2 rfl ?_
  refine sim_run 4 [] (hR2.cast (by kernel_rfl)) (by kernel_rfl) trivial (fun ρ2600 w2600 hm2600 hR2600 => ?_)
  refine sim_unroll 1 (by kernel_rfl) ?_
  refine sim_run 13 [] (hR2600.cast (by kernel_rfl)) (by kernel_rfl) trivial (fun ρ2601 w2601 hm2601 hR2601 => ?_)
  refine sim_ret (LI 0) hR2601 (by kernel_rfl) (by kernel_rfl) ?_
  exact ⟨rfl, hR2601.toBelow⟩
  
theorem pledged_nil (p s : ByteArray) (w : World) : Calls Try.prog 16 #[.pointer none, .string p, .string s] w fun e w' => e = .returned (.int .i64 0) ∧ Below w.heap.size w w' := by
  refine sim_enter Try.func16 ρ0 [.v (.pointer none), LS p, LS s] [] (by kernel_rfl) rfl ?_
  have hR := Rel.start [] w ρ0
  refine sim_run 16 [] (hR.cast (by kernel_rfl)) (by kernel_rfl) trivial (fun ρ2700 w2700 hm2700 hR2700 => ?_)
  refine sim_call 8 [.v (Value.pointer none), .v (Value.slice none 0 0)] (by kernel_rfl) ?_
  refine Calls.mono (loans_nil _ _ _ _) ?_
  rintro e2701 w2701 ⟨rfl, hb2701⟩
  have hR2701 := hR2700.below hb2701
  refine Back.of (.v (Value.slice none 0 0)) hR2701 rfl ?_
  refine sim_run 4 [] (hR2701.cast (by kernel_rfl)) (by kernel_rfl) trivial (fun ρ2702 w2702 hm2702 hR2702 => ?_)
  refine sim_unroll 1 (by kernel_rfl) ?_
  refine sim_run 13 [] (hR2702.cast (by kernel_rfl)) (by kernel_rfl) trivial (fun ρ2703 w2703 hm2703 hR2703 => ?_)
  refine sim_ret (LI 0) hR2703 (by kernel_rfl) (by kernel_rfl) ?_
  exact ⟨rfl, hR2703.toBelow⟩
  
end
end Go.Proofs.Ytioehmngkoffaaa
