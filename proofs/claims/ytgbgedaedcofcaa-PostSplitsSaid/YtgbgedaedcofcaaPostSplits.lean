/-
  Two transactions one behind the other, if both are OK, end as one of both, if that is; what is OK in pieces moves the same sums: for every list of steps and every two transactions.
-/
import Derived.Test.YtgbgedaedcofcaaPostSplits2
namespace Go.Proofs.Ytgbgedaedcofcaa
open Go Go.RowKit
attribute [local irreducible] run goO leaveK someK nextK nextT nextOT nextOD loopBody loopRest loopK fillJ tmplOf tmplJ mergeT At AtO drawOk ordOf gateOf callC callO topOp topO idxOf appOf storeOf clearOf sliceOf calleeOf calleeO topQ idxQ newRowOf resL stepOp seek
set_option maxRecDepth 100000 in
set_option maxHeartbeats 4000000 in
theorem splits_loop {ρ : Nm} {w0 w : World} {B ga gb g1 g2 n cp np cpp nq cpq M : Nat} {A Ap Aq : Option Addr} {os : List OpL} {p q : List OpP} (hM : M ≤ 281474976710656) (h : OpLs w0 A n M os) (hn100 : os.length ≤ 100) (kp : PsIn w0 M Ap np cpp p) (kq : PsIn w0 M Aq nq cpq q) (hnp : np ≤ 60) (hnq : nq ≤ 60) (hR : Rel [] w0 ρ [⟨ptrG g1, false⟩, ⟨ptrG g2, false⟩] w) (ht : LdT ρ [⟨ptrG g1, false⟩, ⟨ptrG g2, false⟩] w B ga gb (newS g1) (newS g2)) (hBw : w0.heap.size ≤ B) (d : Nat → Value) :
    At Try.prog (bodyPost Try.prog Try.f8 (fun e w' => e = .returned (.bool true) ∧ Below w0.heap.size w0 w')) ⟨regK Try.f8 6, fillJ (tmplJ Try.f8.ntmps 0 [(0, .v (.slice A n cp)), (1, .v (.slice Ap np cpp)), (2, .v (.slice Aq nq cpq)), (7, .ptr 0 0), (8, .ptr 1 0)]) d 0, [⟨ptrG g1, false⟩, ⟨ptrG g2, false⟩]⟩ ρ w := by
  have hmax := h.max
  have hlen := h.len
  have e0 := ht.ata
  have e1 := ht.atb
  have hag := Rel.ag_ hR 2 (by kernel_rfl)
  refine sim_run 3 [] (hR.cast (by kernel_rfl)) (by kernel_rfl) trivial (fun ρ100 w100 hm100 hR100 => ?_)
  have ht := ht.moved (hm100.castL (by kernel_rfl))
  have hag := hag.moved (hm100.castL (by kernel_rfl))
  
  refine sim_loop (ι := Nat) (T := []) (w0 := w0) 0 [0, 1, 2, 7, 8] (fun i => [(9, LI i)]) (fun _ => [⟨ptrG g1, false⟩, ⟨ptrG g2, false⟩]) (fun i w1 => i ≤ n ∧ ∃ sa sb, LdT ρ100 [⟨ptrG g1, false⟩, ⟨ptrG g2, false⟩] w1 B ga gb sa sb ∧ sa.g = g1 ∧ sb.g = g2 ∧ Lvl sa ∧ Lvl sb ∧ Eqv sa sb ∧ sb.lb = [] ∧ sa.l.length ≤ i) (fun i => n - i) (by kernel_rfl) (by kernel_rfl) ((by assumption : Rel _ _ _ _ _).cast (by kernel_rfl)) ⟨Nat.zero_le _, newS g1, newS g2, ht.castR (by kernel_rfl), rfl, rfl, lvl_new g1, lvl_new g2, eqv_new g1 g2, rfl, Nat.zero_le _⟩ ?_
  clear ht hag hR100 hm100 hR e0 e1
  rintro i d w2 hR2 ⟨hi, sa, sb, ht, hsA, hsB, hvA, hvB, hev, hlb, hll⟩
  have e0 := ht.ata
  have e1 := ht.atb
  have hag1 := hR2.ag_ 2 (by kernel_rfl)
  by_cases hlt : i < n
  · obtain ⟨o, ho, hok, hx⟩ := h.get hlt
    have hac : o.acc.size ≤ 281474976710656 := Nat.le_trans hok.acc hM
    have has : o.asset.size ≤ 281474976710656 := Nat.le_trans hok.asset hM
    have hok1 := hok.amt
    have hok2 := hok.kind
    unfold Is64 at hok1 hok2
    have hfA := ht.a.pos.mp.fine
    have hfB := ht.b.pos.mp.fine
    refine sim_see o.cells i 2 (by kernel_rfl) hx h.rd (opL_len os) (by omega) hlt (Nat.le_refl _) (by simp) hR2 (by kernel_rfl) (fun ga0 oa ρE eA hgT hgl hmE eE hRE => ?_)
    subst eA
    have ht := ht.moved hmE
    have hag1 := hag1.moved hmE
    have hag := hRE.ag_ 3 (by kernel_rfl)
    have e0 := ht.ata
    have e1 := ht.atb
    by_cases h3 : o.kind = 3
    · refine sim_run 8 [] (hRE.cast (by kernel_rfl)) (by kernel_rfl) trivial (fun ρ200 w200 hm200 hR200 => ?_)
      have ht := ht.moved (hm200.castL (by kernel_rfl))
      have hag1 := hag1.moved (hm200.castL (by kernel_rfl))
      have hag := hag.moved (hm200.castL (by kernel_rfl))
      refine sim_know 40 (decide ((↑i : Int) < (↑n : Int))) true (by kernel_rfl) (decide_eq_true (by omega)) ?_
      refine sim_run 8 [] (hR200.cast (by kernel_rfl)) (by kernel_rfl) trivial (fun ρ201 w201 hm201 hR201 => ?_)
      have ht := ht.moved (hm201.castL (by kernel_rfl))
      have hag1 := hag1.moved (hm201.castL (by kernel_rfl))
      have hag := hag.moved (hm201.castL (by kernel_rfl))
      refine sim_place (.v (.slice (some ⟨ga0, oa, none⟩) n cp)) n 5 i 2 0 (by kernel_rfl) (by omega) (by omega) rfl (by simp only [Nm.at_, hag.at_ 2 (by omega), eE, Nat.add_zero, Int.toNat_natCast]) ?_
      refine sim_run 4 [] (hR201.cast (by kernel_rfl)) (by kernel_rfl) trivial (fun ρ203 w203 hm203 hR203 => ?_)
      have ht := ht.moved (hm203.castL (by kernel_rfl))
      have hag1 := hag1.moved (hm203.castL (by kernel_rfl))
      have hag := hag.moved (hm203.castL (by kernel_rfl))
      refine sim_know 48 (o.kind == 3) true (by kernel_rfl) (decide_eq_true (by omega)) ?_
      refine sim_run 2 [] (hR203.cast (by kernel_rfl)) (by kernel_rfl) trivial (fun ρ204 w204 hm204 hR204 => ?_)
      have ht := ht.moved (hm204.castL (by kernel_rfl))
      have hag1 := hag1.moved (hm204.castL (by kernel_rfl))
      have hag := hag.moved (hm204.castL (by kernel_rfl))
      refine sim_draw [] (by kernel_rfl) (by kernel_rfl) hR204 (fun hR205 => ?_)
      have ht := ht.drew
      refine sim_ordN 3 [] hR205 (by kernel_rfl) trivial (fun ρ206 w206 hm206 hR206 => ?_)
      have hag1 := hag1.moved (hm206.castL (by kernel_rfl))
      have hag := hag.moved (hm206.castL (by kernel_rfl))
      have ht := ht.moved (hm206.castL (by kernel_rfl))
      refine sim_ord_index (.v (.slice (some ⟨ga0, oa, none⟩) n cp)) n 5 i 2 0 (by kernel_rfl) (by omega) (by omega) rfl hR206 (by simp only [Nm.at_, hag.at_ 2 (by omega), eE, Nat.add_zero, Int.toNat_natCast]) (fun hR207 => ?_)
      refine sim_ordN 4 [] hR207 (by kernel_rfl) trivial (fun ρ208 w208 hm208 hR208 => ?_)
      have hag1 := hag1.moved (hm208.castL (by kernel_rfl))
      have hag := hag.moved (hm208.castL (by kernel_rfl))
      have ht := ht.moved (hm208.castL (by kernel_rfl))
      refine sim_ord_index (.v (.slice (some ⟨ga0, oa, none⟩) n cp)) n 5 i 2 0 (by kernel_rfl) (by omega) (by omega) rfl hR208 (by simp only [Nm.at_, hag.at_ 2 (by omega), eE, Nat.add_zero, Int.toNat_natCast]) (fun hR209 => ?_)
      refine sim_ordN 2 [] hR209 (by kernel_rfl) trivial (fun ρ210 w210 hm210 hR210 => ?_)
      have hag1 := hag1.moved (hm210.castL (by kernel_rfl))
      have hag := hag.moved (hm210.castL (by kernel_rfl))
      have ht := ht.moved (hm210.castL (by kernel_rfl))
      refine sim_ord_call (T := []) (w0 := w0) 25 [.ptr 0 0, .agg [LS o.acc, LS o.asset], LI o.amt] (by kernel_rfl) ?_
      have ez0_211 := (hag.at_ 0 (by omega)).trans e0
      simp only [denL, LV.den, Nm.at_, ez0_211, Nat.add_zero]
      refine Calls.mono (issue_any _ (ga) (sa) _ _ _ _ ht.a (by assumption) (by assumption) (by assumption) (lvl_hi hvA ht.a o.asset)) ?_
      rintro e211 w211 ⟨rfl, sa', hl211, hisA, hk211, hh211⟩
      obtain ⟨ht2, hQ211⟩ := ht.afterA (hR210).rel hBw hl211 hisA.g hk211 hh211 (by rw [hsA]; kernel_rfl) [2] (by kernel_rfl) (by intro q hq; simp only [List.mem_singleton] at hq; subst hq; rw [hag.at_ 2 (by omega), eE]; exact Nat.lt_of_lt_of_le hgl hBw)
      clear ht
      have ht := ht2
      clear ht2
      have hR211 := (hR210).with hQ211 (LI (issC sa o.acc o.asset o.amt))
      refine BackO.of (LI (issC sa o.acc o.asset o.amt)) hR211 rfl ?_
      refine sim_ord_endR hR211 (by kernel_rfl) (fun hR212 => ?_)
      
      refine sim_draw [] (by kernel_rfl) (by kernel_rfl) (hR212.cast (by kernel_rfl)) (fun hR300 => ?_)
      have hl211 := hl211.drew
      have ht := ht.drew
      refine sim_ordN 3 [] hR300 (by kernel_rfl) trivial (fun ρ301 w301 hm301 hR301 => ?_)
      have hag1 := hag1.moved (hm301.castL (by kernel_rfl))
      have hag := hag.moved (hm301.castL (by kernel_rfl))
      have ht := ht.moved (hm301.castL (by kernel_rfl))
      refine sim_ord_index (.v (.slice (some ⟨ga0, oa, none⟩) n cp)) n 5 i 2 0 (by kernel_rfl) (by omega) (by omega) rfl hR301 (by simp only [Nm.at_, hag.at_ 2 (by omega), eE, Nat.add_zero, Int.toNat_natCast]) (fun hR302 => ?_)
      refine sim_ordN 4 [] hR302 (by kernel_rfl) trivial (fun ρ303 w303 hm303 hR303 => ?_)
      have hag1 := hag1.moved (hm303.castL (by kernel_rfl))
      have hag := hag.moved (hm303.castL (by kernel_rfl))
      have ht := ht.moved (hm303.castL (by kernel_rfl))
      refine sim_ord_index (.v (.slice (some ⟨ga0, oa, none⟩) n cp)) n 5 i 2 0 (by kernel_rfl) (by omega) (by omega) rfl hR303 (by simp only [Nm.at_, hag.at_ 2 (by omega), eE, Nat.add_zero, Int.toNat_natCast]) (fun hR304 => ?_)
      refine sim_ordN 2 [] hR304 (by kernel_rfl) trivial (fun ρ305 w305 hm305 hR305 => ?_)
      have hag1 := hag1.moved (hm305.castL (by kernel_rfl))
      have hag := hag.moved (hm305.castL (by kernel_rfl))
      have ht := ht.moved (hm305.castL (by kernel_rfl))
      refine sim_ord_call (T := []) (w0 := w0) 25 [.ptr 1 0, .agg [LS o.acc, LS o.asset], LI o.amt] (by kernel_rfl) ?_
      have ez1_306 := (hag.at_ 1 (by omega)).trans e1
      simp only [denL, LV.den, Nm.at_, ez1_306, Nat.add_zero]
      refine Calls.mono (issue_any _ (gb) (sb) _ _ _ _ ht.b (by assumption) (by assumption) (by assumption) (lvl_hi hvB ht.b o.asset)) ?_
      rintro e306 w306 ⟨rfl, sb', hl306, hisB, hk306, hh306⟩
      obtain ⟨ht2, hQ306⟩ := ht.afterB (hR305).rel hBw hl306 hisB.g hk306 hh306 (by rw [hsB]; kernel_rfl) [2] (by kernel_rfl) (by intro q hq; simp only [List.mem_singleton] at hq; subst hq; rw [hag.at_ 2 (by omega), eE]; exact Nat.lt_of_lt_of_le hgl hBw)
      clear ht
      have ht := ht2
      clear ht2
      have hR306 := (hR305).with hQ306 (LI (issC sb o.acc o.asset o.amt))
      refine BackO.of (LI (issC sb o.acc o.asset o.amt)) hR306 rfl ?_
      refine sim_ord_endR hR306 (by kernel_rfl) (fun hR307 => ?_)
      refine sim_run 6 [⟨8, 1, LI (IntKind.i64.wrap ((↑i : Int) + 1)), LI ((↑i : Int) + 1)⟩] (hR307.cast (by kernel_rfl)) (by kernel_rfl) ⟨eqi (IntWalk.i64_in _ (by omega)), trivial⟩ (fun ρ308 w308 hm308 hR308 => ?_)
      have hag1 := hag1.moved (hm308.castL (by kernel_rfl))
      have hag := hag.moved (hm308.castL (by kernel_rfl))
      have ht := ht.moved (hm308.castL (by kernel_rfl))
      
      exact sim_again (i + 1) (by kernel_rfl) (by show n - (i + 1) < n - i; omega) (by kernel_rfl) (by kernel_rfl) (by kernel_rfl) hag1.ag (Rel.cast (by assumption) (by kernel_rfl)) (by kernel_rfl) (by kernel_rfl) ⟨hlt, sa', sb', ht.cut hag1 (by omega) rfl (by kernel_rfl), hisA.g.trans hsA, hisB.g.trans hsB, lvl_issue hvA hfA ht.a.pos.mp.fine hisA, lvl_issue hvB hfB ht.b.pos.mp.fine hisB, hev.issue hisA hisB, hisB.lb.trans hlb, by have := hisA.len; omega⟩
    · refine sim_run 8 [] (hRE.cast (by kernel_rfl)) (by kernel_rfl) trivial (fun ρ400 w400 hm400 hR400 => ?_)
      have ht := ht.moved (hm400.castL (by kernel_rfl))
      have hag1 := hag1.moved (hm400.castL (by kernel_rfl))
      have hag := hag.moved (hm400.castL (by kernel_rfl))
      refine sim_know 40 (decide ((↑i : Int) < (↑n : Int))) true (by kernel_rfl) (decide_eq_true (by omega)) ?_
      refine sim_run 8 [] (hR400.cast (by kernel_rfl)) (by kernel_rfl) trivial (fun ρ401 w401 hm401 hR401 => ?_)
      have ht := ht.moved (hm401.castL (by kernel_rfl))
      have hag1 := hag1.moved (hm401.castL (by kernel_rfl))
      have hag := hag.moved (hm401.castL (by kernel_rfl))
      refine sim_place (.v (.slice (some ⟨ga0, oa, none⟩) n cp)) n 5 i 2 0 (by kernel_rfl) (by omega) (by omega) rfl (by simp only [Nm.at_, hag.at_ 2 (by omega), eE, Nat.add_zero, Int.toNat_natCast]) ?_
      refine sim_run 4 [] (hR401.cast (by kernel_rfl)) (by kernel_rfl) trivial (fun ρ403 w403 hm403 hR403 => ?_)
      have ht := ht.moved (hm403.castL (by kernel_rfl))
      have hag1 := hag1.moved (hm403.castL (by kernel_rfl))
      have hag := hag.moved (hm403.castL (by kernel_rfl))
      refine sim_know 48 (o.kind == 3) false (by kernel_rfl) (decide_eq_false (by omega)) ?_
      refine sim_run 8 [⟨8, 1, LI (IntKind.i64.wrap ((↑i : Int) + 1)), LI ((↑i : Int) + 1)⟩] (hR403.cast (by kernel_rfl)) (by kernel_rfl) ⟨eqi (IntWalk.i64_in _ (by omega)), trivial⟩ (fun ρ404 w404 hm404 hR404 => ?_)
      have ht := ht.moved (hm404.castL (by kernel_rfl))
      have hag1 := hag1.moved (hm404.castL (by kernel_rfl))
      have hag := hag.moved (hm404.castL (by kernel_rfl))
      
      exact sim_again (i + 1) (by kernel_rfl) (by show n - (i + 1) < n - i; omega) (by kernel_rfl) (by kernel_rfl) (by kernel_rfl) hag1.ag (Rel.cast (by assumption) (by kernel_rfl)) (by kernel_rfl) (by kernel_rfl) ⟨hlt, sa, sb, ht.cut hag1 (by omega) rfl (by kernel_rfl), hsA, hsB, hvA, hvB, hev, hlb, by omega⟩
  · refine sim_run 8 [] (hR2.cast (by kernel_rfl)) (by kernel_rfl) trivial (fun ρ500 w500 hm500 hR500 => ?_)
    have ht := ht.moved (hm500.castL (by kernel_rfl))
    have hag1 := hag1.moved (hm500.castL (by kernel_rfl))
    refine sim_know 40 (decide ((↑i : Int) < (↑n : Int))) false (by kernel_rfl) (decide_eq_false (by omega)) ?_
    refine sim_run 1 [] (hR500.cast (by kernel_rfl)) (by kernel_rfl) trivial (fun ρ501 w501 hm501 hR501 => ?_)
    have ht := ht.moved (hm501.castL (by kernel_rfl))
    have hag1 := hag1.moved (hm501.castL (by kernel_rfl))
    refine sim_leave (by kernel_rfl) ?_
    refine sim_run 2 [] (hR501.cast (by kernel_rfl)) (by kernel_rfl) trivial (fun ρ502 w502 hm502 hR502 => ?_)
    have ht := ht.moved (hm502.castL (by kernel_rfl))
    have hag1 := hag1.moved (hm502.castL (by kernel_rfl))
    
    refine sim_to (regK Try.f8 12) (tmplJ Try.f8.ntmps 0 [(1, .v (.slice Ap np cpp)), (2, .v (.slice Aq nq cpq)), (7, .ptr 0 0), (8, .ptr 1 0)]) [⟨ptrG g1, false⟩, ⟨ptrG g2, false⟩] (by kernel_rfl) (by kernel_rfl) (by kernel_rfl) (fun d9 => ?_)
    exact splits_tail hM kp kq hnp hnq ((by assumption : Rel _ _ _ _ _).cast (by kernel_rfl)) (ht.castR (by kernel_rfl)) hBw hsA hsB hev hlb (by omega) d9
set_option maxRecDepth 100000 in
set_option maxHeartbeats 4000000 in
theorem postSplits_walk (w : World) (A : Option Addr) (n cp M : Nat) (hM : M ≤ 281474976710656) (os : List OpL) (h : OpLs w A n M os) (Ap : Option Addr) (np cpp : Nat) (p : List OpP) (kp : PsIn w M Ap np cpp p) (Aq : Option Addr) (nq cpq : Nat) (q : List OpP) (kq : PsIn w M Aq nq cpq q) : Calls Try.prog 8 #[.slice A n cp, .slice Ap np cpp, .slice Aq nq cpq] w fun e w' => e = .returned (.bool true) ∧ Below w.heap.size w w' := by
  have hmax := h.max
  have hlen := h.len
  have m1 := kp.max
  have m2 := kq.max
  have hnp0 : ∀ o ∈ os, o.n ≤ maxLen := fun o ho => (h.ok o ho).ps.max
  refine sim_enter Try.func8 ρ0 [.v (.slice A n cp), .v (.slice Ap np cpp), .v (.slice Aq nq cpq)] [] (by kernel_rfl) rfl ?_
  have hR := Rel.start [] w ρ0
  cases hli : lightB os with
  | false =>
    refine sim_run 8 [] (hR.cast (by kernel_rfl)) (by kernel_rfl) trivial (fun ρ600 w600 hm600 hR600 => ?_)
    refine sim_call 28 [.v (Value.slice A n cp)] (by kernel_rfl) ?_
    refine Calls.mono (light11_any _ _ _ _ (os) _ ((h.at_ (by assumption : Rel _ _ _ _ _).toBelow).rd) (Nat.le_refl _) (hlen) (hmax) (hnp0)) ?_
    rw [hli]
    rintro e601 w601 ⟨rfl, hb601⟩
    have hR601 := (hR600).below hb601
    refine Back.of (LB false) hR601 rfl ?_
    refine sim_run 15 [] (hR601.cast (by kernel_rfl)) (by kernel_rfl) trivial (fun ρ602 w602 hm602 hR602 => ?_)
    refine sim_call 23 [] (by kernel_rfl) ?_
    refine Calls.mono (alive11_any _) ?_
    rintro e603 w603 ⟨rfl, hb603⟩
    have hR603 := hR602.below hb603
    refine Back.of (LB true) hR603 rfl ?_
    refine sim_run 2 [] (hR603.cast (by kernel_rfl)) (by kernel_rfl) trivial (fun ρ604 w604 hm604 hR604 => ?_)
    refine sim_ret (LB true) hR604 (by kernel_rfl) (by kernel_rfl) ?_
    exact ⟨rfl, hR604.toBelow⟩
    
  | true =>
    obtain ⟨hn100, hn15⟩ := light_of hli
    refine sim_run 8 [] (hR.cast (by kernel_rfl)) (by kernel_rfl) trivial (fun ρ700 w700 hm700 hR700 => ?_)
    refine sim_call 28 [.v (Value.slice A n cp)] (by kernel_rfl) ?_
    refine Calls.mono (light11_any _ _ _ _ (os) _ ((h.at_ (by assumption : Rel _ _ _ _ _).toBelow).rd) (Nat.le_refl _) (hlen) (hmax) (hnp0)) ?_
    rw [hli]
    rintro e701 w701 ⟨rfl, hb701⟩
    have hR701 := (hR700).below hb701
    refine Back.of (LB true) hR701 rfl ?_
    refine sim_run 7 [] (hR701.cast (by kernel_rfl)) (by kernel_rfl) trivial (fun ρ702 w702 hm702 hR702 => ?_)
    refine sim_fork 23 (decide ((↑np : Int) > 60)) (by kernel_rfl) (fun hq703 => ?_) (fun hq703 => ?_)
    have hq703 := of_decide_eq_true hq703
    refine sim_run 8 [] (hR702.cast (by kernel_rfl)) (by kernel_rfl) trivial (fun ρ704 w704 hm704 hR704 => ?_)
    refine sim_call 23 [] (by kernel_rfl) ?_
    refine Calls.mono (alive11_any _) ?_
    rintro e705 w705 ⟨rfl, hb705⟩
    have hR705 := hR704.below hb705
    refine Back.of (LB true) hR705 rfl ?_
    refine sim_run 2 [] (hR705.cast (by kernel_rfl)) (by kernel_rfl) trivial (fun ρ706 w706 hm706 hR706 => ?_)
    refine sim_ret (LB true) hR706 (by kernel_rfl) (by kernel_rfl) ?_
    exact ⟨rfl, hR706.toBelow⟩
    have hq703 := of_decide_eq_false hq703
    refine sim_run 5 [] (hR702.cast (by kernel_rfl)) (by kernel_rfl) trivial (fun ρ707 w707 hm707 hR707 => ?_)
    refine sim_fork 27 (decide ((↑nq : Int) > 60)) (by kernel_rfl) (fun hq708 => ?_) (fun hq708 => ?_)
    have hq708 := of_decide_eq_true hq708
    refine sim_run 3 [] (hR707.cast (by kernel_rfl)) (by kernel_rfl) trivial (fun ρ709 w709 hm709 hR709 => ?_)
    refine sim_call 23 [] (by kernel_rfl) ?_
    refine Calls.mono (alive11_any _) ?_
    rintro e710 w710 ⟨rfl, hb710⟩
    have hR710 := hR709.below hb710
    refine Back.of (LB true) hR710 rfl ?_
    refine sim_run 2 [] (hR710.cast (by kernel_rfl)) (by kernel_rfl) trivial (fun ρ711 w711 hm711 hR711 => ?_)
    refine sim_ret (LB true) hR711 (by kernel_rfl) (by kernel_rfl) ?_
    exact ⟨rfl, hR711.toBelow⟩
    have hq708 := of_decide_eq_false hq708
    refine sim_run 4 [] (hR707.cast (by kernel_rfl)) (by kernel_rfl) trivial (fun ρ712 w712 hm712 hR712 => ?_)
    refine sim_call 24 [] (by kernel_rfl) ?_
    refine Calls.mono (newLd_any _) ?_
    rintro e713 w713 ⟨ga, g1, rfl, hl713, hb713⟩
    have hBw := (hR712).keeps.size
    have hRr713 := (hR712).below hb713
    refine Back.view hl713 (hRr713.cast (by kernel_rfl)) (by kernel_rfl) (fun ρv e0 hR713 hld => ?_)
    have hag := hR713.ag_ 1 (by kernel_rfl)
    
    refine sim_call 24 [] (by kernel_rfl) ?_
    refine Calls.mono (newLd_any _) ?_
    rintro e800 w800 ⟨gb, g2, rfl, hl2, hb800⟩
    have hlt2 := fun x (hx : (newS g1).all ga x) => hld.ld.has_lt hx
    have hBB := Nat.le_of_lt (Nat.lt_of_le_of_lt hld.ld.ge hld.ld.cell.lt)
    have hld2 := hld.below hb800
    have hRr := (hR713).below hb800
    refine Back.view2 (hld2.castR (by kernel_rfl)) hl2 hlt2 hBB (hRr.cast (by kernel_rfl)) (by kernel_rfl) (fun ρv2 hR800 ht => ?_)
    have hag := hR800.ag_ 2 (by kernel_rfl)
    have e0 := ht.ata
    have e1 := ht.atb
    clear hld hld2
    refine sim_run 18 [] (hR800.cast (by kernel_rfl)) (by kernel_rfl) trivial (fun ρ801 w801 hm801 hR801 => ?_)
    have ht := ht.moved (hm801.castL (by kernel_rfl))
    have hag := hag.moved (hm801.castL (by kernel_rfl))
    
    refine sim_to (regK Try.f8 6) (tmplJ Try.f8.ntmps 0 [(0, .v (.slice A n cp)), (1, .v (.slice Ap np cpp)), (2, .v (.slice Aq nq cpq)), (7, .ptr 0 0), (8, .ptr 1 0)]) [⟨ptrG g1, false⟩, ⟨ptrG g2, false⟩] (by kernel_rfl) (by kernel_rfl) (by kernel_rfl) (fun d0 => ?_)
    exact splits_loop hM h hn100 kp kq (by omega) (by omega) ((by assumption : Rel _ _ _ _ _).cast (by kernel_rfl)) (ht.castR (by kernel_rfl)) hBw d0
end Go.Proofs.Ytgbgedaedcofcaa
