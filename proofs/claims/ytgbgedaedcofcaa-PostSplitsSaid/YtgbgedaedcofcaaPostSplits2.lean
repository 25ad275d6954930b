/-
  PostSplits: the transactions, one behind the other and at once.
-/
import Derived.Test.YtgbgedaedcofcaaPostSplits1
namespace Go.Proofs.Ytgbgedaedcofcaa
open Go Go.RowKit
attribute [local irreducible] run goO leaveK someK nextK nextT nextOT nextOD loopBody loopRest loopK fillJ tmplOf tmplJ mergeT At AtO drawOk ordOf gateOf callC callO topOp topO idxOf appOf storeOf clearOf sliceOf calleeOf calleeO topQ idxQ newRowOf resL stepOp seek
set_option maxRecDepth 100000 in
set_option maxHeartbeats 4000000 in
theorem splits_tail {ρ : Nm} {w0 w : World} {B ga gb g1 g2 np cpp nq cpq M : Nat} {Ap Aq : Option Addr} {sa sb : LSt} {p q : List OpP} (hM : M ≤ 281474976710656) (kp : PsIn w0 M Ap np cpp p) (kq : PsIn w0 M Aq nq cpq q) (hnp : np ≤ 60) (hnq : nq ≤ 60) (hR : Rel [] w0 ρ [⟨ptrG g1, false⟩, ⟨ptrG g2, false⟩] w) (ht : LdT ρ [⟨ptrG g1, false⟩, ⟨ptrG g2, false⟩] w B ga gb sa sb) (hBw : w0.heap.size ≤ B) (hsA : sa.g = g1) (hsB : sb.g = g2) (hev : Eqv sa sb) (hlb : sb.lb = []) (hlen : sa.l.length ≤ 100000) (d : Nat → Value) :
    At Try.prog (bodyPost Try.prog Try.f8 (fun e w' => e = .returned (.bool true) ∧ Below w0.heap.size w0 w')) ⟨regK Try.f8 12, fillJ (tmplJ Try.f8.ntmps 0 [(1, .v (.slice Ap np cpp)), (2, .v (.slice Aq nq cpq)), (7, .ptr 0 0), (8, .ptr 1 0)]) d 0, [⟨ptrG g1, false⟩, ⟨ptrG g2, false⟩]⟩ ρ w := by
  have e0 := ht.ata
  have e1 := ht.atb
  have hag := Rel.ag_ hR 2 (by kernel_rfl)
  have shp : Short p := fun x hx => ⟨Nat.le_trans (kp.sz x hx).1 hM, Nat.le_trans (kp.sz x hx).2 hM⟩
  have shq : Short q := fun x hx => ⟨Nat.le_trans (kq.sz x hx).1 hM, Nat.le_trans (kq.sz x hx).2 hM⟩
  have okA := ht.a.pos.ok
  have okB := ht.b.pos.ok
  have lp := kp.rd.2.1
  have hfA := ht.a.pos.mp.fine
  have hfB := ht.b.pos.mp.fine
  have hnA := ht.a.pos.nz
  have hnB := ht.b.pos.nz
  have lq := kq.rd.2.1
  refine sim_run 2 [] (hR.cast (by kernel_rfl)) (by kernel_rfl) trivial (fun ρ100 w100 hm100 hR100 => ?_)
  have ht := ht.moved (hm100.castL (by kernel_rfl))
  have hag := hag.moved (hm100.castL (by kernel_rfl))
  refine sim_call 29 [.ptr 0 0, .v (Value.slice Ap np cpp)] (by kernel_rfl) ?_
  have ez0_101 := (hag.at_ 0 (by omega)).trans e0
  simp only [denL, LV.den, Nm.at_, ez0_101, Nat.add_zero]
  refine Calls.mono (apply_any _ (ga) _ (sa) _ _ _ (p) _ ht.a ((kp.at_ (hR100).toBelow).rd) (by omega) (by omega) (by assumption)) ?_
  rintro e101 w101 ⟨rfl, m3, l3, ck3, hl101, hget3, hlen3, hk101, hv101⟩
  obtain ⟨ht2, hR101⟩ := ht.afterA hR100 hBw hl101 rfl (hk101.mono (fun x hx => .inl (.inr (hx.elim .inl (fun e => .inr (.inl e)))))) (fun x hx => setPos_has hv101 hx) (by rw [show (sa).g = _ from hsA]; kernel_rfl) [] (by kernel_rfl) (by simp)
  clear ht
  have ht := ht2
  clear ht2
  refine Back.of (LI (lookC sa p)) hR101 rfl ?_
  refine sim_run 4 [] (hR101.cast (by kernel_rfl)) (by kernel_rfl) trivial (fun ρ102 w102 hm102 hR102 => ?_)
  have hag := hag.moved (hm102.castL (by kernel_rfl))
  have ht := ht.moved (hm102.castL (by kernel_rfl))
  
  have okA1 := ht.a.pos.ok
  refine sim_run 2 [] hR102 (by kernel_rfl) trivial (fun ρ200 w200 hm200 hR200 => ?_)
  have hag := hag.moved hm200
  have ht := ht.moved hm200
  refine sim_call 29 [.ptr 0 0, .v (Value.slice Aq nq cpq)] (by kernel_rfl) ?_
  have ez0_201 := (hag.at_ 0 (by omega)).trans e0
  simp only [denL, LV.den, Nm.at_, ez0_201, Nat.add_zero]
  refine Calls.mono (apply_any _ (ga) _ (sa.setPos m3 l3 ck3) _ _ _ (q) _ ht.a ((kq.at_ (hR200).toBelow).rd) (by omega) (by omega) (by assumption)) ?_
  rintro e201 w201 ⟨rfl, m4, l4, ck4, hl201, hget4, hlen4, hk201, hv201⟩
  obtain ⟨ht2, hR201⟩ := ht.afterA hR200 hBw hl201 rfl (hk201.mono (fun x hx => .inl (.inr (hx.elim .inl (fun e => .inr (.inl e)))))) (fun x hx => setPos_has hv201 hx) (by rw [show ((sa.setPos m3 l3 ck3)).g = _ from hsA]; kernel_rfl) [] (by kernel_rfl) (by simp)
  clear ht
  have ht := ht2
  clear ht2
  refine Back.of (LI (lookC (sa.setPos m3 l3 ck3) q)) hR201 rfl ?_
  refine sim_run 6 [] (hR201.cast (by kernel_rfl)) (by kernel_rfl) trivial (fun ρ202 w202 hm202 hR202 => ?_)
  have hag := hag.moved (hm202.castL (by kernel_rfl))
  have ht := ht.moved (hm202.castL (by kernel_rfl))
  
  have okA2 := ht.a.pos.ok
  have hall : ∀ x, ((sa.setPos m3 l3 ck3).setPos m4 l4 ck4).all ga x ∨ sb.all gb x → x < w202.heap.size := fun x hx => hx.elim (fun h => ht.a.has_lt h) (fun h => ht.b.has_lt h)
  have pty : RowTy Try.prog 48 51 4 48 := RowTy.of (size := 4) (bytes := 48) Try.underlying48 (by kernel_rfl) rfl
  have hR2 := hR202.cast (rs' := [⟨ptrG g1, false⟩, ⟨ptrG g2, false⟩]) (by kernel_rfl)
  have ht := ht.castR (rs' := [⟨ptrG g1, false⟩, ⟨ptrG g2, false⟩]) (by kernel_rfl)
  refine sim_rs [⟨ptrG g1, false⟩, ⟨ptrG g2, false⟩] ?_
  refine sim_appendR 48 (.slice none 0 0) Ap np cpp (by kernel_rfl) hR2 pty (base := w202.heap.size) (n := 0) (xs := []) ⟨rfl, .inl ⟨rfl, rfl⟩⟩ ((kp.at_ hR202.toBelow).rd).1 (posts_one p) (by unfold maxLen; omega) (by omega) (Nat.le_refl _) hR202.keeps.size (fun g hg => by cases hg) (fun v5 w5 hown5 hgr5 _ hR5 => ?_)
  have ht := ht.grown hgr5 (fun x _ h => by cases h)
  obtain ⟨A5, c5, rfl⟩ := own_row hown5
  have hrow5 := Own.start hR2 hown5
  have hag := hR5.ag_ 2 (by kernel_rfl)
  have e0 := ht.ata
  have e1 := ht.atb
  refine sim_run 1 [] (hR5.cast (by kernel_rfl)) (by kernel_rfl) trivial (fun ρ300 w300 hm300 hR300 => ?_)
  have ht := ht.moved (hm300.castL (by kernel_rfl))
  have hrow5 := hrow5.moved (hm300.castL (by kernel_rfl))
  have hag := hag.moved (hm300.castL (by kernel_rfl))
  
  have hR3 := (by assumption : Rel _ _ _ _ _).cast (rs' := [⟨ptrG g1, false⟩, ⟨ptrG g2, false⟩]) (by kernel_rfl)
  have ht := ht.castR (rs' := [⟨ptrG g1, false⟩, ⟨ptrG g2, false⟩]) (by kernel_rfl)
  have hrow5 := hrow5.castR (rs' := [⟨ptrG g1, false⟩, ⟨ptrG g2, false⟩]) (by kernel_rfl)
  refine sim_rs [⟨ptrG g1, false⟩, ⟨ptrG g2, false⟩] ?_
  have hge5 : ∀ g, (Value.slice A5 (0 + np) c5).ownBlock = some g → w202.heap.size ≤ g := fun g hg => own_ge hrow5.own hg
  refine sim_appendR 48 (.slice A5 (0 + np) c5) Aq nq cpq (by kernel_rfl) hR3 pty hrow5.own ((kq.at_ hR3.toBelow).rd).1 (posts_one q) (by unfold maxLen; omega) (by omega) (Nat.le_trans hgr5.size hm300.kept.size) hR202.keeps.size (fun g hg k r hk hne e => by
    have h1 := hge5 g hg
    match k, hk with
    | 0, _ => rw [ht.ata] at e; have h2 := hall ga (.inl (.inl rfl)); have e : ga = g := e; omega
    | 1, _ => rw [ht.atb] at e; have h2 := hall gb (.inr (.inl rfl)); have e : gb = g := e; omega
    | k + 2, hk => simp at hk) (fun v6 w6 hown6 hgr6 _ hR6 => ?_)
  have ht := ht.grown hgr6 (fun x hx h => by
    have h1 := hge5 x h.symm
    have h2 := hall x hx
    omega)
  obtain ⟨A6, c6, rfl⟩ := own_row hown6
  have hrow6 : Own ρ300 [⟨ptrG g1, false⟩, ⟨ptrG g2, false⟩] w6 w202.heap.size 51 4 (.slice A6 (0 + np + nq) c6) (0 + np + nq) ([] ++ (p.map OpP.cells).flatten ++ (q.map OpP.cells).flatten) := ⟨hown6, fun _ _ h => noW2 h⟩
  have hag := hR6.ag_ 2 (by kernel_rfl)
  have e0 := ht.ata
  have e1 := ht.atb
  have okB := ht.b.pos.ok
  have okp := kp.rd.2.2
  have okq := kq.rd.2.2
  have shpq : Short (p ++ q) := fun x hx => (List.mem_append.1 hx).elim (shp x) (shq x)
  have e6 : ((p ++ q).map OpP.cells).flatten = [] ++ (p.map OpP.cells).flatten ++ (q.map OpP.cells).flatten := by simp
  
  have hpq : Posts _ _ A6 (0 + np + nq) (p ++ q) := posts_app (by rw [e6]; exact Reads.of_own hrow6.own) (by omega) okp okq
  refine sim_call 29 [.ptr 1 0, .v (Value.slice A6 (0 + np + nq) c6)] (by kernel_rfl) ?_
  simp only [denL, LV.den, Nm.at_, e1, Nat.add_zero]
  refine Calls.mono (apply_any _ (gb) _ (sb) _ _ _ (p ++ q) _ ht.b (by assumption) (by omega) (by omega) (by assumption)) ?_
  rintro e500 w500 ⟨rfl, m5, l5, ck5, hl500, hget5, hlen5, hk500, hv500⟩
  obtain ⟨ht2, hR500⟩ := ht.afterB hR6 hBw hl500 rfl (hk500.mono (fun x hx => .inl (.inr (hx.elim .inl (fun e => .inr (.inl e)))))) (fun x hx => setPos_has hv500 hx) (by rw [show (sb).g = _ from hsB]; kernel_rfl) [] (by kernel_rfl) (by simp)
  clear ht
  have ht := ht2
  clear ht2
  refine Back.of (LI (lookC sb (p ++ q))) hR500 rfl ?_
  refine sim_run 5 [] (hR500.cast (by kernel_rfl)) (by kernel_rfl) trivial (fun ρ501 w501 hm501 hR501 => ?_)
  have hag := hag.moved (hm501.castL (by kernel_rfl))
  have ht := ht.moved (hm501.castL (by kernel_rfl))
  
  have okB1 := ht.b.pos.ok
  by_cases c1 : lookC sa p = 0
  · by_cases c2 : lookC (sa.setPos m3 l3 ck3) q = 0
    · obtain ⟨c3, hall3⟩ := split_ok (s := sa) (s1 := sa.setPos m3 l3 ck3) (t := sb) (p := p) (q := q) (fun k => (hev.get k).symm) okA okA1 okB hlb c1 hget3 c2 (by omega)
      have heq : ∀ k, getM l5 k = getM l4 k := fun k => by rw [hget5, hall3, hget4]
      have hll4 : l4.length ≤ 1000000 := by
        have h1 : l4.length ≤ l3.length + nq := hlen4
        have h2 : l3.length ≤ sa.l.length + np := hlen3
        omega
      have hks : sortKs (pickKs [] l5) = sortKs (pickKs [] l4) := keys_same ht.a.pos.mp.fine ht.a.pos.nz ht.b.pos.mp.fine ht.b.pos.nz heq []
      have hll5 : l5.length ≤ 1000000 := by
        have h1 : l5.length ≤ sb.l.length + (0 + np + nq) := hlen5
        have h2 : sb.l.length = sa.l.length := len_same hfB hnB hfA hnA hev.get
        omega
      have hsA2 : ((sa.setPos m3 l3 ck3).setPos m4 l4 ck4).g = g1 := hsA
      have hsB2 : (sb.setPos m5 l5 ck5).g = g2 := hsB
      refine sim_run 3 [] hR501 (by kernel_rfl) trivial (fun ρ600 w600 hm600 hR600 => ?_)
      have hag := hag.moved hm600
      have ht := ht.moved hm600
      refine sim_know 87 (lookC sa p != 0) false (by kernel_rfl) (by rw [c1]; rfl) ?_
      refine sim_run 4 [] (hR600.cast (by kernel_rfl)) (by kernel_rfl) trivial (fun ρ601 w601 hm601 hR601 => ?_)
      have hag := hag.moved (hm601.castL (by kernel_rfl))
      have ht := ht.moved (hm601.castL (by kernel_rfl))
      refine sim_know 90 (lookC (sa.setPos m3 l3 ck3) q != 0) false (by kernel_rfl) (by rw [c2]; rfl) ?_
      refine sim_run 8 [] (hR601.cast (by kernel_rfl)) (by kernel_rfl) trivial (fun ρ602 w602 hm602 hR602 => ?_)
      have hag := hag.moved (hm602.castL (by kernel_rfl))
      have ht := ht.moved (hm602.castL (by kernel_rfl))
      refine sim_know 93 (lookC sb (p ++ q) != 0) false (by kernel_rfl) (by rw [c3]; rfl) ?_
      refine sim_run 8 [] (hR602.cast (by kernel_rfl)) (by kernel_rfl) trivial (fun ρ603 w603 hm603 hR603 => ?_)
      have hag := hag.moved (hm603.castL (by kernel_rfl))
      have ht := ht.moved (hm603.castL (by kernel_rfl))
      refine sim_call 18 [.v (Value.pointer (some (Addr.mk g1 0 none))), .v (Value.slice none 0 0)] (by kernel_rfl) ?_
      refine Calls.mono (keys_po _ _ (m4) (l4) (ck4) _ _ _ (0) ([]) _ (pos_g ht.a hsA2) ⟨rfl, fun h => absurd h (by omega)⟩ (by omega) (by omega) (by assumption)) ?_
      rintro e604 w604 ⟨A7, c7, rfl, ho604, hb604⟩
      rw [List.flatMap_def] at ho604
      have hrow7 := Own.start hR603 ho604
      have hR604 := hR603.below hb604
      have ht := ht.below hb604
      refine Back.of (.v (Value.slice A7 (sortKs (pickKs [] l4)).length c7)) hR604 rfl ?_
      refine sim_run 5 [] (hR604.cast (by kernel_rfl)) (by kernel_rfl) trivial (fun ρ605 w605 hm605 hR605 => ?_)
      have hag := hag.moved (hm605.castL (by kernel_rfl))
      have hrow7 := hrow7.moved (hm605.castL (by kernel_rfl))
      have ht := ht.moved (hm605.castL (by kernel_rfl))
      
      refine sim_run 5 [] hR605 (by kernel_rfl) trivial (fun ρ700 w700 hm700 hR700 => ?_)
      have hag := hag.moved hm700
      have hrow7 := hrow7.moved hm700
      have ht := ht.moved hm700
      refine sim_call 18 [.v (Value.pointer (some (Addr.mk g2 0 none))), .v (Value.slice none 0 0)] (by kernel_rfl) ?_
      refine Calls.mono (keys_po _ _ (m5) (l5) (ck5) _ _ _ (0) ([]) _ (pos_g ht.b hsB2) ⟨rfl, fun h => absurd h (by omega)⟩ (by omega) (by omega) (by assumption)) ?_
      rw [hks]
      rintro e701 w701 ⟨A8, c8, rfl, ho701, hb701⟩
      rw [List.flatMap_def] at ho701
      have hrow8 := Own.start hR700 ho701
      have hR701 := hR700.below hb701
      have ht := ht.below hb701
      have hrow7 := hrow7.below hb701
      refine Back.of (.v (Value.slice A8 (sortKs (pickKs [] l4)).length c8)) hR701 rfl ?_
      
      have hkl : (sortKs (pickKs [] l4)).length ≤ l4.length := by rw [sortKs_len]; exact pickKs_len _ _
      refine sim_call 30 [.v (Value.slice A7 (sortKs (pickKs [] l4)).length c7), .v (Value.slice A8 (sortKs (pickKs [] l4)).length c8)] (by kernel_rfl) ?_
      refine Calls.mono (sameKeys_eq _ _ _ _ _ _ _ (sortKs (pickKs [] l4)) _ (Reads.of_own hrow7.own) (Reads.of_own hrow8.own) (by omega) (by omega) (by omega) (by omega)) ?_
      rintro e800 w800 ⟨rfl, hb800⟩
      have hR800 := hR701.below hb800
      have hrow8 := hrow8.below hb800
      have ht := ht.below hb800
      have hrow7 := hrow7.below hb800
      refine Back.of (LB true) hR800 rfl ?_
      refine sim_run 7 [] (hR800.cast (by kernel_rfl)) (by kernel_rfl) trivial (fun ρ801 w801 hm801 hR801 => ?_)
      have hag := hag.moved (hm801.castL (by kernel_rfl))
      have hrow8 := hrow8.moved (hm801.castL (by kernel_rfl))
      have ht := ht.moved (hm801.castL (by kernel_rfl))
      have hrow7 := hrow7.moved (hm801.castL (by kernel_rfl))
      
      refine sim_to (regK Try.f8 22) (tmplJ Try.f8.ntmps 0 [(7, .ptr 0 0), (8, .ptr 1 0), (13, .v (.slice A7 (sortKs (pickKs [] l4)).length c7))]) [⟨ptrG g1, false⟩, ⟨ptrG g2, false⟩] (by kernel_rfl) (by kernel_rfl) (by kernel_rfl) (fun d9 => ?_)
      exact splits_keys ((by assumption : Rel _ _ _ _ _).cast (by kernel_rfl)) (ht.castR (by kernel_rfl)) hsA2 hsB2 (hrow7.castR (by kernel_rfl)) rfl (by omega) heq d9
    · refine sim_run 3 [] hR501 (by kernel_rfl) trivial (fun ρ900 w900 hm900 hR900 => ?_)
      have hag := hag.moved hm900
      have ht := ht.moved hm900
      refine sim_know 87 (lookC sa p != 0) false (by kernel_rfl) (by rw [c1]; rfl) ?_
      refine sim_run 4 [] (hR900.cast (by kernel_rfl)) (by kernel_rfl) trivial (fun ρ901 w901 hm901 hR901 => ?_)
      have hag := hag.moved (hm901.castL (by kernel_rfl))
      have ht := ht.moved (hm901.castL (by kernel_rfl))
      refine sim_know 90 (lookC (sa.setPos m3 l3 ck3) q != 0) true (by kernel_rfl) (bne_iff_ne.2 c2) ?_
      refine sim_run 3 [] (hR901.cast (by kernel_rfl)) (by kernel_rfl) trivial (fun ρ902 w902 hm902 hR902 => ?_)
      have hag := hag.moved (hm902.castL (by kernel_rfl))
      have ht := ht.moved (hm902.castL (by kernel_rfl))
      refine sim_call 23 [] (by kernel_rfl) ?_
      refine Calls.mono (alive11_any _) ?_
      rintro e903 w903 ⟨rfl, hb903⟩
      have hR903 := hR902.below hb903
      have ht := ht.below hb903
      refine Back.of (LB true) hR903 rfl ?_
      refine sim_run 2 [] (hR903.cast (by kernel_rfl)) (by kernel_rfl) trivial (fun ρ904 w904 hm904 hR904 => ?_)
      have hag := hag.moved (hm904.castL (by kernel_rfl))
      have ht := ht.moved (hm904.castL (by kernel_rfl))
      refine sim_ret (LB true) hR904 (by kernel_rfl) (by kernel_rfl) ?_
      exact ⟨rfl, hR904.toBelow⟩
      
  · refine sim_run 3 [] hR501 (by kernel_rfl) trivial (fun ρ1000 w1000 hm1000 hR1000 => ?_)
    have hag := hag.moved hm1000
    have ht := ht.moved hm1000
    refine sim_know 87 (lookC sa p != 0) true (by kernel_rfl) (bne_iff_ne.2 c1) ?_
    refine sim_run 7 [] (hR1000.cast (by kernel_rfl)) (by kernel_rfl) trivial (fun ρ1001 w1001 hm1001 hR1001 => ?_)
    have hag := hag.moved (hm1001.castL (by kernel_rfl))
    have ht := ht.moved (hm1001.castL (by kernel_rfl))
    refine sim_call 23 [] (by kernel_rfl) ?_
    refine Calls.mono (alive11_any _) ?_
    rintro e1002 w1002 ⟨rfl, hb1002⟩
    have hR1002 := hR1001.below hb1002
    have ht := ht.below hb1002
    refine Back.of (LB true) hR1002 rfl ?_
    refine sim_run 2 [] (hR1002.cast (by kernel_rfl)) (by kernel_rfl) trivial (fun ρ1003 w1003 hm1003 hR1003 => ?_)
    have hag := hag.moved (hm1003.castL (by kernel_rfl))
    have ht := ht.moved (hm1003.castL (by kernel_rfl))
    refine sim_ret (LB true) hR1003 (by kernel_rfl) (by kernel_rfl) ?_
    exact ⟨rfl, hR1003.toBelow⟩
    
end Go.Proofs.Ytgbgedaedcofcaa
