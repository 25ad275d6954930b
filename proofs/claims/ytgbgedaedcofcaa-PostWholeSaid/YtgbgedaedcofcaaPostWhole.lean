/-
  A transaction that is refused changes nothing; Try says what Apply does, and changes nothing: for every list of steps and every transaction.
-/
import Derived.Test.YtgbgedaedcofcaaPostWhole3
namespace Go.Proofs.Ytgbgedaedcofcaa
open Go Go.RowKit
theorem sum_ge {α : Type} (f : α → Int) : ∀ {L : List α} {x : α}, (∀ y ∈ L, 0 ≤ f y) → x ∈ L → f x ≤ (L.map f).sum
  | a :: L, x, h, hx => by
    have h0 := h a (by simp)
    have hn : 0 ≤ (L.map f).sum := by
      have := take_sum_le f L.length L (fun y hy => h y (by simp [hy]))
      rw [List.take_length] at this
      exact this.1
    simp only [List.map_cons, List.sum_cons]
    rcases List.mem_cons.1 hx with rfl | hx
    · omega
    · have := sum_ge f (L := L) (fun y hy => h y (by simp [hy])) hx
      omega
theorem lvl_sum {w : World} {B gl : Nat} {s : LSt} (h : Lvl s) (hl : LdV w B gl s) (k : Key) : 0 ≤ sum3 (getM s.l k) ∧ sum3 (getM s.l k) ≤ 1152921504606846976 := by
  have h0 : ∀ q, 0 ≤ sum3 (getM s.l q) := fun q => sum3_ok (getM_ok hl.pos.ok q)
  refine ⟨h0 k, ?_⟩
  by_cases hk : k ∈ s.l.map (·.key)
  · have h1 := h.le k.2
    rw [tot_K (K := s.l.map (·.key)) hl.pos.mp.fine (List.pairwise_map.2 hl.pos.mp.fine.keys) (fun _ h => h)] at h1
    have h2 := sum_ge (fun q : Key => if q.2 = k.2 then sum3 (getM s.l q) else 0) (L := s.l.map (·.key)) (x := k) (fun y _ => by
      show 0 ≤ if y.2 = k.2 then sum3 (getM s.l y) else 0
      split
      · exact h0 y
      · omega) hk
    have h2 : sum3 (getM s.l k) ≤ TK (s.l.map (·.key)) (getM s.l) k.2 := by
      have e : (if k.2 = k.2 then sum3 (getM s.l k) else 0) = sum3 (getM s.l k) := if_pos rfl
      rw [← e]
      exact h2
    omega
  · have : getM s.l k = (0, 0, 0) := by
      show (look k s.l).getD _ = _
      rw [look_none.2 (fun e he e' => hk (List.mem_map.2 ⟨e, he, e'⟩))]
      rfl
    rw [this]
    decide
attribute [local irreducible] run goO leaveK someK nextK nextT nextOT nextOD loopBody loopRest loopK fillJ tmplOf tmplJ mergeT At AtO drawOk ordOf gateOf callC callO topOp topO idxOf appOf storeOf clearOf sliceOf calleeOf calleeO topQ idxQ newRowOf resL stepOp seek
set_option maxRecDepth 100000 in
set_option maxHeartbeats 4000000 in
theorem whole_tail {ρ : Nm} {w0 w : World} {B ga gb g1 g2 np cpp M : Nat} {Ap : Option Addr} {sa sb : LSt} {p : List OpP} (hM : M ≤ 281474976710656) (kp : PsIn w0 M Ap np cpp p) (hnp : np ≤ 100) (hR : Rel [] w0 ρ [⟨ptrG g1, false⟩, ⟨ptrG g2, false⟩] w) (ht : LdT ρ [⟨ptrG g1, false⟩, ⟨ptrG g2, false⟩] w B ga gb sa sb) (hBw : w0.heap.size ≤ B) (hsA : sa.g = g1) (hsB : sb.g = g2) (hvA : Lvl sa) (hvB : Lvl sb) (hev : Eqv sa sb) (hlen : sa.l.length ≤ 100000) (d : Nat → Value) :
    At Try.prog (bodyPost Try.prog Try.f12 (fun e w' => e = .returned (.bool true) ∧ Below w0.heap.size w0 w')) ⟨regK Try.f12 15, fillJ (tmplJ Try.f12.ntmps 0 [(1, .v (.slice Ap np cpp)), (5, .ptr 0 0), (6, .ptr 1 0)]) d 0, [⟨ptrG g1, false⟩, ⟨ptrG g2, false⟩]⟩ ρ w := by
  have e0 := ht.ata
  have e1 := ht.atb
  have hag := Rel.ag_ hR 2 (by kernel_rfl)
  have shp : Short p := fun x hx => ⟨Nat.le_trans (kp.sz x hx).1 hM, Nat.le_trans (kp.sz x hx).2 hM⟩
  have okA := ht.a.pos.ok
  have hfA := ht.a.pos.mp.fine
  have hfB := ht.b.pos.mp.fine
  have hnA := ht.a.pos.nz
  have hnB := ht.b.pos.nz
  have hbB := lvl_sum hvB ht.b
  refine sim_run 2 [] (hR.cast (by kernel_rfl)) (by kernel_rfl) trivial (fun ρ100 w100 hm100 hR100 => ?_)
  have ht := ht.moved (hm100.castL (by kernel_rfl))
  have hag := hag.moved (hm100.castL (by kernel_rfl))
  refine sim_call 27 [.ptr 0 0, .v (Value.slice Ap np cpp)] (by kernel_rfl) ?_
  have ez0_101 := (hag.at_ 0 (by omega)).trans e0
  simp only [denL, LV.den, Nm.at_, ez0_101, Nat.add_zero]
  refine Calls.mono (try_any _ (ga) _ (sa) _ _ _ (p) _ ht.a ((kp.at_ (hR100).toBelow).rd) (by omega) (by omega)) ?_
  skip
  rintro e101 w101 ⟨rfl, hb101⟩
  have hR101 := (hR100).below hb101
  have ht := ht.below hb101
  refine Back.of (LI (lookC sa p)) hR101 rfl ?_
  refine sim_run 6 [] (hR101.cast (by kernel_rfl)) (by kernel_rfl) trivial (fun ρ102 w102 hm102 hR102 => ?_)
  have hag := hag.moved (hm102.castL (by kernel_rfl))
  have ht := ht.moved (hm102.castL (by kernel_rfl))
  refine sim_call 29 [.ptr 0 0, .v (Value.slice Ap np cpp)] (by kernel_rfl) ?_
  have ez0_103 := (hag.at_ 0 (by omega)).trans e0
  simp only [denL, LV.den, Nm.at_, ez0_103, Nat.add_zero]
  refine Calls.mono (apply_any _ (ga) _ (sa) _ _ _ (p) _ ht.a ((kp.at_ (hR102).toBelow).rd) (by omega) (by omega) (by assumption)) ?_
  rintro e103 w103 ⟨rfl, m3, l3, ck3, hl103, hget3, hlen3, hk103, hv103⟩
  obtain ⟨ht2, hR103⟩ := ht.afterA hR102 hBw hl103 rfl (hk103.mono (fun x hx => .inl (.inr (hx.elim .inl (fun e => .inr (.inl e)))))) (fun x hx => setPos_has hv103 hx) (by rw [show (sa).g = _ from hsA]; kernel_rfl) [] (by kernel_rfl) (by simp)
  clear ht
  have ht := ht2
  clear ht2
  refine Back.of (LI (lookC sa p)) hR103 rfl ?_
  refine sim_run 9 [] (hR103.cast (by kernel_rfl)) (by kernel_rfl) trivial (fun ρ104 w104 hm104 hR104 => ?_)
  have hag := hag.moved (hm104.castL (by kernel_rfl))
  have ht := ht.moved (hm104.castL (by kernel_rfl))
  refine sim_know 97 (lookC sa p != lookC sa p) false (by kernel_rfl) (bne_self_eq_false _) ?_
  refine sim_run 4 [] (hR104.cast (by kernel_rfl)) (by kernel_rfl) trivial (fun ρ105 w105 hm105 hR105 => ?_)
  have hag := hag.moved (hm105.castL (by kernel_rfl))
  have ht := ht.moved (hm105.castL (by kernel_rfl))
  
  have hvA2 : Lvl (sa.setPos m3 l3 ck3) := lvl_apply hvA okA hfA ht.a.pos.mp.fine hget3
  have hbA := lvl_sum hvA2 ht.a
  have hsA2 : (sa.setPos m3 l3 ck3).g = g1 := hsA
  have hll3 : l3.length ≤ 1000000 := by
    have h2 : l3.length ≤ sa.l.length + np := hlen3
    omega
  have hllB : sb.l.length ≤ 1000000 := by
    have h2 : sb.l.length = sa.l.length := len_same hfB hnB hfA hnA hev.get
    omega
  have hbad : lookC sa p ≠ 0 → ∀ k, getM sb.l k = getM l3 k := fun hc k => by
    rw [hget3 k, look_nil hc]
    exact (hev.get k).symm
  have hgood : lookC sa p = 0 → ∀ k, sum3 (getM l3 k) = sum3 (getM sb.l k) + addK p k := fun hc k => by
    rw [hget3 k, apply_sum okA hc, hev.get]
  refine sim_run 4 [] hR105 (by kernel_rfl) trivial (fun ρ200 w200 hm200 hR200 => ?_)
  have hag := hag.moved hm200
  have ht := ht.moved hm200
  refine sim_call 18 [.v (Value.pointer (some (Addr.mk g1 0 none))), .v (Value.slice none 0 0)] (by kernel_rfl) ?_
  refine Calls.mono (keys_po _ _ (m3) (l3) (ck3) _ _ _ (0) ([]) _ (pos_g ht.a hsA2) ⟨rfl, fun h => absurd h (by omega)⟩ (by omega) (by omega) (by assumption)) ?_
  rintro e201 w201 ⟨A7, c7, rfl, ho201, hb201⟩
  rw [List.flatMap_def] at ho201
  have hrow7 := Own.start hR200 ho201
  have hR201 := hR200.below hb201
  have ht := ht.below hb201
  refine Back.of (.v (Value.slice A7 (sortKs (pickKs [] l3)).length c7)) hR201 rfl ?_
  refine sim_run 5 [] (hR201.cast (by kernel_rfl)) (by kernel_rfl) trivial (fun ρ202 w202 hm202 hR202 => ?_)
  have hag := hag.moved (hm202.castL (by kernel_rfl))
  have hrow7 := hrow7.moved (hm202.castL (by kernel_rfl))
  have ht := ht.moved (hm202.castL (by kernel_rfl))
  
  have hkl : (sortKs (pickKs [] l3)).length ≤ l3.length := by rw [sortKs_len]; exact pickKs_len _ _
  by_cases hc : lookC sa p = 0
  · refine sim_run 3 [] hR202 (by kernel_rfl) trivial (fun ρ300 w300 hm300 hR300 => ?_)
    have hag := hag.moved hm300
    have hrow7 := hrow7.moved hm300
    have ht := ht.moved hm300
    refine sim_know 105 (lookC sa p != 0) false (by kernel_rfl) (by rw [hc]; rfl) ?_
    refine sim_run 15 [] (hR300.cast (by kernel_rfl)) (by kernel_rfl) trivial (fun ρ301 w301 hm301 hR301 => ?_)
    have hag := hag.moved (hm301.castL (by kernel_rfl))
    have hrow7 := hrow7.moved (hm301.castL (by kernel_rfl))
    have ht := ht.moved (hm301.castL (by kernel_rfl))
    
    refine sim_to (regK Try.f12 22) (tmplJ Try.f12.ntmps 0 [(1, .v (.slice Ap np cpp)), (5, .ptr 0 0), (6, .ptr 1 0), (8, LI (lookC sa p)), (10, .v (.slice A7 (sortKs (pickKs [] l3)).length c7))]) [⟨ptrG g1, false⟩, ⟨ptrG g2, false⟩] (by kernel_rfl) (by kernel_rfl) (by kernel_rfl) (fun d9 => ?_)
    exact whole_keys kp hnp ((by assumption : Rel _ _ _ _ _).cast (by kernel_rfl)) (ht.castR (by kernel_rfl)) hsA2 hsB (hrow7.castR (by kernel_rfl)) rfl (by omega) hbad hgood hbA hbB d9
  · have hks : sortKs (pickKs [] sb.l) = sortKs (pickKs [] l3) := keys_same ht.a.pos.mp.fine ht.a.pos.nz hfB hnB (hbad hc) []
    refine sim_run 3 [] hR202 (by kernel_rfl) trivial (fun ρ400 w400 hm400 hR400 => ?_)
    have hag := hag.moved hm400
    have hrow7 := hrow7.moved hm400
    have ht := ht.moved hm400
    refine sim_know 105 (lookC sa p != 0) true (by kernel_rfl) (bne_iff_ne.2 hc) ?_
    refine sim_run 5 [] (hR400.cast (by kernel_rfl)) (by kernel_rfl) trivial (fun ρ401 w401 hm401 hR401 => ?_)
    have hag := hag.moved (hm401.castL (by kernel_rfl))
    have hrow7 := hrow7.moved (hm401.castL (by kernel_rfl))
    have ht := ht.moved (hm401.castL (by kernel_rfl))
    refine sim_call 18 [.v (Value.pointer (some (Addr.mk g2 0 none))), .v (Value.slice none 0 0)] (by kernel_rfl) ?_
    refine Calls.mono (keys_po _ _ (sb.m) (sb.l) (sb.ck) _ _ _ (0) ([]) _ (pos_g ht.b hsB) ⟨rfl, fun h => absurd h (by omega)⟩ (by omega) (by omega) (by assumption)) ?_
    rw [hks]
    rintro e402 w402 ⟨A8, c8, rfl, ho402, hb402⟩
    rw [List.flatMap_def] at ho402
    have hrow8 := Own.start hR401 ho402
    have hR402 := hR401.below hb402
    have ht := ht.below hb402
    have hrow7 := hrow7.below hb402
    refine Back.of (.v (Value.slice A8 (sortKs (pickKs [] l3)).length c8)) hR402 rfl ?_
    
    refine sim_call 30 [.v (Value.slice A7 (sortKs (pickKs [] l3)).length c7), .v (Value.slice A8 (sortKs (pickKs [] l3)).length c8)] (by kernel_rfl) ?_
    refine Calls.mono (sameKeys_eq _ _ _ _ _ _ _ (sortKs (pickKs [] l3)) _ (Reads.of_own hrow7.own) (Reads.of_own hrow8.own) (by omega) (by omega) (by omega) (by omega)) ?_
    rintro e500 w500 ⟨rfl, hb500⟩
    have hR500 := hR402.below hb500
    have hrow8 := hrow8.below hb500
    have ht := ht.below hb500
    have hrow7 := hrow7.below hb500
    refine Back.of (LB true) hR500 rfl ?_
    refine sim_run 8 [] (hR500.cast (by kernel_rfl)) (by kernel_rfl) trivial (fun ρ501 w501 hm501 hR501 => ?_)
    have hag := hag.moved (hm501.castL (by kernel_rfl))
    have hrow8 := hrow8.moved (hm501.castL (by kernel_rfl))
    have ht := ht.moved (hm501.castL (by kernel_rfl))
    have hrow7 := hrow7.moved (hm501.castL (by kernel_rfl))
    
    refine sim_to (regK Try.f12 22) (tmplJ Try.f12.ntmps 0 [(1, .v (.slice Ap np cpp)), (5, .ptr 0 0), (6, .ptr 1 0), (8, LI (lookC sa p)), (10, .v (.slice A7 (sortKs (pickKs [] l3)).length c7))]) [⟨ptrG g1, false⟩, ⟨ptrG g2, false⟩] (by kernel_rfl) (by kernel_rfl) (by kernel_rfl) (fun d9 => ?_)
    exact whole_keys kp hnp ((by assumption : Rel _ _ _ _ _).cast (by kernel_rfl)) (ht.castR (by kernel_rfl)) hsA2 hsB (hrow7.castR (by kernel_rfl)) rfl (by omega) hbad hgood hbA hbB d9
set_option maxRecDepth 100000 in
set_option maxHeartbeats 4000000 in
theorem whole_loop {ρ : Nm} {w0 w : World} {B ga gb g1 g2 n cp np cpp M : Nat} {A Ap : Option Addr} {os : List OpL} {p : List OpP} (hM : M ≤ 281474976710656) (h : OpLs w0 A n M os) (hn100 : os.length ≤ 100) (kp : PsIn w0 M Ap np cpp p) (hnp : np ≤ 100) (hR : Rel [] w0 ρ [⟨ptrG g1, false⟩, ⟨ptrG g2, false⟩] w) (ht : LdT ρ [⟨ptrG g1, false⟩, ⟨ptrG g2, false⟩] w B ga gb (newS g1) (newS g2)) (hBw : w0.heap.size ≤ B) (d : Nat → Value) :
    At Try.prog (bodyPost Try.prog Try.f12 (fun e w' => e = .returned (.bool true) ∧ Below w0.heap.size w0 w')) ⟨regK Try.f12 6, fillJ (tmplJ Try.f12.ntmps 0 [(0, .v (.slice A n cp)), (1, .v (.slice Ap np cpp)), (5, .ptr 0 0), (6, .ptr 1 0)]) d 0, [⟨ptrG g1, false⟩, ⟨ptrG g2, false⟩]⟩ ρ w := by
  have hmax := h.max
  have hlen := h.len
  have e0 := ht.ata
  have e1 := ht.atb
  have hag := Rel.ag_ hR 2 (by kernel_rfl)
  refine sim_run 3 [] (hR.cast (by kernel_rfl)) (by kernel_rfl) trivial (fun ρ1100 w1100 hm1100 hR1100 => ?_)
  have ht := ht.moved (hm1100.castL (by kernel_rfl))
  have hag := hag.moved (hm1100.castL (by kernel_rfl))
  
  refine sim_loop (ι := Nat) (T := []) (w0 := w0) 0 [0, 1, 5, 6] (fun i => [(7, LI i)]) (fun _ => [⟨ptrG g1, false⟩, ⟨ptrG g2, false⟩]) (fun i w1 => i ≤ n ∧ ∃ sa sb, LdT ρ1100 [⟨ptrG g1, false⟩, ⟨ptrG g2, false⟩] w1 B ga gb sa sb ∧ sa.g = g1 ∧ sb.g = g2 ∧ Lvl sa ∧ Lvl sb ∧ Eqv sa sb ∧ sa.l.length ≤ i) (fun i => n - i) (by kernel_rfl) (by kernel_rfl) ((by assumption : Rel _ _ _ _ _).cast (by kernel_rfl)) ⟨Nat.zero_le _, newS g1, newS g2, ht.castR (by kernel_rfl), rfl, rfl, lvl_new g1, lvl_new g2, eqv_new g1 g2, Nat.zero_le _⟩ ?_
  clear ht hag hR1100 hm1100 hR e0 e1
  rintro i d w2 hR2 ⟨hi, sa, sb, ht, hsA, hsB, hvA, hvB, hev, hll⟩
  have e0 := ht.ata
  have e1 := ht.atb
  have hag1 := hR2.ag_ 2 (by kernel_rfl)
  by_cases hlt : i < n
  · obtain ⟨o, ho, hok, hx⟩ := h.get hlt
    have hac : o.acc.size ≤ 281474976710656 := Nat.le_trans hok.acc hM
    have has : o.asset.size ≤ 281474976710656 := Nat.le_trans hok.asset hM
    have hok1 := hok.amt
    have hok2 := hok.kind
    unfold Is64 at hok1 hok2
    have hfA := ht.a.pos.mp.fine
    have hfB := ht.b.pos.mp.fine
    refine sim_see o.cells i 2 (by kernel_rfl) hx h.rd (opL_len os) (by omega) hlt (Nat.le_refl _) (by simp) hR2 (by kernel_rfl) (fun ga0 oa ρE eA hgT hgl hmE eE hRE => ?_)
    subst eA
    have ht := ht.moved hmE
    have hag1 := hag1.moved hmE
    have hag := hRE.ag_ 3 (by kernel_rfl)
    have e0 := ht.ata
    have e1 := ht.atb
    by_cases h3 : o.kind = 3
    · refine sim_run 8 [] (hRE.cast (by kernel_rfl)) (by kernel_rfl) trivial (fun ρ1200 w1200 hm1200 hR1200 => ?_)
      have ht := ht.moved (hm1200.castL (by kernel_rfl))
      have hag1 := hag1.moved (hm1200.castL (by kernel_rfl))
      have hag := hag.moved (hm1200.castL (by kernel_rfl))
      refine sim_know 36 (decide ((↑i : Int) < (↑n : Int))) true (by kernel_rfl) (decide_eq_true (by omega)) ?_
      refine sim_run 9 [] (hR1200.cast (by kernel_rfl)) (by kernel_rfl) trivial (fun ρ1201 w1201 hm1201 hR1201 => ?_)
      have ht := ht.moved (hm1201.castL (by kernel_rfl))
      have hag1 := hag1.moved (hm1201.castL (by kernel_rfl))
      have hag := hag.moved (hm1201.castL (by kernel_rfl))
      refine sim_place (.v (.slice (some ⟨ga0, oa, none⟩) n cp)) n 5 i 2 0 (by kernel_rfl) (by omega) (by omega) rfl (by simp only [Nm.at_, hag.at_ 2 (by omega), eE, Nat.add_zero, Int.toNat_natCast]) ?_
      refine sim_run 4 [] (hR1201.cast (by kernel_rfl)) (by kernel_rfl) trivial (fun ρ1203 w1203 hm1203 hR1203 => ?_)
      have ht := ht.moved (hm1203.castL (by kernel_rfl))
      have hag1 := hag1.moved (hm1203.castL (by kernel_rfl))
      have hag := hag.moved (hm1203.castL (by kernel_rfl))
      refine sim_know 44 (o.kind == 3) true (by kernel_rfl) (decide_eq_true (by omega)) ?_
      refine sim_run 2 [] (hR1203.cast (by kernel_rfl)) (by kernel_rfl) trivial (fun ρ1204 w1204 hm1204 hR1204 => ?_)
      have ht := ht.moved (hm1204.castL (by kernel_rfl))
      have hag1 := hag1.moved (hm1204.castL (by kernel_rfl))
      have hag := hag.moved (hm1204.castL (by kernel_rfl))
      refine sim_draw [] (by kernel_rfl) (by kernel_rfl) hR1204 (fun hR1205 => ?_)
      have ht := ht.drew
      refine sim_ordN 3 [] hR1205 (by kernel_rfl) trivial (fun ρ1206 w1206 hm1206 hR1206 => ?_)
      have hag1 := hag1.moved (hm1206.castL (by kernel_rfl))
      have hag := hag.moved (hm1206.castL (by kernel_rfl))
      have ht := ht.moved (hm1206.castL (by kernel_rfl))
      refine sim_ord_index (.v (.slice (some ⟨ga0, oa, none⟩) n cp)) n 5 i 2 0 (by kernel_rfl) (by omega) (by omega) rfl hR1206 (by simp only [Nm.at_, hag.at_ 2 (by omega), eE, Nat.add_zero, Int.toNat_natCast]) (fun hR1207 => ?_)
      refine sim_ordN 4 [] hR1207 (by kernel_rfl) trivial (fun ρ1208 w1208 hm1208 hR1208 => ?_)
      have hag1 := hag1.moved (hm1208.castL (by kernel_rfl))
      have hag := hag.moved (hm1208.castL (by kernel_rfl))
      have ht := ht.moved (hm1208.castL (by kernel_rfl))
      refine sim_ord_index (.v (.slice (some ⟨ga0, oa, none⟩) n cp)) n 5 i 2 0 (by kernel_rfl) (by omega) (by omega) rfl hR1208 (by simp only [Nm.at_, hag.at_ 2 (by omega), eE, Nat.add_zero, Int.toNat_natCast]) (fun hR1209 => ?_)
      refine sim_ordN 2 [] hR1209 (by kernel_rfl) trivial (fun ρ1210 w1210 hm1210 hR1210 => ?_)
      have hag1 := hag1.moved (hm1210.castL (by kernel_rfl))
      have hag := hag.moved (hm1210.castL (by kernel_rfl))
      have ht := ht.moved (hm1210.castL (by kernel_rfl))
      refine sim_ord_call (T := []) (w0 := w0) 25 [.ptr 0 0, .agg [LS o.acc, LS o.asset], LI o.amt] (by kernel_rfl) ?_
      have ez0_1211 := (hag.at_ 0 (by omega)).trans e0
      simp only [denL, LV.den, Nm.at_, ez0_1211, Nat.add_zero]
      refine Calls.mono (issue_any _ (ga) (sa) _ _ _ _ ht.a (by assumption) (by assumption) (by assumption) (lvl_hi hvA ht.a o.asset)) ?_
      rintro e1211 w1211 ⟨rfl, sa', hl1211, hisA, hk1211, hh1211⟩
      obtain ⟨ht2, hQ1211⟩ := ht.afterA (hR1210).rel hBw hl1211 hisA.g hk1211 hh1211 (by rw [hsA]; kernel_rfl) [2] (by kernel_rfl) (by intro q hq; simp only [List.mem_singleton] at hq; subst hq; rw [hag.at_ 2 (by omega), eE]; exact Nat.lt_of_lt_of_le hgl hBw)
      clear ht
      have ht := ht2
      clear ht2
      have hR1211 := (hR1210).with hQ1211 (LI (issC sa o.acc o.asset o.amt))
      refine BackO.of (LI (issC sa o.acc o.asset o.amt)) hR1211 rfl ?_
      refine sim_ord_endR hR1211 (by kernel_rfl) (fun hR1212 => ?_)
      
      refine sim_draw [] (by kernel_rfl) (by kernel_rfl) (hR1212.cast (by kernel_rfl)) (fun hR1300 => ?_)
      have hl1211 := hl1211.drew
      have ht := ht.drew
      refine sim_ordN 3 [] hR1300 (by kernel_rfl) trivial (fun ρ1301 w1301 hm1301 hR1301 => ?_)
      have hag1 := hag1.moved (hm1301.castL (by kernel_rfl))
      have hag := hag.moved (hm1301.castL (by kernel_rfl))
      have ht := ht.moved (hm1301.castL (by kernel_rfl))
      refine sim_ord_index (.v (.slice (some ⟨ga0, oa, none⟩) n cp)) n 5 i 2 0 (by kernel_rfl) (by omega) (by omega) rfl hR1301 (by simp only [Nm.at_, hag.at_ 2 (by omega), eE, Nat.add_zero, Int.toNat_natCast]) (fun hR1302 => ?_)
      refine sim_ordN 4 [] hR1302 (by kernel_rfl) trivial (fun ρ1303 w1303 hm1303 hR1303 => ?_)
      have hag1 := hag1.moved (hm1303.castL (by kernel_rfl))
      have hag := hag.moved (hm1303.castL (by kernel_rfl))
      have ht := ht.moved (hm1303.castL (by kernel_rfl))
      refine sim_ord_index (.v (.slice (some ⟨ga0, oa, none⟩) n cp)) n 5 i 2 0 (by kernel_rfl) (by omega) (by omega) rfl hR1303 (by simp only [Nm.at_, hag.at_ 2 (by omega), eE, Nat.add_zero, Int.toNat_natCast]) (fun hR1304 => ?_)
      refine sim_ordN 2 [] hR1304 (by kernel_rfl) trivial (fun ρ1305 w1305 hm1305 hR1305 => ?_)
      have hag1 := hag1.moved (hm1305.castL (by kernel_rfl))
      have hag := hag.moved (hm1305.castL (by kernel_rfl))
      have ht := ht.moved (hm1305.castL (by kernel_rfl))
      refine sim_ord_call (T := []) (w0 := w0) 25 [.ptr 1 0, .agg [LS o.acc, LS o.asset], LI o.amt] (by kernel_rfl) ?_
      have ez1_1306 := (hag.at_ 1 (by omega)).trans e1
      simp only [denL, LV.den, Nm.at_, ez1_1306, Nat.add_zero]
      refine Calls.mono (issue_any _ (gb) (sb) _ _ _ _ ht.b (by assumption) (by assumption) (by assumption) (lvl_hi hvB ht.b o.asset)) ?_
      rintro e1306 w1306 ⟨rfl, sb', hl1306, hisB, hk1306, hh1306⟩
      obtain ⟨ht2, hQ1306⟩ := ht.afterB (hR1305).rel hBw hl1306 hisB.g hk1306 hh1306 (by rw [hsB]; kernel_rfl) [2] (by kernel_rfl) (by intro q hq; simp only [List.mem_singleton] at hq; subst hq; rw [hag.at_ 2 (by omega), eE]; exact Nat.lt_of_lt_of_le hgl hBw)
      clear ht
      have ht := ht2
      clear ht2
      have hR1306 := (hR1305).with hQ1306 (LI (issC sb o.acc o.asset o.amt))
      refine BackO.of (LI (issC sb o.acc o.asset o.amt)) hR1306 rfl ?_
      refine sim_ord_endR hR1306 (by kernel_rfl) (fun hR1307 => ?_)
      refine sim_run 4 [] (hR1307.cast (by kernel_rfl)) (by kernel_rfl) trivial (fun ρ1308 w1308 hm1308 hR1308 => ?_)
      have hag1 := hag1.moved (hm1308.castL (by kernel_rfl))
      have hag := hag.moved (hm1308.castL (by kernel_rfl))
      have ht := ht.moved (hm1308.castL (by kernel_rfl))
      refine sim_place (.v (.slice (some ⟨ga0, oa, none⟩) n cp)) n 5 i 2 0 (by kernel_rfl) (by omega) (by omega) rfl (by simp only [Nm.at_, hag.at_ 2 (by omega), eE, Nat.add_zero, Int.toNat_natCast]) ?_
      refine sim_run 4 [] (hR1308.cast (by kernel_rfl)) (by kernel_rfl) trivial (fun ρ1310 w1310 hm1310 hR1310 => ?_)
      have hag1 := hag1.moved (hm1310.castL (by kernel_rfl))
      have hag := hag.moved (hm1310.castL (by kernel_rfl))
      have ht := ht.moved (hm1310.castL (by kernel_rfl))
      refine sim_know 74 (o.kind == 4) false (by kernel_rfl) (decide_eq_false (by omega)) ?_
      refine sim_run 8 [⟨8, 1, LI (IntKind.i64.wrap ((↑i : Int) + 1)), LI ((↑i : Int) + 1)⟩] (hR1310.cast (by kernel_rfl)) (by kernel_rfl) ⟨eqi (IntWalk.i64_in _ (by omega)), trivial⟩ (fun ρ1311 w1311 hm1311 hR1311 => ?_)
      have hag1 := hag1.moved (hm1311.castL (by kernel_rfl))
      have hag := hag.moved (hm1311.castL (by kernel_rfl))
      have ht := ht.moved (hm1311.castL (by kernel_rfl))
      
      exact sim_again (i + 1) (by kernel_rfl) (by show n - (i + 1) < n - i; omega) (by kernel_rfl) (by kernel_rfl) (by kernel_rfl) hag1.ag (Rel.cast (by assumption) (by kernel_rfl)) (by kernel_rfl) (by kernel_rfl) ⟨hlt, sa', sb', ht.cut hag1 (by omega) rfl (by kernel_rfl), hisA.g.trans hsA, hisB.g.trans hsB, lvl_issue hvA hfA ht.a.pos.mp.fine hisA, lvl_issue hvB hfB ht.b.pos.mp.fine hisB, hev.issue hisA hisB, by have := hisA.len; omega⟩
    · by_cases h4 : o.kind = 4
      · refine sim_run 8 [] (hRE.cast (by kernel_rfl)) (by kernel_rfl) trivial (fun ρ1400 w1400 hm1400 hR1400 => ?_)
        have ht := ht.moved (hm1400.castL (by kernel_rfl))
        have hag1 := hag1.moved (hm1400.castL (by kernel_rfl))
        have hag := hag.moved (hm1400.castL (by kernel_rfl))
        refine sim_know 36 (decide ((↑i : Int) < (↑n : Int))) true (by kernel_rfl) (decide_eq_true (by omega)) ?_
        refine sim_run 9 [] (hR1400.cast (by kernel_rfl)) (by kernel_rfl) trivial (fun ρ1401 w1401 hm1401 hR1401 => ?_)
        have ht := ht.moved (hm1401.castL (by kernel_rfl))
        have hag1 := hag1.moved (hm1401.castL (by kernel_rfl))
        have hag := hag.moved (hm1401.castL (by kernel_rfl))
        refine sim_place (.v (.slice (some ⟨ga0, oa, none⟩) n cp)) n 5 i 2 0 (by kernel_rfl) (by omega) (by omega) rfl (by simp only [Nm.at_, hag.at_ 2 (by omega), eE, Nat.add_zero, Int.toNat_natCast]) ?_
        refine sim_run 4 [] (hR1401.cast (by kernel_rfl)) (by kernel_rfl) trivial (fun ρ1403 w1403 hm1403 hR1403 => ?_)
        have ht := ht.moved (hm1403.castL (by kernel_rfl))
        have hag1 := hag1.moved (hm1403.castL (by kernel_rfl))
        have hag := hag.moved (hm1403.castL (by kernel_rfl))
        refine sim_know 44 (o.kind == 3) false (by kernel_rfl) (decide_eq_false (by omega)) ?_
        refine sim_run 6 [] (hR1403.cast (by kernel_rfl)) (by kernel_rfl) trivial (fun ρ1404 w1404 hm1404 hR1404 => ?_)
        have ht := ht.moved (hm1404.castL (by kernel_rfl))
        have hag1 := hag1.moved (hm1404.castL (by kernel_rfl))
        have hag := hag.moved (hm1404.castL (by kernel_rfl))
        refine sim_place (.v (.slice (some ⟨ga0, oa, none⟩) n cp)) n 5 i 2 0 (by kernel_rfl) (by omega) (by omega) rfl (by simp only [Nm.at_, hag.at_ 2 (by omega), eE, Nat.add_zero, Int.toNat_natCast]) ?_
        refine sim_run 4 [] (hR1404.cast (by kernel_rfl)) (by kernel_rfl) trivial (fun ρ1406 w1406 hm1406 hR1406 => ?_)
        have ht := ht.moved (hm1406.castL (by kernel_rfl))
        have hag1 := hag1.moved (hm1406.castL (by kernel_rfl))
        have hag := hag.moved (hm1406.castL (by kernel_rfl))
        refine sim_know 74 (o.kind == 4) true (by kernel_rfl) (decide_eq_true (by omega)) ?_
        refine sim_run 6 [] (hR1406.cast (by kernel_rfl)) (by kernel_rfl) trivial (fun ρ1407 w1407 hm1407 hR1407 => ?_)
        have ht := ht.moved (hm1407.castL (by kernel_rfl))
        have hag1 := hag1.moved (hm1407.castL (by kernel_rfl))
        have hag := hag.moved (hm1407.castL (by kernel_rfl))
        refine sim_place (.v (.slice (some ⟨ga0, oa, none⟩) n cp)) n 5 i 2 0 (by kernel_rfl) (by omega) (by omega) rfl (by simp only [Nm.at_, hag.at_ 2 (by omega), eE, Nat.add_zero, Int.toNat_natCast]) ?_
        refine sim_run 2 [] (hR1407.cast (by kernel_rfl)) (by kernel_rfl) trivial (fun ρ1409 w1409 hm1409 hR1409 => ?_)
        have ht := ht.moved (hm1409.castL (by kernel_rfl))
        have hag1 := hag1.moved (hm1409.castL (by kernel_rfl))
        have hag := hag.moved (hm1409.castL (by kernel_rfl))
        refine sim_call 31 [.ptr 0 0, .agg [LS o.acc, LS o.asset], LB true] (by kernel_rfl) ?_
        have ez0_1410 := (hag.at_ 0 (by omega)).trans e0
        simp only [denL, LV.den, Nm.at_, ez0_1410, Nat.add_zero]
        refine Calls.mono (block_any _ (ga) (sa) _ _ _ _ ht.a (by assumption) (by assumption)) ?_
        rintro e1410 w1410 ⟨rfl, sa', hl1410, hbsA, hk1410, hh1410⟩
        obtain ⟨ht2, hR1410⟩ := ht.afterA hR1409 hBw hl1410 hbsA.g hk1410 hh1410 (by rw [hsA]; kernel_rfl) [2] (by kernel_rfl) (by intro q hq; simp only [List.mem_singleton] at hq; subst hq; rw [hag.at_ 2 (by omega), eE]; exact Nat.lt_of_lt_of_le hgl hBw)
        clear ht
        have ht := ht2
        clear ht2
        refine Back.of (.tup []) hR1410 rfl ?_
        refine sim_run 2 [] (hR1410.cast (by kernel_rfl)) (by kernel_rfl) trivial (fun ρ1411 w1411 hm1411 hR1411 => ?_)
        have hag1 := hag1.moved (hm1411.castL (by kernel_rfl))
        have hag := hag.moved (hm1411.castL (by kernel_rfl))
        have ht := ht.moved (hm1411.castL (by kernel_rfl))
        
        refine sim_run 3 [] hR1411 (by kernel_rfl) trivial (fun ρ1600 w1600 hm1600 hR1600 => ?_)
        have hag1 := hag1.moved hm1600
        have hag := hag.moved hm1600
        have ht := ht.moved hm1600
        refine sim_place (.v (.slice (some ⟨ga0, oa, none⟩) n cp)) n 5 i 2 0 (by kernel_rfl) (by omega) (by omega) rfl (by simp only [Nm.at_, hag.at_ 2 (by omega), eE, Nat.add_zero, Int.toNat_natCast]) ?_
        refine sim_run 2 [] (hR1600.cast (by kernel_rfl)) (by kernel_rfl) trivial (fun ρ1602 w1602 hm1602 hR1602 => ?_)
        have hag1 := hag1.moved (hm1602.castL (by kernel_rfl))
        have hag := hag.moved (hm1602.castL (by kernel_rfl))
        have ht := ht.moved (hm1602.castL (by kernel_rfl))
        refine sim_call 31 [.ptr 1 0, .agg [LS o.acc, LS o.asset], LB true] (by kernel_rfl) ?_
        have ez1_1603 := (hag.at_ 1 (by omega)).trans e1
        simp only [denL, LV.den, Nm.at_, ez1_1603, Nat.add_zero]
        refine Calls.mono (block_any _ (gb) (sb) _ _ _ _ ht.b (by assumption) (by assumption)) ?_
        rintro e1603 w1603 ⟨rfl, sb', hl1603, hbsB, hk1603, hh1603⟩
        obtain ⟨ht2, hR1603⟩ := ht.afterB hR1602 hBw hl1603 hbsB.g hk1603 hh1603 (by rw [hsB]; kernel_rfl) [2] (by kernel_rfl) (by intro q hq; simp only [List.mem_singleton] at hq; subst hq; rw [hag.at_ 2 (by omega), eE]; exact Nat.lt_of_lt_of_le hgl hBw)
        clear ht
        have ht := ht2
        clear ht2
        refine Back.of (.tup []) hR1603 rfl ?_
        refine sim_run 7 [⟨8, 1, LI (IntKind.i64.wrap ((↑i : Int) + 1)), LI ((↑i : Int) + 1)⟩] (hR1603.cast (by kernel_rfl)) (by kernel_rfl) ⟨eqi (IntWalk.i64_in _ (by omega)), trivial⟩ (fun ρ1604 w1604 hm1604 hR1604 => ?_)
        have hag1 := hag1.moved (hm1604.castL (by kernel_rfl))
        have hag := hag.moved (hm1604.castL (by kernel_rfl))
        have ht := ht.moved (hm1604.castL (by kernel_rfl))
        
        exact sim_again (i + 1) (by kernel_rfl) (by show n - (i + 1) < n - i; omega) (by kernel_rfl) (by kernel_rfl) (by kernel_rfl) hag1.ag (Rel.cast (by assumption) (by kernel_rfl)) (by kernel_rfl) (by kernel_rfl) ⟨hlt, sa', sb', ht.cut hag1 (by omega) rfl (by kernel_rfl), hbsA.g.trans hsA, hbsB.g.trans hsB, lvl_block hvA hbsA, lvl_block hvB hbsB, hev.block hbsA hbsB, by rw [hbsA.l]; omega⟩
      · refine sim_run 8 [] (hRE.cast (by kernel_rfl)) (by kernel_rfl) trivial (fun ρ1700 w1700 hm1700 hR1700 => ?_)
        have ht := ht.moved (hm1700.castL (by kernel_rfl))
        have hag1 := hag1.moved (hm1700.castL (by kernel_rfl))
        have hag := hag.moved (hm1700.castL (by kernel_rfl))
        refine sim_know 36 (decide ((↑i : Int) < (↑n : Int))) true (by kernel_rfl) (decide_eq_true (by omega)) ?_
        refine sim_run 9 [] (hR1700.cast (by kernel_rfl)) (by kernel_rfl) trivial (fun ρ1701 w1701 hm1701 hR1701 => ?_)
        have ht := ht.moved (hm1701.castL (by kernel_rfl))
        have hag1 := hag1.moved (hm1701.castL (by kernel_rfl))
        have hag := hag.moved (hm1701.castL (by kernel_rfl))
        refine sim_place (.v (.slice (some ⟨ga0, oa, none⟩) n cp)) n 5 i 2 0 (by kernel_rfl) (by omega) (by omega) rfl (by simp only [Nm.at_, hag.at_ 2 (by omega), eE, Nat.add_zero, Int.toNat_natCast]) ?_
        refine sim_run 4 [] (hR1701.cast (by kernel_rfl)) (by kernel_rfl) trivial (fun ρ1703 w1703 hm1703 hR1703 => ?_)
        have ht := ht.moved (hm1703.castL (by kernel_rfl))
        have hag1 := hag1.moved (hm1703.castL (by kernel_rfl))
        have hag := hag.moved (hm1703.castL (by kernel_rfl))
        refine sim_know 44 (o.kind == 3) false (by kernel_rfl) (decide_eq_false (by omega)) ?_
        refine sim_run 6 [] (hR1703.cast (by kernel_rfl)) (by kernel_rfl) trivial (fun ρ1704 w1704 hm1704 hR1704 => ?_)
        have ht := ht.moved (hm1704.castL (by kernel_rfl))
        have hag1 := hag1.moved (hm1704.castL (by kernel_rfl))
        have hag := hag.moved (hm1704.castL (by kernel_rfl))
        refine sim_place (.v (.slice (some ⟨ga0, oa, none⟩) n cp)) n 5 i 2 0 (by kernel_rfl) (by omega) (by omega) rfl (by simp only [Nm.at_, hag.at_ 2 (by omega), eE, Nat.add_zero, Int.toNat_natCast]) ?_
        refine sim_run 4 [] (hR1704.cast (by kernel_rfl)) (by kernel_rfl) trivial (fun ρ1706 w1706 hm1706 hR1706 => ?_)
        have ht := ht.moved (hm1706.castL (by kernel_rfl))
        have hag1 := hag1.moved (hm1706.castL (by kernel_rfl))
        have hag := hag.moved (hm1706.castL (by kernel_rfl))
        refine sim_know 74 (o.kind == 4) false (by kernel_rfl) (decide_eq_false (by omega)) ?_
        refine sim_run 8 [⟨8, 1, LI (IntKind.i64.wrap ((↑i : Int) + 1)), LI ((↑i : Int) + 1)⟩] (hR1706.cast (by kernel_rfl)) (by kernel_rfl) ⟨eqi (IntWalk.i64_in _ (by omega)), trivial⟩ (fun ρ1707 w1707 hm1707 hR1707 => ?_)
        have ht := ht.moved (hm1707.castL (by kernel_rfl))
        have hag1 := hag1.moved (hm1707.castL (by kernel_rfl))
        have hag := hag.moved (hm1707.castL (by kernel_rfl))
        
        exact sim_again (i + 1) (by kernel_rfl) (by show n - (i + 1) < n - i; omega) (by kernel_rfl) (by kernel_rfl) (by kernel_rfl) hag1.ag (Rel.cast (by assumption) (by kernel_rfl)) (by kernel_rfl) (by kernel_rfl) ⟨hlt, sa, sb, ht.cut hag1 (by omega) rfl (by kernel_rfl), hsA, hsB, hvA, hvB, hev, by omega⟩
  · refine sim_run 8 [] (hR2.cast (by kernel_rfl)) (by kernel_rfl) trivial (fun ρ1500 w1500 hm1500 hR1500 => ?_)
    have ht := ht.moved (hm1500.castL (by kernel_rfl))
    have hag1 := hag1.moved (hm1500.castL (by kernel_rfl))
    refine sim_know 36 (decide ((↑i : Int) < (↑n : Int))) false (by kernel_rfl) (decide_eq_false (by omega)) ?_
    refine sim_run 1 [] (hR1500.cast (by kernel_rfl)) (by kernel_rfl) trivial (fun ρ1501 w1501 hm1501 hR1501 => ?_)
    have ht := ht.moved (hm1501.castL (by kernel_rfl))
    have hag1 := hag1.moved (hm1501.castL (by kernel_rfl))
    refine sim_leave (by kernel_rfl) ?_
    refine sim_run 2 [] (hR1501.cast (by kernel_rfl)) (by kernel_rfl) trivial (fun ρ1502 w1502 hm1502 hR1502 => ?_)
    have ht := ht.moved (hm1502.castL (by kernel_rfl))
    have hag1 := hag1.moved (hm1502.castL (by kernel_rfl))
    
    refine sim_to (regK Try.f12 15) (tmplJ Try.f12.ntmps 0 [(1, .v (.slice Ap np cpp)), (5, .ptr 0 0), (6, .ptr 1 0)]) [⟨ptrG g1, false⟩, ⟨ptrG g2, false⟩] (by kernel_rfl) (by kernel_rfl) (by kernel_rfl) (fun d9 => ?_)
    exact whole_tail hM kp hnp ((by assumption : Rel _ _ _ _ _).cast (by kernel_rfl)) (ht.castR (by kernel_rfl)) hBw hsA hsB hvA hvB hev (by omega) d9
set_option maxRecDepth 100000 in
set_option maxHeartbeats 4000000 in
theorem postWhole_walk (w : World) (A : Option Addr) (n cp M : Nat) (hM : M ≤ 281474976710656) (os : List OpL) (h : OpLs w A n M os) (Ap : Option Addr) (np cpp : Nat) (p : List OpP) (kp : PsIn w M Ap np cpp p) : Calls Try.prog 12 #[.slice A n cp, .slice Ap np cpp] w fun e w' => e = .returned (.bool true) ∧ Below w.heap.size w w' := by
  have hmax := h.max
  have hlen := h.len
  have m1 := kp.max
  have hnp0 : ∀ o ∈ os, o.n ≤ maxLen := fun o ho => (h.ok o ho).ps.max
  refine sim_enter Try.func12 ρ0 [.v (.slice A n cp), .v (.slice Ap np cpp)] [] (by kernel_rfl) rfl ?_
  have hR := Rel.start [] w ρ0
  cases hli : lightB os with
  | false =>
    refine sim_run 8 [] (hR.cast (by kernel_rfl)) (by kernel_rfl) trivial (fun ρ2600 w2600 hm2600 hR2600 => ?_)
    refine sim_call 28 [.v (Value.slice A n cp)] (by kernel_rfl) ?_
    refine Calls.mono (light11_any _ _ _ _ (os) _ ((h.at_ (by assumption : Rel _ _ _ _ _).toBelow).rd) (Nat.le_refl _) (hlen) (hmax) (hnp0)) ?_
    rw [hli]
    rintro e2601 w2601 ⟨rfl, hb2601⟩
    have hR2601 := (hR2600).below hb2601
    refine Back.of (LB false) hR2601 rfl ?_
    refine sim_run 10 [] (hR2601.cast (by kernel_rfl)) (by kernel_rfl) trivial (fun ρ2602 w2602 hm2602 hR2602 => ?_)
    refine sim_call 23 [] (by kernel_rfl) ?_
    refine Calls.mono (alive11_any _) ?_
    rintro e2603 w2603 ⟨rfl, hb2603⟩
    have hR2603 := hR2602.below hb2603
    refine Back.of (LB true) hR2603 rfl ?_
    refine sim_run 2 [] (hR2603.cast (by kernel_rfl)) (by kernel_rfl) trivial (fun ρ2604 w2604 hm2604 hR2604 => ?_)
    refine sim_ret (LB true) hR2604 (by kernel_rfl) (by kernel_rfl) ?_
    exact ⟨rfl, hR2604.toBelow⟩
    
  | true =>
    obtain ⟨hn100, hn15⟩ := light_of hli
    refine sim_run 8 [] (hR.cast (by kernel_rfl)) (by kernel_rfl) trivial (fun ρ2700 w2700 hm2700 hR2700 => ?_)
    refine sim_call 28 [.v (Value.slice A n cp)] (by kernel_rfl) ?_
    refine Calls.mono (light11_any _ _ _ _ (os) _ ((h.at_ (by assumption : Rel _ _ _ _ _).toBelow).rd) (Nat.le_refl _) (hlen) (hmax) (hnp0)) ?_
    rw [hli]
    rintro e2701 w2701 ⟨rfl, hb2701⟩
    have hR2701 := (hR2700).below hb2701
    refine Back.of (LB true) hR2701 rfl ?_
    refine sim_run 7 [] (hR2701.cast (by kernel_rfl)) (by kernel_rfl) trivial (fun ρ2702 w2702 hm2702 hR2702 => ?_)
    refine sim_fork 23 (decide ((↑np : Int) > 100)) (by kernel_rfl) (fun hq2703 => ?_) (fun hq2703 => ?_)
    have hq2703 := of_decide_eq_true hq2703
    refine sim_run 3 [] (hR2702.cast (by kernel_rfl)) (by kernel_rfl) trivial (fun ρ2704 w2704 hm2704 hR2704 => ?_)
    refine sim_call 23 [] (by kernel_rfl) ?_
    refine Calls.mono (alive11_any _) ?_
    rintro e2705 w2705 ⟨rfl, hb2705⟩
    have hR2705 := hR2704.below hb2705
    refine Back.of (LB true) hR2705 rfl ?_
    refine sim_run 2 [] (hR2705.cast (by kernel_rfl)) (by kernel_rfl) trivial (fun ρ2706 w2706 hm2706 hR2706 => ?_)
    refine sim_ret (LB true) hR2706 (by kernel_rfl) (by kernel_rfl) ?_
    exact ⟨rfl, hR2706.toBelow⟩
    have hq2703 := of_decide_eq_false hq2703
    refine sim_run 4 [] (hR2702.cast (by kernel_rfl)) (by kernel_rfl) trivial (fun ρ2707 w2707 hm2707 hR2707 => ?_)
    refine sim_call 24 [] (by kernel_rfl) ?_
    refine Calls.mono (newLd_any _) ?_
    rintro e2708 w2708 ⟨ga, g1, rfl, hl2708, hb2708⟩
    have hBw := (hR2707).keeps.size
    have hRr2708 := (hR2707).below hb2708
    refine Back.view hl2708 (hRr2708.cast (by kernel_rfl)) (by kernel_rfl) (fun ρv e0 hR2708 hld => ?_)
    have hag := hR2708.ag_ 1 (by kernel_rfl)
    
    refine sim_call 24 [] (by kernel_rfl) ?_
    refine Calls.mono (newLd_any _) ?_
    rintro e2800 w2800 ⟨gb, g2, rfl, hl2, hb2800⟩
    have hlt2 := fun x (hx : (newS g1).all ga x) => hld.ld.has_lt hx
    have hBB := Nat.le_of_lt (Nat.lt_of_le_of_lt hld.ld.ge hld.ld.cell.lt)
    have hld2 := hld.below hb2800
    have hRr := (hR2708).below hb2800
    refine Back.view2 (hld2.castR (by kernel_rfl)) hl2 hlt2 hBB (hRr.cast (by kernel_rfl)) (by kernel_rfl) (fun ρv2 hR2800 ht => ?_)
    have hag := hR2800.ag_ 2 (by kernel_rfl)
    have e0 := ht.ata
    have e1 := ht.atb
    clear hld hld2
    refine sim_run 18 [] (hR2800.cast (by kernel_rfl)) (by kernel_rfl) trivial (fun ρ2801 w2801 hm2801 hR2801 => ?_)
    have ht := ht.moved (hm2801.castL (by kernel_rfl))
    have hag := hag.moved (hm2801.castL (by kernel_rfl))
    
    refine sim_to (regK Try.f12 6) (tmplJ Try.f12.ntmps 0 [(0, .v (.slice A n cp)), (1, .v (.slice Ap np cpp)), (5, .ptr 0 0), (6, .ptr 1 0)]) [⟨ptrG g1, false⟩, ⟨ptrG g2, false⟩] (by kernel_rfl) (by kernel_rfl) (by kernel_rfl) (fun d0 => ?_)
    exact whole_loop hM h hn100 kp (by omega) ((by assumption : Rel _ _ _ _ _).cast (by kernel_rfl)) (ht.castR (by kernel_rfl)) hBw d0
end Go.Proofs.Ytgbgedaedcofcaa
