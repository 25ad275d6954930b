/-
  What is shifted between the parts of a position leaves its whole; only free ones are barred by a block: for every two numbers.
-/
import Derived.Test.YtgbgedaedcofcaaPostShifts0
namespace Go.Proofs.Ytgbgedaedcofcaa
open Go Go.RowKit
attribute [local irreducible] run goO leaveK someK nextK nextT nextOT nextOD loopBody loopRest loopK fillJ tmplOf tmplJ mergeT At AtO drawOk ordOf gateOf callC callO topOp topO idxOf appOf storeOf clearOf sliceOf calleeOf calleeO topQ idxQ newRowOf resL stepOp seek
set_option maxRecDepth 100000 in
set_option maxHeartbeats 4000000 in
theorem shifts_bad {ρ : Nm} {w0 w : World} {B gl g : Nat} {n m : Int} {s : LSt} (hR : Rel [] w0 ρ [⟨ptrG g, false⟩, ⟨[LS ⟨#[65]⟩, LS ⟨#[88]⟩], true⟩] w) (hld : LdO ρ [⟨ptrG g, false⟩, ⟨[LS ⟨#[65]⟩, LS ⟨#[88]⟩], true⟩] w B gl s) (hBw : w0.heap.size ≤ B) (hn : 0 ≤ n ∧ n ≤ 1099511627776) (hm : 1 ≤ m ∧ m ≤ 1099511627776) (hsg : s.g = g) (hlb : hasK kAX s.lb = true) (hg2 : ∀ k, getM s.l k = shB n 0 k) (hli : (look (⟨#[88]⟩ : ByteArray) s.li).getD 0 = n) (d : Nat → Value) :
    At Try.prog (bodyPost Try.prog Try.f11 (fun e w' => e = .returned (.bool true) ∧ Below w0.heap.size w0 w')) ⟨regK Try.f11 8, fillJ (tmplJ Try.f11.ntmps 0 [(0, LI n), (1, LI m), (2, LB true), (7, .ptr 0 0), (8, .ptr 1 0)]) d 0, [⟨ptrG g, false⟩, ⟨[LS ⟨#[65]⟩, LS ⟨#[88]⟩], true⟩]⟩ ρ w := by
  have e0 := hld.at_
  have hag := Rel.ag_ hR 1 (by kernel_rfl)
  have hX : (⟨#[88]⟩ : ByteArray).size ≤ 281474976710656 := by decide
  have hA : (⟨#[65]⟩ : ByteArray).size ≤ 281474976710656 := by decide
  have hzm : -4611686018427387904 ≤ m ∧ m ≤ 4611686018427387904 := by omega
  have hsA : (⟨#[65]⟩ : ByteArray).size ≤ 9223372036854775807 := by decide
  have hsX : (⟨#[88]⟩ : ByteArray).size ≤ 9223372036854775807 := by decide
  have i0 : Is64 0 := by unfold Is64; decide
  have i2 : Is64 2 := by unfold Is64; decide
  have im1 : Is64 (-1) := by unfold Is64; decide
  have ip1 : Is64 1 := by unfold Is64; decide
  have hokB := hld.ld.pos.ok
  have hn60 : n ≤ 1152921504606846976 := by omega
  have hlk := sh_bad (s := s) (z := m) (c := 35) hokB (by omega) (by rw [hg2]; show (0 : Int) + m ≤ _; omega) (.inl ⟨hlb, rfl⟩)
  refine sim_run 3 [] (hR.cast (by kernel_rfl)) (by kernel_rfl) trivial (fun ρ100 w100 hm100 hR100 => ?_)
  have hld := hld.moved (hm100.castL (by kernel_rfl))
  have hag := hag.moved (hm100.castL (by kernel_rfl))
  refine sim_call 33 [.agg [LS (ByteArray.mk #[65]), LS (ByteArray.mk #[88])], LI 0, LI 2, LI m] (by kernel_rfl) ?_
  refine Calls.mono (shift_any (⟨#[65]⟩) (⟨#[88]⟩) (0) (2) (m) _ (hzm) (hsA) (hsX) (i0) (i2)) ?_
  rintro e101 w101 ⟨gp, op, rfl, hgp101, hps, hb101⟩
  have hR101 := (hR100).below hb101
  have hld := hld.below hb101
  refine Back.of (.v (.slice (some ⟨gp, op, none⟩) 2 2)) hR101 rfl ?_
  refine sim_call 29 [.ptr 0 0, .v (Value.slice (some (Addr.mk gp op none)) 2 2)] (by kernel_rfl) ?_
  have ez0_102 := (hag.at_ 0 (by omega)).trans e0
  simp only [denL, LV.den, Nm.at_, ez0_102, Nat.add_zero]
  refine Calls.mono (apply_any _ (gl) _ (s) _ _ _ (shiftL ⟨#[65]⟩ ⟨#[88]⟩ 0 2 m) _ (hld.ld) (hps) (Nat.le_refl _) ((by decide)) (sh_short)) ?_
  rintro e102 w102 ⟨rfl, m2, l2, ck2, hl102, hget2, hlen2, hk102, hv102⟩
  obtain ⟨hld2, hR102⟩ := hld.afterL (hR101) hBw hl102 rfl (hk102.mono (fun x hx => .inl (.inr (hx.elim .inl (fun e => .inr (.inl e)))))) (fun x hx => setPos_has hv102 hx) (by rw [hsg]; kernel_rfl) [] (by kernel_rfl) (by simp)
  clear hld
  have hld := hld2
  clear hld2
  refine Back.of (LI 35) hR102 (by rw [hlk]; rfl) ?_
  refine sim_run 4 [] (hR102.cast (by kernel_rfl)) (by kernel_rfl) trivial (fun ρ103 w103 hm103 hR103 => ?_)
  have hag := hag.moved (hm103.castL (by kernel_rfl))
  have hld := hld.moved (hm103.castL (by kernel_rfl))
  
  have hg3 : ∀ k, getM l2 k = shB n 0 k := fun k => by
    rw [hget2 k, look_nil (by rw [hlk]; decide)]
    exact hg2 k
  have hw := sh_whole hg3 (by omega)
  have hi1 : issC (s.setPos m2 l2 ck2) ⟨#[65]⟩ ⟨#[88]⟩ (-1) = 35 := by
    unfold issC
    rw [if_neg (by decide), if_pos ⟨by decide, hlb⟩]
  have hb1 : -4611686018427387904 ≤ (look (⟨#[88]⟩ : ByteArray) (s.setPos m2 l2 ck2).li).getD 0 ∧ (look (⟨#[88]⟩ : ByteArray) (s.setPos m2 l2 ck2).li).getD 0 ≤ 4611686018427387904 := by
    show -4611686018427387904 ≤ (look (⟨#[88]⟩ : ByteArray) s.li).getD 0 ∧ (look (⟨#[88]⟩ : ByteArray) s.li).getD 0 ≤ 4611686018427387904
    rw [hli]
    omega
  refine sim_draw [] (by kernel_rfl) (by kernel_rfl) hR103 (fun hR200 => ?_)
  have hld := hld.drew
  refine sim_ordN 6 [] hR200 (by kernel_rfl) trivial (fun ρ201 w201 hm201 hR201 => ?_)
  have hag := hag.moved (hm201.castL (by kernel_rfl))
  have hld := hld.moved (hm201.castL (by kernel_rfl))
  refine sim_ord_call (T := []) (w0 := w0) 22 [.v (Value.pointer (some (Addr.mk g 0 none))), .agg [LS (ByteArray.mk #[65]), LS (ByteArray.mk #[88])]] (by kernel_rfl) ?_
  refine Calls.mono (whole_po _ _ (m2) (l2) (ck2) _ _ _ (pos_g hld.ld hsg)) ?_
  rw [hw, Int.add_zero]
  rintro e202 w202 ⟨rfl, hb202⟩
  have hR202 := (hR201).call hb202 (LI n)
  have hld := hld.below hb202
  refine BackO.of (LI n) hR202 rfl ?_
  refine sim_ordN 1 [] hR202 (by kernel_rfl) trivial (fun ρ203 w203 hm203 hR203 => ?_)
  have hag := hag.moved (hm203.castL (by kernel_rfl))
  have hld := hld.moved (hm203.castL (by kernel_rfl))
  refine sim_ord_endR hR203 (by kernel_rfl) (fun hR204 => ?_)
  refine sim_fork 52 (n != n) (by kernel_rfl) (fun hq205 => ?_) (fun hq205 => ?_)
  have hq205 := nb_t hq205
  have hq205 := of_decide_eq_false hq205
  refine sim_run 5 [] (hR204.cast (by kernel_rfl)) (by kernel_rfl) trivial (fun ρ206 w206 hm206 hR206 => ?_)
  have hag := hag.moved (hm206.castL (by kernel_rfl))
  have hld := hld.moved (hm206.castL (by kernel_rfl))
  refine sim_ret (LB false) hR206 (by kernel_rfl) (by kernel_rfl) ?_
  exact ⟨retv_bool (by clear hR206 hm206 hR204 hR203 hm203 hR202 hb202 hR201 hm201 hR200 hR103 hm103 hR102 hR101 hb101 hR100 hm100 hag e0 hR; grind []), hR206.toBelow⟩
  have hq205 := nb_f hq205
  have hq205 := of_decide_eq_true hq205
  refine sim_run 10 [] (hR204.cast (by kernel_rfl)) (by kernel_rfl) trivial (fun ρ207 w207 hm207 hR207 => ?_)
  have hag := hag.moved (hm207.castL (by kernel_rfl))
  have hld := hld.moved (hm207.castL (by kernel_rfl))
  
  refine sim_call 23 [] (by kernel_rfl) ?_
  refine Calls.mono (alive11_any _) ?_
  rintro e300 w300 ⟨rfl, hb300⟩
  have hR300 := (hR207).below hb300
  have hld := hld.below hb300
  refine Back.of (LB true) hR300 rfl ?_
  refine sim_run 7 [] (hR300.cast (by kernel_rfl)) (by kernel_rfl) trivial (fun ρ301 w301 hm301 hR301 => ?_)
  have hag := hag.moved (hm301.castL (by kernel_rfl))
  have hld := hld.moved (hm301.castL (by kernel_rfl))
  refine sim_call 25 [.ptr 0 0, .agg [LS (ByteArray.mk #[65]), LS (ByteArray.mk #[88])], LI (-1)] (by kernel_rfl) ?_
  have ez0_302 := (hag.at_ 0 (by omega)).trans e0
  simp only [denL, LV.den, Nm.at_, ez0_302, Nat.add_zero]
  refine Calls.mono (issue_any _ (gl) (s.setPos m2 l2 ck2) _ _ (-1) _ (hld.ld) (im1) (hA) (hX) (hb1)) ?_
  rintro e302 w302 ⟨rfl, s4, hl302, his4, hk302, hh302⟩
  obtain ⟨hld2, hR302⟩ := hld.afterL hR301 hBw hl302 his4.g hk302 hh302 (by rw [show (s.setPos m2 l2 ck2).g = g from hsg]; kernel_rfl) [] (by kernel_rfl) (by simp)
  clear hld
  have hld := hld2
  clear hld2
  refine Back.of (LI 35) hR302 (by rw [hi1]; rfl) ?_
  refine sim_run 5 [] (hR302.cast (by kernel_rfl)) (by kernel_rfl) trivial (fun ρ303 w303 hm303 hR303 => ?_)
  have hag := hag.moved (hm303.castL (by kernel_rfl))
  have hld := hld.moved (hm303.castL (by kernel_rfl))
  
  have hg4 : ∀ k, getM s4.l k = shB n 0 k := fun k => by
    rw [his4.get k, if_neg (by rw [hi1]; decide)]
    exact hg3 k
  have hli4 : (look (⟨#[88]⟩ : ByteArray) s4.li).getD 0 = n := by
    rw [his4.iss, if_neg (fun h => by rw [hi1] at h; exact absurd h.1 (by decide))]
    exact hli
  have hsg4 : s4.g = g := his4.g.trans hsg
  have hlb4 : hasK (⟨#[65]⟩, ⟨#[88]⟩) s4.lb = true := by rw [his4.lb]; exact hlb
  have hi2 : issC s4 ⟨#[65]⟩ ⟨#[88]⟩ 1 = 0 := by
    unfold issC
    rw [if_neg (by decide), if_neg (fun h => absurd h.1 (by decide)), hli4, if_neg (by omega), hg4, shB_at]
    exact addC_free' (by omega) (by show (0 : Int) ≤ n + 1; omega) (by show n + 1 ≤ _; omega)
  have hb2 : -4611686018427387904 ≤ (look (⟨#[88]⟩ : ByteArray) s4.li).getD 0 ∧ (look (⟨#[88]⟩ : ByteArray) s4.li).getD 0 ≤ 4611686018427387904 := by
    rw [hli4]
    omega
  refine sim_call 25 [.ptr 0 0, .agg [LS (ByteArray.mk #[65]), LS (ByteArray.mk #[88])], LI 1] (by kernel_rfl) ?_
  have ez0_400 := (hag.at_ 0 (by omega)).trans e0
  simp only [denL, LV.den, Nm.at_, ez0_400, Nat.add_zero]
  refine Calls.mono (issue_any _ (gl) (s4) _ _ (1) _ (hld.ld) (ip1) (hA) (hX) (hb2)) ?_
  rintro e400 w400 ⟨rfl, s5, hl400, his5, hk400, hh400⟩
  obtain ⟨hld2, hR400⟩ := hld.afterL hR303 hBw hl400 his5.g hk400 hh400 (by rw [hsg4]; kernel_rfl) [] (by kernel_rfl) (by simp)
  clear hld
  have hld := hld2
  clear hld2
  refine Back.of (LI 0) hR400 (by rw [hi2]; rfl) ?_
  refine sim_run 5 [] (hR400.cast (by kernel_rfl)) (by kernel_rfl) trivial (fun ρ401 w401 hm401 hR401 => ?_)
  have hag := hag.moved (hm401.castL (by kernel_rfl))
  have hld := hld.moved (hm401.castL (by kernel_rfl))
  
  have hlb5 : hasK (⟨#[65]⟩, ⟨#[88]⟩) s5.lb = true := by rw [his5.lb]; exact hlb4
  refine sim_call 34 [.ptr 0 0, .agg [LS (ByteArray.mk #[65]), LS (ByteArray.mk #[88])]] (by kernel_rfl) ?_
  have ez0_500 := (hag.at_ 0 (by omega)).trans e0
  simp only [denL, LV.den, Nm.at_, ez0_500, Nat.add_zero]
  refine Calls.mono (blocked_any _ _ _ _ _ _ hld.ld) ?_
  rw [hlb5]
  rintro e500 w500 ⟨rfl, hb500⟩
  have hR500 := (hR401).below hb500
  have hld := hld.below hb500
  refine Back.of (LB true) hR500 rfl ?_
  refine sim_run 3 [] (hR500.cast (by kernel_rfl)) (by kernel_rfl) trivial (fun ρ501 w501 hm501 hR501 => ?_)
  have hag := hag.moved (hm501.castL (by kernel_rfl))
  have hld := hld.moved (hm501.castL (by kernel_rfl))
  refine sim_ret (LB true) hR501 (by kernel_rfl) (by kernel_rfl) ?_
  exact ⟨rfl, hR501.toBelow⟩
  
set_option maxRecDepth 100000 in
set_option maxHeartbeats 4000000 in
theorem shifts_few {ρ : Nm} {w0 w : World} {B gl g : Nat} {n m : Int} {s : LSt} (hR : Rel [] w0 ρ [⟨ptrG g, false⟩, ⟨[LS ⟨#[65]⟩, LS ⟨#[88]⟩], true⟩] w) (hld : LdO ρ [⟨ptrG g, false⟩, ⟨[LS ⟨#[65]⟩, LS ⟨#[88]⟩], true⟩] w B gl s) (hBw : w0.heap.size ≤ B) (hn : 0 ≤ n ∧ n ≤ 1099511627776) (hm : 1 ≤ m ∧ m ≤ 1099511627776) (hmn : n < m) (hsg : s.g = g) (hlb : hasK kAX s.lb = false) (hg2 : ∀ k, getM s.l k = shB n 0 k) (hli : (look (⟨#[88]⟩ : ByteArray) s.li).getD 0 = n) (d : Nat → Value) :
    At Try.prog (bodyPost Try.prog Try.f11 (fun e w' => e = .returned (.bool true) ∧ Below w0.heap.size w0 w')) ⟨regK Try.f11 8, fillJ (tmplJ Try.f11.ntmps 0 [(0, LI n), (1, LI m), (2, LB false), (7, .ptr 0 0), (8, .ptr 1 0)]) d 0, [⟨ptrG g, false⟩, ⟨[LS ⟨#[65]⟩, LS ⟨#[88]⟩], true⟩]⟩ ρ w := by
  have e0 := hld.at_
  have hag := Rel.ag_ hR 1 (by kernel_rfl)
  have hX : (⟨#[88]⟩ : ByteArray).size ≤ 281474976710656 := by decide
  have hA : (⟨#[65]⟩ : ByteArray).size ≤ 281474976710656 := by decide
  have hzm : -4611686018427387904 ≤ m ∧ m ≤ 4611686018427387904 := by omega
  have hsA : (⟨#[65]⟩ : ByteArray).size ≤ 9223372036854775807 := by decide
  have hsX : (⟨#[88]⟩ : ByteArray).size ≤ 9223372036854775807 := by decide
  have i0 : Is64 0 := by unfold Is64; decide
  have i2 : Is64 2 := by unfold Is64; decide
  have im1 : Is64 (-1) := by unfold Is64; decide
  have ip1 : Is64 1 := by unfold Is64; decide
  have hokB := hld.ld.pos.ok
  have hn60 : n ≤ 1152921504606846976 := by omega
  have hlk := sh_bad (s := s) (z := m) (c := 30) hokB (by omega) (by rw [hg2]; show (0 : Int) + m ≤ _; omega) (.inr ⟨hlb, by rw [hg2]; exact hmn, rfl⟩)
  refine sim_run 3 [] (hR.cast (by kernel_rfl)) (by kernel_rfl) trivial (fun ρ1100 w1100 hm1100 hR1100 => ?_)
  have hld := hld.moved (hm1100.castL (by kernel_rfl))
  have hag := hag.moved (hm1100.castL (by kernel_rfl))
  refine sim_call 33 [.agg [LS (ByteArray.mk #[65]), LS (ByteArray.mk #[88])], LI 0, LI 2, LI m] (by kernel_rfl) ?_
  refine Calls.mono (shift_any (⟨#[65]⟩) (⟨#[88]⟩) (0) (2) (m) _ (hzm) (hsA) (hsX) (i0) (i2)) ?_
  rintro e1101 w1101 ⟨gp, op, rfl, hgp1101, hps, hb1101⟩
  have hR1101 := (hR1100).below hb1101
  have hld := hld.below hb1101
  refine Back.of (.v (.slice (some ⟨gp, op, none⟩) 2 2)) hR1101 rfl ?_
  refine sim_call 29 [.ptr 0 0, .v (Value.slice (some (Addr.mk gp op none)) 2 2)] (by kernel_rfl) ?_
  have ez0_1102 := (hag.at_ 0 (by omega)).trans e0
  simp only [denL, LV.den, Nm.at_, ez0_1102, Nat.add_zero]
  refine Calls.mono (apply_any _ (gl) _ (s) _ _ _ (shiftL ⟨#[65]⟩ ⟨#[88]⟩ 0 2 m) _ (hld.ld) (hps) (Nat.le_refl _) ((by decide)) (sh_short)) ?_
  rintro e1102 w1102 ⟨rfl, m2, l2, ck2, hl1102, hget2, hlen2, hk1102, hv1102⟩
  obtain ⟨hld2, hR1102⟩ := hld.afterL (hR1101) hBw hl1102 rfl (hk1102.mono (fun x hx => .inl (.inr (hx.elim .inl (fun e => .inr (.inl e)))))) (fun x hx => setPos_has hv1102 hx) (by rw [hsg]; kernel_rfl) [] (by kernel_rfl) (by simp)
  clear hld
  have hld := hld2
  clear hld2
  refine Back.of (LI 30) hR1102 (by rw [hlk]; rfl) ?_
  refine sim_run 4 [] (hR1102.cast (by kernel_rfl)) (by kernel_rfl) trivial (fun ρ1103 w1103 hm1103 hR1103 => ?_)
  have hag := hag.moved (hm1103.castL (by kernel_rfl))
  have hld := hld.moved (hm1103.castL (by kernel_rfl))
  
  have hg3 : ∀ k, getM l2 k = shB n 0 k := fun k => by
    rw [hget2 k, look_nil (by rw [hlk]; decide)]
    exact hg2 k
  have hw := (sh_whole hg3 (by omega)).trans (Int.add_zero n)
  refine sim_draw [] (by kernel_rfl) (by kernel_rfl) hR1103 (fun hR1200 => ?_)
  have hld := hld.drew
  refine sim_ordN 6 [] hR1200 (by kernel_rfl) trivial (fun ρ1201 w1201 hm1201 hR1201 => ?_)
  have hag := hag.moved (hm1201.castL (by kernel_rfl))
  have hld := hld.moved (hm1201.castL (by kernel_rfl))
  refine sim_ord_call (T := []) (w0 := w0) 22 [.v (Value.pointer (some (Addr.mk g 0 none))), .agg [LS (ByteArray.mk #[65]), LS (ByteArray.mk #[88])]] (by kernel_rfl) ?_
  refine Calls.mono (whole_po _ _ (m2) (l2) (ck2) _ _ _ (pos_g hld.ld hsg)) ?_
  rw [hw]
  rintro e1202 w1202 ⟨rfl, hb1202⟩
  have hR1202 := (hR1201).call hb1202 (LI n)
  have hld := hld.below hb1202
  refine BackO.of (LI n) hR1202 rfl ?_
  refine sim_ordN 1 [] hR1202 (by kernel_rfl) trivial (fun ρ1203 w1203 hm1203 hR1203 => ?_)
  have hag := hag.moved (hm1203.castL (by kernel_rfl))
  have hld := hld.moved (hm1203.castL (by kernel_rfl))
  refine sim_ord_endR hR1203 (by kernel_rfl) (fun hR1204 => ?_)
  refine sim_fork 52 (n != n) (by kernel_rfl) (fun hq1205 => ?_) (fun hq1205 => ?_)
  have hq1205 := nb_t hq1205
  have hq1205 := of_decide_eq_false hq1205
  refine sim_run 5 [] (hR1204.cast (by kernel_rfl)) (by kernel_rfl) trivial (fun ρ1206 w1206 hm1206 hR1206 => ?_)
  have hag := hag.moved (hm1206.castL (by kernel_rfl))
  have hld := hld.moved (hm1206.castL (by kernel_rfl))
  refine sim_ret (LB false) hR1206 (by kernel_rfl) (by kernel_rfl) ?_
  exact ⟨retv_bool (by clear hR1206 hm1206 hR1204 hR1203 hm1203 hR1202 hb1202 hR1201 hm1201 hR1200 hR1103 hm1103 hR1102 hR1101 hb1101 hR1100 hm1100 hag e0 hR; grind []), hR1206.toBelow⟩
  have hq1205 := nb_f hq1205
  have hq1205 := of_decide_eq_true hq1205
  refine sim_run 16 [] (hR1204.cast (by kernel_rfl)) (by kernel_rfl) trivial (fun ρ1207 w1207 hm1207 hR1207 => ?_)
  have hag := hag.moved (hm1207.castL (by kernel_rfl))
  have hld := hld.moved (hm1207.castL (by kernel_rfl))
  refine sim_know 78 (decide (m > n)) true (by kernel_rfl) (decide_eq_true (by omega)) ?_
  refine sim_run 3 [] (hR1207.cast (by kernel_rfl)) (by kernel_rfl) trivial (fun ρ1208 w1208 hm1208 hR1208 => ?_)
  have hag := hag.moved (hm1208.castL (by kernel_rfl))
  have hld := hld.moved (hm1208.castL (by kernel_rfl))
  refine sim_call 23 [] (by kernel_rfl) ?_
  refine Calls.mono (alive11_any _) ?_
  rintro e1209 w1209 ⟨rfl, hb1209⟩
  have hR1209 := (hR1208).below hb1209
  have hld := hld.below hb1209
  refine Back.of (LB true) hR1209 rfl ?_
  refine sim_run 6 [] (hR1209.cast (by kernel_rfl)) (by kernel_rfl) trivial (fun ρ1210 w1210 hm1210 hR1210 => ?_)
  have hag := hag.moved (hm1210.castL (by kernel_rfl))
  have hld := hld.moved (hm1210.castL (by kernel_rfl))
  refine sim_ret (LB true) hR1210 (by kernel_rfl) (by kernel_rfl) ?_
  exact ⟨rfl, hR1210.toBelow⟩
  
set_option maxRecDepth 100000 in
set_option maxHeartbeats 4000000 in
theorem shifts_good {ρ : Nm} {w0 w : World} {B gl g : Nat} {n m : Int} {s : LSt} (hR : Rel [] w0 ρ [⟨ptrG g, false⟩, ⟨[LS ⟨#[65]⟩, LS ⟨#[88]⟩], true⟩] w) (hld : LdO ρ [⟨ptrG g, false⟩, ⟨[LS ⟨#[65]⟩, LS ⟨#[88]⟩], true⟩] w B gl s) (hBw : w0.heap.size ≤ B) (hn : 0 ≤ n ∧ n ≤ 1099511627776) (hm : 1 ≤ m ∧ m ≤ 1099511627776) (hmn : m ≤ n) (hsg : s.g = g) (hlb : hasK kAX s.lb = false) (hg2 : ∀ k, getM s.l k = shB n 0 k) (hli : (look (⟨#[88]⟩ : ByteArray) s.li).getD 0 = n) (d : Nat → Value) :
    At Try.prog (bodyPost Try.prog Try.f11 (fun e w' => e = .returned (.bool true) ∧ Below w0.heap.size w0 w')) ⟨regK Try.f11 8, fillJ (tmplJ Try.f11.ntmps 0 [(0, LI n), (1, LI m), (2, LB false), (7, .ptr 0 0), (8, .ptr 1 0)]) d 0, [⟨ptrG g, false⟩, ⟨[LS ⟨#[65]⟩, LS ⟨#[88]⟩], true⟩]⟩ ρ w := by
  have e0 := hld.at_
  have hag := Rel.ag_ hR 1 (by kernel_rfl)
  have hX : (⟨#[88]⟩ : ByteArray).size ≤ 281474976710656 := by decide
  have hA : (⟨#[65]⟩ : ByteArray).size ≤ 281474976710656 := by decide
  have hzm : -4611686018427387904 ≤ m ∧ m ≤ 4611686018427387904 := by omega
  have hsA : (⟨#[65]⟩ : ByteArray).size ≤ 9223372036854775807 := by decide
  have hsX : (⟨#[88]⟩ : ByteArray).size ≤ 9223372036854775807 := by decide
  have i0 : Is64 0 := by unfold Is64; decide
  have i2 : Is64 2 := by unfold Is64; decide
  have im1 : Is64 (-1) := by unfold Is64; decide
  have ip1 : Is64 1 := by unfold Is64; decide
  have hokB := hld.ld.pos.ok
  have hn60 : n ≤ 1152921504606846976 := by omega
  obtain ⟨hlk, hap⟩ := sh_go (s := s) (z := m) hokB hg2 (by omega) (by omega) (by omega) hlb
  refine sim_run 3 [] (hR.cast (by kernel_rfl)) (by kernel_rfl) trivial (fun ρ2100 w2100 hm2100 hR2100 => ?_)
  have hld := hld.moved (hm2100.castL (by kernel_rfl))
  have hag := hag.moved (hm2100.castL (by kernel_rfl))
  refine sim_call 33 [.agg [LS (ByteArray.mk #[65]), LS (ByteArray.mk #[88])], LI 0, LI 2, LI m] (by kernel_rfl) ?_
  refine Calls.mono (shift_any (⟨#[65]⟩) (⟨#[88]⟩) (0) (2) (m) _ (hzm) (hsA) (hsX) (i0) (i2)) ?_
  rintro e2101 w2101 ⟨gp, op, rfl, hgp2101, hps, hb2101⟩
  have hR2101 := (hR2100).below hb2101
  have hld := hld.below hb2101
  refine Back.of (.v (.slice (some ⟨gp, op, none⟩) 2 2)) hR2101 rfl ?_
  refine sim_call 29 [.ptr 0 0, .v (Value.slice (some (Addr.mk gp op none)) 2 2)] (by kernel_rfl) ?_
  have ez0_2102 := (hag.at_ 0 (by omega)).trans e0
  simp only [denL, LV.den, Nm.at_, ez0_2102, Nat.add_zero]
  refine Calls.mono (apply_any _ (gl) _ (s) _ _ _ (shiftL ⟨#[65]⟩ ⟨#[88]⟩ 0 2 m) _ (hld.ld) (hps) (Nat.le_refl _) ((by decide)) (sh_short)) ?_
  rintro e2102 w2102 ⟨rfl, m2, l2, ck2, hl2102, hget2, hlen2, hk2102, hv2102⟩
  obtain ⟨hld2, hR2102⟩ := hld.afterL (hR2101) hBw hl2102 rfl (hk2102.mono (fun x hx => .inl (.inr (hx.elim .inl (fun e => .inr (.inl e)))))) (fun x hx => setPos_has hv2102 hx) (by rw [hsg]; kernel_rfl) [] (by kernel_rfl) (by simp)
  clear hld
  have hld := hld2
  clear hld2
  refine Back.of (LI 0) hR2102 (by rw [hlk]; rfl) ?_
  refine sim_run 4 [] (hR2102.cast (by kernel_rfl)) (by kernel_rfl) trivial (fun ρ2103 w2103 hm2103 hR2103 => ?_)
  have hag := hag.moved (hm2103.castL (by kernel_rfl))
  have hld := hld.moved (hm2103.castL (by kernel_rfl))
  
  have hg3 : ∀ k, getM l2 k = shB (n - m) m k := fun k => by
    rw [hget2 k, hap k, Int.zero_add]
  have hw : clampV (sum3 (getM l2 (⟨#[65]⟩, ⟨#[88]⟩))) = n := (sh_whole hg3 (by omega)).trans (by omega)
  refine sim_draw [] (by kernel_rfl) (by kernel_rfl) hR2103 (fun hR2200 => ?_)
  have hld := hld.drew
  refine sim_ordN 6 [] hR2200 (by kernel_rfl) trivial (fun ρ2201 w2201 hm2201 hR2201 => ?_)
  have hag := hag.moved (hm2201.castL (by kernel_rfl))
  have hld := hld.moved (hm2201.castL (by kernel_rfl))
  refine sim_ord_call (T := []) (w0 := w0) 22 [.v (Value.pointer (some (Addr.mk g 0 none))), .agg [LS (ByteArray.mk #[65]), LS (ByteArray.mk #[88])]] (by kernel_rfl) ?_
  refine Calls.mono (whole_po _ _ (m2) (l2) (ck2) _ _ _ (pos_g hld.ld hsg)) ?_
  rw [hw]
  rintro e2202 w2202 ⟨rfl, hb2202⟩
  have hR2202 := (hR2201).call hb2202 (LI n)
  have hld := hld.below hb2202
  refine BackO.of (LI n) hR2202 rfl ?_
  refine sim_ordN 1 [] hR2202 (by kernel_rfl) trivial (fun ρ2203 w2203 hm2203 hR2203 => ?_)
  have hag := hag.moved (hm2203.castL (by kernel_rfl))
  have hld := hld.moved (hm2203.castL (by kernel_rfl))
  refine sim_ord_endR hR2203 (by kernel_rfl) (fun hR2204 => ?_)
  refine sim_fork 52 (n != n) (by kernel_rfl) (fun hq2205 => ?_) (fun hq2205 => ?_)
  have hq2205 := nb_t hq2205
  have hq2205 := of_decide_eq_false hq2205
  refine sim_run 5 [] (hR2204.cast (by kernel_rfl)) (by kernel_rfl) trivial (fun ρ2206 w2206 hm2206 hR2206 => ?_)
  have hag := hag.moved (hm2206.castL (by kernel_rfl))
  have hld := hld.moved (hm2206.castL (by kernel_rfl))
  refine sim_ret (LB false) hR2206 (by kernel_rfl) (by kernel_rfl) ?_
  exact ⟨retv_bool (by clear hR2206 hm2206 hR2204 hR2203 hm2203 hR2202 hb2202 hR2201 hm2201 hR2200 hR2103 hm2103 hR2102 hR2101 hb2101 hR2100 hm2100 hag e0 hR; grind []), hR2206.toBelow⟩
  have hq2205 := nb_f hq2205
  have hq2205 := of_decide_eq_true hq2205
  refine sim_run 16 [] (hR2204.cast (by kernel_rfl)) (by kernel_rfl) trivial (fun ρ2207 w2207 hm2207 hR2207 => ?_)
  have hag := hag.moved (hm2207.castL (by kernel_rfl))
  have hld := hld.moved (hm2207.castL (by kernel_rfl))
  refine sim_know 78 (decide (m > n)) false (by kernel_rfl) (decide_eq_false (by omega)) ?_
  refine sim_run 6 [] (hR2207.cast (by kernel_rfl)) (by kernel_rfl) trivial (fun ρ2208 w2208 hm2208 hR2208 => ?_)
  have hag := hag.moved (hm2208.castL (by kernel_rfl))
  have hld := hld.moved (hm2208.castL (by kernel_rfl))
  refine sim_call 31 [.ptr 0 0, .agg [LS (ByteArray.mk #[65]), LS (ByteArray.mk #[88])], LB true] (by kernel_rfl) ?_
  have ez0_2209 := (hag.at_ 0 (by omega)).trans e0
  simp only [denL, LV.den, Nm.at_, ez0_2209, Nat.add_zero]
  refine Calls.mono (block_any _ (gl) (s.setPos m2 l2 ck2) _ _ _ _ hld.ld (by assumption) (by assumption)) ?_
  rintro e2209 w2209 ⟨rfl, s4, hl2209, his4, hk2209, hh2209⟩
  obtain ⟨hld2, hR2209⟩ := hld.afterL hR2208 hBw hl2209 his4.g hk2209 hh2209 (by rw [show (s.setPos m2 l2 ck2).g = g from hsg]; kernel_rfl) [] (by kernel_rfl) (by simp)
  clear hld
  have hld := hld2
  clear hld2
  refine Back.of (.tup []) hR2209 rfl ?_
  refine sim_run 2 [] (hR2209.cast (by kernel_rfl)) (by kernel_rfl) trivial (fun ρ2210 w2210 hm2210 hR2210 => ?_)
  have hag := hag.moved (hm2210.castL (by kernel_rfl))
  have hld := hld.moved (hm2210.castL (by kernel_rfl))
  
  have hsg4 : s4.g = g := his4.g.trans hsg
  have hg4 : ∀ k, getM s4.l k = shB (n - m) m k := fun k => by rw [his4.l]; exact hg3 k
  have hok4 := hld.ld.pos.ok
  have hpl := sh_part2 hg4 rfl
  obtain ⟨hlk4, hap4⟩ := sh_back (s := s4) (z := m) hok4 hg4 (by omega) (by omega) (by omega)
  refine sim_draw [] (by kernel_rfl) (by kernel_rfl) hR2210 (fun hR2300 => ?_)
  have hld := hld.drew
  refine sim_ord_call (T := []) (w0 := w0) 23 [] (by kernel_rfl) ?_
  refine Calls.mono (alive11_any _) ?_
  rintro e2301 w2301 ⟨rfl, hb2301⟩
  have hR2301 := (hR2300).call hb2301 (LB true)
  have hld := hld.below hb2301
  refine BackO.of (LB true) hR2301 rfl ?_
  refine sim_ordN 11 [] hR2301 (by kernel_rfl) trivial (fun ρ2302 w2302 hm2302 hR2302 => ?_)
  have hag := hag.moved (hm2302.castL (by kernel_rfl))
  have hld := hld.moved (hm2302.castL (by kernel_rfl))
  refine sim_ord_call (T := []) (w0 := w0) 19 [.v (Value.pointer (some (Addr.mk g 0 none))), .agg [LS (ByteArray.mk #[65]), LS (ByteArray.mk #[88])], LI 2] (by kernel_rfl) ?_
  refine Calls.mono (part_po _ _ _ _ _ _ _ _ _ (pos_g hld.ld hsg4)) ?_
  first | rw [hpl] | rw [show partM (getM (s4.setPos m6 l6 ck6).l (⟨#[65]⟩, ⟨#[88]⟩)) 0 = n from hpf]
  rintro e2303 w2303 ⟨rfl, hb2303⟩
  have hR2303 := (hR2302).call hb2303 (LI m)
  have hld := hld.below hb2303
  refine BackO.of (LI m) hR2303 rfl ?_
  refine sim_ordN 3 [] hR2303 (by kernel_rfl) trivial (fun ρ2304 w2304 hm2304 hR2304 => ?_)
  have hag := hag.moved (hm2304.castL (by kernel_rfl))
  have hld := hld.moved (hm2304.castL (by kernel_rfl))
  refine sim_knowO hR2304 102 (m == m) true (by kernel_rfl) (decide_eq_true (by omega)) (fun hR2305 => ?_)
  refine sim_ordN 3 [] hR2305 (by kernel_rfl) trivial (fun ρ2306 w2306 hm2306 hR2306 => ?_)
  have hag := hag.moved (hm2306.castL (by kernel_rfl))
  have hld := hld.moved (hm2306.castL (by kernel_rfl))
  refine sim_ord_call (T := []) (w0 := w0) 33 [.agg [LS (ByteArray.mk #[65]), LS (ByteArray.mk #[88])], LI 2, LI 0, LI m] (by kernel_rfl) ?_
  refine Calls.mono (shift_any (⟨#[65]⟩) (⟨#[88]⟩) (2) (0) (m) _ (hzm) (hsA) (hsX) (i2) (i0)) ?_
  rintro e2307 w2307 ⟨gp, op, rfl, hgp2307, hps, hb2307⟩
  have hR2307 := (hR2306).call hb2307 (.v (.slice (some ⟨gp, op, none⟩) 2 2))
  have hld := hld.below hb2307
  refine BackO.of (.v (.slice (some ⟨gp, op, none⟩) 2 2)) hR2307 rfl ?_
  refine sim_ord_call (T := []) (w0 := w0) 29 [.ptr 0 0, .v (Value.slice (some (Addr.mk gp op none)) 2 2)] (by kernel_rfl) ?_
  have ez0_2308 := (hag.at_ 0 (by omega)).trans e0
  simp only [denL, LV.den, Nm.at_, ez0_2308, Nat.add_zero]
  refine Calls.mono (apply_any _ (gl) _ (s4) _ _ _ (shiftL ⟨#[65]⟩ ⟨#[88]⟩ 2 0 m) _ (hld.ld) (hps) (Nat.le_refl _) ((by decide)) (sh_short)) ?_
  rintro e2308 w2308 ⟨rfl, m6, l6, ck6, hl2308, hget6, hlen6, hk2308, hv2308⟩
  obtain ⟨hld2, hQ2308⟩ := hld.afterL (hR2307).rel hBw hl2308 rfl (hk2308.mono (fun x hx => .inl (.inr (hx.elim .inl (fun e => .inr (.inl e)))))) (fun x hx => setPos_has hv2308 hx) (by rw [hsg4]; kernel_rfl) [] (by kernel_rfl) (by simp)
  clear hld
  have hld := hld2
  clear hld2
  have hR2308 := (hR2307).with hQ2308 (LI 0)
  have hsg5 : (s4.setPos m6 l6 ck6).g = g := hsg4
  have hpf := sh_part0 (l := l6) (x := n - m + m) (z := n) (fun k => (hget6 k).trans (hap4 k)) (by omega)
  refine BackO.of (LI 0) hR2308 (by rw [hlk4]; rfl) ?_
  refine sim_ordN 9 [] hR2308 (by kernel_rfl) trivial (fun ρ2309 w2309 hm2309 hR2309 => ?_)
  have hag := hag.moved (hm2309.castL (by kernel_rfl))
  have hld := hld.moved (hm2309.castL (by kernel_rfl))
  refine sim_ord_call (T := []) (w0 := w0) 19 [.v (Value.pointer (some (Addr.mk g 0 none))), .agg [LS (ByteArray.mk #[65]), LS (ByteArray.mk #[88])], LI 0] (by kernel_rfl) ?_
  refine Calls.mono (part_po _ _ _ _ _ _ _ _ _ (pos_g hld.ld hsg4)) ?_
  first | rw [hpl] | rw [show partM (getM (s4.setPos m6 l6 ck6).l (⟨#[65]⟩, ⟨#[88]⟩)) 0 = n from hpf]
  rintro e2310 w2310 ⟨rfl, hb2310⟩
  have hR2310 := (hR2309).call hb2310 (LI n)
  have hld := hld.below hb2310
  refine BackO.of (LI n) hR2310 rfl ?_
  refine sim_ordN 3 [] hR2310 (by kernel_rfl) trivial (fun ρ2311 w2311 hm2311 hR2311 => ?_)
  have hag := hag.moved (hm2311.castL (by kernel_rfl))
  have hld := hld.moved (hm2311.castL (by kernel_rfl))
  refine sim_ord_endR hR2311 (by kernel_rfl) (fun hR2312 => ?_)
  refine sim_ret (LB (n == n)) (hR2312.cast (by kernel_rfl)) (by kernel_rfl) (by kernel_rfl) ?_
  exact ⟨retv_bool (by clear hR2312 hR2311 hm2311 hR2310 hb2310 hR2309 hm2309 hR2308 hQ2308 hR2307 hb2307 hR2306 hm2306 hR2305 hR2304 hm2304 hR2303 hb2303 hR2302 hm2302 hR2301 hb2301 hR2300 hR2210 hm2210 hR2209 hR2208 hm2208 hR2207 hm2207 hR2204 hR2203 hm2203 hR2202 hb2202 hR2201 hm2201 hR2200 hR2103 hm2103 hR2102 hR2101 hb2101 hR2100 hm2100 hag e0 hR; grind []), hR2312.toBelow⟩
  
set_option maxRecDepth 100000 in
set_option maxHeartbeats 4000000 in
theorem postShifts_walk (w : World) (n m : Int) (on : Bool) (hn : Is64 n) (hm : Is64 m) : Calls Try.prog 11 #[.int .i64 n, .int .i64 m, .bool on] w fun e w' => e = .returned (.bool true) ∧ Below w.heap.size w w' := by
  unfold Is64 at hn hm
  have hX : (⟨#[88]⟩ : ByteArray).size ≤ 281474976710656 := by decide
  have hA : (⟨#[65]⟩ : ByteArray).size ≤ 281474976710656 := by decide
  refine sim_enter Try.func11 ρ0 [LI n, LI m, LB on] [] (by kernel_rfl) rfl ?_
  have hR := Rel.start [] w ρ0
  refine sim_run 10 [] (hR.cast (by kernel_rfl)) (by kernel_rfl) trivial (fun ρ3100 w3100 hm3100 hR3100 => ?_)
  refine sim_fork 12 (decide (n < 0)) (by kernel_rfl) (fun hq3101 => ?_) (fun hq3101 => ?_)
  have hq3101 := of_decide_eq_true hq3101
  refine sim_run 15 [] (hR3100.cast (by kernel_rfl)) (by kernel_rfl) trivial (fun ρ3102 w3102 hm3102 hR3102 => ?_)
  refine sim_call 23 [] (by kernel_rfl) ?_
  refine Calls.mono (alive11_any _) ?_
  rintro e3103 w3103 ⟨rfl, hb3103⟩
  have hR3103 := hR3102.below hb3103
  refine Back.of (LB true) hR3103 rfl ?_
  refine sim_run 2 [] (hR3103.cast (by kernel_rfl)) (by kernel_rfl) trivial (fun ρ3104 w3104 hm3104 hR3104 => ?_)
  refine sim_ret (LB true) hR3104 (by kernel_rfl) (by kernel_rfl) ?_
  exact ⟨rfl, hR3104.toBelow⟩
  have hq3101 := of_decide_eq_false hq3101
  refine sim_run 4 [] (hR3100.cast (by kernel_rfl)) (by kernel_rfl) trivial (fun ρ3105 w3105 hm3105 hR3105 => ?_)
  refine sim_fork 16 (decide (n > 1099511627776)) (by kernel_rfl) (fun hq3106 => ?_) (fun hq3106 => ?_)
  have hq3106 := of_decide_eq_true hq3106
  refine sim_run 11 [] (hR3105.cast (by kernel_rfl)) (by kernel_rfl) trivial (fun ρ3107 w3107 hm3107 hR3107 => ?_)
  refine sim_call 23 [] (by kernel_rfl) ?_
  refine Calls.mono (alive11_any _) ?_
  rintro e3108 w3108 ⟨rfl, hb3108⟩
  have hR3108 := hR3107.below hb3108
  refine Back.of (LB true) hR3108 rfl ?_
  refine sim_run 2 [] (hR3108.cast (by kernel_rfl)) (by kernel_rfl) trivial (fun ρ3109 w3109 hm3109 hR3109 => ?_)
  refine sim_ret (LB true) hR3109 (by kernel_rfl) (by kernel_rfl) ?_
  exact ⟨rfl, hR3109.toBelow⟩
  have hq3106 := of_decide_eq_false hq3106
  refine sim_run 4 [] (hR3105.cast (by kernel_rfl)) (by kernel_rfl) trivial (fun ρ3110 w3110 hm3110 hR3110 => ?_)
  refine sim_fork 20 (decide (m < 1)) (by kernel_rfl) (fun hq3111 => ?_) (fun hq3111 => ?_)
  have hq3111 := of_decide_eq_true hq3111
  refine sim_run 7 [] (hR3110.cast (by kernel_rfl)) (by kernel_rfl) trivial (fun ρ3112 w3112 hm3112 hR3112 => ?_)
  refine sim_call 23 [] (by kernel_rfl) ?_
  refine Calls.mono (alive11_any _) ?_
  rintro e3113 w3113 ⟨rfl, hb3113⟩
  have hR3113 := hR3112.below hb3113
  refine Back.of (LB true) hR3113 rfl ?_
  refine sim_run 2 [] (hR3113.cast (by kernel_rfl)) (by kernel_rfl) trivial (fun ρ3114 w3114 hm3114 hR3114 => ?_)
  refine sim_ret (LB true) hR3114 (by kernel_rfl) (by kernel_rfl) ?_
  exact ⟨rfl, hR3114.toBelow⟩
  have hq3111 := of_decide_eq_false hq3111
  refine sim_run 4 [] (hR3110.cast (by kernel_rfl)) (by kernel_rfl) trivial (fun ρ3115 w3115 hm3115 hR3115 => ?_)
  refine sim_fork 23 (decide (m > 1099511627776)) (by kernel_rfl) (fun hq3116 => ?_) (fun hq3116 => ?_)
  have hq3116 := of_decide_eq_true hq3116
  refine sim_run 3 [] (hR3115.cast (by kernel_rfl)) (by kernel_rfl) trivial (fun ρ3117 w3117 hm3117 hR3117 => ?_)
  refine sim_call 23 [] (by kernel_rfl) ?_
  refine Calls.mono (alive11_any _) ?_
  rintro e3118 w3118 ⟨rfl, hb3118⟩
  have hR3118 := hR3117.below hb3118
  refine Back.of (LB true) hR3118 rfl ?_
  refine sim_run 2 [] (hR3118.cast (by kernel_rfl)) (by kernel_rfl) trivial (fun ρ3119 w3119 hm3119 hR3119 => ?_)
  refine sim_ret (LB true) hR3119 (by kernel_rfl) (by kernel_rfl) ?_
  exact ⟨rfl, hR3119.toBelow⟩
  have hq3116 := of_decide_eq_false hq3116
  refine sim_run 4 [] (hR3115.cast (by kernel_rfl)) (by kernel_rfl) trivial (fun ρ3120 w3120 hm3120 hR3120 => ?_)
  refine sim_call 24 [] (by kernel_rfl) ?_
  refine Calls.mono (newLd_any _) ?_
  rintro e3121 w3121 ⟨gl, g, rfl, hl3121, hb3121⟩
  have hBw := (hR3120).keeps.size
  have hRr3121 := (hR3120).below hb3121
  refine Back.view hl3121 (hRr3121.cast (by kernel_rfl)) (by kernel_rfl) (fun ρv e0 hR3121 hld => ?_)
  have hag := hR3121.ag_ 1 (by kernel_rfl)
  refine sim_run 11 [] (hR3121.cast (by kernel_rfl)) (by kernel_rfl) trivial (fun ρ3122 w3122 hm3122 hR3122 => ?_)
  have hld := hld.moved (hm3122.castL (by kernel_rfl))
  have hag := hag.moved (hm3122.castL (by kernel_rfl))
  
  obtain ⟨hcI, hget0⟩ := new_iss (g := g) (a := ⟨#[65]⟩) (c := ⟨#[88]⟩) (n := n) (by omega)
  refine sim_run 6 [] hR3122 (by kernel_rfl) trivial (fun ρ3200 w3200 hm3200 hR3200 => ?_)
  have hld := hld.moved hm3200
  have hag := hag.moved hm3200
  refine sim_call 25 [.ptr 0 0, .agg [LS (ByteArray.mk #[65]), LS (ByteArray.mk #[88])], LI n] (by kernel_rfl) ?_
  have ez0_3201 := (hag.at_ 0 (by omega)).trans e0
  simp only [denL, LV.den, Nm.at_, ez0_3201, Nat.add_zero]
  refine Calls.mono (issue_any _ (gl) (newS g) _ _ (n) _ hld.ld (by assumption) (hA) (hX) (new_iss64 g _)) ?_
  rintro e3201 w3201 ⟨rfl, s1, hl3201, his, hk3201, hh3201⟩
  obtain ⟨hld2, hR3201⟩ := hld.afterL hR3200 hBw hl3201 his.g hk3201 hh3201 (by kernel_rfl) [] (by kernel_rfl) (by simp)
  clear hld
  have hld := hld2
  clear hld2
  refine Back.of (LI 0) hR3201 (by rw [hcI]; rfl) ?_
  refine sim_run 7 [] (hR3201.cast (by kernel_rfl)) (by kernel_rfl) trivial (fun ρ3202 w3202 hm3202 hR3202 => ?_)
  have hag := hag.moved (hm3202.castL (by kernel_rfl))
  have hld := hld.moved (hm3202.castL (by kernel_rfl))
  
  have hsg1 : s1.g = g := his.g
  refine sim_run 3 [] hR3202 (by kernel_rfl) trivial (fun ρ3300 w3300 hm3300 hR3300 => ?_)
  have hag := hag.moved hm3300
  have hld := hld.moved hm3300
  refine sim_call 31 [.ptr 0 0, .agg [LS (ByteArray.mk #[65]), LS (ByteArray.mk #[88])], LB on] (by kernel_rfl) ?_
  have ez0_3301 := (hag.at_ 0 (by omega)).trans e0
  simp only [denL, LV.den, Nm.at_, ez0_3301, Nat.add_zero]
  refine Calls.mono (block_any _ (gl) (s1) _ _ _ _ hld.ld (by assumption) (by assumption)) ?_
  rintro e3301 w3301 ⟨rfl, s2, hl3301, hbs, hk3301, hh3301⟩
  obtain ⟨hld2, hR3301⟩ := hld.afterL hR3300 hBw hl3301 hbs.g hk3301 hh3301 (by rw [hsg1]; kernel_rfl) [] (by kernel_rfl) (by simp)
  clear hld
  have hld := hld2
  clear hld2
  refine Back.of (.tup []) hR3301 rfl ?_
  refine sim_run 3 [] (hR3301.cast (by kernel_rfl)) (by kernel_rfl) trivial (fun ρ3302 w3302 hm3302 hR3302 => ?_)
  have hag := hag.moved (hm3302.castL (by kernel_rfl))
  have hld := hld.moved (hm3302.castL (by kernel_rfl))
  
  have hg2 : ∀ k, getM s2.l k = shB n 0 k := fun k => by
    rw [hbs.l, his.get k, if_pos hcI, hget0]
    rfl
  have hli : (look (⟨#[88]⟩ : ByteArray) s2.li).getD 0 = n := by
    rw [hbs.li, his.iss, if_pos ⟨hcI, rfl⟩]
    show (0 : Int) + n = n
    omega
  have hlb : hasK kAX s2.lb = on := by rw [hbs.lb, if_pos rfl]
  have hsg2 : s2.g = g := hbs.g.trans hsg1
  refine sim_to (regK Try.f11 8) (tmplJ Try.f11.ntmps 0 [(0, LI n), (1, LI m), (2, LB on), (7, .ptr 0 0), (8, .ptr 1 0)]) [⟨ptrG g, false⟩, ⟨[LS ⟨#[65]⟩, LS ⟨#[88]⟩], true⟩] (by kernel_rfl) (by kernel_rfl) (by kernel_rfl) (fun d => ?_)
  cases on with
  | true => exact shifts_bad ((by assumption : Rel _ _ _ _ _).cast (by kernel_rfl)) (hld.castR (by kernel_rfl)) hBw (by omega) (by omega) hsg2 hlb hg2 hli d
  | false =>
    rcases Int.lt_or_le n m with h | h
    · exact shifts_few ((by assumption : Rel _ _ _ _ _).cast (by kernel_rfl)) (hld.castR (by kernel_rfl)) hBw (by omega) (by omega) h hsg2 hlb hg2 hli d
    · exact shifts_good ((by assumption : Rel _ _ _ _ _).cast (by kernel_rfl)) (hld.castR (by kernel_rfl)) hBw (by omega) (by omega) h hsg2 hlb hg2 hli d
end Go.Proofs.Ytgbgedaedcofcaa
