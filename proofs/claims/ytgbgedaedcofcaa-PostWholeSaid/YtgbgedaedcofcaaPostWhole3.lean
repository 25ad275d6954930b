/-
  PostWhole: the keys, one by one.
-/
import Derived.Test.YtgbgedaedcofcaaPostWhole2
import Derived.Test.YtgbgedaedcofcaaTree
namespace Go.Proofs.Ytgbgedaedcofcaa
open Go Go.RowKit
attribute [local irreducible] run goO leaveK someK nextK nextT nextOT nextOD loopBody loopRest loopK fillJ tmplOf tmplJ mergeT At AtO drawOk ordOf gateOf callC callO topOp topO idxOf appOf storeOf clearOf sliceOf calleeOf calleeO topQ idxQ newRowOf resL stepOp seek
set_option maxRecDepth 100000 in
set_option maxHeartbeats 4000000 in
theorem whole_keys {ρ : Nm} {w0 w : World} {B ga gb g1 g2 np cpp kn ck Bk M : Nat} {Ap Ak : Option Addr} {sa sb : LSt} {p : List OpP} {ks : List Key} {c : Int} (kp : PsIn w0 M Ap np cpp p) (hnp : np ≤ 100) (hR : Rel [] w0 ρ [⟨ptrG g1, false⟩, ⟨ptrG g2, false⟩] w) (ht : LdT ρ [⟨ptrG g1, false⟩, ⟨ptrG g2, false⟩] w B ga gb sa sb) (hsA : sa.g = g1) (hsB : sb.g = g2) (hrow : Own ρ [⟨ptrG g1, false⟩, ⟨ptrG g2, false⟩] w Bk 24 2 (.slice Ak kn ck) kn (ks.map encL).flatten) (hkl : ks.length = kn) (hkn : kn ≤ 1000000)
    (hbad : c ≠ 0 → ∀ k, getM sb.l k = getM sa.l k) (hgood : c = 0 → ∀ k, sum3 (getM sa.l k) = sum3 (getM sb.l k) + addK p k) (hbA : ∀ k, 0 ≤ sum3 (getM sa.l k) ∧ sum3 (getM sa.l k) ≤ 1152921504606846976) (hbB : ∀ k, 0 ≤ sum3 (getM sb.l k) ∧ sum3 (getM sb.l k) ≤ 1152921504606846976) (d : Nat → Value) :
    At Try.prog (bodyPost Try.prog Try.f12 (fun e w' => e = .returned (.bool true) ∧ Below w0.heap.size w0 w')) ⟨regK Try.f12 22, fillJ (tmplJ Try.f12.ntmps 0 [(1, .v (.slice Ap np cpp)), (5, .ptr 0 0), (6, .ptr 1 0), (8, LI c), (10, .v (.slice Ak kn ck))]) d 0, [⟨ptrG g1, false⟩, ⟨ptrG g2, false⟩]⟩ ρ w := by
  have e0 := ht.ata
  have e1 := ht.atb
  have hag := Rel.ag_ hR 2 (by kernel_rfl)
  refine sim_run 3 [] (hR.cast (by kernel_rfl)) (by kernel_rfl) trivial (fun ρ100 w100 hm100 hR100 => ?_)
  have ht := ht.moved (hm100.castL (by kernel_rfl))
  have hrow := hrow.moved (hm100.castL (by kernel_rfl))
  have hag := hag.moved (hm100.castL (by kernel_rfl))
  
  refine sim_loop (ι := Nat) (T := []) (w0 := w0) 0 [1, 5, 6, 8, 10] (fun j => [(11, LI j)]) (fun _ => [⟨ptrG g1, false⟩, ⟨ptrG g2, false⟩]) (fun j w1 => j ≤ kn ∧ LdT ρ100 [⟨ptrG g1, false⟩, ⟨ptrG g2, false⟩] w1 B ga gb sa sb ∧ Own ρ100 [⟨ptrG g1, false⟩, ⟨ptrG g2, false⟩] w1 Bk 24 2 (.slice Ak kn ck) kn (ks.map encL).flatten) (fun j => kn - j) (by kernel_rfl) (by kernel_rfl) ((by assumption : Rel _ _ _ _ _).cast (by kernel_rfl)) ⟨Nat.zero_le _, ht.castR (by kernel_rfl), hrow.castR (by kernel_rfl)⟩ ?_
  clear ht hrow hag hR100 hm100 e0 e1 hR
  rintro j d5 w5 hR5 ⟨hj, ht, hrow⟩
  have e0 := ht.ata
  have e1 := ht.atb
  have hag2 := hR5.ag_ 2 (by kernel_rfl)
  by_cases hlt : j < kn
  · obtain ⟨k, hk⟩ : ∃ k, ks[j]? = some k := ⟨_, List.getElem?_eq_getElem (by omega)⟩
    obtain ⟨gb0, ob, hA, _, _⟩ := (Reads.of_own hrow.own).spot (by omega) (by omega)
    subst hA
    obtain ⟨⟨a1, a2, a3⟩, hga⟩ : ∃ b, getM sa.l (k.1, k.2) = b := ⟨_, rfl⟩
    obtain ⟨⟨b1, b2, b3⟩, hgb⟩ : ∃ b, getM sb.l (k.1, k.2) = b := ⟨_, rfl⟩
    have hsame : c ≠ 0 → a1 = b1 ∧ a2 = b2 ∧ a3 = b3 := fun hc => by
      have h1 := hbad hc (k.1, k.2)
      rw [hga, hgb] at h1
      injection h1 with h1 h2
      injection h2 with h2 h3
      exact ⟨h1.symm, h2.symm, h3.symm⟩
    have hwx : clampV (sum3 (getM sa.l (k.1, k.2))) = sum3 (getM sa.l k) := clamp_in (by have h1 : 0 ≤ sum3 (getM sa.l (k.1, k.2)) ∧ sum3 (getM sa.l (k.1, k.2)) ≤ 1152921504606846976 := hbA k; omega)
    have hwy : clampV (sum3 (getM sb.l (k.1, k.2))) = sum3 (getM sb.l k) := clamp_in (by have h1 : 0 ≤ sum3 (getM sb.l (k.1, k.2)) ∧ sum3 (getM sb.l (k.1, k.2)) ≤ 1152921504606846976 := hbB k; omega)
    have hdf : c = 0 → sum3 (getM sa.l k) - sum3 (getM sb.l k) = addK p k := fun hc => by have := hgood hc k; omega
    refine sim_seeO (xss := ks.map encL) (sz := 2) (n := kn) [.string k.1, .string k.2] j 2 (by kernel_rfl) (by rw [List.getElem?_map, hk]; rfl) hrow (encL_len ks) (by omega) hlt hR5 (by kernel_rfl) (fun ρF hmF e2 hRF => ?_)
    have ht := ht.moved hmF
    have hrow := hrow.moved hmF
    have hag2 := hag2.moved hmF
    have hag := hRF.ag_ 3 (by kernel_rfl)
    have e0 := ht.ata
    have e1 := ht.atb
    refine sim_run 8 [] (hRF.cast (by kernel_rfl)) (by kernel_rfl) trivial (fun ρ200 w200 hm200 hR200 => ?_)
    have ht := ht.moved (hm200.castL (by kernel_rfl))
    have hrow := hrow.moved (hm200.castL (by kernel_rfl))
    have hag2 := hag2.moved (hm200.castL (by kernel_rfl))
    have hag := hag.moved (hm200.castL (by kernel_rfl))
    refine sim_know 118 (decide ((↑j : Int) < (↑kn : Int))) true (by kernel_rfl) (decide_eq_true (by omega)) ?_
    refine sim_run 5 [] (hR200.cast (by kernel_rfl)) (by kernel_rfl) trivial (fun ρ201 w201 hm201 hR201 => ?_)
    have ht := ht.moved (hm201.castL (by kernel_rfl))
    have hrow := hrow.moved (hm201.castL (by kernel_rfl))
    have hag2 := hag2.moved (hm201.castL (by kernel_rfl))
    have hag := hag.moved (hm201.castL (by kernel_rfl))
    refine sim_drawT (Tr.mk [(0, false), (1, false), (2, false), (3, false), (4, false), (5, false), (6, false), (7, false), (9, false), (10, false), (11, false), (12, false), (13, false), (14, false), (15, false), (16, false)] (Ks.cons 8 (Tr.mk [] (Ks.cons 17 (Tr.mk [] (Ks.cons 18 (Tr.mk [(19, true), (20, true), (21, true)] Ks.nil) (Ks.cons 19 (Tr.mk [(18, true), (20, true), (21, true)] Ks.nil) Ks.nil))) (Ks.cons 18 (Tr.mk [] (Ks.cons 17 (Tr.mk [(19, true), (20, true), (21, true)] Ks.nil) (Ks.cons 19 (Tr.mk [(17, true), (20, true), (21, true)] Ks.nil) Ks.nil))) (Ks.cons 19 (Tr.mk [] (Ks.cons 17 (Tr.mk [(18, true), (20, true), (21, true)] Ks.nil) (Ks.cons 18 (Tr.mk [(17, true), (20, true), (21, true)] Ks.nil) Ks.nil))) Ks.nil)))) (Ks.cons 18 (Tr.mk [] (Ks.cons 8 (Tr.mk [] (Ks.cons 17 (Tr.mk [(19, true), (20, true), (21, true)] Ks.nil) (Ks.cons 19 (Tr.mk [(17, true), (20, true), (21, true)] Ks.nil) Ks.nil))) (Ks.cons 19 (Tr.mk [(8, true), (17, true), (20, true), (21, true)] Ks.nil) Ks.nil))) (Ks.cons 19 (Tr.mk [] (Ks.cons 8 (Tr.mk [] (Ks.cons 17 (Tr.mk [(18, true), (20, true), (21, true)] Ks.nil) (Ks.cons 18 (Tr.mk [(17, true), (20, true), (21, true)] Ks.nil) Ks.nil))) (Ks.cons 18 (Tr.mk [(8, true), (17, true), (20, true), (21, true)] Ks.nil) Ks.nil))) Ks.nil)))) (some 21) (by kernel_rfl) (by kernel_rfl) hR201 (fun hR202 => ?_)
    have ht := ht.drew
    have hrow := hrow.drew
    refine sim_ordN 6 [] hR202 (by kernel_rfl) trivial (fun ρ203 w203 hm203 hR203 => ?_)
    have hag2 := hag2.moved (hm203.castL (by kernel_rfl))
    have hag := hag.moved (hm203.castL (by kernel_rfl))
    have ht := ht.moved (hm203.castL (by kernel_rfl))
    have hrow := hrow.moved (hm203.castL (by kernel_rfl))
    refine sim_ord_index (.v (.slice (some ⟨gb0, ob, none⟩) kn ck)) kn 2 j 2 0 (by kernel_rfl) (by omega) (by omega) rfl hR203 (by simp only [Nm.at_, hag.at_ 2 (by omega), e2, Nat.add_zero, Int.toNat_natCast]) (fun hR204 => ?_)
    refine sim_ordN 7 [] hR204 (by kernel_rfl) trivial (fun ρ205 w205 hm205 hR205 => ?_)
    have hag2 := hag2.moved (hm205.castL (by kernel_rfl))
    have hag := hag.moved (hm205.castL (by kernel_rfl))
    have ht := ht.moved (hm205.castL (by kernel_rfl))
    have hrow := hrow.moved (hm205.castL (by kernel_rfl))
    refine sim_ord_index (.v (.slice (some ⟨gb0, ob, none⟩) kn ck)) kn 2 j 2 0 (by kernel_rfl) (by omega) (by omega) rfl hR205 (by simp only [Nm.at_, hag.at_ 2 (by omega), e2, Nat.add_zero, Int.toNat_natCast]) (fun hR206 => ?_)
    refine sim_ordN 1 [] hR206 (by kernel_rfl) trivial (fun ρ207 w207 hm207 hR207 => ?_)
    have hag2 := hag2.moved (hm207.castL (by kernel_rfl))
    have hag := hag.moved (hm207.castL (by kernel_rfl))
    have ht := ht.moved (hm207.castL (by kernel_rfl))
    have hrow := hrow.moved (hm207.castL (by kernel_rfl))
    refine sim_fork3 (by kernel_rfl) (by kernel_rfl) (by kernel_rfl) (by kernel_rfl) hR207 (fun hR208 => ?_) (fun hR208 => ?_) (fun hR208 => ?_)
    refine sim_ord_call (T := []) (w0 := w0) 17 [.v (Value.pointer (some (Addr.mk g1 0 none))), .agg [LS k.fst, LS k.snd]] (by kernel_rfl) ?_
    refine Calls.mono (get_po _ _ _ _ _ _ _ _ (pos_g ht.a hsA)) ?_
    first | rw [hga] | rw [hgb]
    rintro e209 w209 ⟨rfl, hb209⟩
    have hR209 := (hR208).call hb209 (.agg [LI ((a1, a2, a3).fst), LI ((a1, a2, a3).snd.fst), LI ((a1, a2, a3).snd.snd)])
    have ht := ht.below hb209
    have hrow := hrow.below hb209
    refine BackO.of (.agg [LI ((a1, a2, a3).fst), LI ((a1, a2, a3).snd.fst), LI ((a1, a2, a3).snd.snd)]) hR209 rfl ?_
    refine sim_fork3 (by kernel_rfl) (by kernel_rfl) (by kernel_rfl) (by kernel_rfl) hR209 (fun hR210 => ?_) (fun hR210 => ?_) (fun hR210 => ?_)
    refine sim_ord_call (T := []) (w0 := w0) 17 [.v (Value.pointer (some (Addr.mk g2 0 none))), .agg [LS k.fst, LS k.snd]] (by kernel_rfl) ?_
    refine Calls.mono (get_po _ _ _ _ _ _ _ _ (pos_g ht.b hsB)) ?_
    first | rw [hga] | rw [hgb]
    rintro e211 w211 ⟨rfl, hb211⟩
    have hR211 := (hR210).call hb211 (.agg [LI ((b1, b2, b3).fst), LI ((b1, b2, b3).snd.fst), LI ((b1, b2, b3).snd.snd)])
    have ht := ht.below hb211
    have hrow := hrow.below hb211
    refine BackO.of (.agg [LI ((b1, b2, b3).fst), LI ((b1, b2, b3).snd.fst), LI ((b1, b2, b3).snd.snd)]) hR211 rfl ?_
    refine sim_fork2 (by kernel_rfl) (by kernel_rfl) (by kernel_rfl) (by kernel_rfl) hR211 (fun hR212 => ?_) (fun hR212 => ?_)
    refine sim_ordN 4 [] hR212 (by kernel_rfl) trivial (fun ρ213 w213 hm213 hR213 => ?_)
    have hag2 := hag2.moved (hm213.castL (by kernel_rfl))
    have hag := hag.moved (hm213.castL (by kernel_rfl))
    have ht := ht.moved (hm213.castL (by kernel_rfl))
    have hrow := hrow.moved (hm213.castL (by kernel_rfl))
    refine sim_fork0 (by kernel_rfl) (by kernel_rfl) hR213 (fun hR214 => ?_)
    refine sim_run 3 [] (hR214.cast (by kernel_rfl)) (by kernel_rfl) trivial (fun ρ215 w215 hm215 hR215 => ?_)
    have hag2 := hag2.moved (hm215.castL (by kernel_rfl))
    have hag := hag.moved (hm215.castL (by kernel_rfl))
    have ht := ht.moved (hm215.castL (by kernel_rfl))
    have hrow := hrow.moved (hm215.castL (by kernel_rfl))
    rotate_left
    refine sim_ordN 4 [] hR212 (by kernel_rfl) trivial (fun ρ216 w216 hm216 hR216 => ?_)
    have hag2 := hag2.moved (hm216.castL (by kernel_rfl))
    have hag := hag.moved (hm216.castL (by kernel_rfl))
    have ht := ht.moved (hm216.castL (by kernel_rfl))
    have hrow := hrow.moved (hm216.castL (by kernel_rfl))
    refine sim_fork0 (by kernel_rfl) (by kernel_rfl) hR216 (fun hR217 => ?_)
    refine sim_run 3 [] (hR217.cast (by kernel_rfl)) (by kernel_rfl) trivial (fun ρ218 w218 hm218 hR218 => ?_)
    have hag2 := hag2.moved (hm218.castL (by kernel_rfl))
    have hag := hag.moved (hm218.castL (by kernel_rfl))
    have ht := ht.moved (hm218.castL (by kernel_rfl))
    have hrow := hrow.moved (hm218.castL (by kernel_rfl))
    rotate_left
    refine sim_ordN 1 [] hR210 (by kernel_rfl) trivial (fun ρ219 w219 hm219 hR219 => ?_)
    have hag2 := hag2.moved (hm219.castL (by kernel_rfl))
    have hag := hag.moved (hm219.castL (by kernel_rfl))
    have ht := ht.moved (hm219.castL (by kernel_rfl))
    have hrow := hrow.moved (hm219.castL (by kernel_rfl))
    refine sim_fork2 (by kernel_rfl) (by kernel_rfl) (by kernel_rfl) (by kernel_rfl) hR219 (fun hR220 => ?_) (fun hR220 => ?_)
    refine sim_ord_call (T := []) (w0 := w0) 17 [.v (Value.pointer (some (Addr.mk g2 0 none))), .agg [LS k.fst, LS k.snd]] (by kernel_rfl) ?_
    refine Calls.mono (get_po _ _ _ _ _ _ _ _ (pos_g ht.b hsB)) ?_
    first | rw [hga] | rw [hgb]
    rintro e221 w221 ⟨rfl, hb221⟩
    have hR221 := (hR220).call hb221 (.agg [LI ((b1, b2, b3).fst), LI ((b1, b2, b3).snd.fst), LI ((b1, b2, b3).snd.snd)])
    have ht := ht.below hb221
    have hrow := hrow.below hb221
    refine BackO.of (.agg [LI ((b1, b2, b3).fst), LI ((b1, b2, b3).snd.fst), LI ((b1, b2, b3).snd.snd)]) hR221 rfl ?_
    refine sim_ordN 3 [] hR221 (by kernel_rfl) trivial (fun ρ222 w222 hm222 hR222 => ?_)
    have hag2 := hag2.moved (hm222.castL (by kernel_rfl))
    have hag := hag.moved (hm222.castL (by kernel_rfl))
    have ht := ht.moved (hm222.castL (by kernel_rfl))
    have hrow := hrow.moved (hm222.castL (by kernel_rfl))
    refine sim_fork0 (by kernel_rfl) (by kernel_rfl) hR222 (fun hR223 => ?_)
    refine sim_run 3 [] (hR223.cast (by kernel_rfl)) (by kernel_rfl) trivial (fun ρ224 w224 hm224 hR224 => ?_)
    have hag2 := hag2.moved (hm224.castL (by kernel_rfl))
    have hag := hag.moved (hm224.castL (by kernel_rfl))
    have ht := ht.moved (hm224.castL (by kernel_rfl))
    have hrow := hrow.moved (hm224.castL (by kernel_rfl))
    rotate_left
    refine sim_ordN 1 [] hR220 (by kernel_rfl) trivial (fun ρ225 w225 hm225 hR225 => ?_)
    have hag2 := hag2.moved (hm225.castL (by kernel_rfl))
    have hag := hag.moved (hm225.castL (by kernel_rfl))
    have ht := ht.moved (hm225.castL (by kernel_rfl))
    have hrow := hrow.moved (hm225.castL (by kernel_rfl))
    refine sim_ord_call (T := []) (w0 := w0) 17 [.v (Value.pointer (some (Addr.mk g2 0 none))), .agg [LS k.fst, LS k.snd]] (by kernel_rfl) ?_
    refine Calls.mono (get_po _ _ _ _ _ _ _ _ (pos_g ht.b hsB)) ?_
    first | rw [hga] | rw [hgb]
    rintro e226 w226 ⟨rfl, hb226⟩
    have hR226 := (hR225).call hb226 (.agg [LI ((b1, b2, b3).fst), LI ((b1, b2, b3).snd.fst), LI ((b1, b2, b3).snd.snd)])
    have ht := ht.below hb226
    have hrow := hrow.below hb226
    refine BackO.of (.agg [LI ((b1, b2, b3).fst), LI ((b1, b2, b3).snd.fst), LI ((b1, b2, b3).snd.snd)]) hR226 rfl ?_
    refine sim_ordN 2 [] hR226 (by kernel_rfl) trivial (fun ρ227 w227 hm227 hR227 => ?_)
    have hag2 := hag2.moved (hm227.castL (by kernel_rfl))
    have hag := hag.moved (hm227.castL (by kernel_rfl))
    have ht := ht.moved (hm227.castL (by kernel_rfl))
    have hrow := hrow.moved (hm227.castL (by kernel_rfl))
    refine sim_fork0 (by kernel_rfl) (by kernel_rfl) hR227 (fun hR228 => ?_)
    refine sim_run 3 [] (hR228.cast (by kernel_rfl)) (by kernel_rfl) trivial (fun ρ229 w229 hm229 hR229 => ?_)
    have hag2 := hag2.moved (hm229.castL (by kernel_rfl))
    have hag := hag.moved (hm229.castL (by kernel_rfl))
    have ht := ht.moved (hm229.castL (by kernel_rfl))
    have hrow := hrow.moved (hm229.castL (by kernel_rfl))
    rotate_left
    refine sim_ordN 1 [] hR210 (by kernel_rfl) trivial (fun ρ230 w230 hm230 hR230 => ?_)
    have hag2 := hag2.moved (hm230.castL (by kernel_rfl))
    have hag := hag.moved (hm230.castL (by kernel_rfl))
    have ht := ht.moved (hm230.castL (by kernel_rfl))
    have hrow := hrow.moved (hm230.castL (by kernel_rfl))
    refine sim_fork2 (by kernel_rfl) (by kernel_rfl) (by kernel_rfl) (by kernel_rfl) hR230 (fun hR231 => ?_) (fun hR231 => ?_)
    refine sim_ord_call (T := []) (w0 := w0) 17 [.v (Value.pointer (some (Addr.mk g2 0 none))), .agg [LS k.fst, LS k.snd]] (by kernel_rfl) ?_
    refine Calls.mono (get_po _ _ _ _ _ _ _ _ (pos_g ht.b hsB)) ?_
    first | rw [hga] | rw [hgb]
    rintro e232 w232 ⟨rfl, hb232⟩
    have hR232 := (hR231).call hb232 (.agg [LI ((b1, b2, b3).fst), LI ((b1, b2, b3).snd.fst), LI ((b1, b2, b3).snd.snd)])
    have ht := ht.below hb232
    have hrow := hrow.below hb232
    refine BackO.of (.agg [LI ((b1, b2, b3).fst), LI ((b1, b2, b3).snd.fst), LI ((b1, b2, b3).snd.snd)]) hR232 rfl ?_
    refine sim_ordN 3 [] hR232 (by kernel_rfl) trivial (fun ρ233 w233 hm233 hR233 => ?_)
    have hag2 := hag2.moved (hm233.castL (by kernel_rfl))
    have hag := hag.moved (hm233.castL (by kernel_rfl))
    have ht := ht.moved (hm233.castL (by kernel_rfl))
    have hrow := hrow.moved (hm233.castL (by kernel_rfl))
    refine sim_fork0 (by kernel_rfl) (by kernel_rfl) hR233 (fun hR234 => ?_)
    refine sim_run 3 [] (hR234.cast (by kernel_rfl)) (by kernel_rfl) trivial (fun ρ235 w235 hm235 hR235 => ?_)
    have hag2 := hag2.moved (hm235.castL (by kernel_rfl))
    have hag := hag.moved (hm235.castL (by kernel_rfl))
    have ht := ht.moved (hm235.castL (by kernel_rfl))
    have hrow := hrow.moved (hm235.castL (by kernel_rfl))
    rotate_left
    refine sim_ordN 1 [] hR231 (by kernel_rfl) trivial (fun ρ236 w236 hm236 hR236 => ?_)
    have hag2 := hag2.moved (hm236.castL (by kernel_rfl))
    have hag := hag.moved (hm236.castL (by kernel_rfl))
    have ht := ht.moved (hm236.castL (by kernel_rfl))
    have hrow := hrow.moved (hm236.castL (by kernel_rfl))
    refine sim_ord_call (T := []) (w0 := w0) 17 [.v (Value.pointer (some (Addr.mk g2 0 none))), .agg [LS k.fst, LS k.snd]] (by kernel_rfl) ?_
    refine Calls.mono (get_po _ _ _ _ _ _ _ _ (pos_g ht.b hsB)) ?_
    first | rw [hga] | rw [hgb]
    rintro e237 w237 ⟨rfl, hb237⟩
    have hR237 := (hR236).call hb237 (.agg [LI ((b1, b2, b3).fst), LI ((b1, b2, b3).snd.fst), LI ((b1, b2, b3).snd.snd)])
    have ht := ht.below hb237
    have hrow := hrow.below hb237
    refine BackO.of (.agg [LI ((b1, b2, b3).fst), LI ((b1, b2, b3).snd.fst), LI ((b1, b2, b3).snd.snd)]) hR237 rfl ?_
    refine sim_ordN 2 [] hR237 (by kernel_rfl) trivial (fun ρ238 w238 hm238 hR238 => ?_)
    have hag2 := hag2.moved (hm238.castL (by kernel_rfl))
    have hag := hag.moved (hm238.castL (by kernel_rfl))
    have ht := ht.moved (hm238.castL (by kernel_rfl))
    have hrow := hrow.moved (hm238.castL (by kernel_rfl))
    refine sim_fork0 (by kernel_rfl) (by kernel_rfl) hR238 (fun hR239 => ?_)
    refine sim_run 3 [] (hR239.cast (by kernel_rfl)) (by kernel_rfl) trivial (fun ρ240 w240 hm240 hR240 => ?_)
    have hag2 := hag2.moved (hm240.castL (by kernel_rfl))
    have hag := hag.moved (hm240.castL (by kernel_rfl))
    have ht := ht.moved (hm240.castL (by kernel_rfl))
    have hrow := hrow.moved (hm240.castL (by kernel_rfl))
    rotate_left
    refine sim_ordN 1 [] hR208 (by kernel_rfl) trivial (fun ρ241 w241 hm241 hR241 => ?_)
    have hag2 := hag2.moved (hm241.castL (by kernel_rfl))
    have hag := hag.moved (hm241.castL (by kernel_rfl))
    have ht := ht.moved (hm241.castL (by kernel_rfl))
    have hrow := hrow.moved (hm241.castL (by kernel_rfl))
    refine sim_fork2 (by kernel_rfl) (by kernel_rfl) (by kernel_rfl) (by kernel_rfl) hR241 (fun hR242 => ?_) (fun hR242 => ?_)
    refine sim_ord_call (T := []) (w0 := w0) 17 [.v (Value.pointer (some (Addr.mk g1 0 none))), .agg [LS k.fst, LS k.snd]] (by kernel_rfl) ?_
    refine Calls.mono (get_po _ _ _ _ _ _ _ _ (pos_g ht.a hsA)) ?_
    first | rw [hga] | rw [hgb]
    rintro e243 w243 ⟨rfl, hb243⟩
    have hR243 := (hR242).call hb243 (.agg [LI ((a1, a2, a3).fst), LI ((a1, a2, a3).snd.fst), LI ((a1, a2, a3).snd.snd)])
    have ht := ht.below hb243
    have hrow := hrow.below hb243
    refine BackO.of (.agg [LI ((a1, a2, a3).fst), LI ((a1, a2, a3).snd.fst), LI ((a1, a2, a3).snd.snd)]) hR243 rfl ?_
    refine sim_fork2 (by kernel_rfl) (by kernel_rfl) (by kernel_rfl) (by kernel_rfl) hR243 (fun hR244 => ?_) (fun hR244 => ?_)
    refine sim_ord_call (T := []) (w0 := w0) 17 [.v (Value.pointer (some (Addr.mk g2 0 none))), .agg [LS k.fst, LS k.snd]] (by kernel_rfl) ?_
    refine Calls.mono (get_po _ _ _ _ _ _ _ _ (pos_g ht.b hsB)) ?_
    first | rw [hga] | rw [hgb]
    rintro e245 w245 ⟨rfl, hb245⟩
    have hR245 := (hR244).call hb245 (.agg [LI ((b1, b2, b3).fst), LI ((b1, b2, b3).snd.fst), LI ((b1, b2, b3).snd.snd)])
    have ht := ht.below hb245
    have hrow := hrow.below hb245
    refine BackO.of (.agg [LI ((b1, b2, b3).fst), LI ((b1, b2, b3).snd.fst), LI ((b1, b2, b3).snd.snd)]) hR245 rfl ?_
    refine sim_ordN 3 [] hR245 (by kernel_rfl) trivial (fun ρ246 w246 hm246 hR246 => ?_)
    have hag2 := hag2.moved (hm246.castL (by kernel_rfl))
    have hag := hag.moved (hm246.castL (by kernel_rfl))
    have ht := ht.moved (hm246.castL (by kernel_rfl))
    have hrow := hrow.moved (hm246.castL (by kernel_rfl))
    refine sim_fork0 (by kernel_rfl) (by kernel_rfl) hR246 (fun hR247 => ?_)
    refine sim_run 3 [] (hR247.cast (by kernel_rfl)) (by kernel_rfl) trivial (fun ρ248 w248 hm248 hR248 => ?_)
    have hag2 := hag2.moved (hm248.castL (by kernel_rfl))
    have hag := hag.moved (hm248.castL (by kernel_rfl))
    have ht := ht.moved (hm248.castL (by kernel_rfl))
    have hrow := hrow.moved (hm248.castL (by kernel_rfl))
    rotate_left
    refine sim_ordN 1 [] hR244 (by kernel_rfl) trivial (fun ρ249 w249 hm249 hR249 => ?_)
    have hag2 := hag2.moved (hm249.castL (by kernel_rfl))
    have hag := hag.moved (hm249.castL (by kernel_rfl))
    have ht := ht.moved (hm249.castL (by kernel_rfl))
    have hrow := hrow.moved (hm249.castL (by kernel_rfl))
    refine sim_ord_call (T := []) (w0 := w0) 17 [.v (Value.pointer (some (Addr.mk g2 0 none))), .agg [LS k.fst, LS k.snd]] (by kernel_rfl) ?_
    refine Calls.mono (get_po _ _ _ _ _ _ _ _ (pos_g ht.b hsB)) ?_
    first | rw [hga] | rw [hgb]
    rintro e250 w250 ⟨rfl, hb250⟩
    have hR250 := (hR249).call hb250 (.agg [LI ((b1, b2, b3).fst), LI ((b1, b2, b3).snd.fst), LI ((b1, b2, b3).snd.snd)])
    have ht := ht.below hb250
    have hrow := hrow.below hb250
    refine BackO.of (.agg [LI ((b1, b2, b3).fst), LI ((b1, b2, b3).snd.fst), LI ((b1, b2, b3).snd.snd)]) hR250 rfl ?_
    refine sim_ordN 2 [] hR250 (by kernel_rfl) trivial (fun ρ251 w251 hm251 hR251 => ?_)
    have hag2 := hag2.moved (hm251.castL (by kernel_rfl))
    have hag := hag.moved (hm251.castL (by kernel_rfl))
    have ht := ht.moved (hm251.castL (by kernel_rfl))
    have hrow := hrow.moved (hm251.castL (by kernel_rfl))
    refine sim_fork0 (by kernel_rfl) (by kernel_rfl) hR251 (fun hR252 => ?_)
    refine sim_run 3 [] (hR252.cast (by kernel_rfl)) (by kernel_rfl) trivial (fun ρ253 w253 hm253 hR253 => ?_)
    have hag2 := hag2.moved (hm253.castL (by kernel_rfl))
    have hag := hag.moved (hm253.castL (by kernel_rfl))
    have ht := ht.moved (hm253.castL (by kernel_rfl))
    have hrow := hrow.moved (hm253.castL (by kernel_rfl))
    rotate_left
    refine sim_ordN 1 [] hR242 (by kernel_rfl) trivial (fun ρ254 w254 hm254 hR254 => ?_)
    have hag2 := hag2.moved (hm254.castL (by kernel_rfl))
    have hag := hag.moved (hm254.castL (by kernel_rfl))
    have ht := ht.moved (hm254.castL (by kernel_rfl))
    have hrow := hrow.moved (hm254.castL (by kernel_rfl))
    refine sim_ord_call (T := []) (w0 := w0) 17 [.v (Value.pointer (some (Addr.mk g1 0 none))), .agg [LS k.fst, LS k.snd]] (by kernel_rfl) ?_
    refine Calls.mono (get_po _ _ _ _ _ _ _ _ (pos_g ht.a hsA)) ?_
    first | rw [hga] | rw [hgb]
    rintro e255 w255 ⟨rfl, hb255⟩
    have hR255 := (hR254).call hb255 (.agg [LI ((a1, a2, a3).fst), LI ((a1, a2, a3).snd.fst), LI ((a1, a2, a3).snd.snd)])
    have ht := ht.below hb255
    have hrow := hrow.below hb255
    refine BackO.of (.agg [LI ((a1, a2, a3).fst), LI ((a1, a2, a3).snd.fst), LI ((a1, a2, a3).snd.snd)]) hR255 rfl ?_
    refine sim_ord_call (T := []) (w0 := w0) 17 [.v (Value.pointer (some (Addr.mk g2 0 none))), .agg [LS k.fst, LS k.snd]] (by kernel_rfl) ?_
    refine Calls.mono (get_po _ _ _ _ _ _ _ _ (pos_g ht.b hsB)) ?_
    first | rw [hga] | rw [hgb]
    rintro e256 w256 ⟨rfl, hb256⟩
    have hR256 := (hR255).call hb256 (.agg [LI ((b1, b2, b3).fst), LI ((b1, b2, b3).snd.fst), LI ((b1, b2, b3).snd.snd)])
    have ht := ht.below hb256
    have hrow := hrow.below hb256
    refine BackO.of (.agg [LI ((b1, b2, b3).fst), LI ((b1, b2, b3).snd.fst), LI ((b1, b2, b3).snd.snd)]) hR256 rfl ?_
    refine sim_ordN 2 [] hR256 (by kernel_rfl) trivial (fun ρ257 w257 hm257 hR257 => ?_)
    have hag2 := hag2.moved (hm257.castL (by kernel_rfl))
    have hag := hag.moved (hm257.castL (by kernel_rfl))
    have ht := ht.moved (hm257.castL (by kernel_rfl))
    have hrow := hrow.moved (hm257.castL (by kernel_rfl))
    refine sim_fork0 (by kernel_rfl) (by kernel_rfl) hR257 (fun hR258 => ?_)
    refine sim_run 3 [] (hR258.cast (by kernel_rfl)) (by kernel_rfl) trivial (fun ρ259 w259 hm259 hR259 => ?_)
    have hag2 := hag2.moved (hm259.castL (by kernel_rfl))
    have hag := hag.moved (hm259.castL (by kernel_rfl))
    have ht := ht.moved (hm259.castL (by kernel_rfl))
    have hrow := hrow.moved (hm259.castL (by kernel_rfl))
    rotate_left
    refine sim_ordN 1 [] hR208 (by kernel_rfl) trivial (fun ρ260 w260 hm260 hR260 => ?_)
    have hag2 := hag2.moved (hm260.castL (by kernel_rfl))
    have hag := hag.moved (hm260.castL (by kernel_rfl))
    have ht := ht.moved (hm260.castL (by kernel_rfl))
    have hrow := hrow.moved (hm260.castL (by kernel_rfl))
    refine sim_fork2 (by kernel_rfl) (by kernel_rfl) (by kernel_rfl) (by kernel_rfl) hR260 (fun hR261 => ?_) (fun hR261 => ?_)
    refine sim_ord_call (T := []) (w0 := w0) 17 [.v (Value.pointer (some (Addr.mk g1 0 none))), .agg [LS k.fst, LS k.snd]] (by kernel_rfl) ?_
    refine Calls.mono (get_po _ _ _ _ _ _ _ _ (pos_g ht.a hsA)) ?_
    first | rw [hga] | rw [hgb]
    rintro e262 w262 ⟨rfl, hb262⟩
    have hR262 := (hR261).call hb262 (.agg [LI ((a1, a2, a3).fst), LI ((a1, a2, a3).snd.fst), LI ((a1, a2, a3).snd.snd)])
    have ht := ht.below hb262
    have hrow := hrow.below hb262
    refine BackO.of (.agg [LI ((a1, a2, a3).fst), LI ((a1, a2, a3).snd.fst), LI ((a1, a2, a3).snd.snd)]) hR262 rfl ?_
    refine sim_fork2 (by kernel_rfl) (by kernel_rfl) (by kernel_rfl) (by kernel_rfl) hR262 (fun hR263 => ?_) (fun hR263 => ?_)
    refine sim_ord_call (T := []) (w0 := w0) 17 [.v (Value.pointer (some (Addr.mk g2 0 none))), .agg [LS k.fst, LS k.snd]] (by kernel_rfl) ?_
    refine Calls.mono (get_po _ _ _ _ _ _ _ _ (pos_g ht.b hsB)) ?_
    first | rw [hga] | rw [hgb]
    rintro e264 w264 ⟨rfl, hb264⟩
    have hR264 := (hR263).call hb264 (.agg [LI ((b1, b2, b3).fst), LI ((b1, b2, b3).snd.fst), LI ((b1, b2, b3).snd.snd)])
    have ht := ht.below hb264
    have hrow := hrow.below hb264
    refine BackO.of (.agg [LI ((b1, b2, b3).fst), LI ((b1, b2, b3).snd.fst), LI ((b1, b2, b3).snd.snd)]) hR264 rfl ?_
    refine sim_ordN 3 [] hR264 (by kernel_rfl) trivial (fun ρ265 w265 hm265 hR265 => ?_)
    have hag2 := hag2.moved (hm265.castL (by kernel_rfl))
    have hag := hag.moved (hm265.castL (by kernel_rfl))
    have ht := ht.moved (hm265.castL (by kernel_rfl))
    have hrow := hrow.moved (hm265.castL (by kernel_rfl))
    refine sim_fork0 (by kernel_rfl) (by kernel_rfl) hR265 (fun hR266 => ?_)
    refine sim_run 3 [] (hR266.cast (by kernel_rfl)) (by kernel_rfl) trivial (fun ρ267 w267 hm267 hR267 => ?_)
    have hag2 := hag2.moved (hm267.castL (by kernel_rfl))
    have hag := hag.moved (hm267.castL (by kernel_rfl))
    have ht := ht.moved (hm267.castL (by kernel_rfl))
    have hrow := hrow.moved (hm267.castL (by kernel_rfl))
    rotate_left
    refine sim_ordN 1 [] hR263 (by kernel_rfl) trivial (fun ρ268 w268 hm268 hR268 => ?_)
    have hag2 := hag2.moved (hm268.castL (by kernel_rfl))
    have hag := hag.moved (hm268.castL (by kernel_rfl))
    have ht := ht.moved (hm268.castL (by kernel_rfl))
    have hrow := hrow.moved (hm268.castL (by kernel_rfl))
    refine sim_ord_call (T := []) (w0 := w0) 17 [.v (Value.pointer (some (Addr.mk g2 0 none))), .agg [LS k.fst, LS k.snd]] (by kernel_rfl) ?_
    refine Calls.mono (get_po _ _ _ _ _ _ _ _ (pos_g ht.b hsB)) ?_
    first | rw [hga] | rw [hgb]
    rintro e269 w269 ⟨rfl, hb269⟩
    have hR269 := (hR268).call hb269 (.agg [LI ((b1, b2, b3).fst), LI ((b1, b2, b3).snd.fst), LI ((b1, b2, b3).snd.snd)])
    have ht := ht.below hb269
    have hrow := hrow.below hb269
    refine BackO.of (.agg [LI ((b1, b2, b3).fst), LI ((b1, b2, b3).snd.fst), LI ((b1, b2, b3).snd.snd)]) hR269 rfl ?_
    refine sim_ordN 2 [] hR269 (by kernel_rfl) trivial (fun ρ270 w270 hm270 hR270 => ?_)
    have hag2 := hag2.moved (hm270.castL (by kernel_rfl))
    have hag := hag.moved (hm270.castL (by kernel_rfl))
    have ht := ht.moved (hm270.castL (by kernel_rfl))
    have hrow := hrow.moved (hm270.castL (by kernel_rfl))
    refine sim_fork0 (by kernel_rfl) (by kernel_rfl) hR270 (fun hR271 => ?_)
    refine sim_run 3 [] (hR271.cast (by kernel_rfl)) (by kernel_rfl) trivial (fun ρ272 w272 hm272 hR272 => ?_)
    have hag2 := hag2.moved (hm272.castL (by kernel_rfl))
    have hag := hag.moved (hm272.castL (by kernel_rfl))
    have ht := ht.moved (hm272.castL (by kernel_rfl))
    have hrow := hrow.moved (hm272.castL (by kernel_rfl))
    rotate_left
    refine sim_ordN 1 [] hR261 (by kernel_rfl) trivial (fun ρ273 w273 hm273 hR273 => ?_)
    have hag2 := hag2.moved (hm273.castL (by kernel_rfl))
    have hag := hag.moved (hm273.castL (by kernel_rfl))
    have ht := ht.moved (hm273.castL (by kernel_rfl))
    have hrow := hrow.moved (hm273.castL (by kernel_rfl))
    refine sim_ord_call (T := []) (w0 := w0) 17 [.v (Value.pointer (some (Addr.mk g1 0 none))), .agg [LS k.fst, LS k.snd]] (by kernel_rfl) ?_
    refine Calls.mono (get_po _ _ _ _ _ _ _ _ (pos_g ht.a hsA)) ?_
    first | rw [hga] | rw [hgb]
    rintro e274 w274 ⟨rfl, hb274⟩
    have hR274 := (hR273).call hb274 (.agg [LI ((a1, a2, a3).fst), LI ((a1, a2, a3).snd.fst), LI ((a1, a2, a3).snd.snd)])
    have ht := ht.below hb274
    have hrow := hrow.below hb274
    refine BackO.of (.agg [LI ((a1, a2, a3).fst), LI ((a1, a2, a3).snd.fst), LI ((a1, a2, a3).snd.snd)]) hR274 rfl ?_
    refine sim_ord_call (T := []) (w0 := w0) 17 [.v (Value.pointer (some (Addr.mk g2 0 none))), .agg [LS k.fst, LS k.snd]] (by kernel_rfl) ?_
    refine Calls.mono (get_po _ _ _ _ _ _ _ _ (pos_g ht.b hsB)) ?_
    first | rw [hga] | rw [hgb]
    rintro e275 w275 ⟨rfl, hb275⟩
    have hR275 := (hR274).call hb275 (.agg [LI ((b1, b2, b3).fst), LI ((b1, b2, b3).snd.fst), LI ((b1, b2, b3).snd.snd)])
    have ht := ht.below hb275
    have hrow := hrow.below hb275
    refine BackO.of (.agg [LI ((b1, b2, b3).fst), LI ((b1, b2, b3).snd.fst), LI ((b1, b2, b3).snd.snd)]) hR275 rfl ?_
    refine sim_ordN 2 [] hR275 (by kernel_rfl) trivial (fun ρ276 w276 hm276 hR276 => ?_)
    have hag2 := hag2.moved (hm276.castL (by kernel_rfl))
    have hag := hag.moved (hm276.castL (by kernel_rfl))
    have ht := ht.moved (hm276.castL (by kernel_rfl))
    have hrow := hrow.moved (hm276.castL (by kernel_rfl))
    refine sim_fork0 (by kernel_rfl) (by kernel_rfl) hR276 (fun hR277 => ?_)
    refine sim_run 3 [] (hR277.cast (by kernel_rfl)) (by kernel_rfl) trivial (fun ρ278 w278 hm278 hR278 => ?_)
    have hag2 := hag2.moved (hm278.castL (by kernel_rfl))
    have hag := hag.moved (hm278.castL (by kernel_rfl))
    have ht := ht.moved (hm278.castL (by kernel_rfl))
    have hrow := hrow.moved (hm278.castL (by kernel_rfl))
    rotate_left
    
    · have e6 := (hag.at_ 2 (by omega)).trans e2
      have hRn := (by assumption : Rel _ _ _ _ _).cast (rs' := [⟨ptrG g1, false⟩, ⟨ptrG g2, false⟩, ⟨[LS k.1, LS k.2], false⟩, ⟨[LI a1, LI a2, LI a3], true⟩, ⟨[LI b1, LI b2, LI b3], true⟩]) (by kernel_rfl)
      refine sim_to (regK Try.f12 26) (tmplJ Try.f12.ntmps 0 [(1, .v (.slice Ap np cpp)), (5, .ptr 0 0), (6, .ptr 1 0), (8, LI c), (10, .v (.slice (some ⟨gb0, ob, none⟩) kn ck)), (11, LI j), (12, .ptr 3 0), (13, .ptr 4 0)]) [⟨ptrG g1, false⟩, ⟨ptrG g2, false⟩, ⟨[LS k.1, LS k.2], false⟩, ⟨[LI a1, LI a2, LI a3], true⟩, ⟨[LI b1, LI b2, LI b3], true⟩] (by kernel_rfl) (by kernel_rfl) (by kernel_rfl) (fun d6 => ?_)
      refine whole_26a kp hnp hRn (ht.castR (by kernel_rfl)) hsA hsB (hrow.castR (by kernel_rfl)) e6 hlt hkn hwx hwy (hbA k) (hbB k) hdf hsame d6 (fun c' ρ' w' hk' hm' hl' hag' hR' htk ht' hrow' => ?_)
      have hag7 : Ag 2 ρ100 ρ' c'.rs := ⟨hag2.ag.trans hag'.ag (by omega), hag'.le⟩
      exact sim_again (j + 1) hk' (by show kn - (j + 1) < kn - j; omega) ((congrArg (mergeT · c'.tmps) (by kernel_rfl)).trans hm') ((congrArg List.length (by kernel_rfl)).trans hl') (by kernel_rfl) hag7.ag hR' htk (by kernel_rfl) ⟨hlt, ht'.cut hag7 (by omega) rfl htk, hrow'.cut hag7 rfl htk⟩
    · have e6 := (hag.at_ 2 (by omega)).trans e2
      have hRn := (by assumption : Rel _ _ _ _ _).cast (rs' := [⟨ptrG g1, false⟩, ⟨ptrG g2, false⟩, ⟨[LS k.1, LS k.2], false⟩, ⟨[LI b1, LI b2, LI b3], true⟩, ⟨[LI a1, LI a2, LI a3], true⟩]) (by kernel_rfl)
      refine sim_to (regK Try.f12 26) (tmplJ Try.f12.ntmps 0 [(1, .v (.slice Ap np cpp)), (5, .ptr 0 0), (6, .ptr 1 0), (8, LI c), (10, .v (.slice (some ⟨gb0, ob, none⟩) kn ck)), (11, LI j), (12, .ptr 4 0), (13, .ptr 3 0)]) [⟨ptrG g1, false⟩, ⟨ptrG g2, false⟩, ⟨[LS k.1, LS k.2], false⟩, ⟨[LI b1, LI b2, LI b3], true⟩, ⟨[LI a1, LI a2, LI a3], true⟩] (by kernel_rfl) (by kernel_rfl) (by kernel_rfl) (fun d6 => ?_)
      refine whole_26b kp hnp hRn (ht.castR (by kernel_rfl)) hsA hsB (hrow.castR (by kernel_rfl)) e6 hlt hkn hwx hwy (hbA k) (hbB k) hdf hsame d6 (fun c' ρ' w' hk' hm' hl' hag' hR' htk ht' hrow' => ?_)
      have hag7 : Ag 2 ρ100 ρ' c'.rs := ⟨hag2.ag.trans hag'.ag (by omega), hag'.le⟩
      exact sim_again (j + 1) hk' (by show kn - (j + 1) < kn - j; omega) ((congrArg (mergeT · c'.tmps) (by kernel_rfl)).trans hm') ((congrArg List.length (by kernel_rfl)).trans hl') (by kernel_rfl) hag7.ag hR' htk (by kernel_rfl) ⟨hlt, ht'.cut hag7 (by omega) rfl htk, hrow'.cut hag7 rfl htk⟩
    · have e6 := (hag.at_ 2 (by omega)).trans e2
      have hRn := (by assumption : Rel _ _ _ _ _).cast (rs' := [⟨ptrG g1, false⟩, ⟨ptrG g2, false⟩, ⟨[LS k.1, LS k.2], false⟩, ⟨[LI a1, LI a2, LI a3], true⟩, ⟨[LI b1, LI b2, LI b3], true⟩]) (by kernel_rfl)
      refine sim_to (regK Try.f12 26) (tmplJ Try.f12.ntmps 0 [(1, .v (.slice Ap np cpp)), (5, .ptr 0 0), (6, .ptr 1 0), (8, LI c), (10, .v (.slice (some ⟨gb0, ob, none⟩) kn ck)), (11, LI j), (12, .ptr 3 0), (13, .ptr 4 0)]) [⟨ptrG g1, false⟩, ⟨ptrG g2, false⟩, ⟨[LS k.1, LS k.2], false⟩, ⟨[LI a1, LI a2, LI a3], true⟩, ⟨[LI b1, LI b2, LI b3], true⟩] (by kernel_rfl) (by kernel_rfl) (by kernel_rfl) (fun d6 => ?_)
      refine whole_26a kp hnp hRn (ht.castR (by kernel_rfl)) hsA hsB (hrow.castR (by kernel_rfl)) e6 hlt hkn hwx hwy (hbA k) (hbB k) hdf hsame d6 (fun c' ρ' w' hk' hm' hl' hag' hR' htk ht' hrow' => ?_)
      have hag7 : Ag 2 ρ100 ρ' c'.rs := ⟨hag2.ag.trans hag'.ag (by omega), hag'.le⟩
      exact sim_again (j + 1) hk' (by show kn - (j + 1) < kn - j; omega) ((congrArg (mergeT · c'.tmps) (by kernel_rfl)).trans hm') ((congrArg List.length (by kernel_rfl)).trans hl') (by kernel_rfl) hag7.ag hR' htk (by kernel_rfl) ⟨hlt, ht'.cut hag7 (by omega) rfl htk, hrow'.cut hag7 rfl htk⟩
    · have e6 := (hag.at_ 2 (by omega)).trans e2
      have hRn := (by assumption : Rel _ _ _ _ _).cast (rs' := [⟨ptrG g1, false⟩, ⟨ptrG g2, false⟩, ⟨[LS k.1, LS k.2], false⟩, ⟨[LI a1, LI a2, LI a3], true⟩, ⟨[LI b1, LI b2, LI b3], true⟩]) (by kernel_rfl)
      refine sim_to (regK Try.f12 26) (tmplJ Try.f12.ntmps 0 [(1, .v (.slice Ap np cpp)), (5, .ptr 0 0), (6, .ptr 1 0), (8, LI c), (10, .v (.slice (some ⟨gb0, ob, none⟩) kn ck)), (11, LI j), (12, .ptr 3 0), (13, .ptr 4 0)]) [⟨ptrG g1, false⟩, ⟨ptrG g2, false⟩, ⟨[LS k.1, LS k.2], false⟩, ⟨[LI a1, LI a2, LI a3], true⟩, ⟨[LI b1, LI b2, LI b3], true⟩] (by kernel_rfl) (by kernel_rfl) (by kernel_rfl) (fun d6 => ?_)
      refine whole_26a kp hnp hRn (ht.castR (by kernel_rfl)) hsA hsB (hrow.castR (by kernel_rfl)) e6 hlt hkn hwx hwy (hbA k) (hbB k) hdf hsame d6 (fun c' ρ' w' hk' hm' hl' hag' hR' htk ht' hrow' => ?_)
      have hag7 : Ag 2 ρ100 ρ' c'.rs := ⟨hag2.ag.trans hag'.ag (by omega), hag'.le⟩
      exact sim_again (j + 1) hk' (by show kn - (j + 1) < kn - j; omega) ((congrArg (mergeT · c'.tmps) (by kernel_rfl)).trans hm') ((congrArg List.length (by kernel_rfl)).trans hl') (by kernel_rfl) hag7.ag hR' htk (by kernel_rfl) ⟨hlt, ht'.cut hag7 (by omega) rfl htk, hrow'.cut hag7 rfl htk⟩
    · have e6 := (hag.at_ 2 (by omega)).trans e2
      have hRn := (by assumption : Rel _ _ _ _ _).cast (rs' := [⟨ptrG g1, false⟩, ⟨ptrG g2, false⟩, ⟨[LS k.1, LS k.2], false⟩, ⟨[LI b1, LI b2, LI b3], true⟩, ⟨[LI a1, LI a2, LI a3], true⟩]) (by kernel_rfl)
      refine sim_to (regK Try.f12 26) (tmplJ Try.f12.ntmps 0 [(1, .v (.slice Ap np cpp)), (5, .ptr 0 0), (6, .ptr 1 0), (8, LI c), (10, .v (.slice (some ⟨gb0, ob, none⟩) kn ck)), (11, LI j), (12, .ptr 4 0), (13, .ptr 3 0)]) [⟨ptrG g1, false⟩, ⟨ptrG g2, false⟩, ⟨[LS k.1, LS k.2], false⟩, ⟨[LI b1, LI b2, LI b3], true⟩, ⟨[LI a1, LI a2, LI a3], true⟩] (by kernel_rfl) (by kernel_rfl) (by kernel_rfl) (fun d6 => ?_)
      refine whole_26b kp hnp hRn (ht.castR (by kernel_rfl)) hsA hsB (hrow.castR (by kernel_rfl)) e6 hlt hkn hwx hwy (hbA k) (hbB k) hdf hsame d6 (fun c' ρ' w' hk' hm' hl' hag' hR' htk ht' hrow' => ?_)
      have hag7 : Ag 2 ρ100 ρ' c'.rs := ⟨hag2.ag.trans hag'.ag (by omega), hag'.le⟩
      exact sim_again (j + 1) hk' (by show kn - (j + 1) < kn - j; omega) ((congrArg (mergeT · c'.tmps) (by kernel_rfl)).trans hm') ((congrArg List.length (by kernel_rfl)).trans hl') (by kernel_rfl) hag7.ag hR' htk (by kernel_rfl) ⟨hlt, ht'.cut hag7 (by omega) rfl htk, hrow'.cut hag7 rfl htk⟩
    · have e6 := (hag.at_ 2 (by omega)).trans e2
      have hRn := (by assumption : Rel _ _ _ _ _).cast (rs' := [⟨ptrG g1, false⟩, ⟨ptrG g2, false⟩, ⟨[LS k.1, LS k.2], false⟩, ⟨[LI b1, LI b2, LI b3], true⟩, ⟨[LI a1, LI a2, LI a3], true⟩]) (by kernel_rfl)
      refine sim_to (regK Try.f12 26) (tmplJ Try.f12.ntmps 0 [(1, .v (.slice Ap np cpp)), (5, .ptr 0 0), (6, .ptr 1 0), (8, LI c), (10, .v (.slice (some ⟨gb0, ob, none⟩) kn ck)), (11, LI j), (12, .ptr 4 0), (13, .ptr 3 0)]) [⟨ptrG g1, false⟩, ⟨ptrG g2, false⟩, ⟨[LS k.1, LS k.2], false⟩, ⟨[LI b1, LI b2, LI b3], true⟩, ⟨[LI a1, LI a2, LI a3], true⟩] (by kernel_rfl) (by kernel_rfl) (by kernel_rfl) (fun d6 => ?_)
      refine whole_26b kp hnp hRn (ht.castR (by kernel_rfl)) hsA hsB (hrow.castR (by kernel_rfl)) e6 hlt hkn hwx hwy (hbA k) (hbB k) hdf hsame d6 (fun c' ρ' w' hk' hm' hl' hag' hR' htk ht' hrow' => ?_)
      have hag7 : Ag 2 ρ100 ρ' c'.rs := ⟨hag2.ag.trans hag'.ag (by omega), hag'.le⟩
      exact sim_again (j + 1) hk' (by show kn - (j + 1) < kn - j; omega) ((congrArg (mergeT · c'.tmps) (by kernel_rfl)).trans hm') ((congrArg List.length (by kernel_rfl)).trans hl') (by kernel_rfl) hag7.ag hR' htk (by kernel_rfl) ⟨hlt, ht'.cut hag7 (by omega) rfl htk, hrow'.cut hag7 rfl htk⟩
    · have e6 := (hag.at_ 2 (by omega)).trans e2
      have hRn := (by assumption : Rel _ _ _ _ _).cast (rs' := [⟨ptrG g1, false⟩, ⟨ptrG g2, false⟩, ⟨[LS k.1, LS k.2], false⟩, ⟨[LI a1, LI a2, LI a3], true⟩, ⟨[LI b1, LI b2, LI b3], true⟩]) (by kernel_rfl)
      refine sim_to (regK Try.f12 26) (tmplJ Try.f12.ntmps 0 [(1, .v (.slice Ap np cpp)), (5, .ptr 0 0), (6, .ptr 1 0), (8, LI c), (10, .v (.slice (some ⟨gb0, ob, none⟩) kn ck)), (11, LI j), (12, .ptr 3 0), (13, .ptr 4 0)]) [⟨ptrG g1, false⟩, ⟨ptrG g2, false⟩, ⟨[LS k.1, LS k.2], false⟩, ⟨[LI a1, LI a2, LI a3], true⟩, ⟨[LI b1, LI b2, LI b3], true⟩] (by kernel_rfl) (by kernel_rfl) (by kernel_rfl) (fun d6 => ?_)
      refine whole_26a kp hnp hRn (ht.castR (by kernel_rfl)) hsA hsB (hrow.castR (by kernel_rfl)) e6 hlt hkn hwx hwy (hbA k) (hbB k) hdf hsame d6 (fun c' ρ' w' hk' hm' hl' hag' hR' htk ht' hrow' => ?_)
      have hag7 : Ag 2 ρ100 ρ' c'.rs := ⟨hag2.ag.trans hag'.ag (by omega), hag'.le⟩
      exact sim_again (j + 1) hk' (by show kn - (j + 1) < kn - j; omega) ((congrArg (mergeT · c'.tmps) (by kernel_rfl)).trans hm') ((congrArg List.length (by kernel_rfl)).trans hl') (by kernel_rfl) hag7.ag hR' htk (by kernel_rfl) ⟨hlt, ht'.cut hag7 (by omega) rfl htk, hrow'.cut hag7 rfl htk⟩
    · have e6 := (hag.at_ 2 (by omega)).trans e2
      have hRn := (by assumption : Rel _ _ _ _ _).cast (rs' := [⟨ptrG g1, false⟩, ⟨ptrG g2, false⟩, ⟨[LS k.1, LS k.2], false⟩, ⟨[LI a1, LI a2, LI a3], true⟩, ⟨[LI b1, LI b2, LI b3], true⟩]) (by kernel_rfl)
      refine sim_to (regK Try.f12 26) (tmplJ Try.f12.ntmps 0 [(1, .v (.slice Ap np cpp)), (5, .ptr 0 0), (6, .ptr 1 0), (8, LI c), (10, .v (.slice (some ⟨gb0, ob, none⟩) kn ck)), (11, LI j), (12, .ptr 3 0), (13, .ptr 4 0)]) [⟨ptrG g1, false⟩, ⟨ptrG g2, false⟩, ⟨[LS k.1, LS k.2], false⟩, ⟨[LI a1, LI a2, LI a3], true⟩, ⟨[LI b1, LI b2, LI b3], true⟩] (by kernel_rfl) (by kernel_rfl) (by kernel_rfl) (fun d6 => ?_)
      refine whole_26a kp hnp hRn (ht.castR (by kernel_rfl)) hsA hsB (hrow.castR (by kernel_rfl)) e6 hlt hkn hwx hwy (hbA k) (hbB k) hdf hsame d6 (fun c' ρ' w' hk' hm' hl' hag' hR' htk ht' hrow' => ?_)
      have hag7 : Ag 2 ρ100 ρ' c'.rs := ⟨hag2.ag.trans hag'.ag (by omega), hag'.le⟩
      exact sim_again (j + 1) hk' (by show kn - (j + 1) < kn - j; omega) ((congrArg (mergeT · c'.tmps) (by kernel_rfl)).trans hm') ((congrArg List.length (by kernel_rfl)).trans hl') (by kernel_rfl) hag7.ag hR' htk (by kernel_rfl) ⟨hlt, ht'.cut hag7 (by omega) rfl htk, hrow'.cut hag7 rfl htk⟩
    · have e6 := (hag.at_ 2 (by omega)).trans e2
      have hRn := (by assumption : Rel _ _ _ _ _).cast (rs' := [⟨ptrG g1, false⟩, ⟨ptrG g2, false⟩, ⟨[LS k.1, LS k.2], false⟩, ⟨[LI a1, LI a2, LI a3], true⟩, ⟨[LI b1, LI b2, LI b3], true⟩]) (by kernel_rfl)
      refine sim_to (regK Try.f12 26) (tmplJ Try.f12.ntmps 0 [(1, .v (.slice Ap np cpp)), (5, .ptr 0 0), (6, .ptr 1 0), (8, LI c), (10, .v (.slice (some ⟨gb0, ob, none⟩) kn ck)), (11, LI j), (12, .ptr 3 0), (13, .ptr 4 0)]) [⟨ptrG g1, false⟩, ⟨ptrG g2, false⟩, ⟨[LS k.1, LS k.2], false⟩, ⟨[LI a1, LI a2, LI a3], true⟩, ⟨[LI b1, LI b2, LI b3], true⟩] (by kernel_rfl) (by kernel_rfl) (by kernel_rfl) (fun d6 => ?_)
      refine whole_26a kp hnp hRn (ht.castR (by kernel_rfl)) hsA hsB (hrow.castR (by kernel_rfl)) e6 hlt hkn hwx hwy (hbA k) (hbB k) hdf hsame d6 (fun c' ρ' w' hk' hm' hl' hag' hR' htk ht' hrow' => ?_)
      have hag7 : Ag 2 ρ100 ρ' c'.rs := ⟨hag2.ag.trans hag'.ag (by omega), hag'.le⟩
      exact sim_again (j + 1) hk' (by show kn - (j + 1) < kn - j; omega) ((congrArg (mergeT · c'.tmps) (by kernel_rfl)).trans hm') ((congrArg List.length (by kernel_rfl)).trans hl') (by kernel_rfl) hag7.ag hR' htk (by kernel_rfl) ⟨hlt, ht'.cut hag7 (by omega) rfl htk, hrow'.cut hag7 rfl htk⟩
    · have e6 := (hag.at_ 2 (by omega)).trans e2
      have hRn := (by assumption : Rel _ _ _ _ _).cast (rs' := [⟨ptrG g1, false⟩, ⟨ptrG g2, false⟩, ⟨[LS k.1, LS k.2], false⟩, ⟨[LI b1, LI b2, LI b3], true⟩, ⟨[LI a1, LI a2, LI a3], true⟩]) (by kernel_rfl)
      refine sim_to (regK Try.f12 26) (tmplJ Try.f12.ntmps 0 [(1, .v (.slice Ap np cpp)), (5, .ptr 0 0), (6, .ptr 1 0), (8, LI c), (10, .v (.slice (some ⟨gb0, ob, none⟩) kn ck)), (11, LI j), (12, .ptr 4 0), (13, .ptr 3 0)]) [⟨ptrG g1, false⟩, ⟨ptrG g2, false⟩, ⟨[LS k.1, LS k.2], false⟩, ⟨[LI b1, LI b2, LI b3], true⟩, ⟨[LI a1, LI a2, LI a3], true⟩] (by kernel_rfl) (by kernel_rfl) (by kernel_rfl) (fun d6 => ?_)
      refine whole_26b kp hnp hRn (ht.castR (by kernel_rfl)) hsA hsB (hrow.castR (by kernel_rfl)) e6 hlt hkn hwx hwy (hbA k) (hbB k) hdf hsame d6 (fun c' ρ' w' hk' hm' hl' hag' hR' htk ht' hrow' => ?_)
      have hag7 : Ag 2 ρ100 ρ' c'.rs := ⟨hag2.ag.trans hag'.ag (by omega), hag'.le⟩
      exact sim_again (j + 1) hk' (by show kn - (j + 1) < kn - j; omega) ((congrArg (mergeT · c'.tmps) (by kernel_rfl)).trans hm') ((congrArg List.length (by kernel_rfl)).trans hl') (by kernel_rfl) hag7.ag hR' htk (by kernel_rfl) ⟨hlt, ht'.cut hag7 (by omega) rfl htk, hrow'.cut hag7 rfl htk⟩
    · have e6 := (hag.at_ 2 (by omega)).trans e2
      have hRn := (by assumption : Rel _ _ _ _ _).cast (rs' := [⟨ptrG g1, false⟩, ⟨ptrG g2, false⟩, ⟨[LS k.1, LS k.2], false⟩, ⟨[LI b1, LI b2, LI b3], true⟩, ⟨[LI a1, LI a2, LI a3], true⟩]) (by kernel_rfl)
      refine sim_to (regK Try.f12 26) (tmplJ Try.f12.ntmps 0 [(1, .v (.slice Ap np cpp)), (5, .ptr 0 0), (6, .ptr 1 0), (8, LI c), (10, .v (.slice (some ⟨gb0, ob, none⟩) kn ck)), (11, LI j), (12, .ptr 4 0), (13, .ptr 3 0)]) [⟨ptrG g1, false⟩, ⟨ptrG g2, false⟩, ⟨[LS k.1, LS k.2], false⟩, ⟨[LI b1, LI b2, LI b3], true⟩, ⟨[LI a1, LI a2, LI a3], true⟩] (by kernel_rfl) (by kernel_rfl) (by kernel_rfl) (fun d6 => ?_)
      refine whole_26b kp hnp hRn (ht.castR (by kernel_rfl)) hsA hsB (hrow.castR (by kernel_rfl)) e6 hlt hkn hwx hwy (hbA k) (hbB k) hdf hsame d6 (fun c' ρ' w' hk' hm' hl' hag' hR' htk ht' hrow' => ?_)
      have hag7 : Ag 2 ρ100 ρ' c'.rs := ⟨hag2.ag.trans hag'.ag (by omega), hag'.le⟩
      exact sim_again (j + 1) hk' (by show kn - (j + 1) < kn - j; omega) ((congrArg (mergeT · c'.tmps) (by kernel_rfl)).trans hm') ((congrArg List.length (by kernel_rfl)).trans hl') (by kernel_rfl) hag7.ag hR' htk (by kernel_rfl) ⟨hlt, ht'.cut hag7 (by omega) rfl htk, hrow'.cut hag7 rfl htk⟩
    · have e6 := (hag.at_ 2 (by omega)).trans e2
      have hRn := (by assumption : Rel _ _ _ _ _).cast (rs' := [⟨ptrG g1, false⟩, ⟨ptrG g2, false⟩, ⟨[LS k.1, LS k.2], false⟩, ⟨[LI b1, LI b2, LI b3], true⟩, ⟨[LI a1, LI a2, LI a3], true⟩]) (by kernel_rfl)
      refine sim_to (regK Try.f12 26) (tmplJ Try.f12.ntmps 0 [(1, .v (.slice Ap np cpp)), (5, .ptr 0 0), (6, .ptr 1 0), (8, LI c), (10, .v (.slice (some ⟨gb0, ob, none⟩) kn ck)), (11, LI j), (12, .ptr 4 0), (13, .ptr 3 0)]) [⟨ptrG g1, false⟩, ⟨ptrG g2, false⟩, ⟨[LS k.1, LS k.2], false⟩, ⟨[LI b1, LI b2, LI b3], true⟩, ⟨[LI a1, LI a2, LI a3], true⟩] (by kernel_rfl) (by kernel_rfl) (by kernel_rfl) (fun d6 => ?_)
      refine whole_26b kp hnp hRn (ht.castR (by kernel_rfl)) hsA hsB (hrow.castR (by kernel_rfl)) e6 hlt hkn hwx hwy (hbA k) (hbB k) hdf hsame d6 (fun c' ρ' w' hk' hm' hl' hag' hR' htk ht' hrow' => ?_)
      have hag7 : Ag 2 ρ100 ρ' c'.rs := ⟨hag2.ag.trans hag'.ag (by omega), hag'.le⟩
      exact sim_again (j + 1) hk' (by show kn - (j + 1) < kn - j; omega) ((congrArg (mergeT · c'.tmps) (by kernel_rfl)).trans hm') ((congrArg List.length (by kernel_rfl)).trans hl') (by kernel_rfl) hag7.ag hR' htk (by kernel_rfl) ⟨hlt, ht'.cut hag7 (by omega) rfl htk, hrow'.cut hag7 rfl htk⟩
  · refine sim_run 8 [] (hR5.cast (by kernel_rfl)) (by kernel_rfl) trivial (fun ρ300 w300 hm300 hR300 => ?_)
    have ht := ht.moved (hm300.castL (by kernel_rfl))
    have hrow := hrow.moved (hm300.castL (by kernel_rfl))
    have hag2 := hag2.moved (hm300.castL (by kernel_rfl))
    refine sim_know 118 (decide ((↑j : Int) < (↑kn : Int))) false (by kernel_rfl) (decide_eq_false (by omega)) ?_
    refine sim_run 1 [] (hR300.cast (by kernel_rfl)) (by kernel_rfl) trivial (fun ρ301 w301 hm301 hR301 => ?_)
    have ht := ht.moved (hm301.castL (by kernel_rfl))
    have hrow := hrow.moved (hm301.castL (by kernel_rfl))
    have hag2 := hag2.moved (hm301.castL (by kernel_rfl))
    refine sim_leave (by kernel_rfl) ?_
    refine sim_run 2 [] (hR301.cast (by kernel_rfl)) (by kernel_rfl) trivial (fun ρ302 w302 hm302 hR302 => ?_)
    have ht := ht.moved (hm302.castL (by kernel_rfl))
    have hrow := hrow.moved (hm302.castL (by kernel_rfl))
    have hag2 := hag2.moved (hm302.castL (by kernel_rfl))
    refine sim_call 23 [] (by kernel_rfl) ?_
    refine Calls.mono (alive11_any _) ?_
    rintro e303 w303 ⟨rfl, hb303⟩
    have hR303 := hR302.below hb303
    have ht := ht.below hb303
    have hrow := hrow.below hb303
    refine Back.of (LB true) hR303 rfl ?_
    refine sim_run 2 [] (hR303.cast (by kernel_rfl)) (by kernel_rfl) trivial (fun ρ304 w304 hm304 hR304 => ?_)
    have hag2 := hag2.moved (hm304.castL (by kernel_rfl))
    have ht := ht.moved (hm304.castL (by kernel_rfl))
    have hrow := hrow.moved (hm304.castL (by kernel_rfl))
    refine sim_ret (LB true) hR304 (by kernel_rfl) (by kernel_rfl) ?_
    exact ⟨rfl, hR304.toBelow⟩
    
end Go.Proofs.Ytgbgedaedcofcaa
