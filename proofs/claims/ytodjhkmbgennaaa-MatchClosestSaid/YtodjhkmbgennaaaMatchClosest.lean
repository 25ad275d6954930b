/-
  Law 15: MatchClosest, the walk.
-/
import Derived.Test.YtodjhkmbgennaaaMatchP
import Derived.Test.YtodjhkmbgennaaaMatchBoth
namespace Go.Proofs.Ytodjhkmbgennaaa
open Go Go.RowKit
attribute [local irreducible] run goO leaveK someK nextK nextT nextOT nextOD loopBody loopRest loopK fillJ tmplOf tmplJ mergeT At AtO drawOk ordOf gateOf callC callO topOp topO idxOf appOf storeOf clearOf sliceOf calleeOf calleeO topQ idxQ newRowOf resL stepOp seek

theorem at_of {ρ : Nm} {m g o k : Nat} (h : ρ m = (g, o + k * 21)) : ρ.at_ m 0 = ⟨g, o + (k : Int).toNat * 21, none⟩ := by unfold Nm.at_; rw [h, Int.toNat_natCast, Nat.add_zero]
theorem any_take {p : In → Bool} {l : List In} {k : Nat} {x : In} (hx : l[k]? = some x) : (l.take (k + 1)).any p = ((l.take k).any p || p x) := by
  rw [List.take_add_one, hx, List.any_append]
  simp
theorem wrap1 {k n : Nat} (h : k < n) (hn : n ≤ 100000) : IntKind.i64.wrap ((k : Int) + 1) = ((k + 1 : Nat) : Int) := by rw [IntWalk.i64_in _ (by omega)]; omega
set_option maxRecDepth 100000 in
set_option maxHeartbeats 2000000 in
theorem matchClosest_walk (w : World) (x : In) (hx : x.ok) (c : Int) (hc : Is64 c) (A : Option Addr) (n cp : Nat) (l : List In) (h : Reads w w.heap.size 21 A n (insts l)) (hok : ∀ y ∈ l, y.ok) (hA : A = none → n = 0 ∧ cp = 0) :
    Calls Try.prog 4 #[x.val, .int .i64 c, .slice A n cp] w fun e w' => e = .returned (.bool true) ∧ Below w.heap.size w w' := by
  have hl := h.insts_len
  refine sim_enter Try.func4 ρ0 [.v x.val, LI c, .v (.slice A n cp)] [] (by kernel_rfl) rfl ?_
  have hR0 := Rel.start [] w ρ0
  cases t0 : decide ((n : Int) > 60) with
  | true =>
    refine sim_run 1000 [⟨1, 2, LB (decide ((n : Int) > 60)), LB true⟩] hR0 (by kernel_rfl) ⟨eqb t0, trivial⟩ (fun ρ1 w1 hm1 hR1 => ?_)
    exact mb_alive hR1 rfl (by kernel_rfl) (by kernel_rfl) (by kernel_rfl) (by kernel_rfl)
  | false =>
  have hn : n ≤ 100000 := by simp only [decide_eq_false_iff_not] at t0; omega
  refine sim_run 1000 [⟨1, 2, LB (decide ((n : Int) > 60)), LB false⟩] hR0 (by kernel_rfl) ⟨eqb t0, trivial⟩ (fun ρ1 w1 hm1 hR1 => ?_)
  refine sim_call 17 [.agg (x.cells.map .v), LI c, .v (.slice A n cp)] (by kernel_rfl) ?_
  refine (mate_any x hx c hc A n cp w.heap.size l w1 (h.belowN hR1.toBelow (Nat.le_refl _)) hR1.toBelow.size hok hn hA).mono ?_
  have hany := mateR_any x c l
  have hbest := fun y hy hp => best_is x c hc l y hy hp
  have hone := fun y hy hp => oneM_is l (mateR x c l).1 (let ⟨_, z, hz, hid, _⟩ := mateR_best x c l y hy hp; ⟨z, hz, hid⟩)
  generalize (mateR x c l).1 = m at *
  generalize (mateR x c l).2 = b at *
  rintro e w2 ⟨rfl, hb2⟩
  have hR2 := hR1.below hb2
  refine Back.of (.tup [LI m, LB b]) hR2 rfl ?_
  refine sim_run 1000 [] hR2 (by kernel_rfl) trivial (fun ρ3 w3 hm3 hR3 => ?_)
  refine sim_loop (ι := Nat × Bool) (T := []) (w0 := w) (0, false) [1, 2, 3, 6, 7, 8] (fun s => [(9, LB s.2), (10, LI s.1)]) (fun _ => [⟨x.cells.map .v, true⟩]) (fun s _ => s.1 ≤ n ∧ s.2 = (l.take s.1).any (mayB x c)) (fun s => n - s.1) (by kernel_rfl) (by kernel_rfl) (hR3.cast (by kernel_rfl)) ⟨Nat.zero_le _, rfl⟩ ?_
  rintro ⟨i, s⟩ d w4 hR4 ⟨hi, hs⟩
  simp only at hi hs
  by_cases hlt : i < n
  · refine sim_run 1000 [⟨6, 3, LB (decide ((i : Int) < (n : Int))), LB true⟩] hR4 (by kernel_rfl) ⟨eqb (by simp; omega), trivial⟩ (fun ρ5 w5 hm5 hR5 => ?_)
    refine sim_view i 1 (by kernel_rfl) hlt h (Nat.le_refl _) hR5 (by kernel_rfl) (fun g o y ρ6 hA' hy ha6 hn6 hR6 => ?_)
    subst hA'
    have hyl : y ∈ l := List.mem_of_getElem? hy
    have hyo := hok y hyl
    have htk := any_take (p := mayB x c) hy
    have hag6 : Agree 1 ρ3 ρ6 := (hm5.agN 1 (by kernel_rfl)).tr ha6
    cases hid : y.id == x.id with
    | true =>
      refine sim_draw [] (by kernel_rfl) (by kernel_rfl) hR6 (fun hO => ?_)
      refine sim_ord [] hO (by kernel_rfl) trivial (fun ρ7 w7 hm7 hR7 => ?_)
      have hp1_7 : ρ7 1 = (g, o + i * 21) := by rw [hm7.at_ 1 (by kernel_rfl), hn6]
      refine sim_ord_index (.v (.slice (some ⟨g, o, none⟩) n cp)) n 21 i 1 0 (by kernel_rfl) (by omega) (by omega) rfl hR7 (at_of hp1_7) (fun hR8 => ?_)
      refine sim_ord [⟨8, 7, LB (y.id == x.id), LB true⟩] hR8 (by kernel_rfl) ⟨eqb hid, trivial⟩ (fun ρ9 w9 hm9 hR9 => ?_)
      have hp1_9 : ρ9 1 = (g, o + i * 21) := by rw [hm9.at_ 1 (by kernel_rfl), hp1_7]
      refine sim_ord_end (by kernel_rfl) ?_
      refine sim_run 1000 [⟨7, 1, LI (IntKind.i64.wrap ((i : Int) + 1)), LI ((i + 1 : Nat) : Int)⟩] hR9.rel (by kernel_rfl) ⟨eqi (wrap1 hlt hn), trivial⟩ (fun ρ10 w10 hm10 hR10 => ?_)
      have hmay : mayB x c y = false := by unfold mayB mateB; rw [hid]; rfl
      exact sim_again (i + 1, s) (by kernel_rfl) (show n - (i + 1) < n - i by omega) (by kernel_rfl) (by kernel_rfl) (by kernel_rfl) (((hag6.tr (hm7.agN 1 (by kernel_rfl))).tr (hm9.agN 1 (by kernel_rfl))).tr (hm10.agN 1 (by kernel_rfl))) hR10 (by kernel_rfl) (by kernel_rfl) ⟨hlt, by rw [htk, hmay, Bool.or_false]; exact hs⟩
    | false =>
      cases hf : fitsB x y c with
      | false =>
        refine sim_draw [] (by kernel_rfl) (by kernel_rfl) hR6 (fun hO => ?_)
        refine sim_ord [] hO (by kernel_rfl) trivial (fun ρ7 w7 hm7 hR7 => ?_)
        have hp1_7 : ρ7 1 = (g, o + i * 21) := by rw [hm7.at_ 1 (by kernel_rfl), hn6]
        refine sim_ord_index (.v (.slice (some ⟨g, o, none⟩) n cp)) n 21 i 1 0 (by kernel_rfl) (by omega) (by omega) rfl hR7 (at_of hp1_7) (fun hR8 => ?_)
        refine sim_ord [⟨8, 7, LB (y.id == x.id), LB false⟩] hR8 (by kernel_rfl) ⟨eqb hid, trivial⟩ (fun ρ9 w9 hm9 hR9 => ?_)
        have hp1_9 : ρ9 1 = (g, o + i * 21) := by rw [hm9.at_ 1 (by kernel_rfl), hp1_7]
        refine sim_ord_index (.v (.slice (some ⟨g, o, none⟩) n cp)) n 21 i 1 0 (by kernel_rfl) (by omega) (by omega) rfl hR9 (at_of hp1_9) (fun hR10 => ?_)
        refine sim_ord [] hR10 (by kernel_rfl) trivial (fun ρ11 w11 hm11 hR11 => ?_)
        have hp1_11 : ρ11 1 = (g, o + i * 21) := by rw [hm11.at_ 1 (by kernel_rfl), hp1_9]
        refine sim_ord_call (T := []) (w0 := w) 13 [.agg (x.cells.map .v), .agg (y.cells.map .v), LI c] (by kernel_rfl) ?_
        refine (fits_any x y hx hyo c hc w11).mono ?_
        rw [hf]
        rintro e w12 ⟨rfl, hb12⟩
        have hR12 := hR11.call hb12 (LB false)
        refine BackO.of _ hR12 rfl ?_
        refine sim_ord [] hR12 (by kernel_rfl) trivial (fun ρ13 w13 hm13 hR13 => ?_)
        have hp1_13 : ρ13 1 = (g, o + i * 21) := by rw [hm13.at_ 1 (by kernel_rfl), hp1_11]
        refine sim_ord_end (by kernel_rfl) ?_
        refine sim_run 1000 [⟨7, 1, LI (IntKind.i64.wrap ((i : Int) + 1)), LI ((i + 1 : Nat) : Int)⟩] hR13.rel (by kernel_rfl) ⟨eqi (wrap1 hlt hn), trivial⟩ (fun ρ14 w14 hm14 hR14 => ?_)
        have hmay : mayB x c y = false := by unfold mayB mateB; rw [hf]; simp
        exact sim_again (i + 1, s) (by kernel_rfl) (show n - (i + 1) < n - i by omega) (by kernel_rfl) (by kernel_rfl) (by kernel_rfl) (((((hag6.tr (hm7.agN 1 (by kernel_rfl))).tr (hm9.agN 1 (by kernel_rfl))).tr (hm11.agN 1 (by kernel_rfl))).tr (hm13.agN 1 (by kernel_rfl))).tr (hm14.agN 1 (by kernel_rfl))) hR14 (by kernel_rfl) (by kernel_rfl) ⟨hlt, by rw [htk, hmay, Bool.or_false]; exact hs⟩
      | true =>
        refine sim_draw [] (by kernel_rfl) (by kernel_rfl) hR6 (fun hO => ?_)
        refine sim_ord [] hO (by kernel_rfl) trivial (fun ρ7 w7 hm7 hR7 => ?_)
        have hp1_7 : ρ7 1 = (g, o + i * 21) := by rw [hm7.at_ 1 (by kernel_rfl), hn6]
        refine sim_ord_index (.v (.slice (some ⟨g, o, none⟩) n cp)) n 21 i 1 0 (by kernel_rfl) (by omega) (by omega) rfl hR7 (at_of hp1_7) (fun hR8 => ?_)
        refine sim_ord [⟨8, 7, LB (y.id == x.id), LB false⟩] hR8 (by kernel_rfl) ⟨eqb hid, trivial⟩ (fun ρ9 w9 hm9 hR9 => ?_)
        have hp1_9 : ρ9 1 = (g, o + i * 21) := by rw [hm9.at_ 1 (by kernel_rfl), hp1_7]
        refine sim_ord_index (.v (.slice (some ⟨g, o, none⟩) n cp)) n 21 i 1 0 (by kernel_rfl) (by omega) (by omega) rfl hR9 (at_of hp1_9) (fun hR10 => ?_)
        refine sim_ord [] hR10 (by kernel_rfl) trivial (fun ρ11 w11 hm11 hR11 => ?_)
        have hp1_11 : ρ11 1 = (g, o + i * 21) := by rw [hm11.at_ 1 (by kernel_rfl), hp1_9]
        refine sim_ord_call (T := []) (w0 := w) 13 [.agg (x.cells.map .v), .agg (y.cells.map .v), LI c] (by kernel_rfl) ?_
        refine (fits_any x y hx hyo c hc w11).mono ?_
        rw [hf]
        rintro e w12 ⟨rfl, hb12⟩
        have hR12 := hR11.call hb12 (LB true)
        refine BackO.of _ hR12 rfl ?_
        refine sim_ord [] hR12 (by kernel_rfl) trivial (fun ρ13 w13 hm13 hR13 => ?_)
        have hp1_13 : ρ13 1 = (g, o + i * 21) := by rw [hm13.at_ 1 (by kernel_rfl), hp1_11]
        refine sim_ord_end (by kernel_rfl) ?_
        have hmay : mayB x c y = true := by unfold mayB mateB; rw [hf, hid]; rfl
        have hbt : b = true := by rw [hany, List.any_eq_true]; exact ⟨y, hyl, hmay⟩
        obtain ⟨ho1, ho2⟩ := hone y hyl hmay
        refine sim_run 1000 [] hR13.rel (by kernel_rfl) trivial (fun ρ14 w14 hm14 hR14 => ?_)
        have hp1_14 : ρ14 1 = (g, o + i * 21) := by rw [hm14.at_ 1 (by kernel_rfl), hp1_13]
        refine sim_call 18 [.v (.slice (some ⟨g, o, none⟩) n cp), LI m] (by kernel_rfl) ?_
        refine (one_any (some ⟨g, o, none⟩) n cp w.heap.size l m w14 (h.belowN hR14.toBelow (Nat.le_refl _)) hR14.toBelow.size hn).mono ?_
        rw [ho1]
        generalize (oneM l m).1 = t at *
        rintro e w15 ⟨rfl, hb15⟩
        have hR15 := hR14.below hb15
        refine Back.of (.tup [.agg (t.cells.map .v), LB true]) hR15 rfl ?_
        refine sim_run 1000 [⟨11, 1, LB (!b), LB false⟩] hR15 (by kernel_rfl) ⟨eqb (by rw [hbt]; rfl), trivial⟩ (fun ρ16 w16 hm16 hR16 => ?_)
        have hp1_16 : ρ16 1 = (g, o + i * 21) := by rw [hm16.at_ 1 (by kernel_rfl), hp1_14]
        refine sim_loop (ι := Nat × Bool) (T := []) (w0 := w) (0, false) [1, 2, 3, 6, 7, 8, 9, 10, 11, 12] (fun s => [(13, LB s.2), (14, LI s.1)]) (fun _ => [⟨x.cells.map .v, true⟩, ⟨y.cells.map .v, false⟩, ⟨t.cells.map .v, true⟩]) (fun s _ => s.1 ≤ n ∧ s.2 = (l.take s.1).any (bestB x c m y)) (fun s => n - s.1) (by kernel_rfl) (by kernel_rfl) (hR16.cast (by kernel_rfl)) ⟨Nat.zero_le _, rfl⟩ ?_
        rintro ⟨k, s2⟩ d2 v4 hV4 ⟨hk, hs2⟩
        simp only at hk hs2
        by_cases hlk : k < n
        · have hqk := hlk
          cases s2 with
          | true =>
            obtain ⟨z, hz⟩ : ∃ z, l[k]? = some z := ⟨_, List.getElem?_eq_getElem (by omega)⟩
            have hqt := any_take (p := bestB x c m y) hz
            refine sim_run 1000 [⟨15, 3, LB (decide ((k : Int) < (n : Int))), LB true⟩, ⟨16, 1, LI (IntKind.i64.wrap ((k : Int) + 1)), LI ((k + 1 : Nat) : Int)⟩] hV4 (by kernel_rfl) ⟨eqb (by simp; omega), eqi (wrap1 hlk hn), trivial⟩ (fun ρ17 w17 hm17 hR17 => ?_)
            exact sim_again (k + 1, true) (by kernel_rfl) (show n - (k + 1) < n - k by omega) (by kernel_rfl) (by kernel_rfl) (by kernel_rfl) (hm17.agN 3 (by kernel_rfl)) hR17 (by kernel_rfl) (by kernel_rfl) ⟨hlk, by rw [hqt, ← hs2]; rfl⟩
          | false =>
            refine sim_run 1000 [⟨15, 3, LB (decide ((k : Int) < (n : Int))), LB true⟩] hV4 (by kernel_rfl) ⟨eqb (by simp; omega), trivial⟩ (fun ρ18 w18 hm18 hR18 => ?_)
            have hp1_18 : ρ18 1 = (g, o + i * 21) := by rw [hm18.at_ 1 (by kernel_rfl), hp1_16]
            refine sim_view k 3 (by kernel_rfl) hlk h (Nat.le_refl _) hR18 (by kernel_rfl) (fun g' o' z σ hA' hz ha hnz hS => ?_)
            obtain ⟨rfl, rfl⟩ : g = g' ∧ o = o' := by injection hA' with e; injection e with e1 e2; exact ⟨e1, e2⟩
            have hzo := hok z (List.mem_of_getElem? hz)
            have hqt := any_take (p := bestB x c m y) hz
            have hagz : Agree 3 ρ16 σ := (hm18.agN 3 (by kernel_rfl)).tr ha
            have hy1z : σ 1 = (g, o + i * 21) := by rw [ha 1 (by omega), hp1_18]
            cases q1 : z.id == m with
            | true =>
              cases q2 : fitsB x z c with
              | true =>
                cases q3 : decide (farM x.term.amount z.term.amount ≤ farM x.term.amount y.term.amount) with
                | true =>
                  cases q4 : decide (farM x.term.amount z.term.amount < farM x.term.amount y.term.amount) with
                  | true =>
                    refine sim_draw [] (by kernel_rfl) (by kernel_rfl) hS (fun hO => ?_)
                    refine sim_ord [] hO (by kernel_rfl) trivial (fun ρ19 w19 hm19 hR19 => ?_)
                    have hp1_19 : ρ19 1 = (g, o + i * 21) := by rw [hm19.at_ 1 (by kernel_rfl), hy1z]
                    have hp3_19 : ρ19 3 = (g, o + k * 21) := by rw [hm19.at_ 3 (by kernel_rfl), hnz]
                    refine sim_ord_index (.v (.slice (some ⟨g, o, none⟩) n cp)) n 21 k 3 0 (by kernel_rfl) (by omega) (by omega) rfl hR19 (at_of hp3_19) (fun hR20 => ?_)
                    refine sim_ord [⟨17, 8, LB (z.id == m), LB true⟩] hR20 (by kernel_rfl) ⟨eqb q1, trivial⟩ (fun ρ21 w21 hm21 hR21 => ?_)
                    have hp1_21 : ρ21 1 = (g, o + i * 21) := by rw [hm21.at_ 1 (by kernel_rfl), hp1_19]
                    have hp3_21 : ρ21 3 = (g, o + k * 21) := by rw [hm21.at_ 3 (by kernel_rfl), hp3_19]
                    refine sim_ord_index (.v (.slice (some ⟨g, o, none⟩) n cp)) n 21 k 3 0 (by kernel_rfl) (by omega) (by omega) rfl hR21 (at_of hp3_21) (fun hR22 => ?_)
                    refine sim_ord [] hR22 (by kernel_rfl) trivial (fun ρ23 w23 hm23 hR23 => ?_)
                    have hp1_23 : ρ23 1 = (g, o + i * 21) := by rw [hm23.at_ 1 (by kernel_rfl), hp1_21]
                    have hp3_23 : ρ23 3 = (g, o + k * 21) := by rw [hm23.at_ 3 (by kernel_rfl), hp3_21]
                    refine sim_ord_call (T := []) (w0 := w) 13 [.agg (x.cells.map .v), .agg (z.cells.map .v), LI c] (by kernel_rfl) ?_
                    refine (fits_any x z hx hzo c hc w23).mono ?_
                    rw [q2]
                    rintro e w24 ⟨rfl, hb24⟩
                    have hR24 := hR23.call hb24 (LB true)
                    refine BackO.of _ hR24 rfl ?_
                    refine sim_ord [] hR24 (by kernel_rfl) trivial (fun ρ25 w25 hm25 hR25 => ?_)
                    have hp1_25 : ρ25 1 = (g, o + i * 21) := by rw [hm25.at_ 1 (by kernel_rfl), hp1_23]
                    have hp3_25 : ρ25 3 = (g, o + k * 21) := by rw [hm25.at_ 3 (by kernel_rfl), hp3_23]
                    refine sim_ord_index (.v (.slice (some ⟨g, o, none⟩) n cp)) n 21 k 3 0 (by kernel_rfl) (by omega) (by omega) rfl hR25 (at_of hp3_25) (fun hR26 => ?_)
                    refine sim_ord [] hR26 (by kernel_rfl) trivial (fun ρ27 w27 hm27 hR27 => ?_)
                    have hp1_27 : ρ27 1 = (g, o + i * 21) := by rw [hm27.at_ 1 (by kernel_rfl), hp1_25]
                    have hp3_27 : ρ27 3 = (g, o + k * 21) := by rw [hm27.at_ 3 (by kernel_rfl), hp3_25]
                    refine sim_ord_index (.v (.slice (some ⟨g, o, none⟩) n cp)) n 21 i 1 0 (by kernel_rfl) (by omega) (by omega) rfl hR27 (at_of hp1_27) (fun hR28 => ?_)
                    refine sim_ord [] hR28 (by kernel_rfl) trivial (fun ρ29 w29 hm29 hR29 => ?_)
                    have hp1_29 : ρ29 1 = (g, o + i * 21) := by rw [hm29.at_ 1 (by kernel_rfl), hp1_27]
                    have hp3_29 : ρ29 3 = (g, o + k * 21) := by rw [hm29.at_ 3 (by kernel_rfl), hp3_27]
                    refine sim_ord_call (T := []) (w0 := w) 14 [.agg (x.cells.map .v), .agg (z.cells.map .v)] (by kernel_rfl) ?_
                    refine (far2_any x z hx hzo w29).mono ?_
                    rintro e w30 ⟨rfl, hb30⟩
                    have hR30 := hR29.call hb30 (LI (farM x.term.amount z.term.amount))
                    refine BackO.of _ hR30 rfl ?_
                    refine sim_ord [] hR30 (by kernel_rfl) trivial (fun ρ31 w31 hm31 hR31 => ?_)
                    have hp1_31 : ρ31 1 = (g, o + i * 21) := by rw [hm31.at_ 1 (by kernel_rfl), hp1_29]
                    have hp3_31 : ρ31 3 = (g, o + k * 21) := by rw [hm31.at_ 3 (by kernel_rfl), hp3_29]
                    refine sim_ord_call (T := []) (w0 := w) 14 [.agg (x.cells.map .v), .agg (y.cells.map .v)] (by kernel_rfl) ?_
                    refine (far2_any x y hx hyo w31).mono ?_
                    rintro e w32 ⟨rfl, hb32⟩
                    have hR32 := hR31.call hb32 (LI (farM x.term.amount y.term.amount))
                    refine BackO.of _ hR32 rfl ?_
                    refine sim_ord [⟨17, 31, LB (decide (farM x.term.amount z.term.amount ≤ farM x.term.amount y.term.amount)), LB true⟩] hR32 (by kernel_rfl) ⟨eqb q3, trivial⟩ (fun ρ33 w33 hm33 hR33 => ?_)
                    have hp1_33 : ρ33 1 = (g, o + i * 21) := by rw [hm33.at_ 1 (by kernel_rfl), hp1_31]
                    have hp3_33 : ρ33 3 = (g, o + k * 21) := by rw [hm33.at_ 3 (by kernel_rfl), hp3_31]
                    refine sim_ord_index (.v (.slice (some ⟨g, o, none⟩) n cp)) n 21 k 3 0 (by kernel_rfl) (by omega) (by omega) rfl hR33 (at_of hp3_33) (fun hR34 => ?_)
                    refine sim_ord [] hR34 (by kernel_rfl) trivial (fun ρ35 w35 hm35 hR35 => ?_)
                    have hp1_35 : ρ35 1 = (g, o + i * 21) := by rw [hm35.at_ 1 (by kernel_rfl), hp1_33]
                    have hp3_35 : ρ35 3 = (g, o + k * 21) := by rw [hm35.at_ 3 (by kernel_rfl), hp3_33]
                    refine sim_ord_index (.v (.slice (some ⟨g, o, none⟩) n cp)) n 21 i 1 0 (by kernel_rfl) (by omega) (by omega) rfl hR35 (at_of hp1_35) (fun hR36 => ?_)
                    refine sim_ord [] hR36 (by kernel_rfl) trivial (fun ρ37 w37 hm37 hR37 => ?_)
                    have hp1_37 : ρ37 1 = (g, o + i * 21) := by rw [hm37.at_ 1 (by kernel_rfl), hp1_35]
                    have hp3_37 : ρ37 3 = (g, o + k * 21) := by rw [hm37.at_ 3 (by kernel_rfl), hp3_35]
                    refine sim_ord_call (T := []) (w0 := w) 14 [.agg (x.cells.map .v), .agg (z.cells.map .v)] (by kernel_rfl) ?_
                    refine (far2_any x z hx hzo w37).mono ?_
                    rintro e w38 ⟨rfl, hb38⟩
                    have hR38 := hR37.call hb38 (LI (farM x.term.amount z.term.amount))
                    refine BackO.of _ hR38 rfl ?_
                    refine sim_ord [] hR38 (by kernel_rfl) trivial (fun ρ39 w39 hm39 hR39 => ?_)
                    have hp1_39 : ρ39 1 = (g, o + i * 21) := by rw [hm39.at_ 1 (by kernel_rfl), hp1_37]
                    have hp3_39 : ρ39 3 = (g, o + k * 21) := by rw [hm39.at_ 3 (by kernel_rfl), hp3_37]
                    refine sim_ord_call (T := []) (w0 := w) 14 [.agg (x.cells.map .v), .agg (y.cells.map .v)] (by kernel_rfl) ?_
                    refine (far2_any x y hx hyo w39).mono ?_
                    rintro e w40 ⟨rfl, hb40⟩
                    have hR40 := hR39.call hb40 (LI (farM x.term.amount y.term.amount))
                    refine BackO.of _ hR40 rfl ?_
                    refine sim_ord [⟨17, 46, LB (decide (farM x.term.amount z.term.amount < farM x.term.amount y.term.amount)), LB true⟩] hR40 (by kernel_rfl) ⟨eqb q4, trivial⟩ (fun ρ41 w41 hm41 hR41 => ?_)
                    have hp1_41 : ρ41 1 = (g, o + i * 21) := by rw [hm41.at_ 1 (by kernel_rfl), hp1_39]
                    have hp3_41 : ρ41 3 = (g, o + k * 21) := by rw [hm41.at_ 3 (by kernel_rfl), hp3_39]
                    refine sim_ord_end (by kernel_rfl) ?_
                    refine sim_run 1000 [⟨16, 1, LI (IntKind.i64.wrap ((k : Int) + 1)), LI ((k + 1 : Nat) : Int)⟩] hR41.rel (by kernel_rfl) ⟨eqi (wrap1 hlk hn), trivial⟩ (fun ρ42 w42 hm42 hR42 => ?_)
                    exact sim_again (k + 1, true) (by kernel_rfl) (show n - (k + 1) < n - k by omega) (by kernel_rfl) (by kernel_rfl) (by kernel_rfl) (((((((((((((hagz.tr (hm19.agN 3 (by kernel_rfl))).tr (hm21.agN 3 (by kernel_rfl))).tr (hm23.agN 3 (by kernel_rfl))).tr (hm25.agN 3 (by kernel_rfl))).tr (hm27.agN 3 (by kernel_rfl))).tr (hm29.agN 3 (by kernel_rfl))).tr (hm31.agN 3 (by kernel_rfl))).tr (hm33.agN 3 (by kernel_rfl))).tr (hm35.agN 3 (by kernel_rfl))).tr (hm37.agN 3 (by kernel_rfl))).tr (hm39.agN 3 (by kernel_rfl))).tr (hm41.agN 3 (by kernel_rfl))).tr (hm42.agN 3 (by kernel_rfl))) hR42 (by kernel_rfl) (by kernel_rfl) ⟨hlk, by rw [hqt, ← hs2]; unfold bestB; rw [q1, q2, q3, q4]; rfl⟩
                  | false =>
                    cases q5 : decide (m ≤ y.id) with
                    | true =>
                      refine sim_draw [] (by kernel_rfl) (by kernel_rfl) hS (fun hO => ?_)
                      refine sim_ord [] hO (by kernel_rfl) trivial (fun ρ19 w19 hm19 hR19 => ?_)
                      have hp1_19 : ρ19 1 = (g, o + i * 21) := by rw [hm19.at_ 1 (by kernel_rfl), hy1z]
                      have hp3_19 : ρ19 3 = (g, o + k * 21) := by rw [hm19.at_ 3 (by kernel_rfl), hnz]
                      refine sim_ord_index (.v (.slice (some ⟨g, o, none⟩) n cp)) n 21 k 3 0 (by kernel_rfl) (by omega) (by omega) rfl hR19 (at_of hp3_19) (fun hR20 => ?_)
                      refine sim_ord [⟨17, 8, LB (z.id == m), LB true⟩] hR20 (by kernel_rfl) ⟨eqb q1, trivial⟩ (fun ρ21 w21 hm21 hR21 => ?_)
                      have hp1_21 : ρ21 1 = (g, o + i * 21) := by rw [hm21.at_ 1 (by kernel_rfl), hp1_19]
                      have hp3_21 : ρ21 3 = (g, o + k * 21) := by rw [hm21.at_ 3 (by kernel_rfl), hp3_19]
                      refine sim_ord_index (.v (.slice (some ⟨g, o, none⟩) n cp)) n 21 k 3 0 (by kernel_rfl) (by omega) (by omega) rfl hR21 (at_of hp3_21) (fun hR22 => ?_)
                      refine sim_ord [] hR22 (by kernel_rfl) trivial (fun ρ23 w23 hm23 hR23 => ?_)
                      have hp1_23 : ρ23 1 = (g, o + i * 21) := by rw [hm23.at_ 1 (by kernel_rfl), hp1_21]
                      have hp3_23 : ρ23 3 = (g, o + k * 21) := by rw [hm23.at_ 3 (by kernel_rfl), hp3_21]
                      refine sim_ord_call (T := []) (w0 := w) 13 [.agg (x.cells.map .v), .agg (z.cells.map .v), LI c] (by kernel_rfl) ?_
                      refine (fits_any x z hx hzo c hc w23).mono ?_
                      rw [q2]
                      rintro e w24 ⟨rfl, hb24⟩
                      have hR24 := hR23.call hb24 (LB true)
                      refine BackO.of _ hR24 rfl ?_
                      refine sim_ord [] hR24 (by kernel_rfl) trivial (fun ρ25 w25 hm25 hR25 => ?_)
                      have hp1_25 : ρ25 1 = (g, o + i * 21) := by rw [hm25.at_ 1 (by kernel_rfl), hp1_23]
                      have hp3_25 : ρ25 3 = (g, o + k * 21) := by rw [hm25.at_ 3 (by kernel_rfl), hp3_23]
                      refine sim_ord_index (.v (.slice (some ⟨g, o, none⟩) n cp)) n 21 k 3 0 (by kernel_rfl) (by omega) (by omega) rfl hR25 (at_of hp3_25) (fun hR26 => ?_)
                      refine sim_ord [] hR26 (by kernel_rfl) trivial (fun ρ27 w27 hm27 hR27 => ?_)
                      have hp1_27 : ρ27 1 = (g, o + i * 21) := by rw [hm27.at_ 1 (by kernel_rfl), hp1_25]
                      have hp3_27 : ρ27 3 = (g, o + k * 21) := by rw [hm27.at_ 3 (by kernel_rfl), hp3_25]
                      refine sim_ord_index (.v (.slice (some ⟨g, o, none⟩) n cp)) n 21 i 1 0 (by kernel_rfl) (by omega) (by omega) rfl hR27 (at_of hp1_27) (fun hR28 => ?_)
                      refine sim_ord [] hR28 (by kernel_rfl) trivial (fun ρ29 w29 hm29 hR29 => ?_)
                      have hp1_29 : ρ29 1 = (g, o + i * 21) := by rw [hm29.at_ 1 (by kernel_rfl), hp1_27]
                      have hp3_29 : ρ29 3 = (g, o + k * 21) := by rw [hm29.at_ 3 (by kernel_rfl), hp3_27]
                      refine sim_ord_call (T := []) (w0 := w) 14 [.agg (x.cells.map .v), .agg (z.cells.map .v)] (by kernel_rfl) ?_
                      refine (far2_any x z hx hzo w29).mono ?_
                      rintro e w30 ⟨rfl, hb30⟩
                      have hR30 := hR29.call hb30 (LI (farM x.term.amount z.term.amount))
                      refine BackO.of _ hR30 rfl ?_
                      refine sim_ord [] hR30 (by kernel_rfl) trivial (fun ρ31 w31 hm31 hR31 => ?_)
                      have hp1_31 : ρ31 1 = (g, o + i * 21) := by rw [hm31.at_ 1 (by kernel_rfl), hp1_29]
                      have hp3_31 : ρ31 3 = (g, o + k * 21) := by rw [hm31.at_ 3 (by kernel_rfl), hp3_29]
                      refine sim_ord_call (T := []) (w0 := w) 14 [.agg (x.cells.map .v), .agg (y.cells.map .v)] (by kernel_rfl) ?_
                      refine (far2_any x y hx hyo w31).mono ?_
                      rintro e w32 ⟨rfl, hb32⟩
                      have hR32 := hR31.call hb32 (LI (farM x.term.amount y.term.amount))
                      refine BackO.of _ hR32 rfl ?_
                      refine sim_ord [⟨17, 31, LB (decide (farM x.term.amount z.term.amount ≤ farM x.term.amount y.term.amount)), LB true⟩] hR32 (by kernel_rfl) ⟨eqb q3, trivial⟩ (fun ρ33 w33 hm33 hR33 => ?_)
                      have hp1_33 : ρ33 1 = (g, o + i * 21) := by rw [hm33.at_ 1 (by kernel_rfl), hp1_31]
                      have hp3_33 : ρ33 3 = (g, o + k * 21) := by rw [hm33.at_ 3 (by kernel_rfl), hp3_31]
                      refine sim_ord_index (.v (.slice (some ⟨g, o, none⟩) n cp)) n 21 k 3 0 (by kernel_rfl) (by omega) (by omega) rfl hR33 (at_of hp3_33) (fun hR34 => ?_)
                      refine sim_ord [] hR34 (by kernel_rfl) trivial (fun ρ35 w35 hm35 hR35 => ?_)
                      have hp1_35 : ρ35 1 = (g, o + i * 21) := by rw [hm35.at_ 1 (by kernel_rfl), hp1_33]
                      have hp3_35 : ρ35 3 = (g, o + k * 21) := by rw [hm35.at_ 3 (by kernel_rfl), hp3_33]
                      refine sim_ord_index (.v (.slice (some ⟨g, o, none⟩) n cp)) n 21 i 1 0 (by kernel_rfl) (by omega) (by omega) rfl hR35 (at_of hp1_35) (fun hR36 => ?_)
                      refine sim_ord [] hR36 (by kernel_rfl) trivial (fun ρ37 w37 hm37 hR37 => ?_)
                      have hp1_37 : ρ37 1 = (g, o + i * 21) := by rw [hm37.at_ 1 (by kernel_rfl), hp1_35]
                      have hp3_37 : ρ37 3 = (g, o + k * 21) := by rw [hm37.at_ 3 (by kernel_rfl), hp3_35]
                      refine sim_ord_call (T := []) (w0 := w) 14 [.agg (x.cells.map .v), .agg (z.cells.map .v)] (by kernel_rfl) ?_
                      refine (far2_any x z hx hzo w37).mono ?_
                      rintro e w38 ⟨rfl, hb38⟩
                      have hR38 := hR37.call hb38 (LI (farM x.term.amount z.term.amount))
                      refine BackO.of _ hR38 rfl ?_
                      refine sim_ord [] hR38 (by kernel_rfl) trivial (fun ρ39 w39 hm39 hR39 => ?_)
                      have hp1_39 : ρ39 1 = (g, o + i * 21) := by rw [hm39.at_ 1 (by kernel_rfl), hp1_37]
                      have hp3_39 : ρ39 3 = (g, o + k * 21) := by rw [hm39.at_ 3 (by kernel_rfl), hp3_37]
                      refine sim_ord_call (T := []) (w0 := w) 14 [.agg (x.cells.map .v), .agg (y.cells.map .v)] (by kernel_rfl) ?_
                      refine (far2_any x y hx hyo w39).mono ?_
                      rintro e w40 ⟨rfl, hb40⟩
                      have hR40 := hR39.call hb40 (LI (farM x.term.amount y.term.amount))
                      refine BackO.of _ hR40 rfl ?_
                      refine sim_ord [⟨17, 46, LB (decide (farM x.term.amount z.term.amount < farM x.term.amount y.term.amount)), LB false⟩] hR40 (by kernel_rfl) ⟨eqb q4, trivial⟩ (fun ρ41 w41 hm41 hR41 => ?_)
                      have hp1_41 : ρ41 1 = (g, o + i * 21) := by rw [hm41.at_ 1 (by kernel_rfl), hp1_39]
                      have hp3_41 : ρ41 3 = (g, o + k * 21) := by rw [hm41.at_ 3 (by kernel_rfl), hp3_39]
                      refine sim_ord_index (.v (.slice (some ⟨g, o, none⟩) n cp)) n 21 i 1 0 (by kernel_rfl) (by omega) (by omega) rfl hR41 (at_of hp1_41) (fun hR42 => ?_)
                      refine sim_ord [⟨17, 54, LB (decide (m ≤ y.id)), LB true⟩] hR42 (by kernel_rfl) ⟨eqb q5, trivial⟩ (fun ρ43 w43 hm43 hR43 => ?_)
                      have hp1_43 : ρ43 1 = (g, o + i * 21) := by rw [hm43.at_ 1 (by kernel_rfl), hp1_41]
                      have hp3_43 : ρ43 3 = (g, o + k * 21) := by rw [hm43.at_ 3 (by kernel_rfl), hp3_41]
                      refine sim_ord_end (by kernel_rfl) ?_
                      refine sim_run 1000 [⟨16, 1, LI (IntKind.i64.wrap ((k : Int) + 1)), LI ((k + 1 : Nat) : Int)⟩] hR43.rel (by kernel_rfl) ⟨eqi (wrap1 hlk hn), trivial⟩ (fun ρ44 w44 hm44 hR44 => ?_)
                      exact sim_again (k + 1, true) (by kernel_rfl) (show n - (k + 1) < n - k by omega) (by kernel_rfl) (by kernel_rfl) (by kernel_rfl) ((((((((((((((hagz.tr (hm19.agN 3 (by kernel_rfl))).tr (hm21.agN 3 (by kernel_rfl))).tr (hm23.agN 3 (by kernel_rfl))).tr (hm25.agN 3 (by kernel_rfl))).tr (hm27.agN 3 (by kernel_rfl))).tr (hm29.agN 3 (by kernel_rfl))).tr (hm31.agN 3 (by kernel_rfl))).tr (hm33.agN 3 (by kernel_rfl))).tr (hm35.agN 3 (by kernel_rfl))).tr (hm37.agN 3 (by kernel_rfl))).tr (hm39.agN 3 (by kernel_rfl))).tr (hm41.agN 3 (by kernel_rfl))).tr (hm43.agN 3 (by kernel_rfl))).tr (hm44.agN 3 (by kernel_rfl))) hR44 (by kernel_rfl) (by kernel_rfl) ⟨hlk, by rw [hqt, ← hs2]; unfold bestB; rw [q1, q2, q3, q4, q5]; rfl⟩
                    | false =>
                      refine sim_draw [] (by kernel_rfl) (by kernel_rfl) hS (fun hO => ?_)
                      refine sim_ord [] hO (by kernel_rfl) trivial (fun ρ19 w19 hm19 hR19 => ?_)
                      have hp1_19 : ρ19 1 = (g, o + i * 21) := by rw [hm19.at_ 1 (by kernel_rfl), hy1z]
                      have hp3_19 : ρ19 3 = (g, o + k * 21) := by rw [hm19.at_ 3 (by kernel_rfl), hnz]
                      refine sim_ord_index (.v (.slice (some ⟨g, o, none⟩) n cp)) n 21 k 3 0 (by kernel_rfl) (by omega) (by omega) rfl hR19 (at_of hp3_19) (fun hR20 => ?_)
                      refine sim_ord [⟨17, 8, LB (z.id == m), LB true⟩] hR20 (by kernel_rfl) ⟨eqb q1, trivial⟩ (fun ρ21 w21 hm21 hR21 => ?_)
                      have hp1_21 : ρ21 1 = (g, o + i * 21) := by rw [hm21.at_ 1 (by kernel_rfl), hp1_19]
                      have hp3_21 : ρ21 3 = (g, o + k * 21) := by rw [hm21.at_ 3 (by kernel_rfl), hp3_19]
                      refine sim_ord_index (.v (.slice (some ⟨g, o, none⟩) n cp)) n 21 k 3 0 (by kernel_rfl) (by omega) (by omega) rfl hR21 (at_of hp3_21) (fun hR22 => ?_)
                      refine sim_ord [] hR22 (by kernel_rfl) trivial (fun ρ23 w23 hm23 hR23 => ?_)
                      have hp1_23 : ρ23 1 = (g, o + i * 21) := by rw [hm23.at_ 1 (by kernel_rfl), hp1_21]
                      have hp3_23 : ρ23 3 = (g, o + k * 21) := by rw [hm23.at_ 3 (by kernel_rfl), hp3_21]
                      refine sim_ord_call (T := []) (w0 := w) 13 [.agg (x.cells.map .v), .agg (z.cells.map .v), LI c] (by kernel_rfl) ?_
                      refine (fits_any x z hx hzo c hc w23).mono ?_
                      rw [q2]
                      rintro e w24 ⟨rfl, hb24⟩
                      have hR24 := hR23.call hb24 (LB true)
                      refine BackO.of _ hR24 rfl ?_
                      refine sim_ord [] hR24 (by kernel_rfl) trivial (fun ρ25 w25 hm25 hR25 => ?_)
                      have hp1_25 : ρ25 1 = (g, o + i * 21) := by rw [hm25.at_ 1 (by kernel_rfl), hp1_23]
                      have hp3_25 : ρ25 3 = (g, o + k * 21) := by rw [hm25.at_ 3 (by kernel_rfl), hp3_23]
                      refine sim_ord_index (.v (.slice (some ⟨g, o, none⟩) n cp)) n 21 k 3 0 (by kernel_rfl) (by omega) (by omega) rfl hR25 (at_of hp3_25) (fun hR26 => ?_)
                      refine sim_ord [] hR26 (by kernel_rfl) trivial (fun ρ27 w27 hm27 hR27 => ?_)
                      have hp1_27 : ρ27 1 = (g, o + i * 21) := by rw [hm27.at_ 1 (by kernel_rfl), hp1_25]
                      have hp3_27 : ρ27 3 = (g, o + k * 21) := by rw [hm27.at_ 3 (by kernel_rfl), hp3_25]
                      refine sim_ord_index (.v (.slice (some ⟨g, o, none⟩) n cp)) n 21 i 1 0 (by kernel_rfl) (by omega) (by omega) rfl hR27 (at_of hp1_27) (fun hR28 => ?_)
                      refine sim_ord [] hR28 (by kernel_rfl) trivial (fun ρ29 w29 hm29 hR29 => ?_)
                      have hp1_29 : ρ29 1 = (g, o + i * 21) := by rw [hm29.at_ 1 (by kernel_rfl), hp1_27]
                      have hp3_29 : ρ29 3 = (g, o + k * 21) := by rw [hm29.at_ 3 (by kernel_rfl), hp3_27]
                      refine sim_ord_call (T := []) (w0 := w) 14 [.agg (x.cells.map .v), .agg (z.cells.map .v)] (by kernel_rfl) ?_
                      refine (far2_any x z hx hzo w29).mono ?_
                      rintro e w30 ⟨rfl, hb30⟩
                      have hR30 := hR29.call hb30 (LI (farM x.term.amount z.term.amount))
                      refine BackO.of _ hR30 rfl ?_
                      refine sim_ord [] hR30 (by kernel_rfl) trivial (fun ρ31 w31 hm31 hR31 => ?_)
                      have hp1_31 : ρ31 1 = (g, o + i * 21) := by rw [hm31.at_ 1 (by kernel_rfl), hp1_29]
                      have hp3_31 : ρ31 3 = (g, o + k * 21) := by rw [hm31.at_ 3 (by kernel_rfl), hp3_29]
                      refine sim_ord_call (T := []) (w0 := w) 14 [.agg (x.cells.map .v), .agg (y.cells.map .v)] (by kernel_rfl) ?_
                      refine (far2_any x y hx hyo w31).mono ?_
                      rintro e w32 ⟨rfl, hb32⟩
                      have hR32 := hR31.call hb32 (LI (farM x.term.amount y.term.amount))
                      refine BackO.of _ hR32 rfl ?_
                      refine sim_ord [⟨17, 31, LB (decide (farM x.term.amount z.term.amount ≤ farM x.term.amount y.term.amount)), LB true⟩] hR32 (by kernel_rfl) ⟨eqb q3, trivial⟩ (fun ρ33 w33 hm33 hR33 => ?_)
                      have hp1_33 : ρ33 1 = (g, o + i * 21) := by rw [hm33.at_ 1 (by kernel_rfl), hp1_31]
                      have hp3_33 : ρ33 3 = (g, o + k * 21) := by rw [hm33.at_ 3 (by kernel_rfl), hp3_31]
                      refine sim_ord_index (.v (.slice (some ⟨g, o, none⟩) n cp)) n 21 k 3 0 (by kernel_rfl) (by omega) (by omega) rfl hR33 (at_of hp3_33) (fun hR34 => ?_)
                      refine sim_ord [] hR34 (by kernel_rfl) trivial (fun ρ35 w35 hm35 hR35 => ?_)
                      have hp1_35 : ρ35 1 = (g, o + i * 21) := by rw [hm35.at_ 1 (by kernel_rfl), hp1_33]
                      have hp3_35 : ρ35 3 = (g, o + k * 21) := by rw [hm35.at_ 3 (by kernel_rfl), hp3_33]
                      refine sim_ord_index (.v (.slice (some ⟨g, o, none⟩) n cp)) n 21 i 1 0 (by kernel_rfl) (by omega) (by omega) rfl hR35 (at_of hp1_35) (fun hR36 => ?_)
                      refine sim_ord [] hR36 (by kernel_rfl) trivial (fun ρ37 w37 hm37 hR37 => ?_)
                      have hp1_37 : ρ37 1 = (g, o + i * 21) := by rw [hm37.at_ 1 (by kernel_rfl), hp1_35]
                      have hp3_37 : ρ37 3 = (g, o + k * 21) := by rw [hm37.at_ 3 (by kernel_rfl), hp3_35]
                      refine sim_ord_call (T := []) (w0 := w) 14 [.agg (x.cells.map .v), .agg (z.cells.map .v)] (by kernel_rfl) ?_
                      refine (far2_any x z hx hzo w37).mono ?_
                      rintro e w38 ⟨rfl, hb38⟩
                      have hR38 := hR37.call hb38 (LI (farM x.term.amount z.term.amount))
                      refine BackO.of _ hR38 rfl ?_
                      refine sim_ord [] hR38 (by kernel_rfl) trivial (fun ρ39 w39 hm39 hR39 => ?_)
                      have hp1_39 : ρ39 1 = (g, o + i * 21) := by rw [hm39.at_ 1 (by kernel_rfl), hp1_37]
                      have hp3_39 : ρ39 3 = (g, o + k * 21) := by rw [hm39.at_ 3 (by kernel_rfl), hp3_37]
                      refine sim_ord_call (T := []) (w0 := w) 14 [.agg (x.cells.map .v), .agg (y.cells.map .v)] (by kernel_rfl) ?_
                      refine (far2_any x y hx hyo w39).mono ?_
                      rintro e w40 ⟨rfl, hb40⟩
                      have hR40 := hR39.call hb40 (LI (farM x.term.amount y.term.amount))
                      refine BackO.of _ hR40 rfl ?_
                      refine sim_ord [⟨17, 46, LB (decide (farM x.term.amount z.term.amount < farM x.term.amount y.term.amount)), LB false⟩] hR40 (by kernel_rfl) ⟨eqb q4, trivial⟩ (fun ρ41 w41 hm41 hR41 => ?_)
                      have hp1_41 : ρ41 1 = (g, o + i * 21) := by rw [hm41.at_ 1 (by kernel_rfl), hp1_39]
                      have hp3_41 : ρ41 3 = (g, o + k * 21) := by rw [hm41.at_ 3 (by kernel_rfl), hp3_39]
                      refine sim_ord_index (.v (.slice (some ⟨g, o, none⟩) n cp)) n 21 i 1 0 (by kernel_rfl) (by omega) (by omega) rfl hR41 (at_of hp1_41) (fun hR42 => ?_)
                      refine sim_ord [⟨17, 54, LB (decide (m ≤ y.id)), LB false⟩] hR42 (by kernel_rfl) ⟨eqb q5, trivial⟩ (fun ρ43 w43 hm43 hR43 => ?_)
                      have hp1_43 : ρ43 1 = (g, o + i * 21) := by rw [hm43.at_ 1 (by kernel_rfl), hp1_41]
                      have hp3_43 : ρ43 3 = (g, o + k * 21) := by rw [hm43.at_ 3 (by kernel_rfl), hp3_41]
                      refine sim_ord_end (by kernel_rfl) ?_
                      refine sim_run 1000 [⟨16, 1, LI (IntKind.i64.wrap ((k : Int) + 1)), LI ((k + 1 : Nat) : Int)⟩] hR43.rel (by kernel_rfl) ⟨eqi (wrap1 hlk hn), trivial⟩ (fun ρ44 w44 hm44 hR44 => ?_)
                      exact sim_again (k + 1, false) (by kernel_rfl) (show n - (k + 1) < n - k by omega) (by kernel_rfl) (by kernel_rfl) (by kernel_rfl) ((((((((((((((hagz.tr (hm19.agN 3 (by kernel_rfl))).tr (hm21.agN 3 (by kernel_rfl))).tr (hm23.agN 3 (by kernel_rfl))).tr (hm25.agN 3 (by kernel_rfl))).tr (hm27.agN 3 (by kernel_rfl))).tr (hm29.agN 3 (by kernel_rfl))).tr (hm31.agN 3 (by kernel_rfl))).tr (hm33.agN 3 (by kernel_rfl))).tr (hm35.agN 3 (by kernel_rfl))).tr (hm37.agN 3 (by kernel_rfl))).tr (hm39.agN 3 (by kernel_rfl))).tr (hm41.agN 3 (by kernel_rfl))).tr (hm43.agN 3 (by kernel_rfl))).tr (hm44.agN 3 (by kernel_rfl))) hR44 (by kernel_rfl) (by kernel_rfl) ⟨hlk, by rw [hqt, ← hs2]; unfold bestB; rw [q1, q2, q3, q4, q5]; rfl⟩
                | false =>
                  refine sim_draw [] (by kernel_rfl) (by kernel_rfl) hS (fun hO => ?_)
                  refine sim_ord [] hO (by kernel_rfl) trivial (fun ρ19 w19 hm19 hR19 => ?_)
                  have hp1_19 : ρ19 1 = (g, o + i * 21) := by rw [hm19.at_ 1 (by kernel_rfl), hy1z]
                  have hp3_19 : ρ19 3 = (g, o + k * 21) := by rw [hm19.at_ 3 (by kernel_rfl), hnz]
                  refine sim_ord_index (.v (.slice (some ⟨g, o, none⟩) n cp)) n 21 k 3 0 (by kernel_rfl) (by omega) (by omega) rfl hR19 (at_of hp3_19) (fun hR20 => ?_)
                  refine sim_ord [⟨17, 8, LB (z.id == m), LB true⟩] hR20 (by kernel_rfl) ⟨eqb q1, trivial⟩ (fun ρ21 w21 hm21 hR21 => ?_)
                  have hp1_21 : ρ21 1 = (g, o + i * 21) := by rw [hm21.at_ 1 (by kernel_rfl), hp1_19]
                  have hp3_21 : ρ21 3 = (g, o + k * 21) := by rw [hm21.at_ 3 (by kernel_rfl), hp3_19]
                  refine sim_ord_index (.v (.slice (some ⟨g, o, none⟩) n cp)) n 21 k 3 0 (by kernel_rfl) (by omega) (by omega) rfl hR21 (at_of hp3_21) (fun hR22 => ?_)
                  refine sim_ord [] hR22 (by kernel_rfl) trivial (fun ρ23 w23 hm23 hR23 => ?_)
                  have hp1_23 : ρ23 1 = (g, o + i * 21) := by rw [hm23.at_ 1 (by kernel_rfl), hp1_21]
                  have hp3_23 : ρ23 3 = (g, o + k * 21) := by rw [hm23.at_ 3 (by kernel_rfl), hp3_21]
                  refine sim_ord_call (T := []) (w0 := w) 13 [.agg (x.cells.map .v), .agg (z.cells.map .v), LI c] (by kernel_rfl) ?_
                  refine (fits_any x z hx hzo c hc w23).mono ?_
                  rw [q2]
                  rintro e w24 ⟨rfl, hb24⟩
                  have hR24 := hR23.call hb24 (LB true)
                  refine BackO.of _ hR24 rfl ?_
                  refine sim_ord [] hR24 (by kernel_rfl) trivial (fun ρ25 w25 hm25 hR25 => ?_)
                  have hp1_25 : ρ25 1 = (g, o + i * 21) := by rw [hm25.at_ 1 (by kernel_rfl), hp1_23]
                  have hp3_25 : ρ25 3 = (g, o + k * 21) := by rw [hm25.at_ 3 (by kernel_rfl), hp3_23]
                  refine sim_ord_index (.v (.slice (some ⟨g, o, none⟩) n cp)) n 21 k 3 0 (by kernel_rfl) (by omega) (by omega) rfl hR25 (at_of hp3_25) (fun hR26 => ?_)
                  refine sim_ord [] hR26 (by kernel_rfl) trivial (fun ρ27 w27 hm27 hR27 => ?_)
                  have hp1_27 : ρ27 1 = (g, o + i * 21) := by rw [hm27.at_ 1 (by kernel_rfl), hp1_25]
                  have hp3_27 : ρ27 3 = (g, o + k * 21) := by rw [hm27.at_ 3 (by kernel_rfl), hp3_25]
                  refine sim_ord_index (.v (.slice (some ⟨g, o, none⟩) n cp)) n 21 i 1 0 (by kernel_rfl) (by omega) (by omega) rfl hR27 (at_of hp1_27) (fun hR28 => ?_)
                  refine sim_ord [] hR28 (by kernel_rfl) trivial (fun ρ29 w29 hm29 hR29 => ?_)
                  have hp1_29 : ρ29 1 = (g, o + i * 21) := by rw [hm29.at_ 1 (by kernel_rfl), hp1_27]
                  have hp3_29 : ρ29 3 = (g, o + k * 21) := by rw [hm29.at_ 3 (by kernel_rfl), hp3_27]
                  refine sim_ord_call (T := []) (w0 := w) 14 [.agg (x.cells.map .v), .agg (z.cells.map .v)] (by kernel_rfl) ?_
                  refine (far2_any x z hx hzo w29).mono ?_
                  rintro e w30 ⟨rfl, hb30⟩
                  have hR30 := hR29.call hb30 (LI (farM x.term.amount z.term.amount))
                  refine BackO.of _ hR30 rfl ?_
                  refine sim_ord [] hR30 (by kernel_rfl) trivial (fun ρ31 w31 hm31 hR31 => ?_)
                  have hp1_31 : ρ31 1 = (g, o + i * 21) := by rw [hm31.at_ 1 (by kernel_rfl), hp1_29]
                  have hp3_31 : ρ31 3 = (g, o + k * 21) := by rw [hm31.at_ 3 (by kernel_rfl), hp3_29]
                  refine sim_ord_call (T := []) (w0 := w) 14 [.agg (x.cells.map .v), .agg (y.cells.map .v)] (by kernel_rfl) ?_
                  refine (far2_any x y hx hyo w31).mono ?_
                  rintro e w32 ⟨rfl, hb32⟩
                  have hR32 := hR31.call hb32 (LI (farM x.term.amount y.term.amount))
                  refine BackO.of _ hR32 rfl ?_
                  refine sim_ord [⟨17, 31, LB (decide (farM x.term.amount z.term.amount ≤ farM x.term.amount y.term.amount)), LB false⟩] hR32 (by kernel_rfl) ⟨eqb q3, trivial⟩ (fun ρ33 w33 hm33 hR33 => ?_)
                  have hp1_33 : ρ33 1 = (g, o + i * 21) := by rw [hm33.at_ 1 (by kernel_rfl), hp1_31]
                  have hp3_33 : ρ33 3 = (g, o + k * 21) := by rw [hm33.at_ 3 (by kernel_rfl), hp3_31]
                  refine sim_ord_end (by kernel_rfl) ?_
                  refine sim_run 1000 [⟨16, 1, LI (IntKind.i64.wrap ((k : Int) + 1)), LI ((k + 1 : Nat) : Int)⟩] hR33.rel (by kernel_rfl) ⟨eqi (wrap1 hlk hn), trivial⟩ (fun ρ34 w34 hm34 hR34 => ?_)
                  exact sim_again (k + 1, false) (by kernel_rfl) (show n - (k + 1) < n - k by omega) (by kernel_rfl) (by kernel_rfl) (by kernel_rfl) (((((((((hagz.tr (hm19.agN 3 (by kernel_rfl))).tr (hm21.agN 3 (by kernel_rfl))).tr (hm23.agN 3 (by kernel_rfl))).tr (hm25.agN 3 (by kernel_rfl))).tr (hm27.agN 3 (by kernel_rfl))).tr (hm29.agN 3 (by kernel_rfl))).tr (hm31.agN 3 (by kernel_rfl))).tr (hm33.agN 3 (by kernel_rfl))).tr (hm34.agN 3 (by kernel_rfl))) hR34 (by kernel_rfl) (by kernel_rfl) ⟨hlk, by rw [hqt, ← hs2]; unfold bestB; rw [q1, q2, q3]; rfl⟩
              | false =>
                refine sim_draw [] (by kernel_rfl) (by kernel_rfl) hS (fun hO => ?_)
                refine sim_ord [] hO (by kernel_rfl) trivial (fun ρ19 w19 hm19 hR19 => ?_)
                have hp1_19 : ρ19 1 = (g, o + i * 21) := by rw [hm19.at_ 1 (by kernel_rfl), hy1z]
                have hp3_19 : ρ19 3 = (g, o + k * 21) := by rw [hm19.at_ 3 (by kernel_rfl), hnz]
                refine sim_ord_index (.v (.slice (some ⟨g, o, none⟩) n cp)) n 21 k 3 0 (by kernel_rfl) (by omega) (by omega) rfl hR19 (at_of hp3_19) (fun hR20 => ?_)
                refine sim_ord [⟨17, 8, LB (z.id == m), LB true⟩] hR20 (by kernel_rfl) ⟨eqb q1, trivial⟩ (fun ρ21 w21 hm21 hR21 => ?_)
                have hp1_21 : ρ21 1 = (g, o + i * 21) := by rw [hm21.at_ 1 (by kernel_rfl), hp1_19]
                have hp3_21 : ρ21 3 = (g, o + k * 21) := by rw [hm21.at_ 3 (by kernel_rfl), hp3_19]
                refine sim_ord_index (.v (.slice (some ⟨g, o, none⟩) n cp)) n 21 k 3 0 (by kernel_rfl) (by omega) (by omega) rfl hR21 (at_of hp3_21) (fun hR22 => ?_)
                refine sim_ord [] hR22 (by kernel_rfl) trivial (fun ρ23 w23 hm23 hR23 => ?_)
                have hp1_23 : ρ23 1 = (g, o + i * 21) := by rw [hm23.at_ 1 (by kernel_rfl), hp1_21]
                have hp3_23 : ρ23 3 = (g, o + k * 21) := by rw [hm23.at_ 3 (by kernel_rfl), hp3_21]
                refine sim_ord_call (T := []) (w0 := w) 13 [.agg (x.cells.map .v), .agg (z.cells.map .v), LI c] (by kernel_rfl) ?_
                refine (fits_any x z hx hzo c hc w23).mono ?_
                rw [q2]
                rintro e w24 ⟨rfl, hb24⟩
                have hR24 := hR23.call hb24 (LB false)
                refine BackO.of _ hR24 rfl ?_
                refine sim_ord [] hR24 (by kernel_rfl) trivial (fun ρ25 w25 hm25 hR25 => ?_)
                have hp1_25 : ρ25 1 = (g, o + i * 21) := by rw [hm25.at_ 1 (by kernel_rfl), hp1_23]
                have hp3_25 : ρ25 3 = (g, o + k * 21) := by rw [hm25.at_ 3 (by kernel_rfl), hp3_23]
                refine sim_ord_end (by kernel_rfl) ?_
                refine sim_run 1000 [⟨16, 1, LI (IntKind.i64.wrap ((k : Int) + 1)), LI ((k + 1 : Nat) : Int)⟩] hR25.rel (by kernel_rfl) ⟨eqi (wrap1 hlk hn), trivial⟩ (fun ρ26 w26 hm26 hR26 => ?_)
                exact sim_again (k + 1, false) (by kernel_rfl) (show n - (k + 1) < n - k by omega) (by kernel_rfl) (by kernel_rfl) (by kernel_rfl) (((((hagz.tr (hm19.agN 3 (by kernel_rfl))).tr (hm21.agN 3 (by kernel_rfl))).tr (hm23.agN 3 (by kernel_rfl))).tr (hm25.agN 3 (by kernel_rfl))).tr (hm26.agN 3 (by kernel_rfl))) hR26 (by kernel_rfl) (by kernel_rfl) ⟨hlk, by rw [hqt, ← hs2]; unfold bestB; rw [q1, q2]; rfl⟩
            | false =>
              refine sim_draw [] (by kernel_rfl) (by kernel_rfl) hS (fun hO => ?_)
              refine sim_ord [] hO (by kernel_rfl) trivial (fun ρ19 w19 hm19 hR19 => ?_)
              have hp1_19 : ρ19 1 = (g, o + i * 21) := by rw [hm19.at_ 1 (by kernel_rfl), hy1z]
              have hp3_19 : ρ19 3 = (g, o + k * 21) := by rw [hm19.at_ 3 (by kernel_rfl), hnz]
              refine sim_ord_index (.v (.slice (some ⟨g, o, none⟩) n cp)) n 21 k 3 0 (by kernel_rfl) (by omega) (by omega) rfl hR19 (at_of hp3_19) (fun hR20 => ?_)
              refine sim_ord [⟨17, 8, LB (z.id == m), LB false⟩] hR20 (by kernel_rfl) ⟨eqb q1, trivial⟩ (fun ρ21 w21 hm21 hR21 => ?_)
              have hp1_21 : ρ21 1 = (g, o + i * 21) := by rw [hm21.at_ 1 (by kernel_rfl), hp1_19]
              have hp3_21 : ρ21 3 = (g, o + k * 21) := by rw [hm21.at_ 3 (by kernel_rfl), hp3_19]
              refine sim_ord_end (by kernel_rfl) ?_
              refine sim_run 1000 [⟨16, 1, LI (IntKind.i64.wrap ((k : Int) + 1)), LI ((k + 1 : Nat) : Int)⟩] hR21.rel (by kernel_rfl) ⟨eqi (wrap1 hlk hn), trivial⟩ (fun ρ22 w22 hm22 hR22 => ?_)
              exact sim_again (k + 1, false) (by kernel_rfl) (show n - (k + 1) < n - k by omega) (by kernel_rfl) (by kernel_rfl) (by kernel_rfl) (((hagz.tr (hm19.agN 3 (by kernel_rfl))).tr (hm21.agN 3 (by kernel_rfl))).tr (hm22.agN 3 (by kernel_rfl))) hR22 (by kernel_rfl) (by kernel_rfl) ⟨hlk, by rw [hqt, ← hs2]; unfold bestB; rw [q1]; rfl⟩
        · have hst : s2 = true := by rw [hs2, List.take_of_length_le (by omega)]; exact hbest y hyl hmay
          subst hst
          refine sim_run 1000 [⟨15, 3, LB (decide ((k : Int) < (n : Int))), LB false⟩] hV4 (by kernel_rfl) ⟨eqb (by simp; omega), trivial⟩ (fun ρ17 w17 hm17 hR17 => ?_)
          refine sim_leave (by kernel_rfl) ?_
          refine sim_run 1000 [⟨18, 6, LB (t.id != m), LB false⟩, ⟨7, 1, LI (IntKind.i64.wrap ((i : Int) + 1)), LI ((i + 1 : Nat) : Int)⟩] hR17 (by kernel_rfl) ⟨eqb (by rw [ho2]; simp), eqi (wrap1 hlt hn), trivial⟩ (fun ρ18 w18 hm18 hR18 => ?_)
          exact sim_again (i + 1, true) (by kernel_rfl) (show n - (i + 1) < n - i by omega) (by kernel_rfl) (by kernel_rfl) (by kernel_rfl) ((((((((hag6.tr (hm7.agN 1 (by kernel_rfl))).tr (hm9.agN 1 (by kernel_rfl))).tr (hm11.agN 1 (by kernel_rfl))).tr (hm13.agN 1 (by kernel_rfl))).tr (hm14.agN 1 (by kernel_rfl))).tr (hm16.agN 1 (by kernel_rfl))).tr (hm17.agN 1 (by kernel_rfl))).tr (hm18.agN 1 (by kernel_rfl))) hR18 (by kernel_rfl) (by kernel_rfl) ⟨hlt, by rw [htk, hmay, Bool.or_true]⟩
  · refine sim_run 1000 [⟨6, 3, LB (decide ((i : Int) < (n : Int))), LB false⟩] hR4 (by kernel_rfl) ⟨eqb (by simp; omega), trivial⟩ (fun ρ5 w5 hm5 hR5 => ?_)
    refine sim_leave (by kernel_rfl) ?_
    refine sim_run 1000 [] hR5 (by kernel_rfl) trivial (fun ρ6 w6 hm6 hR6 => ?_)
    refine sim_call 12 [] (by kernel_rfl) ?_
    refine (alive_any w6).mono ?_
    rintro e w7 ⟨rfl, hb7⟩
    have hR7 := hR6.below hb7
    refine Back.of (LB true) hR7 rfl ?_
    rw [List.take_of_length_le (by omega), ← hany] at hs
    refine sim_run 1000 [⟨20, 4, LB (b == s), LB true⟩] hR7 (by kernel_rfl) ⟨eqb (by rw [hs]; simp), trivial⟩ (fun ρ8 w8 hm8 hR8 => ?_)
    exact sim_ret (LB true) hR8 (by kernel_rfl) (by kernel_rfl) ⟨rfl, hR8.toBelow⟩
end Go.Proofs.Ytodjhkmbgennaaa
