/-
  Law 15: MatchBoth.
-/
import Derived.Test.YtodjhkmbgennaaaMatchE
import Derived.Test.YtodjhkmbgennaaaSimK
namespace Go.Proofs.Ytodjhkmbgennaaa
open Go Go.RowKit
attribute [local irreducible] run goO leaveK someK nextK nextT nextOT nextOD loopBody loopRest loopK fillJ tmplOf tmplJ mergeT At AtO drawOk ordOf gateOf callC callO topOp topO idxOf appOf storeOf clearOf sliceOf calleeOf calleeO topQ idxQ newRowOf resL stepOp seek

/-! ### The plain law -/
theorem sne_symm (a b : ByteArray) : sne a b = sne b a := by unfold sne; rw [Bool.beq_comm]
theorem farI_symm (a b : Int) : farI a b = farI b a := by unfold farI; congr 1; omega
theorem bne_symm' (a b : Int) : (a != b) = (b != a) := by rw [bne_comm]
theorem bsD_symm (x y : In) (c : Int) : bsD x y c = bsD y x c := by
  unfold bsD
  rw [Bool.or_comm (x.state != 0), Bool.beq_comm (a := x.term.deliver), Bool.or_comm (sne x.term.party y.term.other), sne_symm x.term.asset, bne_symm' x.term.qty, sne_symm x.term.ccy, bne_symm' x.term.day, bne_symm' x.term.trade, farI_symm x.term.amount, sne_symm x.term.ref y.term.ref, Bool.and_assoc, Bool.and_comm (sne x.term.ref ⟨#[]⟩), ← Bool.and_assoc]
theorem differ_symm (x y : In) (c : Int) : differ x y c = differ y x c := by unfold differ; rw [bsD_symm]
theorem fitsB_symm (x y : In) (c : Int) : fitsB x y c = fitsB y x c := by unfold fitsB; rw [differ_symm]
theorem farM_symm (a b : Int) : farM a b = farM b a := by unfold farM; rw [farI_symm]
theorem farM_nat (a b : Int) : 0 ≤ farM a b := by
  have : 0 ≤ farI a b := Int.natCast_nonneg _
  unfold farM
  split <;> omega
theorem pickN_none : ∀ {ns : List ByteArray} {bs : List Bool}, bs.length ≤ ns.length → ((pickN ns bs).length = 0 ↔ ∀ b ∈ bs, b = false)
  | _, [], _ => by simp [pickN]
  | [], _ :: _, h => by simp at h
  | n :: ns, b :: bs, h => by
    have ih := pickN_none (ns := ns) (bs := bs) (by simpa using h)
    cases b with
    | true => simp [pickN]
    | false => simpa [pickN] using ih
theorem fitsB_iff (x y : In) (c : Int) : fitsB x y c = true ↔ ∀ b ∈ bsD x y c, b = false := by
  unfold fitsB differ
  rw [← pickN_none (ns := nmsD) (bs := bsD x y c) (Nat.le_refl _)]
  simp
theorem fitsB_self (x : In) (c : Int) : fitsB x x c = false := by
  cases h : fitsB x x c with
  | false => rfl
  | true =>
    have := (fitsB_iff x x c).1 h (x.term.deliver == x.term.deliver) (by simp [bsD])
    simp at this
theorem fitsB_mono (x y : In) (c m : Int) (hm : 0 ≤ m) (h : fitsB x y c = true) : fitsB x y (c + m) = true := by
  rw [fitsB_iff] at h ⊢
  simp only [bsD, List.mem_cons, List.not_mem_nil, or_false, forall_eq_or_imp, forall_eq] at h ⊢
  obtain ⟨h0, h1, h2, h3, h4, h5, h6, h7, h8, h9⟩ := h
  refine ⟨h0, h1, h2, h3, h4, h5, h6, h7, ?_, h9⟩
  simp only [Bool.or_eq_false_iff, decide_eq_false_iff_not] at h8 ⊢
  omega

theorem pickN_le : ∀ (ns : List ByteArray) (bs : List Bool), (pickN ns bs).length ≤ ns.length
  | [], _ => by simp [pickN]
  | _ :: _, [] => by simp [pickN]
  | n :: ns, b :: bs => by
    have := pickN_le ns bs
    cases b <;> simp [pickN] <;> omega
theorem differ_le (x y : In) (c : Int) : (differ x y c).length ≤ 10 := pickN_le _ _

/-! ### The walk -/
set_option maxRecDepth 100000 in
theorem mb_alive {T : List Nat} {fn : Func} {Q : Exit → Act → World → Prop} {w0 w : World} {c : Cfg} {ρ : Nm} [hB : Body Try.prog Q fn fun e w' => e = .returned (.bool true) ∧ Below w0.heap.size w0 w'] (hR : Rel T w0 ρ c.rs w) (hT : T = []) (h1 : callC Try.prog c = some (12, []))
    (h2 : (run Try.prog [] 1000 (nextC c (LB true) c.rs)).2 = []) (h3 : atRet (run Try.prog [] 1000 (nextC c (LB true) c.rs)).1 = true) (h4 : resL Try.prog fn (run Try.prog [] 1000 (nextC c (LB true) c.rs)).1 = some (LB true)) : At Try.prog Q c ρ w := by
  subst hT
  refine sim_call 12 [] h1 ?_
  refine (alive_any w).mono ?_
  rintro e w2 ⟨rfl, hb2⟩
  refine Back.of (LB true) (hR.below hb2) rfl ?_
  refine sim_run 1000 [] (c := nextC c (LB true) c.rs) (T := []) (w0 := w0) (w := w2) (ρ := ρ) (hR.below hb2) h2 trivial (fun ρ3 w3 hm3 hR3 => ?_)
  exact sim_ret (LB true) hR3 h3 h4 ⟨rfl, hR3.toBelow⟩
set_option maxRecDepth 100000 in
theorem matchBoth_walk (w : World) (x : In) (hx : x.ok) (y : In) (hy : y.ok) (c : Int) (hc : Is64 c) (m : Int) (_ : Is64 m) : Calls Try.prog 3 #[x.val, y.val, .int .i64 c, .int .i64 m] w fun e w' => e = .returned (.bool true) ∧ Below w.heap.size w w' := by
  refine sim_enter Try.func3 ρ0 [.v x.val, .v y.val, LI c, LI m] [] (by kernel_rfl) rfl ?_
  have hR0 := Rel.start [] w ρ0
  cases t0 : decide (m < 0) with
  | true =>
    refine sim_run 1000 [⟨1, 1, LB (decide (m < 0)), LB true⟩] hR0 (by kernel_rfl) ⟨eqb t0, trivial⟩ (fun ρ1 w1 hm1 hR1 => ?_)
    exact mb_alive hR1 rfl (by kernel_rfl) (by kernel_rfl) (by kernel_rfl) (by kernel_rfl)
  | false =>
  cases t1 : decide (m > 1099511627776) with
  | true =>
    refine sim_run 1000 [⟨1, 1, LB (decide (m < 0)), LB false⟩, ⟨1, 4, LB (decide (m > 1099511627776)), LB true⟩] hR0 (by kernel_rfl) ⟨eqb t0, eqb t1, trivial⟩ (fun ρ1 w1 hm1 hR1 => ?_)
    exact mb_alive hR1 rfl (by kernel_rfl) (by kernel_rfl) (by kernel_rfl) (by kernel_rfl)
  | false =>
  cases t2 : decide (c > 1099511627776) with
  | true =>
    refine sim_run 1000 [⟨1, 1, LB (decide (m < 0)), LB false⟩, ⟨1, 4, LB (decide (m > 1099511627776)), LB false⟩, ⟨1, 8, LB (decide (c > 1099511627776)), LB true⟩] hR0 (by kernel_rfl) ⟨eqb t0, eqb t1, eqb t2, trivial⟩ (fun ρ1 w1 hm1 hR1 => ?_)
    exact mb_alive hR1 rfl (by kernel_rfl) (by kernel_rfl) (by kernel_rfl) (by kernel_rfl)
  | false =>
  cases t3 : decide (c < -1099511627776) with
  | true =>
    refine sim_run 1000 [⟨1, 1, LB (decide (m < 0)), LB false⟩, ⟨1, 4, LB (decide (m > 1099511627776)), LB false⟩, ⟨1, 8, LB (decide (c > 1099511627776)), LB false⟩, ⟨1, 12, LB (decide (c < -1099511627776)), LB true⟩] hR0 (by kernel_rfl) ⟨eqb t0, eqb t1, eqb t2, eqb t3, trivial⟩ (fun ρ1 w1 hm1 hR1 => ?_)
    exact mb_alive hR1 rfl (by kernel_rfl) (by kernel_rfl) (by kernel_rfl) (by kernel_rfl)
  | false =>
  simp only [decide_eq_false_iff_not] at t0 t1 t2 t3
  have hcm : Is64 (c + m) := by unfold Is64; omega
  refine sim_run 1000 [⟨1, 1, LB (decide (m < 0)), LB false⟩, ⟨1, 4, LB (decide (m > 1099511627776)), LB false⟩, ⟨1, 8, LB (decide (c > 1099511627776)), LB false⟩, ⟨1, 12, LB (decide (c < -1099511627776)), LB false⟩] hR0 (by kernel_rfl) ⟨eqb (by simp; omega), eqb (by simp; omega), eqb (by simp; omega), eqb (by simp; omega), trivial⟩ (fun ρ1 w1 hm1 hR1 => ?_)
  cases ha : fitsB x y c with
  | true =>
    refine sim_draw [] (by kernel_rfl) (by kernel_rfl) hR1 (fun hO => ?_)
    refine sim_ord [] hO (by kernel_rfl) trivial (fun ρ2 w2 hm2 hR2 => ?_)
    refine sim_ord_call (T := []) (w0 := w) 13 [.agg (x.cells.map .v), .agg (y.cells.map .v), LI c] (by kernel_rfl) ?_
    refine (fits_any x y hx hy c hc w2).mono ?_
    rw [ha]
    rintro e w3 ⟨rfl, hb3⟩
    have hR3 := hR2.call hb3 (LB true)
    refine BackO.of _ hR3 rfl ?_
    refine sim_ord [] hR3 (by kernel_rfl) trivial (fun ρ4 w4 hm4 hR4 => ?_)
    refine sim_ord_call (T := []) (w0 := w) 13 [.agg (y.cells.map .v), .agg (x.cells.map .v), LI c] (by kernel_rfl) ?_
    refine (fits_any y x hy hx c hc w4).mono ?_
    rw [fitsB_symm y x, ha]
    rintro e w5 ⟨rfl, hb5⟩
    have hR5 := hR4.call hb5 (LB true)
    refine BackO.of _ hR5 rfl ?_
    refine sim_ord [] hR5 (by kernel_rfl) trivial (fun ρ6 w6 hm6 hR6 => ?_)
    refine sim_ord_end (by kernel_rfl) ?_
    refine sim_run 1000 [] hR6.rel (by kernel_rfl) trivial (fun ρ7 w7 hm7 hR7 => ?_)
    refine sim_draw [] (by kernel_rfl) (by kernel_rfl) hR7 (fun hO => ?_)
    refine sim_ord [] hO (by kernel_rfl) trivial (fun ρ8 w8 hm8 hR8 => ?_)
    refine sim_ord_call (T := []) (w0 := w) 12 [] (by kernel_rfl) ?_
    refine (alive_any w8).mono ?_
    rintro e w9 ⟨rfl, hb9⟩
    have hR9 := hR8.call hb9 (LB true)
    refine BackO.of _ hR9 rfl ?_
    refine sim_ord [⟨4, 14, LI (IntKind.i64.wrap (c + m)), LI (c + m)⟩] hR9 (by kernel_rfl) ⟨eqi (IntWalk.i64_in _ ⟨hcm.1, hcm.2⟩), trivial⟩ (fun ρ10 w10 hm10 hR10 => ?_)
    refine sim_ord_call (T := []) (w0 := w) 13 [.agg (x.cells.map .v), .agg (y.cells.map .v), LI (c + m)] (by kernel_rfl) ?_
    refine (fits_any x y hx hy (c + m) hcm w10).mono ?_
    rw [fitsB_mono x y c m (by omega) ha]
    rintro e w11 ⟨rfl, hb11⟩
    have hR11 := hR10.call hb11 (LB true)
    refine BackO.of _ hR11 rfl ?_
    refine sim_ord [] hR11 (by kernel_rfl) trivial (fun ρ12 w12 hm12 hR12 => ?_)
    refine sim_ord_call (T := []) (w0 := w) 13 [.agg (x.cells.map .v), .agg (x.cells.map .v), LI c] (by kernel_rfl) ?_
    refine (fits_any x x hx hx c hc w12).mono ?_
    rw [fitsB_self]
    rintro e w13 ⟨rfl, hb13⟩
    have hR13 := hR12.call hb13 (LB false)
    refine BackO.of _ hR13 rfl ?_
    refine sim_ord [] hR13 (by kernel_rfl) trivial (fun ρ14 w14 hm14 hR14 => ?_)
    refine sim_ord_call (T := []) (w0 := w) 14 [.agg (x.cells.map .v), .agg (y.cells.map .v)] (by kernel_rfl) ?_
    refine (far2_any x y hx hy w14).mono ?_
    rintro e w15 ⟨rfl, hb15⟩
    have hR15 := hR14.call hb15 (LI (farM x.term.amount y.term.amount))
    refine BackO.of _ hR15 rfl ?_
    refine sim_ord [] hR15 (by kernel_rfl) trivial (fun ρ16 w16 hm16 hR16 => ?_)
    refine sim_ord_call (T := []) (w0 := w) 14 [.agg (y.cells.map .v), .agg (x.cells.map .v)] (by kernel_rfl) ?_
    refine (far2_any y x hy hx w16).mono ?_
    rw [farM_symm y.term.amount]
    rintro e w17 ⟨rfl, hb17⟩
    have hR17 := hR16.call hb17 (LI (farM x.term.amount y.term.amount))
    refine BackO.of _ hR17 rfl ?_
    refine sim_ord [⟨4, 32, LB (farM x.term.amount y.term.amount == farM x.term.amount y.term.amount), LB true⟩] hR17 (by kernel_rfl) ⟨eqb (by simp), trivial⟩ (fun ρ18 w18 hm18 hR18 => ?_)
    refine sim_ord_call (T := []) (w0 := w) 14 [.agg (x.cells.map .v), .agg (y.cells.map .v)] (by kernel_rfl) ?_
    refine (far2_any x y hx hy w18).mono ?_
    rintro e w19 ⟨rfl, hb19⟩
    have hR19 := hR18.call hb19 (LI (farM x.term.amount y.term.amount))
    refine BackO.of _ hR19 rfl ?_
    refine sim_ord [⟨4, 38, LB (decide (farM x.term.amount y.term.amount ≥ 0)), LB true⟩] hR19 (by kernel_rfl) ⟨eqb (decide_eq_true (farM_nat _ _)), trivial⟩ (fun ρ20 w20 hm20 hR20 => ?_)
    refine sim_ord_call (T := []) (w0 := w) 16 [.agg (x.cells.map .v), .agg (y.cells.map .v), LI c] (by kernel_rfl) ?_
    refine (differ_any x y hx hy c hc w20).mono ?_
    rintro e w21 ⟨Aa, ca, rfl, hoa, hb21⟩
    have hR21 := hR20.call hb21 (.v (.slice Aa (differ x y c).length ca))
    refine BackO.of _ hR21 rfl ?_
    have oa := Own.start hR20.rel hoa
    refine sim_ord [] hR21 (by kernel_rfl) trivial (fun ρ22 w22 hm22 hR22 => ?_)
    have oa22 := oa.moved hm22
    refine sim_ord_call (T := []) (w0 := w) 16 [.agg (y.cells.map .v), .agg (x.cells.map .v), LI c] (by kernel_rfl) ?_
    refine (differ_any y x hy hx c hc w22).mono ?_
    rw [differ_symm y x]
    rintro e w23 ⟨Ab, cb, rfl, hob, hb23⟩
    have hR23 := hR22.call hb23 (.v (.slice Ab (differ x y c).length cb))
    refine BackO.of _ hR23 rfl ?_
    have ob := Own.start hR22.rel hob
    have oab := oa22.below hb23
    refine sim_ord [] hR23 (by kernel_rfl) trivial (fun ρ24 w24 hm24 hR24 => ?_)
    have hra := (oab.moved hm24).reads
    have hrb := (ob.moved hm24).reads
    refine sim_ord_call (T := []) (w0 := w) 15 [.v (.slice Aa (differ x y c).length ca), .v (.slice Ab (differ x y c).length cb)] (by kernel_rfl) ?_
    refine (sameTexts_any Aa Ab (differ x y c).length ca cb w24.heap.size w24.heap.size (differ x y c) w24 hra hrb (Nat.le_refl _) (Nat.le_refl _) (Nat.le_trans (differ_le x y c) (by decide))).mono ?_
    rintro e w25 ⟨rfl, hb25⟩
    have hR25 := hR24.call hb25 (LB true)
    refine BackO.of _ hR25 rfl ?_
    refine sim_ord [] hR25 (by kernel_rfl) trivial (fun ρ26 w26 hm26 hR26 => ?_)
    refine sim_ord_end (by kernel_rfl) ?_
    refine sim_run 1000 [] hR26.rel (by kernel_rfl) trivial (fun ρ27 w27 hm27 hR27 => ?_)
    exact sim_ret (LB true) hR27 (by kernel_rfl) (by kernel_rfl) ⟨rfl, hR27.toBelow⟩
  | false =>
    refine sim_draw [] (by kernel_rfl) (by kernel_rfl) hR1 (fun hO => ?_)
    refine sim_ord [] hO (by kernel_rfl) trivial (fun ρ2 w2 hm2 hR2 => ?_)
    refine sim_ord_call (T := []) (w0 := w) 13 [.agg (x.cells.map .v), .agg (y.cells.map .v), LI c] (by kernel_rfl) ?_
    refine (fits_any x y hx hy c hc w2).mono ?_
    rw [ha]
    rintro e w3 ⟨rfl, hb3⟩
    have hR3 := hR2.call hb3 (LB false)
    refine BackO.of _ hR3 rfl ?_
    refine sim_ord [] hR3 (by kernel_rfl) trivial (fun ρ4 w4 hm4 hR4 => ?_)
    refine sim_ord_call (T := []) (w0 := w) 13 [.agg (y.cells.map .v), .agg (x.cells.map .v), LI c] (by kernel_rfl) ?_
    refine (fits_any y x hy hx c hc w4).mono ?_
    rw [fitsB_symm y x, ha]
    rintro e w5 ⟨rfl, hb5⟩
    have hR5 := hR4.call hb5 (LB false)
    refine BackO.of _ hR5 rfl ?_
    refine sim_ord [] hR5 (by kernel_rfl) trivial (fun ρ6 w6 hm6 hR6 => ?_)
    refine sim_ord_end (by kernel_rfl) ?_
    refine sim_run 1000 [] hR6.rel (by kernel_rfl) trivial (fun ρ7 w7 hm7 hR7 => ?_)
    refine sim_draw [] (by kernel_rfl) (by kernel_rfl) hR7 (fun hO => ?_)
    refine sim_ord [] hO (by kernel_rfl) trivial (fun ρ8 w8 hm8 hR8 => ?_)
    refine sim_ord_call (T := []) (w0 := w) 12 [] (by kernel_rfl) ?_
    refine (alive_any w8).mono ?_
    rintro e w9 ⟨rfl, hb9⟩
    have hR9 := hR8.call hb9 (LB true)
    refine BackO.of _ hR9 rfl ?_
    refine sim_ord [] hR9 (by kernel_rfl) trivial (fun ρ10 w10 hm10 hR10 => ?_)
    refine sim_ord_call (T := []) (w0 := w) 13 [.agg (x.cells.map .v), .agg (x.cells.map .v), LI c] (by kernel_rfl) ?_
    refine (fits_any x x hx hx c hc w10).mono ?_
    rw [fitsB_self]
    rintro e w11 ⟨rfl, hb11⟩
    have hR11 := hR10.call hb11 (LB false)
    refine BackO.of _ hR11 rfl ?_
    refine sim_ord [] hR11 (by kernel_rfl) trivial (fun ρ12 w12 hm12 hR12 => ?_)
    refine sim_ord_call (T := []) (w0 := w) 14 [.agg (x.cells.map .v), .agg (y.cells.map .v)] (by kernel_rfl) ?_
    refine (far2_any x y hx hy w12).mono ?_
    rintro e w13 ⟨rfl, hb13⟩
    have hR13 := hR12.call hb13 (LI (farM x.term.amount y.term.amount))
    refine BackO.of _ hR13 rfl ?_
    refine sim_ord [] hR13 (by kernel_rfl) trivial (fun ρ14 w14 hm14 hR14 => ?_)
    refine sim_ord_call (T := []) (w0 := w) 14 [.agg (y.cells.map .v), .agg (x.cells.map .v)] (by kernel_rfl) ?_
    refine (far2_any y x hy hx w14).mono ?_
    rw [farM_symm y.term.amount]
    rintro e w15 ⟨rfl, hb15⟩
    have hR15 := hR14.call hb15 (LI (farM x.term.amount y.term.amount))
    refine BackO.of _ hR15 rfl ?_
    refine sim_ord [⟨4, 32, LB (farM x.term.amount y.term.amount == farM x.term.amount y.term.amount), LB true⟩] hR15 (by kernel_rfl) ⟨eqb (by simp), trivial⟩ (fun ρ16 w16 hm16 hR16 => ?_)
    refine sim_ord_call (T := []) (w0 := w) 14 [.agg (x.cells.map .v), .agg (y.cells.map .v)] (by kernel_rfl) ?_
    refine (far2_any x y hx hy w16).mono ?_
    rintro e w17 ⟨rfl, hb17⟩
    have hR17 := hR16.call hb17 (LI (farM x.term.amount y.term.amount))
    refine BackO.of _ hR17 rfl ?_
    refine sim_ord [⟨4, 38, LB (decide (farM x.term.amount y.term.amount ≥ 0)), LB true⟩] hR17 (by kernel_rfl) ⟨eqb (decide_eq_true (farM_nat _ _)), trivial⟩ (fun ρ18 w18 hm18 hR18 => ?_)
    refine sim_ord_call (T := []) (w0 := w) 16 [.agg (x.cells.map .v), .agg (y.cells.map .v), LI c] (by kernel_rfl) ?_
    refine (differ_any x y hx hy c hc w18).mono ?_
    rintro e w19 ⟨Aa, ca, rfl, hoa, hb19⟩
    have hR19 := hR18.call hb19 (.v (.slice Aa (differ x y c).length ca))
    refine BackO.of _ hR19 rfl ?_
    have oa := Own.start hR18.rel hoa
    refine sim_ord [] hR19 (by kernel_rfl) trivial (fun ρ20 w20 hm20 hR20 => ?_)
    have oa20 := oa.moved hm20
    refine sim_ord_call (T := []) (w0 := w) 16 [.agg (y.cells.map .v), .agg (x.cells.map .v), LI c] (by kernel_rfl) ?_
    refine (differ_any y x hy hx c hc w20).mono ?_
    rw [differ_symm y x]
    rintro e w21 ⟨Ab, cb, rfl, hob, hb21⟩
    have hR21 := hR20.call hb21 (.v (.slice Ab (differ x y c).length cb))
    refine BackO.of _ hR21 rfl ?_
    have ob := Own.start hR20.rel hob
    have oab := oa20.below hb21
    refine sim_ord [] hR21 (by kernel_rfl) trivial (fun ρ22 w22 hm22 hR22 => ?_)
    have hra := (oab.moved hm22).reads
    have hrb := (ob.moved hm22).reads
    refine sim_ord_call (T := []) (w0 := w) 15 [.v (.slice Aa (differ x y c).length ca), .v (.slice Ab (differ x y c).length cb)] (by kernel_rfl) ?_
    refine (sameTexts_any Aa Ab (differ x y c).length ca cb w22.heap.size w22.heap.size (differ x y c) w22 hra hrb (Nat.le_refl _) (Nat.le_refl _) (Nat.le_trans (differ_le x y c) (by decide))).mono ?_
    rintro e w23 ⟨rfl, hb23⟩
    have hR23 := hR22.call hb23 (LB true)
    refine BackO.of _ hR23 rfl ?_
    refine sim_ord [] hR23 (by kernel_rfl) trivial (fun ρ24 w24 hm24 hR24 => ?_)
    refine sim_ord_end (by kernel_rfl) ?_
    refine sim_run 1000 [] hR24.rel (by kernel_rfl) trivial (fun ρ25 w25 hm25 hR25 => ?_)
    exact sim_ret (LB true) hR25 (by kernel_rfl) (by kernel_rfl) ⟨rfl, hR25.toBelow⟩
end Go.Proofs.Ytodjhkmbgennaaa
