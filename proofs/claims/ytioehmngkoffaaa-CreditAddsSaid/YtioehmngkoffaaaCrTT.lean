/-
  credit.wrong: whether a take cannot be.
  credit.Lines.Take: whose the loan is; what is pledged, together.
  credit.Lines.Take: the loan is put there.
  credit.Lines.Take: what is pledged is merged, and made its own.
  credit.Lines.Take: where all is well, from the map on.
  credit.Lines.Take: whether it is over.
  credit.Lines.Take.
-/
import Derived.Test.YtioehmngkoffaaaCrXZ
import Derived.Test.YtioehmngkoffaaaFnPl
import Derived.Test.YtioehmngkoffaaaDrawG
import Derived.Test.YtioehmngkoffaaaCrMg
import Derived.Test.YtioehmngkoffaaaCrOO
namespace Go.Proofs.Ytioehmngkoffaaa
section
open Go Go.RowKit
/-- whether an amount can be -/
def amtB (n : Int) : Bool := decide (1 ≤ n) && decide (n ≤ 1152921504606846976)
def wrongB (n : Int) (ps : List Pl) : Bool := !amtB n || ps.any fun x => !amtB x.qty
attribute [local irreducible] run goO leaveK someK nextK nextT nextOT nextOD loopBody loopRest loopK fillJ tmplOf tmplJ mergeT At AtO drawOk ordOf gateOf callC callO topOp topO idxOf appOf storeOf clearOf sliceOf calleeOf calleeO topQ idxQ newRowOf resL stepOp seek
set_option maxRecDepth 100000 in
set_option maxHeartbeats 4000000 in
theorem wrong1_any (s : ByteArray) (n : Int) (w : World) : Calls Try.prog 38 #[.agg #[.string s, .int .i64 n]] w fun e w' => e = .returned (.bool (!amtB n)) ∧ Below w.heap.size w w' := by
  refine sim_enter Try.func38 ρ0 [.agg [LS s, LI n]] [] (by kernel_rfl) rfl ?_
  have hR := Rel.start [] w ρ0
  unfold amtB
  by_cases h0 : 1 ≤ n
  · rw [decide_eq_true h0, Bool.true_and]
    refine sim_run 9 [] (hR.cast (by kernel_rfl)) (by kernel_rfl) trivial (fun ρ100 w100 hm100 hR100 => ?_)
    refine sim_into Try.func22 [LI n, LI 1, LI 1152921504606846976] (by kernel_rfl) (by kernel_rfl) ?_
    have hag101 := hR100.ag_ 1 (by kernel_rfl)
    refine sim_run 10 [] (hR100.cast (by kernel_rfl)) (by kernel_rfl) trivial (fun ρ102 w102 hm102 hR102 => ?_)
    have hag101 := hag101.moved (hm102.castL (by kernel_rfl))
    refine sim_know 10 (decide (n ≥ 1)) true (by kernel_rfl) (decide_eq_true (by omega)) ?_
    refine sim_run 6 [] (hR102.cast (by kernel_rfl)) (by kernel_rfl) trivial (fun ρ103 w103 hm103 hR103 => ?_)
    have hag101 := hag101.moved (hm103.castL (by kernel_rfl))
    refine sim_out 1 (LB (decide (n ≤ 1152921504606846976))) hR103 (by kernel_rfl) (by kernel_rfl) hag101.ag (by kernel_rfl) ?_
    refine sim_run 3 [] (hR103.cast (by kernel_rfl)) (by kernel_rfl) trivial (fun ρ104 w104 hm104 hR104 => ?_)
    have hag101 := hag101.moved (hm104.castL (by kernel_rfl))
    refine sim_ret (LB (!decide (n ≤ 1152921504606846976))) hR104 (by kernel_rfl) (by kernel_rfl) ?_
    exact ⟨rfl, hR104.toBelow⟩
    
  · rw [decide_eq_false h0, Bool.false_and]
    refine sim_run 9 [] (hR.cast (by kernel_rfl)) (by kernel_rfl) trivial (fun ρ200 w200 hm200 hR200 => ?_)
    refine sim_into Try.func22 [LI n, LI 1, LI 1152921504606846976] (by kernel_rfl) (by kernel_rfl) ?_
    have hag201 := hR200.ag_ 1 (by kernel_rfl)
    refine sim_run 10 [] (hR200.cast (by kernel_rfl)) (by kernel_rfl) trivial (fun ρ202 w202 hm202 hR202 => ?_)
    have hag201 := hag201.moved (hm202.castL (by kernel_rfl))
    refine sim_know 10 (decide (n ≥ 1)) false (by kernel_rfl) (decide_eq_false (by omega)) ?_
    refine sim_run 6 [] (hR202.cast (by kernel_rfl)) (by kernel_rfl) trivial (fun ρ203 w203 hm203 hR203 => ?_)
    have hag201 := hag201.moved (hm203.castL (by kernel_rfl))
    refine sim_out 1 (LB false) hR203 (by kernel_rfl) (by kernel_rfl) hag201.ag (by kernel_rfl) ?_
    refine sim_run 3 [] (hR203.cast (by kernel_rfl)) (by kernel_rfl) trivial (fun ρ204 w204 hm204 hR204 => ?_)
    have hag201 := hag201.moved (hm204.castL (by kernel_rfl))
    refine sim_ret (LB true) hR204 (by kernel_rfl) (by kernel_rfl) ?_
    exact ⟨rfl, hR204.toBelow⟩
    
set_option maxRecDepth 100000 in
set_option maxHeartbeats 4000000 in
theorem in_any (n l m : Int) (w : World) : Calls Try.prog 22 #[.int .i64 n, .int .i64 l, .int .i64 m] w fun e w' => e = .returned (.bool (decide (l ≤ n) && decide (n ≤ m))) ∧ Below w.heap.size w w' := by
  refine sim_enter Try.func22 ρ0 [LI n, LI l, LI m] [] (by kernel_rfl) rfl ?_
  have hR := Rel.start [] w ρ0
  by_cases h0 : l ≤ n
  · rw [decide_eq_true h0, Bool.true_and]
    refine sim_run 10 [] (hR.cast (by kernel_rfl)) (by kernel_rfl) trivial (fun ρ600 w600 hm600 hR600 => ?_)
    refine sim_know 10 (decide (n ≥ l)) true (by kernel_rfl) (decide_eq_true (by omega)) ?_
    refine sim_run 6 [] (hR600.cast (by kernel_rfl)) (by kernel_rfl) trivial (fun ρ601 w601 hm601 hR601 => ?_)
    refine sim_ret (LB (decide (n ≤ m))) hR601 (by kernel_rfl) (by kernel_rfl) ?_
    exact ⟨rfl, hR601.toBelow⟩
    
  · rw [decide_eq_false h0, Bool.false_and]
    refine sim_run 10 [] (hR.cast (by kernel_rfl)) (by kernel_rfl) trivial (fun ρ700 w700 hm700 hR700 => ?_)
    refine sim_know 10 (decide (n ≥ l)) false (by kernel_rfl) (decide_eq_false (by omega)) ?_
    refine sim_run 6 [] (hR700.cast (by kernel_rfl)) (by kernel_rfl) trivial (fun ρ701 w701 hm701 hR701 => ?_)
    refine sim_ret (LB false) hR701 (by kernel_rfl) (by kernel_rfl) ?_
    exact ⟨rfl, hR701.toBelow⟩
    
set_option maxRecDepth 100000 in
set_option maxHeartbeats 4000000 in
theorem wrong_any (a c : ByteArray) (m : Int) (A : Option Addr) (n cp B : Nat) (ps : List Pl) (w : World) (h : Reads w B 2 A n (plV ps)) (hl : ps.length = n) (hB : B ≤ w.heap.size) (hn : n ≤ 100000) :
    Calls Try.prog 23 #[.agg #[.string a, .string c, .int .i64 m, .slice A n cp]] w fun e w' => e = .returned (.bool (wrongB m ps)) ∧ Below w.heap.size w w' := by
  refine sim_enter Try.func23 ρ0 [.agg [LS a, LS c, LI m, .v (.slice A n cp)]] [] (by kernel_rfl) rfl ?_
  have hR := Rel.start [] w ρ0
  unfold wrongB
  by_cases h0 : 1 ≤ m ∧ m ≤ 1152921504606846976
  · have hz : amtB m = true := by unfold amtB; rw [decide_eq_true h0.1, decide_eq_true h0.2]; rfl
    rw [hz]
    have h1 := h0.1
    have h2 := h0.2
    have hin : (decide (1 ≤ m) && decide (m ≤ 1152921504606846976)) = true := hz
    refine sim_run 9 [] (hR.cast (by kernel_rfl)) (by kernel_rfl) trivial (fun ρ300 w300 hm300 hR300 => ?_)
    refine sim_call 22 [LI m, LI 1, LI 1152921504606846976] (by kernel_rfl) ?_
    refine Calls.mono (in_any _ _ _ _) ?_
    rintro e301 w301 ⟨rfl, hb301⟩
    have hR301 := hR300.below hb301
    refine Back.of (LB (decide (1 ≤ m) && decide (m ≤ 1152921504606846976))) hR301 rfl ?_
    refine sim_run 2 [] (hR301.cast (by kernel_rfl)) (by kernel_rfl) trivial (fun ρ302 w302 hm302 hR302 => ?_)
    refine sim_know 7 (!(decide (1 ≤ m) && decide (m ≤ 1152921504606846976))) false (by kernel_rfl) (by rw [hin]; rfl) ?_
    refine sim_run 2 [] (hR302.cast (by kernel_rfl)) (by kernel_rfl) trivial (fun ρ303 w303 hm303 hR303 => ?_)
    
    refine sim_call 37 [.v (.slice A n cp), .v (.func (.func 38) #[] #[])] (by kernel_rfl) ?_
    refine (containsFPl_any 38 ⟨⟨_, Try.func38, by kernel_rfl, by kernel_rfl⟩⟩ #[] (fun x => !amtB x.qty) A n cp B ps _ (h.belowW ((by assumption : Rel _ _ _ _ _)).toBelow hB) hl (Nat.le_trans hB ((by assumption : Rel _ _ _ _ _)).keeps.size) hn (fun x w1 _ hb1 => wrong1_any x.asset x.qty w1)).mono ?_
    rintro e5 w5 ⟨rfl, hb5⟩
    have hR5 := ((by assumption : Rel _ _ _ _ _)).below hb5
    refine Back.of (LB (ps.any fun x => !amtB x.qty)) hR5 rfl ?_
    refine sim_run 3 [] (hR5.cast (by kernel_rfl)) (by kernel_rfl) trivial (fun ρ800 w800 hm800 hR800 => ?_)
    refine sim_ret (LB (ps.any fun x => !amtB x.qty)) hR800 (by kernel_rfl) (by kernel_rfl) ?_
    exact ⟨rfl, hR800.toBelow⟩
    
  · have hz : amtB m = false := by
      unfold amtB
      rw [Bool.and_eq_false_iff, decide_eq_false_iff_not, decide_eq_false_iff_not]
      omega
    rw [hz]
    by_cases h1 : 1 ≤ m
    · have h2 : ¬ m ≤ 1152921504606846976 := fun h2 => h0 ⟨h1, h2⟩
      refine sim_run 9 [] (hR.cast (by kernel_rfl)) (by kernel_rfl) trivial (fun ρ400 w400 hm400 hR400 => ?_)
      refine sim_into Try.func22 [LI m, LI 1, LI 1152921504606846976] (by kernel_rfl) (by kernel_rfl) ?_
      have hag401 := hR400.ag_ 1 (by kernel_rfl)
      refine sim_run 10 [] (hR400.cast (by kernel_rfl)) (by kernel_rfl) trivial (fun ρ402 w402 hm402 hR402 => ?_)
      have hag401 := hag401.moved (hm402.castL (by kernel_rfl))
      refine sim_know 10 (decide (m ≥ 1)) true (by kernel_rfl) (decide_eq_true (by omega)) ?_
      refine sim_run 6 [] (hR402.cast (by kernel_rfl)) (by kernel_rfl) trivial (fun ρ403 w403 hm403 hR403 => ?_)
      have hag401 := hag401.moved (hm403.castL (by kernel_rfl))
      refine sim_out 1 (LB (decide (m ≤ 1152921504606846976))) hR403 (by kernel_rfl) (by kernel_rfl) hag401.ag (by kernel_rfl) ?_
      refine sim_run 2 [] (hR403.cast (by kernel_rfl)) (by kernel_rfl) trivial (fun ρ404 w404 hm404 hR404 => ?_)
      have hag401 := hag401.moved (hm404.castL (by kernel_rfl))
      refine sim_know 7 (!decide (m ≤ 1152921504606846976)) true (by kernel_rfl) (by rw [decide_eq_false h2]; rfl) ?_
      refine sim_run 6 [] (hR404.cast (by kernel_rfl)) (by kernel_rfl) trivial (fun ρ405 w405 hm405 hR405 => ?_)
      have hag401 := hag401.moved (hm405.castL (by kernel_rfl))
      refine sim_ret (LB true) hR405 (by kernel_rfl) (by kernel_rfl) ?_
      exact ⟨rfl, hR405.toBelow⟩
      
    · refine sim_run 9 [] (hR.cast (by kernel_rfl)) (by kernel_rfl) trivial (fun ρ500 w500 hm500 hR500 => ?_)
      refine sim_into Try.func22 [LI m, LI 1, LI 1152921504606846976] (by kernel_rfl) (by kernel_rfl) ?_
      have hag501 := hR500.ag_ 1 (by kernel_rfl)
      refine sim_run 10 [] (hR500.cast (by kernel_rfl)) (by kernel_rfl) trivial (fun ρ502 w502 hm502 hR502 => ?_)
      have hag501 := hag501.moved (hm502.castL (by kernel_rfl))
      refine sim_know 10 (decide (m ≥ 1)) false (by kernel_rfl) (decide_eq_false (by omega)) ?_
      refine sim_run 6 [] (hR502.cast (by kernel_rfl)) (by kernel_rfl) trivial (fun ρ503 w503 hm503 hR503 => ?_)
      have hag501 := hag501.moved (hm503.castL (by kernel_rfl))
      refine sim_out 1 (LB false) hR503 (by kernel_rfl) (by kernel_rfl) hag501.ag (by kernel_rfl) ?_
      refine sim_run 8 [] (hR503.cast (by kernel_rfl)) (by kernel_rfl) trivial (fun ρ504 w504 hm504 hR504 => ?_)
      have hag501 := hag501.moved (hm504.castL (by kernel_rfl))
      refine sim_ret (LB true) hR504 (by kernel_rfl) (by kernel_rfl) ?_
      exact ⟨rfl, hR504.toBelow⟩
      
end

section
open Go Go.RowKit
/-- a row that was handed in -/
abbrev RdS (A : Option Addr) (x : Nat) : Prop := ∃ a, A = some a ∧ a.block = x
theorem Reads.same {B sz n : Nat} {A : Option Addr} {xs : List Value} (w1 w2 : World) (S' : Nat → Prop) (h : Reads w1 B sz A n xs) (hlt : ∀ x, RdS A x → x < w1.heap.size) (hk : Kept S' w1 w2) (hn : ∀ x, RdS A x → ¬ S' x) : Reads w2 B sz A n xs := by
  refine ⟨h.1, fun h0 => ?_⟩
  obtain ⟨ad, e, hb, hc⟩ := h.2 h0
  refine ⟨ad, e, hb, fun j u hu => ?_⟩
  have e2 : (ad.add j).block = ad.block := by unfold Addr.add; split <;> rfl
  exact (World.cell?_of_block (a := ad.add j) (by rw [e2]; exact hk.block ad.block (hlt _ ⟨ad, e, rfl⟩) (hn _ ⟨ad, e, rfl⟩))).trans (hc j u hu)
attribute [local irreducible] run goO leaveK someK nextK nextT nextOT nextOD loopBody loopRest loopK fillJ tmplOf tmplJ mergeT At AtO drawOk ordOf gateOf callC callO topOp topO idxOf appOf storeOf clearOf sliceOf calleeOf calleeO topQ idxQ newRowOf resL stepOp seek
set_option maxRecDepth 100000 in
set_option maxHeartbeats 4000000 in
theorem take_5 {R : Ending → World → Prop} {T : List Nat} {ρ : Nm} {w0 w : World} {q : LnP} {ac cy pa xp xa xc : ByteArray} {am xn : Int} {Ab Ax : Option Addr} {nt ct nx cx Bt : Nat} {xs ps : List Pl} {had : Bool} (hR : Rel T w0 ρ [⟨[.v (.map q.m)], false⟩, ⟨[LS ac, LS cy, LI am, .v (.slice Ab nt ct)], true⟩, ⟨[LS ac, LS cy], true⟩, ⟨[LS xp, LS xa, LS xc, LI xn, .v (.slice Ax nx cx)], true⟩] w) (e0 : ρ 0 = (q.b, 0)) (hV : Sta q.has (LnV q) ρ [⟨[.v (.map q.m)], false⟩, ⟨[LS ac, LS cy, LI am, .v (.slice Ab nt ct)], true⟩, ⟨[LS ac, LS cy], true⟩, ⟨[LS xp, LS xa, LS xc, LI xn, .v (.slice Ax nx cx)], true⟩] w) (hxr : Own ρ [⟨[.v (.map q.m)], false⟩, ⟨[LS ac, LS cy, LI am, .v (.slice Ab nt ct)], true⟩, ⟨[LS ac, LS cy], true⟩, ⟨[LS xp, LS xa, LS xc, LI xn, .v (.slice Ax nx cx)], true⟩] w 0 49 2 (.slice Ax nx cx) nx (plV xs)) (hps : Sta (RdS Ab) (fun w => Reads w Bt 2 Ab nt (plV ps)) ρ [⟨[.v (.map q.m)], false⟩, ⟨[LS ac, LS cy, LI am, .v (.slice Ab nt ct)], true⟩, ⟨[LS ac, LS cy], true⟩, ⟨[LS xp, LS xa, LS xc, LI xn, .v (.slice Ax nx cx)], true⟩] w) (hBt : Bt ≤ w0.heap.size) (ham : IsI64 am) (hxn : IsI64 xn) (hnx : nx ≤ 100000) (hnt : nt ≤ 1000) (d : Nat → Value)
    (hret : ∀ (ρ' : Nm) (rs' : List Reg) (w' : World), had = true → xp ≠ pa → Rel T w0 ρ' rs' w' → Sta q.has (LnV q) ρ' rs' w' → R (.returned (.int .i64 22)) w')
    (hnext : ∀ (ρ' : Nm) (w' : World) (d' : Nat → Value) (Al : Option Addr) (cl : Nat), (had = true → xp = pa) → ρ' 0 = (q.b, 0) → Rel T w0 ρ' [⟨[.v (.map q.m)], false⟩, ⟨[LS ac, LS cy, LI am, .v (.slice Ab nt ct)], true⟩, ⟨[LS ac, LS cy], true⟩, ⟨[LS xp, LS xa, LS xc, LI xn, .v (.slice Ax nx cx)], true⟩, ⟨[LB (clampO (sumI [xn, am]))], true⟩] w' → Sta q.has (LnV q) ρ' [⟨[.v (.map q.m)], false⟩, ⟨[LS ac, LS cy, LI am, .v (.slice Ab nt ct)], true⟩, ⟨[LS ac, LS cy], true⟩, ⟨[LS xp, LS xa, LS xc, LI xn, .v (.slice Ax nx cx)], true⟩, ⟨[LB (clampO (sumI [xn, am]))], true⟩] w' → Own ρ' [⟨[.v (.map q.m)], false⟩, ⟨[LS ac, LS cy, LI am, .v (.slice Ab nt ct)], true⟩, ⟨[LS ac, LS cy], true⟩, ⟨[LS xp, LS xa, LS xc, LI xn, .v (.slice Ax nx cx)], true⟩, ⟨[LB (clampO (sumI [xn, am]))], true⟩] w' 0 49 2 (.slice Al (nx + nt) cl) (nx + nt) (plV (xs ++ ps)) → At Try.prog (bodyPost Try.prog Try.f11 R) ⟨regK Try.f11 10, fillJ (tmplJ Try.f11.ntmps 0 [(0, .ptr 0 0), (1, LS pa), (5, .ptr 1 0), (7, .ptr 2 0), (8, .ptr 3 0), (10, .ptr 4 0), (11, .v (.slice Al (nx + nt) cl)), (12, LI (clampV (sumI [xn, am])))]) d' 0, [⟨[.v (.map q.m)], false⟩, ⟨[LS ac, LS cy, LI am, .v (.slice Ab nt ct)], true⟩, ⟨[LS ac, LS cy], true⟩, ⟨[LS xp, LS xa, LS xc, LI xn, .v (.slice Ax nx cx)], true⟩, ⟨[LB (clampO (sumI [xn, am]))], true⟩]⟩ ρ' w') :
    At Try.prog (bodyPost Try.prog Try.f11 R) ⟨regK Try.f11 5, fillJ (tmplJ Try.f11.ntmps 0 [(0, .ptr 0 0), (1, LS pa), (5, .ptr 1 0), (7, .ptr 2 0), (8, .ptr 3 0), (9, LB had)]) d 0, [⟨[.v (.map q.m)], false⟩, ⟨[LS ac, LS cy, LI am, .v (.slice Ab nt ct)], true⟩, ⟨[LS ac, LS cy], true⟩, ⟨[LS xp, LS xa, LS xc, LI xn, .v (.slice Ax nx cx)], true⟩]⟩ ρ w := by
  have hag := hR.ag_ 4 (by kernel_rfl)
  have key : ∀ (ρ' : Nm) (w' : World) (d' : Nat → Value), (had = true → xp = pa) → ρ' 0 = (q.b, 0) → Rel T w0 ρ' [⟨[.v (.map q.m)], false⟩, ⟨[LS ac, LS cy, LI am, .v (.slice Ab nt ct)], true⟩, ⟨[LS ac, LS cy], true⟩, ⟨[LS xp, LS xa, LS xc, LI xn, .v (.slice Ax nx cx)], true⟩] w' → Sta q.has (LnV q) ρ' [⟨[.v (.map q.m)], false⟩, ⟨[LS ac, LS cy, LI am, .v (.slice Ab nt ct)], true⟩, ⟨[LS ac, LS cy], true⟩, ⟨[LS xp, LS xa, LS xc, LI xn, .v (.slice Ax nx cx)], true⟩] w' → Own ρ' [⟨[.v (.map q.m)], false⟩, ⟨[LS ac, LS cy, LI am, .v (.slice Ab nt ct)], true⟩, ⟨[LS ac, LS cy], true⟩, ⟨[LS xp, LS xa, LS xc, LI xn, .v (.slice Ax nx cx)], true⟩] w' 0 49 2 (.slice Ax nx cx) nx (plV xs) → Sta (RdS Ab) (fun w => Reads w Bt 2 Ab nt (plV ps)) ρ' [⟨[.v (.map q.m)], false⟩, ⟨[LS ac, LS cy, LI am, .v (.slice Ab nt ct)], true⟩, ⟨[LS ac, LS cy], true⟩, ⟨[LS xp, LS xa, LS xc, LI xn, .v (.slice Ax nx cx)], true⟩] w' → At Try.prog (bodyPost Try.prog Try.f11 R) ⟨regK Try.f11 7, fillJ (tmplJ Try.f11.ntmps 0 [(0, .ptr 0 0), (1, LS pa), (5, .ptr 1 0), (7, .ptr 2 0), (8, .ptr 3 0)]) d' 0, [⟨[.v (.map q.m)], false⟩, ⟨[LS ac, LS cy, LI am, .v (.slice Ab nt ct)], true⟩, ⟨[LS ac, LS cy], true⟩, ⟨[LS xp, LS xa, LS xc, LI xn, .v (.slice Ax nx cx)], true⟩]⟩ ρ' w' := by
    clear hV hxr hps hag hR e0
    intro ρ1 w1 d1 hhp e0 hR hV hxr hps
    have hag := hR.ag_ 4 (by kernel_rfl)
    refine sim_run 9 [] (hR.cast (by kernel_rfl)) (by kernel_rfl) trivial (fun ρ100 w100 hm100 hR100 => ?_)
    have hV := hV.moved (hm100.castL (by kernel_rfl))
    have hxr := hxr.moved (hm100.castL (by kernel_rfl))
    have hps := hps.moved (hm100.castL (by kernel_rfl))
    have hag := hag.moved (hm100.castL (by kernel_rfl))
    
    refine sim_call 24 [.slc 5 0 2 2] (by kernel_rfl) ?_
    refine (concatPl_any _ _ Ax Ab nx nt cx ct _ Bt (plV xs) (plV ps) _ ⟨((by assumption : Rel _ _ _ _ _)).at_cell 5 0 (.v (.slice Ax nx cx)) (by kernel_rfl), ((by assumption : Rel _ _ _ _ _)).at_cell 5 1 (.v (.slice Ab nt ct)) (by kernel_rfl)⟩ (Reads.of_own hxr.own) hps.is (Nat.le_refl _) (Nat.le_trans hBt ((by assumption : Rel _ _ _ _ _)).keeps.size) hnx (by omega) (plV_oneC xs) (plV_oneC ps)).mono ?_
    rintro e2 w2 ⟨Al, cl, rfl, ho2, hb2⟩
    have hR2 := ((by assumption : Rel _ _ _ _ _)).below hb2
    have hO := Own.start ((by assumption : Rel _ _ _ _ _)) ho2
    have hO := (show Own _ _ w2 0 49 2 (.slice Al (nx + nt) cl) (nx + nt) (plV (xs ++ ps)) from ⟨own_base (by rw [plV_append]; exact hO.own) (Nat.zero_le _), hO.far⟩)
    have hV := hV.below hb2
    clear hxr hps
    refine Back.of (.v (.slice Al (nx + nt) cl)) hR2 rfl ?_
    refine sim_run 9 [] (hR2.cast (by kernel_rfl)) (by kernel_rfl) trivial (fun ρ500 w500 hm500 hR500 => ?_)
    have hag := hag.moved (hm500.castL (by kernel_rfl))
    have hO := hO.moved (hm500.castL (by kernel_rfl))
    have hV := hV.moved (hm500.castL (by kernel_rfl))
    
    refine sim_call 25 [.ptr 4 0, .slc 6 0 2 2] (by kernel_rfl) ?_
    refine (accAdd_any _ _ false _ 2 2 [xn, am] _ (((by assumption : Rel _ _ _ _ _)).at_cell 4 0 (LB false) (by kernel_rfl)) (((by assumption : Rel _ _ _ _ _)).unfrozen (q := 4) (r := ⟨[LB false], true⟩) (by kernel_rfl) rfl (by show 0 < 1; omega)) _ (((by assumption : Rel _ _ _ _ _)).readsP (n := 6) (size := 1) (m := 2) (vs := [.int .i64 xn, .int .i64 am]) (b := true) (by kernel_rfl) rfl) (by intro x hx; simp only [List.mem_cons, List.not_mem_nil, or_false] at hx; rcases hx with rfl | rfl <;> assumption) (by omega)).mono ?_
    rintro e3 w3 ⟨rfl, ho⟩
    have hR3 := ((by assumption : Rel _ _ _ _ _)).orAt (q := 4) (x := false) (by kernel_rfl) ho
    have hV := hV.orAt (q := 4) (cs := [LB false]) (cs' := [LB (false || clampO (sumI [xn, am]))]) (by kernel_rfl) ho
    have hO := hO.orAt (q := 4) (cs := [LB false]) (cs' := [LB (false || clampO (sumI [xn, am]))]) (by kernel_rfl) ho
    have hag : Ag 4 ρ1 _ _ := ⟨hag.ag, (hR3.ag_ 4 (by kernel_rfl)).le⟩
    rw [Bool.false_or] at hR3 hV hO hag
    refine Back.of (LI (clampV (sumI [xn, am]))) hR3 rfl ?_
    refine sim_run 3 [] (hR3.cast (by kernel_rfl)) (by kernel_rfl) trivial (fun ρ600 w600 hm600 hR600 => ?_)
    have hV := hV.moved (hm600.castL (by kernel_rfl))
    have hO := hO.moved (hm600.castL (by kernel_rfl))
    have hag := hag.moved (hm600.castL (by kernel_rfl))
    
    have hagz := ((by assumption : Rel _ _ _ _ _)).ag_ 5 (by kernel_rfl)
    refine sim_to (regK Try.f11 10) (tmplJ Try.f11.ntmps 0 [(0, .ptr 0 0), (1, LS pa), (5, .ptr 1 0), (7, .ptr 2 0), (8, .ptr 3 0), (10, .ptr 4 0), (11, .v (.slice Al (nx + nt) cl)), (12, LI (clampV (sumI [xn, am])))]) [⟨[.v (.map q.m)], false⟩, ⟨[LS ac, LS cy, LI am, .v (.slice Ab nt ct)], true⟩, ⟨[LS ac, LS cy], true⟩, ⟨[LS xp, LS xa, LS xc, LI xn, .v (.slice Ax nx cx)], true⟩, ⟨[LB (clampO (sumI [xn, am]))], true⟩] (by kernel_rfl) (by kernel_rfl) (by kernel_rfl) (fun dd => ?_)
    exact hnext _ _ dd Al cl hhp ((hag.at_ 0 (by omega)).trans e0) (((by assumption : Rel _ _ _ _ _)).cut (rs := [⟨[.v (.map q.m)], false⟩, ⟨[LS ac, LS cy, LI am, .v (.slice Ab nt ct)], true⟩, ⟨[LS ac, LS cy], true⟩, ⟨[LS xp, LS xa, LS xc, LI xn, .v (.slice Ax nx cx)], true⟩, ⟨[LB (clampO (sumI [xn, am]))], true⟩]) (by kernel_rfl) hagz.ag (by kernel_rfl)) (hV.cut (rs := [⟨[.v (.map q.m)], false⟩, ⟨[LS ac, LS cy, LI am, .v (.slice Ab nt ct)], true⟩, ⟨[LS ac, LS cy], true⟩, ⟨[LS xp, LS xa, LS xc, LI xn, .v (.slice Ax nx cx)], true⟩, ⟨[LB (clampO (sumI [xn, am]))], true⟩]) hagz rfl (by kernel_rfl)) (hO.cut (rs := [⟨[.v (.map q.m)], false⟩, ⟨[LS ac, LS cy, LI am, .v (.slice Ab nt ct)], true⟩, ⟨[LS ac, LS cy], true⟩, ⟨[LS xp, LS xa, LS xc, LI xn, .v (.slice Ax nx cx)], true⟩, ⟨[LB (clampO (sumI [xn, am]))], true⟩]) hagz rfl (by kernel_rfl))
  cases had with
  | false =>
    refine sim_run 12 [] (hR.cast (by kernel_rfl)) (by kernel_rfl) trivial (fun ρ200 w200 hm200 hR200 => ?_)
    have hV := hV.moved (hm200.castL (by kernel_rfl))
    have hxr := hxr.moved (hm200.castL (by kernel_rfl))
    have hps := hps.moved (hm200.castL (by kernel_rfl))
    have hag := hag.moved (hm200.castL (by kernel_rfl))
    
    exact sim_to (regK Try.f11 7) (tmplJ Try.f11.ntmps 0 [(0, .ptr 0 0), (1, LS pa), (5, .ptr 1 0), (7, .ptr 2 0), (8, .ptr 3 0)]) [⟨[.v (.map q.m)], false⟩, ⟨[LS ac, LS cy, LI am, .v (.slice Ab nt ct)], true⟩, ⟨[LS ac, LS cy], true⟩, ⟨[LS xp, LS xa, LS xc, LI xn, .v (.slice Ax nx cx)], true⟩] (by kernel_rfl) (by kernel_rfl) (by kernel_rfl) (fun dd => key _ _ dd (fun h => by cases h) ((hag.at_ 0 (by omega)).trans e0) (Rel.cast ((by assumption : Rel _ _ _ _ _)) (by kernel_rfl)) (hV.castR (by kernel_rfl)) (hxr.castR (by kernel_rfl)) (hps.castR (by kernel_rfl)))
  | true =>
    refine sim_run 8 [] (hR.cast (by kernel_rfl)) (by kernel_rfl) trivial (fun ρ300 w300 hm300 hR300 => ?_)
    have hV := hV.moved (hm300.castL (by kernel_rfl))
    have hxr := hxr.moved (hm300.castL (by kernel_rfl))
    have hps := hps.moved (hm300.castL (by kernel_rfl))
    have hag := hag.moved (hm300.castL (by kernel_rfl))
    refine sim_fork 41 (!xp.toList == pa.toList) (by kernel_rfl) (fun hq301 => ?_) (fun hq301 => ?_)
    have hq301 := nb_t hq301
    have hq301 := ba_ne hq301
    refine sim_run 5 [] (hR300.cast (by kernel_rfl)) (by kernel_rfl) trivial (fun ρ302 w302 hm302 hR302 => ?_)
    have hV := hV.moved (hm302.castL (by kernel_rfl))
    have hxr := hxr.moved (hm302.castL (by kernel_rfl))
    have hps := hps.moved (hm302.castL (by kernel_rfl))
    have hag := hag.moved (hm302.castL (by kernel_rfl))
    refine sim_ret (LI 22) hR302 (by kernel_rfl) (by kernel_rfl) ?_
    rotate_left
    have hq301 := nb_f hq301
    have hq301 := ba_eq hq301
    refine sim_run 4 [] (hR300.cast (by kernel_rfl)) (by kernel_rfl) trivial (fun ρ303 w303 hm303 hR303 => ?_)
    have hV := hV.moved (hm303.castL (by kernel_rfl))
    have hxr := hxr.moved (hm303.castL (by kernel_rfl))
    have hps := hps.moved (hm303.castL (by kernel_rfl))
    have hag := hag.moved (hm303.castL (by kernel_rfl))
    rotate_left
    
    · exact hret _ _ _ rfl hq301 (by assumption) hV
    · exact sim_to (regK Try.f11 7) (tmplJ Try.f11.ntmps 0 [(0, .ptr 0 0), (1, LS pa), (5, .ptr 1 0), (7, .ptr 2 0), (8, .ptr 3 0)]) [⟨[.v (.map q.m)], false⟩, ⟨[LS ac, LS cy, LI am, .v (.slice Ab nt ct)], true⟩, ⟨[LS ac, LS cy], true⟩, ⟨[LS xp, LS xa, LS xc, LI xn, .v (.slice Ax nx cx)], true⟩] (by kernel_rfl) (by kernel_rfl) (by kernel_rfl) (fun dd => key _ _ dd (fun _ => hq301) ((hag.at_ 0 (by omega)).trans e0) (Rel.cast (by assumption) (by kernel_rfl)) (hV.castR (by kernel_rfl)) (hxr.castR (by kernel_rfl)) (hps.castR (by kernel_rfl)))
end

section
open Go Go.RowKit
/-- the lines behind a take -/
def LnP.put (q : LnP) (g : Nat) (k : Key) (x : LoC) (out : List Pl) : LnP := ⟨q.b, some g, ins k x q.ck q.l, clockAfter k q.l q.ck, fun k' => if k' = k then out else q.f k'⟩
theorem Sta.put {q : LnP} {ρ : Nm} {rs : List Reg} {w w1 : World} {g B n : Nat} {k : Key} {x : LoC} {out : List Pl} (hV : Sta q.has (LnV q) ρ rs w) (hm : q.m = some g) (ht : TurnM g w w1) (hM : MpO encK encLo ρ rs w1 (some g) (ins k x q.ck q.l) (clockAfter k q.l q.ck)) (hO : Own ρ rs w1 B 49 2 x.pv n (plV out)) (hn : out.length = n) : Sta (q.put g k x out).has (LnV (q.put g k x out)) ρ rs w1 := by
  subst hn
  have hk := ht.kept
  have hf := hV.is.fine
  have hold : ∀ e ∈ q.l, w1.ownsRow 0 49 2 e.val.pv (q.f e.key).length (plV (q.f e.key)) := fun e he => by
    have h3 := hV.is.row e he
    exact own_kept h3 hk (fun y hy hz => by
      have hz : y = g := hz
      subst hz
      exact own_not_map h3 (hV.is.mp.is y hm).1.blk hy.symm)
  have hblk := hV.is.blk
  rw [hm] at hblk
  have hV1 : LnV (q.put g k x out) w1 := by
    refine ⟨hblk.kept hk (fun hx => ?_), ⟨fun g1 hg1 => ⟨(hM.is g1 hg1).1, noW0⟩, fun h => by cases h⟩, fun e he => ?_⟩
    · have hx : q.b = g := hx
      have h1 := (hV.is.mp.is g hm).1.blk
      rw [← hx] at h1
      exact blk_not_map hV.is.blk h1
    · show w1.ownsRow 0 _ 2 e.val.pv (if e.key = k then out else q.f e.key).length (plV (if e.key = k then out else q.f e.key))
      rcases ins_mem3 hf.keys he with ⟨h1, h2⟩ | ⟨h1, h2⟩
      · rw [if_neg h2]
        exact hold e h1
      · rw [if_pos h1, h2]
        exact own_base hO.own (Nat.zero_le _)
  refine ⟨hV1, ?_, hV1.lt, LnV.same⟩
  rintro y (rfl | hy | ⟨e, he, hy⟩)
  · exact hV.far _ (.inl rfl)
  · exact hV.far y (.inr (.inl (hm.trans hy)))
  · rcases ins_mem3 hf.keys he with ⟨h1, _⟩ | ⟨_, h2⟩
    · exact hV.far y (.inr (.inr ⟨e, h1, hy⟩))
    · rw [h2] at hy
      exact hO.far y hy
attribute [local irreducible] run goO leaveK someK nextK nextT nextOT nextOD loopBody loopRest loopK fillJ tmplOf tmplJ mergeT At AtO drawOk ordOf gateOf callC callO topOp topO idxOf appOf storeOf clearOf sliceOf calleeOf calleeO topQ idxQ newRowOf resL stepOp seek
set_option maxRecDepth 100000 in
set_option maxHeartbeats 4000000 in
theorem take_22 {R : Ending → World → Prop} {T : List Nat} {ρ : Nm} {w0 w : World} {q : LnP} {g : Nat} {ac cy pa : ByteArray} {am amt : Int} {Ab Am : Option Addr} {nt ct nm cm : Nat} {out : List Pl} (hR : Rel T w0 ρ [⟨[.v (.map (some g))], false⟩, ⟨[LS ac, LS cy, LI am, .v (.slice Ab nt ct)], true⟩, ⟨[LS ac, LS cy], true⟩] w) (hm0 : q.m = some g) (hgT : g ∈ T ∨ w0.heap.size ≤ g) (hV : Sta q.has (LnV q) ρ [⟨[.v (.map (some g))], false⟩, ⟨[LS ac, LS cy, LI am, .v (.slice Ab nt ct)], true⟩, ⟨[LS ac, LS cy], true⟩] w) (hO : Own ρ [⟨[.v (.map (some g))], false⟩, ⟨[LS ac, LS cy, LI am, .v (.slice Ab nt ct)], true⟩, ⟨[LS ac, LS cy], true⟩] w w0.heap.size 49 2 (.slice Am nm cm) nm (plV out)) (hl : out.length = nm) (hpa : pa.size ≤ 281474976710656) (d : Nat → Value)
    (hret : ∀ (ρ' : Nm) (rs' : List Reg) (w' : World), Rel T w0 ρ' rs' w' → LnV (q.put g (ac, cy) ⟨pa, ac, cy, amt, .slice Am nm cm⟩ out) w' → R (.returned (.int .i64 0)) w') :
    At Try.prog (bodyPost Try.prog Try.f11 R) ⟨regK Try.f11 22, fillJ (tmplJ Try.f11.ntmps 0 [(0, .ptr 0 0), (1, LS pa), (7, .ptr 2 0), (12, LI amt), (13, .v (.slice Am nm cm))]) d 0, [⟨[.v (.map (some g))], false⟩, ⟨[LS ac, LS cy, LI am, .v (.slice Ab nt ct)], true⟩, ⟨[LS ac, LS cy], true⟩]⟩ ρ w := by
  have hM := LnV.over hV
  rw [hm0] at hM
  refine sim_draw [] (by kernel_rfl) (by kernel_rfl) (hR.cast (by kernel_rfl)) (fun hR100 => ?_)
  have hV := hV.drew
  have hO := hO.drew
  have hM := hM.drew
  refine sim_ordN 12 [] hR100 (by kernel_rfl) trivial (fun ρ101 w101 hm101 hR101 => ?_)
  have hV := hV.moved (hm101.castL (by kernel_rfl))
  have hO := hO.moved (hm101.castL (by kernel_rfl))
  have hM := hM.moved (hm101.castL (by kernel_rfl))
  refine sim_ord_call (T := T) (w0 := w0) 27 [LS pa] (by kernel_rfl) ?_
  refine Calls.mono (cloneS_any _ _ (by assumption)) ?_
  rintro e102 w102 ⟨rfl, hb102⟩
  have hR102 := hR101.call hb102 (LS pa)
  have hV := hV.below hb102
  have hO := hO.below hb102
  have hM := hM.below hb102
  refine BackO.of (LS pa) hR102 rfl ?_
  refine sim_ordN 1 [] hR102 (by kernel_rfl) trivial (fun ρ103 w103 hm103 hR103 => ?_)
  have hV := hV.moved (hm103.castL (by kernel_rfl))
  have hO := hO.moved (hm103.castL (by kernel_rfl))
  have hM := hM.moved (hm103.castL (by kernel_rfl))
  refine sim_ord_upd (enc := encK) (encV := encLo) (mx := .v (Value.map (some g))) (kx := .agg [LS ac, LS cy]) (vx := .agg [LS pa, LS ac, LS cy, LI amt, .v (Value.slice Am nm cm)]) (ac, cy) ⟨pa, ac, cy, amt, .slice Am nm cm⟩ (by kernel_rfl) ml_ty kt_key hM rfl rfl rfl hgT hR103 (fun w104 ht104 hM2 hR104 => ?_)
  have hO := hO.turnM ht104
  have hV := Sta.put (x := ⟨pa, ac, cy, amt, .slice Am nm cm⟩) hV hm0 ht104 hM2 hO hl
  clear hM2 hM
  refine sim_ord_endR hR104 (by kernel_rfl) (fun hR105 => ?_)
  refine sim_run 4 [] (hR105.cast (by kernel_rfl)) (by kernel_rfl) trivial (fun ρ106 w106 hm106 hR106 => ?_)
  have hO := hO.moved (hm106.castL (by kernel_rfl))
  have hV := hV.moved (hm106.castL (by kernel_rfl))
  refine sim_ret (LI 0) hR106 (by kernel_rfl) (by kernel_rfl) ?_
  
  all_goals exact hret _ _ _ ((by assumption : Rel _ _ _ _ _)) hV.is
end

section
open Go Go.RowKit
theorem overlay_one (l : List Value) (i : Nat) (v : Value) (h : i < l.length) : overlay l i [v] = l.set i v := by
  unfold overlay
  rw [List.set_eq_take_append_cons_drop, if_pos h, List.append_assoc]
  rfl
theorem flatMap_getP {out : List Pl} {i : Nat} {x : Pl} (hx : out[i]? = some x) : (plV out)[i * 2]? = some (.string x.asset) := flat_get (out.map Pl.cells) i x.cells (pl_in out) (by rw [List.getElem?_map, hx]; rfl) 0 _ rfl
theorem wr_in3 {a b : List Reg} {m : Nat} {r : Reg} {ρ : Nm} {y : Nat} (e : (a.map fun r => if r.wr then some r.cells.length else none) = (b.map fun r => if r.wr then some r.cells.length else none)) (hm : a[m]? = some r) (hr : r.wr = true) (he : (ρ m).1 = y) : wrS ρ b y := by
  have h1 := congrArg (fun l => l[m]?) e
  simp only [List.getElem?_map, hm, Option.map_some, hr, if_true] at h1
  cases hb : b[m]? with
  | none => rw [hb] at h1; cases h1
  | some r' =>
    rw [hb] at h1
    simp only [Option.map_some, Option.some.injEq] at h1
    refine ⟨m, r', hb, ?_, he⟩
    cases hw : r'.wr with
    | true => rfl
    | false => rw [hw] at h1; cases h1
section
variable {P : Program} {Q : Exit → Act → World → Prop} {T : List Nat} {w0 w : World} {ρ : Nm} {c : Cfg}
/-- what is there already is stored into a row of one's own -/
theorem sim_storeSame {a z : LV} (h : storeOf P c = some (a, [z])) (hR : Rel T w0 ρ c.rs w) {g o n cp base sz : Nat} {e : TypeId} {xs : List Value} (hown : w.ownsRow base e sz (.slice (some ⟨g, 0, none⟩) n cp) n xs) (ha : a.den ρ = .pointer (some ⟨g, o, none⟩)) (hz : xs[o]? = some (z.den ρ)) (hT : w0.heap.size ≤ g)
    (hreg : ∀ (k : Nat) (r : Reg), c.rs[k]? = some r → r.cells ≠ [] → (ρ k).1 ≠ g)
    (next : ∀ w', w'.ownsRow base e sz (.slice (some ⟨g, 0, none⟩) n cp) n xs → Kept (fun x => x = g) w w' → Rel T w0 ρ c.rs w' → At P Q (nextC c (.v undef) c.rs) ρ w') : At P Q c ρ w := by
  obtain ⟨hl, h2⟩ := hown
  rcases h2 with ⟨h3, _⟩ | ⟨g', cap, cur, he, hb, hg, hn, hm, hsz, ht⟩
  · cases h3
  · injection he with he h4 h5
    injection he with he
    injection he with he
    subst he h5
    have hox : o < xs.length := (List.getElem?_eq_some_iff.1 hz).1
    have hcl : o < cur.toList.length := by
      have h1 := congrArg List.length ht
      rw [List.length_take] at h1
      omega
    have hcv : cur.toList[o]? = some (z.den ρ) := by
      rw [← ht, List.getElem?_take_of_lt (by omega)] at hz
      exact hz
    have hov : overlay cur.toList o [z.den ρ] = cur.toList := by
      rw [overlay_one _ _ _ hcl]
      obtain ⟨h1, h2⟩ := List.getElem?_eq_some_iff.1 hcv
      rw [← h2, List.set_getElem_self]
    refine sim_store (cur := cur.toList) h hR ha (by rw [Array.toArray_toList]; exact hg) (by show o + 1 ≤ _; omega) (.inr hT) hreg (fun w' hb' hk hR' => next w' ⟨hl, .inr ⟨g, cp, cur, rfl, hb, ?_, hn, hm, hsz, ht⟩⟩ hk hR')
    have h6 : denL ρ [z] = [z.den ρ] := rfl
    rw [h6, hov, Array.toArray_toList] at hb'
    exact hb'
end
attribute [local irreducible] run goO leaveK someK nextK nextT nextOT nextOD loopBody loopRest loopK fillJ tmplOf tmplJ mergeT At AtO drawOk ordOf gateOf callC callO topOp topO idxOf appOf storeOf clearOf sliceOf calleeOf calleeO topQ idxQ newRowOf resL stepOp seek
set_option maxRecDepth 100000 in
set_option maxHeartbeats 4000000 in
theorem take_15 {R : Ending → World → Prop} {T : List Nat} {ρ : Nm} {w0 w : World} {q : LnP} {g : Nat} {ac cy pa : ByteArray} {am amt : Int} {Ab Al : Option Addr} {nt ct nl cl : Nat} {all : List Pl} (hR : Rel T w0 ρ [⟨[.v (.map (some g))], false⟩, ⟨[LS ac, LS cy, LI am, .v (.slice Ab nt ct)], true⟩, ⟨[LS ac, LS cy], true⟩] w) (e0 : ρ 0 = (q.b, 0)) (hold : ∀ y, q.has y → y < w0.heap.size ∨ q.m = some y) (hV : Sta q.has (LnV q) ρ [⟨[.v (.map (some g))], false⟩, ⟨[LS ac, LS cy, LI am, .v (.slice Ab nt ct)], true⟩, ⟨[LS ac, LS cy], true⟩] w) (hall : Own ρ [⟨[.v (.map (some g))], false⟩, ⟨[LS ac, LS cy, LI am, .v (.slice Ab nt ct)], true⟩, ⟨[LS ac, LS cy], true⟩] w 0 49 2 (.slice Al nl cl) nl (plV all)) (hl : all.length = nl) (hnl : nl ≤ 100000) (hac : ac.size ≤ 281474976710656) (hcy : cy.size ≤ 281474976710656) (hok : ∀ p ∈ all, IsI64 p.qty ∧ p.asset.size ≤ 281474976710656) (d : Nat → Value)
    (hnext : ∀ (ρ' : Nm) (w' : World) (d' : Nat → Value) (Am : Option Addr) (cm : Nat) (out : List Pl), IsMrg all out → ρ' 0 = (q.b, 0) → Rel T w0 ρ' [⟨[.v (.map (some g))], false⟩, ⟨[LS ac, LS cy, LI am, .v (.slice Ab nt ct)], true⟩, ⟨[LS ac, LS cy], true⟩] w' → Sta q.has (LnV q) ρ' [⟨[.v (.map (some g))], false⟩, ⟨[LS ac, LS cy, LI am, .v (.slice Ab nt ct)], true⟩, ⟨[LS ac, LS cy], true⟩] w' → Own ρ' [⟨[.v (.map (some g))], false⟩, ⟨[LS ac, LS cy, LI am, .v (.slice Ab nt ct)], true⟩, ⟨[LS ac, LS cy], true⟩] w' w0.heap.size 49 2 (.slice Am out.length cm) out.length (plV out) → At Try.prog (bodyPost Try.prog Try.f11 R) ⟨regK Try.f11 22, fillJ (tmplJ Try.f11.ntmps 0 [(0, .ptr 0 0), (1, LS pa), (7, .ptr 2 0), (12, LI amt), (13, .v (.slice Am out.length cm))]) d' 0, [⟨[.v (.map (some g))], false⟩, ⟨[LS ac, LS cy, LI am, .v (.slice Ab nt ct)], true⟩, ⟨[LS ac, LS cy], true⟩]⟩ ρ' w') :
    At Try.prog (bodyPost Try.prog Try.f11 R) ⟨regK Try.f11 15, fillJ (tmplJ Try.f11.ntmps 0 [(0, .ptr 0 0), (1, LS pa), (7, .ptr 2 0), (11, .v (.slice Al nl cl)), (12, LI amt)]) d 0, [⟨[.v (.map (some g))], false⟩, ⟨[LS ac, LS cy, LI am, .v (.slice Ab nt ct)], true⟩, ⟨[LS ac, LS cy], true⟩]⟩ ρ w := by
  have hag := hR.ag_ 3 (by kernel_rfl)
  refine sim_draw [] (by kernel_rfl) (by kernel_rfl) (hR.cast (by kernel_rfl)) (fun hR100 => ?_)
  have hV := hV.drew
  have hall := hall.drew
  refine sim_ordN 4 [] hR100 (by kernel_rfl) trivial (fun ρ101 w101 hm101 hR101 => ?_)
  have hag := hag.moved (hm101.castL (by kernel_rfl))
  have hV := hV.moved (hm101.castL (by kernel_rfl))
  have hall := hall.moved (hm101.castL (by kernel_rfl))
  refine sim_ord_call (T := T) (w0 := w0) 27 [LS ac] (by kernel_rfl) ?_
  refine Calls.mono (cloneS_any _ _ (by assumption)) ?_
  rintro e102 w102 ⟨rfl, hb102⟩
  have hR102 := hR101.call hb102 (LS ac)
  have hV := hV.below hb102
  have hall := hall.below hb102
  refine BackO.of (LS ac) hR102 rfl ?_
  refine sim_ord_call (T := T) (w0 := w0) 27 [LS cy] (by kernel_rfl) ?_
  refine Calls.mono (cloneS_any _ _ (by assumption)) ?_
  rintro e103 w103 ⟨rfl, hb103⟩
  have hR103 := hR102.call hb103 (LS cy)
  have hV := hV.below hb103
  have hall := hall.below hb103
  refine BackO.of (LS cy) hR103 rfl ?_
  refine sim_ordN 2 [] hR103 (by kernel_rfl) trivial (fun ρ104 w104 hm104 hR104 => ?_)
  have hag := hag.moved (hm104.castL (by kernel_rfl))
  have hV := hV.moved (hm104.castL (by kernel_rfl))
  have hall := hall.moved (hm104.castL (by kernel_rfl))
  refine sim_ord_endR hR104 (by kernel_rfl) (fun hR105 => ?_)
  refine sim_run 3 [] (hR105.cast (by kernel_rfl)) (by kernel_rfl) trivial (fun ρ106 w106 hm106 hR106 => ?_)
  have hag := hag.moved (hm106.castL (by kernel_rfl))
  have hV := hV.moved (hm106.castL (by kernel_rfl))
  have hall := hall.moved (hm106.castL (by kernel_rfl))
  
  have hsz := ((by assumption : Rel _ _ _ _ _)).keeps.size
  refine sim_call 28 [.v (.slice Al nl cl)] (by kernel_rfl) ?_
  refine (merge_any Al nl cl _ all _ (Reads.of_own hall.own) hl (Nat.le_refl _) hnl (fun p hp => (hok p hp).1)).mono ?_
  rintro e2 w2 ⟨out, Am, cm, hmg, rfl, hO, hb2⟩
  have hR2 := ((by assumption : Rel _ _ _ _ _)).below hb2
  have hV := hV.below hb2
  have hO := Own.start ((by assumption : Rel _ _ _ _ _)) hO
  have hO : Own _ _ w2 w0.heap.size 49 2 (.slice Am out.length cm) out.length (plV out) := ⟨own_base hO.own hsz, hO.far⟩
  have hol : out.length ≤ 100000 := by have := hmg.len; omega
  have hos : ∀ x ∈ out, x.asset.size ≤ 281474976710656 := fun x hx => by
    obtain ⟨ks, _, h2, rfl⟩ := hmg
    unfold mrg at hx
    obtain ⟨a, ha, rfl⟩ := List.mem_map.1 (List.mem_filter.1 hx).1
    obtain ⟨p, hp, hpe⟩ := (h2 a).1 ha
    show a.size ≤ _
    rw [← hpe]
    exact (hok p hp).2
  clear hall
  refine Back.of (.v (.slice Am out.length cm)) hR2 rfl ?_
  refine sim_run 10 [] (hR2.cast (by kernel_rfl)) (by kernel_rfl) trivial (fun ρ200 w200 hm200 hR200 => ?_)
  have hag := hag.moved (hm200.castL (by kernel_rfl))
  have hV := hV.moved (hm200.castL (by kernel_rfl))
  have hO := hO.moved (hm200.castL (by kernel_rfl))
  
  refine sim_loop (ι := Nat) (T := T) (w0 := w0) 0 [0, 1, 7, 12, 13, 86] (fun i => [(87, LI i)]) (fun _ => [⟨[.v (.map (some g))], false⟩, ⟨[LS ac, LS cy, LI am, .v (.slice Ab nt ct)], true⟩, ⟨[LS ac, LS cy], true⟩]) (fun i w1 => i ≤ out.length ∧ Sta q.has (LnV q) ρ200 [⟨[.v (.map (some g))], false⟩, ⟨[LS ac, LS cy, LI am, .v (.slice Ab nt ct)], true⟩, ⟨[LS ac, LS cy], true⟩] w1 ∧ Own ρ200 [⟨[.v (.map (some g))], false⟩, ⟨[LS ac, LS cy, LI am, .v (.slice Ab nt ct)], true⟩, ⟨[LS ac, LS cy], true⟩] w1 w0.heap.size 49 2 (.slice Am out.length cm) out.length (plV out)) (fun i => out.length - i) (by kernel_rfl) (by kernel_rfl) (hR200.cast (by kernel_rfl)) ⟨Nat.zero_le _, hV.castR (by kernel_rfl), hO.castR (by kernel_rfl)⟩ ?_
  iterate 6 (try clear hV)
  iterate 6 (try clear hO)
  have e0 := (hag.at_ 0 (by omega)).trans e0
  iterate 6 (try clear hag)
  rintro i d3 w3 hR3 ⟨hi, hV, hO⟩
  have hag0 := hR3.ag_ 3 (by kernel_rfl)
  by_cases hlt : i < out.length
  · obtain ⟨x, hx⟩ : ∃ x, out[i]? = some x := ⟨_, List.getElem?_eq_getElem hlt⟩
    have hxs := hos x (List.mem_of_getElem? hx)
    obtain ⟨gp, rfl⟩ := own_spot hO.own (by omega)
    have hxv : (plV out)[i * 2]? = some (.string x.asset) := flatMap_getP hx
    refine sim_seeO (xss := out.map Pl.cells) (sz := 2) x.cells i 3 (by kernel_rfl) (by rw [List.getElem?_map, hx]; rfl) hO (pl_in out) (by omega) hlt hR3 (by kernel_rfl) (fun ρE hmE eE hRE => ?_)
    have hV := hV.moved hmE
    have hO := hO.moved hmE
    have hag0 := hag0.moved hmE
    have hag := hRE.ag_ 4 (by kernel_rfl)
    refine sim_run 5 [] (hRE.cast (by kernel_rfl)) (by kernel_rfl) trivial (fun ρ300 w300 hm300 hR300 => ?_)
    have hV := hV.moved (hm300.castL (by kernel_rfl))
    have hO := hO.moved (hm300.castL (by kernel_rfl))
    have hag0 := hag0.moved (hm300.castL (by kernel_rfl))
    have hag := hag.moved (hm300.castL (by kernel_rfl))
    refine sim_know 88 (decide ((↑i : Int) < (↑out.length : Int))) true (by kernel_rfl) (decide_eq_true (by omega)) ?_
    refine sim_run 14 [] (hR300.cast (by kernel_rfl)) (by kernel_rfl) trivial (fun ρ301 w301 hm301 hR301 => ?_)
    have hV := hV.moved (hm301.castL (by kernel_rfl))
    have hO := hO.moved (hm301.castL (by kernel_rfl))
    have hag0 := hag0.moved (hm301.castL (by kernel_rfl))
    have hag := hag.moved (hm301.castL (by kernel_rfl))
    refine sim_place (.v (.slice (some ⟨gp, 0, none⟩) out.length cm)) out.length 2 i 3 0 (by kernel_rfl) (by omega) (by omega) rfl (by simp only [Nm.at_, hag.at_ 3 (by omega), eE, Nat.zero_add, Nat.add_zero, Int.toNat_natCast]) ?_
    refine sim_run 2 [] (hR301.cast (by kernel_rfl)) (by kernel_rfl) trivial (fun ρ303 w303 hm303 hR303 => ?_)
    have hV := hV.moved (hm303.castL (by kernel_rfl))
    have hO := hO.moved (hm303.castL (by kernel_rfl))
    have hag0 := hag0.moved (hm303.castL (by kernel_rfl))
    have hag := hag.moved (hm303.castL (by kernel_rfl))
    refine sim_call 27 [LS x.asset] (by kernel_rfl) ?_
    refine Calls.mono (cloneS_any _ _ (by assumption)) ?_
    rintro e304 w304 ⟨rfl, hb304⟩
    have hR304 := hR303.below hb304
    have hV := hV.below hb304
    have hO := hO.below hb304
    refine Back.of (LS x.asset) hR304 rfl ?_
    refine sim_place (.v (.slice (some ⟨gp, 0, none⟩) out.length cm)) out.length 2 i 3 0 (by kernel_rfl) (by omega) (by omega) rfl (by simp only [Nm.at_, hag.at_ 3 (by omega), eE, Nat.zero_add, Nat.add_zero, Int.toNat_natCast]) ?_
    refine sim_run 1 [] (hR304.cast (by kernel_rfl)) (by kernel_rfl) trivial (fun ρ306 w306 hm306 hR306 => ?_)
    have hag0 := hag0.moved (hm306.castL (by kernel_rfl))
    have hag := hag.moved (hm306.castL (by kernel_rfl))
    have hV := hV.moved (hm306.castL (by kernel_rfl))
    have hO := hO.moved (hm306.castL (by kernel_rfl))
    
    have hgp : w0.heap.size ≤ gp := own_ge hO.own rfl
    have hfar : ∀ y, q.has y → y ≠ gp := fun y hy e => by
      subst e
      rcases hold _ hy with h2 | h2
      · omega
      · exact own_not_map hO.own (hV.is.mp.is _ h2).1.blk rfl
    have hRz : Rel T w0 _ [⟨[.v (.map (some g))], false⟩, ⟨[LS ac, LS cy, LI am, .v (.slice Ab nt ct)], true⟩, ⟨[LS ac, LS cy], true⟩, ⟨[], false⟩] _ := ((((by assumption : Rel _ _ _ _ _)).cast (rs' := [⟨[.v (.map (some g))], false⟩, ⟨[LS ac, LS cy, LI am, .v (.slice Ab nt ct)], true⟩, ⟨[LS ac, LS cy], true⟩, ⟨[LS x.asset, LI x.qty], false⟩]) (by kernel_rfl)).forget (fun j => j == 3)).cast (by kernel_rfl)
    have hVz := hV.over (rs' := [⟨[.v (.map (some g))], false⟩, ⟨[LS ac, LS cy, LI am, .v (.slice Ab nt ct)], true⟩, ⟨[LS ac, LS cy], true⟩, ⟨[], false⟩]) (fun y hy hw => hV.far y hy (by obtain ⟨m, r, hm, hr, he⟩ := hw; exact wr_in3 (by kernel_rfl) hm hr he))
    have hOz : Own _ [⟨[.v (.map (some g))], false⟩, ⟨[LS ac, LS cy, LI am, .v (.slice Ab nt ct)], true⟩, ⟨[LS ac, LS cy], true⟩, ⟨[], false⟩] _ w0.heap.size 49 2 (.slice (some ⟨gp, 0, none⟩) out.length cm) out.length (plV out) := ⟨hO.own, fun y hy hw => hO.far y hy (by obtain ⟨m, r, hm, hr, he⟩ := hw; exact wr_in3 (by kernel_rfl) hm hr he)⟩
    have hagz : Ag 3 ρ200 _ [⟨[.v (.map (some g))], false⟩, ⟨[LS ac, LS cy, LI am, .v (.slice Ab nt ct)], true⟩, ⟨[LS ac, LS cy], true⟩, ⟨[], false⟩] := ⟨hag0.ag, Nat.le_of_ble_eq_true rfl⟩
    refine sim_rs [⟨[.v (.map (some g))], false⟩, ⟨[LS ac, LS cy, LI am, .v (.slice Ab nt ct)], true⟩, ⟨[LS ac, LS cy], true⟩, ⟨[], false⟩] ?_
    refine sim_storeSame (a := .ptr 3 0) (z := LS x.asset) (o := i * 2) (by kernel_rfl) hRz hOz.own (by simp only [LV.den, Nm.at_, hag.at_ 3 (by omega), eE, Nat.zero_add, Nat.add_zero]) hxv (own_ge hO.own rfl) (fun k r hk hne he => ?_) (fun w4 hO4 hk4 hR4 => ?_)
    · match k, hk with
      | 0, _ =>
        rw [hagz.at_ 0 (by omega), e0] at he
        exact hfar _ (.inl rfl) he
      | 1, hk => exact hOz.far gp rfl ⟨1, r, hk, by simp at hk; rw [← hk], he⟩
      | 2, hk => exact hOz.far gp rfl ⟨2, r, hk, by simp at hk; rw [← hk], he⟩
      | 3, hk => simp at hk; subst hk; exact hne rfl
      | k + 4, hk => simp at hk
    have hV4 := hVz.kept hk4 (fun y hy e => hfar y hy e)
    have hO4 : Own _ [⟨[.v (.map (some g))], false⟩, ⟨[LS ac, LS cy, LI am, .v (.slice Ab nt ct)], true⟩, ⟨[LS ac, LS cy], true⟩, ⟨[], false⟩] w4 w0.heap.size 49 2 (.slice (some ⟨gp, 0, none⟩) out.length cm) out.length (plV out) := ⟨hO4, hOz.far⟩
    clear hV hVz hO hOz hag0 hag
    refine sim_run 6 [⟨21, 0, LI (IntKind.i64.wrap ((↑i : Int) + 1)), LI ((↑i : Int) + 1)⟩] (hR4.cast (by kernel_rfl)) (by kernel_rfl) ⟨eqi (IntWalk.i64_in _ (by omega)), trivial⟩ (fun ρ400 w400 hm400 hR400 => ?_)
    have hagz := hagz.moved (hm400.castL (by kernel_rfl))
    have hV4 := hV4.moved (hm400.castL (by kernel_rfl))
    have hO4 := hO4.moved (hm400.castL (by kernel_rfl))
    
    have hag0 := ((by assumption : Rel _ _ _ _ _)).ag_ 3 (by kernel_rfl)
    exact sim_again (i + 1) (by kernel_rfl) (by show out.length - (i + 1) < out.length - i; omega) (by kernel_rfl) (by kernel_rfl) (by kernel_rfl) hagz.ag ((Rel.cast (by assumption) (by kernel_rfl))) (by kernel_rfl) (by kernel_rfl) ⟨hlt, hV4.cut hagz rfl (by kernel_rfl), hO4.cut hagz rfl (by kernel_rfl)⟩
  · have hie : i = out.length := by omega
    subst hie
    refine sim_run 5 [] (hR3.cast (by kernel_rfl)) (by kernel_rfl) trivial (fun ρ500 w500 hm500 hR500 => ?_)
    have hV := hV.moved (hm500.castL (by kernel_rfl))
    have hO := hO.moved (hm500.castL (by kernel_rfl))
    have hag0 := hag0.moved (hm500.castL (by kernel_rfl))
    refine sim_know 88 (decide ((↑out.length : Int) < (↑out.length : Int))) false (by kernel_rfl) (decide_eq_false (by omega)) ?_
    refine sim_run 1 [] (hR500.cast (by kernel_rfl)) (by kernel_rfl) trivial (fun ρ501 w501 hm501 hR501 => ?_)
    have hV := hV.moved (hm501.castL (by kernel_rfl))
    have hO := hO.moved (hm501.castL (by kernel_rfl))
    have hag0 := hag0.moved (hm501.castL (by kernel_rfl))
    refine sim_leave (by kernel_rfl) ?_
    refine sim_run 1 [] (hR501.cast (by kernel_rfl)) (by kernel_rfl) trivial (fun ρ502 w502 hm502 hR502 => ?_)
    have hV := hV.moved (hm502.castL (by kernel_rfl))
    have hO := hO.moved (hm502.castL (by kernel_rfl))
    have hag0 := hag0.moved (hm502.castL (by kernel_rfl))
    
    refine sim_to (regK Try.f11 22) (tmplJ Try.f11.ntmps 0 [(0, .ptr 0 0), (1, LS pa), (7, .ptr 2 0), (12, LI amt), (13, .v (.slice Am out.length cm))]) [⟨[.v (.map (some g))], false⟩, ⟨[LS ac, LS cy, LI am, .v (.slice Ab nt ct)], true⟩, ⟨[LS ac, LS cy], true⟩] (by kernel_rfl) (by kernel_rfl) (by kernel_rfl) (fun dd => ?_)
    exact hnext _ _ dd Am cm out hmg ((hag0.at_ 0 (by omega)).trans e0) (Rel.cast ((by assumption : Rel _ _ _ _ _)) (by kernel_rfl)) (hV.castR (by kernel_rfl)) (hO.castR (by kernel_rfl))
end

section
open Go Go.RowKit
theorem Rel.look {T : List Nat} {w0 w : World} {ρ : Nm} {rs : List Reg} {n : Nat} {cells : List LV} (hR : Rel T w0 ρ rs w) (hn : rs[n]? = some ⟨[], false⟩) (hcell : ∀ i v, cells[i]? = some v → w.cell? (ρ.at_ n i) = some (v.den ρ)) (hw : ¬ wrS ρ rs (ρ n).1) : Rel T w0 ρ (rs.set n ⟨cells, false⟩) w := by
  have hnl := (List.getElem?_eq_some_iff.1 hn).1
  have key : ∀ (m : Nat) (r : Reg), (rs.set n ⟨cells, false⟩)[m]? = some r → (m = n ∧ r = ⟨cells, false⟩) ∨ (m ≠ n ∧ rs[m]? = some r) := fun m r h => by
    by_cases e : n = m
    · subst e
      rw [List.getElem?_set_self hnl] at h
      injection h with h
      exact .inl ⟨rfl, h.symm⟩
    · rw [List.getElem?_set_ne e] at h
      exact .inr ⟨fun h => e h.symm, h⟩
  refine ⟨hR.keeps, fun m r h => ?_, fun m r h i v hv => ?_, fun m r h hwr => ?_, fun m k r r' h h' hmk hwr he => ?_⟩
  · rcases key m r h with ⟨rfl, _⟩ | ⟨_, h1⟩
    · exact hR.lt m _ hn
    · exact hR.lt m r h1
  · rcases key m r h with ⟨rfl, rfl⟩ | ⟨_, h1⟩
    · exact hcell i v hv
    · exact hR.cell m r h1 i v hv
  · rcases key m r h with ⟨rfl, rfl⟩ | ⟨_, h1⟩
    · cases hwr
    · exact hR.wr m r h1 hwr
  · rcases key m r h with ⟨rfl, rfl⟩ | ⟨_, h1⟩
    · cases hwr
    · rcases key k r' h' with ⟨rfl, rfl⟩ | ⟨_, h2⟩
      · exact (hw ⟨m, r, h1, hwr, he⟩).elim
      · exact hR.apart m k r r' h1 h2 hmk hwr he
theorem wr_in3b {a b : List Reg} {m : Nat} {r : Reg} {ρ : Nm} {y : Nat} (e : (a.map fun r => r.wr) = (b.map fun r => r.wr)) (hm : a[m]? = some r) (hr : r.wr = true) (he : (ρ m).1 = y) : wrS ρ b y := by
  have h1 := congrArg (fun l => l[m]?) e
  simp only [List.getElem?_map, hm, Option.map_some, hr] at h1
  cases hb : b[m]? with
  | none => rw [hb] at h1; cases h1
  | some r' =>
    rw [hb] at h1
    simp only [Option.map_some, Option.some.injEq] at h1
    exact ⟨m, r', hb, h1.symm, he⟩
attribute [local irreducible] run goO leaveK someK nextK nextT nextOT nextOD loopBody loopRest loopK fillJ tmplOf tmplJ mergeT At AtO drawOk ordOf gateOf callC callO topOp topO idxOf appOf storeOf clearOf sliceOf calleeOf calleeO topQ idxQ newRowOf resL stepOp seek
set_option maxRecDepth 100000 in
set_option maxHeartbeats 4000000 in
theorem take_13 {R : Ending → World → Prop} {T : List Nat} {ρ : Nm} {w0 w : World} {q : LnP} {ac cy pa xp xa xc : ByteArray} {am amt xn : Int} {Ab Ax Al : Option Addr} {nt ct nx cx nl cl : Nat} {all : List Pl} (hR : Rel T w0 ρ [⟨[.v (.map q.m)], false⟩, ⟨[LS ac, LS cy, LI am, .v (.slice Ab nt ct)], true⟩, ⟨[LS ac, LS cy], true⟩, ⟨[LS xp, LS xa, LS xc, LI xn, .v (.slice Ax nx cx)], true⟩, ⟨[LB false], true⟩] w) (hbT : q.b ∈ T) (hmT : ∀ x, q.m = some x → x ∈ T) (e0 : ρ 0 = (q.b, 0)) (hold : ∀ y, q.has y → y < w0.heap.size) (hV : Sta q.has (LnV q) ρ [⟨[.v (.map q.m)], false⟩, ⟨[LS ac, LS cy, LI am, .v (.slice Ab nt ct)], true⟩, ⟨[LS ac, LS cy], true⟩, ⟨[LS xp, LS xa, LS xc, LI xn, .v (.slice Ax nx cx)], true⟩, ⟨[LB false], true⟩] w) (hall : Own ρ [⟨[.v (.map q.m)], false⟩, ⟨[LS ac, LS cy, LI am, .v (.slice Ab nt ct)], true⟩, ⟨[LS ac, LS cy], true⟩, ⟨[LS xp, LS xa, LS xc, LI xn, .v (.slice Ax nx cx)], true⟩, ⟨[LB false], true⟩] w 0 49 2 (.slice Al nl cl) nl (plV all)) (hl : all.length = nl) (hnl : nl ≤ 100000) (hac : ac.size ≤ 281474976710656) (hcy : cy.size ≤ 281474976710656) (hpa : pa.size ≤ 281474976710656) (hok : ∀ p ∈ all, IsI64 p.qty ∧ p.asset.size ≤ 281474976710656) (d : Nat → Value)
    (hret : ∀ (ρ' : Nm) (rs' : List Reg) (w' : World) (g : Nat) (pv : Value) (out : List Pl), IsMrg all out → (∀ y, pv.ownBlock = some y → w0.heap.size ≤ y) → (q.m = some g ∨ (q.m = none ∧ w0.heap.size ≤ g)) → Rel T w0 ρ' rs' w' → LnV (q.put g (ac, cy) ⟨pa, ac, cy, amt, pv⟩ out) w' → R (.returned (.int .i64 0)) w') :
    At Try.prog (bodyPost Try.prog Try.f11 R) ⟨regK Try.f11 13, fillJ (tmplJ Try.f11.ntmps 0 [(0, .ptr 0 0), (1, LS pa), (5, .ptr 1 0), (7, .ptr 2 0), (8, .ptr 3 0), (11, .v (.slice Al nl cl)), (12, LI amt)]) d 0, [⟨[.v (.map q.m)], false⟩, ⟨[LS ac, LS cy, LI am, .v (.slice Ab nt ct)], true⟩, ⟨[LS ac, LS cy], true⟩, ⟨[LS xp, LS xa, LS xc, LI xn, .v (.slice Ax nx cx)], true⟩, ⟨[LB false], true⟩]⟩ ρ w := by
  generalize hm : q.m = m at hR hV hall ⊢
  have hag := hR.ag_ 5 (by kernel_rfl)
  cases m with
  | some g =>
    refine sim_run 9 [] (hR.cast (by kernel_rfl)) (by kernel_rfl) trivial (fun ρ100 w100 hm100 hR100 => ?_)
    have hV := hV.moved (hm100.castL (by kernel_rfl))
    have hall := hall.moved (hm100.castL (by kernel_rfl))
    have hag := hag.moved (hm100.castL (by kernel_rfl))
    
    have hagz := ((by assumption : Rel _ _ _ _ _)).ag_ 3 (by kernel_rfl)
    refine sim_to (regK Try.f11 15) (tmplJ Try.f11.ntmps 0 [(0, .ptr 0 0), (1, LS pa), (7, .ptr 2 0), (11, .v (.slice Al nl cl)), (12, LI amt)]) [⟨[.v (.map (some g))], false⟩, ⟨[LS ac, LS cy, LI am, .v (.slice Ab nt ct)], true⟩, ⟨[LS ac, LS cy], true⟩] (by kernel_rfl) (by kernel_rfl) (by kernel_rfl) (fun dd => ?_)
    refine take_15 (((by assumption : Rel _ _ _ _ _)).cut (rs := [⟨[.v (.map (some g))], false⟩, ⟨[LS ac, LS cy, LI am, .v (.slice Ab nt ct)], true⟩, ⟨[LS ac, LS cy], true⟩]) (by kernel_rfl) hagz.ag (by kernel_rfl)) ((hag.at_ 0 (by omega)).trans e0) (fun y hy => .inl (hold y hy)) (hV.cut (rs := [⟨[.v (.map (some g))], false⟩, ⟨[LS ac, LS cy, LI am, .v (.slice Ab nt ct)], true⟩, ⟨[LS ac, LS cy], true⟩]) hagz rfl (by kernel_rfl)) (hall.cut (rs := [⟨[.v (.map (some g))], false⟩, ⟨[LS ac, LS cy, LI am, .v (.slice Ab nt ct)], true⟩, ⟨[LS ac, LS cy], true⟩]) hagz rfl (by kernel_rfl)) hl hnl hac hcy hok dd (fun ρ2 w2 d2 A2 c2 out hmg e2 hR2 hV2 hO2 => ?_)
    exact take_22 hR2 hm (.inl (hmT g hm)) hV2 hO2 rfl hpa d2 (fun ρ3 rs3 w3 hR3 hV3 => hret ρ3 rs3 w3 g _ out hmg (fun y hy => own_ge hO2.own hy) (.inl hm) hR3 hV3)
  | none =>
    obtain ⟨hl0, hc0⟩ := hV.is.mp.nil hm
    refine sim_run 9 [] (hR.cast (by kernel_rfl)) (by kernel_rfl) trivial (fun ρ200 w200 hm200 hR200 => ?_)
    have hV := hV.moved (hm200.castL (by kernel_rfl))
    have hall := hall.moved (hm200.castL (by kernel_rfl))
    have hag := hag.moved (hm200.castL (by kernel_rfl))
    refine sim_make encK encLo (t := 50) (by kernel_rfl) hR200 (fun w201 g eg hb201 hM hR201 => ?_)
    have hgw : w0.heap.size ≤ g := by rw [eg]; exact (hR200).keeps.size
    have hVl := hV.is.blk.lt
    have hgb : q.b ≠ g := by rw [eg]; exact Nat.ne_of_lt hVl
    have hV := hV.below hb201
    have hall := hall.below hb201
    refine sim_run 2 [] (hR201.cast (by kernel_rfl)) (by kernel_rfl) trivial (fun ρ202 w202 hm202 hR202 => ?_)
    have hag := hag.moved (hm202.castL (by kernel_rfl))
    have hM := hM.moved (hm202.castL (by kernel_rfl))
    have hV := hV.moved (hm202.castL (by kernel_rfl))
    have hall := hall.moved (hm202.castL (by kernel_rfl))
    
    have hag3 := ((by assumption : Rel _ _ _ _ _)).ag_ 3 (by kernel_rfl)
    have hR9 := ((by assumption : Rel _ _ _ _ _)).cut (rs := [⟨[.v (.map none)], false⟩, ⟨[LS ac, LS cy, LI am, .v (.slice Ab nt ct)], true⟩, ⟨[LS ac, LS cy], true⟩]) (by kernel_rfl) hag3.ag (by kernel_rfl)
    have hV9 := hV.cut (rs := [⟨[.v (.map none)], false⟩, ⟨[LS ac, LS cy, LI am, .v (.slice Ab nt ct)], true⟩, ⟨[LS ac, LS cy], true⟩]) hag3 rfl (by kernel_rfl)
    have hM9 := hM.cut (rs := [⟨[.v (.map none)], false⟩, ⟨[LS ac, LS cy, LI am, .v (.slice Ab nt ct)], true⟩, ⟨[LS ac, LS cy], true⟩]) hag3 rfl (by kernel_rfl)
    have hall9 := hall.cut (rs := [⟨[.v (.map none)], false⟩, ⟨[LS ac, LS cy, LI am, .v (.slice Ab nt ct)], true⟩, ⟨[LS ac, LS cy], true⟩]) hag3 rfl (by kernel_rfl)
    have hwb : ∀ y, wrS ρ202 [⟨[], false⟩, ⟨[LS ac, LS cy, LI am, .v (.slice Ab nt ct)], true⟩, ⟨[LS ac, LS cy], true⟩] y → wrS ρ202 [⟨[.v (.map none)], false⟩, ⟨[LS ac, LS cy, LI am, .v (.slice Ab nt ct)], true⟩, ⟨[LS ac, LS cy], true⟩] y := fun y ⟨k, r, hk, hr, he⟩ => wr_in3b (by kernel_rfl) hk hr he
    have hRz : Rel T w0 _ [⟨[], false⟩, ⟨[LS ac, LS cy, LI am, .v (.slice Ab nt ct)], true⟩, ⟨[LS ac, LS cy], true⟩] _ := (hR9.forget (fun j => j == 0)).cast (by kernel_rfl)
    have hVz := hV9.over (rs' := [⟨[], false⟩, ⟨[LS ac, LS cy, LI am, .v (.slice Ab nt ct)], true⟩, ⟨[LS ac, LS cy], true⟩]) (fun y hy hw => hV9.far y hy (hwb y hw))
    have hMz : MpO encK encLo _ [⟨[], false⟩, ⟨[LS ac, LS cy, LI am, .v (.slice Ab nt ct)], true⟩, ⟨[LS ac, LS cy], true⟩] _ (some g) [] 0 := ⟨fun y hy => ⟨(hM9.is y hy).1, fun hw => (hM9.is y hy).2 (hwb y hw)⟩, hM9.nil⟩
    have hallz : Own _ [⟨[], false⟩, ⟨[LS ac, LS cy, LI am, .v (.slice Ab nt ct)], true⟩, ⟨[LS ac, LS cy], true⟩] _ 0 49 2 (.slice Al nl cl) nl (plV all) := ⟨hall9.own, fun y hy hw => hall9.far y hy (hwb y hw)⟩
    have hblk := hVz.is.blk
    rw [hm] at hblk
    have hb0 : q.b ∈ [q.b] := List.mem_singleton.2 rfl
    have e0 := (hag.at_ 0 (by omega)).trans e0
    refine sim_rs [⟨[], false⟩, ⟨[LS ac, LS cy, LI am, .v (.slice Ab nt ct)], true⟩, ⟨[LS ac, LS cy], true⟩] ?_
    refine sim_store (a := .ptr 0 0) (vs := [.v (.map (some g))]) (g := q.b) (o := 0) (cur := [.map none]) (by kernel_rfl) hRz (by simp only [LV.den, Nm.at_, e0, Nat.add_zero]) hblk (by show 0 + 1 ≤ 1; omega) (.inl hbT) (fun k r hk hne he => ?_) (fun w4 hb4 hk4 hR4 => ?_)
    · match k, hk with
      | 0, hk => simp at hk; subst hk; exact hne rfl
      | 1, hk => exact hVz.far q.b (.inl rfl) ⟨1, r, hk, by simp at hk; rw [← hk], he⟩
      | 2, hk => exact hVz.far q.b (.inl rfl) ⟨2, r, hk, by simp at hk; rw [← hk], he⟩
      | k + 3, hk => simp at hk
    have hV4 : Sta (LnP.mk q.b (some g) [] 0 q.f).has (LnV ⟨q.b, some g, [], 0, q.f⟩) ρ202 [⟨[], false⟩, ⟨[LS ac, LS cy, LI am, .v (.slice Ab nt ct)], true⟩, ⟨[LS ac, LS cy], true⟩] w4 := by
      have hM4 := hMz.keptS hk4 (fun y hy he => hgb (by injection hy with hy; exact he.symm.trans hy.symm))
      have h1 : LnV ⟨q.b, some g, [], 0, q.f⟩ w4 := ⟨hb4, ⟨fun y hy => ⟨(hM4.is y hy).1, noW0⟩, hM4.nil⟩, fun _ h => absurd h List.not_mem_nil⟩
      refine ⟨h1, ?_, h1.lt, LnV.same⟩
      rintro y (rfl | hy | ⟨_, h, _⟩)
      · exact hVz.far _ (.inl rfl)
      · exact (hM4.is y hy).2
      · exact absurd h List.not_mem_nil
    have hall4 : Own ρ202 [⟨[], false⟩, ⟨[LS ac, LS cy, LI am, .v (.slice Ab nt ct)], true⟩, ⟨[LS ac, LS cy], true⟩] w4 0 49 2 (.slice Al nl cl) nl (plV all) := ⟨own_kept hallz.own hk4 (fun y hy he => by
      have he : y = q.b := he
      subst he
      obtain ⟨a, m, h1⟩ := own_is_cells hallz.own hy
      have h2 : w202.heap[q.b]? = _ := hblk
      rw [h1] at h2
      injection h2 with h2
      injection h2 with _ h2
      exact absurd h2 (by decide)), hallz.far⟩
    have hR5 := hR4.look (n := 0) (cells := [.v (.map (some g))]) rfl (fun i v hv => by
      match i, hv with
      | 0, hv => simp only [List.getElem?_cons_zero, Option.some.injEq] at hv; subst hv; simp only [Nm.at_, e0, Nat.add_zero]; exact hV4.is.blk.cell 0
      | i + 1, hv => simp at hv) (by rw [e0]; exact hVz.far q.b (.inl rfl))
    have hR5 : Rel T w0 ρ202 [⟨[.v (.map (some g))], false⟩, ⟨[LS ac, LS cy, LI am, .v (.slice Ab nt ct)], true⟩, ⟨[LS ac, LS cy], true⟩] w4 := hR5
    have hwc : ∀ y, wrS ρ202 [⟨[.v (.map (some g))], false⟩, ⟨[LS ac, LS cy, LI am, .v (.slice Ab nt ct)], true⟩, ⟨[LS ac, LS cy], true⟩] y → wrS ρ202 [⟨[], false⟩, ⟨[LS ac, LS cy, LI am, .v (.slice Ab nt ct)], true⟩, ⟨[LS ac, LS cy], true⟩] y := fun y ⟨k, r, hk, hr, he⟩ => wr_in3b (by kernel_rfl) hk hr he
    have hV5 := hV4.over (ρ' := ρ202) (rs' := [⟨[.v (.map (some g))], false⟩, ⟨[LS ac, LS cy, LI am, .v (.slice Ab nt ct)], true⟩, ⟨[LS ac, LS cy], true⟩]) (fun y hy hw => hV4.far y hy (hwc y hw))
    have hall5 : Own ρ202 [⟨[.v (.map (some g))], false⟩, ⟨[LS ac, LS cy, LI am, .v (.slice Ab nt ct)], true⟩, ⟨[LS ac, LS cy], true⟩] w4 0 49 2 (.slice Al nl cl) nl (plV all) := ⟨hall4.own, fun y hy hw => hall4.far y hy (hwc y hw)⟩
    have hagE := hR5.ag_ 3 (by kernel_rfl)
    refine sim_rs [⟨[.v (.map (some g))], false⟩, ⟨[LS ac, LS cy, LI am, .v (.slice Ab nt ct)], true⟩, ⟨[LS ac, LS cy], true⟩] ?_
    clear hV hM hall hR9 hV9 hM9 hall9 hRz hVz hMz hallz hV4 hall4 hR4 hag hag3
    refine sim_run 2 [] (hR5.cast (by kernel_rfl)) (by kernel_rfl) trivial (fun ρ300 w300 hm300 hR300 => ?_)
    have hV5 := hV5.moved (hm300.castL (by kernel_rfl))
    have hall5 := hall5.moved (hm300.castL (by kernel_rfl))
    have hagE := hagE.moved (hm300.castL (by kernel_rfl))
    
    refine sim_to (regK Try.f11 15) (tmplJ Try.f11.ntmps 0 [(0, .ptr 0 0), (1, LS pa), (7, .ptr 2 0), (11, .v (.slice Al nl cl)), (12, LI amt)]) [⟨[.v (.map (some g))], false⟩, ⟨[LS ac, LS cy, LI am, .v (.slice Ab nt ct)], true⟩, ⟨[LS ac, LS cy], true⟩] (by kernel_rfl) (by kernel_rfl) (by kernel_rfl) (fun dd => ?_)
    refine take_15 (q := ⟨q.b, some g, [], 0, q.f⟩) (Rel.cast ((by assumption : Rel _ _ _ _ _)) (by kernel_rfl)) ((hagE.at_ 0 (by omega)).trans e0) (fun y hy => ?_) (hV5.castR (by kernel_rfl)) (hall5.castR (by kernel_rfl)) hl hnl hac hcy hok dd (fun ρ2 w2 d2 A2 c2 out hmg e2 hR2 hV2 hO2 => ?_)
    · rcases hy with rfl | hy | ⟨_, h, _⟩
      · exact .inl (hold _ (.inl rfl))
      · exact .inr hy
      · exact absurd h List.not_mem_nil
    · refine take_22 hR2 rfl (.inr hgw) hV2 hO2 rfl hpa d2 (fun ρ3 rs3 w3 hR3 hV3 => hret ρ3 rs3 w3 g _ out hmg (fun y hy => own_ge hO2.own hy) (.inr ⟨hm, hgw⟩) hR3 ?_)
      unfold LnP.put at hV3 ⊢
      rw [hl0, hc0]
      exact hV3
end

section
open Go Go.RowKit
theorem RelO.orAt {T : List Nat} {w0 w w' : World} {ρ ρs : Nm} {c : OCfg} (hR : RelO T w0 c ρs ρ w) {q : Nat} {x fl : Bool} (hn : c.rs[q]? = some ⟨[LB x], true⟩) (h : Go.Proofs.Ytioehmngkoffaaa.orAt (ρ.at_ q 0) w fl w') (hd : nextOD c = true) (y : LV) : RelO T w0 (nextO c y (c.rs.set q ⟨[LB (x || fl)], true⟩)) ρs ρ w' :=
  ⟨hR.rel.orAt hn h, hR.agree, hR.und, by rw [List.length_set]; exact hR.len, fun h2 => by have h3 : nextOD c = false := h2; rw [hd] at h3; cases h3⟩
attribute [local irreducible] run goO leaveK someK nextK nextT nextOT nextOD loopBody loopRest loopK fillJ tmplOf tmplJ mergeT At AtO drawOk ordOf gateOf callC callO topOp topO idxOf appOf storeOf clearOf sliceOf calleeOf calleeO topQ idxQ newRowOf resL stepOp seek
set_option maxRecDepth 100000 in
set_option maxHeartbeats 4000000 in
theorem take_10 {R : Ending → World → Prop} {T : List Nat} {ρ : Nm} {w0 w : World} {q : LnP} {ac cy pa xp xa xc : ByteArray} {am xn amt : Int} {Ab Ax Al : Option Addr} {nt ct nx cx nl cl : Nat} {all : List Pl} {o1 : Bool} (hR : Rel T w0 ρ [⟨[.v (.map q.m)], false⟩, ⟨[LS ac, LS cy, LI am, .v (.slice Ab nt ct)], true⟩, ⟨[LS ac, LS cy], true⟩, ⟨[LS xp, LS xa, LS xc, LI xn, .v (.slice Ax nx cx)], true⟩, ⟨[LB o1], true⟩] w) (e0 : ρ 0 = (q.b, 0)) (hV : Sta q.has (LnV q) ρ [⟨[.v (.map q.m)], false⟩, ⟨[LS ac, LS cy, LI am, .v (.slice Ab nt ct)], true⟩, ⟨[LS ac, LS cy], true⟩, ⟨[LS xp, LS xa, LS xc, LI xn, .v (.slice Ax nx cx)], true⟩, ⟨[LB o1], true⟩] w) (hok : LnOk 100000 100000 q) (hu : q.used pa ≤ 1152921504606846976) (ham : IsI64 am) (hall : Own ρ [⟨[.v (.map q.m)], false⟩, ⟨[LS ac, LS cy, LI am, .v (.slice Ab nt ct)], true⟩, ⟨[LS ac, LS cy], true⟩, ⟨[LS xp, LS xa, LS xc, LI xn, .v (.slice Ax nx cx)], true⟩, ⟨[LB o1], true⟩] w 0 49 2 (.slice Al nl cl) nl (plV all)) (hl : all.length = nl) (hnl : nl ≤ 100000) (h64 : ∀ p ∈ all, IsI64 p.qty) (d : Nat → Value)
    (hret : ∀ (ρ' : Nm) (rs' : List Reg) (w' : World), (o1 = true ∨ clampO (sumI [q.used pa, am]) = true ∨ ∃ a i, clampO (sumI (qtyL a (all.take i))) = true) → Rel T w0 ρ' rs' w' → Sta q.has (LnV q) ρ' rs' w' → R (.returned (.int .i64 12)) w')
    (hnext : ∀ (ρ' : Nm) (w' : World) (d' : Nat → Value), o1 = false → clampO (sumI [q.used pa, am]) = false → (∀ a, clampO (sumI (qtyL a all)) = false) → ρ' 0 = (q.b, 0) → Rel T w0 ρ' [⟨[.v (.map q.m)], false⟩, ⟨[LS ac, LS cy, LI am, .v (.slice Ab nt ct)], true⟩, ⟨[LS ac, LS cy], true⟩, ⟨[LS xp, LS xa, LS xc, LI xn, .v (.slice Ax nx cx)], true⟩, ⟨[LB false], true⟩] w' → Sta q.has (LnV q) ρ' [⟨[.v (.map q.m)], false⟩, ⟨[LS ac, LS cy, LI am, .v (.slice Ab nt ct)], true⟩, ⟨[LS ac, LS cy], true⟩, ⟨[LS xp, LS xa, LS xc, LI xn, .v (.slice Ax nx cx)], true⟩, ⟨[LB false], true⟩] w' → Own ρ' [⟨[.v (.map q.m)], false⟩, ⟨[LS ac, LS cy, LI am, .v (.slice Ab nt ct)], true⟩, ⟨[LS ac, LS cy], true⟩, ⟨[LS xp, LS xa, LS xc, LI xn, .v (.slice Ax nx cx)], true⟩, ⟨[LB false], true⟩] w' 0 49 2 (.slice Al nl cl) nl (plV all) → At Try.prog (bodyPost Try.prog Try.f11 R) ⟨regK Try.f11 13, fillJ (tmplJ Try.f11.ntmps 0 [(0, .ptr 0 0), (1, LS pa), (5, .ptr 1 0), (7, .ptr 2 0), (8, .ptr 3 0), (11, .v (.slice Al nl cl)), (12, LI amt)]) d' 0, [⟨[.v (.map q.m)], false⟩, ⟨[LS ac, LS cy, LI am, .v (.slice Ab nt ct)], true⟩, ⟨[LS ac, LS cy], true⟩, ⟨[LS xp, LS xa, LS xc, LI xn, .v (.slice Ax nx cx)], true⟩, ⟨[LB false], true⟩]⟩ ρ' w') :
    At Try.prog (bodyPost Try.prog Try.f11 R) ⟨regK Try.f11 10, fillJ (tmplJ Try.f11.ntmps 0 [(0, .ptr 0 0), (1, LS pa), (5, .ptr 1 0), (7, .ptr 2 0), (8, .ptr 3 0), (10, .ptr 4 0), (11, .v (.slice Al nl cl)), (12, LI amt)]) d 0, [⟨[.v (.map q.m)], false⟩, ⟨[LS ac, LS cy, LI am, .v (.slice Ab nt ct)], true⟩, ⟨[LS ac, LS cy], true⟩, ⟨[LS xp, LS xa, LS xc, LI xn, .v (.slice Ax nx cx)], true⟩, ⟨[LB o1], true⟩]⟩ ρ w := by
  have hag := hR.ag_ 5 (by kernel_rfl)
  refine sim_drawG [] 6 (by kernel_rfl) (by kernel_rfl) (hR.cast (by kernel_rfl)) (fun hR100 => ?_)
  have hV := hV.drew
  have hall := hall.drew
  refine sim_ordN 4 [] hR100 (by kernel_rfl) trivial (fun ρ101 w101 hm101 hR101 => ?_)
  have hag := hag.moved (hm101.castL (by kernel_rfl))
  have hV := hV.moved (hm101.castL (by kernel_rfl))
  have hall := hall.moved (hm101.castL (by kernel_rfl))
  
  have ea : Nm.at_ ρ101 0 0 = ⟨q.b, 0, none⟩ := by simp only [Nm.at_, hag.at_ 0 (by omega), e0]
  have hu1 := used_any q pa _ hV.is hok hu
  rw [← ea] at hu1
  refine sim_ord_call (T := T) (w0 := w0) 14 [.ptr 0 0, LS pa] (by kernel_rfl) ?_
  refine hu1.mono ?_
  rintro e2 w2 ⟨rfl, hb2⟩
  have hR2 := hR101.call hb2 (LI (q.used pa))
  have hV := hV.below hb2
  have hall := hall.below hb2
  refine BackO.of (LI (q.used pa)) hR2 rfl ?_
  have hul : IsI64 (q.used pa) := by
    have h1 := sumI_nonneg (hok.amts [pa])
    unfold LnP.used at hu ⊢
    unfold IsI64
    omega
  refine sim_ordN 1 [] hR2 (by kernel_rfl) trivial (fun ρ200 w200 hm200 hR200 => ?_)
  have hag := hag.moved (hm200.castL (by kernel_rfl))
  have hV := hV.moved (hm200.castL (by kernel_rfl))
  have hall := hall.moved (hm200.castL (by kernel_rfl))
  
  refine sim_ord_call (T := T) (w0 := w0) 25 [.ptr 4 0, .slc 5 0 2 2] (by kernel_rfl) ?_
  refine (accAdd_any _ _ o1 _ 2 2 [q.used pa, am] _ (hR200.rel.at_cell 4 0 (LB o1) (by kernel_rfl)) (hR200.rel.unfrozen (q := 4) (r := ⟨[LB o1], true⟩) (by kernel_rfl) rfl (by show 0 < 1; omega)) _ (hR200.rel.readsP (n := 5) (size := 1) (m := 2) (vs := [.int .i64 (q.used pa), .int .i64 am]) (b := true) (by kernel_rfl) rfl) (by intro x hx; simp only [List.mem_cons, List.not_mem_nil, or_false] at hx; rcases hx with rfl | rfl <;> assumption) (by omega)).mono ?_
  rintro e3 w3 ⟨rfl, ho⟩
  have hR3 := hR200.orAt (q := 4) (x := o1) (by kernel_rfl) ho (by kernel_rfl) (LI (clampV (sumI [q.used pa, am])))
  have hV := hV.orAt (q := 4) (cs := [LB o1]) (cs' := [LB (o1 || clampO (sumI [q.used pa, am]))]) (by kernel_rfl) ho
  have hall := hall.orAt (q := 4) (cs := [LB o1]) (cs' := [LB (o1 || clampO (sumI [q.used pa, am]))]) (by kernel_rfl) ho
  obtain ⟨oo, hoo⟩ : ∃ oo, (o1 || clampO (sumI [q.used pa, am])) = oo := ⟨_, rfl⟩
  rw [hoo] at hR3 hV hall
  have hag : Ag 5 ρ ρ200 _ := ⟨hag.ag, (hR3.rel.ag_ 5 (by kernel_rfl)).le⟩
  refine BackO.of (LI (clampV (sumI [q.used pa, am]))) hR3 rfl ?_
  clear hu1 ea
  cases oo with
  | true =>
    refine sim_ord_endR hR3 (by kernel_rfl) (fun hR300 => ?_)
    refine sim_run 15 [] (hR300.cast (by kernel_rfl)) (by kernel_rfl) trivial (fun ρ301 w301 hm301 hR301 => ?_)
    have hall := hall.moved (hm301.castL (by kernel_rfl))
    have hV := hV.moved (hm301.castL (by kernel_rfl))
    have hag := hag.moved (hm301.castL (by kernel_rfl))
    refine sim_ret (LI 12) hR301 (by kernel_rfl) (by kernel_rfl) ?_
    
    exact hret _ _ _ (by
      rw [Bool.or_eq_true] at hoo
      exact hoo.imp id .inl) ((by assumption : Rel _ _ _ _ _)) hV
  | false =>
    rw [Bool.or_eq_false_iff] at hoo
    refine sim_ord_endR hR3 (by kernel_rfl) (fun hR400 => ?_)
    refine sim_run 7 [] (hR400.cast (by kernel_rfl)) (by kernel_rfl) trivial (fun ρ401 w401 hm401 hR401 => ?_)
    have hall := hall.moved (hm401.castL (by kernel_rfl))
    have hV := hV.moved (hm401.castL (by kernel_rfl))
    have hag := hag.moved (hm401.castL (by kernel_rfl))
    
    refine sim_call 26 [.v (.slice Al nl cl)] (by kernel_rfl) ?_
    refine (over_any Al nl cl _ all _ (Reads.of_own hall.own) hl (Nat.le_refl _) hnl h64).mono ?_
    rintro e5 w5 ⟨b, rfl, hb1, hb2, hb5⟩
    have hR5 := ((by assumption : Rel _ _ _ _ _)).below hb5
    have hV := hV.below hb5
    have hall := hall.below hb5
    refine Back.of (LB b) hR5 rfl ?_
    cases b with
    | true =>
      refine sim_run 7 [] (hR5.cast (by kernel_rfl)) (by kernel_rfl) trivial (fun ρ500 w500 hm500 hR500 => ?_)
      have hag := hag.moved (hm500.castL (by kernel_rfl))
      have hV := hV.moved (hm500.castL (by kernel_rfl))
      have hall := hall.moved (hm500.castL (by kernel_rfl))
      refine sim_ret (LI 12) hR500 (by kernel_rfl) (by kernel_rfl) ?_
      
      exact hret _ _ _ (.inr (.inr (hb1 rfl))) ((by assumption : Rel _ _ _ _ _)) hV
    | false =>
      refine sim_run 7 [] (hR5.cast (by kernel_rfl)) (by kernel_rfl) trivial (fun ρ600 w600 hm600 hR600 => ?_)
      have hag := hag.moved (hm600.castL (by kernel_rfl))
      have hV := hV.moved (hm600.castL (by kernel_rfl))
      have hall := hall.moved (hm600.castL (by kernel_rfl))
      
      have hagz := ((by assumption : Rel _ _ _ _ _)).ag_ 5 (by kernel_rfl)
      refine sim_to (regK Try.f11 13) (tmplJ Try.f11.ntmps 0 [(0, .ptr 0 0), (1, LS pa), (5, .ptr 1 0), (7, .ptr 2 0), (8, .ptr 3 0), (11, .v (.slice Al nl cl)), (12, LI amt)]) [⟨[.v (.map q.m)], false⟩, ⟨[LS ac, LS cy, LI am, .v (.slice Ab nt ct)], true⟩, ⟨[LS ac, LS cy], true⟩, ⟨[LS xp, LS xa, LS xc, LI xn, .v (.slice Ax nx cx)], true⟩, ⟨[LB false], true⟩] (by kernel_rfl) (by kernel_rfl) (by kernel_rfl) (fun dd => ?_)
      exact hnext _ _ dd hoo.1 hoo.2 (hb2 rfl) ((hag.at_ 0 (by omega)).trans e0) (((by assumption : Rel _ _ _ _ _)).cut (rs := [⟨[.v (.map q.m)], false⟩, ⟨[LS ac, LS cy, LI am, .v (.slice Ab nt ct)], true⟩, ⟨[LS ac, LS cy], true⟩, ⟨[LS xp, LS xa, LS xc, LI xn, .v (.slice Ax nx cx)], true⟩, ⟨[LB false], true⟩]) (by kernel_rfl) hagz.ag (by kernel_rfl)) (hV.cut (rs := [⟨[.v (.map q.m)], false⟩, ⟨[LS ac, LS cy, LI am, .v (.slice Ab nt ct)], true⟩, ⟨[LS ac, LS cy], true⟩, ⟨[LS xp, LS xa, LS xc, LI xn, .v (.slice Ax nx cx)], true⟩, ⟨[LB false], true⟩]) hagz rfl (by kernel_rfl)) (hall.cut (rs := [⟨[.v (.map q.m)], false⟩, ⟨[LS ac, LS cy, LI am, .v (.slice Ab nt ct)], true⟩, ⟨[LS ac, LS cy], true⟩, ⟨[LS xp, LS xa, LS xc, LI xn, .v (.slice Ax nx cx)], true⟩, ⟨[LB false], true⟩]) hagz rfl (by kernel_rfl))
end

section
open Go Go.RowKit
/-- what is pledged for the loan of a purse -/
def LnP.pls (q : LnP) (k : Key) : List Pl := if hasK k q.l = true then q.f k else []
theorem LnV.at_row {q : LnP} {w : World} (h : LnV q w) (k : Key) : ∃ xp xa xc xn Ax cx, q.at_ k = ⟨xp, xa, xc, xn, .slice Ax (q.pls k).length cx⟩ ∧ w.ownsRow 0 49 2 (.slice Ax (q.pls k).length cx) (q.pls k).length (plV (q.pls k)) ∧ ∀ y, (Value.slice Ax (q.pls k).length cx).ownBlock = some y → q.has y := by
  unfold LnP.pls
  cases hlk : look k q.l with
  | none =>
    have hh : hasK k q.l = false := by unfold hasK; rw [hlk]; rfl
    rw [hh]
    exact ⟨_, _, _, _, none, 0, by unfold LnP.at_; rw [hlk]; rfl, World.ownsRow_nil _ _ _ _, fun y hy => by cases hy⟩
  | some x =>
    have hh : hasK k q.l = true := by unfold hasK; rw [hlk]; rfl
    rw [hh, if_pos rfl]
    obtain ⟨e, he, hek, hev⟩ := look_mem hlk
    have hrow := h.row e he
    rw [hev, hek] at hrow
    have hbl : ∀ y, x.pv.ownBlock = some y → q.has y := fun y hy => .inr (.inr ⟨e, he, by rw [hev]; exact hy⟩)
    obtain ⟨xp, xa, xc, xn, xv⟩ := x
    obtain ⟨Ax, cx, hxv⟩ := own_row hrow
    have hxv : xv = .slice Ax (q.f k).length cx := hxv
    subst hxv
    exact ⟨_, _, _, _, Ax, cx, by unfold LnP.at_; rw [hlk]; rfl, hrow, hbl⟩
theorem LnP.pls_in {q : LnP} {k : Key} {p : Pl} (h : p ∈ q.pls k) : ∃ e ∈ q.l, p ∈ q.f e.key := by
  unfold LnP.pls at h
  split at h
  · rename_i hh
    obtain ⟨e, he, hek, _⟩ := look_of_key (hasK_iff.1 hh)
    exact ⟨e, he, by rw [hek]; exact h⟩
  · cases h
theorem LnOk.plen {n m : Nat} {q : LnP} (h : LnOk n m q) (k : Key) : (q.pls k).length ≤ m := by
  unfold LnP.pls
  split
  · rename_i hh
    obtain ⟨e, he, hek, _⟩ := look_of_key (hasK_iff.1 hh)
    rw [← hek]
    exact h.pls e he
  · exact Nat.zero_le _
theorem LnOk.amt0 {n m : Nat} {q : LnP} (h : LnOk n m q) (k : Key) : 0 ≤ (q.at_ k).amt ∧ (q.at_ k).amt ≤ 1152921504606846976 := by
  unfold LnP.at_
  cases hl : look k q.l with
  | none => exact ⟨Int.le_refl 0, by show (0 : Int) ≤ _; omega⟩
  | some x =>
    obtain ⟨e, he, _, hev⟩ := look_mem hl
    have := h.amt e he
    rw [hev] at this
    exact this
theorem LnOk.mono {n m n' m' : Nat} {q : LnP} (h : LnOk n m q) (hn : n ≤ n') (hm : m ≤ m') : LnOk n' m' q := ⟨Nat.le_trans h.len hn, fun e he => Nat.le_trans (h.pls e he) hm, h.key, h.amt, h.qty⟩
/-- what a take answers, and leaves -/
def TakeR (q : LnP) (pa ac cy : ByteArray) (am : Int) (ps : List Pl) (w : World) (e : Ending) (w' : World) : Prop :=
  Kept (fun y => y ∈ q.b :: mT q.m) w w' ∧ ∃ c : Int, e = .returned (.int .i64 c) ∧
   ((c = 1 ∧ wrongB am ps = true ∧ LnV q w') ∨
    (c = 22 ∧ hasK (ac, cy) q.l = true ∧ (q.at_ (ac, cy)).party ≠ pa ∧ LnV q w') ∨
    (c = 12 ∧ (clampO (sumI [(q.at_ (ac, cy)).amt, am]) = true ∨ clampO (sumI [q.used pa, am]) = true ∨ ∃ a i, clampO (sumI (qtyL a ((q.pls (ac, cy) ++ ps).take i))) = true) ∧ LnV q w') ∨
    (c = 0 ∧ wrongB am ps = false ∧ (hasK (ac, cy) q.l = true → (q.at_ (ac, cy)).party = pa) ∧ clampO (sumI [(q.at_ (ac, cy)).amt, am]) = false ∧ clampO (sumI [q.used pa, am]) = false ∧ (∀ a, clampO (sumI (qtyL a (q.pls (ac, cy) ++ ps))) = false) ∧
      ∃ g pv out, IsMrg (q.pls (ac, cy) ++ ps) out ∧ (∀ y, pv.ownBlock = some y → w.heap.size ≤ y) ∧ (q.m = some g ∨ (q.m = none ∧ w.heap.size ≤ g)) ∧ LnV (q.put g (ac, cy) ⟨pa, ac, cy, clampV (sumI [(q.at_ (ac, cy)).amt, am]), pv⟩ out) w'))
attribute [local irreducible] run goO leaveK someK nextK nextT nextOT nextOD loopBody loopRest loopK fillJ tmplOf tmplJ mergeT At AtO drawOk ordOf gateOf callC callO topOp topO idxOf appOf storeOf clearOf sliceOf calleeOf calleeO topQ idxQ newRowOf resL stepOp seek
set_option maxRecDepth 100000 in
set_option maxHeartbeats 4000000 in
theorem take_any (q : LnP) (pa ac cy : ByteArray) (am : Int) (Ab : Option Addr) (nt ct Bt : Nat) (ps : List Pl) (w : World) (h : LnV q w) (hok : LnOk 100000 90000 q) (hu : q.used pa ≤ 1152921504606846976) (ham : IsI64 am) (hrd : Reads w Bt 2 Ab nt (plV ps)) (hl : ps.length = nt) (hBt : Bt ≤ w.heap.size) (hnt : nt ≤ 1000) (hac : ac.size ≤ 281474976710656) (hcy : cy.size ≤ 281474976710656) (hpa : pa.size ≤ 281474976710656) (hp64 : ∀ p ∈ ps, IsI64 p.qty ∧ p.asset.size ≤ 281474976710656) (hAb : ∀ a, Ab = some a → a.block < w.heap.size) :
    Calls Try.prog 11 #[.pointer (some ⟨q.b, 0, none⟩), .string pa, .agg #[.string ac, .string cy, .int .i64 am, .slice Ab nt ct]] w (TakeR q pa ac cy am ps w) := by
  obtain ⟨ρ, e0, hR⟩ := h.open_ false (q.b :: mT q.m) (fun h => by cases h)
  have hV : Sta q.has (LnV q) ρ [⟨[.v (.map q.m)], false⟩] w := h.sta (by kernel_rfl)
  have hps : Sta (RdS Ab) (fun w => Reads w Bt 2 Ab nt (plV ps)) ρ [⟨[.v (.map q.m)], false⟩] w := Sta.ro_ hrd (by kernel_rfl) (fun x ⟨a, ha, hx⟩ => hx ▸ hAb a ha) Reads.same
  refine sim_enter Try.func11 ρ [.ptr 0 0, LS pa, .agg [LS ac, LS cy, LI am, .v (.slice Ab nt ct)]] [⟨[.v (.map q.m)], false⟩] (by kernel_rfl) (by simp only [denL, LV.den, Nm.at_, e0]) ?_
  have hag := hR.ag_ 1 (by kernel_rfl)
  refine sim_run 12 [] (hR.cast (by kernel_rfl)) (by kernel_rfl) trivial (fun ρ100 w100 hm100 hR100 => ?_)
  have hV := hV.moved (hm100.castL (by kernel_rfl))
  have hps := hps.moved (hm100.castL (by kernel_rfl))
  have hag := hag.moved (hm100.castL (by kernel_rfl))
  
  refine sim_call 23 [.agg [LS ac, LS cy, LI am, .v (.slice Ab nt ct)]] (by kernel_rfl) ?_
  refine (wrong_any ac cy am Ab nt ct Bt ps _ hps.is hl (Nat.le_trans hBt ((by assumption : Rel _ _ _ _ _)).keeps.size) (by omega)).mono ?_
  rintro e1 w1 ⟨rfl, hb1⟩
  have hR1 := ((by assumption : Rel _ _ _ _ _)).below hb1
  have hV := hV.below hb1
  have hps := hps.below hb1
  refine Back.of (LB (wrongB am ps)) hR1 rfl ?_
  unfold TakeR
  cases hw : wrongB am ps with
  | true =>
    refine sim_run 7 [] (hR1.cast (by kernel_rfl)) (by kernel_rfl) trivial (fun ρ200 w200 hm200 hR200 => ?_)
    have hag := hag.moved (hm200.castL (by kernel_rfl))
    have hV := hV.moved (hm200.castL (by kernel_rfl))
    have hps := hps.moved (hm200.castL (by kernel_rfl))
    refine sim_ret (LI 1) hR200 (by kernel_rfl) (by kernel_rfl) ?_
    
    exact ⟨((by assumption : Rel _ _ _ _ _)).keeps.kept, 1, rfl, .inl ⟨rfl, rfl, hV.is⟩⟩
  | false =>
    obtain ⟨xp, xa, xc, xn, Ax, cx, hat, hrow, hrb⟩ := hV.is.at_row (ac, cy)
    have hxr : Own _ _ w1 0 49 2 (.slice Ax (q.pls (ac, cy)).length cx) (q.pls (ac, cy)).length (plV (q.pls (ac, cy))) := ⟨hrow, fun y hy => hV.far y (hrb y hy)⟩
    have hat2 := hat
    unfold LnP.at_ at hat2
    have hxn := hok.amt0 (ac, cy)
    rw [hat] at hxn
    have hxn : 0 ≤ xn ∧ xn ≤ 1152921504606846976 := hxn
    have hpl := hok.plen (ac, cy)
    have hpq : ∀ p ∈ q.pls (ac, cy) ++ ps, IsI64 p.qty ∧ p.asset.size ≤ 281474976710656 := fun p hp => (List.mem_append.1 hp).elim (fun h1 => by
      obtain ⟨e, he, hpe⟩ := LnP.pls_in h1
      exact hok.qty e he p hpe) (hp64 p)
    generalize hps0 : q.pls (ac, cy) = ps0 at *
    generalize hh : hasK (ac, cy) q.l = had at *
    rw [hat]
    refine sim_run 15 [] (hR1.cast (by kernel_rfl)) (by kernel_rfl) trivial (fun ρ300 w300 hm300 hR300 => ?_)
    have hag := hag.moved (hm300.castL (by kernel_rfl))
    have hV := hV.moved (hm300.castL (by kernel_rfl))
    have hps := hps.moved (hm300.castL (by kernel_rfl))
    have hxr := hxr.moved (hm300.castL (by kernel_rfl))
    refine sim_drawF2 [(0, false), (1, false), (2, false), (3, false), (4, false)] (5, [(6, false), (7, false), (8, false), (9, true), (10, true), (11, false)]) (9, [(5, true), (6, false), (7, false), (8, false), (10, true), (11, false)]) (some 10) (by kernel_rfl) (by kernel_rfl) hR300 (fun hR301 => ?_) (fun hR301 => ?_)
    have hV := hV.drew
    have hps := hps.drew
    have hxr := hxr.drew
    refine sim_ordN 5 [] hR301 (by kernel_rfl) trivial (fun ρ302 w302 hm302 hR302 => ?_)
    have hag := hag.moved (hm302.castL (by kernel_rfl))
    have hV := hV.moved (hm302.castL (by kernel_rfl))
    have hps := hps.moved (hm302.castL (by kernel_rfl))
    have hxr := hxr.moved (hm302.castL (by kernel_rfl))
    refine sim_ord_look (enc := encK) (encV := encLo) (mx := .v (Value.map q.m)) (kx := .agg [LS ac, LS cy]) (ok := true) (ac, cy) (.tup [.agg [LS xp, LS xa, LS xc, LI xn, .v (.slice Ax ps0.length cx)], LB had]) (by kernel_rfl) ml_ty kt_key zero_lo (LnV.over hV) rfl rfl hR302 (by rw [hh, hat2]; rfl) (fun hR303 => ?_)
    refine sim_ordN 6 [] hR303 (by kernel_rfl) trivial (fun ρ304 w304 hm304 hR304 => ?_)
    have hag := hag.moved (hm304.castL (by kernel_rfl))
    have hV := hV.moved (hm304.castL (by kernel_rfl))
    have hps := hps.moved (hm304.castL (by kernel_rfl))
    have hxr := hxr.moved (hm304.castL (by kernel_rfl))
    refine sim_ord_endR hR304 (by kernel_rfl) (fun hR305 => ?_)
    refine sim_run 3 [] (hR305.cast (by kernel_rfl)) (by kernel_rfl) trivial (fun ρ306 w306 hm306 hR306 => ?_)
    have hag := hag.moved (hm306.castL (by kernel_rfl))
    have hV := hV.moved (hm306.castL (by kernel_rfl))
    have hps := hps.moved (hm306.castL (by kernel_rfl))
    have hxr := hxr.moved (hm306.castL (by kernel_rfl))
    rotate_left
    have hV := hV.drew
    have hps := hps.drew
    have hxr := hxr.drew
    refine sim_ordN 6 [] hR301 (by kernel_rfl) trivial (fun ρ307 w307 hm307 hR307 => ?_)
    have hag := hag.moved (hm307.castL (by kernel_rfl))
    have hV := hV.moved (hm307.castL (by kernel_rfl))
    have hps := hps.moved (hm307.castL (by kernel_rfl))
    have hxr := hxr.moved (hm307.castL (by kernel_rfl))
    refine sim_ord_look (enc := encK) (encV := encLo) (mx := .v (Value.map q.m)) (kx := .agg [LS ac, LS cy]) (ok := true) (ac, cy) (.tup [.agg [LS xp, LS xa, LS xc, LI xn, .v (.slice Ax ps0.length cx)], LB had]) (by kernel_rfl) ml_ty kt_key zero_lo (LnV.over hV) rfl rfl hR307 (by rw [hh, hat2]; rfl) (fun hR308 => ?_)
    refine sim_ordN 5 [] hR308 (by kernel_rfl) trivial (fun ρ309 w309 hm309 hR309 => ?_)
    have hag := hag.moved (hm309.castL (by kernel_rfl))
    have hV := hV.moved (hm309.castL (by kernel_rfl))
    have hps := hps.moved (hm309.castL (by kernel_rfl))
    have hxr := hxr.moved (hm309.castL (by kernel_rfl))
    refine sim_ord_endR hR309 (by kernel_rfl) (fun hR310 => ?_)
    refine sim_run 3 [] (hR310.cast (by kernel_rfl)) (by kernel_rfl) trivial (fun ρ311 w311 hm311 hR311 => ?_)
    have hag := hag.moved (hm311.castL (by kernel_rfl))
    have hV := hV.moved (hm311.castL (by kernel_rfl))
    have hps := hps.moved (hm311.castL (by kernel_rfl))
    have hxr := hxr.moved (hm311.castL (by kernel_rfl))
    rotate_left
    
    all_goals
      refine sim_to (regK Try.f11 5) (tmplJ Try.f11.ntmps 0 [(0, .ptr 0 0), (1, LS pa), (5, .ptr 1 0), (7, .ptr 2 0), (8, .ptr 3 0), (9, LB had)]) [⟨[.v (.map q.m)], false⟩, ⟨[LS ac, LS cy, LI am, .v (.slice Ab nt ct)], true⟩, ⟨[LS ac, LS cy], true⟩, ⟨[LS xp, LS xa, LS xc, LI xn, .v (.slice Ax ps0.length cx)], true⟩] (by kernel_rfl) (by kernel_rfl) (by kernel_rfl) (fun dd => ?_)
      refine take_5 (Rel.cast (by assumption) (by kernel_rfl)) ((hag.at_ 0 (by omega)).trans e0) (hV.castR (by kernel_rfl)) (hxr.castR (by kernel_rfl)) (hps.castR (by kernel_rfl)) hBt ham (by unfold IsI64; omega) (by omega) hnt dd (fun ρ2 rs2 w2 hhad hne hR2 hV2 => ⟨hR2.keeps.kept, 22, rfl, .inr (.inl ⟨rfl, hhad, hne, hV2.is⟩)⟩) (fun ρ2 w2 d2 Al cl hhp e2 hR2 hV2 hO2 => ?_)
      refine take_10 hR2 e2 hV2 (hok.mono (Nat.le_refl _) (by omega)) hu ham hO2 (by rw [List.length_append, hl]) (by omega) (fun p hp => (hpq p hp).1) d2 (fun ρ3 rs3 w3 hor hR3 hV3 => ⟨hR3.keeps.kept, 12, rfl, .inr (.inr (.inl ⟨rfl, hor, hV3.is⟩))⟩) (fun ρ3 w3 d3 ho1 ho2 hov e3 hR3 hV3 hO3 => ?_)
      exact take_13 hR3 (List.mem_cons_self ..) (fun x hx => List.mem_cons_of_mem _ (mem_mT.2 hx)) e3 h.lt hV3 hO3 (by rw [List.length_append, hl]) (by omega) hac hcy hpa hpq d3 (fun ρ4 rs4 w4 g pv out hmg hpv hg hR4 hV4 => ⟨hR4.keeps.kept, 0, rfl, .inr (.inr (.inr ⟨rfl, rfl, hhp, ho1, ho2, hov, g, pv, out, hmg, hpv, hg, hV4⟩))⟩)
end
end Go.Proofs.Ytioehmngkoffaaa
