/-
  credit.Lines.Pledged, where there is one loan at most.
-/
import Derived.Test.YtioehmngkoffaaaCrLw
namespace Go.Proofs.Ytioehmngkoffaaa
open Go Go.RowKit
theorem told_one {vs : List (LoC × List Pl)} {y : Lo} (h : told vs = [y]) : ∃ x ps, vs = [(x, ps)] ∧ x.of ps = y := by
  cases vs with
  | nil => cases h
  | cons v vs =>
    cases vs with
    | nil => exact ⟨v.1, v.2, rfl, by injection h⟩
    | cons u vs => injection h with _ h; cases h
theorem told_nil {vs : List (LoC × List Pl)} (h : told vs = []) : vs = [] := by
  cases vs with
  | nil => rfl
  | cons v vs => cases h
theorem St.loans {q : LnP} {o p : Int} (h : St q o p) : (p = 0 ∧ o = 0 ∧ q.loans [] = []) ∨ (0 < p ∧ q.loans [] = [⟨bP, bA, bE, o, [⟨bX, p⟩]⟩]) := by
  rcases h.c with ⟨h0, h1, h2⟩ | ⟨h0, pv, h2⟩
  · exact .inl ⟨h0, h1, no_loans h2 []⟩
  · refine .inr ⟨h0, ?_⟩
    rw [h2.loans, if_pos (by unfold LnP.ask; rfl)]
    rfl
attribute [local irreducible] run goO leaveK someK nextK nextT nextOT nextOD loopBody loopRest loopK fillJ tmplOf tmplJ mergeT At AtO drawOk ordOf gateOf callC callO topOp topO idxOf appOf storeOf clearOf sliceOf calleeOf calleeO topQ idxQ newRowOf resL stepOp seek
set_option maxRecDepth 100000 in
set_option maxHeartbeats 4000000 in
theorem pledged_St (q : LnP) (o p : Int) (w : World) (h : LnV q w) (hs : St q o p) :
    Calls Try.prog 16 #[.pointer (some ⟨q.b, 0, none⟩), .string bA, .string bX] w fun e w' => e = .returned (.int .i64 p) ∧ Below w.heap.size w w' := by
  refine sim_enter Try.func16 ρ0 [.v (.pointer (some ⟨q.b, 0, none⟩)), LS bA, LS bX] [] (by kernel_rfl) rfl ?_
  have hR := Rel.start [] w ρ0
  have hV : Sta q.has (LnV q) ρ0 [] w := h.sta (by kernel_rfl)
  refine sim_run 16 [] (hR.cast (by kernel_rfl)) (by kernel_rfl) trivial (fun ρ100 w100 hm100 hR100 => ?_)
  have hV := hV.moved (hm100.castL (by kernel_rfl))
  
  refine sim_call 8 [.v (.pointer (some ⟨q.b, 0, none⟩)), .v (.slice none 0 0)] (by kernel_rfl) ?_
  refine (loans_any q none 0 0 0 [] _ hV.is (hs.ok.mono (Nat.le_refl _) (by omega)) ⟨rfl, fun h => absurd h (Nat.lt_irrefl 0)⟩ rfl (Nat.zero_le _) (by omega)).mono ?_
  rintro e2 w2 ⟨⟨As, cs, vs⟩, rfl, hL, htold, hb2⟩
  have hsz := ((by assumption : Rel _ _ _ _ _)).keeps.size
  have hL : LsO ρ100 _ w2 w.heap.size (LsP.mk As cs vs).val vs := hL.start ((by assumption : Rel _ _ _ _ _)) hsz
  have hR2 := ((by assumption : Rel _ _ _ _ _)).below hb2
  dsimp only [LsP.val] at hL htold ⊢
  rcases hs.loans with ⟨h0, _, h2⟩ | ⟨h0, h2⟩
  · rw [h2] at htold
    have hvs := told_nil htold
    subst hvs h0
    refine Back.of (.v (.slice As 0 cs)) hR2 rfl ?_
    refine sim_run 4 [] (hR2.cast (by kernel_rfl)) (by kernel_rfl) trivial (fun ρ200 w200 hm200 hR200 => ?_)
    have hL := hL.moved (hm200.castL (by kernel_rfl))
    refine sim_unroll 1 (by kernel_rfl) ?_
    refine sim_run 13 [] (hR200.cast (by kernel_rfl)) (by kernel_rfl) trivial (fun ρ201 w201 hm201 hR201 => ?_)
    have hL := hL.moved (hm201.castL (by kernel_rfl))
    refine sim_ret (LI 0) hR201 (by kernel_rfl) (by kernel_rfl) ?_
    exact ⟨rfl, hR201.toBelow⟩
    
  · rw [h2] at htold
    obtain ⟨x, ps, rfl, hx⟩ := told_one htold
    obtain ⟨xp, xa, xc, xn, xv⟩ := x
    unfold LoC.of at hx
    injection hx with h3 h4 h5 h6 h7
    have h4 : xa = bA := h4
    subst h4 h7
    have hpl := hL.pls _ (List.mem_singleton.2 rfl)
    obtain ⟨Ax, cx, hxv⟩ := own_row hpl.own
    have hxv : xv = .slice Ax 1 cx := hxv
    subst hxv
    obtain ⟨gs, rfl⟩ := own_spot hL.row.own (by show 0 < 1; omega)
    obtain ⟨gp, rfl⟩ := own_spot hpl.own (by show 0 < 1; omega)
    refine Back.of (.v (.slice (some ⟨gs, 0, none⟩) 1 cs)) hR2 rfl ?_
    refine sim_seeO (xss := [[.string xp, .string bA, .string xc, .int .i64 xn, .slice (some ⟨gp, 0, none⟩) 1 cx]]) (sz := 5) [.string xp, .string bA, .string xc, .int .i64 xn, .slice (some ⟨gp, 0, none⟩) 1 cx] 0 1 (by kernel_rfl) rfl hL.row (by intro y hy; rw [List.mem_singleton.1 hy]; rfl) (by omega) (by show 0 < 1; omega) hR2 (by kernel_rfl) (fun ρ8 hm8 e8 hR8 => ?_)
    have hpl := hpl.moved hm8
    refine sim_seeO (xss := [[.string bX, .int .i64 p]]) (sz := 2) [.string bX, .int .i64 p] 0 2 (by kernel_rfl) rfl hpl (by intro y hy; rw [List.mem_singleton.1 hy]; rfl) (by omega) (by show 0 < 1; omega) hR8 (by kernel_rfl) (fun ρ9 hm9 e9 hR9 => ?_)
    have e8 := (hm9.agree 1 (Nat.le_of_ble_eq_true (by kernel_rfl))).trans e8
    have hag := hR9.ag_ 3 (by kernel_rfl)
    clear hpl hL hR8 hR2 hV
    have hp0 := hs.p0
    refine sim_run 4 [] (hR9.cast (by kernel_rfl)) (by kernel_rfl) trivial (fun ρ300 w300 hm300 hR300 => ?_)
    have hag := hag.moved (hm300.castL (by kernel_rfl))
    refine sim_unroll 3 (by kernel_rfl) ?_
    refine sim_run 12 [] (hR300.cast (by kernel_rfl)) (by kernel_rfl) trivial (fun ρ301 w301 hm301 hR301 => ?_)
    have hag := hag.moved (hm301.castL (by kernel_rfl))
    refine sim_place (.v (.slice (some ⟨gs, 0, none⟩) 1 cs)) 1 5 0 1 0 (by kernel_rfl) (by omega) (by omega) rfl (by simp only [Nm.at_, hag.at_ 1 (by omega), e8]; rfl) ?_
    refine sim_run 12 [] (hR301.cast (by kernel_rfl)) (by kernel_rfl) trivial (fun ρ303 w303 hm303 hR303 => ?_)
    have hag := hag.moved (hm303.castL (by kernel_rfl))
    refine sim_unroll 3 (by kernel_rfl) ?_
    refine sim_run 12 [] (hR303.cast (by kernel_rfl)) (by kernel_rfl) trivial (fun ρ304 w304 hm304 hR304 => ?_)
    have hag := hag.moved (hm304.castL (by kernel_rfl))
    refine sim_place (.v (.slice (some ⟨gp, 0, none⟩) 1 cx)) 1 2 0 2 0 (by kernel_rfl) (by omega) (by omega) rfl (by simp only [Nm.at_, hag.at_ 2 (by omega), e9]; rfl) ?_
    refine sim_run 23 [] (hR304.cast (by kernel_rfl)) (by kernel_rfl) trivial (fun ρ307 w307 hm307 hR307 => ?_)
    have hag := hag.moved (hm307.castL (by kernel_rfl))
    
    have hS : sumI [0, p] = p := by simp only [sumI]; omega
    have hcl := clampO_in (v := sumI [0, p]) (by omega) (by omega)
    refine sim_call 25 [.ptr 0 0, .slc 5 0 2 2] (by kernel_rfl) ?_
    refine (accAdd_any _ _ false _ 2 2 [0, p] _ (((by assumption : Rel _ _ _ _ _)).at_cell 0 0 (LB false) (by kernel_rfl)) (((by assumption : Rel _ _ _ _ _)).unfrozen (q := 0) (r := ⟨[LB false], true⟩) (by kernel_rfl) rfl (by show 0 < 1; omega)) _ (((by assumption : Rel _ _ _ _ _)).readsP (n := 5) (size := 1) (m := 2) (vs := [.int .i64 0, .int .i64 p]) (b := true) (by kernel_rfl) rfl) (by intro x hx; simp only [List.mem_cons, List.not_mem_nil, or_false] at hx; unfold IsI64; rcases hx with rfl | rfl <;> omega) (by omega)).mono ?_
    rintro e7 w7 ⟨rfl, ho⟩
    rw [hcl.1] at ho
    obtain rfl : _ = w7 := (ho.elim (fun h => h.2) (fun h => by cases h.1))
    rw [hcl.2, hS]
    refine Back.of (LI p) ((by assumption : Rel _ _ _ _ _)) rfl ?_
    refine sim_run 33 [] (hR307.cast (by kernel_rfl)) (by kernel_rfl) trivial (fun ρ400 w400 hm400 hR400 => ?_)
    have hag := hag.moved (hm400.castL (by kernel_rfl))
    refine sim_ret (LI p) hR400 (by kernel_rfl) (by kernel_rfl) ?_
    exact ⟨rfl, hR400.toBelow⟩
    
end Go.Proofs.Ytioehmngkoffaaa
