/-
  A row of instructions that is sorted in place, stably.
-/
import Derived.Test.YtnojkclgjinjhaaSortF
namespace Go.Proofs.Ytnojkclgjinjhaa
open Go Go.RowKit
attribute [local irreducible] run goO leaveK someK nextK nextT nextOT nextOD loopBody loopRest loopK fillJ tmplOf tmplJ mergeT At AtO drawOk ordOf gateOf callC callO topOp topO idxOf appOf storeOf clearOf sliceOf calleeOf calleeO topQ idxQ newRowOf resL stepOp seek

section
variable (g : FuncId) (hg : Enters Try.prog g) (caps : Array Value) (cmp : In → In → Int) (hcmp : CmpAll g caps cmp) (hw : Weak (ltC cmp)) (h len cap : Nat) (rest : List Value) (hmax : len ≤ 1000000)
include hg hcmp hmax hw
set_option maxHeartbeats 4000000 in
set_option maxRecDepth 100000 in
theorem stable_any (xs : List In) (w : World) (hl : xs.length = len) (hok : ∀ x ∈ xs, x.ok) (hblk : Blk w h 27 (insts xs ++ rest).toArray) :
    Calls Try.prog 70 #[.slice (some ⟨h, 0, none⟩) len cap, .int .i64 len, .func (.func g) #[] caps] w (RowPost w h rest (ssort (ltC cmp) xs)) := by
  refine sim_enter Try.func70 ρ0 [.v (.slice (some ⟨h, 0, none⟩) len cap), LI len, .v (.func (.func g) #[] caps)] [] (by kernel_rfl) rfl ?_
  have hR := Rel.start [h] w ρ0
  have hrow : RowI ρ0 [] w h xs rest [] := .start hblk _ _ rfl
  refine sim_run 12 [] (hR.cast (by kernel_rfl)) (by kernel_rfl) trivial (fun ρ100 w100 hm100 hR100 => ?_)
  have hrow := hrow.moved (hm100.castL (by kernel_rfl))
  
  refine sim_loop (ι := Nat) (T := [h]) (w0 := w) 0 [0, 1, 2, 6] (fun a => [(7, LI a), (8, LI ((a : Int) + 20))]) (fun _ => []) (fun a w1 => a ≤ len ∧ ∃ cur, cur.length = len ∧ (∀ x ∈ cur, x.ok) ∧ Blocks (ltC cmp) 20 xs cur a ∧ Blk w1 h 27 (insts cur ++ rest).toArray) (fun a => len - a) (by kernel_rfl) (by kernel_rfl) (hR100.cast (by kernel_rfl)) ⟨Nat.zero_le _, xs, hl, hok, Blocks.start 20 xs, hrow.close0⟩ ?_
  iterate 6 (try clear hrow)
  clear hR100 hm100 hblk
  rintro a d w2 hR2 ⟨hal, cur, hcl, hcok, hbs, hblk⟩
  have hrow : RowI ρ100 [] w2 h cur rest [] := .start hblk _ _ rfl
  by_cases hlt : a + 20 ≤ len
  · refine sim_run 7 [] (hR2.cast (by kernel_rfl)) (by kernel_rfl) trivial (fun ρ200 w200 hm200 hR200 => ?_)
    have hrow := hrow.moved (hm200.castL (by kernel_rfl))
    refine sim_know 13 (decide ((↑a : Int) + 20 ≤ (↑len : Int))) true (by kernel_rfl) (decide_eq_true (by omega)) ?_
    refine sim_run 9 [] (hR200.cast (by kernel_rfl)) (by kernel_rfl) trivial (fun ρ201 w201 hm201 hR201 => ?_)
    have hrow := hrow.moved (hm201.castL (by kernel_rfl))
    refine sim_call 85 [.v (Value.slice (some (Addr.mk h 0 none)) len cap), LI ((↑a : Int)), LI ((↑a : Int) + 20), .v (Value.func (Fn.func g) (Array.mk []) caps)] (by kernel_rfl) ?_
    refine Calls.mono (insertion_any (g) (hg) (caps) (cmp) (hcmp) (h) (len) (cap) (cur) (rest) (hcok) (a) (a + 20) ((by omega)) ((by omega)) (hcl) (hmax) _ (hrow.close0)) ?_
    rintro e202 w202 ⟨rfl, hblk202, hk202⟩
    have hR202 := hR201.kept hk202 (fun n r hn => (noReg (by kernel_rfl) hn).elim) (fun x hx => .inl hx)
    have hrow := RowI.at_ hR202 hblk202 (by kernel_rfl)
    refine Back.of (.tup []) hR202 rfl ?_
    refine sim_run 13 [⟨5, 2, LI (IntKind.i64.wrap ((↑a : Int) + 20 + 20)), LI ((↑a : Int) + 20 + 20)⟩] (hR202.cast (by kernel_rfl)) (by kernel_rfl) ⟨eqi (IntWalk.i64_in _ (by omega)), trivial⟩ (fun ρ203 w203 hm203 hR203 => ?_)
    have hrow := hrow.moved (hm203.castL (by kernel_rfl))
    
    refine sim_again (a + 20) (by kernel_rfl) (by show len - (a + 20) < len - a; omega) (by kernel_rfl) (by kernel_rfl) (by kernel_rfl) (fun m hm => absurd hm (by simp)) (hR203.cast (by kernel_rfl)) (by kernel_rfl) (by kernel_rfl) ⟨hlt, _, ?_, ?_, ?_, hrow.close0⟩
    · rw [insM_len]; exact hcl
    · exact insM_all _ _ _ hcok _
    · have := hbs.step hw (by omega) (by omega)
      rw [show a + 20 - a - 1 = 20 - 1 by omega]
      exact this
  · refine sim_run 7 [] (hR2.cast (by kernel_rfl)) (by kernel_rfl) trivial (fun ρ300 w300 hm300 hR300 => ?_)
    have hrow := hrow.moved (hm300.castL (by kernel_rfl))
    refine sim_know 13 (decide ((↑a : Int) + 20 ≤ (↑len : Int))) false (by kernel_rfl) (decide_eq_false (by omega)) ?_
    refine sim_run 1 [] (hR300.cast (by kernel_rfl)) (by kernel_rfl) trivial (fun ρ301 w301 hm301 hR301 => ?_)
    have hrow := hrow.moved (hm301.castL (by kernel_rfl))
    refine sim_leave (by kernel_rfl) ?_
    refine sim_run 6 [] (hR301.cast (by kernel_rfl)) (by kernel_rfl) trivial (fun ρ302 w302 hm302 hR302 => ?_)
    have hrow := hrow.moved (hm302.castL (by kernel_rfl))
    refine sim_call 85 [.v (Value.slice (some (Addr.mk h 0 none)) len cap), LI ((↑a : Int)), LI ((↑len : Int)), .v (Value.func (Fn.func g) (Array.mk []) caps)] (by kernel_rfl) ?_
    refine Calls.mono (insertion_any (g) (hg) (caps) (cmp) (hcmp) (h) (len) (cap) (cur) (rest) (hcok) (a) (len) ((by omega)) ((by omega)) (hcl) (hmax) _ (hrow.close0)) ?_
    rintro e303 w303 ⟨rfl, hblk303, hk303⟩
    have hR303 := hR302.kept hk303 (fun n r hn => (noReg (by kernel_rfl) hn).elim) (fun x hx => .inl hx)
    have hrow := RowI.at_ hR303 hblk303 (by kernel_rfl)
    refine Back.of (.tup []) hR303 rfl ?_
    refine sim_run 2 [] (hR303.cast (by kernel_rfl)) (by kernel_rfl) trivial (fun ρ304 w304 hm304 hR304 => ?_)
    have hrow := hrow.moved (hm304.castL (by kernel_rfl))
    
    have hcs := hbs.done hw (by omega)
    rw [hl] at hcs
    have hcl2 := insM_len (ltC cmp) cur a (len - a - 1)
    have hcok2 := insM_all (ltC cmp) cur a hcok (len - a - 1)
    obtain ⟨c2, hc2⟩ : ∃ c2, insM (ltC cmp) cur a (len - a - 1) = c2 := ⟨_, rfl⟩
    rw [hc2] at hrow hcs hcl2 hcok2
    rw [hcl] at hcl2
    refine sim_loop (ι := Nat) (T := [h]) (w0 := w) 20 [0, 1, 2] (fun s => [(6, LI s)]) (fun _ => []) (fun s w1 => 0 < s ∧ s ≤ 2 * len + 20 ∧ ∃ cur, cur.length = len ∧ (∀ x ∈ cur, x.ok) ∧ CS (ltC cmp) s xs cur ∧ Blk w1 h 27 (insts cur ++ rest).toArray) (fun s => 2 * len + 21 - s) (by kernel_rfl) (by kernel_rfl) (hR304.cast (by kernel_rfl)) ⟨by omega, by omega, c2, hcl2, hcok2, hcs, hrow.close0⟩ ?_
    iterate 12 (try clear hrow)
    clear hR304 hm304 hblk hbs hcl hcok
    rintro s d3 w3 hR3 ⟨hs0, hs1, cur, hcl, hcok, hbs, hblk⟩
    have hrow : RowI ρ304 [] w3 h cur rest [] := .start hblk _ _ rfl
    by_cases hsl : s < len
    · refine sim_run 7 [] (hR3.cast (by kernel_rfl)) (by kernel_rfl) trivial (fun ρ400 w400 hm400 hR400 => ?_)
      have hrow := hrow.moved (hm400.castL (by kernel_rfl))
      refine sim_know 30 (decide ((↑s : Int) < (↑len : Int))) true (by kernel_rfl) (decide_eq_true (by omega)) ?_
      refine sim_run 12 [⟨8, 1, LI (IntKind.i64.wrap (2 * (↑s : Int))), LI (2 * (↑s : Int))⟩] (hR400.cast (by kernel_rfl)) (by kernel_rfl) ⟨eqi (IntWalk.i64_in _ (by omega)), trivial⟩ (fun ρ401 w401 hm401 hR401 => ?_)
      have hrow := hrow.moved (hm401.castL (by kernel_rfl))
      
      refine sim_loop (ι := Nat) (T := [h]) (w0 := w) 0 [0, 1, 2, 6] (fun a => [(7, LI a), (8, LI (2 * (s : Int) + a))]) (fun _ => []) (fun a w1 => a ≤ len ∧ ∃ cur, cur.length = len ∧ (∀ x ∈ cur, x.ok) ∧ MPairs (ltC cmp) s xs cur a ∧ Blk w1 h 27 (insts cur ++ rest).toArray) (fun a => len - a) (by kernel_rfl) (by kernel_rfl) (hR401.cast (by kernel_rfl)) ⟨Nat.zero_le _, cur, hcl, hcok, MPairs.start hbs, hrow.close0⟩ ?_
      iterate 12 (try clear hrow)
      clear hblk hbs hcl hcok
      rintro a d6 w6 hR6 ⟨ha6, cur, hcl, hcok, hbs, hblk⟩
      have hrow : RowI ρ401 [] w6 h cur rest [] := .start hblk _ _ rfl
      by_cases hal2 : a + 2 * s ≤ len
      · refine sim_run 7 [] (hR6.cast (by kernel_rfl)) (by kernel_rfl) trivial (fun ρ500 w500 hm500 hR500 => ?_)
        have hrow := hrow.moved (hm500.castL (by kernel_rfl))
        refine sim_know 35 (decide (2 * (↑s : Int) + (↑a : Int) ≤ (↑len : Int))) true (by kernel_rfl) (decide_eq_true (by omega)) ?_
        refine sim_run 12 [⟨10, 4, LI (IntKind.i64.wrap ((↑a : Int) + (↑s : Int))), LI ((↑a : Int) + (↑s : Int))⟩] (hR500.cast (by kernel_rfl)) (by kernel_rfl) ⟨eqi (IntWalk.i64_in _ (by omega)), trivial⟩ (fun ρ501 w501 hm501 hR501 => ?_)
        have hrow := hrow.moved (hm501.castL (by kernel_rfl))
        
        refine sim_call 86 [.v (.slice (some ⟨h, 0, none⟩) len cap), LI a, LI ((a + s : Nat) : Int), LI ((2 * s + a : Nat) : Int), .v (.func (.func g) #[] caps)] (by kernel_rfl) ?_
        refine (symMerge_any g hg caps cmp hcmp h len cap rest hmax (2 * s) cur a (a + s) (2 * s + a) _ (by omega) (by omega) (by omega) (by omega) hcl hcok hrow.close0).mono ?_
        rintro ee w95 ⟨rfl, hblk9, hk9⟩
        have hR95 := (by assumption : Rel _ _ _ _ _).kept hk9 (fun n r hn => (noReg (by kernel_rfl) hn).elim) (fun x hx => .inl hx)
        have hrow := RowI.at_ hR95 hblk9 (by kernel_rfl)
        refine Back.of (.tup []) hR95 rfl ?_
        refine sim_run 14 [⟨12, 2, LI (IntKind.i64.wrap (2 * (↑s : Int))), LI (2 * (↑s : Int))⟩, ⟨12, 3, LI (IntKind.i64.wrap (2 * (↑s : Int) + (↑a : Int) + 2 * (↑s : Int))), LI (2 * (↑s : Int) + (↑a : Int) + 2 * (↑s : Int))⟩] (hR95.cast (by kernel_rfl)) (by kernel_rfl) ⟨eqi (IntWalk.i64_in _ (by omega)), eqi (IntWalk.i64_in _ (by omega)), trivial⟩ (fun ρ800 w800 hm800 hR800 => ?_)
        have hrow := hrow.moved (hm800.castL (by kernel_rfl))
        
        refine sim_int 8 (k := .i64) (2 * (s : Int) + a + 2 * s) (2 * (s : Int) + ((2 * s + a : Nat) : Int)) (by kernel_rfl) (by omega) ?_
        refine sim_again (2 * s + a) (by kernel_rfl) (by show len - (2 * s + a) < len - a; omega) (by kernel_rfl) (by kernel_rfl) (by kernel_rfl) (fun m hm => absurd hm (by simp)) (Rel.cast (by assumption) (by kernel_rfl)) (by kernel_rfl) (by kernel_rfl) ⟨by omega, _, ?_, ?_, ?_, hrow.close0⟩
        · rw [symM_len]; exact hcl
        · exact symM_all _ _ _ _ _ _ hcok
        · rw [show 2 * s + a = a + 2 * s by omega]
          exact hbs.step hw hs0 (by rw [hl]; exact hal2) (2 * s) (Nat.le_refl _)
      · refine sim_run 7 [] (hR6.cast (by kernel_rfl)) (by kernel_rfl) trivial (fun ρ600 w600 hm600 hR600 => ?_)
        have hrow := hrow.moved (hm600.castL (by kernel_rfl))
        refine sim_know 35 (decide (2 * (↑s : Int) + (↑a : Int) ≤ (↑len : Int))) false (by kernel_rfl) (decide_eq_false (by omega)) ?_
        refine sim_run 1 [] (hR600.cast (by kernel_rfl)) (by kernel_rfl) trivial (fun ρ601 w601 hm601 hR601 => ?_)
        have hrow := hrow.moved (hm601.castL (by kernel_rfl))
        refine sim_leave (by kernel_rfl) ?_
        refine sim_run 14 [⟨13, 2, LI (IntKind.i64.wrap ((↑a : Int) + (↑s : Int))), LI ((↑a : Int) + (↑s : Int))⟩] (hR601.cast (by kernel_rfl)) (by kernel_rfl) ⟨eqi (IntWalk.i64_in _ (by omega)), trivial⟩ (fun ρ602 w602 hm602 hR602 => ?_)
        have hrow := hrow.moved (hm602.castL (by kernel_rfl))
        refine sim_fork 54 (decide ((↑a : Int) + (↑s : Int) < (↑len : Int))) (by kernel_rfl) (fun hq603 => ?_) (fun hq603 => ?_)
        have hq603 := of_decide_eq_true hq603
        refine sim_run 2 [] (hR602.cast (by kernel_rfl)) (by kernel_rfl) trivial (fun ρ604 w604 hm604 hR604 => ?_)
        have hrow := hrow.moved (hm604.castL (by kernel_rfl))
        rotate_left
        have hq603 := of_decide_eq_false hq603
        refine sim_run 8 [⟨16, 1, LI (IntKind.i64.wrap ((↑s : Int) * 2)), LI ((↑s : Int) * 2)⟩] (hR602.cast (by kernel_rfl)) (by kernel_rfl) ⟨eqi (IntWalk.i64_in _ (by omega)), trivial⟩ (fun ρ605 w605 hm605 hR605 => ?_)
        have hrow := hrow.moved (hm605.castL (by kernel_rfl))
        rotate_left
        
        · have hm : a + s < len := by omega
          refine sim_run 5 [] hR604 (by kernel_rfl) trivial (fun ρ900 w900 hm900 hR900 => ?_)
          have hrow := hrow.moved hm900
          
          refine sim_call 86 [.v (.slice (some ⟨h, 0, none⟩) len cap), LI a, LI ((a + s : Nat) : Int), LI ((len : Nat) : Int), .v (.func (.func g) #[] caps)] (by kernel_rfl) ?_
          refine (symMerge_any g hg caps cmp hcmp h len cap rest hmax (len - a) cur a (a + s) (len) _ (by omega) (by omega) (by omega) (by omega) hcl hcok hrow.close0).mono ?_
          rintro ee w99 ⟨rfl, hblk9, hk9⟩
          have hR99 := (by assumption : Rel _ _ _ _ _).kept hk9 (fun n r hn => (noReg (by kernel_rfl) hn).elim) (fun x hx => .inl hx)
          have hrow := RowI.at_ hR99 hblk9 (by kernel_rfl)
          refine Back.of (.tup []) hR99 rfl ?_
          refine sim_run 7 [⟨16, 1, LI (IntKind.i64.wrap ((↑s : Int) * 2)), LI ((↑s : Int) * 2)⟩] (hR99.cast (by kernel_rfl)) (by kernel_rfl) ⟨eqi (IntWalk.i64_in _ (by omega)), trivial⟩ (fun ρ1000 w1000 hm1000 hR1000 => ?_)
          have hrow := hrow.moved (hm1000.castL (by kernel_rfl))
          
          refine sim_int 6 (k := .i64) ((s : Int) * 2) ((2 * s : Nat) : Int) (by kernel_rfl) (by omega) ?_
          refine sim_again (2 * s) (by kernel_rfl) (by show 2 * len + 21 - 2 * s < 2 * len + 21 - s; omega) (by kernel_rfl) (by kernel_rfl) (by kernel_rfl) (fun m hm => absurd hm (by simp)) (Rel.cast (by assumption) (by kernel_rfl)) (by kernel_rfl) (by kernel_rfl) ⟨by omega, by omega, _, by rw [symM_len]; exact hcl, symM_all _ _ _ _ _ _ hcok, by have := hbs.tail hw hs0 (by rw [hl]; omega) (by rw [hl]; exact hm) (len - a) (by rw [hl]; exact Nat.le_refl _); rw [hl] at this; exact this, hrow.close0⟩
        · have hm : len ≤ a + s := by omega
          refine sim_int 6 (k := .i64) ((s : Int) * 2) ((2 * s : Nat) : Int) (by kernel_rfl) (by omega) ?_
          refine sim_again (2 * s) (by kernel_rfl) (by show 2 * len + 21 - 2 * s < 2 * len + 21 - s; omega) (by kernel_rfl) (by kernel_rfl) (by kernel_rfl) (fun m hm => absurd hm (by simp)) (Rel.cast (by assumption) (by kernel_rfl)) (by kernel_rfl) (by kernel_rfl) ⟨by omega, by omega, _, hcl, hcok, hbs.none (by rw [hl]; exact hm), hrow.close0⟩
    · refine sim_run 7 [] (hR3.cast (by kernel_rfl)) (by kernel_rfl) trivial (fun ρ700 w700 hm700 hR700 => ?_)
      have hrow := hrow.moved (hm700.castL (by kernel_rfl))
      refine sim_know 30 (decide ((↑s : Int) < (↑len : Int))) false (by kernel_rfl) (decide_eq_false (by omega)) ?_
      refine sim_run 1 [] (hR700.cast (by kernel_rfl)) (by kernel_rfl) trivial (fun ρ701 w701 hm701 hR701 => ?_)
      have hrow := hrow.moved (hm701.castL (by kernel_rfl))
      refine sim_leave (by kernel_rfl) ?_
      refine sim_end (.tup []) (hR701.cast (by kernel_rfl)) (by kernel_rfl) (by kernel_rfl) ?_
      
      refine ⟨rfl, ?_, hR701.keeps.kept⟩
      rw [← hbs.whole (by rw [hl]; omega)]
      exact hrow.close0
end
end Go.Proofs.Ytnojkclgjinjhaa
