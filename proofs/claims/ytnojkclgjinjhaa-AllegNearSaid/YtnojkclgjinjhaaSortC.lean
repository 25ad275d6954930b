/-
  A row of instructions that is sorted in place: rotation.
-/
import Derived.Test.YtnojkclgjinjhaaSortB
namespace Go.Proofs.Ytnojkclgjinjhaa
open Go Go.RowKit
attribute [local irreducible] run goO leaveK someK nextK nextT nextOT nextOD loopBody loopRest loopK fillJ tmplOf tmplJ mergeT At AtO drawOk ordOf gateOf callC callO topOp topO idxOf appOf storeOf clearOf sliceOf calleeOf calleeO topQ idxQ newRowOf resL stepOp seek

theorem RowI.at_ {T : List Nat} {w0 w : World} {ρ : Nm} {rs : List Reg} {h : Nat} {xs : List In} {rest : List Value} (_ : Rel T w0 ρ rs w) (hb : Blk w h 27 (insts xs ++ rest).toArray) (hro : allRo rs = true) : RowI ρ rs w h xs rest [] := .start hb ρ rs hro
set_option maxRecDepth 100000 in
theorem rotate_any (h len cap : Nat) (xs : List In) (rest : List Value) (a m b : Nat) (fv : Value) (ham : a < m) (hmb : m < b) (hb : b ≤ len) (hl : xs.length = len) (hmax : len ≤ 1000000) (w : World) (hblk : Blk w h 27 (insts xs ++ rest).toArray) :
    Calls Try.prog 93 #[.slice (some ⟨h, 0, none⟩) len cap, .int .i64 a, .int .i64 m, .int .i64 b, fv] w (RowPost w h rest (rotM m (b - a) xs (m - a) (b - m))) := by
  refine sim_enter Try.func93 ρ0 [.v (.slice (some ⟨h, 0, none⟩) len cap), LI a, LI m, LI b, .v fv] [] (by kernel_rfl) rfl ?_
  have hR := Rel.start [h] w ρ0
  have hrow : RowI ρ0 [] w h xs rest [] := .start hblk _ _ rfl
  refine sim_run 16 [⟨0, 2, LI (IntKind.i64.wrap ((↑m : Int) - (↑a : Int))), LI ((↑m : Int) - (↑a : Int))⟩, ⟨1, 2, LI (IntKind.i64.wrap ((↑b : Int) - (↑m : Int))), LI ((↑b : Int) - (↑m : Int))⟩] (hR.cast (by kernel_rfl)) (by kernel_rfl) ⟨eqi (IntWalk.i64_in _ (by omega)), eqi (IntWalk.i64_in _ (by omega)), trivial⟩ (fun ρ100 w100 hm100 hR100 => ?_)
  have hrow := hrow.moved (hm100.castL (by kernel_rfl))
  
  refine sim_int 10 (k := .i64) ((m : Int) - a) ((m - a : Nat) : Int) (by kernel_rfl) (by omega) ?_
  refine sim_int 11 (k := .i64) ((b : Int) - m) ((b - m : Nat) : Int) (by kernel_rfl) (by omega) ?_
  have hrow := hrow.close0
  refine sim_loop (ι := Nat × Nat) (T := [h]) (w0 := w) (m - a, b - m) [0, 1, 2, 3, 4] (fun x => [(10, LI x.1), (11, LI x.2)]) (fun _ => []) (fun x w1 => 0 < x.1 ∧ 0 < x.2 ∧ x.1 ≤ m ∧ m + x.2 ≤ len ∧ ∃ zs f, zs.length = len ∧ x.1 + x.2 ≤ f ∧ rotM m (b - a) xs (m - a) (b - m) = rotM m f zs x.1 x.2 ∧ Blk w1 h 27 (insts zs ++ rest).toArray) (fun x => x.1 + x.2) (by kernel_rfl) (by kernel_rfl) (hR100.cast (by kernel_rfl)) ⟨by show 0 < m - a; omega, by show 0 < b - m; omega, by show m - a ≤ m; omega, by show m + (b - m) ≤ len; omega, xs, b - a, hl, by show m - a + (b - m) ≤ b - a; omega, rfl, hrow⟩ ?_
  iterate 6 (try clear hrow)
  clear hR100 hm100 hblk
  rintro ⟨i, j⟩ d w2 hR2 ⟨hi, hj, him, hjl, zs, f, hzl, hf, hzs, hblk⟩
  dsimp only at hi hj him hjl hf hzs
  obtain ⟨f, rfl⟩ : ∃ f', f = f' + 1 := ⟨f - 1, by omega⟩
  have hrow : RowI ρ100 [] w2 h zs rest [] := .start hblk _ _ rfl
  clear hblk
  rw [rotM] at hzs
  by_cases hij : i = j
  · subst hij
    rw [if_pos rfl] at hzs
    rw [hzs]
    refine sim_run 7 [] (hR2.cast (by kernel_rfl)) (by kernel_rfl) trivial (fun ρ200 w200 hm200 hR200 => ?_)
    have hrow := hrow.moved (hm200.castL (by kernel_rfl))
    refine sim_know 20 ((↑(i, i).fst : Int) != (↑(i, i).snd : Int)) false (by kernel_rfl) (by simp) ?_
    refine sim_run 1 [] (hR200.cast (by kernel_rfl)) (by kernel_rfl) trivial (fun ρ201 w201 hm201 hR201 => ?_)
    have hrow := hrow.moved (hm201.castL (by kernel_rfl))
    refine sim_leave (by kernel_rfl) ?_
    refine sim_run 8 [⟨8, 3, LI (IntKind.i64.wrap ((↑m : Int) - (↑(i, i).fst : Int))), LI ((↑m : Int) - (↑(i, i).fst : Int))⟩] (hR201.cast (by kernel_rfl)) (by kernel_rfl) ⟨eqi (IntWalk.i64_in _ (by omega)), trivial⟩ (fun ρ202 w202 hm202 hR202 => ?_)
    have hrow := hrow.moved (hm202.castL (by kernel_rfl))
    
    refine sim_int 53 (k := .i64) ((m : Int) - i) ((m - i : Nat) : Int) (by kernel_rfl) (by omega) ?_
    refine sim_call 95 [.v (Value.slice (some (Addr.mk h 0 none)) len cap), LI ((↑(m - i) : Int)), LI ((↑m : Int)), LI ((↑(i, i).fst : Int)), .v fv] (by kernel_rfl) ?_
    refine Calls.mono (swapRange_any (h) (len) (cap) (zs) (rest) (m - i) (m) (i) (fv) ((by omega)) ((by omega)) ((by omega)) (hzl) (hmax) _ (hrow.close0)) ?_
    rintro e300 w300 ⟨rfl, hblk300, hk300⟩
    have hR300 := hR202.kept hk300 (fun n r hn => (noReg (by kernel_rfl) hn).elim) (fun x hx => .inl hx)
    have hrow := RowI.at_ hR300 hblk300 (by kernel_rfl)
    refine Back.of (.tup []) hR300 rfl ?_
    refine sim_run 1 [] (hR300.cast (by kernel_rfl)) (by kernel_rfl) trivial (fun ρ301 w301 hm301 hR301 => ?_)
    have hrow := hrow.moved (hm301.castL (by kernel_rfl))
    refine sim_end (.tup []) hR301 (by kernel_rfl) (by kernel_rfl) ?_
    
    exact ⟨rfl, hrow.close0, hR301.keeps.kept⟩
  · rw [if_neg hij] at hzs
    by_cases hgt : i > j
    · rw [if_pos hgt] at hzs
      refine sim_run 7 [] (hR2.cast (by kernel_rfl)) (by kernel_rfl) trivial (fun ρ400 w400 hm400 hR400 => ?_)
      have hrow := hrow.moved (hm400.castL (by kernel_rfl))
      refine sim_know 20 ((↑(i, j).fst : Int) != (↑(i, j).snd : Int)) true (by kernel_rfl) (by simp; omega) ?_
      refine sim_run 9 [] (hR400.cast (by kernel_rfl)) (by kernel_rfl) trivial (fun ρ401 w401 hm401 hR401 => ?_)
      have hrow := hrow.moved (hm401.castL (by kernel_rfl))
      refine sim_know 23 (decide ((↑(i, j).fst : Int) > (↑(i, j).snd : Int))) true (by kernel_rfl) (decide_eq_true (by omega)) ?_
      refine sim_run 10 [⟨4, 3, LI (IntKind.i64.wrap ((↑m : Int) - (↑(i, j).fst : Int))), LI ((↑m : Int) - (↑(i, j).fst : Int))⟩] (hR401.cast (by kernel_rfl)) (by kernel_rfl) ⟨eqi (IntWalk.i64_in _ (by omega)), trivial⟩ (fun ρ402 w402 hm402 hR402 => ?_)
      have hrow := hrow.moved (hm402.castL (by kernel_rfl))
      
      refine sim_int 27 (k := .i64) ((m : Int) - i) ((m - i : Nat) : Int) (by kernel_rfl) (by omega) ?_
      refine sim_call 95 [.v (Value.slice (some (Addr.mk h 0 none)) len cap), LI ((↑(m - i) : Int)), LI ((↑m : Int)), LI ((↑(i, j).snd : Int)), .v fv] (by kernel_rfl) ?_
      refine Calls.mono (swapRange_any (h) (len) (cap) (zs) (rest) (m - i) (m) (j) (fv) ((by omega)) ((by omega)) ((by omega)) (hzl) (hmax) _ (hrow.close0)) ?_
      rintro e600 w600 ⟨rfl, hblk600, hk600⟩
      have hR600 := hR402.kept hk600 (fun n r hn => (noReg (by kernel_rfl) hn).elim) (fun x hx => .inl hx)
      have hrow := RowI.at_ hR600 hblk600 (by kernel_rfl)
      refine Back.of (.tup []) hR600 rfl ?_
      refine sim_run 8 [⟨5, 2, LI (IntKind.i64.wrap ((↑(i, j).fst : Int) - (↑(i, j).snd : Int))), LI ((↑(i, j).fst : Int) - (↑(i, j).snd : Int))⟩] (hR600.cast (by kernel_rfl)) (by kernel_rfl) ⟨eqi (IntWalk.i64_in _ (by omega)), trivial⟩ (fun ρ601 w601 hm601 hR601 => ?_)
      have hrow := hrow.moved (hm601.castL (by kernel_rfl))
      
      refine sim_int 10 (k := .i64) ((i : Int) - j) ((i - j : Nat) : Int) (by kernel_rfl) (by omega) ?_
      refine sim_again (i - j, j) (by kernel_rfl) (by show i - j + j < i + j; omega) (by kernel_rfl) (by kernel_rfl) (by kernel_rfl) (fun m hm => absurd hm (by simp)) (hR601.cast (by kernel_rfl)) (by kernel_rfl) (by kernel_rfl) ⟨by show 0 < i - j; omega, hj, by show i - j ≤ m; omega, hjl, _, f, by rw [swapM_len]; exact hzl, by show i - j + j ≤ f; omega, hzs, hrow.close0⟩
    · rw [if_neg hgt] at hzs
      refine sim_run 7 [] (hR2.cast (by kernel_rfl)) (by kernel_rfl) trivial (fun ρ500 w500 hm500 hR500 => ?_)
      have hrow := hrow.moved (hm500.castL (by kernel_rfl))
      refine sim_know 20 ((↑(i, j).fst : Int) != (↑(i, j).snd : Int)) true (by kernel_rfl) (by simp; omega) ?_
      refine sim_run 9 [] (hR500.cast (by kernel_rfl)) (by kernel_rfl) trivial (fun ρ501 w501 hm501 hR501 => ?_)
      have hrow := hrow.moved (hm501.castL (by kernel_rfl))
      refine sim_know 23 (decide ((↑(i, j).fst : Int) > (↑(i, j).snd : Int))) false (by kernel_rfl) (decide_eq_false (by omega)) ?_
      refine sim_run 14 [⟨6, 3, LI (IntKind.i64.wrap ((↑m : Int) - (↑(i, j).fst : Int))), LI ((↑m : Int) - (↑(i, j).fst : Int))⟩, ⟨6, 6, LI (IntKind.i64.wrap ((↑m : Int) + (↑(i, j).snd : Int))), LI ((↑m : Int) + (↑(i, j).snd : Int))⟩, ⟨6, 8, LI (IntKind.i64.wrap ((↑m : Int) + (↑(i, j).snd : Int) - (↑(i, j).fst : Int))), LI ((↑m : Int) + (↑(i, j).snd : Int) - (↑(i, j).fst : Int))⟩] (hR501.cast (by kernel_rfl)) (by kernel_rfl) ⟨eqi (IntWalk.i64_in _ (by omega)), eqi (IntWalk.i64_in _ (by omega)), eqi (IntWalk.i64_in _ (by omega)), trivial⟩ (fun ρ502 w502 hm502 hR502 => ?_)
      have hrow := hrow.moved (hm502.castL (by kernel_rfl))
      
      refine sim_int 38 (k := .i64) ((m : Int) - i) ((m - i : Nat) : Int) (by kernel_rfl) (by omega) ?_
      refine sim_int 43 (k := .i64) ((m : Int) + j - i) ((m + j - i : Nat) : Int) (by kernel_rfl) (by omega) ?_
      refine sim_call 95 [.v (Value.slice (some (Addr.mk h 0 none)) len cap), LI ((↑(m - i) : Int)), LI ((↑(m + j - i) : Int)), LI ((↑(i, j).fst : Int)), .v fv] (by kernel_rfl) ?_
      refine Calls.mono (swapRange_any (h) (len) (cap) (zs) (rest) (m - i) (m + j - i) (i) (fv) ((by omega)) ((by omega)) ((by omega)) (hzl) (hmax) _ (hrow.close0)) ?_
      rintro e700 w700 ⟨rfl, hblk700, hk700⟩
      have hR700 := hR502.kept hk700 (fun n r hn => (noReg (by kernel_rfl) hn).elim) (fun x hx => .inl hx)
      have hrow := RowI.at_ hR700 hblk700 (by kernel_rfl)
      refine Back.of (.tup []) hR700 rfl ?_
      refine sim_run 8 [⟨7, 2, LI (IntKind.i64.wrap ((↑(i, j).snd : Int) - (↑(i, j).fst : Int))), LI ((↑(i, j).snd : Int) - (↑(i, j).fst : Int))⟩] (hR700.cast (by kernel_rfl)) (by kernel_rfl) ⟨eqi (IntWalk.i64_in _ (by omega)), trivial⟩ (fun ρ701 w701 hm701 hR701 => ?_)
      have hrow := hrow.moved (hm701.castL (by kernel_rfl))
      
      refine sim_int 11 (k := .i64) ((j : Int) - i) ((j - i : Nat) : Int) (by kernel_rfl) (by omega) ?_
      refine sim_again (i, j - i) (by kernel_rfl) (by show i + (j - i) < i + j; omega) (by kernel_rfl) (by kernel_rfl) (by kernel_rfl) (fun m hm => absurd hm (by simp)) (hR701.cast (by kernel_rfl)) (by kernel_rfl) (by kernel_rfl) ⟨hi, by show 0 < j - i; omega, him, by show m + (j - i) ≤ len; omega, _, f, by rw [swapM_len]; exact hzl, by show i + (j - i) ≤ f; omega, hzs, hrow.close0⟩
end Go.Proofs.Ytnojkclgjinjhaa
