/-
  A row of instructions that is sorted in place: symmetric merging, whole.
-/
import Derived.Test.YtnojkclgjinjhaaSortE
namespace Go.Proofs.Ytnojkclgjinjhaa
open Go Go.RowKit
attribute [local irreducible] run goO leaveK someK nextK nextT nextOT nextOD loopBody loopRest loopK fillJ tmplOf tmplJ mergeT At AtO drawOk ordOf gateOf callC callO topOp topO idxOf appOf storeOf clearOf sliceOf calleeOf calleeO topQ idxQ newRowOf resL stepOp seek

section
variable (g : FuncId) (hg : Enters Try.prog g) (caps : Array Value) (cmp : In → In → Int) (hcmp : CmpAll g caps cmp) (h len cap : Nat) (rest : List Value) (hmax : len ≤ 1000000)
include hg hcmp hmax
set_option maxHeartbeats 4000000 in
set_option maxRecDepth 100000 in
theorem merge_mid (f : Nat) (ih : MrgAt g caps cmp h len cap rest f) (xs : List In) (a m b : Nat) (w : World) (hbf : b - a ≤ f + 1) (ham : a < m) (hmb : m < b) (hb : b ≤ len) (hl : xs.length = len) (hok : ∀ x ∈ xs, x.ok) (hblk : Blk w h 27 (insts xs ++ rest).toArray) (h1 : ¬m - a = 1) (h2 : ¬b - m = 1) :
    Calls Try.prog 86 #[.slice (some ⟨h, 0, none⟩) len cap, .int .i64 a, .int .i64 m, .int .i64 b, .func (.func g) #[] caps] w (RowPost w h rest (symM (ltC cmp) (f + 1) xs a m b)) := by
  refine sim_enter Try.func86 ρ0 [.v (.slice (some ⟨h, 0, none⟩) len cap), LI a, LI m, LI b, .v (.func (.func g) #[] caps)] [] (by kernel_rfl) rfl ?_
  have hR := Rel.start [h] w ρ0
  have hrow : RowI ρ0 [] w h xs rest [] := .start hblk _ _ rfl
  rw [symM, if_neg h1, if_neg h2]
  dsimp only
  obtain ⟨mid, hmid⟩ : ∃ q, (a + b) / 2 = q := ⟨_, rfl⟩
  rw [hmid]
  obtain ⟨s0, r0, hs0, hq⟩ : ∃ s0 r0, (if m > mid then s0 = mid + m - b ∧ r0 = mid else s0 = a ∧ r0 = m) ∧ (if m > mid then bsM (fun c => !ltAt (ltC cmp) xs (mid + m - 1 - c) c) (mid - (mid + m - b)) (mid + m - b) mid else bsM (fun c => !ltAt (ltC cmp) xs (mid + m - 1 - c) c) (m - a) a m) = bsM (fun c => !ltAt (ltC cmp) xs (mid + m - 1 - c) c) (r0 - s0) s0 r0 := by
    by_cases hm : m > mid
    · exact ⟨mid + m - b, mid, by rw [if_pos hm]; exact ⟨rfl, rfl⟩, by rw [if_pos hm]⟩
    · exact ⟨a, m, by rw [if_neg hm]; exact ⟨rfl, rfl⟩, by rw [if_neg hm]⟩
  rw [hq]
  obtain ⟨s, hs⟩ : ∃ s, bsM (fun c => !ltAt (ltC cmp) xs (mid + m - 1 - c) c) (r0 - s0) s0 r0 = s := ⟨_, rfl⟩
  rw [hs]
  have hb0 : a ≤ s0 ∧ s0 ≤ r0 ∧ r0 ≤ m ∧ r0 ≤ mid + 1 ∧ mid + m ≤ b + s0 ∧ r0 + r0 ≤ mid + m := by
    split at hs0 <;> omega
  refine sim_meet (ι := Unit) (T := [h]) (w0 := w) (regK Try.f86 32) (fun _ => tmplJ Try.f86.ntmps 0 [(0, .v (.slice (some ⟨h, 0, none⟩) len cap)), (1, LI a), (2, LI m), (3, LI b), (4, .v (.func (.func g) #[] caps)), (18, LI mid), (19, LI ((mid : Int) + m)), (20, LI s0), (21, LI r0)]) [] (fun _ _ w1 => Blk w1 h 27 (insts xs ++ rest).toArray) (fun _ ρ1 w1 d hR1 hblk => ?_) (fun meet => ?_)
  rotate_left
  · refine sim_run 8 [⟨0, 2, LI (IntKind.i64.wrap ((↑m : Int) - (↑a : Int))), LI ((↑m : Int) - (↑a : Int))⟩] (hR.cast (by kernel_rfl)) (by kernel_rfl) ⟨eqi (IntWalk.i64_in _ (by omega)), trivial⟩ (fun ρ100 w100 hm100 hR100 => ?_)
    have hrow := hrow.moved (hm100.castL (by kernel_rfl))
    refine sim_know 28 ((↑m : Int) - (↑a : Int) == 1) false (by kernel_rfl) (decide_eq_false (by omega)) ?_
    refine sim_run 10 [⟨12, 2, LI (IntKind.i64.wrap ((↑b : Int) - (↑m : Int))), LI ((↑b : Int) - (↑m : Int))⟩] (hR100.cast (by kernel_rfl)) (by kernel_rfl) ⟨eqi (IntWalk.i64_in _ (by omega)), trivial⟩ (fun ρ101 w101 hm101 hR101 => ?_)
    have hrow := hrow.moved (hm101.castL (by kernel_rfl))
    refine sim_know 80 ((↑b : Int) - (↑m : Int) == 1) false (by kernel_rfl) (decide_eq_false (by omega)) ?_
    refine sim_run 14 [⟨24, 2, LI (IntKind.i64.wrap ((↑a : Int) + (↑b : Int))), LI ((↑a : Int) + (↑b : Int))⟩, ⟨24, 3, (.v (.int .u64 (IntKind.u64.wrap ((↑a : Int) + (↑b : Int))))), (.v (.int .u64 ((↑a : Int) + (↑b : Int))))⟩, ⟨24, 4, (.v (.int .u64 (((↑a : Int) + (↑b : Int)).fdiv (2 ^ min (Int.toNat 1) IntKind.u64.bits)))), (.v (.int .u64 (((↑a : Int) + (↑b : Int)) / 2)))⟩, ⟨24, 5, LI (IntKind.i64.wrap (((↑a : Int) + (↑b : Int)) / 2)), LI (((↑a : Int) + (↑b : Int)) / 2)⟩] (hR101.cast (by kernel_rfl)) (by kernel_rfl) ⟨eqi (IntWalk.i64_in _ (by omega)), eqi (IntWalk.u64_in _ (by omega)), eqi (shr_lit _ _ 2 (by kernel_rfl)), eqi (IntWalk.i64_in _ (by omega)), trivial⟩ (fun ρ102 w102 hm102 hR102 => ?_)
    have hrow := hrow.moved (hm102.castL (by kernel_rfl))
    
    refine sim_int 18 (k := .i64) (((a : Int) + b) / 2) (mid : Int) (by kernel_rfl) (by omega) ?_
    by_cases hm : m > mid
    · rw [if_pos hm] at hs0
      refine sim_run 17 [⟨25, 2, LI (IntKind.i64.wrap ((↑mid : Int) + (↑m : Int))), LI ((↑mid : Int) + (↑m : Int))⟩] (hR102.cast (by kernel_rfl)) (by kernel_rfl) ⟨eqi (IntWalk.i64_in _ (by omega)), trivial⟩ (fun ρ200 w200 hm200 hR200 => ?_)
      have hrow := hrow.moved (hm200.castL (by kernel_rfl))
      refine sim_know 140 (decide ((↑m : Int) > (↑mid : Int))) true (by kernel_rfl) (decide_eq_true (by omega)) ?_
      refine sim_run 14 [⟨28, 2, LI (IntKind.i64.wrap ((↑mid : Int) + (↑m : Int) - (↑b : Int))), LI ((↑mid : Int) + (↑m : Int) - (↑b : Int))⟩] (hR200.cast (by kernel_rfl)) (by kernel_rfl) ⟨eqi (IntWalk.i64_in _ (by omega)), trivial⟩ (fun ρ201 w201 hm201 hR201 => ?_)
      have hrow := hrow.moved (hm201.castL (by kernel_rfl))
      
      refine sim_int 20 (k := .i64) ((mid : Int) + m - b) (s0 : Int) (by kernel_rfl) (by omega) ?_
      refine sim_int 21 (k := .i64) (mid : Int) (r0 : Int) (by kernel_rfl) (by omega) ?_
      exact meet _ () _ _ (by kernel_rfl) (by kernel_rfl) (by kernel_rfl) (hR201.cast (by kernel_rfl)) hrow.close0
    · rw [if_neg hm] at hs0
      refine sim_run 17 [⟨25, 2, LI (IntKind.i64.wrap ((↑mid : Int) + (↑m : Int))), LI ((↑mid : Int) + (↑m : Int))⟩] (hR102.cast (by kernel_rfl)) (by kernel_rfl) ⟨eqi (IntWalk.i64_in _ (by omega)), trivial⟩ (fun ρ300 w300 hm300 hR300 => ?_)
      have hrow := hrow.moved (hm300.castL (by kernel_rfl))
      refine sim_know 140 (decide ((↑m : Int) > (↑mid : Int))) false (by kernel_rfl) (decide_eq_false (by omega)) ?_
      refine sim_run 12 [] (hR300.cast (by kernel_rfl)) (by kernel_rfl) trivial (fun ρ301 w301 hm301 hR301 => ?_)
      have hrow := hrow.moved (hm301.castL (by kernel_rfl))
      
      refine sim_int 20 (k := .i64) (a : Int) (s0 : Int) (by kernel_rfl) (by omega) ?_
      refine sim_int 21 (k := .i64) (m : Int) (r0 : Int) (by kernel_rfl) (by omega) ?_
      exact meet _ () _ _ (by kernel_rfl) (by kernel_rfl) (by kernel_rfl) (hR301.cast (by kernel_rfl)) hrow.close0
  iterate 3 (try clear hrow)
  clear hs0 hq hR
  have hrow : RowI ρ1 [] w1 h xs rest [] := .start hblk _ _ rfl
  refine sim_run 6 [⟨32, 1, LI (IntKind.i64.wrap ((↑mid : Int) + (↑m : Int) - 1)), LI ((↑mid : Int) + (↑m : Int) - 1)⟩] hR1 (by kernel_rfl) ⟨eqi (IntWalk.i64_in _ (by omega)), trivial⟩ (fun ρ400 w400 hm400 hR400 => ?_)
  have hrow := hrow.moved (hm400.castL (by kernel_rfl))
  
  refine sim_loop (ι := Nat × Nat) (T := [h]) (w0 := w) (s0, r0) [0, 1, 2, 3, 4, 18, 19, 22] (fun x => [(20, LI x.1), (21, LI x.2)]) (fun _ => []) (fun x w1 => s0 ≤ x.1 ∧ x.1 ≤ x.2 ∧ x.2 ≤ r0 ∧ (∃ f, x.2 - x.1 ≤ f ∧ bsM (fun c => !ltAt (ltC cmp) xs (mid + m - 1 - c) c) f x.1 x.2 = s) ∧ Blk w1 h 27 (insts xs ++ rest).toArray) (fun x => x.2 - x.1) (by kernel_rfl) (by kernel_rfl) (hR400.cast (by kernel_rfl)) ⟨Nat.le_refl _, by show s0 ≤ r0; omega, Nat.le_refl _, ⟨r0 - s0, Nat.le_refl _, hs⟩, hrow.close0⟩ ?_
  iterate 6 (try clear hrow)
  clear hR400 hm400 hR1 hblk
  rintro ⟨i, j⟩ d5 w2 hR2 ⟨hi, hij, hj, ⟨f5, hf, hqf⟩, hblk⟩
  dsimp only at hi hij hj hf hqf
  have hrow : RowI ρ400 [] w2 h xs rest [] := .start hblk _ _ rfl
  have hag := hR2.ag_ 0 (by kernel_rfl)
  by_cases hlt : i < j
  · obtain ⟨f5, rfl⟩ : ∃ f', f5 = f' + 1 := ⟨f5 - 1, by omega⟩
    rw [bs_on hlt hf] at hqf
    obtain ⟨c, hc⟩ : ∃ c, (i + j) / 2 = c := ⟨_, rfl⟩
    rw [hc] at hqf
    refine sim_seeI (mid + m - 1 - c) 0 hrow hag (by kernel_rfl) (by omega) (by simp) (.inl (by simp)) hR2 (by kernel_rfl) [] (by kernel_rfl) (by simp) (fun x ρ1 hx ha1 e1 hag hR1 hrow => ?_)
    refine sim_seeI c 1 hrow hag (by kernel_rfl) (by omega) (by simp; omega) (.inl (by simp)) hR1 (by kernel_rfl) [] (by kernel_rfl) (by simp) (fun y ρ2 hy ha2 e2 hag hR3 hrow => ?_)
    have e1 := (ha2 0 (by omega)).trans e1
    rw [ltAt_of hx hy, show (!ltC cmp x y) = !decide (cmp x y < 0) from rfl] at hqf
    refine sim_run 7 [] hR3 (by kernel_rfl) trivial (fun ρ500 w500 hm500 hR500 => ?_)
    have hag := hag.moved (hm500.castL (by kernel_rfl))
    have hrow := hrow.moved (hm500.castL (by kernel_rfl))
    refine sim_know 151 (decide ((↑(i, j).fst : Int) < (↑(i, j).snd : Int))) true (by kernel_rfl) (decide_eq_true (by omega)) ?_
    refine sim_run 11 [⟨34, 2, LI (IntKind.i64.wrap ((↑(i, j).fst : Int) + (↑(i, j).snd : Int))), LI ((↑(i, j).fst : Int) + (↑(i, j).snd : Int))⟩, ⟨34, 3, (.v (.int .u64 (IntKind.u64.wrap ((↑(i, j).fst : Int) + (↑(i, j).snd : Int))))), (.v (.int .u64 ((↑(i, j).fst : Int) + (↑(i, j).snd : Int))))⟩, ⟨34, 4, (.v (.int .u64 (((↑(i, j).fst : Int) + (↑(i, j).snd : Int)).fdiv (2 ^ min (Int.toNat 1) IntKind.u64.bits)))), (.v (.int .u64 (((↑(i, j).fst : Int) + (↑(i, j).snd : Int)) / 2)))⟩, ⟨34, 5, LI (IntKind.i64.wrap (((↑(i, j).fst : Int) + (↑(i, j).snd : Int)) / 2)), LI (((↑(i, j).fst : Int) + (↑(i, j).snd : Int)) / 2)⟩] (hR500.cast (by kernel_rfl)) (by kernel_rfl) ⟨eqi (IntWalk.i64_in _ (by omega)), eqi (IntWalk.u64_in _ (by omega)), eqi (shr_lit _ _ 2 (by kernel_rfl)), eqi (IntWalk.i64_in _ (by omega)), trivial⟩ (fun ρ501 w501 hm501 hR501 => ?_)
    have hag := hag.moved (hm501.castL (by kernel_rfl))
    have hrow := hrow.moved (hm501.castL (by kernel_rfl))
    
    refine sim_int 157 (k := .i64) (((i : Int) + j) / 2) (c : Int) (by kernel_rfl) (by omega) ?_
    refine sim_run 3 [] (hR501.cast (by kernel_rfl)) (by kernel_rfl) trivial (fun ρ600 w600 hm600 hR600 => ?_)
    have hag := hag.moved (hm600.castL (by kernel_rfl))
    have hrow := hrow.moved (hm600.castL (by kernel_rfl))
    refine sim_draw [] (by kernel_rfl) (by kernel_rfl) hR600 (fun hR601 => ?_)
    have hrow := hrow.drew
    refine sim_ordN 5 [⟨35, 4, LI (IntKind.i64.wrap ((↑mid : Int) + (↑m : Int) - 1 - (↑c : Int))), LI ((↑mid : Int) + (↑m : Int) - 1 - (↑c : Int))⟩] hR601 (by kernel_rfl) ⟨eqi (IntWalk.i64_in _ (by omega)), trivial⟩ (fun ρ602 w602 hm602 hR602 => ?_)
    have hag := hag.moved (hm602.castL (by kernel_rfl))
    have hrow := hrow.moved (hm602.castL (by kernel_rfl))
    refine sim_ord_index (.v (.slice (some ⟨h, 0, none⟩) len cap)) len 21 ((mid : Int) + m - 1 - c) 0 0 (by kernel_rfl) (by omega) (by omega) rfl hR602 (by simp only [Nm.at_, hag.at_ 0 (by omega), e1]; congr 1; omega) (fun hR603 => ?_)
    refine sim_ordN 3 [] hR603 (by kernel_rfl) trivial (fun ρ604 w604 hm604 hR604 => ?_)
    have hag := hag.moved (hm604.castL (by kernel_rfl))
    have hrow := hrow.moved (hm604.castL (by kernel_rfl))
    refine sim_ord_index (.v (.slice (some ⟨h, 0, none⟩) len cap)) len 21 ((c : Int)) 1 0 (by kernel_rfl) (by omega) (by omega) rfl hR604 (by simp only [Nm.at_, hag.at_ 1 (by omega), e2]; congr 1; omega) (fun hR605 => ?_)
    refine sim_ordN 1 [] hR605 (by kernel_rfl) trivial (fun ρ606 w606 hm606 hR606 => ?_)
    have hag := hag.moved (hm606.castL (by kernel_rfl))
    have hrow := hrow.moved (hm606.castL (by kernel_rfl))
    refine sim_ord_callF (T := [h]) (w0 := w) g caps (.v (Value.func (Fn.func g) (Array.mk []) caps)) [.agg [LI x.id, LS x.term.party, LS x.term.account, LS x.term.money, LS x.term.other, LB x.term.deliver, LS x.term.asset, LS x.term.ccy, LS x.term.ref, LI x.term.qty, LI x.term.amount, LI x.term.day, LI x.term.trade, LI x.prio, LB x.part, LB x.held, LB x.wish, LI x.state, LI x.mate, LI x.done, LI x.paid], .agg [LI y.id, LS y.term.party, LS y.term.account, LS y.term.money, LS y.term.other, LB y.term.deliver, LS y.term.asset, LS y.term.ccy, LS y.term.ref, LI y.term.qty, LI y.term.amount, LI y.term.day, LI y.term.trade, LI y.prio, LB y.part, LB y.held, LB y.wish, LI y.state, LI y.mate, LI y.done, LI y.paid]] (by kernel_rfl) rfl hg (Calls.mono (hcmp x y _ (hok _ (List.mem_of_getElem? hx)) (hok _ (List.mem_of_getElem? hy))) ?_)
    rintro e607 w607 ⟨rfl, hb607⟩
    have hR607 := hR606.call hb607 (LI (cmp x y))
    have hrow := hrow.below hb607
    refine BackO.of _ hR607 rfl ?_
    refine sim_ordN 2 [] hR607 (by kernel_rfl) trivial (fun ρ608 w608 hm608 hR608 => ?_)
    have hag := hag.moved (hm608.castL (by kernel_rfl))
    have hrow := hrow.moved (hm608.castL (by kernel_rfl))
    refine sim_ord_endR hR608 (by kernel_rfl) (fun hR609 => ?_)
    refine sim_fork 171 (!decide (cmp x y < 0)) (by kernel_rfl) (fun hq610 => ?_) (fun hq610 => ?_)
    have hq610 := nb_t hq610
    have hq610 := of_decide_eq_false hq610
    refine sim_run 7 [⟨36, 1, LI (IntKind.i64.wrap ((↑c : Int) + 1)), LI ((↑c : Int) + 1)⟩] (hR609.cast (by kernel_rfl)) (by kernel_rfl) ⟨eqi (IntWalk.i64_in _ (by omega)), trivial⟩ (fun ρ611 w611 hm611 hR611 => ?_)
    have hag := hag.moved (hm611.castL (by kernel_rfl))
    have hrow := hrow.moved (hm611.castL (by kernel_rfl))
    rotate_left
    have hq610 := nb_f hq610
    have hq610 := of_decide_eq_true hq610
    refine sim_run 6 [] (hR609.cast (by kernel_rfl)) (by kernel_rfl) trivial (fun ρ612 w612 hm612 hR612 => ?_)
    have hag := hag.moved (hm612.castL (by kernel_rfl))
    have hrow := hrow.moved (hm612.castL (by kernel_rfl))
    rotate_left
    
    · rw [if_pos (by simpa using (by assumption : ¬cmp x y < 0))] at hqf
      refine sim_again (c + 1, j) (by kernel_rfl) (by show j - (c + 1) < j - i; omega) (by kernel_rfl) (by kernel_rfl) (by kernel_rfl) (fun m hm => absurd hm (by simp)) (hR611.cast (by kernel_rfl)) (by kernel_rfl) (by kernel_rfl) ⟨by show s0 ≤ c + 1; omega, by show c + 1 ≤ j; omega, hj, ⟨f5, by show j - (c + 1) ≤ f5; omega, hqf⟩, ?_⟩
      have := hrow.close2 (by omega) (by omega) (by omega) x y (bk_cell hR611 hag e1 x (by kernel_rfl)) (bk_cell hR611 hag e2 y (by kernel_rfl))
      rw [set_same hx, set_same hy] at this
      exact this
    · rw [if_neg (by simpa using (by assumption : cmp x y < 0))] at hqf
      refine sim_again (i, c) (by kernel_rfl) (by show c - i < j - i; omega) (by kernel_rfl) (by kernel_rfl) (by kernel_rfl) (fun m hm => absurd hm (by simp)) (hR612.cast (by kernel_rfl)) (by kernel_rfl) (by kernel_rfl) ⟨hi, by show i ≤ c; omega, by show c ≤ r0; omega, ⟨f5, by show c - i ≤ f5; omega, hqf⟩, ?_⟩
      have := hrow.close2 (by omega) (by omega) (by omega) x y (bk_cell hR612 hag e1 x (by kernel_rfl)) (bk_cell hR612 hag e2 y (by kernel_rfl))
      rw [set_same hx, set_same hy] at this
      exact this
  · have hqi : i = s := by rw [← hqf, bs_off hlt]
    subst hqi
    refine sim_run 7 [] (hR2.cast (by kernel_rfl)) (by kernel_rfl) trivial (fun ρ700 w700 hm700 hR700 => ?_)
    have hrow := hrow.moved (hm700.castL (by kernel_rfl))
    have hag := hag.moved (hm700.castL (by kernel_rfl))
    refine sim_know 151 (decide ((↑(i, j).fst : Int) < (↑(i, j).snd : Int))) false (by kernel_rfl) (decide_eq_false (by omega)) ?_
    refine sim_run 1 [] (hR700.cast (by kernel_rfl)) (by kernel_rfl) trivial (fun ρ701 w701 hm701 hR701 => ?_)
    have hrow := hrow.moved (hm701.castL (by kernel_rfl))
    have hag := hag.moved (hm701.castL (by kernel_rfl))
    refine sim_leave (by kernel_rfl) ?_
    refine sim_run 10 [⟨38, 2, LI (IntKind.i64.wrap ((↑mid : Int) + (↑m : Int) - (↑(i, j).fst : Int))), LI ((↑mid : Int) + (↑m : Int) - (↑(i, j).fst : Int))⟩] (hR701.cast (by kernel_rfl)) (by kernel_rfl) ⟨eqi (IntWalk.i64_in _ (by omega)), trivial⟩ (fun ρ702 w702 hm702 hR702 => ?_)
    have hrow := hrow.moved (hm702.castL (by kernel_rfl))
    have hag := hag.moved (hm702.castL (by kernel_rfl))
    
    obtain ⟨e, he⟩ : ∃ e, mid + m - i = e := ⟨_, rfl⟩
    rw [he]
    refine sim_int 24 (k := .i64) ((mid : Int) + m - i) (e : Int) (by kernel_rfl) (by omega) ?_
    have hR7 := hR702
    have hb2 : a ≤ i ∧ i ≤ m := by omega
    have hrow7 := hrow.close0
    iterate 6 (try clear hrow)
    iterate 6 (try clear hag)
    clear hqf hs hf hblk hR2
    have hrow := RowI.at_ hR7 hrow7 (by kernel_rfl)
    obtain ⟨ys, hys⟩ : ∃ ys, (if i < m ∧ m < e then rotM m (e - i) xs (m - i) (e - m) else xs) = ys := ⟨_, rfl⟩
    have hyl : ys.length = len := by rw [← hys]; split; rw [rotM_len]; exact hl; exact hl
    have hyok : ∀ x ∈ ys, x.ok := by rw [← hys]; split; exact rotM_all _ _ _ _ _ hok; exact hok
    rw [hys]
    refine sim_meet (ι := Unit) (T := [h]) (w0 := w) (regK Try.f86 41) (fun _ => tmplJ Try.f86.ntmps 0 [(0, .v (.slice (some ⟨h, 0, none⟩) len cap)), (1, LI a), (2, LI m), (3, LI b), (4, .v (.func (.func g) #[] caps)), (18, LI mid), (20, LI i), (24, LI e)]) [] (fun _ _ w1 => Blk w1 h 27 (insts ys ++ rest).toArray) (fun _ ρ8 w8 d8 hR8 hblk8 => ?_) (fun meet => ?_)
    rotate_left
    · by_cases c1 : i < m ∧ m < e
      · rw [if_pos c1] at hys
        have c11 := c1.1
        have c12 := c1.2
        refine sim_run 4 [] (hR7.cast (by kernel_rfl)) (by kernel_rfl) trivial (fun ρ800 w800 hm800 hR800 => ?_)
        have hrow := hrow.moved (hm800.castL (by kernel_rfl))
        refine sim_know 181 (decide ((↑(i, j).fst : Int) < (↑m : Int))) true (by kernel_rfl) (decide_eq_true (by omega)) ?_
        refine sim_run 5 [] (hR800.cast (by kernel_rfl)) (by kernel_rfl) trivial (fun ρ801 w801 hm801 hR801 => ?_)
        have hrow := hrow.moved (hm801.castL (by kernel_rfl))
        refine sim_know 185 (decide ((↑m : Int) < (↑e : Int))) true (by kernel_rfl) (decide_eq_true (by omega)) ?_
        refine sim_run 7 [] (hR801.cast (by kernel_rfl)) (by kernel_rfl) trivial (fun ρ802 w802 hm802 hR802 => ?_)
        have hrow := hrow.moved (hm802.castL (by kernel_rfl))
        refine sim_call 93 [.v (Value.slice (some (Addr.mk h 0 none)) len cap), LI ((↑(i, j).fst : Int)), LI ((↑m : Int)), LI ((↑e : Int)), .v (Value.func (Fn.func g) (Array.mk []) caps)] (by kernel_rfl) ?_
        refine Calls.mono (rotate_any (h) (len) (cap) (xs) (rest) (i) (m) (e) _ ((by omega)) ((by omega)) ((by omega)) (hl) (hmax) _ (hrow.close0)) ?_
        rintro e803 w803 ⟨rfl, hblk803, hk803⟩
        have hR803 := hR802.kept hk803 (fun n r hn => (noReg (by kernel_rfl) hn).elim) (fun x hx => .inl hx)
        have hrow := RowI.at_ hR803 hblk803 (by kernel_rfl)
        refine Back.of (.tup []) hR803 rfl ?_
        refine sim_run 4 [] (hR803.cast (by kernel_rfl)) (by kernel_rfl) trivial (fun ρ804 w804 hm804 hR804 => ?_)
        have hrow := hrow.moved (hm804.castL (by kernel_rfl))
        
        rw [hys] at hrow
        exact meet _ () _ _ (by kernel_rfl) (by kernel_rfl) (by kernel_rfl) (hR804.cast (by kernel_rfl)) hrow.close0
      · rw [if_neg c1] at hys
        subst hys
        refine sim_run 4 [] (hR7.cast (by kernel_rfl)) (by kernel_rfl) trivial (fun ρ900 w900 hm900 hR900 => ?_)
        have hrow := hrow.moved (hm900.castL (by kernel_rfl))
        refine sim_fork 181 (decide ((↑(i, j).fst : Int) < (↑m : Int))) (by kernel_rfl) (fun hq901 => ?_) (fun hq901 => ?_)
        have hq901 := of_decide_eq_true hq901
        refine sim_run 5 [] (hR900.cast (by kernel_rfl)) (by kernel_rfl) trivial (fun ρ902 w902 hm902 hR902 => ?_)
        have hrow := hrow.moved (hm902.castL (by kernel_rfl))
        refine sim_know 185 (decide ((↑m : Int) < (↑e : Int))) false (by kernel_rfl) (decide_eq_false (by omega)) ?_
        refine sim_run 5 [] (hR902.cast (by kernel_rfl)) (by kernel_rfl) trivial (fun ρ903 w903 hm903 hR903 => ?_)
        have hrow := hrow.moved (hm903.castL (by kernel_rfl))
        rotate_left
        have hq901 := of_decide_eq_false hq901
        refine sim_run 10 [] (hR900.cast (by kernel_rfl)) (by kernel_rfl) trivial (fun ρ904 w904 hm904 hR904 => ?_)
        have hrow := hrow.moved (hm904.castL (by kernel_rfl))
        rotate_left
        
        all_goals exact meet _ () _ _ (by kernel_rfl) (by kernel_rfl) (by kernel_rfl) (Rel.cast (by assumption) (by kernel_rfl)) hrow.close0
    iterate 9 (try clear hrow)
    clear hys hrow7 hR7
    have hrow : RowI ρ8 [] w8 h ys rest [] := .start hblk8 _ _ rfl
    obtain ⟨zs, hzs⟩ : ∃ zs, (if a < i ∧ i < mid then symM (ltC cmp) f ys a i mid else ys) = zs := ⟨_, rfl⟩
    have hzl : zs.length = len := by rw [← hzs]; split; rw [symM_len]; exact hyl; exact hyl
    have hzok : ∀ x ∈ zs, x.ok := by rw [← hzs]; split; exact symM_all _ _ _ _ _ _ hyok; exact hyok
    rw [hzs]
    refine sim_meet (ι := Unit) (T := [h]) (w0 := w) (regK Try.f86 43) (fun _ => tmplJ Try.f86.ntmps 0 [(0, .v (.slice (some ⟨h, 0, none⟩) len cap)), (1, LI a), (2, LI m), (3, LI b), (4, .v (.func (.func g) #[] caps)), (18, LI mid), (20, LI i), (24, LI e)]) [] (fun _ _ w1 => Blk w1 h 27 (insts zs ++ rest).toArray) (fun _ ρ10 w10 d10 hR10 hblk10 => ?_) (fun meet => ?_)
    rotate_left
    · by_cases c2 : a < i ∧ i < mid
      · rw [if_pos c2] at hzs
        have c21 := c2.1
        have c22 := c2.2
        refine sim_run 4 [] hR8 (by kernel_rfl) trivial (fun ρ1000 w1000 hm1000 hR1000 => ?_)
        have hrow := hrow.moved (hm1000.castL (by kernel_rfl))
        refine sim_know 195 (decide ((↑a : Int) < (↑i : Int))) true (by kernel_rfl) (decide_eq_true (by omega)) ?_
        refine sim_run 5 [] (hR1000.cast (by kernel_rfl)) (by kernel_rfl) trivial (fun ρ1001 w1001 hm1001 hR1001 => ?_)
        have hrow := hrow.moved (hm1001.castL (by kernel_rfl))
        refine sim_know 199 (decide ((↑i : Int) < (↑mid : Int))) true (by kernel_rfl) (decide_eq_true (by omega)) ?_
        refine sim_run 7 [] (hR1001.cast (by kernel_rfl)) (by kernel_rfl) trivial (fun ρ1002 w1002 hm1002 hR1002 => ?_)
        have hrow := hrow.moved (hm1002.castL (by kernel_rfl))
        
        refine sim_call 86 [.v (.slice (some ⟨h, 0, none⟩) len cap), LI a, LI i, LI mid, .v (.func (.func g) #[] caps)] (by kernel_rfl) ?_
        refine (ih ys a i mid _ (by omega) c2.1 c2.2 (by omega) (by assumption) (by assumption) hrow.close0).mono ?_
        rintro ee w910 ⟨rfl, hblk9, hk9⟩
        have hR910 := hR1002.kept hk9 (fun n r hn => (noReg (by kernel_rfl) hn).elim) (fun x hx => .inl hx)
        have hrow := RowI.at_ hR910 hblk9 (by kernel_rfl)
        refine Back.of (.tup []) hR910 rfl ?_
        refine sim_run 3 [] (hR910.cast (by kernel_rfl)) (by kernel_rfl) trivial (fun ρ1100 w1100 hm1100 hR1100 => ?_)
        have hrow := hrow.moved (hm1100.castL (by kernel_rfl))
        
        rw [hzs] at hrow
        exact meet _ () _ _ (by kernel_rfl) (by kernel_rfl) (by kernel_rfl) (hR1100.cast (by kernel_rfl)) hrow.close0
      · rw [if_neg c2] at hzs
        subst hzs
        refine sim_run 4 [] hR8 (by kernel_rfl) trivial (fun ρ1200 w1200 hm1200 hR1200 => ?_)
        have hrow := hrow.moved (hm1200.castL (by kernel_rfl))
        refine sim_fork 195 (decide ((↑a : Int) < (↑i : Int))) (by kernel_rfl) (fun hq1201 => ?_) (fun hq1201 => ?_)
        have hq1201 := of_decide_eq_true hq1201
        refine sim_run 5 [] (hR1200.cast (by kernel_rfl)) (by kernel_rfl) trivial (fun ρ1202 w1202 hm1202 hR1202 => ?_)
        have hrow := hrow.moved (hm1202.castL (by kernel_rfl))
        refine sim_know 199 (decide ((↑i : Int) < (↑mid : Int))) false (by kernel_rfl) (decide_eq_false (by omega)) ?_
        refine sim_run 4 [] (hR1202.cast (by kernel_rfl)) (by kernel_rfl) trivial (fun ρ1203 w1203 hm1203 hR1203 => ?_)
        have hrow := hrow.moved (hm1203.castL (by kernel_rfl))
        rotate_left
        have hq1201 := of_decide_eq_false hq1201
        refine sim_run 9 [] (hR1200.cast (by kernel_rfl)) (by kernel_rfl) trivial (fun ρ1204 w1204 hm1204 hR1204 => ?_)
        have hrow := hrow.moved (hm1204.castL (by kernel_rfl))
        rotate_left
        
        all_goals exact meet _ () _ _ (by kernel_rfl) (by kernel_rfl) (by kernel_rfl) (Rel.cast (by assumption) (by kernel_rfl)) hrow.close0
    iterate 9 (try clear hrow)
    clear hzs
    have hrow : RowI ρ10 [] w10 h zs rest [] := .start hblk10 _ _ rfl
    by_cases c3 : mid < e ∧ e < b
    · rw [if_pos c3]
      have c31 := c3.1
      have c32 := c3.2
      refine sim_run 4 [] hR10 (by kernel_rfl) trivial (fun ρ1300 w1300 hm1300 hR1300 => ?_)
      have hrow := hrow.moved (hm1300.castL (by kernel_rfl))
      refine sim_know 209 (decide ((↑mid : Int) < (↑e : Int))) true (by kernel_rfl) (decide_eq_true (by omega)) ?_
      refine sim_run 5 [] (hR1300.cast (by kernel_rfl)) (by kernel_rfl) trivial (fun ρ1301 w1301 hm1301 hR1301 => ?_)
      have hrow := hrow.moved (hm1301.castL (by kernel_rfl))
      refine sim_know 213 (decide ((↑e : Int) < (↑b : Int))) true (by kernel_rfl) (decide_eq_true (by omega)) ?_
      refine sim_run 7 [] (hR1301.cast (by kernel_rfl)) (by kernel_rfl) trivial (fun ρ1302 w1302 hm1302 hR1302 => ?_)
      have hrow := hrow.moved (hm1302.castL (by kernel_rfl))
      
      refine sim_call 86 [.v (.slice (some ⟨h, 0, none⟩) len cap), LI mid, LI e, LI b, .v (.func (.func g) #[] caps)] (by kernel_rfl) ?_
      refine (ih zs mid e b _ (by omega) c3.1 c3.2 (by omega) (by assumption) (by assumption) hrow.close0).mono ?_
      rintro ee w913 ⟨rfl, hblk9, hk9⟩
      have hR913 := hR1302.kept hk9 (fun n r hn => (noReg (by kernel_rfl) hn).elim) (fun x hx => .inl hx)
      have hrow := RowI.at_ hR913 hblk9 (by kernel_rfl)
      refine Back.of (.tup []) hR913 rfl ?_
      refine sim_run 1 [] (hR913.cast (by kernel_rfl)) (by kernel_rfl) trivial (fun ρ1400 w1400 hm1400 hR1400 => ?_)
      have hrow := hrow.moved (hm1400.castL (by kernel_rfl))
      refine sim_end (.tup []) hR1400 (by kernel_rfl) (by kernel_rfl) ?_
      
      exact ⟨rfl, hrow.close0, hR1400.keeps.kept⟩
    · rw [if_neg c3]
      refine sim_run 4 [] hR10 (by kernel_rfl) trivial (fun ρ1500 w1500 hm1500 hR1500 => ?_)
      have hrow := hrow.moved (hm1500.castL (by kernel_rfl))
      refine sim_fork 209 (decide ((↑mid : Int) < (↑e : Int))) (by kernel_rfl) (fun hq1501 => ?_) (fun hq1501 => ?_)
      have hq1501 := of_decide_eq_true hq1501
      refine sim_run 5 [] (hR1500.cast (by kernel_rfl)) (by kernel_rfl) trivial (fun ρ1502 w1502 hm1502 hR1502 => ?_)
      have hrow := hrow.moved (hm1502.castL (by kernel_rfl))
      refine sim_know 213 (decide ((↑e : Int) < (↑b : Int))) false (by kernel_rfl) (decide_eq_false (by omega)) ?_
      refine sim_run 2 [] (hR1502.cast (by kernel_rfl)) (by kernel_rfl) trivial (fun ρ1503 w1503 hm1503 hR1503 => ?_)
      have hrow := hrow.moved (hm1503.castL (by kernel_rfl))
      refine sim_end (.tup []) hR1503 (by kernel_rfl) (by kernel_rfl) ?_
      rotate_left
      have hq1501 := of_decide_eq_false hq1501
      refine sim_run 7 [] (hR1500.cast (by kernel_rfl)) (by kernel_rfl) trivial (fun ρ1504 w1504 hm1504 hR1504 => ?_)
      have hrow := hrow.moved (hm1504.castL (by kernel_rfl))
      refine sim_end (.tup []) hR1504 (by kernel_rfl) (by kernel_rfl) ?_
      rotate_left
      
      all_goals exact ⟨rfl, hrow.close0, (by assumption : Rel _ _ _ _ _).keeps.kept⟩
theorem symMerge_any : ∀ f, MrgAt g caps cmp h len cap rest f
  | 0, xs, a, m, b, w, hf, ham, hmb, _, _, _, _ => by omega
  | f + 1, xs, a, m, b, w, hf, ham, hmb, hb, hl, hok, hblk => by
    by_cases h1 : m - a = 1
    · exact merge_up g hg caps cmp hcmp h len cap rest hmax f xs a m b w ham hmb hb hl hok hblk h1
    · by_cases h2 : b - m = 1
      · exact merge_dn g hg caps cmp hcmp h len cap rest hmax f xs a m b w ham hmb hb hl hok hblk h1 h2
      · exact merge_mid g hg caps cmp hcmp h len cap rest hmax f (symMerge_any f) xs a m b w hf ham hmb hb hl hok hblk h1 h2
end
end Go.Proofs.Ytnojkclgjinjhaa
