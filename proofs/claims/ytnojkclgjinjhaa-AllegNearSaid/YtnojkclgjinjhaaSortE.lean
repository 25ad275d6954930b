/-
  A row of instructions that is sorted in place: merging of one that stands behind.
-/
import Derived.Test.YtnojkclgjinjhaaSortD
namespace Go.Proofs.Ytnojkclgjinjhaa
open Go Go.RowKit
attribute [local irreducible] run goO leaveK someK nextK nextT nextOT nextOD loopBody loopRest loopK fillJ tmplOf tmplJ mergeT At AtO drawOk ordOf gateOf callC callO topOp topO idxOf appOf storeOf clearOf sliceOf calleeOf calleeO topQ idxQ newRowOf resL stepOp seek

section
variable (g : FuncId) (hg : Enters Try.prog g) (caps : Array Value) (cmp : In → In → Int) (hcmp : CmpAll g caps cmp) (h len cap : Nat) (rest : List Value) (hmax : len ≤ 1000000)
include hg hcmp hmax
set_option maxHeartbeats 4000000 in
set_option maxRecDepth 100000 in
theorem merge_dn (f : Nat) (xs : List In) (a m b : Nat) (w : World) (ham : a < m) (hmb : m < b) (hb : b ≤ len) (hl : xs.length = len) (hok : ∀ x ∈ xs, x.ok) (hblk : Blk w h 27 (insts xs ++ rest).toArray) (h1 : ¬m - a = 1) (h2 : b - m = 1) :
    Calls Try.prog 86 #[.slice (some ⟨h, 0, none⟩) len cap, .int .i64 a, .int .i64 m, .int .i64 b, .func (.func g) #[] caps] w (RowPost w h rest (symM (ltC cmp) (f + 1) xs a m b)) := by
  refine sim_enter Try.func86 ρ0 [.v (.slice (some ⟨h, 0, none⟩) len cap), LI a, LI m, LI b, .v (.func (.func g) #[] caps)] [] (by kernel_rfl) rfl ?_
  have hR := Rel.start [h] w ρ0
  have hrow : RowI ρ0 [] w h xs rest [] := .start hblk _ _ rfl
  rw [symM, if_neg h1, if_pos h2]
  refine sim_run 8 [⟨0, 2, LI (IntKind.i64.wrap ((↑m : Int) - (↑a : Int))), LI ((↑m : Int) - (↑a : Int))⟩] (hR.cast (by kernel_rfl)) (by kernel_rfl) ⟨eqi (IntWalk.i64_in _ (by omega)), trivial⟩ (fun ρ100 w100 hm100 hR100 => ?_)
  have hrow := hrow.moved (hm100.castL (by kernel_rfl))
  refine sim_know 28 ((↑m : Int) - (↑a : Int) == 1) false (by kernel_rfl) (decide_eq_false (by omega)) ?_
  refine sim_run 10 [⟨12, 2, LI (IntKind.i64.wrap ((↑b : Int) - (↑m : Int))), LI ((↑b : Int) - (↑m : Int))⟩] (hR100.cast (by kernel_rfl)) (by kernel_rfl) ⟨eqi (IntWalk.i64_in _ (by omega)), trivial⟩ (fun ρ101 w101 hm101 hR101 => ?_)
  have hrow := hrow.moved (hm101.castL (by kernel_rfl))
  refine sim_know 80 ((↑b : Int) - (↑m : Int) == 1) true (by kernel_rfl) (decide_eq_true (by omega)) ?_
  refine sim_run 13 [] (hR101.cast (by kernel_rfl)) (by kernel_rfl) trivial (fun ρ102 w102 hm102 hR102 => ?_)
  have hrow := hrow.moved (hm102.castL (by kernel_rfl))
  
  obtain ⟨q, hq⟩ : ∃ q, bsM (fun h => !ltAt (ltC cmp) xs m h) (m - a) a m = q := ⟨_, rfl⟩
  rw [hq]
  refine sim_loop (ι := Nat × Nat) (T := [h]) (w0 := w) (a, m) [0, 1, 2, 3, 4] (fun x => [(14, LI x.1), (15, LI x.2)]) (fun _ => []) (fun x w1 => a ≤ x.1 ∧ x.1 ≤ x.2 ∧ x.2 ≤ m ∧ (∃ f, x.2 - x.1 ≤ f ∧ bsM (fun h => !ltAt (ltC cmp) xs m h) f x.1 x.2 = q) ∧ Blk w1 h 27 (insts xs ++ rest).toArray) (fun x => x.2 - x.1) (by kernel_rfl) (by kernel_rfl) (hR102.cast (by kernel_rfl)) ⟨Nat.le_refl _, by show a ≤ m; omega, Nat.le_refl _, ⟨m - a, Nat.le_refl _, hq⟩, hrow.close0⟩ ?_
  iterate 6 (try clear hrow)
  clear hR100 hm100 hR101 hm101 hR102 hm102 hblk
  rintro ⟨i, j⟩ d w2 hR2 ⟨hi, hij, hj, ⟨f, hf, hqf⟩, hblk⟩
  dsimp only at hi hij hj hf hqf
  have hrow : RowI ρ102 [] w2 h xs rest [] := .start hblk _ _ rfl
  have hag := hR2.ag_ 0 (by kernel_rfl)
  by_cases hlt : i < j
  · obtain ⟨f, rfl⟩ : ∃ f', f = f' + 1 := ⟨f - 1, by omega⟩
    rw [bs_on hlt hf] at hqf
    obtain ⟨c, hc⟩ : ∃ c, (i + j) / 2 = c := ⟨_, rfl⟩
    rw [hc] at hqf
    refine sim_seeI m 0 hrow hag (by kernel_rfl) (by omega) (by simp) (.inl (by simp)) hR2 (by kernel_rfl) [] (by kernel_rfl) (by simp) (fun x ρ1 hx ha1 e1 hag hR1 hrow => ?_)
    refine sim_seeI c 1 hrow hag (by kernel_rfl) (by omega) (by simp; omega) (.inl (by simp)) hR1 (by kernel_rfl) [] (by kernel_rfl) (by simp) (fun y ρ2 hy ha2 e2 hag hR3 hrow => ?_)
    have e1 := (ha2 0 (by omega)).trans e1
    refine sim_run 7 [] hR3 (by kernel_rfl) trivial (fun ρ200 w200 hm200 hR200 => ?_)
    have hag := hag.moved (hm200.castL (by kernel_rfl))
    have hrow := hrow.moved (hm200.castL (by kernel_rfl))
    refine sim_know 85 (decide ((↑(i, j).fst : Int) < (↑(i, j).snd : Int))) true (by kernel_rfl) (decide_eq_true (by omega)) ?_
    refine sim_run 11 [⟨16, 2, LI (IntKind.i64.wrap ((↑(i, j).fst : Int) + (↑(i, j).snd : Int))), LI ((↑(i, j).fst : Int) + (↑(i, j).snd : Int))⟩, ⟨16, 3, (.v (.int .u64 (IntKind.u64.wrap ((↑(i, j).fst : Int) + (↑(i, j).snd : Int))))), (.v (.int .u64 ((↑(i, j).fst : Int) + (↑(i, j).snd : Int))))⟩, ⟨16, 4, (.v (.int .u64 (((↑(i, j).fst : Int) + (↑(i, j).snd : Int)).fdiv (2 ^ min (Int.toNat 1) IntKind.u64.bits)))), (.v (.int .u64 (((↑(i, j).fst : Int) + (↑(i, j).snd : Int)) / 2)))⟩, ⟨16, 5, LI (IntKind.i64.wrap (((↑(i, j).fst : Int) + (↑(i, j).snd : Int)) / 2)), LI (((↑(i, j).fst : Int) + (↑(i, j).snd : Int)) / 2)⟩] (hR200.cast (by kernel_rfl)) (by kernel_rfl) ⟨eqi (IntWalk.i64_in _ (by omega)), eqi (IntWalk.u64_in _ (by omega)), eqi (shr_lit _ _ 2 (by kernel_rfl)), eqi (IntWalk.i64_in _ (by omega)), trivial⟩ (fun ρ201 w201 hm201 hR201 => ?_)
    have hag := hag.moved (hm201.castL (by kernel_rfl))
    have hrow := hrow.moved (hm201.castL (by kernel_rfl))
    
    refine sim_int 91 (k := .i64) (((i : Int) + j) / 2) (c : Int) (by kernel_rfl) (by omega) ?_
    rw [ltAt_of hx hy, show (!ltC cmp x y) = !decide (cmp x y < 0) from rfl] at hqf
    refine sim_run 3 [] (hR201.cast (by kernel_rfl)) (by kernel_rfl) trivial (fun ρ300 w300 hm300 hR300 => ?_)
    have hag := hag.moved (hm300.castL (by kernel_rfl))
    have hrow := hrow.moved (hm300.castL (by kernel_rfl))
    refine sim_draw [] (by kernel_rfl) (by kernel_rfl) hR300 (fun hR301 => ?_)
    have hrow := hrow.drew
    refine sim_ordN 3 [] hR301 (by kernel_rfl) trivial (fun ρ302 w302 hm302 hR302 => ?_)
    have hag := hag.moved (hm302.castL (by kernel_rfl))
    have hrow := hrow.moved (hm302.castL (by kernel_rfl))
    refine sim_ord_index (.v (.slice (some ⟨h, 0, none⟩) len cap)) len 21 ((m : Int)) 0 0 (by kernel_rfl) (by omega) (by omega) rfl hR302 (by simp only [Nm.at_, hag.at_ 0 (by omega), e1]; congr 1; omega) (fun hR303 => ?_)
    refine sim_ordN 3 [] hR303 (by kernel_rfl) trivial (fun ρ304 w304 hm304 hR304 => ?_)
    have hag := hag.moved (hm304.castL (by kernel_rfl))
    have hrow := hrow.moved (hm304.castL (by kernel_rfl))
    refine sim_ord_index (.v (.slice (some ⟨h, 0, none⟩) len cap)) len 21 ((c : Int)) 1 0 (by kernel_rfl) (by omega) (by omega) rfl hR304 (by simp only [Nm.at_, hag.at_ 1 (by omega), e2]; congr 1; omega) (fun hR305 => ?_)
    refine sim_ordN 1 [] hR305 (by kernel_rfl) trivial (fun ρ306 w306 hm306 hR306 => ?_)
    have hag := hag.moved (hm306.castL (by kernel_rfl))
    have hrow := hrow.moved (hm306.castL (by kernel_rfl))
    refine sim_ord_callF (T := [h]) (w0 := w) g caps (.v (Value.func (Fn.func g) (Array.mk []) caps)) [.agg [LI x.id, LS x.term.party, LS x.term.account, LS x.term.money, LS x.term.other, LB x.term.deliver, LS x.term.asset, LS x.term.ccy, LS x.term.ref, LI x.term.qty, LI x.term.amount, LI x.term.day, LI x.term.trade, LI x.prio, LB x.part, LB x.held, LB x.wish, LI x.state, LI x.mate, LI x.done, LI x.paid], .agg [LI y.id, LS y.term.party, LS y.term.account, LS y.term.money, LS y.term.other, LB y.term.deliver, LS y.term.asset, LS y.term.ccy, LS y.term.ref, LI y.term.qty, LI y.term.amount, LI y.term.day, LI y.term.trade, LI y.prio, LB y.part, LB y.held, LB y.wish, LI y.state, LI y.mate, LI y.done, LI y.paid]] (by kernel_rfl) rfl hg (Calls.mono (hcmp x y _ (hok _ (List.mem_of_getElem? hx)) (hok _ (List.mem_of_getElem? hy))) ?_)
    rintro e307 w307 ⟨rfl, hb307⟩
    have hR307 := hR306.call hb307 (LI (cmp x y))
    have hrow := hrow.below hb307
    refine BackO.of _ hR307 rfl ?_
    refine sim_ordN 2 [] hR307 (by kernel_rfl) trivial (fun ρ308 w308 hm308 hR308 => ?_)
    have hag := hag.moved (hm308.castL (by kernel_rfl))
    have hrow := hrow.moved (hm308.castL (by kernel_rfl))
    refine sim_ord_endR hR308 (by kernel_rfl) (fun hR309 => ?_)
    refine sim_fork 103 (!decide (cmp x y < 0)) (by kernel_rfl) (fun hq310 => ?_) (fun hq310 => ?_)
    have hq310 := nb_t hq310
    have hq310 := of_decide_eq_false hq310
    refine sim_run 7 [⟨18, 1, LI (IntKind.i64.wrap ((↑c : Int) + 1)), LI ((↑c : Int) + 1)⟩] (hR309.cast (by kernel_rfl)) (by kernel_rfl) ⟨eqi (IntWalk.i64_in _ (by omega)), trivial⟩ (fun ρ311 w311 hm311 hR311 => ?_)
    have hag := hag.moved (hm311.castL (by kernel_rfl))
    have hrow := hrow.moved (hm311.castL (by kernel_rfl))
    rotate_left
    have hq310 := nb_f hq310
    have hq310 := of_decide_eq_true hq310
    refine sim_run 6 [] (hR309.cast (by kernel_rfl)) (by kernel_rfl) trivial (fun ρ312 w312 hm312 hR312 => ?_)
    have hag := hag.moved (hm312.castL (by kernel_rfl))
    have hrow := hrow.moved (hm312.castL (by kernel_rfl))
    rotate_left
    
    · rw [if_pos (by simpa using (by assumption : ¬cmp x y < 0))] at hqf
      refine sim_again (c + 1, j) (by kernel_rfl) (by show j - (c + 1) < j - i; omega) (by kernel_rfl) (by kernel_rfl) (by kernel_rfl) (fun m hm => absurd hm (by simp)) (hR311.cast (by kernel_rfl)) (by kernel_rfl) (by kernel_rfl) ⟨by show a ≤ c + 1; omega, by show c + 1 ≤ j; omega, hj, ⟨f, by show j - (c + 1) ≤ f; omega, hqf⟩, ?_⟩
      have := hrow.close2 (by omega) (by omega) (by omega) x y (bk_cell hR311 hag e1 x (by kernel_rfl)) (bk_cell hR311 hag e2 y (by kernel_rfl))
      rw [set_same hx, set_same hy] at this
      exact this
    · rw [if_neg (by simpa using (by assumption : cmp x y < 0))] at hqf
      refine sim_again (i, c) (by kernel_rfl) (by show c - i < j - i; omega) (by kernel_rfl) (by kernel_rfl) (by kernel_rfl) (fun m hm => absurd hm (by simp)) (hR312.cast (by kernel_rfl)) (by kernel_rfl) (by kernel_rfl) ⟨hi, by show i ≤ c; omega, by show c ≤ m; omega, ⟨f, by show c - i ≤ f; omega, hqf⟩, ?_⟩
      have := hrow.close2 (by omega) (by omega) (by omega) x y (bk_cell hR312 hag e1 x (by kernel_rfl)) (bk_cell hR312 hag e2 y (by kernel_rfl))
      rw [set_same hx, set_same hy] at this
      exact this
  · have hqi : i = q := by rw [← hqf, bs_off hlt]
    subst hqi
    refine sim_run 7 [] (hR2.cast (by kernel_rfl)) (by kernel_rfl) trivial (fun ρ600 w600 hm600 hR600 => ?_)
    have hrow := hrow.moved (hm600.castL (by kernel_rfl))
    have hag := hag.moved (hm600.castL (by kernel_rfl))
    refine sim_know 85 (decide ((↑(i, j).fst : Int) < (↑(i, j).snd : Int))) false (by kernel_rfl) (decide_eq_false (by omega)) ?_
    refine sim_run 1 [] (hR600.cast (by kernel_rfl)) (by kernel_rfl) trivial (fun ρ601 w601 hm601 hR601 => ?_)
    have hrow := hrow.moved (hm601.castL (by kernel_rfl))
    have hag := hag.moved (hm601.castL (by kernel_rfl))
    refine sim_leave (by kernel_rfl) ?_
    refine sim_run 7 [] (hR601.cast (by kernel_rfl)) (by kernel_rfl) trivial (fun ρ602 w602 hm602 hR602 => ?_)
    have hrow := hrow.moved (hm602.castL (by kernel_rfl))
    have hag := hag.moved (hm602.castL (by kernel_rfl))
    
    refine sim_loop (ι := Nat) (T := [h]) (w0 := w) 0 [0, 1, 2, 3, 4, 14] (fun n => [(17, LI ((m : Int) - n))]) (fun _ => []) (fun n w1 => n ≤ m - i ∧ Blk w1 h 27 (insts (shDn xs m n) ++ rest).toArray) (fun n => m - n) (by kernel_rfl) (by kernel_rfl) (hR602.cast (by kernel_rfl)) ⟨Nat.zero_le _, hrow.close0⟩ ?_
    iterate 12 (try clear hrow)
    iterate 12 (try clear hag)
    clear hm602 hR602 hblk
    rintro n d w6 hR6 ⟨hn, hblk⟩
    have hlen := shDn_len xs m n
    obtain ⟨ys, hys⟩ : ∃ ys, shDn xs m n = ys := ⟨_, rfl⟩
    rw [hys] at hblk hlen
    have hrow : RowI ρ602 [] w6 h ys rest [] := .start hblk _ _ rfl
    have hag := hR6.ag_ 0 (by kernel_rfl)
    by_cases hn2 : n < m - i
    · refine sim_seeI (m - n) 0 hrow hag (by kernel_rfl) (by omega) (by simp) (.inl (by simp)) hR6 (by kernel_rfl) [] (by kernel_rfl) (by simp) (fun x ρ1 hx ha1 e1 hag hR1 hrow => ?_)
      refine sim_seeI (m - n - 1) 1 hrow hag (by kernel_rfl) (by omega) (by simp; omega) (.inl (by simp)) hR1 (by kernel_rfl) [] (by kernel_rfl) (by simp) (fun y ρ2 hy ha2 e2 hag hR3 hrow => ?_)
      have e1 := (ha2 0 (by omega)).trans e1
      refine sim_run 7 [] hR3 (by kernel_rfl) trivial (fun ρ700 w700 hm700 hR700 => ?_)
      have hag := hag.moved (hm700.castL (by kernel_rfl))
      have hrow := hrow.moved (hm700.castL (by kernel_rfl))
      refine sim_know 110 (decide ((↑m : Int) - (↑n : Int) > (↑(i, j).fst : Int))) true (by kernel_rfl) (decide_eq_true (by omega)) ?_
      refine sim_run 4 [] (hR700.cast (by kernel_rfl)) (by kernel_rfl) trivial (fun ρ701 w701 hm701 hR701 => ?_)
      have hag := hag.moved (hm701.castL (by kernel_rfl))
      have hrow := hrow.moved (hm701.castL (by kernel_rfl))
      refine sim_draw [] (by kernel_rfl) (by kernel_rfl) hR701 (fun hR702 => ?_)
      have hrow := hrow.drew
      refine sim_ordN 8 [⟨23, 4, LI (IntKind.i64.wrap ((↑m : Int) - (↑n : Int) - 1)), LI ((↑m : Int) - (↑n : Int) - 1)⟩, ⟨23, 7, LI (IntKind.i64.wrap ((↑m : Int) - (↑n : Int) - 1)), LI ((↑m : Int) - (↑n : Int) - 1)⟩] hR702 (by kernel_rfl) ⟨eqi (IntWalk.i64_in _ (by omega)), eqi (IntWalk.i64_in _ (by omega)), trivial⟩ (fun ρ703 w703 hm703 hR703 => ?_)
      have hag := hag.moved (hm703.castL (by kernel_rfl))
      have hrow := hrow.moved (hm703.castL (by kernel_rfl))
      refine sim_ord_index (.v (.slice (some ⟨h, 0, none⟩) len cap)) len 21 ((m : Int) - n - 1) 1 0 (by kernel_rfl) (by omega) (by omega) rfl hR703 (by simp only [Nm.at_, hag.at_ 1 (by omega), e2]; congr 1; omega) (fun hR704 => ?_)
      refine sim_ordN 3 [] hR704 (by kernel_rfl) trivial (fun ρ705 w705 hm705 hR705 => ?_)
      have hag := hag.moved (hm705.castL (by kernel_rfl))
      have hrow := hrow.moved (hm705.castL (by kernel_rfl))
      refine sim_ord_index (.v (.slice (some ⟨h, 0, none⟩) len cap)) len 21 ((m : Int) - n) 0 0 (by kernel_rfl) (by omega) (by omega) rfl hR705 (by simp only [Nm.at_, hag.at_ 0 (by omega), e1]; congr 1; omega) (fun hR706 => ?_)
      refine sim_ordN 1 [] hR706 (by kernel_rfl) trivial (fun ρ707 w707 hm707 hR707 => ?_)
      have hag := hag.moved (hm707.castL (by kernel_rfl))
      have hrow := hrow.moved (hm707.castL (by kernel_rfl))
      refine sim_ord_index (.v (.slice (some ⟨h, 0, none⟩) len cap)) len 21 ((m : Int) - n) 0 0 (by kernel_rfl) (by omega) (by omega) rfl hR707 (by simp only [Nm.at_, hag.at_ 0 (by omega), e1]; congr 1; omega) (fun hR708 => ?_)
      refine sim_ordN 1 [] hR708 (by kernel_rfl) trivial (fun ρ709 w709 hm709 hR709 => ?_)
      have hag := hag.moved (hm709.castL (by kernel_rfl))
      have hrow := hrow.moved (hm709.castL (by kernel_rfl))
      refine sim_ord_index (.v (.slice (some ⟨h, 0, none⟩) len cap)) len 21 ((m : Int) - n - 1) 1 0 (by kernel_rfl) (by omega) (by omega) rfl hR709 (by simp only [Nm.at_, hag.at_ 1 (by omega), e2]; congr 1; omega) (fun hR710 => ?_)
      refine sim_ordN 1 [] hR710 (by kernel_rfl) trivial (fun ρ711 w711 hm711 hR711 => ?_)
      have hag := hag.moved (hm711.castL (by kernel_rfl))
      have hrow := hrow.moved (hm711.castL (by kernel_rfl))
      refine sim_ord_endR hR711 (by kernel_rfl) (fun hR712 => ?_)
      refine sim_run 6 [⟨22, 1, LI (IntKind.i64.wrap ((↑m : Int) - (↑n : Int) - 1)), LI ((↑m : Int) - (↑n : Int) - 1)⟩] hR712 (by kernel_rfl) ⟨eqi (IntWalk.i64_in _ (by omega)), trivial⟩ (fun ρ713 w713 hm713 hR713 => ?_)
      have hag := hag.moved (hm713.castL (by kernel_rfl))
      have hrow := hrow.moved (hm713.castL (by kernel_rfl))
      
      refine sim_int 17 (k := .i64) ((m : Int) - n - 1) ((m : Int) - ((n + 1 : Nat) : Int)) (by kernel_rfl) (by omega) ?_
      refine sim_again (n + 1) (by kernel_rfl) (by show m - (n + 1) < m - n; omega) (by kernel_rfl) (by kernel_rfl) (by kernel_rfl) (fun m hm => absurd hm (by simp)) (hR713.cast (by kernel_rfl)) (by kernel_rfl) (by kernel_rfl) ⟨hn2, ?_⟩
      rw [shDn, hys, ← swp_get hx hy]
      exact hrow.close2 (by omega) (by omega) (by omega) y x (bk_cell hR713 hag e1 y (by kernel_rfl)) (bk_cell hR713 hag e2 x (by kernel_rfl))
    · refine sim_run 7 [] (hR6.cast (by kernel_rfl)) (by kernel_rfl) trivial (fun ρ800 w800 hm800 hR800 => ?_)
      have hrow := hrow.moved (hm800.castL (by kernel_rfl))
      have hag := hag.moved (hm800.castL (by kernel_rfl))
      refine sim_know 110 (decide ((↑m : Int) - (↑n : Int) > (↑(i, j).fst : Int))) false (by kernel_rfl) (decide_eq_false (by omega)) ?_
      refine sim_run 1 [] (hR800.cast (by kernel_rfl)) (by kernel_rfl) trivial (fun ρ801 w801 hm801 hR801 => ?_)
      have hrow := hrow.moved (hm801.castL (by kernel_rfl))
      have hag := hag.moved (hm801.castL (by kernel_rfl))
      refine sim_leave (by kernel_rfl) ?_
      refine sim_ret (.tup []) (hR801.cast (by kernel_rfl)) (by kernel_rfl) (by kernel_rfl) ?_
      
      obtain rfl : n = m - i := by omega
      rw [hys]
      exact ⟨rfl, hrow.close0, hR801.keeps.kept⟩
end
end Go.Proofs.Ytnojkclgjinjhaa
