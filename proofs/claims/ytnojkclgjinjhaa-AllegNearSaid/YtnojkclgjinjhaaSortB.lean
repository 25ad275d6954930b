/-
  A row of instructions that is sorted in place: insertion, rotation.
-/
import Derived.Test.YtnojkclgjinjhaaSortA
namespace Go.Proofs.Ytnojkclgjinjhaa
open Go Go.RowKit
attribute [local irreducible] run goO leaveK someK nextK nextT nextOT nextOD loopBody loopRest loopK fillJ tmplOf tmplJ mergeT At AtO drawOk ordOf gateOf callC callO topOp topO idxOf appOf storeOf clearOf sliceOf calleeOf calleeO topQ idxQ newRowOf resL stepOp seek

set_option maxRecDepth 100000 in
theorem set_same {α : Type} {xs : List α} {k : Nat} {x : α} (h : xs[k]? = some x) : xs.set k x = xs := by
  apply List.ext_getElem?
  intro i
  rw [List.getElem?_set]
  split
  · rename_i e
    subst e
    have := (List.getElem?_eq_some_iff.1 h).1
    rw [if_pos this, h]
  · rfl
theorem insJ_at (lt : In → In → Bool) (a f : Nat) (zs : List In) (j : Nat) (h : ¬(a < j ∧ ltAt lt zs j (j - 1) = true)) : insJ lt a f zs j = zs := by
  cases f with
  | zero => rfl
  | succ f => rw [insJ, if_neg h]
set_option maxHeartbeats 4000000 in
theorem insertion_any (g : FuncId) (hg : Enters Try.prog g) (caps : Array Value) (cmp : In → In → Int) (hcmp : CmpAll g caps cmp) (h len cap : Nat) (xs : List In) (rest : List Value) (hok : ∀ x ∈ xs, x.ok) (a b : Nat) (hb : b ≤ len) (ha : a ≤ len) (hl : xs.length = len) (hmax : len ≤ 1000000) (w : World) (hblk : Blk w h 27 (insts xs ++ rest).toArray) :
    Calls Try.prog 85 #[.slice (some ⟨h, 0, none⟩) len cap, .int .i64 a, .int .i64 b, .func (.func g) #[] caps] w (RowPost w h rest (insM (ltC cmp) xs a (b - a - 1))) := by
  refine sim_enter Try.func85 ρ0 [.v (.slice (some ⟨h, 0, none⟩) len cap), LI a, LI b, .v (.func (.func g) #[] caps)] [] (by kernel_rfl) rfl ?_
  have hR := Rel.start [h] w ρ0
  have hrow : RowI ρ0 [] w h xs rest [] := .start hblk _ _ rfl
  refine sim_run 7 [⟨0, 1, LI (IntKind.i64.wrap ((↑a : Int) + 1)), LI ((↑a : Int) + 1)⟩] (hR.cast (by kernel_rfl)) (by kernel_rfl) ⟨eqi (IntWalk.i64_in _ (by omega)), trivial⟩ (fun ρ100 w100 hm100 hR100 => ?_)
  have hrow := hrow.moved (hm100.castL (by kernel_rfl))
  
  have hrow := hrow.close0
  refine sim_loop (ι := Nat) (T := [h]) (w0 := w) 0 [0, 1, 2, 3] (fun k => [(8, LI ((a : Int) + 1 + k))]) (fun _ => []) (fun k w1 => k ≤ b - a - 1 ∧ Blk w1 h 27 (insts (insM (ltC cmp) xs a k) ++ rest).toArray) (fun k => b - a - k) (by kernel_rfl) (by kernel_rfl) (hR100.cast (by kernel_rfl)) ⟨Nat.zero_le _, hrow⟩ ?_
  iterate 6 (try clear hrow)
  clear hR100 hm100
  rintro k d w2 hR2 ⟨hk, hblk⟩
  have hlen := insM_len (ltC cmp) xs a k
  have hall := insM_all (ltC cmp) xs a hok k
  obtain ⟨ys, hys⟩ : ∃ ys, insM (ltC cmp) xs a k = ys := ⟨_, rfl⟩
  rw [hys] at hblk hlen hall
  have hrow : RowI ρ100 [] w2 h ys rest [] := .start hblk _ _ rfl
  have hag := hR2.ag_ 0 (by kernel_rfl)
  by_cases hlt : k < b - a - 1
  · refine sim_run 7 [] (hR2.cast (by kernel_rfl)) (by kernel_rfl) trivial (fun ρ200 w200 hm200 hR200 => ?_)
    have hrow := hrow.moved (hm200.castL (by kernel_rfl))
    have hag := hag.moved (hm200.castL (by kernel_rfl))
    refine sim_know 14 (decide ((↑a : Int) + 1 + (↑k : Int) < (↑b : Int))) true (by kernel_rfl) (decide_eq_true (by omega)) ?_
    refine sim_run 10 [] (hR200.cast (by kernel_rfl)) (by kernel_rfl) trivial (fun ρ201 w201 hm201 hR201 => ?_)
    have hrow := hrow.moved (hm201.castL (by kernel_rfl))
    have hag := hag.moved (hm201.castL (by kernel_rfl))
    
    refine sim_loop (ι := Nat) (T := [h]) (w0 := w) (a + 1 + k) [0, 1, 2, 3, 8] (fun j => [(9, LI j)]) (fun _ => []) (fun j w1 => j ≤ a + 1 + k ∧ a ≤ j ∧ ∃ zs, zs.length = len ∧ (∀ x ∈ zs, x.ok) ∧ insJ (ltC cmp) a (k + 1) ys (a + 1 + k) = insJ (ltC cmp) a (j - a) zs j ∧ Blk w1 h 27 (insts zs ++ rest).toArray) (fun j => j) (by kernel_rfl) (by kernel_rfl) (hR201.cast (by kernel_rfl)) ⟨Nat.le_refl _, by omega, ys, by omega, hall, by rw [show a + 1 + k - a = k + 1 by omega], hrow.close0⟩ ?_
    iterate 6 (try clear hrow)
    clear hR200 hm200 hR201 hm201
    rintro j d w3 hR3 ⟨hj, haj, zs, hzl, hzok, hzs, hblk⟩
    have hrow : RowI ρ201 [] w3 h zs rest [] := .start hblk _ _ rfl
    have hag := hR3.ag_ 0 (by kernel_rfl)
    by_cases hja : a < j
    · refine sim_seeI j 0 hrow hag (by kernel_rfl) (by omega) (by simp) (.inl (by simp)) hR3 (by kernel_rfl) [] (by kernel_rfl) (by simp) (fun x ρ1 hx ha1 e1 hag hR1 hrow => ?_)
      refine sim_seeI (j - 1) 1 hrow hag (by kernel_rfl) (by omega) (by simp; omega) (.inl (by simp)) hR1 (by kernel_rfl) [] (by kernel_rfl) (by simp) (fun y ρ2 hy ha2 e2 hag hR4 hrow => ?_)
      have e1 := (ha2 0 (by omega)).trans e1
      refine sim_run 2 [] hR4 (by kernel_rfl) trivial (fun ρ400 w400 hm400 hR400 => ?_)
      have hag := hag.moved (hm400.castL (by kernel_rfl))
      have hrow := hrow.moved (hm400.castL (by kernel_rfl))
      refine sim_draw [] (by kernel_rfl) (by kernel_rfl) hR400 (fun hR401 => ?_)
      have hrow := hrow.drew
      refine sim_ordN 4 [] hR401 (by kernel_rfl) trivial (fun ρ402 w402 hm402 hR402 => ?_)
      have hag := hag.moved (hm402.castL (by kernel_rfl))
      have hrow := hrow.moved (hm402.castL (by kernel_rfl))
      refine sim_knowO hR402 21 (decide ((↑j : Int) > (↑a : Int))) true (by kernel_rfl) (decide_eq_true (by omega)) (fun hR403 => ?_)
      refine sim_ordN 3 [] hR403 (by kernel_rfl) trivial (fun ρ404 w404 hm404 hR404 => ?_)
      have hag := hag.moved (hm404.castL (by kernel_rfl))
      have hrow := hrow.moved (hm404.castL (by kernel_rfl))
      refine sim_ord_index (.v (.slice (some ⟨h, 0, none⟩) len cap)) len 21 (j : Int) 0 0 (by kernel_rfl) (by omega) (by omega) rfl hR404 (by simp only [Nm.at_, hag.at_ 0 (by omega), e1]; congr 1; omega) (fun hR405 => ?_)
      refine sim_ordN 4 [⟨4, 11, LI (IntKind.i64.wrap ((↑j : Int) - 1)), LI ((↑j : Int) - 1)⟩] hR405 (by kernel_rfl) ⟨eqi (IntWalk.i64_in _ (by omega)), trivial⟩ (fun ρ406 w406 hm406 hR406 => ?_)
      have hag := hag.moved (hm406.castL (by kernel_rfl))
      have hrow := hrow.moved (hm406.castL (by kernel_rfl))
      refine sim_ord_index (.v (.slice (some ⟨h, 0, none⟩) len cap)) len 21 ((j : Int) - 1) 1 0 (by kernel_rfl) (by omega) (by omega) rfl hR406 (by simp only [Nm.at_, hag.at_ 1 (by omega), e2]; congr 1; omega) (fun hR407 => ?_)
      refine sim_ordN 1 [] hR407 (by kernel_rfl) trivial (fun ρ408 w408 hm408 hR408 => ?_)
      have hag := hag.moved (hm408.castL (by kernel_rfl))
      have hrow := hrow.moved (hm408.castL (by kernel_rfl))
      refine sim_ord_callF (T := [h]) (w0 := w) g caps (.v (Value.func (Fn.func g) (Array.mk []) caps)) [.agg [LI x.id, LS x.term.party, LS x.term.account, LS x.term.money, LS x.term.other, LB x.term.deliver, LS x.term.asset, LS x.term.ccy, LS x.term.ref, LI x.term.qty, LI x.term.amount, LI x.term.day, LI x.term.trade, LI x.prio, LB x.part, LB x.held, LB x.wish, LI x.state, LI x.mate, LI x.done, LI x.paid], .agg [LI y.id, LS y.term.party, LS y.term.account, LS y.term.money, LS y.term.other, LB y.term.deliver, LS y.term.asset, LS y.term.ccy, LS y.term.ref, LI y.term.qty, LI y.term.amount, LI y.term.day, LI y.term.trade, LI y.prio, LB y.part, LB y.held, LB y.wish, LI y.state, LI y.mate, LI y.done, LI y.paid]] (by kernel_rfl) rfl hg (Calls.mono (hcmp x y _ (hzok _ (List.mem_of_getElem? hx)) (hzok _ (List.mem_of_getElem? hy))) ?_)
      rintro e409 w409 ⟨rfl, hb409⟩
      have hR409 := hR408.call hb409 (LI (cmp x y))
      have hrow := hrow.below hb409
      refine BackO.of _ hR409 rfl ?_
      refine sim_ordN 2 [] hR409 (by kernel_rfl) trivial (fun ρ410 w410 hm410 hR410 => ?_)
      have hag := hag.moved (hm410.castL (by kernel_rfl))
      have hrow := hrow.moved (hm410.castL (by kernel_rfl))
      refine sim_ord_endR hR410 (by kernel_rfl) (fun hR411 => ?_)
      refine sim_fork 34 (decide (cmp x y < 0)) (by kernel_rfl) (fun hq412 => ?_) (fun hq412 => ?_)
      have hq412 := of_decide_eq_true hq412
      refine sim_run 4 [] (hR411.cast (by kernel_rfl)) (by kernel_rfl) trivial (fun ρ413 w413 hm413 hR413 => ?_)
      have hag := hag.moved (hm413.castL (by kernel_rfl))
      have hrow := hrow.moved (hm413.castL (by kernel_rfl))
      refine sim_draw [] (by kernel_rfl) (by kernel_rfl) hR413 (fun hR414 => ?_)
      have hrow := hrow.drew
      refine sim_ordN 8 [⟨6, 4, LI (IntKind.i64.wrap ((↑j : Int) - 1)), LI ((↑j : Int) - 1)⟩, ⟨6, 7, LI (IntKind.i64.wrap ((↑j : Int) - 1)), LI ((↑j : Int) - 1)⟩] hR414 (by kernel_rfl) ⟨eqi (IntWalk.i64_in _ (by omega)), eqi (IntWalk.i64_in _ (by omega)), trivial⟩ (fun ρ415 w415 hm415 hR415 => ?_)
      have hag := hag.moved (hm415.castL (by kernel_rfl))
      have hrow := hrow.moved (hm415.castL (by kernel_rfl))
      refine sim_ord_index (.v (.slice (some ⟨h, 0, none⟩) len cap)) len 21 ((j : Int) - 1) 1 0 (by kernel_rfl) (by omega) (by omega) rfl hR415 (by simp only [Nm.at_, hag.at_ 1 (by omega), e2]; congr 1; omega) (fun hR416 => ?_)
      refine sim_ordN 3 [] hR416 (by kernel_rfl) trivial (fun ρ417 w417 hm417 hR417 => ?_)
      have hag := hag.moved (hm417.castL (by kernel_rfl))
      have hrow := hrow.moved (hm417.castL (by kernel_rfl))
      refine sim_ord_index (.v (.slice (some ⟨h, 0, none⟩) len cap)) len 21 (j : Int) 0 0 (by kernel_rfl) (by omega) (by omega) rfl hR417 (by simp only [Nm.at_, hag.at_ 0 (by omega), e1]; congr 1; omega) (fun hR418 => ?_)
      refine sim_ordN 1 [] hR418 (by kernel_rfl) trivial (fun ρ419 w419 hm419 hR419 => ?_)
      have hag := hag.moved (hm419.castL (by kernel_rfl))
      have hrow := hrow.moved (hm419.castL (by kernel_rfl))
      refine sim_ord_index (.v (.slice (some ⟨h, 0, none⟩) len cap)) len 21 (j : Int) 0 0 (by kernel_rfl) (by omega) (by omega) rfl hR419 (by simp only [Nm.at_, hag.at_ 0 (by omega), e1]; congr 1; omega) (fun hR420 => ?_)
      refine sim_ordN 1 [] hR420 (by kernel_rfl) trivial (fun ρ421 w421 hm421 hR421 => ?_)
      have hag := hag.moved (hm421.castL (by kernel_rfl))
      have hrow := hrow.moved (hm421.castL (by kernel_rfl))
      refine sim_ord_index (.v (.slice (some ⟨h, 0, none⟩) len cap)) len 21 ((j : Int) - 1) 1 0 (by kernel_rfl) (by omega) (by omega) rfl hR421 (by simp only [Nm.at_, hag.at_ 1 (by omega), e2]; congr 1; omega) (fun hR422 => ?_)
      refine sim_ordN 1 [] hR422 (by kernel_rfl) trivial (fun ρ423 w423 hm423 hR423 => ?_)
      have hag := hag.moved (hm423.castL (by kernel_rfl))
      have hrow := hrow.moved (hm423.castL (by kernel_rfl))
      refine sim_ord_endR hR423 (by kernel_rfl) (fun hR424 => ?_)
      refine sim_run 6 [⟨5, 1, LI (IntKind.i64.wrap ((↑j : Int) - 1)), LI ((↑j : Int) - 1)⟩] hR424 (by kernel_rfl) ⟨eqi (IntWalk.i64_in _ (by omega)), trivial⟩ (fun ρ425 w425 hm425 hR425 => ?_)
      have hag := hag.moved (hm425.castL (by kernel_rfl))
      have hrow := hrow.moved (hm425.castL (by kernel_rfl))
      rotate_left
      have hq412 := of_decide_eq_false hq412
      refine sim_run 1 [] (hR411.cast (by kernel_rfl)) (by kernel_rfl) trivial (fun ρ426 w426 hm426 hR426 => ?_)
      have hag := hag.moved (hm426.castL (by kernel_rfl))
      have hrow := hrow.moved (hm426.castL (by kernel_rfl))
      refine sim_leave (by kernel_rfl) ?_
      refine sim_run 6 [⟨2, 1, LI (IntKind.i64.wrap ((↑a : Int) + 1 + (↑k : Int) + 1)), LI ((↑a : Int) + 1 + (↑k : Int) + 1)⟩] (hR426.cast (by kernel_rfl)) (by kernel_rfl) ⟨eqi (IntWalk.i64_in _ (by omega)), trivial⟩ (fun ρ427 w427 hm427 hR427 => ?_)
      have hag := hag.moved (hm427.castL (by kernel_rfl))
      have hrow := hrow.moved (hm427.castL (by kernel_rfl))
      rotate_left
      
      · refine sim_int 9 (k := .i64) ((j : Int) - 1) ((j - 1 : Nat) : Int) (by kernel_rfl) (by omega) ?_
        refine sim_again (j - 1) (by kernel_rfl) (by show j - 1 < j; omega) (by kernel_rfl) (by kernel_rfl) (by kernel_rfl) (fun m hm => absurd hm (by simp)) (hR425.cast (by kernel_rfl)) (by kernel_rfl) (by kernel_rfl) ⟨by omega, by omega, swp zs j (j - 1), by rw [swp_len]; exact hzl, swp_all hzok _ _, ?_, ?_⟩
        · obtain ⟨f, hf⟩ : ∃ f, j - a = f + 1 := ⟨j - a - 1, by omega⟩
          rw [hzs, hf, insJ, if_pos ⟨hja, by rw [ltAt_of hx hy]; exact decide_eq_true hq412⟩, show j - 1 - a = f by omega]
        · rw [← swp_get hx hy]
          exact hrow.close2 (by omega) (by omega) (by omega) y x (bk_cell hR425 hag e1 y (by kernel_rfl)) (bk_cell hR425 hag e2 x (by kernel_rfl))
      · refine sim_again (k + 1) (by kernel_rfl) (by show b - a - (k + 1) < b - a - k; omega) (by kernel_rfl) (by kernel_rfl) (by kernel_rfl) (fun m hm => absurd hm (by simp)) hR427 (by kernel_rfl) (by kernel_rfl) ⟨by omega, ?_⟩
        rw [insM, hys, hzs, insJ_at _ _ _ _ _ (fun hc => by rw [ltAt_of hx hy] at hc; exact hq412 (of_decide_eq_true hc.2))]
        have := hrow.close2 (by omega) (by omega) (by omega) x y (bk_cell hR427 hag e1 x (by kernel_rfl)) (bk_cell hR427 hag e2 y (by kernel_rfl))
        rw [set_same hx, set_same hy] at this
        exact this
    · refine sim_run 2 [] (hR3.cast (by kernel_rfl)) (by kernel_rfl) trivial (fun ρ500 w500 hm500 hR500 => ?_)
      have hrow := hrow.moved (hm500.castL (by kernel_rfl))
      have hag := hag.moved (hm500.castL (by kernel_rfl))
      refine sim_draw [] (by kernel_rfl) (by kernel_rfl) hR500 (fun hR501 => ?_)
      have hrow := hrow.drew
      refine sim_ordN 4 [] hR501 (by kernel_rfl) trivial (fun ρ502 w502 hm502 hR502 => ?_)
      have hag := hag.moved (hm502.castL (by kernel_rfl))
      have hrow := hrow.moved (hm502.castL (by kernel_rfl))
      refine sim_knowO hR502 21 (decide ((↑j : Int) > (↑a : Int))) false (by kernel_rfl) (decide_eq_false (by omega)) (fun hR503 => ?_)
      refine sim_ordN 13 [] hR503 (by kernel_rfl) trivial (fun ρ504 w504 hm504 hR504 => ?_)
      have hag := hag.moved (hm504.castL (by kernel_rfl))
      have hrow := hrow.moved (hm504.castL (by kernel_rfl))
      refine sim_ord_endR hR504 (by kernel_rfl) (fun hR505 => ?_)
      refine sim_run 1 [] hR505 (by kernel_rfl) trivial (fun ρ506 w506 hm506 hR506 => ?_)
      have hag := hag.moved (hm506.castL (by kernel_rfl))
      have hrow := hrow.moved (hm506.castL (by kernel_rfl))
      refine sim_leave (by kernel_rfl) ?_
      refine sim_run 6 [⟨2, 1, LI (IntKind.i64.wrap ((↑a : Int) + 1 + (↑k : Int) + 1)), LI ((↑a : Int) + 1 + (↑k : Int) + 1)⟩] (hR506.cast (by kernel_rfl)) (by kernel_rfl) ⟨eqi (IntWalk.i64_in _ (by omega)), trivial⟩ (fun ρ507 w507 hm507 hR507 => ?_)
      have hag := hag.moved (hm507.castL (by kernel_rfl))
      have hrow := hrow.moved (hm507.castL (by kernel_rfl))
      
      refine sim_again (k + 1) (by kernel_rfl) (by show b - a - (k + 1) < b - a - k; omega) (by kernel_rfl) (by kernel_rfl) (by kernel_rfl) (fun m hm => absurd hm (by simp)) hR507 (by kernel_rfl) (by kernel_rfl) ⟨by omega, ?_⟩
      rw [insM, hys, hzs, insJ_at _ _ _ _ _ (fun hc => hja hc.1)]
      exact hrow.close0
  · refine sim_run 7 [] (hR2.cast (by kernel_rfl)) (by kernel_rfl) trivial (fun ρ300 w300 hm300 hR300 => ?_)
    have hrow := hrow.moved (hm300.castL (by kernel_rfl))
    have hag := hag.moved (hm300.castL (by kernel_rfl))
    refine sim_know 14 (decide ((↑a : Int) + 1 + (↑k : Int) < (↑b : Int))) false (by kernel_rfl) (decide_eq_false (by omega)) ?_
    refine sim_run 1 [] (hR300.cast (by kernel_rfl)) (by kernel_rfl) trivial (fun ρ301 w301 hm301 hR301 => ?_)
    have hrow := hrow.moved (hm301.castL (by kernel_rfl))
    have hag := hag.moved (hm301.castL (by kernel_rfl))
    refine sim_leave (by kernel_rfl) ?_
    refine sim_end (.tup []) (hR301.cast (by kernel_rfl)) (by kernel_rfl) (by kernel_rfl) ?_
    
    obtain rfl : k = b - a - 1 := by omega
    rw [hys]
    exact ⟨rfl, hrow.close0, hR301.keeps.kept⟩
end Go.Proofs.Ytnojkclgjinjhaa
