/-
  LinkOrders: the list of places.
-/
import Derived.Test.YtnfgndapalkbcaaLinkOrders7
namespace Go.Proofs.Ytnfgndapalkbcaa
open Go Go.RowKit
theorem repl_snoc (ρ : Nm) (i : Nat) : ints (List.replicate i (-1)) ++ denL ρ [LI (-1)] = ints (List.replicate (i + 1) (-1)) := by
  rw [List.replicate_succ']
  unfold ints
  rw [List.map_append]
  rfl
attribute [local irreducible] run goO leaveK someK nextK nextT nextOT nextOD loopBody loopRest loopK fillJ tmplOf tmplJ mergeT At AtO drawOk ordOf gateOf callC callO topOp topO idxOf appOf storeOf clearOf sliceOf calleeOf calleeO topQ idxQ newRowOf resL stepOp seek
set_option maxRecDepth 100000 in
set_option maxHeartbeats 4000000 in
theorem ord_make (w0 : World) (q q2 : GrP) (u u2 : List Nat) (ls ls2 : List Lk) (ok : Bool) (Lo : Option Addr) (co m b3 B3 N : Nat) (hm : m = ((Uf.orderM u ls).map (Uf.cls u)).length) (hGI : GInv u ls) (hGI2 : GInv u2 ls2) (hok : ok = true → (Uf.orderM u2 ls2).map (Uf.cls u2) = (Uf.orderM u ls).map (Uf.cls u)) (hul : u.length = N) (w : World) (hB3 : B3 ≤ w.heap.size) (ρ : Nm) (hR : Rel [] w0 ρ [gR q, gR q2] w) (hs : Sta q.has (GrV q u ls) ρ [gR q, gR q2] w) (hs2 : Sta q2.has (GrV q2 u2 ls2) ρ [gR q, gR q2] w) (hrow : Sta (btw b3 B3) (RowW B3 b3 Lo ((Uf.orderM u ls).map (Uf.cls u))) ρ [gR q, gR q2] w) (e0 : ρ 0 = (q.b, 0)) (e1 : ρ 1 = (q2.b, 0)) (d : Nat → Value) :
    At Try.prog (bodyPost Try.prog Try.f4 (okO w0)) ⟨regK Try.f4 20, fillJ (tmplJ Try.f4.ntmps 0 [(0, LI (N : Int)), (5, .ptr 0 0), (7, .ptr 1 0), (9, LB ok), (13, .v (.slice Lo m co))]) d 0, [gR q, gR q2]⟩ ρ w := by
  have hN : N ≤ 1000 := hul ▸ hGI.le
  obtain ⟨bp, hbp⟩ : ∃ bp, bp = w.heap.size := ⟨_, rfl⟩
  have hq1 := hs.lt
  have hq2 := hs2.lt
  have hw0 := hR.keeps.size
  rw [← hbp] at hq1 hq2 hw0 hB3
  have hag := hR.ag_ 2 (by kernel_rfl)
  refine sim_run 8 [] (hR.cast (by kernel_rfl)) (by kernel_rfl) trivial (fun ρ8000 w8000 hm8000 hR8000 => ?_)
  have hs := hs.moved (hm8000.castL (by kernel_rfl))
  have hs2 := hs2.moved (hm8000.castL (by kernel_rfl))
  have hrow := hrow.moved (hm8000.castL (by kernel_rfl))
  have hag := hag.moved (hm8000.castL (by kernel_rfl))
  
  have e0 := (hag.at_ 0 (by omega)).trans e0
  have e1 := (hag.at_ 1 (by omega)).trans e1
  have hbz : bp ≤ w8000.heap.size := by rw [hbp]; exact hm8000.kept.size
  refine sim_loop (ι := Nat × Value) (T := []) (w0 := w0) (0, .slice none 0 0) [0, 5, 7, 9, 13] (fun s => [(14, .v s.2), (15, LI s.1)]) (fun _ => [gR q, gR q2]) (fun s w1 => s.1 ≤ N + 1 ∧ bp ≤ w1.heap.size ∧ Sta q.has (GrV q u ls) ρ8000 [gR q, gR q2] w1 ∧ Sta q2.has (GrV q2 u2 ls2) ρ8000 [gR q, gR q2] w1 ∧ Sta (btw b3 B3) (RowW B3 b3 Lo ((Uf.orderM u ls).map (Uf.cls u))) ρ8000 [gR q, gR q2] w1 ∧ Own ρ8000 [gR q, gR q2] w1 bp 3 1 s.2 s.1 (ints (List.replicate s.1 (-1)))) (fun s => N + 1 - s.1) (by kernel_rfl) (by kernel_rfl) ((by assumption : Rel _ _ _ _ _).cast (by kernel_rfl)) ⟨Nat.zero_le _, hbz, hs.castR (by kernel_rfl), hs2.castR (by kernel_rfl), hrow.castR (by kernel_rfl), ⟨World.ownsRow_nil _ _ _ _, fun g hg => by cases hg⟩⟩ ?_
  clear hbz
  iterate 8 (try clear hs)
  iterate 8 (try clear hs2)
  iterate 8 (try clear hrow)
  iterate 8 (try clear hag)
  rintro ⟨i, v⟩ d2 w2 hR2 ⟨hi, hbz, hs, hs2, hrow, hpl⟩
  dsimp only at hi hs hs2 hrow hpl
  have hag := hR2.ag_ 2 (by kernel_rfl)
  by_cases hlt : i ≤ N
  · refine sim_run 7 [] (hR2.cast (by kernel_rfl)) (by kernel_rfl) trivial (fun ρ8100 w8100 hm8100 hR8100 => ?_)
    have hs := hs.moved (hm8100.castL (by kernel_rfl))
    have hs2 := hs2.moved (hm8100.castL (by kernel_rfl))
    have hrow := hrow.moved (hm8100.castL (by kernel_rfl))
    have hpl := hpl.moved (hm8100.castL (by kernel_rfl))
    have hag := hag.moved (hm8100.castL (by kernel_rfl))
    refine sim_know 97 (decide ((↑(i, v).fst : Int) ≤ (↑N : Int))) true (by kernel_rfl) (decide_eq_true (by omega)) ?_
    refine sim_run 7 [] (hR8100.cast (by kernel_rfl)) (by kernel_rfl) trivial (fun ρ8101 w8101 hm8101 hR8101 => ?_)
    have hs := hs.moved (hm8101.castL (by kernel_rfl))
    have hs2 := hs2.moved (hm8101.castL (by kernel_rfl))
    have hrow := hrow.moved (hm8101.castL (by kernel_rfl))
    have hpl := hpl.moved (hm8101.castL (by kernel_rfl))
    have hag := hag.moved (hm8101.castL (by kernel_rfl))
    
    refine sim_appendO 31 v (.slc 2 0 1 1) (by kernel_rfl) (by assumption : Rel _ _ _ _ _) int_ty hpl 2 1 1 rfl [LI (-1)] (by kernel_rfl) rfl (by kernel_rfl) (by unfold maxLen; omega) (by omega) (Nat.le_trans hbz (Nat.le_trans hm8100.kept.size hm8101.kept.size)) (fun g' hg' => .inr (by have := own_ge hpl.own hg'; omega)) [0, 1] (by kernel_rfl) (fun k0 hk0 g' hg' => by
      have h4 := own_ge hpl.own hg'
      have h5 := hq1 q.b (.inl rfl)
      have h6 := hq2 q2.b (.inl rfl)
      simp only [List.mem_cons, List.not_mem_nil, or_false] at hk0
      rcases hk0 with rfl | rfl
      · rw [hag.at_ 0 (by omega), e0]
        show q.b ≠ g'
        omega
      · rw [hag.at_ 1 (by omega), e1]
        show q2.b ≠ g'
        omega) (fun v' w6 hvo hgr hR6 => ?_)
    have hs := hs.grown hgr (fun x hx e => by have := own_ge hpl.own e; have := hq1 x hx; omega)
    have hs2 := hs2.grown hgr (fun x hx e => by have := own_ge hpl.own e; have := hq2 x hx; omega)
    have hrow := hrow.grown hgr (fun x hx e => by have := own_ge hpl.own e; have := hx.2; omega)
    have hbz6 := Nat.le_trans (Nat.le_trans hbz (Nat.le_trans hm8100.kept.size hm8101.kept.size)) hgr.size
    rw [repl_snoc] at hvo
    clear hpl
    refine sim_run 8 [⟨23, 1, LI (IntKind.i64.wrap ((↑(i, v).fst : Int) + 1)), LI ((↑(i, v).fst : Int) + 1)⟩] (hR6.cast (by kernel_rfl)) (by kernel_rfl) ⟨eqi (IntWalk.i64_in _ (by omega)), trivial⟩ (fun ρ8200 w8200 hm8200 hR8200 => ?_)
    have hag := hag.moved (hm8200.castL (by kernel_rfl))
    have hvo := hvo.moved (hm8200.castL (by kernel_rfl))
    have hs := hs.moved (hm8200.castL (by kernel_rfl))
    have hs2 := hs2.moved (hm8200.castL (by kernel_rfl))
    have hrow := hrow.moved (hm8200.castL (by kernel_rfl))
    
    exact sim_again (i + 1, v') (by kernel_rfl) (by show N + 1 - (i + 1) < N + 1 - i; omega) (by kernel_rfl) (by kernel_rfl) (by kernel_rfl) hag.ag (Rel.cast (by assumption) (by kernel_rfl)) (by kernel_rfl) (by kernel_rfl) ⟨by dsimp only; omega, Nat.le_trans hbz6 hm8200.kept.size, hs.cut hag rfl (by kernel_rfl), hs2.cut hag rfl (by kernel_rfl), hrow.cut hag rfl (by kernel_rfl), hvo.cut hag rfl (by kernel_rfl)⟩
  · obtain rfl : i = N + 1 := by omega
    have hv : ∃ gp cp, v = .slice (some ⟨gp, 0, none⟩) (N + 1) cp := by
      rcases hpl.own.2 with ⟨_, h⟩ | ⟨g, cap, cur, h, _⟩
      · omega
      · exact ⟨g, cap, h⟩
    obtain ⟨gp, cp, rfl⟩ := hv
    refine sim_run 7 [] (hR2.cast (by kernel_rfl)) (by kernel_rfl) trivial (fun ρ8300 w8300 hm8300 hR8300 => ?_)
    have hs := hs.moved (hm8300.castL (by kernel_rfl))
    have hs2 := hs2.moved (hm8300.castL (by kernel_rfl))
    have hrow := hrow.moved (hm8300.castL (by kernel_rfl))
    have hag := hag.moved (hm8300.castL (by kernel_rfl))
    have hpl := hpl.moved (hm8300.castL (by kernel_rfl))
    refine sim_know 97 (decide ((↑(N + 1, Value.slice (some (Addr.mk gp 0 none)) (N + 1) cp).fst : Int) ≤ (↑N : Int))) false (by kernel_rfl) (decide_eq_false (by omega)) ?_
    refine sim_run 1 [] (hR8300.cast (by kernel_rfl)) (by kernel_rfl) trivial (fun ρ8301 w8301 hm8301 hR8301 => ?_)
    have hs := hs.moved (hm8301.castL (by kernel_rfl))
    have hs2 := hs2.moved (hm8301.castL (by kernel_rfl))
    have hrow := hrow.moved (hm8301.castL (by kernel_rfl))
    have hag := hag.moved (hm8301.castL (by kernel_rfl))
    have hpl := hpl.moved (hm8301.castL (by kernel_rfl))
    refine sim_leave (by kernel_rfl) ?_
    refine sim_run 3 [] (hR8301.cast (by kernel_rfl)) (by kernel_rfl) trivial (fun ρ8302 w8302 hm8302 hR8302 => ?_)
    have hs := hs.moved (hm8302.castL (by kernel_rfl))
    have hs2 := hs2.moved (hm8302.castL (by kernel_rfl))
    have hrow := hrow.moved (hm8302.castL (by kernel_rfl))
    have hag := hag.moved (hm8302.castL (by kernel_rfl))
    have hpl := hpl.moved (hm8302.castL (by kernel_rfl))
    
    refine sim_to (regK Try.f4 25) (tmplJ Try.f4.ntmps 0 [(0, LI (N : Int)), (5, .ptr 0 0), (7, .ptr 1 0), (9, LB ok), (13, .v (.slice Lo m co)), (14, .v (.slice (some ⟨gp, 0, none⟩) (N + 1) cp))]) [gR q, gR q2] (by kernel_rfl) (by kernel_rfl) (by kernel_rfl) (fun d6 => ?_)
    exact ord_rows w0 q q2 u u2 ls ls2 ok Lo co m b3 B3 N (N + 1) cp bp gp _ hm hGI hGI2 hok hul rfl hq1 hq2 hB3 hw0 _ _ ((by assumption : Rel _ _ _ _ _).cast (by kernel_rfl)) (hs.castR (by kernel_rfl)) (hs2.castR (by kernel_rfl)) (hrow.castR (by kernel_rfl)) (hpl.castR (by kernel_rfl)) ((hag.at_ 0 (by omega)).trans e0) ((hag.at_ 1 (by omega)).trans e1) (PlI.start u _ N) d6
end Go.Proofs.Ytnfgndapalkbcaa
