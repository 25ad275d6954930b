/-
  LinkOrders: links at once, and one by one.
-/
import Derived.Test.YtnfgndapalkbcaaLinkOrders8
namespace Go.Proofs.Ytnfgndapalkbcaa
open Go Go.RowKit
theorem with_app1 (a : List Nat) (l : List Lk) (x : Lk) : Uf.withM (Uf.withM a l) [x] = Uf.withM a (l ++ [x]) := by
  rw [Uf.withM_snoc a l x]
  have := Uf.withM_snoc (Uf.withM a l) [] x
  rw [List.nil_append] at this
  rw [this]
  rfl
theorem fresh_len (N : Nat) : (Uf.fresh N).length = N := Uf.fresh_length N
/-- what was let in one by one is let in at once -/
theorem all_ok {N : Nat} {l : List Lk} (h60 : l.length ≤ 60) (ho : outL N l = false) (hb : badL l = false) (hg : GInv (Uf.withM (Uf.fresh N) l) l) : tryM (Uf.fresh N) [] l = 0 := by
  have hi : Uf.InL (Uf.fresh N).length l := by rw [fresh_len]; exact inL_of ho
  unfold tryM
  rw [if_neg (by simp; omega), if_neg (by rw [fresh_len, ho]; simp), if_neg (by rw [hb]; simp), if_pos]
  rw [List.nil_append, Uf.joined_full (Uf.fresh_good N) hi hi]
  exact hg.full
/-- what stands of a graph to which links were added one by one -/
structure OneI (N : Nat) (l : List Lk) (u : List Nat) (ls : List Lk) : Prop where
  u : u = Uf.withM (Uf.fresh N) l
  ls : ls = l
  out : outL N l = false
  bad : badL l = false
theorem OneI.nil (N : Nat) : OneI N [] (Uf.fresh N) [] := ⟨rfl, rfl, rfl, rfl⟩
theorem OneI.snoc {N : Nat} {l : List Lk} {u : List Nat} {ls : List Lk} {x : Lk} (h : OneI N l u ls) (hul : u.length = N) (ht : tryM u ls [x] = 0) : OneI N (l ++ [x]) (addU u ls [x]) (addL u ls [x]) := by
  obtain ⟨_, h2, h3, _⟩ := tryM_zero ht
  rw [hul] at h2
  refine ⟨?_, ?_, ?_, ?_⟩
  · unfold addU
    rw [if_pos ht, h.u, with_app1]
  · unfold addL
    rw [if_pos ht, h.ls]
  · have h1 := h.out
    unfold outL at h1 h2 ⊢
    rw [List.any_append, h1, h2]
    rfl
  · have h1 := h.bad
    unfold badL at h1 h3 ⊢
    rw [List.any_append, h1, h3]
    rfl
attribute [local irreducible] run goO leaveK someK nextK nextT nextOT nextOD loopBody loopRest loopK fillJ tmplOf tmplJ mergeT At AtO drawOk ordOf gateOf callC callO topOp topO idxOf appOf storeOf clearOf sliceOf calleeOf calleeO topQ idxQ newRowOf resL stepOp seek
set_option maxRecDepth 100000 in
set_option maxHeartbeats 4000000 in
theorem ord_19 (w0 : World) (q q2 : GrP) (u u2 : List Nat) (ls ls2 : List Lk) (ok : Bool) (N : Nat) (hGI : GInv u ls) (hGI2 : GInv u2 ls2) (hok : ok = true → (Uf.orderM u2 ls2).map (Uf.cls u2) = (Uf.orderM u ls).map (Uf.cls u)) (hul : u.length = N) (w : World) (ρ : Nm) (hR : Rel [] w0 ρ [gR q, gR q2] w) (hs : Sta q.has (GrV q u ls) ρ [gR q, gR q2] w) (hs2 : Sta q2.has (GrV q2 u2 ls2) ρ [gR q, gR q2] w) (e0 : ρ 0 = (q.b, 0)) (e1 : ρ 1 = (q2.b, 0)) (d : Nat → Value) :
    At Try.prog (bodyPost Try.prog Try.f4 (okO w0)) ⟨regK Try.f4 19, fillJ (tmplJ Try.f4.ntmps 0 [(0, LI (N : Int)), (5, .ptr 0 0), (7, .ptr 1 0), (9, LB ok)]) d 0, [gR q, gR q2]⟩ ρ w := by
  have hag := hR.ag_ 2 (by kernel_rfl)
  refine sim_run 1 [] (hR.cast (by kernel_rfl)) (by kernel_rfl) trivial (fun ρ9000 w9000 hm9000 hR9000 => ?_)
  have hs := hs.moved (hm9000.castL (by kernel_rfl))
  have hs2 := hs2.moved (hm9000.castL (by kernel_rfl))
  have hag := hag.moved (hm9000.castL (by kernel_rfl))
  refine sim_call 16 [.ptr 0 0] (by kernel_rfl) ?_
  have ez0_9001 := (hag.at_ 0 (by omega)).trans e0
  simp only [denL, LV.den, Nm.at_, ez0_9001, Nat.add_zero]
  refine Calls.mono (orderG_any (q) (u) (ls) _ (hs.is) (hGI)) ?_
  rintro e9001 w9001 ⟨Lo, co, rfl, hr9001, hb9001⟩
  have hrow := Sta.rows (hR9000) hr9001
  have hR9001 := (hR9000).below hb9001
  have hs := hs.below hb9001
  have hs2 := hs2.below hb9001
  refine Back.of (.v (.slice Lo (Uf.orderM u ls).length co)) hR9001 rfl ?_
  refine sim_run 4 [] (hR9001.cast (by kernel_rfl)) (by kernel_rfl) trivial (fun ρ9002 w9002 hm9002 hR9002 => ?_)
  have hag := hag.moved (hm9002.castL (by kernel_rfl))
  have hrow := hrow.moved (hm9002.castL (by kernel_rfl))
  have hs := hs.moved (hm9002.castL (by kernel_rfl))
  have hs2 := hs2.moved (hm9002.castL (by kernel_rfl))
  
  refine sim_to (regK Try.f4 20) (tmplJ Try.f4.ntmps 0 [(0, LI (N : Int)), (5, .ptr 0 0), (7, .ptr 1 0), (9, LB ok), (13, .v (.slice Lo (Uf.orderM u ls).length co))]) [gR q, gR q2] (by kernel_rfl) (by kernel_rfl) (by kernel_rfl) (fun d6 => ?_)
  exact ord_make w0 q q2 u u2 ls ls2 ok Lo co _ _ _ N (List.length_map _).symm hGI hGI2 hok hul _ (hm9002.kept.size) _ ((by assumption : Rel _ _ _ _ _).cast (by kernel_rfl)) (hs.castR (by kernel_rfl)) (hs2.castR (by kernel_rfl)) (hrow.castR (by kernel_rfl)) ((hag.at_ 0 (by omega)).trans e0) ((hag.at_ 1 (by omega)).trans e1) d6
set_option maxRecDepth 100000 in
set_option maxHeartbeats 4000000 in
theorem ord_17 (w0 : World) (q q2 : GrP) (u : List Nat) (ls : List Lk) (ok : Bool) (N : Nat) (A : Option Addr) (k c : Nat) (l : List Lk) (hl : Lks w0 A k l) (hk60 : k ≤ 60) (hGI : GInv u ls) (hul : u.length = N) (hone : ok = true → OneI N l u ls) (w : World) (ρ : Nm) (hR : Rel [] w0 ρ [gR q, gR q2] w) (hs : Sta q.has (GrV q u ls) ρ [gR q, gR q2] w) (hs2 : Sta q2.has (GrV q2 (Uf.fresh N) []) ρ [gR q, gR q2] w) (hT2 : ∀ y, q2.has y → y ∈ ([] : List Nat) ∨ w0.heap.size ≤ y) (hdis : ∀ y, q2.has y → ¬ q.has y) (e0 : ρ 0 = (q.b, 0)) (e1 : ρ 1 = (q2.b, 0)) (d : Nat → Value) :
    At Try.prog (bodyPost Try.prog Try.f4 (okO w0)) ⟨regK Try.f4 17, fillJ (tmplJ Try.f4.ntmps 0 [(0, LI (N : Int)), (1, .v (.slice A k c)), (5, .ptr 0 0), (7, .ptr 1 0), (9, LB ok)]) d 0, [gR q, gR q2]⟩ ρ w := by
  obtain ⟨b2, pb2, pgx, Apx, cpx, Lx, clx⟩ := q2
  have hN : N ≤ 1000 := hul ▸ hGI.le
  have hll := lkV_num hl.rd
  have hag := hR.ag_ 2 (by kernel_rfl)
  refine sim_run 2 [] (hR.cast (by kernel_rfl)) (by kernel_rfl) trivial (fun ρ9100 w9100 hm9100 hR9100 => ?_)
  have hs := hs.moved (hm9100.castL (by kernel_rfl))
  have hs2 := hs2.moved (hm9100.castL (by kernel_rfl))
  have hag := hag.moved (hm9100.castL (by kernel_rfl))
  
  refine sim_call 11 [.ptr 1 0, .v (.slice A k c)] (by kernel_rfl) ?_
  have ezT := (hag.at_ 1 (by omega)).trans e1
  have ez0 := (hag.at_ 0 (by omega)).trans e0
  simp only [denL, LV.den, Nm.at_, ezT, Nat.add_zero]
  have hRT := (by assumption : Rel _ _ _ _ _)
  have a1T := hs2.is
  have a2T := hl.rd.keeps hRT.keeps (Nat.le_refl _) (by simp)
  have a3T := hRT.keeps.size
  have a4T := add_at _ (Uf.fresh N) [] A k c w0.heap.size l _ _ _ _ a1T (GInv.fresh hN) a2T a3T (by omega) (fun a ha hb hq => (hT2 _ hq).elim (by simp) (fun h => by omega)) rfl rfl rfl
  refine Calls.mono a4T ?_
  rintro eT wT ⟨rfl, pg2, Ap2, cp2, L2, cl2, hgT, hkT, hhT⟩
  have hRq := hRT.afterG hs2 hkT hgT rfl rfl hT2 1 (by kernel_rfl) ezT [0, 1] (by kernel_rfl) (fun k hk hne hq => by
    obtain rfl : k = 0 := by simp at hk; omega
    rw [ez0] at hq
    exact hdis _ hq (.inl rfl))
  have hs := hs.kept hkT (fun x hx h => hdis x h hx)
  have hs2' := hs2.afterG hRT hgT hhT
  clear hs2 a1T a2T a3T a4T hRT
  have hs2 := hs2'
  clear hs2'
  have hGI2 := (GInv.fresh hN).addM l
  refine Back.of (LI (tryM (Uf.fresh N) [] l)) hRq rfl ?_
  by_cases ht : tryM (Uf.fresh N) [] l = 0
  · cases ok with
    | true =>
      have h1 := hone rfl
      have eL : addL (Uf.fresh N) [] l = ls := by unfold addL; rw [if_pos ht, List.nil_append, h1.ls]
      have eU : addU (Uf.fresh N) [] l = u := by unfold addU; rw [if_pos ht, h1.u]
      refine sim_run 4 [] (hRq.cast (by kernel_rfl)) (by kernel_rfl) trivial (fun ρ9200 w9200 hm9200 hR9200 => ?_)
      have hag := hag.moved (hm9200.castL (by kernel_rfl))
      have hs := hs.moved (hm9200.castL (by kernel_rfl))
      have hs2 := hs2.moved (hm9200.castL (by kernel_rfl))
      refine sim_fork 87 (!(tryM (Uf.fresh N) [] l == 0) == true) (by kernel_rfl) (fun hq9201 => ?_) (fun hq9201 => ?_)
      have hq9201 := nb_t hq9201
      have hq9201 := of_decide_eq_false hq9201
      refine sim_run 10 [] (hR9200.cast (by kernel_rfl)) (by kernel_rfl) trivial (fun ρ9202 w9202 hm9202 hR9202 => ?_)
      have hag := hag.moved (hm9202.castL (by kernel_rfl))
      have hs := hs.moved (hm9202.castL (by kernel_rfl))
      have hs2 := hs2.moved (hm9202.castL (by kernel_rfl))
      refine sim_ret (LB false) hR9202 (by kernel_rfl) (by kernel_rfl) ?_
      exact ⟨retv_bool (by clear hR9202 hm9202 hR9200 hm9200 hRq hR9100 hm9100 hag e1 hR e0; grind []), hR9202.toBelow⟩
      have hq9201 := nb_f hq9201
      have hq9201 := of_decide_eq_true hq9201
      have hq9201 := of_decide_eq_true hq9201
      refine sim_run 4 [] (hR9200.cast (by kernel_rfl)) (by kernel_rfl) trivial (fun ρ9203 w9203 hm9203 hR9203 => ?_)
      have hag := hag.moved (hm9203.castL (by kernel_rfl))
      have hs := hs.moved (hm9203.castL (by kernel_rfl))
      have hs2 := hs2.moved (hm9203.castL (by kernel_rfl))
      
      refine sim_to (regK Try.f4 19) (tmplJ Try.f4.ntmps 0 [(0, LI (N : Int)), (5, .ptr 0 0), (7, .ptr 1 0), (9, LB true)]) [gR q, gR ⟨b2, pb2, pg2, Ap2, cp2, L2, cl2⟩] (by kernel_rfl) (by kernel_rfl) (by kernel_rfl) (fun d6 => ?_)
      exact ord_19 w0 q _ u _ ls _ true N hGI hGI2 (fun _ => by rw [eL, eU]) hul _ _ ((by assumption : Rel _ _ _ _ _).cast (by kernel_rfl)) (hs.castR (by kernel_rfl)) (hs2.castR (by kernel_rfl)) ((hag.at_ 0 (by omega)).trans e0) ((hag.at_ 1 (by omega)).trans e1) d6
    | false =>
      refine sim_run 4 [] (hRq.cast (by kernel_rfl)) (by kernel_rfl) trivial (fun ρ9300 w9300 hm9300 hR9300 => ?_)
      have hag := hag.moved (hm9300.castL (by kernel_rfl))
      have hs := hs.moved (hm9300.castL (by kernel_rfl))
      have hs2 := hs2.moved (hm9300.castL (by kernel_rfl))
      refine sim_fork 87 (!(tryM (Uf.fresh N) [] l == 0) == false) (by kernel_rfl) (fun hq9301 => ?_) (fun hq9301 => ?_)
      have hq9301 := nb_t hq9301
      have hq9301 := of_decide_eq_false hq9301
      refine sim_run 6 [] (hR9300.cast (by kernel_rfl)) (by kernel_rfl) trivial (fun ρ9302 w9302 hm9302 hR9302 => ?_)
      have hag := hag.moved (hm9302.castL (by kernel_rfl))
      have hs := hs.moved (hm9302.castL (by kernel_rfl))
      have hs2 := hs2.moved (hm9302.castL (by kernel_rfl))
      refine sim_call 9 [] (by kernel_rfl) ?_
      refine Calls.mono (alive18_any _) ?_
      rintro e9303 w9303 ⟨rfl, hb9303⟩
      have hR9303 := hR9302.below hb9303
      have hs := hs.below hb9303
      have hs2 := hs2.below hb9303
      refine Back.of (LB true) hR9303 rfl ?_
      refine sim_run 3 [] (hR9303.cast (by kernel_rfl)) (by kernel_rfl) trivial (fun ρ9304 w9304 hm9304 hR9304 => ?_)
      have hag := hag.moved (hm9304.castL (by kernel_rfl))
      have hs := hs.moved (hm9304.castL (by kernel_rfl))
      have hs2 := hs2.moved (hm9304.castL (by kernel_rfl))
      refine sim_ret (LB true) hR9304 (by kernel_rfl) (by kernel_rfl) ?_
      exact ⟨rfl, hR9304.toBelow⟩
      have hq9301 := nb_f hq9301
      have hq9301 := of_decide_eq_true hq9301
      have hq9301 := of_decide_eq_false hq9301
      refine sim_run 5 [] (hR9300.cast (by kernel_rfl)) (by kernel_rfl) trivial (fun ρ9305 w9305 hm9305 hR9305 => ?_)
      have hag := hag.moved (hm9305.castL (by kernel_rfl))
      have hs := hs.moved (hm9305.castL (by kernel_rfl))
      have hs2 := hs2.moved (hm9305.castL (by kernel_rfl))
      
      exact absurd ht (by assumption)
  · cases ok with
    | true =>
      have h1 := hone rfl
      exact absurd (all_ok (by omega) h1.out h1.bad (by rw [← h1.u]; rw [← h1.ls]; exact hGI)) ht
    | false =>
      refine sim_run 4 [] (hRq.cast (by kernel_rfl)) (by kernel_rfl) trivial (fun ρ9400 w9400 hm9400 hR9400 => ?_)
      have hag := hag.moved (hm9400.castL (by kernel_rfl))
      have hs := hs.moved (hm9400.castL (by kernel_rfl))
      have hs2 := hs2.moved (hm9400.castL (by kernel_rfl))
      refine sim_fork 87 (!(tryM (Uf.fresh N) [] l == 0) == false) (by kernel_rfl) (fun hq9401 => ?_) (fun hq9401 => ?_)
      have hq9401 := nb_t hq9401
      have hq9401 := of_decide_eq_false hq9401
      refine sim_run 6 [] (hR9400.cast (by kernel_rfl)) (by kernel_rfl) trivial (fun ρ9402 w9402 hm9402 hR9402 => ?_)
      have hag := hag.moved (hm9402.castL (by kernel_rfl))
      have hs := hs.moved (hm9402.castL (by kernel_rfl))
      have hs2 := hs2.moved (hm9402.castL (by kernel_rfl))
      rotate_left
      have hq9401 := nb_f hq9401
      have hq9401 := of_decide_eq_true hq9401
      have hq9401 := of_decide_eq_false hq9401
      refine sim_run 4 [] (hR9400.cast (by kernel_rfl)) (by kernel_rfl) trivial (fun ρ9403 w9403 hm9403 hR9403 => ?_)
      have hag := hag.moved (hm9403.castL (by kernel_rfl))
      have hs := hs.moved (hm9403.castL (by kernel_rfl))
      have hs2 := hs2.moved (hm9403.castL (by kernel_rfl))
      rotate_left
      
      · exact absurd (beq_eq_false_iff_ne.2 ht) (by assumption)
      refine sim_to (regK Try.f4 19) (tmplJ Try.f4.ntmps 0 [(0, LI (N : Int)), (5, .ptr 0 0), (7, .ptr 1 0), (9, LB false)]) [gR q, gR ⟨b2, pb2, pg2, Ap2, cp2, L2, cl2⟩] (by kernel_rfl) (by kernel_rfl) (by kernel_rfl) (fun d6 => ?_)
      exact ord_19 w0 q _ u _ ls _ false N hGI hGI2 (fun h => by cases h) hul _ _ ((by assumption : Rel _ _ _ _ _).cast (by kernel_rfl)) (hs.castR (by kernel_rfl)) (hs2.castR (by kernel_rfl)) ((hag.at_ 0 (by omega)).trans e0) ((hag.at_ 1 (by omega)).trans e1) d6
end Go.Proofs.Ytnfgndapalkbcaa
