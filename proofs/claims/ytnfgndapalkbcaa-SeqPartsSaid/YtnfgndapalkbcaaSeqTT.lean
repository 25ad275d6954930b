/-
  seq's methods over a graph and over none; what the first call of chapter 19 answers (plain).
  The first call of chapter 19.
-/
import Derived.Test.YtnfgndapalkbcaaSeqQS
import Derived.Test.YtnfgndapalkbcaaGrL
namespace Go.Proofs.Ytnfgndapalkbcaa
section
open Go Go.RowKit
section
variable (l : List In) (A : Option Addr) (n cp B : Nat) (w : World) (hr : Reads w B 21 A n (insts l)) (hB : B ≤ w.heap.size) (hl : l.length ≤ 1000)
include hr hB hl
theorem classesG_any (q : GrP) (u : List Nat) (ls : List Lk) (h : GrV q u ls w) (hi : GInv u ls) : Calls Try.prog 26 #[.pointer (some ⟨q.b, 0, none⟩), .slice A n cp] w (ClsN w (clsM u l)) :=
  classes_any _ u l A n cp B q.has (GrV q u ls) w hr hB (h.sta (by kernel_rfl)) (fun w' i h' => classG_any q u ls i w' h' hi) hi.le hl
theorem classesZ_any : Calls Try.prog 26 #[.pointer none, .slice A n cp] w (ClsN w (clsM [] l)) :=
  classes_any _ [] l A n cp B (fun _ => False) (fun _ => True) w hr hB ⟨trivial, fun _ h => h.elim, fun _ h => h.elim, fun _ _ _ _ _ _ _ => trivial⟩ (fun w' i _ => classZ_any i w') (by simp) hl
theorem topsG_any (q : GrP) (u : List Nat) (ls : List Lk) (h : GrV q u ls w) (hi : GInv u ls) : Calls Try.prog 27 #[.pointer (some ⟨q.b, 0, none⟩), .slice A n cp] w (ClsN w (topsM u ls l)) :=
  tops_any _ u ls l A n cp B q.has (GrV q u ls) w hr hB (h.sta (by kernel_rfl)) (fun w' i h' => classG_any q u ls i w' h' hi) (fun pa oa pb ob gm ck m A c B ids w' h1 h2 h3 h4 h5 h6 h7 => topG_any q u ls (firstM l) pa oa pb ob gm m ck A c B ids w' h1 hi h2 h3 h4 h5 h6 h7) hi.le hl
theorem topsZ_any : Calls Try.prog 27 #[.pointer none, .slice A n cp] w (ClsN w (topsM [] [] l)) :=
  tops_any _ [] [] l A n cp B (fun _ => False) (fun _ => True) w hr hB ⟨trivial, fun _ h => h.elim, fun _ h => h.elim, fun _ _ _ _ _ _ _ => trivial⟩ (fun w' i _ => classZ_any i w') (fun pa oa pb ob gm ck m A c B ids w' _ h2 _ _ _ _ _ => by
    have := topZ_any pa oa pb ob (.slice A ids.length c) w' h2
    have e : topB [] [] (firstM l) ids = true := by
      unfold topB aheadOf
      rw [if_neg (by unfold inU; simp; omega)]
      rfl
    rw [e]
    exact this) (by simp) hl
end
/-! ### the first call of chapter 19 -/
def in0 (id prio : Int) : In := ⟨id, zeroIn.term, prio, false, false, false, 0, 0, 0, 0⟩
def lk12 : Lk := ⟨2, 1, 2⟩
def ins2 : List In := [in0 1 2, in0 2 1]
def ins3 : List In := [in0 1 0, in0 2 0, in0 3 0]
theorem s19_sort : sortS ins2 = [in0 2 1, in0 1 2] := by
  show ssort (ltC insC) ([in0 1 2] ++ [in0 2 1]) = _
  rw [ssort_snoc]
  show mrg (ltC insC) (mrg (ltC insC) [] [in0 1 2]) [in0 2 1] = _
  rw [mrg_nil_l, mrg_cons, if_pos (by decide), mrg_nil_r]
theorem s19_u : Uf.withM (Uf.fresh 3) [lk12] = [1, 2, 3] := by decide
theorem s19_t : tryM [1, 2, 3] [] [lk12] = 0 := by decide
theorem s19_au : addU [1, 2, 3] [] [lk12] = [1, 2, 3] := by decide
theorem s19_al : addL [1, 2, 3] [] [lk12] = [lk12] := by unfold addL; rw [if_pos s19_t]; rfl
theorem s19_i : GInv [1, 2, 3] [lk12] := by have := al_i0.addM [lk12]; rw [s19_au, s19_al] at this; exact this
theorem s19_g : grpsM [1, 2, 3] (firstM ins3) (ins3.map (·.id)) = [[1], [2], [3]] := by decide
theorem s19_c : clsM [1, 2, 3] ins3 = [[1], [2], [3]] := by
  unfold clsM sortG
  rw [s19_g]
  exact List.mergeSort_of_pairwise (by decide)
theorem s19_top : topsM [1, 2, 3] [lk12] ins3 = [[1], [3]] := by
  unfold topsM
  rw [s19_c]
  decide
theorem s19_add (q : GrP) (A : Option Addr) (w : World) (h : GrV q [1, 2, 3] [] w) (hr : Reads w w.heap.size 3 A 1 (lkV [lk12])) (hA : ∀ a, A = some a → ¬ q.has a.block) : Calls Try.prog 11 #[.pointer (some ⟨q.b, 0, none⟩), .slice A 1 1] w (AddQ w q 0 [1, 2, 3] [lk12]) :=
  add_at q _ _ A 1 1 w.heap.size _ _ _ _ w h al_i0 hr (Nat.le_refl _) (by omega) (fun a e _ => hA a e) s19_t s19_au s19_al
theorem in0_ok (id prio : Int) (h1 : Is64 id) (h2 : Is64 prio) : (in0 id prio).ok := by
  have h0 : Is64 0 := by unfold Is64; omega
  have ht : noText.size ≤ maxLen := Nat.zero_le _
  exact ⟨h1, ⟨ht, ht, ht, ht, ht, ht, ht, h0, h0, h0, h0⟩, h2, h0, h0, h0, h0⟩
theorem s19_sortAny (A : Option Addr) (w : World) (h : Reads w w.heap.size 21 A 2 (insts ins2)) : Calls Try.prog 24 #[.slice A 2 2] w (InstsN w [in0 2 1, in0 1 2]) := by
  have := seqSort_any A 2 2 w.heap.size ins2 w h (Nat.le_refl _) (by omega) (fun e => by subst e; obtain ⟨_, h2, _⟩ := h.2 (by omega); cases h2) (fun x hx => by
    simp only [ins2, List.mem_cons, List.not_mem_nil, or_false] at hx
    rcases hx with rfl | rfl <;> exact in0_ok _ _ (by unfold Is64; omega) (by unfold Is64; omega))
  rw [s19_sort] at this
  exact this
theorem s19_tops (q : GrP) (A : Option Addr) (w : World) (hg : GrV q [1, 2, 3] [lk12] w) (h : Reads w w.heap.size 21 A 3 (insts ins3)) : Calls Try.prog 27 #[.pointer (some ⟨q.b, 0, none⟩), .slice A 3 3] w (ClsN w [[1], [3]]) := by
  have := topsG_any ins3 A 3 3 w.heap.size w h (Nat.le_refl _) (by decide) q [1, 2, 3] [lk12] hg s19_i
  rw [s19_top] at this
  exact this
end

section
open Go Go.RowKit
theorem own_first {w : World} {base n c s : Nat} {e : TypeId} {A : Option Addr} {xs : List Value} (h : w.ownsRow base e s (.slice A n c) n xs) (hn : 0 < n) : ∃ g, A = some ⟨g, 0, none⟩ := by
  rcases h.2 with ⟨_, h0⟩ | ⟨g, cap, cur, e, _⟩
  · omega
  · injection e with e
    exact ⟨g, e⟩
attribute [local irreducible] run goO leaveK someK nextK nextT nextOT nextOD loopBody loopRest loopK fillJ tmplOf tmplJ mergeT At AtO drawOk ordOf gateOf callC callO topOp topO idxOf appOf storeOf clearOf sliceOf calleeOf calleeO topQ idxQ newRowOf resL stepOp seek
set_option maxRecDepth 100000 in
set_option maxHeartbeats 4000000 in
theorem alive19_any (w : World) : Calls Try.prog 22 #[] w fun e w' => e = .returned (.bool true) ∧ Below w.heap.size w w' := by
  refine sim_enter Try.func22 ρ0 [] [] (by kernel_rfl) rfl ?_
  have hR := Rel.start [] w ρ0
  refine sim_run 9 [] (hR.cast (by kernel_rfl)) (by kernel_rfl) trivial (fun ρ100 w100 hm100 hR100 => ?_)
  refine sim_call 24 [.slc 0 0 2 2] (by kernel_rfl) ?_
  refine Calls.mono (s19_sortAny _ _ (Rel.reads (hR100) (n := 0) (size := 21) (m := 2) (vs := insts ins2) (b := true) (by kernel_rfl) rfl)) ?_
  rintro e101 w101 ⟨As, cs, rfl, ho101, hb101⟩
  have hso := Own.start (hR100) ho101
  have hR101 := (hR100).below hb101
  refine Back.of (.v (.slice As 2 cs)) hR101 rfl ?_
  refine sim_run 4 [] (hR101.cast (by kernel_rfl)) (by kernel_rfl) trivial (fun ρ102 w102 hm102 hR102 => ?_)
  have hso := hso.moved (hm102.castL (by kernel_rfl))
  
  have hR2 := (by assumption : Rel _ _ _ _ _).none_
  refine sim_to (regK Try.f22 2) (tmplJ Try.f22.ntmps 0 [(1, .v (.slice As 2 cs))]) [] (by kernel_rfl) (by kernel_rfl) (by kernel_rfl) (fun d2 => ?_)
  have hso := hso.cut (ρ := ρ102) (rs := []) ⟨Agree.zero, Nat.zero_le _⟩ rfl rfl
  refine sim_call 10 [LI 3] (by kernel_rfl) ?_
  refine Calls.mono (alNew _) ?_
  rintro e200 w200 ⟨⟨b, pb, pg, A, c, L, cl⟩, rfl, hg200, hge200, hb200⟩
  have hsg : ∀ g, (Value.slice As 2 cs).ownBlock = some g → ¬ (GrP.mk b pb pg A c L cl).has g := fun g hg hq => Nat.not_le_of_lt (own_lt hso.own hg) (hge200 g hq)
  refine Back.gr 0 (by kernel_rfl) hg200 hge200 (hR2) hb200 (by kernel_rfl) (fun ρ200 e0 hm200 hR200 hs => ?_)
  have hso := (hso.below hb200).moved hm200
  have hT0 := fun x hx => Or.inr (a := x ∈ ([] : List Nat)) (Nat.le_trans (hR2).keeps.size (hge200 x hx))
  have hag := hR200.ag_ 1 (by kernel_rfl)
  refine sim_run 19 [] (hR200.cast (by kernel_rfl)) (by kernel_rfl) trivial (fun ρ201 w201 hm201 hR201 => ?_)
  have hs := hs.moved (hm201.castL (by kernel_rfl))
  have hso := hso.moved (hm201.castL (by kernel_rfl))
  have hag := hag.moved (hm201.castL (by kernel_rfl))
  
  refine sim_call 11 [.ptr 0 0, .slc 1 0 1 1] (by kernel_rfl) ?_
  have ezx1 := (hag.at_ 0 (by omega)).trans e0
  simp only [denL, LV.den, Nm.at_, ezx1, Nat.add_zero]
  have hRx1 := (by assumption : Rel _ _ _ _ _)
  have a1x1 := hs.is
  have a2x1 := Rel.reads hRx1 (n := 1) (size := 3) (m := 1) (vs := lkV [lk12]) (b := true) (by kernel_rfl) rfl
  have a3x1 := hs.farA (n := 1) (r := ⟨(lkV [lk12]).map .v, true⟩) (by kernel_rfl) rfl
  have a4x1 := s19_add _ _ _ a1x1 a2x1 (a3x1 _)
  refine Calls.mono a4x1 ?_
  rintro ex1 wx1 ⟨rfl, pgx1, Ax1, cx1, Lx1, clx1, hgx1, hkx1, hhx1⟩
  have hsx1 := hs.afterG hRx1 hgx1 hhx1
  have hTx1 := hT_new hRx1 hT0 hhx1
  have hRqx1 := hRx1.afterG hs hkx1 hgx1 rfl rfl hT0 0 (by kernel_rfl) ezx1 [0] (by kernel_rfl) (by simp)
  clear hs hT0 a1x1 a2x1 a3x1 a4x1 hRx1
  have hs := hsx1
  have hT0 := hTx1
  clear hsx1 hTx1
  refine Back.of (LI 0) hRqx1 rfl ?_
  have hso : Own _ _ _ _ _ _ _ _ _ := ⟨own_kept hso.own hkx1 hsg, hso.far⟩
  refine sim_run 7 [] (hRqx1.cast (by kernel_rfl)) (by kernel_rfl) trivial (fun ρ300 w300 hm300 hR300 => ?_)
  have hag := hag.moved (hm300.castL (by kernel_rfl))
  have hs := hs.moved (hm300.castL (by kernel_rfl))
  have hso := hso.moved (hm300.castL (by kernel_rfl))
  
  have hso := hso.cut (ρ := ρ300) (rs := [gR ⟨b, pb, pgx1, Ax1, cx1, Lx1, clx1⟩]) ⟨Agree.refl 1 _, Nat.le_of_ble_eq_true (by kernel_rfl)⟩ rfl (by kernel_rfl)
  have hs := hs.cut (ρ := ρ300) (rs := [gR ⟨b, pb, pgx1, Ax1, cx1, Lx1, clx1⟩]) ⟨Agree.refl 1 _, Nat.le_of_ble_eq_true (by kernel_rfl)⟩ rfl (by kernel_rfl)
  have e0 := (hag.at_ 0 (by omega)).trans e0
  have hR5 := Rel.cut (rs := [gR ⟨b, pb, pgx1, Ax1, cx1, Lx1, clx1⟩]) (by assumption : Rel _ _ _ _ _) (by kernel_rfl) (Agree.refl 1 _) (by kernel_rfl)
  clear hag
  have hag := hR5.ag_ 1 (by kernel_rfl)
  refine sim_to (regK Try.f22 5) (tmplJ Try.f22.ntmps 0 [(1, .v (.slice As 2 cs)), (2, .ptr 0 0)]) [gR ⟨b, pb, pgx1, Ax1, cx1, Lx1, clx1⟩] (by kernel_rfl) (by kernel_rfl) (by kernel_rfl) (fun d5 => ?_)
  refine sim_run 5 [] (hR5.cast (by kernel_rfl)) (by kernel_rfl) trivial (fun ρ400 w400 hm400 hR400 => ?_)
  have hso := hso.moved (hm400.castL (by kernel_rfl))
  have hs := hs.moved (hm400.castL (by kernel_rfl))
  have hag := hag.moved (hm400.castL (by kernel_rfl))
  refine sim_call 27 [.ptr 0 0, .slc 1 0 3 3] (by kernel_rfl) ?_
  have ez0_401 := (hag.at_ 0 (by omega)).trans e0
  simp only [denL, LV.den, Nm.at_, ez0_401, Nat.add_zero]
  refine Calls.mono (s19_tops (⟨b, pb, pgx1, Ax1, cx1, Lx1, clx1⟩) _ _ (hs.is) (Rel.reads (hR400) (n := 1) (size := 21) (m := 3) (vs := insts ins3) (b := true) (by kernel_rfl) rfl)) ?_
  rintro e401 w401 ⟨At0, ct, B3, Fs, rfl, hB3, hbz, hrow, hids, hap, hb401⟩
  have htr := Own.above (hR400) hrow hB3
  have hi1 := Own.above (hR400) (hids [1] (by simp)).1 (Nat.le_refl _)
  have hi3 := Own.above (hR400) (hids [3] (by simp)).1 (Nat.le_refl _)
  have hR401 := (hR400).below hb401
  have hso := hso.below hb401
  refine Back.of (.v (.slice At0 2 ct)) hR401 rfl ?_
  refine sim_run 4 [] (hR401.cast (by kernel_rfl)) (by kernel_rfl) trivial (fun ρ402 w402 hm402 hR402 => ?_)
  have hag := hag.moved (hm402.castL (by kernel_rfl))
  have htr := htr.moved (hm402.castL (by kernel_rfl))
  have hi1 := hi1.moved (hm402.castL (by kernel_rfl))
  have hi3 := hi3.moved (hm402.castL (by kernel_rfl))
  have hso := hso.moved (hm402.castL (by kernel_rfl))
  
  have hz := (by assumption : Rel _ _ _ _ _).none_
  have hsoK := hso.cut (ρ := ρ402) (rs := []) ⟨Agree.zero, Nat.zero_le _⟩ rfl rfl
  have htrK := htr.cut (ρ := ρ402) (rs := []) ⟨Agree.zero, Nat.zero_le _⟩ rfl rfl
  have hi1K := hi1.cut (ρ := ρ402) (rs := []) ⟨Agree.zero, Nat.zero_le _⟩ rfl rfl
  have hi3K := hi3.cut (ρ := ρ402) (rs := []) ⟨Agree.zero, Nat.zero_le _⟩ rfl rfl
  iterate 9 (try clear hso)
  iterate 9 (try clear htr)
  iterate 9 (try clear hi1)
  iterate 9 (try clear hi3)
  have hso := hsoK
  have htr := htrK
  have hi1 := hi1K
  have hi3 := hi3K
  clear hsoK htrK hi1K hi3K
  obtain ⟨ga, ea⟩ : ∃ g, As = some ⟨g, 0, none⟩ := own_first hso.own (by decide)
  obtain ⟨gt, et⟩ : ∃ g, At0 = some ⟨g, 0, none⟩ := own_first htr.own (by decide)
  obtain ⟨A1, c1, hA1⟩ := own_row hi1.own
  obtain ⟨A3, c3, hA3⟩ := own_row hi3.own
  rw [hA1] at hi1
  rw [hA3] at hi3
  obtain ⟨g1, eg1⟩ : ∃ g, A1 = some ⟨g, 0, none⟩ := own_first hi1.own (by decide)
  obtain ⟨g3, eg3⟩ : ∃ g, A3 = some ⟨g, 0, none⟩ := own_first hi3.own (by decide)
  subst ea et eg1 eg3
  have htr : Own ρ402 [] w402 B3 31 1 (.slice (some ⟨gt, 0, none⟩) 2 ct) 2 ([[Value.slice (some ⟨g1, 0, none⟩) 1 c1], [Value.slice (some ⟨g3, 0, none⟩) 1 c3]].flatten) := by
    have e : sls ([[1], [3]].map Fs) = [[Value.slice (some ⟨g1, 0, none⟩) 1 c1], [Value.slice (some ⟨g3, 0, none⟩) 1 c3]].flatten := by
      show [(Fs [1]).val, (Fs [3]).val] = _
      rw [hA1, hA3]
      rfl
    rw [← e]
    exact htr
  refine sim_to (regK Try.f22 6) (tmplJ Try.f22.ntmps 0 [(1, .v (.slice (some ⟨ga, 0, none⟩) 2 cs)), (4, .v (.slice (some ⟨gt, 0, none⟩) 2 ct))]) [] (by kernel_rfl) (by kernel_rfl) (by kernel_rfl) (fun d6 => ?_)
  refine sim_seeO (xss := [in0 2 1, in0 1 2].map In.cells) (sz := 21) (in0 2 1).cells 0 0 (by kernel_rfl) rfl (by rw [← List.flatMap_def]; exact hso) (by intro y hy; obtain ⟨o, _, rfl⟩ := List.mem_map.1 hy; rfl) (by omega) (by decide) hz (by kernel_rfl) (fun ρE hmE eE hRE => ?_)
  have htr := htr.moved hmE
  have hi1 := hi1.moved hmE
  have hi3 := hi3.moved hmE
  refine sim_seeO (sz := 1) [.slice (some ⟨g1, 0, none⟩) 1 c1] 0 1 (by kernel_rfl) rfl htr (by simp) (by omega) (by decide) hRE (by kernel_rfl) (fun ρF hmF eF hRF => ?_)
  have htr := htr.moved hmF
  have hi1 := hi1.moved hmF
  have hi3 := hi3.moved hmF
  have eE := (hmF.at_ 0 (by kernel_rfl)).trans eE
  refine sim_seeO (sz := 1) [.slice (some ⟨g3, 0, none⟩) 1 c3] 1 2 (by kernel_rfl) rfl htr (by simp) (by omega) (by decide) hRF (by kernel_rfl) (fun ρG hmG eG hRG => ?_)
  have hi1 := hi1.moved hmG
  have hi3 := hi3.moved hmG
  have eE := (hmG.at_ 0 (by kernel_rfl)).trans eE
  have eF := (hmG.at_ 1 (by kernel_rfl)).trans eF
  refine sim_seeZ 1 0 3 (by kernel_rfl) rfl hi1 (by decide) hRG (by kernel_rfl) (fun ρH hmH eH hRH => ?_)
  have hi3 := hi3.moved hmH
  have eE := (hmH.at_ 0 (by kernel_rfl)).trans eE
  have eF := (hmH.at_ 1 (by kernel_rfl)).trans eF
  have eG := (hmH.at_ 2 (by kernel_rfl)).trans eG
  refine sim_seeZ 3 0 4 (by kernel_rfl) rfl hi3 (by decide) hRH (by kernel_rfl) (fun ρI hmI eI hRI => ?_)
  have eE := (hmI.at_ 0 (by kernel_rfl)).trans eE
  have eF := (hmI.at_ 1 (by kernel_rfl)).trans eF
  have eG := (hmI.at_ 2 (by kernel_rfl)).trans eG
  have eH := (hmI.at_ 3 (by kernel_rfl)).trans eH
  have hag := hRI.ag_ 5 (by kernel_rfl)
  refine sim_run 5 [] (hRI.cast (by kernel_rfl)) (by kernel_rfl) trivial (fun ρ500 w500 hm500 hR500 => ?_)
  have hag := hag.moved (hm500.castL (by kernel_rfl))
  refine sim_place (.v (.slice (some ⟨ga, 0, none⟩) 2 cs)) 2 21 0 0 0 (by kernel_rfl) (by omega) (by omega) rfl (by simp only [Nm.at_, hag.at_ 0 (by omega), eE]; rfl) ?_
  refine sim_run 11 [] (hR500.cast (by kernel_rfl)) (by kernel_rfl) trivial (fun ρ502 w502 hm502 hR502 => ?_)
  have hag := hag.moved (hm502.castL (by kernel_rfl))
  refine sim_place (.v (.slice (some ⟨gt, 0, none⟩) 2 ct)) 2 1 0 1 0 (by kernel_rfl) (by omega) (by omega) rfl (by simp only [Nm.at_, hag.at_ 1 (by omega), eF]; rfl) ?_
  refine sim_run 6 [] (hR502.cast (by kernel_rfl)) (by kernel_rfl) trivial (fun ρ505 w505 hm505 hR505 => ?_)
  have hag := hag.moved (hm505.castL (by kernel_rfl))
  refine sim_place (.v (.slice (some ⟨gt, 0, none⟩) 2 ct)) 2 1 0 1 0 (by kernel_rfl) (by omega) (by omega) rfl (by simp only [Nm.at_, hag.at_ 1 (by omega), eF]; rfl) ?_
  refine sim_run 1 [] (hR505.cast (by kernel_rfl)) (by kernel_rfl) trivial (fun ρ508 w508 hm508 hR508 => ?_)
  have hag := hag.moved (hm508.castL (by kernel_rfl))
  refine sim_place (.v (.slice (some ⟨g1, 0, none⟩) 1 c1)) 1 1 0 3 0 (by kernel_rfl) (by omega) (by omega) rfl (by simp only [Nm.at_, hag.at_ 3 (by omega), eH]; rfl) ?_
  refine sim_run 5 [] (hR508.cast (by kernel_rfl)) (by kernel_rfl) trivial (fun ρ513 w513 hm513 hR513 => ?_)
  have hag := hag.moved (hm513.castL (by kernel_rfl))
  refine sim_place (.v (.slice (some ⟨gt, 0, none⟩) 2 ct)) 2 1 1 2 0 (by kernel_rfl) (by omega) (by omega) rfl (by simp only [Nm.at_, hag.at_ 2 (by omega), eG]; rfl) ?_
  refine sim_run 1 [] (hR513.cast (by kernel_rfl)) (by kernel_rfl) trivial (fun ρ517 w517 hm517 hR517 => ?_)
  have hag := hag.moved (hm517.castL (by kernel_rfl))
  refine sim_place (.v (.slice (some ⟨g3, 0, none⟩) 1 c3)) 1 1 0 4 0 (by kernel_rfl) (by omega) (by omega) rfl (by simp only [Nm.at_, hag.at_ 4 (by omega), eI]; rfl) ?_
  refine sim_run 5 [] (hR517.cast (by kernel_rfl)) (by kernel_rfl) trivial (fun ρ523 w523 hm523 hR523 => ?_)
  have hag := hag.moved (hm523.castL (by kernel_rfl))
  refine sim_ret (LB true) hR523 (by kernel_rfl) (by kernel_rfl) ?_
  exact ⟨rfl, hR523.toBelow⟩
  
end
end Go.Proofs.Ytnfgndapalkbcaa
