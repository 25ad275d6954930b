/-
  UfPlays: call by call.
  UfPlays: the box of lists is made.
  UfPlays: every classes, and every call, in every order; what is handed in stays; lists kept, marked, grown.
-/
import Derived.Test.YtedfbdeklepekaaGreatUfP4
namespace Go.Proofs.YtedfbdeklepekaaGreat
section
open Go Go.RowKit
attribute [local irreducible] run goO leaveK someK nextK nextT nextOT nextOD loopBody loopRest loopK fillJ tmplOf tmplJ mergeT At AtO drawOk ordOf gateOf callC callO topOp topO idxOf appOf storeOf clearOf sliceOf calleeOf calleeO topQ idxQ newRowOf resL stepOp seek
set_option maxRecDepth 100000 in
set_option maxHeartbeats 4000000 in
theorem plays_loop {ρ : Nm} {w0 w : World} {qU : UfQ} {qR : RfP} {b : Nat} {s : KSt} {u : List Nat} {Ao : Option Addr} {k c : Nat} {os : List OpU} (hR : Rel [] w0 ρ [⟨[], false⟩, ⟨[], false⟩, ⟨[], false⟩] w) (hS : LvS w0.heap.size qU qR b s u u ρ [⟨[], false⟩, ⟨[], false⟩, ⟨[], false⟩] w) (hl : OpUs w0 Ao k os) (hk100 : k ≤ 100) (e0 : ρ 0 = (qU.b, 0)) (e1 : ρ 1 = (qR.b, 0)) (e2 : ρ 2 = (b, 0)) (d : Nat → Value) :
    At Tryz.prog (bodyPost Tryz.prog Tryz.f3 (endU w0)) ⟨regK Tryz.f3 12, fillJ (tmplJ Tryz.f3.ntmps 0 [(2, .v (.slice Ao k c)), (7, .ptr 0 0), (9, .ptr 1 0), (11, .ptr 2 0)]) d 0, [⟨[], false⟩, ⟨[], false⟩, ⟨[], false⟩]⟩ ρ w := by
  have hag := hR.ag_ 3 (by kernel_rfl)
  refine sim_run 3 [] (hR.cast (by kernel_rfl)) (by kernel_rfl) trivial (fun ρ100 w100 hm100 hR100 => ?_)
  have hS := hS.moved (hm100.castL (by kernel_rfl))
  have hag := hag.moved (hm100.castL (by kernel_rfl))
  
  have e0 := (hag.at_ 0 (by omega)).trans e0
  have e1 := (hag.at_ 1 (by omega)).trans e1
  have e2 := (hag.at_ 2 (by omega)).trans e2
  refine sim_loop (ι := Nat × UfQ × RfP × KSt × List Nat) (T := []) (w0 := w0) (0, qU, qR, s, u) [2, 7, 9, 11] (fun t => [(12, LI t.1)]) (fun _ => [⟨[], false⟩, ⟨[], false⟩, ⟨[], false⟩]) (fun t w1 => t.1 ≤ k ∧ LvS w0.heap.size t.2.1 t.2.2.1 b t.2.2.2.1 t.2.2.2.2 t.2.2.2.2 ρ100 [⟨[], false⟩, ⟨[], false⟩, ⟨[], false⟩] w1 ∧ t.2.1.b = qU.b ∧ t.2.2.1.b = qR.b) (fun t => k - t.1) (by kernel_rfl) (by kernel_rfl) ((by assumption : Rel _ _ _ _ _).cast (by kernel_rfl)) ⟨Nat.zero_le _, hS.castR (by kernel_rfl), rfl, rfl⟩ ?_
  iterate 8 (try clear hS)
  iterate 8 (try clear hag)
  rintro ⟨i, qU1, qR1, s1, u1⟩ d4 w4 hR4 ⟨hi, hS, hb1, hb2⟩
  dsimp only at hi hS hb1 hb2
  have hag := hR4.ag_ 3 (by kernel_rfl)
  by_cases hlt : i < k
  · obtain ⟨o, ho⟩ : ∃ o, os[i]? = some o := ⟨_, List.getElem?_eq_getElem (by have := hl.len; omega)⟩
    have hok := hl.ok o (List.mem_of_getElem? ho)
    have hz : (os.map OpU.cells)[i]? = some o.cells := by rw [List.getElem?_map, ho]; rfl
    refine sim_see (n := k) o.cells i 3 (by kernel_rfl) hz hl.rd (opU_len os) (by omega) hlt (Nat.le_refl _) (by simp) hR4 (by kernel_rfl) (fun ga oa ρE eA hgT hgl hmE eE hRE => ?_)
    subst eA
    have hS := hS.moved hmE
    have hag0 := hag.moved hmE
    have hag := hRE.ag_ 4 (by kernel_rfl)
    refine sim_run 8 [] (hRE.cast (by kernel_rfl)) (by kernel_rfl) trivial (fun ρ200 w200 hm200 hR200 => ?_)
    have hS := hS.moved (hm200.castL (by kernel_rfl))
    have hag0 := hag0.moved (hm200.castL (by kernel_rfl))
    have hag := hag.moved (hm200.castL (by kernel_rfl))
    refine sim_know 69 (decide ((↑(i, qU1, qR1, s1, u1).fst : Int) < (↑k : Int))) true (by kernel_rfl) (decide_eq_true (by omega)) ?_
    refine sim_run 8 [] (hR200.cast (by kernel_rfl)) (by kernel_rfl) trivial (fun ρ201 w201 hm201 hR201 => ?_)
    have hS := hS.moved (hm201.castL (by kernel_rfl))
    have hag0 := hag0.moved (hm201.castL (by kernel_rfl))
    have hag := hag.moved (hm201.castL (by kernel_rfl))
    refine sim_place (.v (.slice (some ⟨ga, oa, none⟩) k c)) k 3 (i : Int) 3 0 (by kernel_rfl) (by omega) (by omega) rfl (by simp only [Nm.at_, hag.at_ 3 (by omega), eE, Nat.add_zero, Int.toNat_natCast]) ?_
    refine sim_run 7 [] (hR201.cast (by kernel_rfl)) (by kernel_rfl) trivial (fun ρ203 w203 hm203 hR203 => ?_)
    have hS := hS.moved (hm203.castL (by kernel_rfl))
    have hag0 := hag0.moved (hm203.castL (by kernel_rfl))
    have hag := hag.moved (hm203.castL (by kernel_rfl))
    
    have hRy := ((by assumption : Rel _ _ _ _ _)).forget (fun n => n == 3)
    have hRz := hRy.cast (rs' := [⟨[], false⟩, ⟨[], false⟩, ⟨[], false⟩, ⟨[], false⟩, ⟨[LI o.kind, LI o.n, .v (.slice o.l.A o.l.n o.l.c)], true⟩]) (by kernel_rfl)
    have hSz := hS.over (ρ' := ρ203) (rs' := [⟨[], false⟩, ⟨[], false⟩, ⟨[], false⟩, ⟨[], false⟩, ⟨[LI o.kind, LI o.n, .v (.slice o.l.A o.l.n o.l.c)], true⟩]) (fun y hy => by obtain ⟨n, r, hn, hw, e⟩ := hy; match n, hn with
      | 0, hn => simp at hn; subst hn; cases hw
      | 1, hn => simp at hn; subst hn; cases hw
      | 2, hn => simp at hn; subst hn; cases hw
      | 3, hn => simp at hn; subst hn; cases hw
      | 4, hn => simp at hn; subst hn; exact ⟨4, ⟨[LI o.kind, LI o.n, .v (.slice o.l.A o.l.n o.l.c)], true⟩, by kernel_rfl, rfl, e⟩
      | n + 5, hn => simp at hn)
    have e0 : ρ203 0 = (qU1.b, 0) := (hag0.at_ 0 (by omega)).trans (e0.trans (by rw [hb1]))
    have e1 : ρ203 1 = (qR1.b, 0) := (hag0.at_ 1 (by omega)).trans (e1.trans (by rw [hb2]))
    have e2 := (hag0.at_ 2 (by omega)).trans e2
    have hagz := hag0.ag
    refine sim_to (regK Tryz.f3 16) (tmplJ Tryz.f3.ntmps 0 [(2, .v (.slice (some ⟨ga, oa, none⟩) k c)), (7, .ptr 0 0), (9, .ptr 1 0), (11, .ptr 2 0), (12, LI (i : Int)), (13, .ptr 4 0)]) [⟨[], false⟩, ⟨[], false⟩, ⟨[], false⟩, ⟨[], false⟩, ⟨[LI o.kind, LI o.n, .v (.slice o.l.A o.l.n o.l.c)], true⟩] (by kernel_rfl) (by kernel_rfl) (by kernel_rfl) (fun d5 => ?_)
    refine plays_sw hRz hSz hok e0 e1 e2 (by omega) d5 (fun w' hb => ⟨rfl, hb⟩) (fun c' ρ' w' qU' qR' s' u' hk hm hl' hag' hR' htk hS' h1 h2 => ?_)
    have hagy : Ag 3 ρ100 ρ' c'.rs := ⟨hagz.tr hag'.ag, hag'.le⟩
    exact sim_again (i + 1, qU', qR', s', u') hk (by show k - (i + 1) < k - i; omega) ((congrArg (mergeT · c'.tmps) (by kernel_rfl)).trans hm) ((congrArg List.length (by kernel_rfl)).trans hl') (by kernel_rfl) hagy.ag hR' htk (by kernel_rfl) ⟨hlt, hS'.cut hagy rfl htk, h1.trans hb1, h2.trans hb2⟩
  · refine sim_run 8 [] (hR4.cast (by kernel_rfl)) (by kernel_rfl) trivial (fun ρ300 w300 hm300 hR300 => ?_)
    have hS := hS.moved (hm300.castL (by kernel_rfl))
    have hag := hag.moved (hm300.castL (by kernel_rfl))
    refine sim_know 69 (decide ((↑(i, qU1, qR1, s1, u1).fst : Int) < (↑k : Int))) false (by kernel_rfl) (decide_eq_false (by omega)) ?_
    refine sim_run 1 [] (hR300.cast (by kernel_rfl)) (by kernel_rfl) trivial (fun ρ301 w301 hm301 hR301 => ?_)
    have hS := hS.moved (hm301.castL (by kernel_rfl))
    have hag := hag.moved (hm301.castL (by kernel_rfl))
    refine sim_leave (by kernel_rfl) ?_
    refine sim_run 2 [] (hR301.cast (by kernel_rfl)) (by kernel_rfl) trivial (fun ρ302 w302 hm302 hR302 => ?_)
    have hS := hS.moved (hm302.castL (by kernel_rfl))
    have hag := hag.moved (hm302.castL (by kernel_rfl))
    
    have e2 := (hag.at_ 2 (by omega)).trans e2
    have hRz := ((by assumption : Rel _ _ _ _ _)).cast (rs' := [⟨[], false⟩, ⟨[], false⟩, ⟨[], false⟩]) (by kernel_rfl)
    have hSz := hS.castR (rs' := [⟨[], false⟩, ⟨[], false⟩, ⟨[], false⟩]) (by kernel_rfl)
    refine sim_to (regK Tryz.f3 42) (tmplJ Tryz.f3.ntmps 0 [(11, .ptr 2 0)]) [⟨[], false⟩, ⟨[], false⟩, ⟨[], false⟩] (by kernel_rfl) (by kernel_rfl) (by kernel_rfl) (fun d5 => ?_)
    exact plays_end hRz hSz e2 d5
end

section
open Go Go.RowKit
section
variable {P : Program} {Q : Exit → Act → World → Prop} {T : List Nat} {w0 w w' : World} {c : Cfg} {ρ : Nm}
/-- a pointer that is told gets a name -/
theorem Back.ptr2 {g : Nat} {e : Int} (N : Nat) (hN : c.rs.length = N) (hg : g < w'.heap.size) (hnw : ¬ wrS ρ c.rs g) (hR1 : Rel T w0 ρ c.rs w') (hu : (undR N c.rs && undL N c.tmps) = true)
    (next : ∀ ρ', ρ' N = (g, 0) → Moved ρ c.rs w' ρ' (c.rs ++ [⟨[], false⟩]) w' → Rel T w0 ρ' (c.rs ++ [⟨[], false⟩]) w' → At P Q (nextC c (.tup [.ptr N 0, LI e]) (c.rs ++ [⟨[], false⟩])) ρ' w') : Back P Q c ρ (.returned (.tuple #[.pointer (some ⟨g, 0, none⟩), .int .i64 e])) w' := by
  simp only [Bool.and_eq_true] at hu
  subst hN
  obtain ⟨ρ', ha, hn, hR'⟩ := hR1.open_ hu.1 g 0 [] rfl false hg (fun j v hv => by simp at hv) (fun h => by cases h) (fun n r hn hw he => by
    rcases hw with hw | hw
    · cases hw
    · exact (hnw ⟨n, r, hn, hw, he⟩).elim)
  exact ⟨.tup [.ptr c.rs.length 0, LI e], _, ρ', by simp only [LV.den, denL, Nm.at_, hn, Nat.add_zero], act_ext ha hu.2, next ρ' hn (Moved.ext_ro ha rfl) hR'⟩
end
def s00 : KSt := ⟨nilS, nilS, [], []⟩
theorem s00_has (y : Nat) : ¬ s00.has y := by
  rintro (h | h | ⟨r, h | h, _⟩)
  · cases h
  · cases h
  · cases h
  · cases h
theorem s00_kg : KG IRw s00 := ⟨fun r h => (by cases h), rfl, List.Pairwise.nil, fun g h => (by cases h), Nat.zero_le _⟩
attribute [local irreducible] run goO leaveK someK nextK nextT nextOT nextOD loopBody loopRest loopK fillJ tmplOf tmplJ mergeT At AtO drawOk ordOf gateOf callC callO topOp topO idxOf appOf storeOf clearOf sliceOf calleeOf calleeO topQ idxQ newRowOf resL stepOp seek
set_option maxRecDepth 100000 in
set_option maxHeartbeats 4000000 in
theorem plays_box {ρ : Nm} {w0 w : World} {qU : UfQ} {qR : RfP} {u : List Nat} {Ao : Option Addr} {k c : Nat} {os : List OpU} (hR : Rel [] w0 ρ [⟨[], false⟩, ⟨[], false⟩] w) (hU : Sta qU.has (UfV qU u) ρ [⟨[], false⟩, ⟨[], false⟩] w) (hF : Sta qR.has (RfV qR u) ρ [⟨[], false⟩, ⟨[], false⟩] w) (hg : Uf.Good u) (hu : u.length ≤ 1000) (hur : ∀ y, qU.has y → ¬ qR.has y) (hge : ∀ y, qU.has y ∨ qR.has y → w0.heap.size ≤ y) (hl : OpUs w0 Ao k os) (hk100 : k ≤ 100) (e0 : ρ 0 = (qU.b, 0)) (e1 : ρ 1 = (qR.b, 0)) (d : Nat → Value) :
    At Tryz.prog (bodyPost Tryz.prog Tryz.f3 (endU w0)) ⟨regK Tryz.f3 11, fillJ (tmplJ Tryz.f3.ntmps 0 [(2, .v (.slice Ao k c)), (7, .ptr 0 0), (9, .ptr 1 0)]) d 0, [⟨[], false⟩, ⟨[], false⟩]⟩ ρ w := by
  have hag := hR.ag_ 2 (by kernel_rfl)
  refine sim_run 1 [] (hR.cast (by kernel_rfl)) (by kernel_rfl) trivial (fun ρ100 w100 hm100 hR100 => ?_)
  have hU := hU.moved (hm100.castL (by kernel_rfl))
  have hF := hF.moved (hm100.castL (by kernel_rfl))
  have hag := hag.moved (hm100.castL (by kernel_rfl))
  
  have hszR := ((by assumption : Rel _ _ _ _ _)).keeps.size
  have hUl := hU.lt
  have hFl := hF.lt
  refine sim_box (e := 56) (x := .agg ((bkC fun _ => nilS).map .v)) 2 (by kernel_rfl) (by kernel_rfl) (by assumption : Rel _ _ _ _ _) (by kernel_rfl) (fun ρ2 w2 hm2 e2 hR2 hb2 => ?_)
  have hag := hag.moved hm2
  have hU := hU.moved hm2
  have hF := hF.moved hm2
  generalize w100.heap.size = g0 at *
  have hRz : Rel [] w0 ρ2 [⟨[], false⟩, ⟨[], false⟩, ⟨[], false⟩] w2 := (hR2.forget (fun n => n == 2)).cast (by kernel_rfl)
  refine sim_rs [⟨[], false⟩, ⟨[], false⟩, ⟨[], false⟩] ?_
  have hb3 : Blk w2 g0 56 (bkC (bxI s00)).toArray := hb2
  have hB : BookI g0 s00 w2 := ⟨hb3, World.ownsRow_nil _ _ _ _, World.ownsRow_nil _ _ _ _, fun r h => by (cases h), fun r h => by (cases h)⟩
  have hno : ∀ y : Nat, ¬ wrS ρ2 [⟨[], false⟩, ⟨[], false⟩, ⟨[], false⟩] y := fun y hy => wrS_allRo (rs := [⟨[], false⟩, ⟨[], false⟩, ⟨[], false⟩]) rfl hy
  have hbk : ∀ y, bkS g0 s00 y → y = g0 := fun y hy => hy.elim id (fun h => (s00_has y h).elim)
  have hS : LvS w0.heap.size qU qR g0 s00 u u ρ2 [⟨[], false⟩, ⟨[], false⟩, ⟨[], false⟩] w2 := ⟨hU.overW (fun y hy => (hno y hy).elim), hF.overW (fun y hy => (hno y hy).elim), ⟨hB, fun y _ => hno y, hB.lt, BookI.same⟩, s00_kg, hg, hg, hu, hu, hur, fun y hy hh => by have h1 := hUl y hy; have h2 := hbk y hh; omega, fun y hy hh => by have h1 := hFl y hy; have h2 := hbk y hh; omega, fun y hy => by
    rcases hy with h1 | h1 | h1
    · exact hge y (.inl h1)
    · exact hge y (.inr h1)
    · have h2 := hbk y h1; omega⟩
  have hag3 := hRz.ag_ 3 (by kernel_rfl)
  clear hU hF hR2 hm2 hb2
  refine sim_run 5 [] (hRz.cast (by kernel_rfl)) (by kernel_rfl) trivial (fun ρ200 w200 hm200 hR200 => ?_)
  have hS := hS.moved (hm200.castL (by kernel_rfl))
  have hag3 := hag3.moved (hm200.castL (by kernel_rfl))
  
  have f0 := (hag3.at_ 0 (by omega)).trans ((hag.at_ 0 (by omega)).trans e0)
  have f1 := (hag3.at_ 1 (by omega)).trans ((hag.at_ 1 (by omega)).trans e1)
  have f2 := (hag3.at_ 2 (by omega)).trans e2
  have hRy := ((by assumption : Rel _ _ _ _ _)).cast (rs' := [⟨[], false⟩, ⟨[], false⟩, ⟨[], false⟩]) (by kernel_rfl)
  have hSz := hS.castR (rs' := [⟨[], false⟩, ⟨[], false⟩, ⟨[], false⟩]) (by kernel_rfl)
  refine sim_to (regK Tryz.f3 12) (tmplJ Tryz.f3.ntmps 0 [(2, .v (.slice Ao k c)), (7, .ptr 0 0), (9, .ptr 1 0), (11, .ptr 2 0)]) [⟨[], false⟩, ⟨[], false⟩, ⟨[], false⟩] (by kernel_rfl) (by kernel_rfl) (by kernel_rfl) (fun d4 => ?_)
  exact plays_loop hRy hSz hl hk100 f0 f1 f2 d4
set_option maxRecDepth 100000 in
set_option maxHeartbeats 4000000 in
theorem plays_zero {ρ : Nm} {w0 w : World} {Ao : Option Addr} {k c : Nat} {os : List OpU} (hR : Rel [] w0 ρ [] w) (hl : OpUs w0 Ao k os) (hk100 : k ≤ 100) (d : Nat → Value) :
    At Tryz.prog (bodyPost Tryz.prog Tryz.f3 (endU w0)) ⟨regK Tryz.f3 8, fillJ (tmplJ Tryz.f3.ntmps 0 [(2, .v (.slice Ao k c))]) d 0, []⟩ ρ w := by
  refine sim_run 1 [] (hR.cast (by kernel_rfl)) (by kernel_rfl) trivial (fun ρ1100 w1100 hm1100 hR1100 => ?_)
  
  have hsz1 := ((by assumption : Rel _ _ _ _ _)).keeps.size
  refine sim_box (e := 33) (x := .agg [.v (.slice none 0 0)]) 0 (by kernel_rfl) (by kernel_rfl) (by assumption : Rel _ _ _ _ _) (by kernel_rfl) (fun ρ2 w2 hm2 e2 hR2 hb2 => ?_)
  generalize w1100.heap.size = g1 at *
  have hRz : Rel [] w0 ρ2 [⟨[], false⟩] w2 := (hR2.forget fun _ => true).cast (by kernel_rfl)
  refine sim_rs [⟨[], false⟩] ?_
  have h1 : UfV (UfQ.mk g1 g1 none 0) [] w2 := ⟨hb2, World.ownsRow_nil _ _ _ _, .inl ⟨rfl, rfl⟩⟩
  have hU : Sta (UfQ.mk g1 g1 none 0).has (UfV (UfQ.mk g1 g1 none 0) []) ρ2 [⟨[], false⟩] w2 := ⟨h1, fun _ _ hw => wrS_allRo (rs := [⟨[], false⟩]) rfl hw, UfV.lt h1, UfV.same⟩
  have hag := hRz.ag_ 1 (by kernel_rfl)
  clear hR2 hm2 hb2 h1
  refine sim_run 1 [] (hRz.cast (by kernel_rfl)) (by kernel_rfl) trivial (fun ρ1200 w1200 hm1200 hR1200 => ?_)
  have hU := hU.moved (hm1200.castL (by kernel_rfl))
  have hag := hag.moved (hm1200.castL (by kernel_rfl))
  
  have hsz2 := ((by assumption : Rel _ _ _ _ _)).keeps.size
  have hUl := hU.lt
  refine sim_box (e := 36) (x := .agg [.v (.slice none 0 0), .v (.slice none 0 0)]) 1 (by kernel_rfl) (by kernel_rfl) (by assumption : Rel _ _ _ _ _) (by kernel_rfl) (fun ρ3 w3 hm3 e3 hR3 hb3 => ?_)
  have hU := hU.moved hm3
  have hag := hag.moved hm3
  generalize w1200.heap.size = g2 at *
  have hRy : Rel [] w0 ρ3 [⟨[], false⟩, ⟨[], false⟩] w3 := (hR3.forget fun _ => true).cast (by kernel_rfl)
  refine sim_rs [⟨[], false⟩, ⟨[], false⟩] ?_
  have h1 : RfV (RfP.mk g2 none 0 nilS) [] w3 := ⟨hb3, World.ownsRow_nil _ _ _ _⟩
  have hno : ∀ y : Nat, ¬ wrS ρ3 [⟨[], false⟩, ⟨[], false⟩] y := fun y hy => wrS_allRo (rs := [⟨[], false⟩, ⟨[], false⟩]) rfl hy
  have hF : Sta (RfP.mk g2 none 0 nilS).has (RfV (RfP.mk g2 none 0 nilS) []) ρ3 [⟨[], false⟩, ⟨[], false⟩] w3 := ⟨h1, fun y _ => hno y, h1.lt, RfV.same⟩
  have hU := hU.overW (ρ' := ρ3) (rs' := [⟨[], false⟩, ⟨[], false⟩]) (fun y hy => (hno y hy).elim)
  have hag2 := hRy.ag_ 2 (by kernel_rfl)
  have hu1 := hUl g1 (.inl rfl)
  clear hR3 hm3 hb3 h1 hno
  refine sim_run 13 [] (hRy.cast (by kernel_rfl)) (by kernel_rfl) trivial (fun ρ1300 w1300 hm1300 hR1300 => ?_)
  have hF := hF.moved (hm1300.castL (by kernel_rfl))
  have hU := hU.moved (hm1300.castL (by kernel_rfl))
  have hag2 := hag2.moved (hm1300.castL (by kernel_rfl))
  
  have f0 := (hag2.at_ 0 (by omega)).trans ((hag.at_ 0 (by omega)).trans e2)
  have f1 := (hag2.at_ 1 (by omega)).trans e3
  have hRw := ((by assumption : Rel _ _ _ _ _)).cast (rs' := [⟨[], false⟩, ⟨[], false⟩]) (by kernel_rfl)
  have hUz := hU.castR (rs' := [⟨[], false⟩, ⟨[], false⟩]) (by kernel_rfl)
  have hFz := hF.castR (rs' := [⟨[], false⟩, ⟨[], false⟩]) (by kernel_rfl)
  refine sim_to (regK Tryz.f3 11) (tmplJ Tryz.f3.ntmps 0 [(2, .v (.slice Ao k c)), (7, .ptr 0 0), (9, .ptr 1 0)]) [⟨[], false⟩, ⟨[], false⟩] (by kernel_rfl) (by kernel_rfl) (by kernel_rfl) (fun d4 => ?_)
  refine plays_box hRw hUz hFz good_none (Nat.zero_le _) (fun y hy hh => ?_) (fun y hy => ?_) hl hk100 f0 f1 d4
  · rcases hh with h2 | ⟨a, h2, _⟩
    · have h2 : y = g2 := h2
      rcases hy with h3 | h3
      · have h3 : y = g1 := h3
        omega
      · have h3 : y = g1 := h3
        omega
    · cases h2
  · rcases hy with (h3 | h3) | (h3 | ⟨a, h3, _⟩)
    · have h3 : y = g1 := h3
      omega
    · have h3 : y = g1 := h3
      omega
    · have h3 : y = g2 := h3
      omega
    · cases h3
end

section
open Go Go.RowKit
attribute [local irreducible] run goO leaveK someK nextK nextT nextOT nextOD loopBody loopRest loopK fillJ tmplOf tmplJ mergeT At AtO drawOk ordOf gateOf callC callO topOp topO idxOf appOf storeOf clearOf sliceOf calleeOf calleeO topQ idxQ newRowOf resL stepOp seek
set_option maxRecDepth 100000 in
set_option maxHeartbeats 4000000 in
theorem ufPlays_walk (w : World) (n : Int) (hn64 : -9223372036854775808 ≤ n ∧ n ≤ 9223372036854775807) (zero : Bool) (A : Option Addr) (k c : Nat) (os : List OpU) (hl : OpUs w A k os) : Calls Tryz.prog 3 #[.int .i64 n, .bool zero, .slice A k c] w fun e w' => e = .returned (.bool true) ∧ Below w.heap.size w w' := by
  refine sim_enter Tryz.func3 ρ0 [LI n, LB zero, .v (.slice A k c)] [] (by kernel_rfl) rfl ?_
  have hR := Rel.start [] w ρ0
  have hkm := hl.max
  unfold maxLen at hkm
  by_cases h100 : 100 < k
  · refine sim_run 11 [] (hR.cast (by kernel_rfl)) (by kernel_rfl) trivial (fun ρ100 w100 hm100 hR100 => ?_)
    refine sim_know 27 (decide ((↑k : Int) > 100)) true (by kernel_rfl) (decide_eq_true (by omega)) ?_
    refine sim_run 11 [] (hR100.cast (by kernel_rfl)) (by kernel_rfl) trivial (fun ρ101 w101 hm101 hR101 => ?_)
    refine sim_call 6 [] (by kernel_rfl) ?_
    refine Calls.mono (alive_any _) ?_
    rintro e102 w102 ⟨rfl, hb102⟩
    have hR102 := hR101.below hb102
    refine Back.of (LB true) hR102 rfl ?_
    refine sim_run 2 [] (hR102.cast (by kernel_rfl)) (by kernel_rfl) trivial (fun ρ103 w103 hm103 hR103 => ?_)
    refine sim_ret (LB true) hR103 (by kernel_rfl) (by kernel_rfl) ?_
    exact ⟨rfl, hR103.toBelow⟩
    
  · by_cases h60 : 60 < n ∧ n ≤ 1000
    · obtain ⟨h61, h62⟩ := h60
      refine sim_run 11 [] (hR.cast (by kernel_rfl)) (by kernel_rfl) trivial (fun ρ200 w200 hm200 hR200 => ?_)
      refine sim_know 27 (decide ((↑k : Int) > 100)) false (by kernel_rfl) (decide_eq_false (by omega)) ?_
      refine sim_run 3 [] (hR200.cast (by kernel_rfl)) (by kernel_rfl) trivial (fun ρ201 w201 hm201 hR201 => ?_)
      refine sim_know 30 (decide (n > 60)) true (by kernel_rfl) (decide_eq_true (by omega)) ?_
      refine sim_run 5 [] (hR201.cast (by kernel_rfl)) (by kernel_rfl) trivial (fun ρ202 w202 hm202 hR202 => ?_)
      refine sim_know 34 (decide (n ≤ 1000)) true (by kernel_rfl) (decide_eq_true (by omega)) ?_
      refine sim_run 3 [] (hR202.cast (by kernel_rfl)) (by kernel_rfl) trivial (fun ρ203 w203 hm203 hR203 => ?_)
      refine sim_call 6 [] (by kernel_rfl) ?_
      refine Calls.mono (alive_any _) ?_
      rintro e204 w204 ⟨rfl, hb204⟩
      have hR204 := hR203.below hb204
      refine Back.of (LB true) hR204 rfl ?_
      refine sim_run 2 [] (hR204.cast (by kernel_rfl)) (by kernel_rfl) trivial (fun ρ205 w205 hm205 hR205 => ?_)
      refine sim_ret (LB true) hR205 (by kernel_rfl) (by kernel_rfl) ?_
      exact ⟨rfl, hR205.toBelow⟩
      
    · by_cases hbad : n < 0 ∨ 1000 < n
      · have hn2 := hbad
        cases zero with
        | false =>
          by_cases h61 : 60 < n
          · have h62 : 1000 < n := by omega
            refine sim_run 11 [] (hR.cast (by kernel_rfl)) (by kernel_rfl) trivial (fun ρ300 w300 hm300 hR300 => ?_)
            refine sim_know 27 (decide ((↑k : Int) > 100)) false (by kernel_rfl) (decide_eq_false (by omega)) ?_
            refine sim_run 3 [] (hR300.cast (by kernel_rfl)) (by kernel_rfl) trivial (fun ρ301 w301 hm301 hR301 => ?_)
            refine sim_know 30 (decide (n > 60)) true (by kernel_rfl) (decide_eq_true (by omega)) ?_
            refine sim_run 5 [] (hR301.cast (by kernel_rfl)) (by kernel_rfl) trivial (fun ρ302 w302 hm302 hR302 => ?_)
            refine sim_know 34 (decide (n ≤ 1000)) false (by kernel_rfl) (decide_eq_false (by omega)) ?_
            refine sim_run 5 [] (hR302.cast (by kernel_rfl)) (by kernel_rfl) trivial (fun ρ303 w303 hm303 hR303 => ?_)
            refine sim_call 7 [LI n] (by kernel_rfl) ?_
            refine Calls.mono (newQ_out _ _ (by assumption)) ?_
            rintro e304 w304 ⟨rfl, hb304⟩
            have hR304 := hR303.below hb304
            refine Back.of (.tup [.v (Value.pointer none), LI 1]) hR304 rfl ?_
            refine sim_run 9 [] (hR304.cast (by kernel_rfl)) (by kernel_rfl) trivial (fun ρ305 w305 hm305 hR305 => ?_)
            refine sim_call 8 [LI n] (by kernel_rfl) ?_
            refine Calls.mono (new12_out _ _ (by assumption)) ?_
            rintro e306 w306 ⟨rfl, hb306⟩
            have hR306 := hR305.below hb306
            refine Back.of (.tup [.v (Value.pointer none), LI 1]) hR306 rfl ?_
            refine sim_run 38 [] (hR306.cast (by kernel_rfl)) (by kernel_rfl) trivial (fun ρ307 w307 hm307 hR307 => ?_)
            refine sim_call 6 [] (by kernel_rfl) ?_
            refine Calls.mono (alive_any _) ?_
            rintro e308 w308 ⟨rfl, hb308⟩
            have hR308 := hR307.below hb308
            refine Back.of (LB true) hR308 rfl ?_
            refine sim_run 2 [] (hR308.cast (by kernel_rfl)) (by kernel_rfl) trivial (fun ρ309 w309 hm309 hR309 => ?_)
            refine sim_ret (LB true) hR309 (by kernel_rfl) (by kernel_rfl) ?_
            exact ⟨rfl, hR309.toBelow⟩
            
          · refine sim_run 11 [] (hR.cast (by kernel_rfl)) (by kernel_rfl) trivial (fun ρ400 w400 hm400 hR400 => ?_)
            refine sim_know 27 (decide ((↑k : Int) > 100)) false (by kernel_rfl) (decide_eq_false (by omega)) ?_
            refine sim_run 3 [] (hR400.cast (by kernel_rfl)) (by kernel_rfl) trivial (fun ρ401 w401 hm401 hR401 => ?_)
            refine sim_know 30 (decide (n > 60)) false (by kernel_rfl) (decide_eq_false (by omega)) ?_
            refine sim_run 10 [] (hR401.cast (by kernel_rfl)) (by kernel_rfl) trivial (fun ρ402 w402 hm402 hR402 => ?_)
            refine sim_call 7 [LI n] (by kernel_rfl) ?_
            refine Calls.mono (newQ_out _ _ (by assumption)) ?_
            rintro e403 w403 ⟨rfl, hb403⟩
            have hR403 := hR402.below hb403
            refine Back.of (.tup [.v (Value.pointer none), LI 1]) hR403 rfl ?_
            refine sim_run 9 [] (hR403.cast (by kernel_rfl)) (by kernel_rfl) trivial (fun ρ404 w404 hm404 hR404 => ?_)
            refine sim_call 8 [LI n] (by kernel_rfl) ?_
            refine Calls.mono (new12_out _ _ (by assumption)) ?_
            rintro e405 w405 ⟨rfl, hb405⟩
            have hR405 := hR404.below hb405
            refine Back.of (.tup [.v (Value.pointer none), LI 1]) hR405 rfl ?_
            refine sim_run 38 [] (hR405.cast (by kernel_rfl)) (by kernel_rfl) trivial (fun ρ406 w406 hm406 hR406 => ?_)
            refine sim_call 6 [] (by kernel_rfl) ?_
            refine Calls.mono (alive_any _) ?_
            rintro e407 w407 ⟨rfl, hb407⟩
            have hR407 := hR406.below hb407
            refine Back.of (LB true) hR407 rfl ?_
            refine sim_run 2 [] (hR407.cast (by kernel_rfl)) (by kernel_rfl) trivial (fun ρ408 w408 hm408 hR408 => ?_)
            refine sim_ret (LB true) hR408 (by kernel_rfl) (by kernel_rfl) ?_
            exact ⟨rfl, hR408.toBelow⟩
            
        | true =>
          by_cases h61 : 60 < n
          · have h62 : 1000 < n := by omega
            refine sim_run 11 [] (hR.cast (by kernel_rfl)) (by kernel_rfl) trivial (fun ρ500 w500 hm500 hR500 => ?_)
            refine sim_know 27 (decide ((↑k : Int) > 100)) false (by kernel_rfl) (decide_eq_false (by omega)) ?_
            refine sim_run 3 [] (hR500.cast (by kernel_rfl)) (by kernel_rfl) trivial (fun ρ501 w501 hm501 hR501 => ?_)
            refine sim_know 30 (decide (n > 60)) true (by kernel_rfl) (decide_eq_true (by omega)) ?_
            refine sim_run 5 [] (hR501.cast (by kernel_rfl)) (by kernel_rfl) trivial (fun ρ502 w502 hm502 hR502 => ?_)
            refine sim_know 34 (decide (n ≤ 1000)) false (by kernel_rfl) (decide_eq_false (by omega)) ?_
            refine sim_run 5 [] (hR502.cast (by kernel_rfl)) (by kernel_rfl) trivial (fun ρ503 w503 hm503 hR503 => ?_)
            refine sim_call 7 [LI n] (by kernel_rfl) ?_
            refine Calls.mono (newQ_out _ _ (by assumption)) ?_
            rintro e504 w504 ⟨rfl, hb504⟩
            have hR504 := hR503.below hb504
            refine Back.of (.tup [.v (Value.pointer none), LI 1]) hR504 rfl ?_
            refine sim_run 9 [] (hR504.cast (by kernel_rfl)) (by kernel_rfl) trivial (fun ρ505 w505 hm505 hR505 => ?_)
            refine sim_call 8 [LI n] (by kernel_rfl) ?_
            refine Calls.mono (new12_out _ _ (by assumption)) ?_
            rintro e506 w506 ⟨rfl, hb506⟩
            have hR506 := hR505.below hb506
            refine Back.of (.tup [.v (Value.pointer none), LI 1]) hR506 rfl ?_
            refine sim_run 29 [] (hR506.cast (by kernel_rfl)) (by kernel_rfl) trivial (fun ρ507 w507 hm507 hR507 => ?_)
            
            have hRz := ((by assumption : Rel _ _ _ _ _)).cast (rs' := []) (by kernel_rfl)
            refine sim_to (regK Tryz.f3 8) (tmplJ Tryz.f3.ntmps 0 [(2, .v (.slice A k c))]) [] (by kernel_rfl) (by kernel_rfl) (by kernel_rfl) (fun d4 => ?_)
            exact plays_zero hRz hl (by omega) d4
          · refine sim_run 11 [] (hR.cast (by kernel_rfl)) (by kernel_rfl) trivial (fun ρ600 w600 hm600 hR600 => ?_)
            refine sim_know 27 (decide ((↑k : Int) > 100)) false (by kernel_rfl) (decide_eq_false (by omega)) ?_
            refine sim_run 3 [] (hR600.cast (by kernel_rfl)) (by kernel_rfl) trivial (fun ρ601 w601 hm601 hR601 => ?_)
            refine sim_know 30 (decide (n > 60)) false (by kernel_rfl) (decide_eq_false (by omega)) ?_
            refine sim_run 10 [] (hR601.cast (by kernel_rfl)) (by kernel_rfl) trivial (fun ρ602 w602 hm602 hR602 => ?_)
            refine sim_call 7 [LI n] (by kernel_rfl) ?_
            refine Calls.mono (newQ_out _ _ (by assumption)) ?_
            rintro e603 w603 ⟨rfl, hb603⟩
            have hR603 := hR602.below hb603
            refine Back.of (.tup [.v (Value.pointer none), LI 1]) hR603 rfl ?_
            refine sim_run 9 [] (hR603.cast (by kernel_rfl)) (by kernel_rfl) trivial (fun ρ604 w604 hm604 hR604 => ?_)
            refine sim_call 8 [LI n] (by kernel_rfl) ?_
            refine Calls.mono (new12_out _ _ (by assumption)) ?_
            rintro e605 w605 ⟨rfl, hb605⟩
            have hR605 := hR604.below hb605
            refine Back.of (.tup [.v (Value.pointer none), LI 1]) hR605 rfl ?_
            refine sim_run 29 [] (hR605.cast (by kernel_rfl)) (by kernel_rfl) trivial (fun ρ606 w606 hm606 hR606 => ?_)
            
            have hRz := ((by assumption : Rel _ _ _ _ _)).cast (rs' := []) (by kernel_rfl)
            refine sim_to (regK Tryz.f3 8) (tmplJ Tryz.f3.ntmps 0 [(2, .v (.slice A k c))]) [] (by kernel_rfl) (by kernel_rfl) (by kernel_rfl) (fun d4 => ?_)
            exact plays_zero hRz hl (by omega) d4
      · obtain ⟨N, rfl⟩ : ∃ N : Nat, n = N := ⟨n.toNat, by omega⟩
        have hn60 : N ≤ 60 := by omega
        have hn1000 : N ≤ 1000 := by omega
        cases zero with
        | true =>
          refine sim_run 11 [] (hR.cast (by kernel_rfl)) (by kernel_rfl) trivial (fun ρ700 w700 hm700 hR700 => ?_)
          refine sim_know 27 (decide ((↑k : Int) > 100)) false (by kernel_rfl) (decide_eq_false (by omega)) ?_
          refine sim_run 3 [] (hR700.cast (by kernel_rfl)) (by kernel_rfl) trivial (fun ρ701 w701 hm701 hR701 => ?_)
          refine sim_know 30 (decide ((↑N : Int) > 60)) false (by kernel_rfl) (decide_eq_false (by omega)) ?_
          refine sim_run 10 [] (hR701.cast (by kernel_rfl)) (by kernel_rfl) trivial (fun ρ702 w702 hm702 hR702 => ?_)
          refine sim_call 7 [LI ((↑N : Int))] (by kernel_rfl) ?_
          refine Calls.mono (new_in (N) (by assumption) _) ?_
          rintro e703 w703 ⟨rfl, g1, A1, c1, hu1, hb1, hg1⟩
          have hU := Sta.new (S := (UfQ.mk _ g1 A1 c1).has) (V := UfV (UfQ.mk _ g1 A1 c1) (Uf.fresh N)) hR702 hu1 (fun y hy => hy.elim (fun e => Nat.le_of_eq e.symm) (fun e => Nat.le_trans hg1 (Nat.le_of_eq e.symm))) (UfV.lt hu1) UfV.same
          have hUg : ∀ y, (UfQ.mk _ g1 A1 c1).has y → w.heap.size ≤ y := fun y hy => Nat.le_trans (hR702).keeps.size (hy.elim (fun e => Nat.le_of_eq e.symm) (fun e => Nat.le_trans hg1 (Nat.le_of_eq e.symm)))
          have hR703 := hR702.below hb1
          refine Back.ptr2 0 (by kernel_rfl) hu1.lt.1 (hU.far _ (.inl rfl)) hR703 (by kernel_rfl) (fun ρ703 e0 hm703 hRv703 => ?_)
          have hU := hU.moved hm703
          have hag := hRv703.ag_ 1 (by kernel_rfl)
          refine sim_run 9 [] (hRv703.cast (by kernel_rfl)) (by kernel_rfl) trivial (fun ρ704 w704 hm704 hR704 => ?_)
          have hU := hU.moved (hm704.castL (by kernel_rfl))
          have hag := hag.moved (hm704.castL (by kernel_rfl))
          refine sim_call 8 [LI ((↑N : Int))] (by kernel_rfl) ?_
          refine Calls.mono (new12_in (N) _ (by assumption)) ?_
          rintro e705 w705 ⟨g2, A2, c2, rfl, hV2, hg2, hA2, hb2⟩
          have hUl := hU.lt
          have hF := Sta.new (S := (RfP.mk g2 A2 c2 nilS).has) (V := RfV (RfP.mk g2 A2 c2 nilS) (Uf.fresh N)) hR704 hV2 (fun y hy => hy.elim (fun e => Nat.le_trans hg2 (Nat.le_of_eq e.symm)) (fun h => by obtain ⟨a, h1, h2⟩ := h; rw [h2]; exact hA2 a h1)) hV2.lt RfV.same
          have hFg : ∀ y, (RfP.mk g2 A2 c2 nilS).has y → _ ≤ y := fun y hy => hy.elim (fun e => Nat.le_trans hg2 (Nat.le_of_eq e.symm)) (fun h => by obtain ⟨a, h1, h2⟩ := h; rw [h2]; exact hA2 a h1)
          have hFs := (hR704).keeps.size
          have hU := hU.below hb2
          have hR705 := hR704.below hb2
          refine Back.ptr2 1 (by kernel_rfl) (hV2.lt _ (.inl rfl)) (hF.far _ (.inl rfl)) hR705 (by kernel_rfl) (fun ρ705 e1 hm705 hRv705 => ?_)
          have hU := hU.moved hm705
          have hF := hF.moved hm705
          have hag := hag.moved hm705
          have hag2 := hRv705.ag_ 2 (by kernel_rfl)
          refine sim_run 29 [] (hRv705.cast (by kernel_rfl)) (by kernel_rfl) trivial (fun ρ706 w706 hm706 hR706 => ?_)
          have hU := hU.moved (hm706.castL (by kernel_rfl))
          have hF := hF.moved (hm706.castL (by kernel_rfl))
          have hag := hag.moved (hm706.castL (by kernel_rfl))
          have hag2 := hag2.moved (hm706.castL (by kernel_rfl))
          
          have hRq := ((by assumption : Rel _ _ _ _ _)).cut (rs := []) (by kernel_rfl) (Agree.refl _ _) (by kernel_rfl)
          refine sim_to (regK Tryz.f3 8) (tmplJ Tryz.f3.ntmps 0 [(2, .v (.slice A k c))]) [] (by kernel_rfl) (by kernel_rfl) (by kernel_rfl) (fun d4 => ?_)
          exact plays_zero hRq hl (by omega) d4
        | false =>
          refine sim_run 11 [] (hR.cast (by kernel_rfl)) (by kernel_rfl) trivial (fun ρ800 w800 hm800 hR800 => ?_)
          refine sim_know 27 (decide ((↑k : Int) > 100)) false (by kernel_rfl) (decide_eq_false (by omega)) ?_
          refine sim_run 3 [] (hR800.cast (by kernel_rfl)) (by kernel_rfl) trivial (fun ρ801 w801 hm801 hR801 => ?_)
          refine sim_know 30 (decide ((↑N : Int) > 60)) false (by kernel_rfl) (decide_eq_false (by omega)) ?_
          refine sim_run 10 [] (hR801.cast (by kernel_rfl)) (by kernel_rfl) trivial (fun ρ802 w802 hm802 hR802 => ?_)
          refine sim_call 7 [LI ((↑N : Int))] (by kernel_rfl) ?_
          refine Calls.mono (new_in (N) (by assumption) _) ?_
          rintro e803 w803 ⟨rfl, g1, A1, c1, hu1, hb1, hg1⟩
          have hU := Sta.new (S := (UfQ.mk _ g1 A1 c1).has) (V := UfV (UfQ.mk _ g1 A1 c1) (Uf.fresh N)) hR802 hu1 (fun y hy => hy.elim (fun e => Nat.le_of_eq e.symm) (fun e => Nat.le_trans hg1 (Nat.le_of_eq e.symm))) (UfV.lt hu1) UfV.same
          have hUg : ∀ y, (UfQ.mk _ g1 A1 c1).has y → w.heap.size ≤ y := fun y hy => Nat.le_trans (hR802).keeps.size (hy.elim (fun e => Nat.le_of_eq e.symm) (fun e => Nat.le_trans hg1 (Nat.le_of_eq e.symm)))
          have hR803 := hR802.below hb1
          refine Back.ptr2 0 (by kernel_rfl) hu1.lt.1 (hU.far _ (.inl rfl)) hR803 (by kernel_rfl) (fun ρ803 e0 hm803 hRv803 => ?_)
          have hU := hU.moved hm803
          have hag := hRv803.ag_ 1 (by kernel_rfl)
          refine sim_run 9 [] (hRv803.cast (by kernel_rfl)) (by kernel_rfl) trivial (fun ρ804 w804 hm804 hR804 => ?_)
          have hU := hU.moved (hm804.castL (by kernel_rfl))
          have hag := hag.moved (hm804.castL (by kernel_rfl))
          refine sim_call 8 [LI ((↑N : Int))] (by kernel_rfl) ?_
          refine Calls.mono (new12_in (N) _ (by assumption)) ?_
          rintro e805 w805 ⟨g2, A2, c2, rfl, hV2, hg2, hA2, hb2⟩
          have hUl := hU.lt
          have hF := Sta.new (S := (RfP.mk g2 A2 c2 nilS).has) (V := RfV (RfP.mk g2 A2 c2 nilS) (Uf.fresh N)) hR804 hV2 (fun y hy => hy.elim (fun e => Nat.le_trans hg2 (Nat.le_of_eq e.symm)) (fun h => by obtain ⟨a, h1, h2⟩ := h; rw [h2]; exact hA2 a h1)) hV2.lt RfV.same
          have hFg : ∀ y, (RfP.mk g2 A2 c2 nilS).has y → _ ≤ y := fun y hy => hy.elim (fun e => Nat.le_trans hg2 (Nat.le_of_eq e.symm)) (fun h => by obtain ⟨a, h1, h2⟩ := h; rw [h2]; exact hA2 a h1)
          have hFs := (hR804).keeps.size
          have hU := hU.below hb2
          have hR805 := hR804.below hb2
          refine Back.ptr2 1 (by kernel_rfl) (hV2.lt _ (.inl rfl)) (hF.far _ (.inl rfl)) hR805 (by kernel_rfl) (fun ρ805 e1 hm805 hRv805 => ?_)
          have hU := hU.moved hm805
          have hF := hF.moved hm805
          have hag := hag.moved hm805
          have hag2 := hRv805.ag_ 2 (by kernel_rfl)
          refine sim_run 39 [] (hRv805.cast (by kernel_rfl)) (by kernel_rfl) trivial (fun ρ806 w806 hm806 hR806 => ?_)
          have hU := hU.moved (hm806.castL (by kernel_rfl))
          have hF := hF.moved (hm806.castL (by kernel_rfl))
          have hag := hag.moved (hm806.castL (by kernel_rfl))
          have hag2 := hag2.moved (hm806.castL (by kernel_rfl))
          
          have f0 := (hag.at_ 0 (by omega)).trans e0
          have f1 := (hag2.at_ 1 (by omega)).trans e1
          have hRz := ((by assumption : Rel _ _ _ _ _)).cast (rs' := [⟨[], false⟩, ⟨[], false⟩]) (by kernel_rfl)
          have hUz := hU.castR (rs' := [⟨[], false⟩, ⟨[], false⟩]) (by kernel_rfl)
          have hFz := hF.castR (rs' := [⟨[], false⟩, ⟨[], false⟩]) (by kernel_rfl)
          refine sim_to (regK Tryz.f3 11) (tmplJ Tryz.f3.ntmps 0 [(2, .v (.slice A k c)), (7, .ptr 0 0), (9, .ptr 1 0)]) [⟨[], false⟩, ⟨[], false⟩] (by kernel_rfl) (by kernel_rfl) (by kernel_rfl) (fun d4 => ?_)
          exact plays_box hRz hUz hFz (Uf.fresh_good N) (by rw [Uf.fresh_length]; exact hn1000) (fun y hy hh => Nat.not_lt.2 (hFg y hh) (hUl y hy)) (fun y hy => hy.elim (hUg y) (fun h => Nat.le_trans hFs (hFg y h))) hl (by omega) f0 f1 d4
end
end Go.Proofs.YtedfbdeklepekaaGreat
