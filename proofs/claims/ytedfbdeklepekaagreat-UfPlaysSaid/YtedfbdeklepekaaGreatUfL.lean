/-
  uf: all classes, each row its own.
-/
import Derived.Test.YtedfbdeklepekaaGreatRfBE
import Derived.Test.YtedfbdeklepekaaGreatUfG
namespace Go.Proofs.YtedfbdeklepekaaGreat
open Go Go.RowKit
structure UfQ where
  b : Nat
  g : Nat
  A : Option Addr
  c : Nat
def UfQ.has (q : UfQ) (y : Nat) : Prop := y = q.b ∨ y = q.g
def UfV (q : UfQ) (u : List Nat) (w : World) : Prop := UfAt w q.b q.g u q.A q.c
theorem UfV.blk {q : UfQ} {u : List Nat} {w : World} (h : UfV q u w) : Blk w q.b 33 [.slice q.A u.length q.c].toArray := UfAt.blk h
theorem UfV.lt {q : UfQ} {u : List Nat} {w : World} (h : UfV q u w) (y : Nat) (hy : q.has y) : y < w.heap.size := by
  rcases hy with rfl | rfl
  · exact (UfAt.lt h).1
  · exact (UfAt.lt h).2
theorem UfV.kept {q : UfQ} {u : List Nat} {w w' : World} {S : Nat → Prop} (h : UfV q u w) (hk : Kept S w w') (hn : ∀ y, q.has y → ¬ S y) : UfV q u w' := by
  refine ⟨(UfAt.blk h).kept hk (hn _ (.inl rfl)), own_kept (UfAt.own h) hk fun g hg => hn _ (.inr ?_), UfAt.at_ h⟩
  rcases UfAt.at_ h with ⟨e, _⟩ | ⟨e, _⟩
  · rw [e] at hg; cases hg
  · rw [e] at hg
    simp only [Value.ownBlock, Option.some.injEq] at hg
    exact hg.symm
theorem UfV.same {q : UfQ} {u : List Nat} : ∀ (w1 w2 : World) (S' : Nat → Prop), UfV q u w1 → (∀ x, q.has x → x < w1.heap.size) → Kept S' w1 w2 → (∀ x, q.has x → ¬ S' x) → UfV q u w2 := fun _ _ _ h _ hk hn => h.kept hk hn
theorem isU_eq (q : UfQ) (u : List Nat) (i : Int) (v : Bool) (w : World) (h : UfV q u w) (hv : inU u i = v) :
    Calls Tryz.prog 61 #[.pointer (some ⟨q.b, 0, none⟩), .int .i64 i] w fun e w' => e = .returned (.bool v) ∧ Below w.heap.size w w' := by
  subst hv
  refine (is_any q.b q.A q.c u i w (UfAt.rd h)).mono ?_
  rintro e w' ⟨rfl, rfl⟩
  exact ⟨rfl, Below.refl _ _⟩
theorem headU_eq (q : UfQ) (u : List Nat) (i v : Int) (w : World) (h : UfV q u w) (hg : Uf.Good u) (hu : u.length ≤ 1000) (hv : headI u i = v) :
    Calls Tryz.prog 19 #[.pointer (some ⟨q.b, 0, none⟩), .int .i64 i] w fun e w' => e = .returned (.int .i64 v) ∧ Below w.heap.size w w' := by
  subst hv
  refine (head_any q.b q.A q.c u i w (UfAt.rd h) hg (by omega)).mono ?_
  rintro e w' ⟨rfl, rfl⟩
  exact ⟨rfl, Below.refl _ _⟩
theorem classU_any (q : UfQ) (u : List Nat) (i : Int) (w : World) (h : UfV q u w) (hg : Uf.Good u) (hu : u.length ≤ 1000) :
    Calls Tryz.prog 15 #[.pointer (some ⟨q.b, 0, none⟩), .int .i64 i] w (RowN w (clsU u i)) := by
  cases hq : inU u i with
  | false =>
    rw [clsU_out hq]
    refine (class_out q.b q.A q.c u i w (UfAt.rd h) hq).mono ?_
    rintro e w' ⟨rfl, rfl⟩
    exact RowN.nil _ _ (Below.refl _ _)
  | true =>
    obtain ⟨t, rfl, ht⟩ := inU_true hq
    rw [clsU_in hq]
    exact class_in q.b q.A q.c u (t + 1) w (UfAt.rd h) (UfAt.lt h).1 hg hu ⟨by omega, by omega⟩
attribute [local irreducible] run goO leaveK someK nextK nextT nextOT nextOD loopBody loopRest loopK fillJ tmplOf tmplJ mergeT At AtO drawOk ordOf gateOf callC callO topOp topO idxOf appOf storeOf clearOf sliceOf calleeOf calleeO topQ idxQ newRowOf resL stepOp seek
set_option maxRecDepth 100000 in
set_option maxHeartbeats 4000000 in
theorem classesU_any (q : UfQ) (u : List Nat) (w : World) (h : UfV q u w) (hg : Uf.Good u) (hu : u.length ≤ 1000) :
    Calls Tryz.prog 16 #[.pointer (some ⟨q.b, 0, none⟩)] w (ClsR w (Uf.classes u)) := by
  obtain ⟨ρ, e0, hR⟩ := blk_open (cs := [.slice q.A u.length q.c]) h.blk false [] (by simp) (by kernel_rfl)
  obtain ⟨b, g, A, c⟩ := q
  dsimp only at e0 hR
  have hV : Sta (UfQ.mk b g A c).has (UfV (UfQ.mk b g A c) u) ρ [⟨[.v (.slice A u.length c)], false⟩] w := ⟨h, fun _ _ hw => wrS_allRo rfl hw, UfV.lt h, UfV.same⟩
  have hag := hR.ag_ 1 (by kernel_rfl)
  refine sim_enter Tryz.func16 ρ [.ptr 0 0] [⟨[.v (.slice A u.length c)], false⟩] (by kernel_rfl) (by simp only [denL, LV.den, Nm.at_, e0]) ?_
  refine sim_run 14 [] (hR.cast (by kernel_rfl)) (by kernel_rfl) trivial (fun ρ100 w100 hm100 hR100 => ?_)
  have hV := hV.moved (hm100.castL (by kernel_rfl))
  have hag := hag.moved (hm100.castL (by kernel_rfl))
  
  have e0 := (hag.at_ 0 (by omega)).trans e0
  refine sim_loop (ι := Nat × Value × List BRow) (T := []) (w0 := w) (1, .slice none 0 0, []) [0] (fun s => [(3, .v s.2.1), (4, LI s.1)]) (fun _ => [⟨[.v (.slice A u.length c)], false⟩]) (fun s w1 => (1 ≤ s.1 ∧ s.1 ≤ u.length + 1) ∧ ClsS u (headsTo u s.1) s.2.2 ∧ Own ρ100 [⟨[.v (.slice A u.length c)], false⟩] w1 w.heap.size 31 1 s.2.1 (headsTo u s.1).length (s.2.2.map BRow.v) ∧ BkR w.heap.size 3 1 s.2.2 ρ100 [⟨[.v (.slice A u.length c)], false⟩] w1 ∧ Sta (UfQ.mk b g A c).has (UfV (UfQ.mk b g A c) u) ρ100 [⟨[.v (.slice A u.length c)], false⟩] w1) (fun s => u.length + 1 - s.1) (by kernel_rfl) (by kernel_rfl) ((by assumption : Rel _ _ _ _ _).cast (by kernel_rfl)) ⟨⟨Nat.le_refl _, by omega⟩, rfl, ⟨World.ownsRow_nil _ _ _ _, fun g hg => by cases hg⟩, BkR.nil, hV.castR (by kernel_rfl)⟩ ?_
  iterate 8 (try clear hV)
  iterate 8 (try clear hag)
  rintro ⟨k, vo, rows⟩ d w2 hR2 ⟨⟨hk1, hk2⟩, hS, hO, hr, hV⟩
  dsimp only at hk1 hk2 hS hO hr hV
  have hag := hR2.ag_ 1 (by kernel_rfl)
  have hlen := headsTo_length u k
  by_cases hlt : k ≤ u.length
  · obtain ⟨p, hp⟩ : ∃ p, Uf.hd u k = p := ⟨_, rfl⟩
    have hk : inU u (k : Int) = true := by unfold inU; rw [Bool.and_eq_true, decide_eq_true_iff, decide_eq_true_iff]; omega
    have hkI : headI u (k : Int) = (p : Int) := by rw [headI_nat ⟨hk1, hlt⟩, hp]
    have hsucc := headsTo_succ u k hk1
    rw [hp] at hsucc
    by_cases hpk : p = k
    · rw [if_pos hpk] at hsucc
      refine sim_run 5 [] (hR2.cast (by kernel_rfl)) (by kernel_rfl) trivial (fun ρ200 w200 hm200 hR200 => ?_)
      have hO := hO.moved (hm200.castL (by kernel_rfl))
      have hr := hr.moved (hm200.castL (by kernel_rfl))
      have hV := hV.moved (hm200.castL (by kernel_rfl))
      have hag := hag.moved (hm200.castL (by kernel_rfl))
      refine sim_call 61 [.ptr 0 0, LI ((↑(k, vo, rows).fst : Int))] (by kernel_rfl) ?_
      have ez0_201 := (hag.at_ 0 (by omega)).trans e0
      simp only [denL, LV.den, Nm.at_, ez0_201, Nat.add_zero]
      refine Calls.mono (isU_eq ((UfQ.mk b g A c)) (u) _ (true) _ hV.is (by assumption)) ?_
      rintro e201 w201 ⟨rfl, hb201⟩
      have hR201 := hR200.below hb201
      have hO := hO.below hb201
      have hr := hr.below hb201
      have hV := hV.below hb201
      refine Back.of (LB true) hR201 rfl ?_
      refine sim_run 9 [] (hR201.cast (by kernel_rfl)) (by kernel_rfl) trivial (fun ρ202 w202 hm202 hR202 => ?_)
      have hag := hag.moved (hm202.castL (by kernel_rfl))
      have hO := hO.moved (hm202.castL (by kernel_rfl))
      have hr := hr.moved (hm202.castL (by kernel_rfl))
      have hV := hV.moved (hm202.castL (by kernel_rfl))
      refine sim_call 19 [.ptr 0 0, LI ((↑k : Int))] (by kernel_rfl) ?_
      have ez0_203 := (hag.at_ 0 (by omega)).trans e0
      simp only [denL, LV.den, Nm.at_, ez0_203, Nat.add_zero]
      refine Calls.mono (headU_eq ((UfQ.mk b g A c)) (u) _ _ _ hV.is (by assumption) (by assumption) (by assumption)) ?_
      rintro e203 w203 ⟨rfl, hb203⟩
      have hR203 := hR202.below hb203
      have hO := hO.below hb203
      have hr := hr.below hb203
      have hV := hV.below hb203
      refine Back.of (LI ((↑p : Int))) hR203 rfl ?_
      refine sim_run 3 [] (hR203.cast (by kernel_rfl)) (by kernel_rfl) trivial (fun ρ204 w204 hm204 hR204 => ?_)
      have hag := hag.moved (hm204.castL (by kernel_rfl))
      have hO := hO.moved (hm204.castL (by kernel_rfl))
      have hr := hr.moved (hm204.castL (by kernel_rfl))
      have hV := hV.moved (hm204.castL (by kernel_rfl))
      refine sim_know 14 ((↑p : Int) == (↑k : Int)) true (by kernel_rfl) (decide_eq_true (by omega)) ?_
      refine sim_run 5 [] (hR204.cast (by kernel_rfl)) (by kernel_rfl) trivial (fun ρ205 w205 hm205 hR205 => ?_)
      have hag := hag.moved (hm205.castL (by kernel_rfl))
      have hO := hO.moved (hm205.castL (by kernel_rfl))
      have hr := hr.moved (hm205.castL (by kernel_rfl))
      have hV := hV.moved (hm205.castL (by kernel_rfl))
      refine sim_call 15 [.ptr 0 0, LI ((↑k : Int))] (by kernel_rfl) ?_
      have ez0_206 := (hag.at_ 0 (by omega)).trans e0
      simp only [denL, LV.den, Nm.at_, ez0_206, Nat.add_zero]
      refine Calls.mono (classU_any ((UfQ.mk b g A c)) (u) _ _ hV.is (by assumption) (by assumption)) ?_
      rintro e206 w206 ⟨Ac, cc, rfl, hC, hb206⟩
      have hCs := hR205.keeps.size
      have hrl : ∀ r ∈ rows, ∀ g, r.v.ownBlock = some g → (Value.slice Ac (clsU u k).length cc).ownBlock ≠ some g := fun r hr' g h1 h2 => by have h3 := own_lt (hr.own r hr').own h1; have h4 := own_ge hC h2; omega
      have hC := Own.start hR205 hC
      have hO := hO.below hb206
      have hr := hr.below hb206
      have hV := hV.below hb206
      have hR206 := hR205.below hb206
      refine Back.of (.v (Value.slice Ac (clsU u (↑k : Int)).length cc)) hR206 rfl ?_
      refine sim_run 1 [] (hR206.cast (by kernel_rfl)) (by kernel_rfl) trivial (fun ρ207 w207 hm207 hR207 => ?_)
      have hag := hag.moved (hm207.castL (by kernel_rfl))
      have hC := hC.moved (hm207.castL (by kernel_rfl))
      have hO := hO.moved (hm207.castL (by kernel_rfl))
      have hr := hr.moved (hm207.castL (by kernel_rfl))
      have hV := hV.moved (hm207.castL (by kernel_rfl))
      
      have hcl := clsU_head hk1 hlt (by rw [hp, hpk])
      refine sim_appendO 39 vo (.slc 1 0 1 1) (by kernel_rfl) (by assumption : Rel _ _ _ _ _) tyII hO 1 1 1 rfl [.v (.slice Ac (clsU u (k : Int)).length cc)] (by kernel_rfl) rfl (by kernel_rfl) (by unfold maxLen; omega) (by omega) ((by assumption : Rel _ _ _ _ _)).keeps.size (fun g' hg' => .inr (own_ge hO.own hg')) [0] (by kernel_rfl) (fun k0 hk0 g hg => ?_) (fun vo2 w7 hO2 hgw hR7 => ?_)
      · obtain rfl := List.mem_singleton.1 hk0
        rw [hag.at_ 0 (by omega), e0]
        exact fun e => by have h1 := own_ge hO.own hg; have h2 := h.blk.lt; have e : b = g := e; dsimp only at h2; omega
      have hV := hV.grown hgw (fun y hy hyg => by have h1 := own_ge hO.own hyg; have h2 := UfV.lt h y hy; omega)
      have hr := hr.grown hgw (fun r hr' g h1 => own_ne (hr.own r hr').own hO.own (by decide) g h1)
      have hC := hC.grown hgw (own_ne hC.own hO.own (by decide))
      clear hO
      have hO := hO2
      clear hO2
      have hr := hr.snoc ⟨own_base0 hC.own hCs, hC.far⟩ hrl
      clear hC
      refine sim_run 8 [⟨4, 1, LI (IntKind.i64.wrap ((↑k : Int) + 1)), LI ((↑k : Int) + 1)⟩] (hR7.cast (by kernel_rfl)) (by kernel_rfl) ⟨eqi (IntWalk.i64_in _ (by omega)), trivial⟩ (fun ρ300 w300 hm300 hR300 => ?_)
      have hag := hag.moved (hm300.castL (by kernel_rfl))
      have hV := hV.moved (hm300.castL (by kernel_rfl))
      have hO := hO.moved (hm300.castL (by kernel_rfl))
      have hr := hr.moved (hm300.castL (by kernel_rfl))
      
      refine sim_again (k + 1, vo2, rows ++ [⟨.slice Ac (clsU u (k : Int)).length cc, (clsU u (k : Int)).length, nats (clsU u (k : Int))⟩]) (by kernel_rfl) (by show u.length + 1 - (k + 1) < u.length + 1 - k; omega) (by kernel_rfl) (by kernel_rfl) (by kernel_rfl) hag.ag (Rel.cast (by assumption) (by kernel_rfl)) (by kernel_rfl) (by kernel_rfl) ⟨⟨by omega, by omega⟩, ?_, ?_, hr.cut hag rfl (by kernel_rfl), hV.cut hag rfl (by kernel_rfl)⟩
      · rw [hsucc, hcl]
        exact hS.snoc k _
      · rw [hsucc, List.length_append, List.map_append]
        exact hO.cut hag rfl (by kernel_rfl)
    · rw [if_neg hpk, List.append_nil] at hsucc
      refine sim_run 5 [] (hR2.cast (by kernel_rfl)) (by kernel_rfl) trivial (fun ρ400 w400 hm400 hR400 => ?_)
      have hO := hO.moved (hm400.castL (by kernel_rfl))
      have hr := hr.moved (hm400.castL (by kernel_rfl))
      have hV := hV.moved (hm400.castL (by kernel_rfl))
      have hag := hag.moved (hm400.castL (by kernel_rfl))
      refine sim_call 61 [.ptr 0 0, LI ((↑(k, vo, rows).fst : Int))] (by kernel_rfl) ?_
      have ez0_401 := (hag.at_ 0 (by omega)).trans e0
      simp only [denL, LV.den, Nm.at_, ez0_401, Nat.add_zero]
      refine Calls.mono (isU_eq ((UfQ.mk b g A c)) (u) _ (true) _ hV.is (by assumption)) ?_
      rintro e401 w401 ⟨rfl, hb401⟩
      have hR401 := hR400.below hb401
      have hO := hO.below hb401
      have hr := hr.below hb401
      have hV := hV.below hb401
      refine Back.of (LB true) hR401 rfl ?_
      refine sim_run 9 [] (hR401.cast (by kernel_rfl)) (by kernel_rfl) trivial (fun ρ402 w402 hm402 hR402 => ?_)
      have hag := hag.moved (hm402.castL (by kernel_rfl))
      have hO := hO.moved (hm402.castL (by kernel_rfl))
      have hr := hr.moved (hm402.castL (by kernel_rfl))
      have hV := hV.moved (hm402.castL (by kernel_rfl))
      refine sim_call 19 [.ptr 0 0, LI ((↑k : Int))] (by kernel_rfl) ?_
      have ez0_403 := (hag.at_ 0 (by omega)).trans e0
      simp only [denL, LV.den, Nm.at_, ez0_403, Nat.add_zero]
      refine Calls.mono (headU_eq ((UfQ.mk b g A c)) (u) _ _ _ hV.is (by assumption) (by assumption) (by assumption)) ?_
      rintro e403 w403 ⟨rfl, hb403⟩
      have hR403 := hR402.below hb403
      have hO := hO.below hb403
      have hr := hr.below hb403
      have hV := hV.below hb403
      refine Back.of (LI ((↑p : Int))) hR403 rfl ?_
      refine sim_run 3 [] (hR403.cast (by kernel_rfl)) (by kernel_rfl) trivial (fun ρ404 w404 hm404 hR404 => ?_)
      have hag := hag.moved (hm404.castL (by kernel_rfl))
      have hO := hO.moved (hm404.castL (by kernel_rfl))
      have hr := hr.moved (hm404.castL (by kernel_rfl))
      have hV := hV.moved (hm404.castL (by kernel_rfl))
      refine sim_know 14 ((↑p : Int) == (↑k : Int)) false (by kernel_rfl) (decide_eq_false (by omega)) ?_
      refine sim_run 8 [⟨4, 1, LI (IntKind.i64.wrap ((↑k : Int) + 1)), LI ((↑k : Int) + 1)⟩] (hR404.cast (by kernel_rfl)) (by kernel_rfl) ⟨eqi (IntWalk.i64_in _ (by omega)), trivial⟩ (fun ρ405 w405 hm405 hR405 => ?_)
      have hag := hag.moved (hm405.castL (by kernel_rfl))
      have hO := hO.moved (hm405.castL (by kernel_rfl))
      have hr := hr.moved (hm405.castL (by kernel_rfl))
      have hV := hV.moved (hm405.castL (by kernel_rfl))
      
      exact sim_again (k + 1, vo, rows) (by kernel_rfl) (by show u.length + 1 - (k + 1) < u.length + 1 - k; omega) (by kernel_rfl) (by kernel_rfl) (by kernel_rfl) hag.ag (Rel.cast (by assumption) (by kernel_rfl)) (by kernel_rfl) (by kernel_rfl) ⟨⟨by omega, by omega⟩, by rw [hsucc]; exact hS, by rw [hsucc]; exact hO.cut hag rfl (by kernel_rfl), hr.cut hag rfl (by kernel_rfl), hV.cut hag rfl (by kernel_rfl)⟩
  · obtain rfl : k = u.length + 1 := by omega
    have hkf : inU u ((u.length + 1 : Nat) : Int) = false := by unfold inU; rw [Bool.and_eq_false_iff, decide_eq_false_iff_not, decide_eq_false_iff_not]; omega
    rw [headsTo_all] at hO hS
    obtain ⟨Av, cv, rfl⟩ := own_row' hO.own
    have hel : (Uf.heads u).length = (Uf.classes u).length := by unfold Uf.classes; rw [List.length_map]
    refine sim_run 5 [] (hR2.cast (by kernel_rfl)) (by kernel_rfl) trivial (fun ρ500 w500 hm500 hR500 => ?_)
    have hr := hr.moved (hm500.castL (by kernel_rfl))
    have hV := hV.moved (hm500.castL (by kernel_rfl))
    have hag := hag.moved (hm500.castL (by kernel_rfl))
    have hO := hO.moved (hm500.castL (by kernel_rfl))
    refine sim_call 61 [.ptr 0 0, LI ((↑(u.length + 1, Value.slice Av (Uf.heads u).length cv, rows).fst : Int))] (by kernel_rfl) ?_
    have ez0_501 := (hag.at_ 0 (by omega)).trans e0
    simp only [denL, LV.den, Nm.at_, ez0_501, Nat.add_zero]
    refine Calls.mono (isU_eq ((UfQ.mk b g A c)) (u) _ (false) _ hV.is (by assumption)) ?_
    rintro e501 w501 ⟨rfl, hb501⟩
    have hR501 := hR500.below hb501
    have hr := hr.below hb501
    have hV := hV.below hb501
    have hO := hO.below hb501
    refine Back.of (LB false) hR501 rfl ?_
    refine sim_run 2 [] (hR501.cast (by kernel_rfl)) (by kernel_rfl) trivial (fun ρ502 w502 hm502 hR502 => ?_)
    have hag := hag.moved (hm502.castL (by kernel_rfl))
    have hr := hr.moved (hm502.castL (by kernel_rfl))
    have hV := hV.moved (hm502.castL (by kernel_rfl))
    have hO := hO.moved (hm502.castL (by kernel_rfl))
    refine sim_leave (by kernel_rfl) ?_
    refine sim_run 5 [] (hR502.cast (by kernel_rfl)) (by kernel_rfl) trivial (fun ρ503 w503 hm503 hR503 => ?_)
    have hag := hag.moved (hm503.castL (by kernel_rfl))
    have hr := hr.moved (hm503.castL (by kernel_rfl))
    have hV := hV.moved (hm503.castL (by kernel_rfl))
    have hO := hO.moved (hm503.castL (by kernel_rfl))
    refine sim_ret (.v (Value.slice Av (Uf.heads u).length cv)) hR503 (by kernel_rfl) (by kernel_rfl) ?_
    
    refine ⟨Av, cv, rows, by rw [hel]; rfl, ?_, by rw [← hel]; exact hO.own, fun r hr' => (hr.own r hr').own, hr.apart, ((by assumption : Rel _ _ _ _ _)).toBelow⟩
    unfold ClsS at hS
    rw [hS]
    unfold Uf.classes
    rw [List.map_map]
    rfl
end Go.Proofs.YtedfbdeklepekaaGreat
