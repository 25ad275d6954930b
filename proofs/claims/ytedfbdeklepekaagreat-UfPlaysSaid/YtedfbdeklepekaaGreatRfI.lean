/-
  complineref12.Graph: Join, of whatever numbers.
-/
import Derived.Test.YtedfbdeklepekaaGreatRfH
namespace Go.Proofs.YtedfbdeklepekaaGreat
open Go Go.RowKit
attribute [local irreducible] run goO leaveK someK nextK nextT nextOT nextOD loopBody loopRest loopK fillJ tmplOf tmplJ mergeT At AtO drawOk ordOf gateOf callC callO topOp topO idxOf appOf storeOf clearOf sliceOf calleeOf calleeO topQ idxQ newRowOf resL stepOp seek
set_option maxRecDepth 100000 in
set_option maxHeartbeats 4000000 in
theorem join12_out (q : RfP) (u : List Nat) (L : Option Addr) (n cl B : Nat) (xs : List Int) (w : World) (h : RfV q u w) (hr : Reads w B 1 L n (ints xs)) (hB : B ≤ w.heap.size) (hn : n ≤ 1000000) (hbad : ∃ x ∈ xs, inU u x = false) :
    Calls Tryz.prog 11 #[.pointer (some ⟨q.b, 0, none⟩), .slice L n cl] w fun e w' => e = .returned (.tuple #[.int .i64 0, .int .i64 3]) ∧ Below w.heap.size w w' := by
  obtain ⟨ρ, e0, hR, _⟩ := h.open_
  have hxl : xs.length = n := by have := hr.1; rw [ints_length] at this; omega
  have hr' : Reads w B 1 L n (xs.map fun z => [Value.int .i64 z]).flatten := by rw [flat_intsQ]; exact hr
  obtain ⟨b, A, c, vL⟩ := q
  dsimp only at e0 hR
  have hV : Sta (RfP.mk b A c vL).has (RfV (RfP.mk b A c vL) u) ρ [⟨[.v (.slice A u.length c), .v vL], false⟩] w := ⟨h, fun _ _ hw => wrS_allRo rfl hw, h.lt, RfV.same⟩
  have hag := hR.ag_ 1 (by kernel_rfl)
  refine sim_enter Tryz.func11 ρ [.ptr 0 0, .v (.slice L n cl)] [⟨[.v (.slice A u.length c), .v vL], false⟩] (by kernel_rfl) (by simp only [denL, LV.den, Nm.at_, e0]) ?_
  refine sim_run 11 [] (hR.cast (by kernel_rfl)) (by kernel_rfl) trivial (fun ρ100 w100 hm100 hR100 => ?_)
  have hV := hV.moved (hm100.castL (by kernel_rfl))
  have hag := hag.moved (hm100.castL (by kernel_rfl))
  
  have e0 := (hag.at_ 0 (by omega)).trans e0
  refine sim_loop (ι := Nat) (T := []) (w0 := w) 0 [0, 1] (fun i => [(6, LI i)]) (fun _ => [⟨[.v (.slice A u.length c), .v vL], false⟩]) (fun i w1 => i ≤ n ∧ (∀ x ∈ xs.take i, inU u x = true) ∧ Sta (RfP.mk b A c vL).has (RfV (RfP.mk b A c vL) u) ρ100 [⟨[.v (.slice A u.length c), .v vL], false⟩] w1) (fun i => n - i) (by kernel_rfl) (by kernel_rfl) ((by assumption : Rel _ _ _ _ _).cast (by kernel_rfl)) ⟨Nat.zero_le _, by simp, hV.castR (by kernel_rfl)⟩ ?_
  iterate 8 (try clear hV)
  iterate 8 (try clear hag)
  rintro i d w2 hR2 ⟨hi, hall, hV⟩
  have hag := hR2.ag_ 1 (by kernel_rfl)
  by_cases hlt : i < n
  · obtain ⟨x, hx⟩ : ∃ x, xs[i]? = some x := ⟨_, List.getElem?_eq_getElem (by omega)⟩
    have hz : (xs.map fun z => [Value.int .i64 z])[i]? = some [.int .i64 x] := by rw [List.getElem?_map, hx]; rfl
    refine sim_see (n := n) [.int .i64 x] i 1 (by kernel_rfl) hz hr' (by intro y hy; obtain ⟨o, _, rfl⟩ := List.mem_map.1 hy; rfl) (by omega) hlt hB (by simp) hR2 (by kernel_rfl) (fun ga oa ρE eA hgT hgl hmE eE hRE => ?_)
    subst eA
    have hV := hV.moved hmE
    have hag0 := hag.moved hmE
    have hag := hRE.ag_ 2 (by kernel_rfl)
    have e0 := (hag0.at_ 0 (by omega)).trans e0
    cases hq : inU u x with
    | false =>
      refine sim_run 8 [] (hRE.cast (by kernel_rfl)) (by kernel_rfl) trivial (fun ρ200 w200 hm200 hR200 => ?_)
      have hV := hV.moved (hm200.castL (by kernel_rfl))
      have hag0 := hag0.moved (hm200.castL (by kernel_rfl))
      have hag := hag.moved (hm200.castL (by kernel_rfl))
      refine sim_know 16 (decide ((↑i : Int) < (↑n : Int))) true (by kernel_rfl) (decide_eq_true (by omega)) ?_
      refine sim_run 9 [] (hR200.cast (by kernel_rfl)) (by kernel_rfl) trivial (fun ρ201 w201 hm201 hR201 => ?_)
      have hV := hV.moved (hm201.castL (by kernel_rfl))
      have hag0 := hag0.moved (hm201.castL (by kernel_rfl))
      have hag := hag.moved (hm201.castL (by kernel_rfl))
      refine sim_place (.v (.slice (some ⟨ga, oa, none⟩) n cl)) n 1 (i : Int) 1 0 (by kernel_rfl) (by omega) (by omega) rfl (by simp only [Nm.at_, hag.at_ 1 (by omega), eE, Nat.add_zero, Int.toNat_natCast, Nat.mul_one]) ?_
      refine sim_run 1 [] (hR201.cast (by kernel_rfl)) (by kernel_rfl) trivial (fun ρ203 w203 hm203 hR203 => ?_)
      have hV := hV.moved (hm203.castL (by kernel_rfl))
      have hag0 := hag0.moved (hm203.castL (by kernel_rfl))
      have hag := hag.moved (hm203.castL (by kernel_rfl))
      refine sim_call 62 [.ptr 0 0, LI x] (by kernel_rfl) ?_
      have ez0_204 := (hag.at_ 0 (by omega)).trans e0
      simp only [denL, LV.den, Nm.at_, ez0_204, Nat.add_zero]
      refine Calls.mono (is12_eq ((RfP.mk b A c vL)) (u) _ (false) _ hV.is (by assumption)) ?_
      rintro e204 w204 ⟨rfl, hb204⟩
      have hR204 := hR203.below hb204
      have hV := hV.below hb204
      refine Back.of (LB false) hR204 rfl ?_
      refine sim_run 8 [] (hR204.cast (by kernel_rfl)) (by kernel_rfl) trivial (fun ρ205 w205 hm205 hR205 => ?_)
      have hag0 := hag0.moved (hm205.castL (by kernel_rfl))
      have hag := hag.moved (hm205.castL (by kernel_rfl))
      have hV := hV.moved (hm205.castL (by kernel_rfl))
      refine sim_ret (.tup [LI 0, LI 3]) hR205 (by kernel_rfl) (by kernel_rfl) ?_
      exact ⟨rfl, hR205.toBelow⟩
      
    | true =>
      refine sim_run 8 [] (hRE.cast (by kernel_rfl)) (by kernel_rfl) trivial (fun ρ300 w300 hm300 hR300 => ?_)
      have hV := hV.moved (hm300.castL (by kernel_rfl))
      have hag0 := hag0.moved (hm300.castL (by kernel_rfl))
      have hag := hag.moved (hm300.castL (by kernel_rfl))
      refine sim_know 16 (decide ((↑i : Int) < (↑n : Int))) true (by kernel_rfl) (decide_eq_true (by omega)) ?_
      refine sim_run 9 [] (hR300.cast (by kernel_rfl)) (by kernel_rfl) trivial (fun ρ301 w301 hm301 hR301 => ?_)
      have hV := hV.moved (hm301.castL (by kernel_rfl))
      have hag0 := hag0.moved (hm301.castL (by kernel_rfl))
      have hag := hag.moved (hm301.castL (by kernel_rfl))
      refine sim_place (.v (.slice (some ⟨ga, oa, none⟩) n cl)) n 1 (i : Int) 1 0 (by kernel_rfl) (by omega) (by omega) rfl (by simp only [Nm.at_, hag.at_ 1 (by omega), eE, Nat.add_zero, Int.toNat_natCast, Nat.mul_one]) ?_
      refine sim_run 1 [] (hR301.cast (by kernel_rfl)) (by kernel_rfl) trivial (fun ρ303 w303 hm303 hR303 => ?_)
      have hV := hV.moved (hm303.castL (by kernel_rfl))
      have hag0 := hag0.moved (hm303.castL (by kernel_rfl))
      have hag := hag.moved (hm303.castL (by kernel_rfl))
      refine sim_call 62 [.ptr 0 0, LI x] (by kernel_rfl) ?_
      have ez0_304 := (hag.at_ 0 (by omega)).trans e0
      simp only [denL, LV.den, Nm.at_, ez0_304, Nat.add_zero]
      refine Calls.mono (is12_eq ((RfP.mk b A c vL)) (u) _ (true) _ hV.is (by assumption)) ?_
      rintro e304 w304 ⟨rfl, hb304⟩
      have hR304 := hR303.below hb304
      have hV := hV.below hb304
      refine Back.of (LB true) hR304 rfl ?_
      refine sim_run 10 [⟨3, 1, LI (IntKind.i64.wrap ((↑i : Int) + 1)), LI ((↑i : Int) + 1)⟩] (hR304.cast (by kernel_rfl)) (by kernel_rfl) ⟨eqi (IntWalk.i64_in _ (by omega)), trivial⟩ (fun ρ305 w305 hm305 hR305 => ?_)
      have hag0 := hag0.moved (hm305.castL (by kernel_rfl))
      have hag := hag.moved (hm305.castL (by kernel_rfl))
      have hV := hV.moved (hm305.castL (by kernel_rfl))
      
      exact sim_again (i + 1) (by kernel_rfl) (by show n - (i + 1) < n - i; omega) (by kernel_rfl) (by kernel_rfl) (by kernel_rfl) hag0.ag (Rel.cast (by assumption) (by kernel_rfl)) (by kernel_rfl) (by kernel_rfl) ⟨hlt, fun y hy => by
        rw [List.take_add_one, hx, List.mem_append] at hy
        rcases hy with hy | hy
        · exact hall y hy
        · simp only [Option.toList_some, List.mem_singleton] at hy
          rw [hy]; exact hq, hV.cut hag0 rfl (by kernel_rfl)⟩
  · obtain ⟨x, hx, hf⟩ := hbad
    rw [List.take_of_length_le (by omega)] at hall
    rw [hall x hx] at hf
    cases hf
set_option maxRecDepth 100000 in
set_option maxHeartbeats 4000000 in
theorem join12_in (q : RfP) (u : List Nat) (L : Option Addr) (n cl B : Nat) (ys : List Nat) (w : World) (h : RfV q u w) (hg : Uf.Good u) (hu : u.length ≤ 1000) (hr : Reads w B 1 L n (ints (ys.map Int.ofNat))) (hB : B ≤ w.heap.size) (hLb : ∀ a, L = some a → 0 < n → a.block ≠ q.b) (hn : n ≤ 1000000) (hy : InN u ys) :
    Calls Tryz.prog 11 #[.pointer (some ⟨q.b, 0, none⟩), .slice L n cl] w fun e w' => e = .returned (.tuple #[.int .i64 (joinN u ys : Int), .int .i64 0]) ∧ RfS w q (joinV u ys) w' := by
  have hxl : ys.length = n := by have := hr.1; rw [ints_length, List.length_map] at this; omega
  have hr' : Reads w B 1 L n ((ys.map Int.ofNat).map fun z => [Value.int .i64 z]).flatten := by rw [flat_intsQ]; exact hr
  obtain ⟨b, A, c, vL⟩ := q
  have hblk := h.blk
  dsimp only at hblk hLb
  have hbl := hblk.lt
  obtain ⟨ρ, e0, hR⟩ := blk_open hblk true [b] (fun _ => List.mem_singleton.2 rfl) (by kernel_rfl)
  have hbox : RowV ρ [⟨[.v (.slice A u.length c), .v vL], true⟩] w b 36 [.slice A u.length c, vL] := RowV.start hblk _ _
  have hb0 : ∀ y, wrS ρ [⟨[.v (.slice A u.length c), .v vL], true⟩] y → y = b := fun y hy => (wrS_one hy).symm.trans (congrArg Prod.fst e0)
  have ho : Own ρ [⟨[.v (.slice A u.length c), .v vL], true⟩] w 0 3 1 (.slice A u.length c) u.length (nats (hds u)) := ⟨h.own, fun g hg hw => own_blk_ne h.own hblk (by decide) (by rw [hg, hb0 g hw])⟩
  generalize hcur : [Value.slice A u.length c, vL] = cur at hbox
  have hcl : 2 = cur.length := by rw [← hcur]; rfl
  have hag := hR.ag_ 1 (by kernel_rfl)
  refine sim_enter Tryz.func11 ρ [.ptr 0 0, .v (.slice L n cl)] [⟨[.v (.slice A u.length c), .v vL], true⟩] (by kernel_rfl) (by simp only [denL, LV.den, Nm.at_, e0]) ?_
  refine sim_run 11 [] (hR.cast (by kernel_rfl)) (by kernel_rfl) trivial (fun ρ1100 w1100 hm1100 hR1100 => ?_)
  have ho := ho.moved (hm1100.castL (by kernel_rfl))
  have hbox := hbox.moved (hm1100.castL (by kernel_rfl))
  have hag := hag.moved (hm1100.castL (by kernel_rfl))
  
  have e0 := (hag.at_ 0 (by omega)).trans e0
  refine sim_loop (ι := Nat) (T := [b]) (w0 := w) 0 [0, 1] (fun i => [(6, LI i)]) (fun _ => [⟨[.v (.slice A u.length c), .v vL], true⟩]) (fun i w1 => i ≤ n ∧ RowV ρ1100 [⟨[.v (.slice A u.length c), .v vL], true⟩] w1 b 36 cur ∧ Own ρ1100 [⟨[.v (.slice A u.length c), .v vL], true⟩] w1 0 3 1 (.slice A u.length c) u.length (nats (hds u))) (fun i => n - i) (by kernel_rfl) (by kernel_rfl) ((by assumption : Rel _ _ _ _ _).cast (by kernel_rfl)) ⟨Nat.zero_le _, hbox.castR (by kernel_rfl), ho.castR (by kernel_rfl)⟩ ?_
  iterate 8 (try clear hbox)
  iterate 8 (try clear ho)
  iterate 8 (try clear hag)
  rintro i d w2 hR2 ⟨hi, hbox, ho⟩
  have hag := hR2.ag_ 1 (by kernel_rfl)
  by_cases hlt : i < n
  · obtain ⟨x, hx⟩ : ∃ x, ys[i]? = some x := ⟨_, List.getElem?_eq_getElem (by omega)⟩
    have hz : ((ys.map Int.ofNat).map fun z => [Value.int .i64 z])[i]? = some [.int .i64 (x : Int)] := by rw [List.getElem?_map, List.getElem?_map, hx]; rfl
    have hxr := hy x (List.mem_of_getElem? hx)
    have hq : inU u (x : Int) = true := by unfold inU; rw [Bool.and_eq_true, decide_eq_true_iff, decide_eq_true_iff]; omega
    refine sim_see (n := n) [.int .i64 (x : Int)] i 1 (by kernel_rfl) hz hr' (by intro y hy; obtain ⟨o, _, rfl⟩ := List.mem_map.1 hy; rfl) (by omega) hlt hB (fun a ha hm => hLb a ha (by omega) (List.mem_singleton.1 hm)) hR2 (by kernel_rfl) (fun ga oa ρE eA hgT hgl hmE eE hRE => ?_)
    subst eA
    have hbox := hbox.moved hmE
    have ho := ho.moved hmE
    have hag0 := hag.moved hmE
    have hag1 := hag0
    have hag := hRE.ag_ 2 (by kernel_rfl)
    have e0z := e0
    refine sim_run 8 [] (hRE.cast (by kernel_rfl)) (by kernel_rfl) trivial (fun ρ1200 w1200 hm1200 hR1200 => ?_)
    have hbox := hbox.moved (hm1200.castL (by kernel_rfl))
    have ho := ho.moved (hm1200.castL (by kernel_rfl))
    have hag0 := hag0.moved (hm1200.castL (by kernel_rfl))
    have hag1 := hag1.moved (hm1200.castL (by kernel_rfl))
    have hag := hag.moved (hm1200.castL (by kernel_rfl))
    refine sim_know 16 (decide ((↑i : Int) < (↑n : Int))) true (by kernel_rfl) (decide_eq_true (by omega)) ?_
    refine sim_run 9 [] (hR1200.cast (by kernel_rfl)) (by kernel_rfl) trivial (fun ρ1201 w1201 hm1201 hR1201 => ?_)
    have hbox := hbox.moved (hm1201.castL (by kernel_rfl))
    have ho := ho.moved (hm1201.castL (by kernel_rfl))
    have hag0 := hag0.moved (hm1201.castL (by kernel_rfl))
    have hag1 := hag1.moved (hm1201.castL (by kernel_rfl))
    have hag := hag.moved (hm1201.castL (by kernel_rfl))
    refine sim_place (.v (.slice (some ⟨ga, oa, none⟩) n cl)) n 1 (i : Int) 1 0 (by kernel_rfl) (by omega) (by omega) rfl (by simp only [Nm.at_, hag.at_ 1 (by omega), eE, Nat.add_zero, Int.toNat_natCast, Nat.mul_one]) ?_
    refine sim_run 1 [] (hR1201.cast (by kernel_rfl)) (by kernel_rfl) trivial (fun ρ1203 w1203 hm1203 hR1203 => ?_)
    have hbox := hbox.moved (hm1203.castL (by kernel_rfl))
    have ho := ho.moved (hm1203.castL (by kernel_rfl))
    have hag0 := hag0.moved (hm1203.castL (by kernel_rfl))
    have hag1 := hag1.moved (hm1203.castL (by kernel_rfl))
    have hag := hag.moved (hm1203.castL (by kernel_rfl))
    refine sim_call 62 [.ptr 0 0, LI ((↑x : Int))] (by kernel_rfl) ?_
    have ez0_1204 := (hag0.at_ 0 (by omega)).trans e0
    simp only [denL, LV.den, Nm.at_, ez0_1204, Nat.add_zero]
    refine Calls.mono (is12_eq ((RfP.mk b A c vL)) (u) _ (true) _ (rfv_of hR1203 hbox hag1 e0z (by kernel_rfl) hcl ho rfl) (by assumption)) ?_
    rintro e1204 w1204 ⟨rfl, hb1204⟩
    have hR1204 := hR1203.below hb1204
    have hbox := hbox.below hb1204
    have ho := ho.below hb1204
    refine Back.of (LB true) hR1204 rfl ?_
    refine sim_run 10 [⟨3, 1, LI (IntKind.i64.wrap ((↑i : Int) + 1)), LI ((↑i : Int) + 1)⟩] (hR1204.cast (by kernel_rfl)) (by kernel_rfl) ⟨eqi (IntWalk.i64_in _ (by omega)), trivial⟩ (fun ρ1205 w1205 hm1205 hR1205 => ?_)
    have hag0 := hag0.moved (hm1205.castL (by kernel_rfl))
    have hag1 := hag1.moved (hm1205.castL (by kernel_rfl))
    have hag := hag.moved (hm1205.castL (by kernel_rfl))
    have hbox := hbox.moved (hm1205.castL (by kernel_rfl))
    have ho := ho.moved (hm1205.castL (by kernel_rfl))
    
    exact sim_again (i + 1) (by kernel_rfl) (by show n - (i + 1) < n - i; omega) (by kernel_rfl) (by kernel_rfl) (by kernel_rfl) hag0.ag (Rel.cast (by assumption) (by kernel_rfl)) (by kernel_rfl) (by kernel_rfl) ⟨hlt, rowCut (cs := [.v (.slice A u.length c), .v vL]) (by assumption : Rel _ _ _ _ _) hbox hag0 e0z (by kernel_rfl) hcl, ho.cut hag0 rfl (by kernel_rfl)⟩
  · refine sim_run 8 [] (hR2.cast (by kernel_rfl)) (by kernel_rfl) trivial (fun ρ1300 w1300 hm1300 hR1300 => ?_)
    have hbox := hbox.moved (hm1300.castL (by kernel_rfl))
    have ho := ho.moved (hm1300.castL (by kernel_rfl))
    have hag := hag.moved (hm1300.castL (by kernel_rfl))
    refine sim_know 16 (decide ((↑i : Int) < (↑n : Int))) false (by kernel_rfl) (decide_eq_false (by omega)) ?_
    refine sim_run 1 [] (hR1300.cast (by kernel_rfl)) (by kernel_rfl) trivial (fun ρ1301 w1301 hm1301 hR1301 => ?_)
    have hbox := hbox.moved (hm1301.castL (by kernel_rfl))
    have ho := ho.moved (hm1301.castL (by kernel_rfl))
    have hag := hag.moved (hm1301.castL (by kernel_rfl))
    refine sim_leave (by kernel_rfl) ?_
    refine sim_run 10 [] (hR1301.cast (by kernel_rfl)) (by kernel_rfl) trivial (fun ρ1302 w1302 hm1302 hR1302 => ?_)
    have hbox := hbox.moved (hm1302.castL (by kernel_rfl))
    have ho := ho.moved (hm1302.castL (by kernel_rfl))
    have hag := hag.moved (hm1302.castL (by kernel_rfl))
    
    have e0 := (hag.at_ 0 (by omega)).trans e0
    refine sim_loop (ι := Nat × Option Addr × Nat × List Nat) (T := [b]) (w0 := w) (0, A, c, u) [0, 1] (fun s => [(7, LI (joinC u (ys.headD 0) (ys.tail.take s.1) : Int)), (8, LI ((s.1 + 1 : Nat) : Int))]) (fun s => [⟨[.v (.slice s.2.1 s.2.2.2.length s.2.2.1), .v vL], true⟩]) (fun s w1 => s.1 ≤ ys.tail.length ∧ s.2.2.2 = joinU u (ys.headD 0) (ys.tail.take s.1) ∧ RowV ρ1302 [⟨[.v (.slice s.2.1 s.2.2.2.length s.2.2.1), .v vL], true⟩] w1 b 36 cur ∧ Own ρ1302 [⟨[.v (.slice s.2.1 s.2.2.2.length s.2.2.1), .v vL], true⟩] w1 0 3 1 (.slice s.2.1 s.2.2.2.length s.2.2.1) s.2.2.2.length (nats (hds s.2.2.2)) ∧ ∀ a, s.2.1 = some a → A = some a ∨ w.heap.size ≤ a.block) (fun s => ys.tail.length - s.1) (by kernel_rfl) (by kernel_rfl) ((by assumption : Rel _ _ _ _ _).cast (by kernel_rfl)) ⟨Nat.zero_le _, rfl, hbox.castR (by kernel_rfl), ho.castR (by kernel_rfl), fun a ha => .inl ha⟩ ?_
    iterate 8 (try clear hbox)
    iterate 8 (try clear ho)
    iterate 8 (try clear hag)
    rintro ⟨j, A1, c1, v⟩ d w3 hR3 ⟨hj, hv, hbox, ho, hA1⟩
    dsimp only at hj hv hbox ho hA1
    have hag := hR3.ag_ 1 (by kernel_rfl)
    have htl : ys.tail.length = n - 1 := by rw [List.length_tail]; omega
    have hcnt := joinC_le u (ys.headD 0) (ys.tail.take j)
    have hcl2 : joinC u (ys.headD 0) (ys.tail.take j) ≤ 1000000 := by rw [List.length_take] at hcnt; omega
    have hvl : v.length = u.length := by rw [hv]; exact joinU_length _ _ _
    by_cases hlt : j + 1 < n
    · obtain ⟨x, hx⟩ : ∃ x, ys.tail[j]? = some x := ⟨_, List.getElem?_eq_getElem (by omega)⟩
      have hys : ys = ys.headD 0 :: ys.tail := by
        cases ys with
        | nil => simp at hx
        | cons a r => rfl
      have hxr := hy x (List.mem_of_mem_tail (List.mem_of_getElem? hx))
      have hx0r := hy (ys.headD 0) (by rw [hys]; exact List.mem_cons_self ..)
      have hgv : Uf.Good v := by rw [hv]; exact joinU_good hg hx0r _ (fun y hy' => hy y (List.mem_of_mem_tail (List.mem_of_mem_take hy')))
      have h0 : ys[0]? = some (ys.headD 0) := by
        cases ys with
        | nil => simp at hx
        | cons a r => rfl
      have hz0 : ((ys.map Int.ofNat).map fun z => [Value.int .i64 z])[0]? = some [.int .i64 ((ys.headD 0 : Nat) : Int)] := by
        rw [List.getElem?_map, List.getElem?_map, h0]; rfl
      have hz : ((ys.map Int.ofNat).map fun z => [Value.int .i64 z])[j + 1]? = some [.int .i64 (x : Int)] := by
        rw [List.getElem?_map, List.getElem?_map]
        have h1 : ys[j + 1]? = some x := by rw [hys, List.getElem?_cons_succ]; exact hx
        rw [h1]; rfl
      refine sim_see (n := n) [.int .i64 ((ys.headD 0 : Nat) : Int)] 0 1 (by kernel_rfl) hz0 hr' (by intro y hy; obtain ⟨o, _, rfl⟩ := List.mem_map.1 hy; rfl) (by omega) (by omega) hB (fun a ha hm => hLb a ha (by omega) (List.mem_singleton.1 hm)) hR3 (by kernel_rfl) (fun ga oa ρE eA hgT hgl hmE eE hRE => ?_)
      subst eA
      have hbox := hbox.moved hmE
      have ho := ho.moved hmE
      have hag0 := hag.moved hmE
      have hagE := hRE.ag_ 2 (by kernel_rfl)
      refine sim_see (n := n) [.int .i64 (x : Int)] (j + 1) 2 (by kernel_rfl) hz hr' (by intro y hy; obtain ⟨o, _, rfl⟩ := List.mem_map.1 hy; rfl) (by omega) hlt hB (fun a ha hm => hLb a ha (by omega) (List.mem_singleton.1 hm)) hRE (by kernel_rfl) (fun gb ob ρF eB _ _ hmF eF hRF => ?_)
      injection eB with eB
      injection eB with eB1 eB2
      subst eB1 eB2
      have hbox := hbox.moved hmF
      have ho := ho.moved hmF
      have hag0 := hag0.moved hmF
      have hagE := hagE.moved hmF
      have hag := hRF.ag_ 3 (by kernel_rfl)
      have eE := (hagE.at_ 1 (by omega)).trans eE
      refine sim_run 8 [] (hRF.cast (by kernel_rfl)) (by kernel_rfl) trivial (fun ρ1400 w1400 hm1400 hR1400 => ?_)
      have hbox := hbox.moved (hm1400.castL (by kernel_rfl))
      have ho := ho.moved (hm1400.castL (by kernel_rfl))
      have hag0 := hag0.moved (hm1400.castL (by kernel_rfl))
      have hagE := hagE.moved (hm1400.castL (by kernel_rfl))
      have hag := hag.moved (hm1400.castL (by kernel_rfl))
      refine sim_know 29 (decide ((↑((j, A1, c1, v).fst + 1) : Int) < (↑n : Int))) true (by kernel_rfl) (decide_eq_true (by omega)) ?_
      refine sim_run 5 [] (hR1400.cast (by kernel_rfl)) (by kernel_rfl) trivial (fun ρ1401 w1401 hm1401 hR1401 => ?_)
      have hbox := hbox.moved (hm1401.castL (by kernel_rfl))
      have ho := ho.moved (hm1401.castL (by kernel_rfl))
      have hag0 := hag0.moved (hm1401.castL (by kernel_rfl))
      have hagE := hagE.moved (hm1401.castL (by kernel_rfl))
      have hag := hag.moved (hm1401.castL (by kernel_rfl))
      
      have e0z := (hag0.at_ 0 (by omega)).trans e0
      have eE := (hag.at_ 1 (by omega)).trans eE
      have eF := (hag.at_ 2 (by omega)).trans eF
      have hRz := ((by assumption : Rel _ _ _ _ _)).cast (rs' := [⟨[.v (.slice A1 v.length c1), .v vL], true⟩, ⟨[LI ((ys.headD 0 : Nat) : Int)], false⟩, ⟨[LI (x : Int)], false⟩]) (by kernel_rfl)
      have hoz := ho.castR (rs' := [⟨[.v (.slice A1 v.length c1), .v vL], true⟩, ⟨[LI ((ys.headD 0 : Nat) : Int)], false⟩, ⟨[LI (x : Int)], false⟩]) (by kernel_rfl)
      have hboxz := hbox.castR (rs' := [⟨[.v (.slice A1 v.length c1), .v vL], true⟩, ⟨[LI ((ys.headD 0 : Nat) : Int)], false⟩, ⟨[LI (x : Int)], false⟩]) (by kernel_rfl)
      have hagz := hag0.castR (rs' := [⟨[.v (.slice A1 v.length c1), .v vL], true⟩, ⟨[LI ((ys.headD 0 : Nat) : Int)], false⟩, ⟨[LI (x : Int)], false⟩]) (by kernel_rfl)
      have hsn : ys.tail.take (j + 1) = ys.tail.take j ++ [x] := by rw [List.take_add_one, hx]; rfl
      refine sim_to (regK Tryz.f11 10) (tmplJ Tryz.f11.ntmps 0 [(0, .ptr 0 0), (1, .v (.slice (some ⟨ga, oa, none⟩) n cl)), (7, LI ((joinC u (ys.headD 0) (ys.tail.take j) : Nat) : Int)), (8, LI ((j + 1 : Nat) : Int))]) [⟨[.v (.slice A1 v.length c1), .v vL], true⟩, ⟨[LI ((ys.headD 0 : Nat) : Int)], false⟩, ⟨[LI (x : Int)], false⟩] (by kernel_rfl) (by kernel_rfl) (by kernel_rfl) (fun d5 => ?_)
      refine join_rd hRz hboxz hcl hoz e0z (by simpa using eE) (by simpa using eF) hgv (by omega) (by rw [hvl]; exact hx0r) (by rw [hvl]; exact hxr) hbl hcl2 hlt hn d5 (fun c' ρ' w' A' c2 hk hm hl hag' hR' htk hbox' ho' hA' => ?_)
      have hagy : Ag 1 ρ1302 ρ' c'.rs := ⟨hagz.ag.tr hag'.ag, hag'.le⟩
      have ej : joinC u (ys.headD 0) (ys.tail.take (j + 1)) = joinC u (ys.headD 0) (ys.tail.take j) + Uf.more v (ys.headD 0) x := by rw [hsn, joinC_snoc, ← hv]
      have hsl := Uf.step_length v (ys.headD 0) x
      rw [← hsl] at htk ho'
      refine sim_again (j + 1, A', c2, Uf.step v (ys.headD 0) x) hk (by show ys.tail.length - (j + 1) < ys.tail.length - j; omega) ((congrArg (mergeT · c'.tmps) ?_).trans hm) ((congrArg List.length ?_).trans hl) (by kernel_rfl) hagy.ag hR' htk (by kernel_rfl) ⟨by show j + 1 ≤ _; omega, by show _ = joinU u _ (ys.tail.take (j + 1)); rw [hsn, joinU_snoc, ← hv], rowCut (cs := [.v (.slice A' _ c2), .v vL]) hR' hbox' hagy e0 (by rw [← List.getElem?_take_of_lt (by omega : 0 < 1), htk]; rfl) hcl, ho'.cut hagy rfl htk, fun a ha => (hA' a ha).elim (hA1 a) .inr⟩
      · rw [← ej]
        kernel_rfl
      · rw [← ej]
        kernel_rfl
    · have hje : j = ys.tail.length := by omega
      subst hje
      rw [List.take_length] at hv
      refine sim_run 8 [] (hR3.cast (by kernel_rfl)) (by kernel_rfl) trivial (fun ρ1500 w1500 hm1500 hR1500 => ?_)
      have hbox := hbox.moved (hm1500.castL (by kernel_rfl))
      have ho := ho.moved (hm1500.castL (by kernel_rfl))
      have hag := hag.moved (hm1500.castL (by kernel_rfl))
      refine sim_know 29 (decide ((↑((ys.tail.length, A1, c1, v).fst + 1) : Int) < (↑n : Int))) false (by kernel_rfl) (decide_eq_false (by omega)) ?_
      refine sim_run 1 [] (hR1500.cast (by kernel_rfl)) (by kernel_rfl) trivial (fun ρ1501 w1501 hm1501 hR1501 => ?_)
      have hbox := hbox.moved (hm1501.castL (by kernel_rfl))
      have ho := ho.moved (hm1501.castL (by kernel_rfl))
      have hag := hag.moved (hm1501.castL (by kernel_rfl))
      refine sim_leave (by kernel_rfl) ?_
      refine sim_run 6 [] (hR1501.cast (by kernel_rfl)) (by kernel_rfl) trivial (fun ρ1502 w1502 hm1502 hR1502 => ?_)
      have hbox := hbox.moved (hm1502.castL (by kernel_rfl))
      have ho := ho.moved (hm1502.castL (by kernel_rfl))
      have hag := hag.moved (hm1502.castL (by kernel_rfl))
      refine sim_ret (.tup [LI ((↑(joinC u (ys.headD 0) (List.take (ys.tail.length, A1, c1, v).fst ys.tail)) : Int)), LI 0]) hR1502 (by kernel_rfl) (by kernel_rfl) ?_
      
      have e7 : joinC u (ys.headD 0) (ys.tail.take ys.tail.length) = joinN u ys := by rw [joinN_eq, List.take_length]
      refine ⟨congrArg (fun z : Nat => Ending.returned (.tuple #[.int .i64 (z : Int), .int .i64 0])) e7, A1, c1, ?_, kept_b ((by assumption : Rel _ _ _ _ _)).keeps, hA1⟩
      rw [joinV_eq, ← hv]
      exact rfv_of (by assumption : Rel _ _ _ _ _) hbox hag e0 (by kernel_rfl) hcl ho rfl
end Go.Proofs.YtedfbdeklepekaaGreat
