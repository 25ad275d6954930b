/-
  slices.SortFunc at seq.group, off the shelf.
  slices.SortFunc at groups with their comparison.
  seq.class: the class of an Id.
  seq.groups: what stands in a round over a class.
  seq.groups: a round over a class.
  seq.groups: from a round over a class back to what lay there.
  seq.groups: a group is done.
  seq.groups: one more group.
  seq.groups.
-/
import Derived.Test.YtnfgndapalkbcaaProg
import Derived.Test.YtnfgndapalkbcaaSimHN
import Derived.Shelf.SlSortCmp.NoneTotal
import Derived.Test.YtnfgndapalkbcaaSeqXP
import Derived.Test.YtnfgndapalkbcaaSortK
import Derived.Test.YtnfgndapalkbcaaGrK
import Derived.Test.YtnfgndapalkbcaaBuildP
namespace Go.Proofs.Ytnfgndapalkbcaa
section
open Go Go.Shelf Go.RowKit
attribute [local irreducible] run goO goN ordGoN eqlOf eqlOper eqlOfO cellL leaveK someK nextK nextT nextOT nextOD loopBody loopRest loopK fillJ tmplOf tmplJ mergeT At AtO drawOk ordOf gateOf callC callO topOp topO idxOf appOf storeOf clearOf sliceOf calleeOf calleeO topQ idxQ newRowOf resL stepOp seek

def renFGrp : Nat → Nat
  | 6 => 67
  | 14 => 77
  | 15 => 72
  | 20 => 90
  | 21 => 91
  | 22 => 92
  | 23 => 93
  | 24 => 94
  | 25 => 95
  | 26 => 96
  | 27 => 97
  | 28 => 87
  | 29 => 88
  | 46 => 104
  | 47 => 99
  | 48 => 100
  | 49 => 105
  | 50 => 106
  | 57 => 108
  | k => k
def renTGrp : Nat → Nat
  | 0 => 0
  | 3 => 3
  | 4 => 4
  | 5 => 5
  | 9 => 9
  | 22 => 81
  | 24 => 86
  | 25 => 106
  | 39 => 110
  | 45 => 117
  | 46 => 118
  | 50 => 123
  | 53 => 126
  | 55 => 128
  | 66 => 134
  | 70 => 138
  | 76 => 142
  | 77 => 143
  | k => k
def renSGrp : Ren := ⟨renFGrp, renTGrp, fun k => k⟩
set_option maxRecDepth 100000 in
theorem laysSGrp : SlLaysF0.n6 Try.prog renSGrp where
  mixed := by kernel_rfl
  f6 := Exists.intro "slices.SortFunc[[]compline/seq.group,compline/seq.group]" ⟨by kernel_rfl, by kernel_rfl⟩
  f14 := Exists.intro "slices.pdqsortCmpFunc[compline/seq.group]" ⟨by kernel_rfl, by kernel_rfl⟩
  f15 := by kernel_rfl
  f20 := Exists.intro "slices.insertionSortCmpFunc[compline/seq.group]" ⟨by kernel_rfl, by kernel_rfl⟩
  f21 := Exists.intro "slices.heapSortCmpFunc[compline/seq.group]" ⟨by kernel_rfl, by kernel_rfl⟩
  f22 := Exists.intro "slices.breakPatternsCmpFunc[compline/seq.group]" ⟨by kernel_rfl, by kernel_rfl⟩
  f23 := Exists.intro "slices.choosePivotCmpFunc[compline/seq.group]" ⟨by kernel_rfl, by kernel_rfl⟩
  f24 := Exists.intro "slices.reverseRangeCmpFunc[compline/seq.group]" ⟨by kernel_rfl, by kernel_rfl⟩
  f25 := Exists.intro "slices.partialInsertionSortCmpFunc[compline/seq.group]" ⟨by kernel_rfl, by kernel_rfl⟩
  f26 := Exists.intro "slices.partitionEqualCmpFunc[compline/seq.group]" ⟨by kernel_rfl, by kernel_rfl⟩
  f27 := Exists.intro "slices.partitionCmpFunc[compline/seq.group]" ⟨by kernel_rfl, by kernel_rfl⟩
  f28 := by kernel_rfl
  f29 := by kernel_rfl
  f46 := Exists.intro "slices.siftDownCmpFunc[compline/seq.group]" ⟨by kernel_rfl, by kernel_rfl⟩
  f47 := by kernel_rfl
  f48 := by kernel_rfl
  f49 := Exists.intro "slices.medianAdjacentCmpFunc[compline/seq.group]" ⟨by kernel_rfl, by kernel_rfl⟩
  f50 := Exists.intro "slices.medianCmpFunc[compline/seq.group]" ⟨by kernel_rfl, by kernel_rfl⟩
  f57 := Exists.intro "slices.order2CmpFunc[compline/seq.group]" ⟨by kernel_rfl, by kernel_rfl⟩
  t0 := by kernel_rfl
  a0 := fun _ => by kernel_rfl
  z0 := fun _ => by kernel_rfl
  v0 := fun _ => by kernel_rfl
  t3 := by kernel_rfl
  a3 := fun _ => by kernel_rfl
  z3 := fun _ => by kernel_rfl
  v3 := fun _ => by kernel_rfl
  t4 := by kernel_rfl
  a4 := fun _ => by kernel_rfl
  z4 := fun _ => by kernel_rfl
  v4 := fun _ => by kernel_rfl
  t5 := by kernel_rfl
  a5 := fun _ => by kernel_rfl
  z5 := fun _ => by kernel_rfl
  v5 := fun _ => by kernel_rfl
  t9 := by kernel_rfl
  a9 := fun _ => by kernel_rfl
  z9 := fun _ => by kernel_rfl
  v9 := fun _ => by kernel_rfl
  t22 := by kernel_rfl
  a22 := fun _ => by kernel_rfl
  z22 := fun _ => by kernel_rfl
  v22 := fun _ => by kernel_rfl
  t25 := by kernel_rfl
  a25 := fun _ => by kernel_rfl
  z25 := fun _ => by kernel_rfl
  v25 := fun _ => by kernel_rfl
  t39 := by kernel_rfl
  a39 := fun _ => by kernel_rfl
  z39 := fun _ => by kernel_rfl
  v39 := fun _ => by kernel_rfl
  t45 := by kernel_rfl
  a45 := fun _ => by kernel_rfl
  z45 := fun _ => by kernel_rfl
  v45 := fun _ => by kernel_rfl
  t46 := by kernel_rfl
  a46 := fun _ => by kernel_rfl
  z46 := fun _ => by kernel_rfl
  v46 := fun _ => by kernel_rfl
  t50 := by kernel_rfl
  a50 := fun _ => by kernel_rfl
  z50 := fun _ => by kernel_rfl
  v50 := fun _ => by kernel_rfl
  t53 := by kernel_rfl
  a53 := fun _ => by kernel_rfl
  z53 := fun _ => by kernel_rfl
  v53 := fun _ => by kernel_rfl
  t55 := by kernel_rfl
  a55 := fun _ => by kernel_rfl
  z55 := fun _ => by kernel_rfl
  v55 := fun _ => by kernel_rfl
  t66 := by kernel_rfl
  a66 := fun _ => by kernel_rfl
  z66 := fun _ => by kernel_rfl
  v66 := fun _ => by kernel_rfl
  t70 := by kernel_rfl
  a70 := fun _ => by kernel_rfl
  z70 := fun _ => by kernel_rfl
  v70 := fun _ => by kernel_rfl
  t76 := by kernel_rfl
  a76 := fun _ => by kernel_rfl
  z76 := fun _ => by kernel_rfl
  v76 := fun _ => by kernel_rfl
  t77 := by kernel_rfl
  a77 := fun _ => by kernel_rfl
  z77 := fun _ => by kernel_rfl
  v77 := fun _ => by kernel_rfl
end

section
open Go Go.RowKit Go.Sort
/-- a group's cells: where its Ids lie, and its rank -/
def encG (F : List Int → Value) (R : Int → Option In) (g : List Int) : List Value := F g :: (rkF R g).cells
theorem encG_len (F : List Int → Value) (R : Int → Option In) (g : List Int) : (encG F R g).length = 4 := rfl
/-- where the Ids of groups lie, apart from a row -/
def IdsAt (w : World) (A : Option Addr) (F : List Int → Value) (gs : List (List Int)) : Prop :=
  ∀ g ∈ gs, ∃ A' c, F g = .slice A' g.length c ∧ Reads w w.heap.size 1 A' g.length (ints g) ∧ ∀ a b, A = some a → A' = some b → b.block ≠ a.block
theorem attach_flat (gs : List (List Int)) (f : List Int → List Value) : (gs.attach.flatMap fun x => f x.1) = gs.flatMap f := by
  have h : (gs.attach.map Subtype.val).flatMap f = gs.flatMap f := by rw [List.attach_map_subtype_val]
  rw [← h, List.flatMap_map]
theorem sortGrp_any (F : List Int → Value) (R : Int → Option In) (base n cp : Nat) (A : Option Addr) (gs : List (List Int)) (w : World) (h : w.ownsRow base 86 4 (.slice A n cp) n (gs.flatMap (encG F R))) (hl : gs.length = n) (hn : n < 4611686018427387904) (hI : IdsAt w A F gs) (hs : ∀ g ∈ gs, g.length ≤ 1000000000000) :
    Calls Try.prog 67 #[.slice A n cp, .func (.func 68) #[] #[]] w fun e w' => e = .returned (.tuple #[]) ∧ w'.ownsRow base 86 4 (.slice A n cp) n ((sortG R gs).flatMap (encG F R)) ∧ Kept (inA A) w w' := by
  by_cases h0 : gs = []
  · subst h0
    obtain rfl : n = 0 := hl.symm
    refine (AnyF.slices_SortFunc_none laysSGrp A cp (.func (.func 68) #[] #[]) w).mono ?_
    rintro e w' ⟨he, rfl⟩
    rw [show sortG R [] = [] from List.mergeSort_nil ..]
    exact ⟨he, h, Kept.refl _ _⟩
  · obtain ⟨g0, hg0⟩ := List.exists_mem_of_ne_nil _ h0
    obtain ⟨b, rfl⟩ : ∃ b, A = some ⟨b, 0, none⟩ := by
      rcases h.2 with ⟨_, e⟩ | ⟨b, cap, cur, e, _⟩
      · rw [e] at hl
        exact absurd (List.eq_nil_of_length_eq_zero hl) h0
      · injection e with e
        exact ⟨b, e⟩
    have hb : b < w.heap.size := own_lt h rfl
    subst hl
    haveI : Inhabited { g // g ∈ gs } := ⟨⟨g0, hg0⟩⟩
    have hcm : Cm (fun x y : { g // g ∈ gs } => cmpG R x.1 y.1) := (cmG R).map Subtype.val
    have hrow : w.ownsRow base 86 4 (.slice (some ⟨b, 0, none⟩) gs.length cp) gs.length (gs.attach.flatMap fun x => encG F R x.1) := by rw [attach_flat]; exact h
    have hc := AnyQ.slices_SortFunc_total (P := Try.prog) laysSGrp 4 (fun _ => by kernel_rfl) (fun _ => by kernel_rfl) (fun x : { g // g ∈ gs } => encG F R x.1) (fun _ => rfl) (fun x v hv => by
        obtain ⟨A', c, e, _⟩ := hI x.1 x.2
        simp only [encG, e, Rk.cells, List.mem_cons, List.not_mem_nil, or_false] at hv
        rcases hv with rfl | rfl | rfl | rfl <;> rfl) (fun x y => cmpG R x.1 y.1) hcm.swo 68 #[] b 0 cp gs.attach.toArray w
      (enters_of Try.func68 (by kernel_rfl) rfl) (fun m os dk hdk x y => by
        obtain ⟨A1, c1, e1, r1, n1⟩ := hI x.1 x.2
        obtain ⟨A2, c2, e2, r2, n2⟩ := hI y.1 y.2
        obtain ⟨_, hk⟩ := own_sortWorld (enc := fun x : { g // g ∈ gs } => encG F R x.1) (k := 4) (fun _ => rfl) (List.length_attach) (ys := dk.toList) (by simpa using hdk) hrow m os
        rw [show dk.toList.toArray = dk from rfl] at hk
        have q1 := r1.keptFar hk (fun ad ha _ => ⟨by
          have h4 : ad.block < w.heap.size := by assumption
          exact h4, fun e => n1 _ _ rfl ha e⟩)
        have q2 := r2.keptFar hk (fun ad ha _ => ⟨by
          have h4 : ad.block < w.heap.size := by assumption
          exact h4, fun e => n2 _ _ rfl ha e⟩)
        have := group1_x A1 A2 x.1.length c1 y.1.length c2 w.heap.size w.heap.size x.1 y.1 (rkF R x.1) (rkF R y.1) (sortWorldK (fun x : { g // g ∈ gs } => encG F R x.1) 4 w b 0 m dk os) q1 q2 hk.size hk.size (hs x.1 x.2)
        rw [← e1, ← e2] at this
        exact this) (holdsK_own (enc := fun x : { g // g ∈ gs } => encG F R x.1) (k := 4) (fun _ => rfl) (List.length_attach) hrow) hb (by simpa using hn) (fun x y h1 h2 => hcm.total (fun x y e => Subtype.ext (cmpG_zero e)) h1 h2)
    rw [show renSGrp.f 6 = 67 from rfl] at hc
    refine Calls.mono (by simpa using hc) ?_
    rintro e w' ⟨he, m, os, rfl⟩
    have hms : (gs.attach.mergeSort fun x y => !(ltOf (fun x y : { g // g ∈ gs } => cmpG R x.1 y.1)) y x).map Subtype.val = sortG R gs := by
      have := List.map_mergeSort (f := Subtype.val) (l := gs.attach) (r := fun x y => !(ltOf (fun x y : { g // g ∈ gs } => cmpG R x.1 y.1)) y x) (s := fun x y => !(ltOf (cmpG R)) y x) (fun _ _ _ _ => rfl)
      rw [this, List.attach_map_subtype_val]
      rfl
    obtain ⟨h1, h2⟩ := own_sortWorld (enc := fun x : { g // g ∈ gs } => encG F R x.1) (k := 4) (fun _ => rfl) (List.length_attach) (ys := gs.attach.mergeSort fun x y => !(ltOf (fun x y : { g // g ∈ gs } => cmpG R x.1 y.1)) y x) (by rw [List.length_mergeSort, List.length_attach]) hrow m os
    rw [show ((gs.attach.mergeSort fun x y => !(ltOf (fun x y : { g // g ∈ gs } => cmpG R x.1 y.1)) y x).flatMap fun x => encG F R x.1) = (sortG R gs).flatMap (encG F R) from by rw [← hms, List.flatMap_map]] at h1
    exact ⟨he, h1, h2.mono (fun x hx => .inl ⟨_, rfl, hx.symm⟩)⟩
end

section
open Go Go.RowKit
/-- a row of ints of one's own -/
def IntsN (w : World) (l : List Int) (e : Ending) (w' : World) : Prop := ∃ A cap, e = .returned (.slice A l.length cap) ∧ w'.ownsRow w.heap.size 3 1 (.slice A l.length cap) l.length (ints l) ∧ Below w.heap.size w w'
theorem intsN_nats {w w' : World} {l : List Nat} {e : Ending} (h : NatsN w l e w') : IntsN w (l.map Int.ofNat) e w' := by
  obtain ⟨A, cap, rfl, ho, hb⟩ := h
  refine ⟨A, cap, by rw [List.length_map], ?_, hb⟩
  rw [List.length_map, nats_ofNat]
  exact ho
theorem clsG_any {b g c : Nat} {A : Option Addr} {u : List Nat} {w : World} (i : Int) (h : UfAt w b g u A c) (hg : Uf.Good u) (hu : u.length ≤ 1000) (hi : inU u i = true) : Calls Try.prog 15 #[.pointer (some ⟨b, 0, none⟩), .int .i64 i] w (IntsN w (clsI u i)) := by
  obtain ⟨k, rfl, h1, h2⟩ := inU_nat hi
  unfold clsI
  rw [if_pos hi, Int.toNat_natCast]
  exact (class_in b A c u k w h.rd h.lt.1 hg hu ⟨h1, h2⟩).mono fun _ _ h => intsN_nats h
theorem clsO_any {b g c : Nat} {A : Option Addr} {u : List Nat} {w : World} (i : Int) (h : UfAt w b g u A c) (hi : inU u i = false) : Calls Try.prog 15 #[.pointer (some ⟨b, 0, none⟩), .int .i64 i] w fun e w' => e = .returned (.slice none 0 0) ∧ Below w.heap.size w w' :=
  (class_out b A c u i w h.rd hi).mono fun _ _ ⟨he, hw⟩ => ⟨he, hw ▸ Below.refl _ _⟩
theorem clsI_pos {u : List Nat} {i : Int} : 0 < (clsI u i).length := List.length_pos_of_mem (mem_clsI.2 (.refl u i))
theorem clsI_le {u : List Nat} (i : Int) (hu : u.length ≤ 1000) : (clsI u i).length ≤ 1000 := by
  unfold clsI
  split
  · rw [List.length_map]
    unfold Uf.cls
    refine Nat.le_trans (List.length_filter_le _ _) ?_
    rw [List.length_range']
    exact hu
  · simp
theorem RowV.ofRel {T : List Nat} {w0 : World} {ρ : Nm} {rs : List Reg} {w : World} {g : Nat} {t : TypeId} {cur : List Value} (_ : Rel T w0 ρ rs w) (hb : Blk w g t cur.toArray) : RowV ρ rs w g t cur := RowV.start hb ρ rs
attribute [local irreducible] run goO goN ordGoN eqlOf eqlOper eqlOfO cellL leaveK someK nextK nextT nextOT nextOD loopBody loopRest loopK fillJ tmplOf tmplJ mergeT At AtO drawOk ordOf gateOf callC callO topOp topO idxOf appOf storeOf clearOf sliceOf calleeOf calleeO topQ idxQ newRowOf resL stepOp seek
set_option maxRecDepth 100000 in
set_option maxHeartbeats 4000000 in
theorem classG_any (q : GrP) (u : List Nat) (ls : List Lk) (i : Int) (w : World) (h : GrV q u ls w) (hi : GInv u ls) : Calls Try.prog 66 #[.pointer (some ⟨q.b, 0, none⟩), .int .i64 i] w (IntsN w (clsI u i)) := by
  have hu := hi.le
  have hgd := hi.good
  obtain ⟨ρ, e0, hR⟩ := h.open_ false [] (by simp)
  have hs := h.sta (ρ := ρ) (rs := [⟨(q.cells ls.length).map .v, false⟩]) (by kernel_rfl)
  refine sim_enter Try.func66 ρ [.ptr 0 0, LI i] [⟨(q.cells ls.length).map .v, false⟩] (by kernel_rfl) (by simp only [denL, LV.den, Nm.at_, e0]) ?_
  cases hI : inU u i with
  | true =>
    have hp := clsI_pos (u := u) (i := i)
    have hle := clsI_le i hu
    refine sim_run 18 [] (hR.cast (by kernel_rfl)) (by kernel_rfl) trivial (fun ρ100 w100 hm100 hR100 => ?_)
    have hs := hs.moved (hm100.castL (by kernel_rfl))
    refine sim_call 15 [.v (Value.pointer (some (Addr.mk q.pb 0 none))), LI i] (by kernel_rfl) ?_
    refine Calls.mono (clsG_any (i) (hs.is.uf) (hgd) (hu) (hI)) ?_
    rintro e101 w101 ⟨A3, c3, rfl, ho3, hb101⟩
    have hbs := (hR100).keeps.size
    have hown := Own.start (hR100) ho3
    have hR101 := (hR100).below hb101
    refine Back.of (.v (.slice A3 (clsI u i).length c3)) hR101 rfl ?_
    refine sim_run 8 [] (hR101.cast (by kernel_rfl)) (by kernel_rfl) trivial (fun ρ102 w102 hm102 hR102 => ?_)
    have hown := hown.moved (hm102.castL (by kernel_rfl))
    refine sim_know 16 (decide ((↑(clsI u i).length : Int) > 0)) true (by kernel_rfl) (decide_eq_true (by omega)) ?_
    refine sim_run 6 [] (hR102.cast (by kernel_rfl)) (by kernel_rfl) trivial (fun ρ103 w103 hm103 hR103 => ?_)
    have hown := hown.moved (hm103.castL (by kernel_rfl))
    refine sim_ret (.v (Value.slice A3 (clsI u i).length c3)) hR103 (by kernel_rfl) (by kernel_rfl) ?_
    
    exact ⟨A3, c3, rfl, own_base hown.own hbs, (by assumption : Rel _ _ _ _ _).toBelow⟩
  | false =>
    have hcl : clsI u i = [i] := by unfold clsI; rw [if_neg (by rw [hI]; simp)]
    rw [hcl]
    refine sim_run 18 [] (hR.cast (by kernel_rfl)) (by kernel_rfl) trivial (fun ρ200 w200 hm200 hR200 => ?_)
    have hs := hs.moved (hm200.castL (by kernel_rfl))
    refine sim_call 15 [.v (Value.pointer (some (Addr.mk q.pb 0 none))), LI i] (by kernel_rfl) ?_
    refine Calls.mono (clsO_any (i) (hs.is.uf) (hI)) ?_
    rintro e201 w201 ⟨rfl, hb201⟩
    have hR201 := (hR200).below hb201
    have hs := hs.below hb201
    refine Back.of (.v (.slice none 0 0)) hR201 rfl ?_
    refine sim_run 13 [] (hR201.cast (by kernel_rfl)) (by kernel_rfl) trivial (fun ρ202 w202 hm202 hR202 => ?_)
    have hs := hs.moved (hm202.castL (by kernel_rfl))
    
    have hsz := hR202.keeps.size
    refine sim_buildP (e := 3) (len := 1) (r := [LI i]) 1 (by kernel_rfl) (by kernel_rfl) hR202 (by kernel_rfl) (fun ρ5 w5 hm5 e5 hR5 hb5 => ?_)
    have hag := hR5.ag_ 2 (by kernel_rfl)
    have hrv := RowV.ofRel (cur := [Value.int .i64 i]) hR5 hb5
    refine sim_run 2 [] (hR5.cast (by kernel_rfl)) (by kernel_rfl) trivial (fun ρ500 w500 hm500 hR500 => ?_)
    have hag := hag.moved (hm500.castL (by kernel_rfl))
    have hrv := hrv.moved (hm500.castL (by kernel_rfl))
    refine sim_ret (.slc 1 0 1 1) hR500 (by kernel_rfl) (by kernel_rfl) ?_
    
    have hbk := hrv.full (by assumption : Rel _ _ _ _ _) hag (n := 1) (cells := [LI i]) (wr := true) (by kernel_rfl) e5 rfl
    have ho := own_full (size := 1) (n := 1) hbk hsz rfl (by unfold maxLen; omega)
    refine ⟨some ⟨w202.heap.size, 0, none⟩, 1, ?_, ho, (by assumption : Rel _ _ _ _ _).toBelow⟩
    have e6 := (hag.at_ 1 (by omega)).trans e5
    simp only [LV.den, Nm.at_, e6, Nat.add_zero]
    rfl
set_option maxRecDepth 100000 in
set_option maxHeartbeats 4000000 in
theorem classZ_any (i : Int) (w : World) : Calls Try.prog 66 #[.pointer none, .int .i64 i] w (IntsN w (clsI [] i)) := by
  refine sim_enter Try.func66 ρ0 [.v (.pointer none), LI i] [] (by kernel_rfl) rfl ?_
  have hR := Rel.start [] w ρ0
  have hcl : clsI [] i = [i] := by
    have hI : inU [] i = false := by
      cases h : inU [] i with
      | false => rfl
      | true => have := inU_iff.1 h; simp at this; omega
    unfold clsI
    rw [if_neg (by rw [hI]; simp)]
  rw [hcl]
  refine sim_run 15 [] (hR.cast (by kernel_rfl)) (by kernel_rfl) trivial (fun ρ300 w300 hm300 hR300 => ?_)
  
  have hsz := hR300.keeps.size
  refine sim_buildP (e := 3) (len := 1) (r := [LI i]) 0 (by kernel_rfl) (by kernel_rfl) hR300 (by kernel_rfl) (fun ρ5 w5 hm5 e5 hR5 hb5 => ?_)
  have hag := hR5.ag_ 1 (by kernel_rfl)
  have hrv := RowV.ofRel (cur := [Value.int .i64 i]) hR5 hb5
  refine sim_run 2 [] (hR5.cast (by kernel_rfl)) (by kernel_rfl) trivial (fun ρ600 w600 hm600 hR600 => ?_)
  have hag := hag.moved (hm600.castL (by kernel_rfl))
  have hrv := hrv.moved (hm600.castL (by kernel_rfl))
  refine sim_ret (.slc 0 0 1 1) hR600 (by kernel_rfl) (by kernel_rfl) ?_
  
  have hbk := hrv.full (by assumption : Rel _ _ _ _ _) hag (n := 0) (cells := [LI i]) (wr := true) (by kernel_rfl) e5 rfl
  have ho := own_full (size := 1) (n := 1) hbk hsz rfl (by unfold maxLen; omega)
  refine ⟨some ⟨w300.heap.size, 0, none⟩, 1, ?_, ho, (by assumption : Rel _ _ _ _ _).toBelow⟩
  have e6 := (hag.at_ 0 (by omega)).trans e5
  simp only [LV.den, Nm.at_, e6, Nat.add_zero]
  rfl
end

section
open Go Go.RowKit
/-- the blocks that lay there before, but for the one of those seen -/
def oldS (B gd : Nat) (x : Nat) : Prop := x < B ∧ x ≠ gd
def KeptD (gd : Nat) (w1 : World) : World → Prop := fun w => Kept (fun k => k = gd) w1 w
theorem KeptD.same {gd : Nat} {w1 : World} : ∀ (wa wb : World) (S' : Nat → Prop), KeptD gd w1 wa → (∀ x, oldS w1.heap.size gd x → x < wa.heap.size) → Kept S' wa wb → (∀ x, oldS w1.heap.size gd x → ¬ S' x) → KeptD gd w1 wb := fun _ _ _ h _ hk hn =>
  ⟨hk.os.trans h.os, hk.tape.trans h.tape, hk.output.trans h.output, Nat.le_trans h.size hk.size, fun k hl hne => by
    rw [hk.block k (Nat.lt_of_lt_of_le hl h.size) (hn k ⟨hl, hne⟩), h.block k hl hne]⟩
/-- the map of instructions, those seen, the class, and all that lay there -/
structure GX (w1 : World) (B2 gm gd : Nat) (m : List (Ent Int In)) (ck : Nat) (D : List (Ent Int Unit)) (cd : Nat) (Ac : Option Addr) (nc cc : Nat) (cl : List Int) (ρ : Nm) (rs : List Reg) (w : World) : Prop where
  hM : MpO encZ In.val ρ rs w (some gm) m ck
  hD : MpO encZ encU ρ rs w (some gd) D cd
  hc : Own ρ rs w w1.heap.size 3 1 (.slice Ac nc cc) nc (ints cl)
  hs : Sta (oldS w1.heap.size gd) (KeptD gd w1) ρ rs w
  le : B2 ≤ w.heap.size
  b12 : w1.heap.size ≤ B2
  gm1 : gm < w1.heap.size
  gd1 : gd < w1.heap.size
  ne : gm ≠ gd
  ac : ∀ a, Ac = some a → a.block < B2
section
variable {w1 : World} {B2 gm gd : Nat} {m : List (Ent Int In)} {ck : Nat} {D : List (Ent Int Unit)} {cd : Nat} {Ac : Option Addr} {nc cc gc : Nat} {cl : List Int} {ρ ρ' : Nm} {rs rs' : List Reg} {w w' : World}
theorem GX.moved (h : GX w1 B2 gm gd m ck D cd Ac nc cc cl ρ rs w) (hm : Moved ρ rs w ρ' rs' w') : GX w1 B2 gm gd m ck D cd Ac nc cc cl ρ' rs' w' := ⟨h.hM.moved hm, h.hD.moved hm, h.hc.moved hm, h.hs.moved hm, Nat.le_trans h.le hm.kept.size, h.b12, h.gm1, h.gd1, h.ne, h.ac⟩
theorem GX.below (h : GX w1 B2 gm gd m ck D cd Ac nc cc cl ρ rs w) (hb : Below w.heap.size w w') : GX w1 B2 gm gd m ck D cd Ac nc cc cl ρ rs w' := ⟨h.hM.below hb, h.hD.below hb, h.hc.below hb, h.hs.below hb, Nat.le_trans h.le hb.size, h.b12, h.gm1, h.gd1, h.ne, h.ac⟩
theorem GX.drew (h : GX w1 B2 gm gd m ck D cd Ac nc cc cl ρ rs w) : GX w1 B2 gm gd m ck D cd Ac nc cc cl ρ rs w.drew := ⟨h.hM.drew, h.hD.drew, h.hc.drew, h.hs.drew, h.le, h.b12, h.gm1, h.gd1, h.ne, h.ac⟩
theorem GX.castR (h : GX w1 B2 gm gd m ck D cd Ac nc cc cl ρ rs w) (e : rs = rs') : GX w1 B2 gm gd m ck D cd Ac nc cc cl ρ rs' w := e ▸ h
theorem GX.cut {N : Nat} (h : GX w1 B2 gm gd m ck D cd Ac nc cc cl ρ' rs' w) (hag : Ag N ρ ρ' rs') (hN : rs.length = N) (e0 : rs'.take N = rs) : GX w1 B2 gm gd m ck D cd Ac nc cc cl ρ rs w := ⟨h.hM.cut hag hN e0, h.hD.cut hag hN e0, h.hc.cut hag hN e0, h.hs.cut hag hN e0, h.le, h.b12, h.gm1, h.gd1, h.ne, h.ac⟩
/-- a row that lies above grows -/
theorem GX.grown (h : GX w1 B2 gm gd m ck D cd Ac nc cc cl ρ rs w) {b n s : Nat} {e : TypeId} {v : Value} {xs : List Value} (ho : w.ownsRow b e s v n xs) (hB : B2 ≤ b) (hg : w.grownBy w' v.ownBlock) : GX w1 B2 gm gd m ck D cd Ac nc cc cl ρ rs w' :=
  have hv : ∀ x, v.ownBlock = some x → B2 ≤ x := fun x hx => Nat.le_trans hB (own_ge ho hx)
  ⟨h.hM.grownO ho hg, h.hD.grownO ho hg, h.hc.grown hg (fun g hc e => by
    have h1 := hv g e
    cases Ac with
    | none => cases hc
    | some a =>
      have h2 := h.ac a rfl
      injection hc with hc
      omega), h.hs.grown hg (fun x hx e => by
    have h1 := hv x e
    have h2 := hx.1
    have h3 := h.b12
    omega), Nat.le_trans h.le hg.size, h.b12, h.gm1, h.gd1, h.ne, h.ac⟩
/- gx_far -/
theorem GX.farE (h : GX w1 B2 gm gd m ck D cd (some ⟨gc, 0, none⟩) nc cc cl ρ rs w) {b n s : Nat} {e : TypeId} {v : Value} {xs : List Value} (ho : w.ownsRow b e s v n xs) (hB : B2 ≤ b) {ρ2 : Nm} {j : Nat} (e1 : ρ2 1 = (gc, j)) : ∀ k ∈ [1], ∀ g, v.ownBlock = some g → (ρ2 k).1 ≠ g := fun k hk g hg e => by
  obtain rfl := List.mem_singleton.1 hk
  have h1 := own_ge ho hg
  have h2 : gc < B2 := h.ac _ rfl
  have h3 : gc = g := by rw [← e, e1]
  omega
/-- one more is seen -/
theorem GX.turn (h : GX w1 B2 gm gd m ck D cd Ac nc cc cl ρ rs w) (ht : TurnM gd w w') {D' : List (Ent Int Unit)} {cd' : Nat} (hD : MpO encZ encU ρ rs w' (some gd) D' cd') : GX w1 B2 gm gd m ck D' cd' Ac nc cc cl ρ rs w' :=
  ⟨h.hM.turnNe ht (fun e => by injection e with e; exact h.ne e), hD, h.hc.turnM ht, h.hs.turnM ht (fun hx => hx.2 rfl), Nat.le_trans h.le ht.kept.size, h.b12, h.gm1, h.gd1, h.ne, h.ac⟩
end
section
variable {P : Program} {Q : Exit → Act → World → Prop} {T : List Nat} {c : Cfg} {ρ : Nm} {w0 w : World}
theorem flat_ints (l : List Int) : (l.map fun z => [Value.int .i64 z]).flatten = ints l := by
  unfold ints
  induction l with
  | nil => rfl
  | cons a l ih => rw [List.map_cons, List.flatten_cons, ih]; rfl
theorem sim_seeZ {g n B cp : Nat} {e : TypeId} {pl : List Int} (z : Int) (k N : Nat) (hN : c.rs.length = N) (hk : pl[k]? = some z) (hown : Own ρ c.rs w B e 1 (.slice (some ⟨g, 0, none⟩) n cp) n (ints pl)) (hlt : k < n) (hR : Rel T w0 ρ c.rs w) (hu : (undR N c.rs && undL N c.tmps) = true)
    (next : ∀ ρ', Moved ρ c.rs w ρ' (c.rs ++ [⟨[LI z], false⟩]) w → ρ' N = (g, k) → Rel T w0 ρ' (c.rs ++ [⟨[LI z], false⟩]) w → At P Q ⟨c.k, c.tmps, c.rs ++ [⟨[LI z], false⟩]⟩ ρ' w) : At P Q c ρ w :=
  sim_seeO (xss := pl.map fun z => [Value.int .i64 z]) (sz := 1) [.int .i64 z] k N hN (by rw [List.getElem?_map, hk]; rfl) (by rw [flat_ints]; exact hown) (by intro y hy; obtain ⟨o, _, rfl⟩ := List.mem_map.1 hy; rfl) (by omega) hlt hR hu (fun ρ' hm e hR' => next ρ' hm (by rw [e]; congr 1; omega) hR')
end
theorem inst_ty : RowTy Try.prog 48 55 21 208 := RowTy.of Try.underlying48 (by kernel_rfl) (by kernel_rfl)
theorem own_intsS {ρ ρ' : Nm} {rs : List Reg} {w : World} {B n : Nat} {v : Value} {ids : List Int} {z : Int} (h : Own ρ rs w B 3 1 v n (ints ids ++ denL ρ' [LI z])) : Own ρ rs w B 3 1 v n (ints (ids ++ [z])) := by
  have e : ints (ids ++ [z]) = ints ids ++ denL ρ' [LI z] := by unfold ints; rw [List.map_append]; rfl
  rw [e]
  exact h
theorem own_instS {ρ ρ' : Nm} {rs : List Reg} {w : World} {B n : Nat} {v : Value} {yl : List In} {y : In} (h : Own ρ rs w B 55 21 v n (insts yl ++ denL ρ' (y.cells.map .v))) : Own ρ rs w B 55 21 v n (insts (yl ++ [y])) := by
  have e : insts (yl ++ [y]) = insts yl ++ denL ρ' (y.cells.map .v) := by rw [insts_append, denL_v]; simp [insts]
  rw [e]
  exact h
/-- the group under way -/
def xR (v : Value) : Reg := ⟨[.v v, LI 0, LI 0, LI 0], true⟩
end

section
open Go Go.RowKit
attribute [local irreducible] run goO goN ordGoN eqlOf eqlOper eqlOfO cellL leaveK someK nextK nextT nextOT nextOD loopBody loopRest loopK fillJ tmplOf tmplJ mergeT At AtO drawOk ordOf gateOf callC callO topOp topO idxOf appOf storeOf clearOf sliceOf calleeOf calleeO topQ idxQ newRowOf resL stepOp seek
set_option maxRecDepth 100000 in
set_option maxHeartbeats 4000000 in
theorem grp_in {Q : Exit → Act → World → Prop} {R : Ending → World → Prop} [hB : Body Try.prog Q Try.f48 R] {ρ : Nm} {w0 w1 w : World} {B2 gm gd ck cd nc cc j nx nl gc it : Nat} {m : List (Ent Int In)} {D : List (Ent Int Unit)} {cl ids : List Int} {yl : List In} {vx vl vo gp : Value} {z : Int} (hR : Rel [] w0 ρ [xR vx] w) (hX : GX w1 B2 gm gd m ck D cd (some ⟨gc, 0, none⟩) nc cc cl ρ [xR vx] w) (hx : Own ρ [xR vx] w B2 3 1 vx nx (ints ids)) (hl : Own ρ [xR vx] w B2 55 21 vl nl (insts yl)) (hz : cl[j]? = some z) (hj : j < nc) (hnc : nc ≤ 1000) (hnx : nx ≤ j) (hnl : nl ≤ j) (hw0 : w0.heap.size ≤ gd) (hwB : w0.heap.size ≤ B2) (d : Nat → Value)
    (hfin : ∀ (nx' nl' : Nat) (vx' vl' : Value) (c' : Cfg) (ρ' : Nm) (w' : World), c'.k = [] → mergeT (tmplJ Try.f48.ntmps 0 [(0, .v gp), (1, .v (.map (some gm))), (5, .v vo), (6, .v (.map (some gd))), (10, .ptr 0 0), (11, .v vl'), (18, .v (.pointer (some ⟨it, 0, none⟩))), (32, .v (.slice (some ⟨gc, 0, none⟩) nc cc)), (33, LI nc), (34, LI ((j : Int) + 1))]) c'.tmps = c'.tmps → (tmplJ Try.f48.ntmps 0 [(0, .v gp), (1, .v (.map (some gm))), (5, .v vo), (6, .v (.map (some gd))), (10, .ptr 0 0), (11, .v vl'), (18, .v (.pointer (some ⟨it, 0, none⟩))), (32, .v (.slice (some ⟨gc, 0, none⟩) nc cc)), (33, LI nc), (34, LI ((j : Int) + 1))]).length = c'.tmps.length → Ag 1 ρ ρ' c'.rs → Rel [] w0 ρ' c'.rs w' → c'.rs.take 1 = [xR vx'] → GX w1 B2 gm gd m ck (ins z () cd D) (clockAfter z D cd) (some ⟨gc, 0, none⟩) nc cc cl ρ' c'.rs w' → Own ρ' c'.rs w' B2 3 1 vx' nx' (ints (ids ++ if hasK z m = true then [z] else [])) → Own ρ' c'.rs w' B2 55 21 vl' nl' (insts (yl ++ (look z m).toList)) → nx' ≤ j + 1 → nl' ≤ j + 1 → At Try.prog Q c' ρ' w') :
    At Try.prog Q ⟨regK Try.f48 12, fillJ (tmplJ Try.f48.ntmps 0 [(0, .v gp), (1, .v (.map (some gm))), (5, .v vo), (6, .v (.map (some gd))), (10, .ptr 0 0), (11, .v vl), (18, .v (.pointer (some ⟨it, 0, none⟩))), (32, .v (.slice (some ⟨gc, 0, none⟩) nc cc)), (33, LI nc), (34, LI (j : Int))]) d 0, [xR vx]⟩ ρ w := by
  have hag := hR.ag_ 1 (by kernel_rfl)
  refine sim_seeZ z j 1 (by kernel_rfl) hz hX.hc hj hR (by kernel_rfl) (fun ρE hmE eE hRE => ?_)
  have hX := hX.moved hmE
  have hx := hx.moved hmE
  have hl := hl.moved hmE
  have hag := hag.moved hmE
  have hag2 := hRE.ag_ 2 (by kernel_rfl)
  cases hlk : look z m with
  | none =>
    have hh : hasK z m = false := by unfold hasK; rw [hlk]; rfl
    rw [hlk, if_neg (by rw [hh]; simp)] at hfin
    simp only [List.append_nil, Option.toList_none] at hfin
    refine sim_place (.v (.slice (some ⟨gc, 0, none⟩) nc cc)) nc 1 (j : Int) 1 0 (by kernel_rfl) (by omega) (by omega) rfl (by simp only [Nm.at_, eE, Nat.add_zero, Nat.zero_add, Int.toNat_natCast, Nat.mul_one]) ?_
    refine sim_run 8 [] (hRE.cast (by kernel_rfl)) (by kernel_rfl) trivial (fun ρ101 w101 hm101 hR101 => ?_)
    have hX := hX.moved (hm101.castL (by kernel_rfl))
    have hx := hx.moved (hm101.castL (by kernel_rfl))
    have hl := hl.moved (hm101.castL (by kernel_rfl))
    have hag := hag.moved (hm101.castL (by kernel_rfl))
    have hag2 := hag2.moved (hm101.castL (by kernel_rfl))
    refine sim_look (enc := encZ) (encV := In.val) (mx := .v (Value.map (some gm))) (kx := LI z) (ok := true) z (.tup [.v zeroIn.val, LB false]) (by kernel_rfl) mi_ty kt_int zero_in hX.hM rfl rfl (by rw [hlk, hh]; rfl) ?_
    refine sim_run 17 [] (hR101.cast (by kernel_rfl)) (by kernel_rfl) trivial (fun ρ103 w103 hm103 hR103 => ?_)
    have hX := hX.moved (hm103.castL (by kernel_rfl))
    have hx := hx.moved (hm103.castL (by kernel_rfl))
    have hl := hl.moved (hm103.castL (by kernel_rfl))
    have hag := hag.moved (hm103.castL (by kernel_rfl))
    have hag2 := hag2.moved (hm103.castL (by kernel_rfl))
    refine sim_upd (enc := encZ) (encV := encU) (mx := .v (Value.map (some gd))) (kx := LI z) (vx := .agg []) z () (by kernel_rfl) mis_ty kt_int hX.hD rfl rfl rfl (.inr hw0) hR103 (fun w104 ht104 hD2 hR104 => ?_)
    have hX := hX.turn ht104 hD2
    clear hD2
    have hx := hx.turnM ht104
    have hl := hl.turnM ht104
    refine sim_run 6 [⟨17, 0, LI (IntKind.i64.wrap ((↑j : Int) + 1)), LI ((↑j : Int) + 1)⟩] (hR104.cast (by kernel_rfl)) (by kernel_rfl) ⟨eqi (IntWalk.i64_in _ (by omega)), trivial⟩ (fun ρ105 w105 hm105 hR105 => ?_)
    have hag := hag.moved (hm105.castL (by kernel_rfl))
    have hag2 := hag2.moved (hm105.castL (by kernel_rfl))
    have hX := hX.moved (hm105.castL (by kernel_rfl))
    have hx := hx.moved (hm105.castL (by kernel_rfl))
    have hl := hl.moved (hm105.castL (by kernel_rfl))
    
    exact hfin nx nl vx vl _ _ _ (by kernel_rfl) (by kernel_rfl) (by kernel_rfl) hag (Rel.cast (by assumption) (by kernel_rfl)) (by kernel_rfl) (hX.castR (by kernel_rfl)) (hx.castR (by kernel_rfl)) (hl.castR (by kernel_rfl)) (by omega) (by omega)
  | some y =>
    have hh : hasK z m = true := by unfold hasK; rw [hlk]; rfl
    rw [hlk, if_pos hh] at hfin
    simp only [Option.toList_some] at hfin
    refine sim_place (.v (.slice (some ⟨gc, 0, none⟩) nc cc)) nc 1 (j : Int) 1 0 (by kernel_rfl) (by omega) (by omega) rfl (by simp only [Nm.at_, eE, Nat.add_zero, Nat.zero_add, Int.toNat_natCast, Nat.mul_one]) ?_
    refine sim_run 8 [] (hRE.cast (by kernel_rfl)) (by kernel_rfl) trivial (fun ρ201 w201 hm201 hR201 => ?_)
    have hX := hX.moved (hm201.castL (by kernel_rfl))
    have hx := hx.moved (hm201.castL (by kernel_rfl))
    have hl := hl.moved (hm201.castL (by kernel_rfl))
    have hag := hag.moved (hm201.castL (by kernel_rfl))
    have hag2 := hag2.moved (hm201.castL (by kernel_rfl))
    refine sim_look (enc := encZ) (encV := In.val) (mx := .v (Value.map (some gm))) (kx := LI z) (ok := true) z (.tup [.v y.val, LB true]) (by kernel_rfl) mi_ty kt_int zero_in hX.hM rfl rfl (by rw [hlk, hh]; rfl) ?_
    refine sim_run 12 [] (hR201.cast (by kernel_rfl)) (by kernel_rfl) trivial (fun ρ203 w203 hm203 hR203 => ?_)
    have hX := hX.moved (hm203.castL (by kernel_rfl))
    have hx := hx.moved (hm203.castL (by kernel_rfl))
    have hl := hl.moved (hm203.castL (by kernel_rfl))
    have hag := hag.moved (hm203.castL (by kernel_rfl))
    have hag2 := hag2.moved (hm203.castL (by kernel_rfl))
    refine sim_drawT (Tr.mk [(0, false), (1, false), (2, false), (5, false), (6, false)] (Ks.cons 3 (Tr.mk [] (Ks.cons 4 (Tr.mk [(9, false), (7, true), (8, true), (10, true), (11, false)] Ks.nil) (Ks.cons 7 (Tr.mk [(4, true), (9, false), (8, true), (10, true), (11, false)] Ks.nil) Ks.nil))) (Ks.cons 7 (Tr.mk [(3, true), (4, true), (9, false), (8, true), (10, true), (11, false)] Ks.nil) Ks.nil))) (some 10) (by kernel_rfl) (by kernel_rfl) hR203 (fun hR204 => ?_)
    have hX := hX.drew
    have hx := hx.drew
    have hl := hl.drew
    refine sim_ordN 5 [] hR204 (by kernel_rfl) trivial (fun ρ205 w205 hm205 hR205 => ?_)
    have hag := hag.moved (hm205.castL (by kernel_rfl))
    have hag2 := hag2.moved (hm205.castL (by kernel_rfl))
    have hX := hX.moved (hm205.castL (by kernel_rfl))
    have hx := hx.moved (hm205.castL (by kernel_rfl))
    have hl := hl.moved (hm205.castL (by kernel_rfl))
    refine sim_fork2 (by kernel_rfl) (by kernel_rfl) (by kernel_rfl) (by kernel_rfl) hR205 (fun hR206 => ?_) (fun hR206 => ?_)
    refine sim_ordN 1 [] hR206 (by kernel_rfl) trivial (fun ρ207 w207 hm207 hR207 => ?_)
    have hag := hag.moved (hm207.castL (by kernel_rfl))
    have hag2 := hag2.moved (hm207.castL (by kernel_rfl))
    have hX := hX.moved (hm207.castL (by kernel_rfl))
    have hx := hx.moved (hm207.castL (by kernel_rfl))
    have hl := hl.moved (hm207.castL (by kernel_rfl))
    refine sim_fork2 (by kernel_rfl) (by kernel_rfl) (by kernel_rfl) (by kernel_rfl) hR207 (fun hR208 => ?_) (fun hR208 => ?_)
    refine sim_ord_appendP 31 vx (.slc 3 0 1 1) (by kernel_rfl) hR208 int_ty hx 3 1 1 rfl [LI z] (by kernel_rfl) rfl (by kernel_rfl) (by unfold maxLen; omega) (by omega) hX.le (fun g' hg' => .inr (Nat.le_trans hwB (own_ge hx.own hg'))) [1] (by kernel_rfl) (hX.farE hx.own (Nat.le_refl _) ((hag2.at_ 1 (by omega)).trans eE)) (fun vxM wN209 hxN hgNvx haNvx hR209 => ?_)
    have hX := hX.grown hx.own (Nat.le_refl _) hgNvx
    have hl := hl.grown hgNvx (own_ne hl.own hx.own (by decide))
    clear hx
    have hx := hxN
    clear hxN
    obtain ⟨Ax, cx, hvx⟩ := own_row hx.own
    subst hvx
    refine sim_ordN 2 [] hR209 (by kernel_rfl) trivial (fun ρ210 w210 hm210 hR210 => ?_)
    have hag := hag.moved (hm210.castL (by kernel_rfl))
    have hag2 := hag2.moved (hm210.castL (by kernel_rfl))
    have hX := hX.moved (hm210.castL (by kernel_rfl))
    have hl := hl.moved (hm210.castL (by kernel_rfl))
    have hx := hx.moved (hm210.castL (by kernel_rfl))
    refine sim_ord_appendP 48 vl (.slc 4 0 1 1) (by kernel_rfl) hR210 inst_ty hl 4 1 1 rfl (y.cells.map .v) (by kernel_rfl) rfl (by kernel_rfl) (by unfold maxLen; omega) (by omega) hX.le (fun g' hg' => .inr (Nat.le_trans hwB (own_ge hl.own hg'))) [1] (by kernel_rfl) (hX.farE hl.own (Nat.le_refl _) ((hag2.at_ 1 (by omega)).trans eE)) (fun vlM wN214 hlN hgNvl haNvl hR214 => ?_)
    have hX := hX.grown hl.own (Nat.le_refl _) hgNvl
    have hx := hx.grown hgNvl (own_ne hx.own hl.own (by decide))
    clear hl
    have hl := hlN
    clear hlN
    refine sim_ordN 2 [] hR214 (by kernel_rfl) trivial (fun ρ215 w215 hm215 hR215 => ?_)
    have hag := hag.moved (hm215.castL (by kernel_rfl))
    have hag2 := hag2.moved (hm215.castL (by kernel_rfl))
    have hX := hX.moved (hm215.castL (by kernel_rfl))
    have hx := hx.moved (hm215.castL (by kernel_rfl))
    have hl := hl.moved (hm215.castL (by kernel_rfl))
    refine sim_fork0 (by kernel_rfl) (by kernel_rfl) hR215 (fun hR216 => ?_)
    refine sim_run 1 [] (hR216.cast (by kernel_rfl)) (by kernel_rfl) trivial (fun ρ217 w217 hm217 hR217 => ?_)
    have hag := hag.moved (hm217.castL (by kernel_rfl))
    have hag2 := hag2.moved (hm217.castL (by kernel_rfl))
    have hX := hX.moved (hm217.castL (by kernel_rfl))
    have hx := hx.moved (hm217.castL (by kernel_rfl))
    have hl := hl.moved (hm217.castL (by kernel_rfl))
    rotate_left
    refine sim_ordN 1 [] hR208 (by kernel_rfl) trivial (fun ρ219 w219 hm219 hR219 => ?_)
    have hag := hag.moved (hm219.castL (by kernel_rfl))
    have hag2 := hag2.moved (hm219.castL (by kernel_rfl))
    have hX := hX.moved (hm219.castL (by kernel_rfl))
    have hx := hx.moved (hm219.castL (by kernel_rfl))
    have hl := hl.moved (hm219.castL (by kernel_rfl))
    refine sim_ord_appendP 31 vx (.slc 3 0 1 1) (by kernel_rfl) hR219 int_ty hx 3 1 1 rfl [LI z] (by kernel_rfl) rfl (by kernel_rfl) (by unfold maxLen; omega) (by omega) hX.le (fun g' hg' => .inr (Nat.le_trans hwB (own_ge hx.own hg'))) [1] (by kernel_rfl) (hX.farE hx.own (Nat.le_refl _) ((hag2.at_ 1 (by omega)).trans eE)) (fun vxM wN220 hxN hgNvx haNvx hR220 => ?_)
    have hX := hX.grown hx.own (Nat.le_refl _) hgNvx
    have hl := hl.grown hgNvx (own_ne hl.own hx.own (by decide))
    clear hx
    have hx := hxN
    clear hxN
    obtain ⟨Ax, cx, hvx⟩ := own_row hx.own
    subst hvx
    refine sim_ordN 1 [] hR220 (by kernel_rfl) trivial (fun ρ221 w221 hm221 hR221 => ?_)
    have hag := hag.moved (hm221.castL (by kernel_rfl))
    have hag2 := hag2.moved (hm221.castL (by kernel_rfl))
    have hX := hX.moved (hm221.castL (by kernel_rfl))
    have hl := hl.moved (hm221.castL (by kernel_rfl))
    have hx := hx.moved (hm221.castL (by kernel_rfl))
    refine sim_ord_appendP 48 vl (.slc 4 0 1 1) (by kernel_rfl) hR221 inst_ty hl 4 1 1 rfl (y.cells.map .v) (by kernel_rfl) rfl (by kernel_rfl) (by unfold maxLen; omega) (by omega) hX.le (fun g' hg' => .inr (Nat.le_trans hwB (own_ge hl.own hg'))) [1] (by kernel_rfl) (hX.farE hl.own (Nat.le_refl _) ((hag2.at_ 1 (by omega)).trans eE)) (fun vlM wN225 hlN hgNvl haNvl hR225 => ?_)
    have hX := hX.grown hl.own (Nat.le_refl _) hgNvl
    have hx := hx.grown hgNvl (own_ne hx.own hl.own (by decide))
    clear hl
    have hl := hlN
    clear hlN
    refine sim_ordN 2 [] hR225 (by kernel_rfl) trivial (fun ρ226 w226 hm226 hR226 => ?_)
    have hag := hag.moved (hm226.castL (by kernel_rfl))
    have hag2 := hag2.moved (hm226.castL (by kernel_rfl))
    have hX := hX.moved (hm226.castL (by kernel_rfl))
    have hx := hx.moved (hm226.castL (by kernel_rfl))
    have hl := hl.moved (hm226.castL (by kernel_rfl))
    refine sim_fork0 (by kernel_rfl) (by kernel_rfl) hR226 (fun hR227 => ?_)
    refine sim_run 1 [] (hR227.cast (by kernel_rfl)) (by kernel_rfl) trivial (fun ρ228 w228 hm228 hR228 => ?_)
    have hag := hag.moved (hm228.castL (by kernel_rfl))
    have hag2 := hag2.moved (hm228.castL (by kernel_rfl))
    have hX := hX.moved (hm228.castL (by kernel_rfl))
    have hx := hx.moved (hm228.castL (by kernel_rfl))
    have hl := hl.moved (hm228.castL (by kernel_rfl))
    rotate_left
    refine sim_ordN 2 [] hR206 (by kernel_rfl) trivial (fun ρ230 w230 hm230 hR230 => ?_)
    have hag := hag.moved (hm230.castL (by kernel_rfl))
    have hag2 := hag2.moved (hm230.castL (by kernel_rfl))
    have hX := hX.moved (hm230.castL (by kernel_rfl))
    have hx := hx.moved (hm230.castL (by kernel_rfl))
    have hl := hl.moved (hm230.castL (by kernel_rfl))
    refine sim_ord_appendP 31 vx (.slc 4 0 1 1) (by kernel_rfl) hR230 int_ty hx 4 1 1 rfl [LI z] (by kernel_rfl) rfl (by kernel_rfl) (by unfold maxLen; omega) (by omega) hX.le (fun g' hg' => .inr (Nat.le_trans hwB (own_ge hx.own hg'))) [1] (by kernel_rfl) (hX.farE hx.own (Nat.le_refl _) ((hag2.at_ 1 (by omega)).trans eE)) (fun vxM wN232 hxN hgNvx haNvx hR232 => ?_)
    have hX := hX.grown hx.own (Nat.le_refl _) hgNvx
    have hl := hl.grown hgNvx (own_ne hl.own hx.own (by decide))
    clear hx
    have hx := hxN
    clear hxN
    obtain ⟨Ax, cx, hvx⟩ := own_row hx.own
    subst hvx
    refine sim_ordN 1 [] hR232 (by kernel_rfl) trivial (fun ρ233 w233 hm233 hR233 => ?_)
    have hag := hag.moved (hm233.castL (by kernel_rfl))
    have hag2 := hag2.moved (hm233.castL (by kernel_rfl))
    have hX := hX.moved (hm233.castL (by kernel_rfl))
    have hl := hl.moved (hm233.castL (by kernel_rfl))
    have hx := hx.moved (hm233.castL (by kernel_rfl))
    refine sim_ord_appendP 48 vl (.slc 3 0 1 1) (by kernel_rfl) hR233 inst_ty hl 3 1 1 rfl (y.cells.map .v) (by kernel_rfl) rfl (by kernel_rfl) (by unfold maxLen; omega) (by omega) hX.le (fun g' hg' => .inr (Nat.le_trans hwB (own_ge hl.own hg'))) [1] (by kernel_rfl) (hX.farE hl.own (Nat.le_refl _) ((hag2.at_ 1 (by omega)).trans eE)) (fun vlM wN236 hlN hgNvl haNvl hR236 => ?_)
    have hX := hX.grown hl.own (Nat.le_refl _) hgNvl
    have hx := hx.grown hgNvl (own_ne hx.own hl.own (by decide))
    clear hl
    have hl := hlN
    clear hlN
    refine sim_ordN 2 [] hR236 (by kernel_rfl) trivial (fun ρ237 w237 hm237 hR237 => ?_)
    have hag := hag.moved (hm237.castL (by kernel_rfl))
    have hag2 := hag2.moved (hm237.castL (by kernel_rfl))
    have hX := hX.moved (hm237.castL (by kernel_rfl))
    have hx := hx.moved (hm237.castL (by kernel_rfl))
    have hl := hl.moved (hm237.castL (by kernel_rfl))
    refine sim_fork0 (by kernel_rfl) (by kernel_rfl) hR237 (fun hR238 => ?_)
    refine sim_run 1 [] (hR238.cast (by kernel_rfl)) (by kernel_rfl) trivial (fun ρ239 w239 hm239 hR239 => ?_)
    have hag := hag.moved (hm239.castL (by kernel_rfl))
    have hag2 := hag2.moved (hm239.castL (by kernel_rfl))
    have hX := hX.moved (hm239.castL (by kernel_rfl))
    have hx := hx.moved (hm239.castL (by kernel_rfl))
    have hl := hl.moved (hm239.castL (by kernel_rfl))
    rotate_left
    
    · refine sim_run 3 [] hR217 (by kernel_rfl) trivial (fun ρ300 w300 hm300 hR300 => ?_)
      have hag := hag.moved hm300
      have hag2 := hag2.moved hm300
      have hX := hX.moved hm300
      have hx := hx.moved hm300
      have hl := hl.moved hm300
      refine sim_upd (enc := encZ) (encV := encU) (mx := .v (Value.map (some gd))) (kx := LI z) (vx := .agg []) z () (by kernel_rfl) mis_ty kt_int hX.hD rfl rfl rfl (.inr hw0) hR300 (fun w301 ht301 hD2 hR301 => ?_)
      have hX := hX.turn ht301 hD2
      clear hD2
      have hx := hx.turnM ht301
      have hl := hl.turnM ht301
      refine sim_run 6 [⟨17, 0, LI (IntKind.i64.wrap ((↑j : Int) + 1)), LI ((↑j : Int) + 1)⟩] (hR301.cast (by kernel_rfl)) (by kernel_rfl) ⟨eqi (IntWalk.i64_in _ (by omega)), trivial⟩ (fun ρ302 w302 hm302 hR302 => ?_)
      have hag := hag.moved (hm302.castL (by kernel_rfl))
      have hag2 := hag2.moved (hm302.castL (by kernel_rfl))
      have hX := hX.moved (hm302.castL (by kernel_rfl))
      have hx := hx.moved (hm302.castL (by kernel_rfl))
      have hl := hl.moved (hm302.castL (by kernel_rfl))
      
      exact hfin (nx + 1) (nl + 1) (.slice Ax (nx + 1) cx) vlM _ _ _ (by kernel_rfl) (by kernel_rfl) (by kernel_rfl) hag (Rel.cast (by assumption) (by kernel_rfl)) (by kernel_rfl) (hX.castR (by kernel_rfl)) (own_intsS (hx.castR (by kernel_rfl))) (own_instS (hl.castR (by kernel_rfl))) (by omega) (by omega)
    · refine sim_run 3 [] hR228 (by kernel_rfl) trivial (fun ρ400 w400 hm400 hR400 => ?_)
      have hag := hag.moved hm400
      have hag2 := hag2.moved hm400
      have hX := hX.moved hm400
      have hx := hx.moved hm400
      have hl := hl.moved hm400
      refine sim_upd (enc := encZ) (encV := encU) (mx := .v (Value.map (some gd))) (kx := LI z) (vx := .agg []) z () (by kernel_rfl) mis_ty kt_int hX.hD rfl rfl rfl (.inr hw0) hR400 (fun w401 ht401 hD2 hR401 => ?_)
      have hX := hX.turn ht401 hD2
      clear hD2
      have hx := hx.turnM ht401
      have hl := hl.turnM ht401
      refine sim_run 6 [⟨17, 0, LI (IntKind.i64.wrap ((↑j : Int) + 1)), LI ((↑j : Int) + 1)⟩] (hR401.cast (by kernel_rfl)) (by kernel_rfl) ⟨eqi (IntWalk.i64_in _ (by omega)), trivial⟩ (fun ρ402 w402 hm402 hR402 => ?_)
      have hag := hag.moved (hm402.castL (by kernel_rfl))
      have hag2 := hag2.moved (hm402.castL (by kernel_rfl))
      have hX := hX.moved (hm402.castL (by kernel_rfl))
      have hx := hx.moved (hm402.castL (by kernel_rfl))
      have hl := hl.moved (hm402.castL (by kernel_rfl))
      
      exact hfin (nx + 1) (nl + 1) (.slice Ax (nx + 1) cx) vlM _ _ _ (by kernel_rfl) (by kernel_rfl) (by kernel_rfl) hag (Rel.cast (by assumption) (by kernel_rfl)) (by kernel_rfl) (hX.castR (by kernel_rfl)) (own_intsS (hx.castR (by kernel_rfl))) (own_instS (hl.castR (by kernel_rfl))) (by omega) (by omega)
    · refine sim_run 3 [] hR239 (by kernel_rfl) trivial (fun ρ500 w500 hm500 hR500 => ?_)
      have hag := hag.moved hm500
      have hag2 := hag2.moved hm500
      have hX := hX.moved hm500
      have hx := hx.moved hm500
      have hl := hl.moved hm500
      refine sim_upd (enc := encZ) (encV := encU) (mx := .v (Value.map (some gd))) (kx := LI z) (vx := .agg []) z () (by kernel_rfl) mis_ty kt_int hX.hD rfl rfl rfl (.inr hw0) hR500 (fun w501 ht501 hD2 hR501 => ?_)
      have hX := hX.turn ht501 hD2
      clear hD2
      have hx := hx.turnM ht501
      have hl := hl.turnM ht501
      refine sim_run 6 [⟨17, 0, LI (IntKind.i64.wrap ((↑j : Int) + 1)), LI ((↑j : Int) + 1)⟩] (hR501.cast (by kernel_rfl)) (by kernel_rfl) ⟨eqi (IntWalk.i64_in _ (by omega)), trivial⟩ (fun ρ502 w502 hm502 hR502 => ?_)
      have hag := hag.moved (hm502.castL (by kernel_rfl))
      have hag2 := hag2.moved (hm502.castL (by kernel_rfl))
      have hX := hX.moved (hm502.castL (by kernel_rfl))
      have hx := hx.moved (hm502.castL (by kernel_rfl))
      have hl := hl.moved (hm502.castL (by kernel_rfl))
      
      exact hfin (nx + 1) (nl + 1) (.slice Ax (nx + 1) cx) vlM _ _ _ (by kernel_rfl) (by kernel_rfl) (by kernel_rfl) hag (Rel.cast (by assumption) (by kernel_rfl)) (by kernel_rfl) (hX.castR (by kernel_rfl)) (own_intsS (hx.castR (by kernel_rfl))) (own_instS (hl.castR (by kernel_rfl))) (by omega) (by omega)
end

section
open Go Go.RowKit
section
variable {w1 : World} {B2 gm gd : Nat} {m : List (Ent Int In)} {ck : Nat} {D : List (Ent Int Unit)} {cd : Nat} {Ac : Option Addr} {nc cc : Nat} {cl : List Int} {ρ : Nm} {rs : List Reg} {w : World}
theorem GX.at_ (h : GX w1 B2 gm gd m ck D cd Ac nc cc cl ρ rs w) {x : Nat} (hx : x < w1.heap.size) (hne : x ≠ gd) : w.heap[x]? = w1.heap[x]? ∧ ¬ wrS ρ rs x := ⟨h.hs.is.block x hx hne, h.hs.far x ⟨hx, hne⟩⟩
theorem GX.own (h : GX w1 B2 gm gd m ck D cd Ac nc cc cl ρ rs w) {D0 : List (Ent Int Unit)} {cd0 : Nat} (hD : Mp encZ encU w1 gd D0 cd0) {base s n : Nat} {e : TypeId} {v : Value} {xs : List Value} (ho : w1.ownsRow base e s v n xs) : Own ρ rs w base e s v n xs :=
  have hne : ∀ g, v.ownBlock = some g → g ≠ gd := fun g hg e => own_not_map ho hD.blk (by rw [hg, e])
  ⟨own_kept ho h.hs.is hne, fun g hg => h.hs.far g ⟨own_lt ho hg, hne g hg⟩⟩
theorem GX.it (h : GX w1 B2 gm gd m ck D cd Ac nc cc cl ρ rs w) {D0 : List (Ent Int Unit)} {cd0 : Nat} (hD : Mp encZ encU w1 gd D0 cd0) {ρ0 : Nm} {rs0 : List Reg} {it : Nat} {mo : Option Nat} {l dn : List (Ent Int In)} {k : Nat} (hI : ItO ρ0 rs0 w1 it mo l k dn) : ItO ρ rs w it mo l k dn := by
  obtain ⟨s, h1, h2⟩ := hI.is
  have hne : it ≠ gd := fun e => by
    subst e
    have := hD.blk
    rw [h1] at this
    cases this
  obtain ⟨h3, h4⟩ := h.at_ hI.size hne
  exact ⟨⟨s, h3.trans h1, h2⟩, h4, hI.sub, hI.nodup⟩
theorem GX.sta (h : GX w1 B2 gm gd m ck D cd Ac nc cc cl ρ rs w) {S : Nat → Prop} {V : World → Prop} {ρ0 : Nm} {rs0 : List Reg} (hs : Sta S V ρ0 rs0 w1) (hgd : ¬ S gd) : Sta S V ρ rs w :=
  (hs.kept h.hs.is (fun _ hx e => hgd (e ▸ hx))).over (fun x hx => h.hs.far x ⟨hs.lt x hx, fun e => hgd (e ▸ hx)⟩)
theorem GX.rws (h : GX w1 B2 gm gd m ck D cd Ac nc cc cl ρ rs w) {D0 : List (Ent Int Unit)} {cd0 : Nat} (hD : Mp encZ encU w1 gd D0 cd0) {ρ0 : Nm} {rs0 : List Reg} {B : Nat} {E : List (Ent (List Int) Value)} (hE : Rws ρ0 rs0 w1 B E id) : Rws ρ rs w B E id := hE.map fun _ _ ho => h.own hD ho.own
/-- the beginning -/
theorem GX.start {T : List Nat} {w0 w2 : World} (hR : Rel T w0 ρ rs w2) (hb : Below w1.heap.size w1 w2) (hw : ∀ x, wrS ρ rs x → w1.heap.size ≤ x) (hM : Mp encZ In.val w1 gm m ck) (hD : Mp encZ encU w1 gd D cd) (hne : gm ≠ gd) (hbw : Below w2.heap.size w2 w) (ho : w.ownsRow w2.heap.size 3 1 (.slice Ac nc cc) nc (ints cl)) : GX w1 w.heap.size gm gd m ck D cd Ac nc cc cl ρ rs w := by
  have hb2 : Below w1.heap.size w1 w := hb.trans (below_mono hbw hb.size)
  have h1 : gm < w1.heap.size := hM.size
  have h2 : gd < w1.heap.size := hD.size
  refine ⟨⟨fun g hg => ⟨by injection hg with hg; subst hg; exact hM.same (hb2.block _ h1), fun hx => ?_⟩, fun h => by cases h⟩, ⟨fun g hg => ⟨by injection hg with hg; subst hg; exact hD.same (hb2.block _ h2), fun hx => ?_⟩, fun h => by cases h⟩, ⟨own_base ho hb.size, fun g hg hx => ?_⟩, ⟨⟨hb2.os, hb2.tape, hb2.output, hb2.size, fun k hk _ => hb2.block k hk⟩, fun x hx hx2 => ?_, fun _ hx => Nat.lt_of_lt_of_le hx.1 hb2.size, KeptD.same⟩, Nat.le_refl _, hb2.size, h1, h2, hne, fun a ha => ?_⟩
  · injection hg with hg
    subst hg
    have := hw _ hx
    omega
  · injection hg with hg
    subst hg
    have := hw _ hx
    omega
  · have h3 := own_ge ho hg
    have h4 := hR.wr_lt hx
    omega
  · have := hw _ hx2
    have := hx.1
    omega
  · subst ha
    rcases ho.2 with ⟨e, _⟩ | ⟨g, cap, cur, e, _, hh, _⟩
    · cases e
    · injection e with e
      injection e with e
      subst e
      exact own_lt ho rfl
end
/-- the cells of groups -/
def gCells (F : Int → Option In) (E : List (Ent (List Int) Value)) : List Value := E.flatMap fun e => e.val :: (rkF F e.key).cells
theorem gCells_snoc (F : Int → Option In) (E : List (Ent (List Int) Value)) (e : Ent (List Int) Value) : gCells F (E ++ [e]) = gCells F E ++ (e.val :: (rkF F e.key).cells) := by
  unfold gCells
  rw [List.flatMap_append]
  simp
theorem rws_snoc {ρ : Nm} {rs : List Reg} {w : World} {B : Nat} {E : List (Ent (List Int) Value)} {ids : List Int} {v : Value} (h : Rws ρ rs w B E id) (ho : Own ρ rs w B 3 1 v ids.length (ints ids)) (hne : ∀ e ∈ E, ∀ g, e.val.ownBlock = some g → v.ownBlock ≠ some g) : Rws ρ rs w B (E ++ [⟨ids, v, 0⟩]) id := by
  refine ⟨fun e he => ?_, List.pairwise_append.2 ⟨h.apart, List.pairwise_singleton _ _, fun a ha b hb => ?_⟩⟩
  · rcases List.mem_append.1 he with he | he
    · exact h.own e he
    · obtain rfl := List.mem_singleton.1 he
      exact ho
  · obtain rfl := List.mem_singleton.1 hb
    exact hne a ha
theorem own_nums {ρ : Nm} {rs : List Reg} {w : World} {B n : Nat} {v : Value} {ids : List Int} (h : Own ρ rs w B 3 1 v n (ints ids)) : ids.length = n := by
  have := h.own.1
  unfold ints at this
  rw [List.length_map] at this
  omega
theorem rkF_of {F : Int → Option In} {ids : List Int} {x : In} {l : List In} (h : ids.filterMap F = x :: l) : rkF F ids = ofM x l := by unfold rkF; rw [h]
theorem filterMap_filter (F : Int → Option In) : ∀ l : List Int, (l.filter fun z => (F z).isSome).filterMap F = l.filterMap F
  | [] => rfl
  | z :: l => by
    cases h : F z with
    | none => simp [h, filterMap_filter F l]
    | some y => simp [h, filterMap_filter F l]
theorem gids_some {u : List Nat} {F : Int → Option In} {i : Int} (h : (F i).isSome = true) : ∃ x l, (gidsM u F i).filterMap F = x :: l := by
  obtain ⟨x, hx⟩ := Option.isSome_iff_exists.1 h
  have hm : x ∈ (gidsM u F i).filterMap F := List.mem_filterMap.2 ⟨i, mem_gids.2 ⟨.refl u i, h⟩, hx⟩
  cases hc : (gidsM u F i).filterMap F with
  | nil => rw [hc] at hm; exact (List.not_mem_nil hm).elim
  | cons a b => exact ⟨a, b, rfl⟩
theorem grp_ty : RowTy Try.prog 81 86 4 48 := RowTy.of Try.underlying81 (by kernel_rfl) (by kernel_rfl)
end

section
open Go Go.RowKit
theorem own_cap {w : World} {b n c s : Nat} {e : TypeId} {A : Option Addr} {xs : List Value} (h : w.ownsRow b e s (.slice A n c) n xs) : n ≤ c := by
  rcases h.2 with ⟨e, h0⟩ | ⟨g, cap, cur, e, _, _, h1, _⟩
  · omega
  · injection e with _ _ e
    omega
theorem own_grp {ρ ρ' : Nm} {rs : List Reg} {w : World} {B : Nat} {v vx : Value} {F : Int → Option In} {E : List (Ent (List Int) Value)} {ids : List Int} {y : In} {yl : List In} (hrk : rkF F ids = ofM y yl) (h : Own ρ rs w B 86 4 v (E.length + 1) (gCells F E ++ denL ρ' [.v vx, LI (ofM y yl).prio, LI (ofM y yl).day, LI (ofM y yl).id])) : Own ρ rs w B 86 4 v (E ++ [Ent.mk ids vx 0]).length (gCells F (E ++ [Ent.mk ids vx 0])) := by
  rw [List.length_append, gCells_snoc]
  show Own _ _ _ _ _ _ _ (E.length + 1) (gCells F E ++ (vx :: (rkF F ids).cells))
  rw [hrk]
  exact h
attribute [local irreducible] run goO goN ordGoN eqlOf eqlOper eqlOfO cellL leaveK someK nextK nextT nextOT nextOD loopBody loopRest loopK fillJ tmplOf tmplJ mergeT At AtO drawOk ordOf gateOf callC callO topOp topO idxOf appOf storeOf clearOf sliceOf calleeOf calleeO topQ idxQ newRowOf resL stepOp seek
set_option maxRecDepth 100000 in
set_option maxHeartbeats 4000000 in
theorem grp_end {Q : Exit → Act → World → Prop} {R : Ending → World → Prop} [hB : Body Try.prog Q Try.f48 R] {ρ : Nm} {w0 w : World} {Bo B2 gm gd ck cd nl it : Nat} {m dn : List (Ent Int In)} {D : List (Ent Int Unit)} {ids : List Int} {y : In} {yl : List In} {vx vl vo gp : Value} {F : Int → Option In} {E : List (Ent (List Int) Value)} {S : Nat → Prop} {V : World → Prop} (hR : Rel [] w0 ρ [xR vx] w) (hM : MpO encZ In.val ρ [xR vx] w (some gm) m ck) (hD : MpO encZ encU ρ [xR vx] w (some gd) D cd) (hI : ItO ρ [xR vx] w it (some gm) m ck dn) (hE : Rws ρ [xR vx] w Bo E id) (hvo : Own ρ [xR vx] w Bo 86 4 vo E.length (gCells F E)) (hs : Sta S V ρ [xR vx] w) (hx : Own ρ [xR vx] w B2 3 1 vx ids.length (ints ids)) (hl : Own ρ [xR vx] w B2 55 21 vl nl (insts (y :: yl))) (hrk : rkF F ids = ofM y yl) (hnl : nl ≤ 1000) (hEl : E.length ≤ 100000) (hBo : w0.heap.size ≤ Bo) (hB2 : Bo ≤ B2) (hBw : B2 ≤ w.heap.size) (hSo : ∀ x, S x → x < Bo) (hEB : ∀ e ∈ E, ∀ g, e.val.ownBlock = some g → g < B2) (d : Nat → Value)
    (hfin : ∀ (vo' : Value) (c' : Cfg) (ρ' : Nm) (w' : World), c'.k = [] → mergeT (tmplJ Try.f48.ntmps 0 [(0, .v gp), (1, .v (.map (some gm))), (5, .v vo'), (6, .v (.map (some gd))), (18, .v (.pointer (some ⟨it, 0, none⟩)))]) c'.tmps = c'.tmps → (tmplJ Try.f48.ntmps 0 [(0, .v gp), (1, .v (.map (some gm))), (5, .v vo'), (6, .v (.map (some gd))), (18, .v (.pointer (some ⟨it, 0, none⟩)))]).length = c'.tmps.length → Rel [] w0 ρ' c'.rs w' → MpO encZ In.val ρ' c'.rs w' (some gm) m ck → MpO encZ encU ρ' c'.rs w' (some gd) D cd → ItO ρ' c'.rs w' it (some gm) m ck dn → Rws ρ' c'.rs w' Bo (E ++ [Ent.mk ids vx 0]) id → Own ρ' c'.rs w' Bo 86 4 vo' (E ++ [Ent.mk ids vx 0]).length (gCells F (E ++ [Ent.mk ids vx 0])) → Sta S V ρ' c'.rs w' → At Try.prog Q c' ρ' w') :
    At Try.prog Q ⟨regK Try.f48 18, fillJ (tmplJ Try.f48.ntmps 0 [(0, .v gp), (1, .v (.map (some gm))), (5, .v vo), (6, .v (.map (some gd))), (10, .ptr 0 0), (11, .v vl), (18, .v (.pointer (some ⟨it, 0, none⟩)))]) d 0, [xR vx]⟩ ρ w := by
  have hag := hR.ag_ 1 (by kernel_rfl)
  obtain ⟨Al, cpl, hvl⟩ := own_row hl.own
  subst hvl
  obtain ⟨Ax, cpx, hvx⟩ := own_row hx.own
  subst hvx
  have hcp := own_cap hl.own
  refine sim_run 1 [] (hR.cast (by kernel_rfl)) (by kernel_rfl) trivial (fun ρ100 w100 hm100 hR100 => ?_)
  have hM := hM.moved (hm100.castL (by kernel_rfl))
  have hD := hD.moved (hm100.castL (by kernel_rfl))
  have hI := hI.moved (hm100.castL (by kernel_rfl))
  have hE := hE.moved (hm100.castL (by kernel_rfl))
  have hvo := hvo.moved (hm100.castL (by kernel_rfl))
  have hs := hs.moved (hm100.castL (by kernel_rfl))
  have hx := hx.moved (hm100.castL (by kernel_rfl))
  have hag := hag.moved (hm100.castL (by kernel_rfl))
  have hl := hl.moved (hm100.castL (by kernel_rfl))
  
  refine sim_call 25 [.v (.slice Al nl cpl)] (by kernel_rfl) ?_
  refine (of_any Al nl cpl w100.heap.size y yl _ (Reads.of_own hl.own) (Nat.le_refl _) hcp (by omega)).mono ?_
  rintro e w2 ⟨rfl, hb2⟩
  have hR2 := hR100.below hb2
  have hM := hM.below hb2
  have hD := hD.below hb2
  have hI := hI.below hb2
  have hE := hE.below hb2
  have hvo := hvo.below hb2
  have hs := hs.below hb2
  have hx := hx.below hb2
  refine Back.of (.agg [LI (ofM y yl).prio, LI (ofM y yl).day, LI (ofM y yl).id]) hR2 rfl ?_
  refine sim_run 7 [] (hR2.cast (by kernel_rfl)) (by kernel_rfl) trivial (fun ρ300 w300 hm300 hR300 => ?_)
  have hag := hag.moved (hm300.castL (by kernel_rfl))
  have hM := hM.moved (hm300.castL (by kernel_rfl))
  have hD := hD.moved (hm300.castL (by kernel_rfl))
  have hI := hI.moved (hm300.castL (by kernel_rfl))
  have hE := hE.moved (hm300.castL (by kernel_rfl))
  have hvo := hvo.moved (hm300.castL (by kernel_rfl))
  have hs := hs.moved (hm300.castL (by kernel_rfl))
  have hx := hx.moved (hm300.castL (by kernel_rfl))
  
  have z1 := hm100.kept.size
  have z2 := hb2.size
  have z3 := hm300.kept.size
  have hBw3 : Bo ≤ w300.heap.size := by omega
  clear z1 z2 z3
  refine sim_appendO 81 vo (.slc 1 0 1 1) (by kernel_rfl) hR300 grp_ty hvo 1 1 1 rfl [.v (.slice Ax ids.length cpx), LI (ofM y yl).prio, LI (ofM y yl).day, LI (ofM y yl).id] (by kernel_rfl) rfl (by kernel_rfl) (by unfold maxLen; omega) (by omega) hBw3 (fun g' hg' => .inr (Nat.le_trans hBo (own_ge hvo.own hg'))) [] (by kernel_rfl) (fun k0 hk0 => by simp at hk0) (fun vo' w4 hvo' hgr hR4 => ?_)
  have hM := hM.grownO hvo.own hgr
  have hD := hD.grownO hvo.own hgr
  have hI := hI.grownO hvo.own hgr
  have hE := hE.grownO hvo.own (by decide) hgr
  have hs := hs.grown hgr (fun x hx e => by
    have h1 := own_ge hvo.own e
    have h2 := hSo x hx
    omega)
  have hx := hx.grown hgr (own_ne hx.own hvo.own (by decide))
  have hvo := own_grp hrk hvo'
  clear hvo'
  have hE := rws_snoc hE ⟨own_base hx.own hB2, hx.far⟩ (fun e he g hg h2 => by
    have h1 := hEB e he g hg
    have h3 := own_ge hx.own h2
    omega)
  clear hx
  refine sim_run 3 [] (hR4.cast (by kernel_rfl)) (by kernel_rfl) trivial (fun ρ500 w500 hm500 hR500 => ?_)
  have hag := hag.moved (hm500.castL (by kernel_rfl))
  have hM := hM.moved (hm500.castL (by kernel_rfl))
  have hD := hD.moved (hm500.castL (by kernel_rfl))
  have hI := hI.moved (hm500.castL (by kernel_rfl))
  have hs := hs.moved (hm500.castL (by kernel_rfl))
  have hvo := hvo.moved (hm500.castL (by kernel_rfl))
  have hE := hE.moved (hm500.castL (by kernel_rfl))
  
  exact hfin vo' _ _ _ (by kernel_rfl) (by kernel_rfl) (by kernel_rfl) (Rel.cast (by assumption) (by kernel_rfl)) (hM.castR (by kernel_rfl)) (hD.castR (by kernel_rfl)) (hI.castR (by kernel_rfl)) (hE.castR (by kernel_rfl)) (hvo.castR (by kernel_rfl)) (hs.castR (by kernel_rfl))
end

section
open Go Go.RowKit
theorem take_snocZ {l : List Int} {j : Nat} {z : Int} (h : l[j]? = some z) : l.take (j + 1) = l.take j ++ [z] := by rw [List.take_add_one, h]; rfl
def inF (F : Int → Option In) (l : List Int) : List Int := l.filter fun z => (F z).isSome
theorem inF_snoc {F : Int → Option In} {l : List Int} {j : Nat} {z : Int} (h : l[j]? = some z) {b : Bool} (hb : (F z).isSome = b) : inF F (l.take (j + 1)) = inF F (l.take j) ++ if b = true then [z] else [] := by
  unfold inF
  rw [take_snocZ h, List.filter_append]
  congr 1
  rw [List.filter_cons, hb]
  cases b <;> rfl
theorem mapF_snoc {F : Int → Option In} {l : List Int} {j : Nat} {z : Int} (h : l[j]? = some z) : (l.take (j + 1)).filterMap F = (l.take j).filterMap F ++ (F z).toList := by
  rw [take_snocZ h, List.filterMap_append]
  congr 1
theorem seen_snoc {D0 D : List (Ent Int Unit)} {l : List Int} {j cd : Nat} {z : Int} (h : l[j]? = some z) (hs : ∀ q, hasK q D = (hasK q D0 || (l.take j).contains q)) : ∀ q, hasK q (ins z () cd D) = (hasK q D0 || (l.take (j + 1)).contains q) := fun q => by
  rw [hasK_ins, hs, take_snocZ h, List.contains_append]
  have : ([z] : List Int).contains q = decide (q = z) := by
    by_cases e : q = z
    · simp [e]
    · simp [e]
  rw [this]
  cases hasK q D0 <;> cases (l.take j).contains q <;> cases decide (q = z) <;> rfl
attribute [local irreducible] run goO goN ordGoN eqlOf eqlOper eqlOfO cellL leaveK someK nextK nextT nextOT nextOD loopBody loopRest loopK fillJ tmplOf tmplJ mergeT At AtO drawOk ordOf gateOf callC callO topOp topO idxOf appOf storeOf clearOf sliceOf calleeOf calleeO topQ idxQ newRowOf resL stepOp seek
set_option maxRecDepth 100000 in
set_option maxHeartbeats 4000000 in
theorem grp_mid {Q : Exit → Act → World → Prop} {R : Ending → World → Prop} [hB : Body Try.prog Q Try.f48 R] {ρ : Nm} {w0 w1 : World} {Bo gm gd ck cd it : Nat} {m dn : List (Ent Int In)} {D : List (Ent Int Unit)} {u : List Nat} {l : List In} {id0 : Int} {vo gp : Value} {E : List (Ent (List Int) Value)} {S : Nat → Prop} {V : World → Prop} (hR : Rel [] w0 ρ [] w1) (hM : MpO encZ In.val ρ [] w1 (some gm) m ck) (hD : MpO encZ encU ρ [] w1 (some gd) D cd) (hI : ItO ρ [] w1 it (some gm) m ck dn) (hE : Rws ρ [] w1 Bo E id) (hvo : Own ρ [] w1 Bo 86 4 vo E.length (gCells (firstM l) E)) (hs : Sta S V ρ [] w1) (hcls : ∀ w', V w' → Calls Try.prog 66 #[gp, .int .i64 id0] w' (IntsN w' (clsI u id0))) (hm : ∀ z, look z m = firstM l z) (hid : (firstM l id0).isSome = true) (hu : u.length ≤ 1000) (hne : gm ≠ gd) (hEl : E.length ≤ 100000) (hBo : w0.heap.size ≤ Bo) (hBo1 : Bo ≤ w1.heap.size) (hSo : ∀ x, S x → x < Bo) (hgdo : w0.heap.size ≤ gd) (hSgd : ¬ S gd) (d : Nat → Value)
    (hfin : ∀ (D' : List (Ent Int Unit)) (cd' : Nat) (vx vo' : Value) (c' : Cfg) (ρ' : Nm) (w' : World), c'.k = [] → mergeT (tmplJ Try.f48.ntmps 0 [(0, .v gp), (1, .v (.map (some gm))), (5, .v vo'), (6, .v (.map (some gd))), (18, .v (.pointer (some ⟨it, 0, none⟩)))]) c'.tmps = c'.tmps → (tmplJ Try.f48.ntmps 0 [(0, .v gp), (1, .v (.map (some gm))), (5, .v vo'), (6, .v (.map (some gd))), (18, .v (.pointer (some ⟨it, 0, none⟩)))]).length = c'.tmps.length → Rel [] w0 ρ' c'.rs w' → MpO encZ In.val ρ' c'.rs w' (some gm) m ck → MpO encZ encU ρ' c'.rs w' (some gd) D' cd' → (∀ z, hasK z D' = (hasK z D || (clsI u id0).contains z)) → ItO ρ' c'.rs w' it (some gm) m ck dn → Rws ρ' c'.rs w' Bo (E ++ [Ent.mk (gidsM u (firstM l) id0) vx 0]) id → Own ρ' c'.rs w' Bo 86 4 vo' (E ++ [Ent.mk (gidsM u (firstM l) id0) vx 0]).length (gCells (firstM l) (E ++ [Ent.mk (gidsM u (firstM l) id0) vx 0])) → Sta S V ρ' c'.rs w' → At Try.prog Q c' ρ' w') :
    At Try.prog Q ⟨regK Try.f48 8, fillJ (tmplJ Try.f48.ntmps 0 [(0, .v gp), (1, .v (.map (some gm))), (5, .v vo), (6, .v (.map (some gd))), (7, LI id0), (18, .v (.pointer (some ⟨it, 0, none⟩)))]) d 0, []⟩ ρ w1 := by
  have hMp := (hM.is _ rfl).1
  have hDp := (hD.is _ rfl).1
  have hs0 := Lib.hid hs
  have hEB : ∀ e ∈ E, ∀ g, e.val.ownBlock = some g → g < w1.heap.size := fun e he g hg => own_lt (hE.own e he).own hg
  have hE0 := Lib.hid hE
  have hI0 := Lib.hid hI
  have hvo0 := Lib.hid hvo
  refine sim_run 11 [] (hR.cast (by kernel_rfl)) (by kernel_rfl) trivial (fun ρ100 w100 hm100 hR100 => ?_)
  have hM := hM.moved (hm100.castL (by kernel_rfl))
  have hD := hD.moved (hm100.castL (by kernel_rfl))
  have hI := hI.moved (hm100.castL (by kernel_rfl))
  have hE := hE.moved (hm100.castL (by kernel_rfl))
  have hvo := hvo.moved (hm100.castL (by kernel_rfl))
  have hs := hs.moved (hm100.castL (by kernel_rfl))
  
  have hbw : Below w1.heap.size w1 w100 := ⟨hm100.kept.os, hm100.kept.tape, hm100.kept.output, hm100.kept.size, fun k hk => hm100.kept.block k hk (fun h => noW0 h)⟩
  refine sim_call 66 [.v gp, LI id0] (by kernel_rfl) ?_
  refine (hcls _ hs.is).mono ?_
  rintro e w3 ⟨Ac, cc, rfl, ho, hb3⟩
  have hR3 := hR100.below hb3
  have hX := GX.start hR100 hbw (fun x hx => (hm100.wrs x hx).elim (fun h => (noW0 h).elim) id) hMp hDp hne hb3 ho
  have hp := clsI_pos (u := u) (i := id0)
  have hle := clsI_le id0 hu
  obtain ⟨gc, rfl⟩ : ∃ gc, Ac = some ⟨gc, 0, none⟩ := by
    rcases ho.2 with ⟨_, h0⟩ | ⟨g, cap, cur, e, _⟩
    · omega
    · injection e with e
      exact ⟨g, e⟩
  clear hM hD hI hE hvo hs
  refine Back.of (.v (.slice (some ⟨gc, 0, none⟩) (clsI u id0).length cc)) hR3 rfl ?_
  refine sim_run 4 [] (hR3.cast (by kernel_rfl)) (by kernel_rfl) trivial (fun ρ200 w200 hm200 hR200 => ?_)
  have hX := hX.moved (hm200.castL (by kernel_rfl))
  
  have hsz3 := hb3.size
  have hB2 : w1.heap.size ≤ w3.heap.size := Nat.le_trans hbw.size hsz3
  refine sim_loop (ι := Nat × (List (Ent Int Unit) × Nat) × (Value × Nat) × (Value × Nat)) (T := []) (w0 := w0) (0, (D, cd), (.slice none 0 0, 0), (.slice none 0 0, 0)) [0, 1, 5, 6, 10, 18, 32, 33] (fun s => [(11, .v s.2.2.2.1), (34, LI s.1)]) (fun s => [xR s.2.2.1.1]) (fun s w2 => s.1 ≤ (clsI u id0).length ∧ GX w1 w3.heap.size gm gd m ck s.2.1.1 s.2.1.2 (some ⟨gc, 0, none⟩) (clsI u id0).length cc (clsI u id0) ρ200 [xR s.2.2.1.1] w2 ∧ Own ρ200 [xR s.2.2.1.1] w2 w3.heap.size 3 1 s.2.2.1.1 s.2.2.1.2 (ints (inF (firstM l) ((clsI u id0).take s.1))) ∧ Own ρ200 [xR s.2.2.1.1] w2 w3.heap.size 55 21 s.2.2.2.1 s.2.2.2.2 (insts (((clsI u id0).take s.1).filterMap (firstM l))) ∧ (∀ q, hasK q s.2.1.1 = (hasK q D || ((clsI u id0).take s.1).contains q)) ∧ s.2.2.1.2 ≤ s.1 ∧ s.2.2.2.2 ≤ s.1) (fun s => (clsI u id0).length - s.1) (by kernel_rfl) (by kernel_rfl) ((by assumption : Rel _ _ _ _ _).cast (by kernel_rfl)) ⟨Nat.zero_le _, hX.castR (by kernel_rfl), ⟨World.ownsRow_nil _ _ _ _, fun g hg => by cases hg⟩, ⟨World.ownsRow_nil _ _ _ _, fun g hg => by cases hg⟩, fun q => by simp, Nat.le_refl _, Nat.le_refl _⟩ ?_
  iterate 8 (try clear hX)
  iterate 8 (try clear hag)
  rintro ⟨j, ⟨D1, cd1⟩, ⟨vx, nx⟩, ⟨vl, nl⟩⟩ d2 w2 hR2 ⟨hj, hX, hx, hl, hsn, hnx, hnl⟩
  dsimp only at hj hX hx hl hsn hnx hnl
  have hag := hR2.ag_ 1 (by kernel_rfl)
  by_cases hlt : j < (clsI u id0).length
  · obtain ⟨z, hz⟩ : ∃ z, (clsI u id0)[j]? = some z := ⟨_, List.getElem?_eq_getElem hlt⟩
    refine sim_run 5 [] (hR2.cast (by kernel_rfl)) (by kernel_rfl) trivial (fun ρ300 w300 hm300 hR300 => ?_)
    have hX := hX.moved (hm300.castL (by kernel_rfl))
    have hx := hx.moved (hm300.castL (by kernel_rfl))
    have hl := hl.moved (hm300.castL (by kernel_rfl))
    have hag := hag.moved (hm300.castL (by kernel_rfl))
    refine sim_know 35 (decide ((↑(j, (D1, cd1), (vx, nx), vl, nl).fst : Int) < (↑(clsI u id0).length : Int))) true (by kernel_rfl) (decide_eq_true (by omega)) ?_
    refine sim_run 6 [] (hR300.cast (by kernel_rfl)) (by kernel_rfl) trivial (fun ρ301 w301 hm301 hR301 => ?_)
    have hX := hX.moved (hm301.castL (by kernel_rfl))
    have hx := hx.moved (hm301.castL (by kernel_rfl))
    have hl := hl.moved (hm301.castL (by kernel_rfl))
    have hag := hag.moved (hm301.castL (by kernel_rfl))
    
    refine sim_to (regK Try.f48 12) (tmplJ Try.f48.ntmps 0 [(0, .v gp), (1, .v (.map (some gm))), (5, .v vo), (6, .v (.map (some gd))), (10, .ptr 0 0), (11, .v vl), (18, .v (.pointer (some ⟨it, 0, none⟩))), (32, .v (.slice (some ⟨gc, 0, none⟩) (clsI u id0).length cc)), (33, LI (clsI u id0).length), (34, LI (j : Int))]) [xR vx] (by kernel_rfl) (by kernel_rfl) (by kernel_rfl) (fun d3 => ?_)
    refine grp_in (nl := nl) ((by assumption : Rel _ _ _ _ _).cast (by kernel_rfl)) (hX.castR (by kernel_rfl)) (hx.castR (by kernel_rfl)) (hl.castR (by kernel_rfl)) hz hlt hle hnx hnl hgdo (Nat.le_trans (Nat.le_trans hBo hBo1) hB2) d3 (fun nx' nl' vx' vl' c' ρ' w' q1 q2 q3 q4 q5 q6 q7 q8 q9 q10 q11 => ?_)
    have q12 : nx' ≤ j + 1 := q10
    have q13 : nl' ≤ j + 1 := q11
    have hagN : Ag 1 ρ200 ρ' c'.rs := ⟨hag.ag.tr q4.ag, q4.le⟩
    have hb : (firstM l z).isSome = hasK z m := by unfold hasK; rw [hm]
    rw [← inF_snoc hz hb] at q8
    rw [hm z, ← mapF_snoc hz] at q9
    exact sim_again (j + 1, (ins z () cd1 D1, clockAfter z D1 cd1), (vx', nx'), (vl', nl')) q1 (by show (clsI u id0).length - (j + 1) < (clsI u id0).length - j; omega) ((congrArg (mergeT · c'.tmps) (by kernel_rfl)).trans q2) ((congrArg List.length (by kernel_rfl)).trans q3) (by kernel_rfl) hagN.ag q5 q6 (by kernel_rfl) ⟨hlt, q7.cut hagN rfl q6, q8.cut hagN rfl q6, q9.cut hagN rfl q6, seen_snoc hz hsn, q12, q13⟩
  · rw [List.take_of_length_le (by omega)] at hx hl hsn
    have hg : inF (firstM l) (clsI u id0) = gidsM u (firstM l) id0 := rfl
    have hff : (clsI u id0).filterMap (firstM l) = (gidsM u (firstM l) id0).filterMap (firstM l) := (filterMap_filter _ _).symm
    obtain ⟨y, yl, hy⟩ := gids_some (u := u) (F := firstM l) hid
    rw [hg] at hx
    rw [hff, hy] at hl
    have hnum := own_nums hx
    subst hnum
    refine sim_run 5 [] (hR2.cast (by kernel_rfl)) (by kernel_rfl) trivial (fun ρ400 w400 hm400 hR400 => ?_)
    have hX := hX.moved (hm400.castL (by kernel_rfl))
    have hl := hl.moved (hm400.castL (by kernel_rfl))
    have hx := hx.moved (hm400.castL (by kernel_rfl))
    have hag := hag.moved (hm400.castL (by kernel_rfl))
    refine sim_know 35 (decide ((↑(j, (D1, cd1), (vx, (gidsM u (firstM l) id0).length), vl, nl).fst : Int) < (↑(clsI u id0).length : Int))) false (by kernel_rfl) (decide_eq_false (by omega)) ?_
    refine sim_run 1 [] (hR400.cast (by kernel_rfl)) (by kernel_rfl) trivial (fun ρ401 w401 hm401 hR401 => ?_)
    have hX := hX.moved (hm401.castL (by kernel_rfl))
    have hl := hl.moved (hm401.castL (by kernel_rfl))
    have hx := hx.moved (hm401.castL (by kernel_rfl))
    have hag := hag.moved (hm401.castL (by kernel_rfl))
    refine sim_leave (by kernel_rfl) ?_
    refine sim_run 2 [] (hR401.cast (by kernel_rfl)) (by kernel_rfl) trivial (fun ρ402 w402 hm402 hR402 => ?_)
    have hX := hX.moved (hm402.castL (by kernel_rfl))
    have hl := hl.moved (hm402.castL (by kernel_rfl))
    have hx := hx.moved (hm402.castL (by kernel_rfl))
    have hag := hag.moved (hm402.castL (by kernel_rfl))
    
    refine sim_to (regK Try.f48 18) (tmplJ Try.f48.ntmps 0 [(0, .v gp), (1, .v (.map (some gm))), (5, .v vo), (6, .v (.map (some gd))), (10, .ptr 0 0), (11, .v vl), (18, .v (.pointer (some ⟨it, 0, none⟩)))]) [xR vx] (by kernel_rfl) (by kernel_rfl) (by kernel_rfl) (fun d3 => ?_)
    have hX := hX.castR (rs' := [xR vx]) (by kernel_rfl)
    exact grp_end (B2 := w3.heap.size) ((by assumption : Rel _ _ _ _ _).cast (by kernel_rfl)) hX.hM hX.hD (hX.it hDp hI0.out) (hX.rws hDp hE0.out) (hX.own hDp hvo0.out.own) (hX.sta hs0.out hSgd) (hx.castR (by kernel_rfl)) (hl.castR (by kernel_rfl)) (rkF_of hy) (by omega) hEl hBo (Nat.le_trans hBo1 hB2) hX.le hSo (fun e he g hg => Nat.lt_of_lt_of_le (hEB e he g hg) hB2) d3 (fun vo' c' ρ' w' q1 q2 q3 q4 q5 q6 q7 q8 q9 q10 => hfin D1 cd1 vx vo' c' ρ' w' q1 q2 q3 q4 q5 q6 hsn q7 q8 q9 q10)
end

section
open Go Go.RowKit
theorem seen_old {u : List Nat} {ks : List Int} {i z : Int} (h : ks.any (fun d => (clsI u d).contains i) = true) : ((ks ++ [i]).any fun d => (clsI u d).contains z) = ks.any fun d => (clsI u d).contains z := by
  rw [List.any_append, Bool.eq_iff_iff, Bool.or_eq_true]
  constructor
  · rintro (h1 | h1)
    · exact h1
    · obtain ⟨d, hd, hs⟩ := any_cls.1 h
      obtain ⟨q, hq, hs2⟩ := any_cls.1 h1
      obtain rfl := List.mem_singleton.1 hq
      exact any_cls.2 ⟨d, hd, hs.trans hs2⟩
  · exact .inl
theorem seen_new (u : List Nat) (ks : List Int) (i z : Int) : ((ks ++ [i]).any fun d => (clsI u d).contains z) = (ks.any (fun d => (clsI u d).contains z) || (clsI u i).contains z) := by
  rw [List.any_append]
  simp
theorem grps_old {u : List Nat} {F : Int → Option In} {ks : List Int} {i : Int} (h : ks.any (fun d => (clsI u d).contains i) = true) : grpsM u F (ks ++ [i]) = grpsM u F ks := by
  unfold grpsM
  rw [reps_snoc]
  unfold stepRep
  rw [reps_any, if_pos h]
theorem grps_new {u : List Nat} {F : Int → Option In} {ks : List Int} {i : Int} (h : ks.any (fun d => (clsI u d).contains i) = false) : grpsM u F (ks ++ [i]) = grpsM u F ks ++ [gidsM u F i] := by
  unfold grpsM
  rw [reps_snoc]
  unfold stepRep
  rw [reps_any, if_neg (by rw [h]; simp), List.map_append]
  rfl
theorem reps_len (u : List Nat) : ∀ (ks acc : List Int), (ks.foldl (stepRep u) acc).length ≤ acc.length + ks.length
  | [], _ => Nat.le_refl _
  | k :: ks, acc => by
    rw [List.foldl_cons]
    refine Nat.le_trans (reps_len u ks _) ?_
    have : (stepRep u acc k).length ≤ acc.length + 1 := by
      unfold stepRep
      split
      · omega
      · simp
    simp only [List.length_cons]
    omega
theorem grps_len (u : List Nat) (F : Int → Option In) (ks : List Int) : (grpsM u F ks).length ≤ ks.length := by
  unfold grpsM repsM
  rw [List.length_map]
  have := reps_len u ks []
  simpa using this
theorem inM_key {w : World} {g : Nat} {m : List (Ent Int In)} {ck : Nat} {l : List In} (h : InM w g m ck l) {e : Ent Int In} (he : e ∈ m) : (firstM l e.key).isSome = true := by
  rw [← h.2]
  exact hasK_iff.2 (List.mem_map.2 ⟨e, he, rfl⟩)
theorem inM_len {w : World} {g : Nat} {m : List (Ent Int In)} {ck : Nat} {l : List In} (h : InM w g m ck l) : m.length ≤ l.length := by
  have h1 := List.Nodup.length_le_of_subset (nodup_keys h.1.fine.keys) (l₂ := l.map (·.id)) (fun z hz => by
    obtain ⟨e, he, rfl⟩ := List.mem_map.1 hz
    obtain ⟨x, hx, e2⟩ := firstM_has.1 (inM_key h he)
    exact List.mem_map.2 ⟨x, hx, e2⟩)
  simpa using h1
/-- where each group's Ids lie -/
def atG (E : List (Ent (List Int) Value)) (g : List Int) : Value := (look g E).getD nilRow
theorem atG_of {E : List (Ent (List Int) Value)} (hk : (E.map (·.key)).Nodup) {e : Ent (List Int) Value} (he : e ∈ E) : atG E e.key = e.val := by
  unfold atG
  have : hasK e.key E = true := hasK_iff.2 (List.mem_map.2 ⟨e, he, rfl⟩)
  obtain ⟨v, hv⟩ := Option.isSome_iff_exists.1 this
  obtain ⟨e2, he2, h1, h2⟩ := look_mem hv
  rw [hv, Option.getD_some, ← h2]
  have := pw_ne (fun a b h => fun h2 => h h2.symm) (List.pairwise_map.1 hk) (a := e2) (b := e) he2 he
  by_cases e3 : e2 = e
  · rw [e3]
  · exact absurd h1 (this e3)
theorem gCells_enc {F : Int → Option In} {E : List (Ent (List Int) Value)} (hk : (E.map (·.key)).Nodup) : gCells F E = (E.map (·.key)).flatMap (encG (atG E) F) := by
  unfold gCells
  rw [List.flatMap_map, List.flatMap_def, List.flatMap_def]
  congr 1
  refine List.map_congr_left fun e he => ?_
  unfold encG
  rw [atG_of hk he]
/-- groups, and where their Ids lie -/
def GrpN (w : World) (u : List Nat) (l : List In) (e : Ending) (w' : World) : Prop :=
  ∃ A cap Fv, e = .returned (.slice A (clsM u l).length cap) ∧ w'.ownsRow w.heap.size 86 4 (.slice A (clsM u l).length cap) (clsM u l).length ((clsM u l).flatMap (encG Fv (firstM l))) ∧ (∀ g ∈ clsM u l, w'.ownsRow w.heap.size 3 1 (Fv g) g.length (ints g)) ∧ (∀ a ∈ clsM u l, ∀ b ∈ clsM u l, a ≠ b → ∀ g, (Fv a).ownBlock = some g → (Fv b).ownBlock ≠ some g) ∧ Below w.heap.size w w'
attribute [local irreducible] run goO goN ordGoN eqlOf eqlOper eqlOfO cellL leaveK someK nextK nextT nextOT nextOD loopBody loopRest loopK fillJ tmplOf tmplJ mergeT At AtO drawOk ordOf gateOf callC callO topOp topO idxOf appOf storeOf clearOf sliceOf calleeOf calleeO topQ idxQ newRowOf resL stepOp seek
set_option maxRecDepth 100000 in
set_option maxHeartbeats 4000000 in
theorem groups_any (gp : Value) (u : List Nat) (l : List In) (gm : Nat) (m : List (Ent Int In)) (ck : Nat) (S : Nat → Prop) (V : World → Prop) (w : World) (hM : InM w gm m ck l) (hs : Sta S V ρ0 [] w) (hcls : ∀ (w' : World) (i : Int), V w' → Calls Try.prog 66 #[gp, .int .i64 i] w' (IntsN w' (clsI u i))) (hu : u.length ≤ 1000) (hl : l.length ≤ 1000) : Calls Try.prog 48 #[gp, .map (some gm)] w (GrpN w u l) := by
  have hml := inM_len hM
  have hkey := fun (e : Ent Int In) (he : e ∈ m) => inM_key hM he
  have hmz := hM.2
  have hM := mpo_in hM.1 (ρ := ρ0) (rs := []) (by kernel_rfl)
  have hSw := hs.lt
  refine sim_enter Try.func48 ρ0 [.v gp, .v (.map (some gm))] [] (by kernel_rfl) rfl ?_
  have hR := Rel.start [] w ρ0
  refine sim_run 10 [] (hR.cast (by kernel_rfl)) (by kernel_rfl) trivial (fun ρ100 w100 hm100 hR100 => ?_)
  have hs := hs.moved (hm100.castL (by kernel_rfl))
  have hM := hM.moved (hm100.castL (by kernel_rfl))
  refine sim_make encZ encU (t := 93) (by kernel_rfl) hR100 (fun w101 gd egd hb101 hD hR101 => ?_)
  have hgmd := (hM.is _ rfl).1.size
  have hs := hs.below hb101
  have hM := hM.below hb101
  refine sim_run 6 [] (hR101.cast (by kernel_rfl)) (by kernel_rfl) trivial (fun ρ102 w102 hm102 hR102 => ?_)
  have hD := hD.moved (hm102.castL (by kernel_rfl))
  have hs := hs.moved (hm102.castL (by kernel_rfl))
  have hM := hM.moved (hm102.castL (by kernel_rfl))
  refine sim_range (enc := encZ) (encV := In.val) (mx := .v (Value.map (some gm))) (by kernel_rfl) mi_ty hM rfl hR102 (fun w103 it eit hb103 hI hR103 => ?_)
  have hit : w.heap.size ≤ it := by rw [eit]; exact (hR102).keeps.size
  have hD := hD.below hb103
  have hs := hs.below hb103
  have hM := hM.below hb103
  refine sim_run 2 [] (hR103.cast (by kernel_rfl)) (by kernel_rfl) trivial (fun ρ104 w104 hm104 hR104 => ?_)
  have hI := hI.moved (hm104.castL (by kernel_rfl))
  have hD := hD.moved (hm104.castL (by kernel_rfl))
  have hs := hs.moved (hm104.castL (by kernel_rfl))
  have hM := hM.moved (hm104.castL (by kernel_rfl))
  
  have hgd : w.heap.size ≤ gd := by rw [egd]; exact hm100.kept.size
  have hne : gm ≠ gd := by omega
  have hSgd : ¬ S gd := fun h => by have := hSw gd h; omega
  refine sim_loop (ι := List (Ent Int In) × (List (Ent Int Unit) × Nat) × (Value × List (Ent (List Int) Value))) (T := []) (w0 := w) ([], ([], 0), (.slice none 0 0, [])) [0, 1, 6, 18] (fun s => [(5, .v s.2.2.1)]) (fun _ => []) (fun s w2 => s.1.length ≤ m.length ∧ MpO encZ In.val ρ104 [] w2 (some gm) m ck ∧ MpO encZ encU ρ104 [] w2 (some gd) s.2.1.1 s.2.1.2 ∧ ItO ρ104 [] w2 it (some gm) m ck s.1 ∧ Rws ρ104 [] w2 w.heap.size s.2.2.2 id ∧ Own ρ104 [] w2 w.heap.size 86 4 s.2.2.1 s.2.2.2.length (gCells (firstM l) s.2.2.2) ∧ Sta S V ρ104 [] w2 ∧ (∀ z, hasK z s.2.1.1 = (s.1.map (·.key)).any fun d => (clsI u d).contains z) ∧ s.2.2.2.map (·.key) = grpsM u (firstM l) (s.1.map (·.key))) (fun s => m.length - s.1.length) (by kernel_rfl) (by kernel_rfl) ((by assumption : Rel _ _ _ _ _).cast (by kernel_rfl)) ⟨Nat.zero_le _, hM.castR (by kernel_rfl), hD.castR (by kernel_rfl), hI.castR (by kernel_rfl), Rws.nil, ⟨World.ownsRow_nil _ _ _ _, fun g hg => by cases hg⟩, hs.castR (by kernel_rfl), fun _ => rfl, rfl⟩ ?_
  iterate 8 (try clear hM)
  iterate 8 (try clear hD)
  iterate 8 (try clear hI)
  iterate 8 (try clear hs)
  rintro ⟨dn, ⟨D, cd⟩, ⟨vo, E⟩⟩ d2 w2 hR2 ⟨hdn, hM, hD, hI, hE, hvo, hs, hsn, hEk⟩
  dsimp only at hdn hM hD hI hE hvo hs hsn hEk
  have hag := hR2.ag_ 0 (by kernel_rfl)
  have hEl : E.length ≤ dn.length := by
    have h1 := grps_len u (firstM l) (dn.map (·.key))
    rw [← hEk, List.length_map, List.length_map] at h1
    exact h1
  refine sim_run 2 [] (hR2.cast (by kernel_rfl)) (by kernel_rfl) trivial (fun ρ200 w200 hm200 hR200 => ?_)
  have hM := hM.moved (hm200.castL (by kernel_rfl))
  have hD := hD.moved (hm200.castL (by kernel_rfl))
  have hI := hI.moved (hm200.castL (by kernel_rfl))
  have hE := hE.moved (hm200.castL (by kernel_rfl))
  have hvo := hvo.moved (hm200.castL (by kernel_rfl))
  have hs := hs.moved (hm200.castL (by kernel_rfl))
  have hag := hag.moved (hm200.castL (by kernel_rfl))
  
  refine sim_next (enc := encZ) (encV := In.val) (x := .v (.pointer (some ⟨it, 0, none⟩))) (by kernel_rfl) hM hI rfl hit (by assumption : Rel _ _ _ _ _) (fun e w3 he hnd ht hI3 hR3 => ?_) (fun hall => ?_)
  · have hM := hM.turnI ht
    have hD := hD.turnI ht
    have hE := hE.turnI ht
    have hvo := hvo.turnI ht
    have hs := hs.turnI ht (fun h => by have := hSw it h; omega)
    have hI := hI3
    clear hI3
    have hdl := hI.ltG
    have hz3 := ht.kept.size
    cases hb : hasK e.key D with
    | true =>
      have hb2 := hb
      rw [hsn] at hb2
      refine sim_run 8 [] (hR3.cast (by kernel_rfl)) (by kernel_rfl) trivial (fun ρ300 w300 hm300 hR300 => ?_)
      have hag := hag.moved (hm300.castL (by kernel_rfl))
      have hM := hM.moved (hm300.castL (by kernel_rfl))
      have hD := hD.moved (hm300.castL (by kernel_rfl))
      have hE := hE.moved (hm300.castL (by kernel_rfl))
      have hvo := hvo.moved (hm300.castL (by kernel_rfl))
      have hs := hs.moved (hm300.castL (by kernel_rfl))
      have hI := hI.moved (hm300.castL (by kernel_rfl))
      refine sim_entry (enc := encZ) (encV := In.val) (x := .v (Value.pointer (some (Addr.mk it 0 none)))) e (by kernel_rfl) hM hI rfl ?_
      refine sim_run 8 [] (hR300.cast (by kernel_rfl)) (by kernel_rfl) trivial (fun ρ302 w302 hm302 hR302 => ?_)
      have hag := hag.moved (hm302.castL (by kernel_rfl))
      have hM := hM.moved (hm302.castL (by kernel_rfl))
      have hD := hD.moved (hm302.castL (by kernel_rfl))
      have hE := hE.moved (hm302.castL (by kernel_rfl))
      have hvo := hvo.moved (hm302.castL (by kernel_rfl))
      have hs := hs.moved (hm302.castL (by kernel_rfl))
      have hI := hI.moved (hm302.castL (by kernel_rfl))
      refine sim_look (enc := encZ) (encV := encU) (mx := .v (Value.map (some gd))) (kx := LI e.key) (ok := true) e.key (.tup [.v (encU ()), LB true]) (by kernel_rfl) mis_ty kt_int zero_unit hD rfl rfl (by rw [hb]; rfl) ?_
      refine sim_run 13 [] (hR302.cast (by kernel_rfl)) (by kernel_rfl) trivial (fun ρ304 w304 hm304 hR304 => ?_)
      have hag := hag.moved (hm304.castL (by kernel_rfl))
      have hM := hM.moved (hm304.castL (by kernel_rfl))
      have hD := hD.moved (hm304.castL (by kernel_rfl))
      have hE := hE.moved (hm304.castL (by kernel_rfl))
      have hvo := hvo.moved (hm304.castL (by kernel_rfl))
      have hs := hs.moved (hm304.castL (by kernel_rfl))
      have hI := hI.moved (hm304.castL (by kernel_rfl))
      
      exact sim_again (dn ++ [e], (D, cd), (vo, E)) (by kernel_rfl) (by show m.length - (dn ++ [e]).length < m.length - dn.length; rw [List.length_append, List.length_singleton]; omega) (by kernel_rfl) (by kernel_rfl) (by kernel_rfl) Agree.zero (Rel.cast (by assumption) (by kernel_rfl)) (by kernel_rfl) (by kernel_rfl) ⟨hI.leG, hM.cut ⟨Agree.zero, Nat.zero_le _⟩ rfl (by kernel_rfl), hD.cut ⟨Agree.zero, Nat.zero_le _⟩ rfl (by kernel_rfl), hI.cut ⟨Agree.zero, Nat.zero_le _⟩ rfl (by kernel_rfl), hE.cut ⟨Agree.zero, Nat.zero_le _⟩ rfl (by kernel_rfl), hvo.cut ⟨Agree.zero, Nat.zero_le _⟩ rfl (by kernel_rfl), hs.cut ⟨Agree.zero, Nat.zero_le _⟩ rfl (by kernel_rfl), fun z => by rw [hsn, List.map_append]; exact (seen_old hb2).symm, by rw [hEk, List.map_append]; exact (grps_old hb2).symm⟩
    | false =>
      have hb2 := hb
      rw [hsn] at hb2
      refine sim_run 8 [] (hR3.cast (by kernel_rfl)) (by kernel_rfl) trivial (fun ρ400 w400 hm400 hR400 => ?_)
      have hag := hag.moved (hm400.castL (by kernel_rfl))
      have hM := hM.moved (hm400.castL (by kernel_rfl))
      have hD := hD.moved (hm400.castL (by kernel_rfl))
      have hE := hE.moved (hm400.castL (by kernel_rfl))
      have hvo := hvo.moved (hm400.castL (by kernel_rfl))
      have hs := hs.moved (hm400.castL (by kernel_rfl))
      have hI := hI.moved (hm400.castL (by kernel_rfl))
      refine sim_entry (enc := encZ) (encV := In.val) (x := .v (Value.pointer (some (Addr.mk it 0 none)))) e (by kernel_rfl) hM hI rfl ?_
      refine sim_run 8 [] (hR400.cast (by kernel_rfl)) (by kernel_rfl) trivial (fun ρ402 w402 hm402 hR402 => ?_)
      have hag := hag.moved (hm402.castL (by kernel_rfl))
      have hM := hM.moved (hm402.castL (by kernel_rfl))
      have hD := hD.moved (hm402.castL (by kernel_rfl))
      have hE := hE.moved (hm402.castL (by kernel_rfl))
      have hvo := hvo.moved (hm402.castL (by kernel_rfl))
      have hs := hs.moved (hm402.castL (by kernel_rfl))
      have hI := hI.moved (hm402.castL (by kernel_rfl))
      refine sim_look (enc := encZ) (encV := encU) (mx := .v (Value.map (some gd))) (kx := LI e.key) (ok := true) e.key (.tup [.v (encU ()), LB false]) (by kernel_rfl) mis_ty kt_int zero_unit hD rfl rfl (by rw [hb]; rfl) ?_
      refine sim_run 15 [] (hR402.cast (by kernel_rfl)) (by kernel_rfl) trivial (fun ρ404 w404 hm404 hR404 => ?_)
      have hag := hag.moved (hm404.castL (by kernel_rfl))
      have hM := hM.moved (hm404.castL (by kernel_rfl))
      have hD := hD.moved (hm404.castL (by kernel_rfl))
      have hE := hE.moved (hm404.castL (by kernel_rfl))
      have hvo := hvo.moved (hm404.castL (by kernel_rfl))
      have hs := hs.moved (hm404.castL (by kernel_rfl))
      have hI := hI.moved (hm404.castL (by kernel_rfl))
      
      refine sim_to (regK Try.f48 8) (tmplJ Try.f48.ntmps 0 [(0, .v gp), (1, .v (.map (some gm))), (5, .v vo), (6, .v (.map (some gd))), (7, LI e.key), (18, .v (.pointer (some ⟨it, 0, none⟩)))]) [] (by kernel_rfl) (by kernel_rfl) (by kernel_rfl) (fun d3 => ?_)
      exact grp_mid (S := S) (V := V) (u := u) (l := l) ((by assumption : Rel _ _ _ _ _).none_) (hM.cut ⟨Agree.zero, Nat.zero_le _⟩ rfl (by kernel_rfl)) (hD.cut ⟨Agree.zero, Nat.zero_le _⟩ rfl (by kernel_rfl)) (hI.cut ⟨Agree.zero, Nat.zero_le _⟩ rfl (by kernel_rfl)) (hE.cut ⟨Agree.zero, Nat.zero_le _⟩ rfl (by kernel_rfl)) (hvo.cut ⟨Agree.zero, Nat.zero_le _⟩ rfl (by kernel_rfl)) (hs.cut ⟨Agree.zero, Nat.zero_le _⟩ rfl (by kernel_rfl)) (fun w' h => hcls w' e.key h) hmz (hkey e he) hu hne (by omega) (Nat.le_refl _) ((by assumption : Rel _ _ _ _ _).keeps.size) hSw hgd hSgd d3 (fun D' cd' vx vo' c' ρ' w' q1 q2 q3 q4 q5 q6 q7 q8 q9 q10 q11 => by
        have r1 := q8.leG
        exact sim_again (dn ++ [e], (D', cd'), (vo', E ++ [Ent.mk (gidsM u (firstM l) e.key) vx 0])) q1 (by show m.length - (dn ++ [e]).length < m.length - dn.length; rw [List.length_append, List.length_singleton]; omega) ((congrArg (mergeT · c'.tmps) (by kernel_rfl)).trans q2) ((congrArg List.length (by kernel_rfl)).trans q3) (by kernel_rfl) Agree.zero q4 rfl (by kernel_rfl) ⟨r1, q5.cut ⟨Agree.zero, Nat.zero_le _⟩ rfl rfl, q6.cut ⟨Agree.zero, Nat.zero_le _⟩ rfl rfl, q8.cut ⟨Agree.zero, Nat.zero_le _⟩ rfl rfl, q9.cut ⟨Agree.zero, Nat.zero_le _⟩ rfl rfl, q10.cut ⟨Agree.zero, Nat.zero_le _⟩ rfl rfl, q11.cut ⟨Agree.zero, Nat.zero_le _⟩ rfl rfl, fun z => by rw [q7, hsn, List.map_append]; exact (seen_new _ _ _ _).symm, by rw [List.map_append, hEk, List.map_append]; exact (grps_new hb2).symm⟩)
  · refine sim_run 4 [] (hR200.cast (by kernel_rfl)) (by kernel_rfl) trivial (fun ρ500 w500 hm500 hR500 => ?_)
    have hM := hM.moved (hm500.castL (by kernel_rfl))
    have hD := hD.moved (hm500.castL (by kernel_rfl))
    have hI := hI.moved (hm500.castL (by kernel_rfl))
    have hE := hE.moved (hm500.castL (by kernel_rfl))
    have hvo := hvo.moved (hm500.castL (by kernel_rfl))
    have hs := hs.moved (hm500.castL (by kernel_rfl))
    have hag := hag.moved (hm500.castL (by kernel_rfl))
    refine sim_leave (by kernel_rfl) ?_
    refine sim_run 3 [] (hR500.cast (by kernel_rfl)) (by kernel_rfl) trivial (fun ρ501 w501 hm501 hR501 => ?_)
    have hM := hM.moved (hm501.castL (by kernel_rfl))
    have hD := hD.moved (hm501.castL (by kernel_rfl))
    have hI := hI.moved (hm501.castL (by kernel_rfl))
    have hE := hE.moved (hm501.castL (by kernel_rfl))
    have hvo := hvo.moved (hm501.castL (by kernel_rfl))
    have hs := hs.moved (hm501.castL (by kernel_rfl))
    have hag := hag.moved (hm501.castL (by kernel_rfl))
    
    have hiff : ∀ i, i ∈ dn.map (·.key) ↔ (firstM l i).isSome = true := fun i => by
      constructor
      · intro hi
        obtain ⟨e, he, rfl⟩ := List.mem_map.1 hi
        exact hkey e (hI.sub e he)
      · intro hi
        rw [← hmz] at hi
        obtain ⟨e, he, h2⟩ := List.mem_map.1 (hasK_iff.1 hi)
        exact List.mem_map.2 ⟨e, hall e he, h2⟩
    have hkn : (E.map (·.key)).Nodup := by rw [hEk]; exact grps_nodup fun i hi => (hiff i).1 hi
    obtain ⟨Av, cv, hve⟩ := own_row hvo.own
    subst hve
    have ho := hvo.own
    rw [gCells_enc hkn, hEk] at ho
    have hlen : (grpsM u (firstM l) (dn.map (·.key))).length = E.length := by rw [← hEk, List.length_map]
    have hI2 : IdsAt w501 Av (atG E) (grpsM u (firstM l) (dn.map (·.key))) := fun g hg => by
      rw [← hEk] at hg
      obtain ⟨e, he, rfl⟩ := List.mem_map.1 hg
      have h1 := (hE.own e he).own
      obtain ⟨A', c', hA⟩ := own_row h1
      rw [hA] at h1
      exact ⟨A', c', (atG_of hkn he).trans hA, Reads.of_own h1, fun a b ha hb hab => by
        subst ha hb
        exact own_ne h1 hvo.own (by decide) b.block rfl (by rw [hab]; rfl)⟩
    have hgl : ∀ g ∈ grpsM u (firstM l) (dn.map (·.key)), g.length ≤ 1000000000000 := fun g hg => by
      obtain ⟨i, _, rfl⟩ := mem_grps.1 hg
      have h1 := clsI_le i hu
      have h2 : (gidsM u (firstM l) i).length ≤ (clsI u i).length := List.length_filter_le _ _
      omega
    refine sim_call 67 [.v (.slice Av E.length cv), .v (.func (.func 68) #[] #[])] (by kernel_rfl) ?_
    refine (sortGrp_any (atG E) (firstM l) w.heap.size E.length cv Av (grpsM u (firstM l) (dn.map (·.key))) w501 ho hlen (by omega) hI2 hgl).mono ?_
    rintro e5 w5' ⟨rfl, ho5, hk5⟩
    rw [sortG_any hiff] at ho5
    have hcl : (clsM u l).length = E.length := by rw [← hlen, ← sortG_any hiff]; exact (sortG_perm _ _).length_eq
    have hR5 := (Rel.cast (rs' := []) hR501 (by kernel_rfl)).kept hk5 (fun n' r hn' _ hs => by simp at hn') (fun x hx => .inr (by
      obtain ⟨a, rfl, ha⟩ := hx
      have h1 := own_ge (g := a.block) hvo.own rfl
      omega))
    have hE5 : Rws ρ501 [] w5' w.heap.size E id := hE.map fun e he h => ⟨own_kept h.own hk5 (fun g hg hin => by
      obtain ⟨a, rfl, ha⟩ := hin
      exact own_ne h.own hvo.own (by decide) g hg (by rw [← ha]; rfl)), fun g _ hw => noW0 hw⟩
    have hv5 : Own ρ501 [] w5' w.heap.size 86 4 (.slice Av E.length cv) E.length ((clsM u l).flatMap (encG (atG E) (firstM l))) := ⟨ho5, fun g _ hw => noW0 hw⟩
    clear hE hvo ho hM hD hI hs
    refine Back.of (.tup []) hR5 rfl ?_
    refine sim_run 6 [] (hR5.cast (by kernel_rfl)) (by kernel_rfl) trivial (fun ρ600 w600 hm600 hR600 => ?_)
    have hag := hag.moved (hm600.castL (by kernel_rfl))
    have hE5 := hE5.moved (hm600.castL (by kernel_rfl))
    have hv5 := hv5.moved (hm600.castL (by kernel_rfl))
    refine sim_ret (.v (Value.slice Av E.length cv)) hR600 (by kernel_rfl) (by kernel_rfl) ?_
    
    have hmem : ∀ g ∈ clsM u l, ∃ e ∈ E, e.key = g := fun g hg => by
      rw [← sortG_any hiff, (sortG_perm _ _).mem_iff, ← hEk] at hg
      obtain ⟨e, he, h⟩ := List.mem_map.1 hg
      exact ⟨e, he, h⟩
    refine ⟨Av, cv, atG E, by rw [hcl]; rfl, by rw [hcl]; exact hv5.own, fun g hg => ?_, fun a ha b hb hab => ?_, (by assumption : Rel _ _ _ _ _).toBelow⟩
    · obtain ⟨e, he, rfl⟩ := hmem g hg
      rw [atG_of hkn he]
      exact (hE5.own e he).own
    · obtain ⟨e, he, rfl⟩ := hmem a ha
      obtain ⟨e2, he2, rfl⟩ := hmem b hb
      rw [atG_of hkn he, atG_of hkn he2]
      exact fun g hg => hE5.ne he he2 (fun h => hab (by rw [h])) hg
end
end Go.Proofs.Ytnfgndapalkbcaa
