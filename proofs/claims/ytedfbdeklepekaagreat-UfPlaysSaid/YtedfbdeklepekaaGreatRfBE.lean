/-
  complineref12.Graph: is there a number, its head, whether numbers are in one class.
  complineref12.Graph: numbers of one class; a class.
  complineref12.Graph: a class.
  complineref12.Graph: all classes, each row its own.
-/
import Derived.Test.YtedfbdeklepekaaGreatRfA
import Derived.Test.YtedfbdeklepekaaGreatBkS
import Derived.Test.YtedfbdeklepekaaGreatSta
namespace Go.Proofs.YtedfbdeklepekaaGreat
section
open Go Go.RowKit
structure RfP where
  b : Nat
  A : Option Addr
  c : Nat
  vL : Value
structure RfV (q : RfP) (u : List Nat) (w : World) : Prop where
  blk : Blk w q.b 36 [.slice q.A u.length q.c, q.vL].toArray
  own : w.ownsRow 0 3 1 (.slice q.A u.length q.c) u.length (nats (hds u))
def RfP.has (q : RfP) (y : Nat) : Prop := y = q.b ∨ ∃ a, q.A = some a ∧ y = a.block
theorem RfP.has_own {q : RfP} {n : Nat} {g : Nat} (h : (Value.slice q.A n q.c).ownBlock = some g) : q.has g := by
  cases hA : q.A with
  | none => rw [hA] at h; cases h
  | some a =>
    rw [hA] at h
    simp only [Value.ownBlock, Option.some.injEq] at h
    exact .inr ⟨a, hA, h.symm⟩
theorem RfV.kept {q : RfP} {u : List Nat} {w w' : World} {S : Nat → Prop} (h : RfV q u w) (hk : Kept S w w') (hn : ∀ y, q.has y → ¬ S y) : RfV q u w' :=
  ⟨h.blk.kept hk (hn _ (.inl rfl)), own_kept h.own hk fun _ hg => hn _ (RfP.has_own hg)⟩
theorem RfV.below {q : RfP} {u : List Nat} {w w' : World} (h : RfV q u w) (hb : Below w.heap.size w w') : RfV q u w' := h.kept (Kept.of_below (fun _ => False) hb) (fun _ _ h => h)
theorem RfV.lt {q : RfP} {u : List Nat} {w : World} (h : RfV q u w) (y : Nat) (hy : q.has y) : y < w.heap.size := by
  rcases hy with rfl | ⟨a, ha, rfl⟩
  · exact h.blk.lt
  · exact own_lt h.own (by rw [ha]; rfl)
theorem RfV.same {q : RfP} {u : List Nat} : ∀ (w1 w2 : World) (S' : Nat → Prop), RfV q u w1 → (∀ x, q.has x → x < w1.heap.size) → Kept S' w1 w2 → (∀ x, q.has x → ¬ S' x) → RfV q u w2 := fun _ _ _ h _ hk hn => h.kept hk hn
/-- in view, read only: the box; the heads -/
theorem RfV.open_ {q : RfP} {u : List Nat} {w : World} (h : RfV q u w) : ∃ ρ : Nm, ρ 0 = (q.b, 0) ∧ Rel [] w ρ [⟨[.v (.slice q.A u.length q.c), .v q.vL], false⟩] w ∧ Own ρ [⟨[.v (.slice q.A u.length q.c), .v q.vL], false⟩] w 0 3 1 (.slice q.A u.length q.c) u.length (ints ((hds u).map Int.ofNat)) := by
  obtain ⟨ρ, e0, hR⟩ := blk_open h.blk false [] (by simp) (by kernel_rfl)
  have ho := h.own
  rw [nats_ints] at ho
  exact ⟨ρ, e0, hR, ho, fun _ _ hw => wrS_allRo rfl hw⟩
theorem inU_true {u : List Nat} {i : Int} (h : inU u i = true) : ∃ k : Nat, i = ((k + 1 : Nat) : Int) ∧ k < u.length := by
  unfold inU at h
  simp only [Bool.and_eq_true, decide_eq_true_eq] at h
  exact ⟨i.toNat - 1, by omega, by omega⟩
theorem inU_false {u : List Nat} {i : Int} (h : inU u i = false) : i < 1 ∨ (u.length : Int) < i := by
  unfold inU at h
  simp only [Bool.and_eq_false_iff, decide_eq_false_iff_not] at h
  omega
theorem headI_succ {u : List Nat} {k : Nat} (h : k < u.length) : headI u ((k + 1 : Nat) : Int) = (Uf.hd u (k + 1) : Int) := headI_nat ⟨by omega, by omega⟩
attribute [local irreducible] run goO leaveK someK nextK nextT nextOT nextOD loopBody loopRest loopK fillJ tmplOf tmplJ mergeT At AtO drawOk ordOf gateOf callC callO topOp topO idxOf appOf storeOf clearOf sliceOf calleeOf calleeO topQ idxQ newRowOf resL stepOp seek
set_option maxRecDepth 100000 in
set_option maxHeartbeats 4000000 in
theorem is12_any (q : RfP) (u : List Nat) (i : Int) (w : World) (h : RfV q u w) :
    Calls Tryz.prog 62 #[.pointer (some ⟨q.b, 0, none⟩), .int .i64 i] w fun e w' => e = .returned (.bool (inU u i)) ∧ Below w.heap.size w w' := by
  obtain ⟨ρ, e0, hR, _⟩ := h.open_
  refine sim_enter Tryz.func62 ρ [.ptr 0 0, LI i] [⟨[.v (.slice q.A u.length q.c), .v q.vL], false⟩] (by kernel_rfl) (by simp only [denL, LV.den, Nm.at_, e0]) ?_
  cases hq : inU u i with
  | true =>
    obtain ⟨k, rfl, hk⟩ := inU_true hq
    refine sim_run 9 [] (hR.cast (by kernel_rfl)) (by kernel_rfl) trivial (fun ρ100 w100 hm100 hR100 => ?_)
    refine sim_know 7 (decide ((↑(k + 1) : Int) ≥ 1)) true (by kernel_rfl) (decide_eq_true (by omega)) ?_
    refine sim_run 10 [] (hR100.cast (by kernel_rfl)) (by kernel_rfl) trivial (fun ρ101 w101 hm101 hR101 => ?_)
    refine sim_ret (LB (decide ((↑(k + 1) : Int) ≤ (↑u.length : Int)))) hR101 (by kernel_rfl) (by kernel_rfl) ?_
    exact ⟨retv_bool (by clear hR101 hm101 hR100 hm100 hR e0; grind []), hR101.toBelow⟩
    
  | false =>
    by_cases h1 : i < 1
    · refine sim_run 9 [] (hR.cast (by kernel_rfl)) (by kernel_rfl) trivial (fun ρ200 w200 hm200 hR200 => ?_)
      refine sim_know 7 (decide (i ≥ 1)) false (by kernel_rfl) (decide_eq_false (by omega)) ?_
      refine sim_run 10 [] (hR200.cast (by kernel_rfl)) (by kernel_rfl) trivial (fun ρ201 w201 hm201 hR201 => ?_)
      refine sim_ret (LB false) hR201 (by kernel_rfl) (by kernel_rfl) ?_
      exact ⟨rfl, hR201.toBelow⟩
      
    · have h2 := (inU_false hq).resolve_left h1
      refine sim_run 9 [] (hR.cast (by kernel_rfl)) (by kernel_rfl) trivial (fun ρ300 w300 hm300 hR300 => ?_)
      refine sim_know 7 (decide (i ≥ 1)) true (by kernel_rfl) (decide_eq_true (by omega)) ?_
      refine sim_run 10 [] (hR300.cast (by kernel_rfl)) (by kernel_rfl) trivial (fun ρ301 w301 hm301 hR301 => ?_)
      refine sim_ret (LB (decide (i ≤ (↑u.length : Int)))) hR301 (by kernel_rfl) (by kernel_rfl) ?_
      exact ⟨retv_bool (by clear hR301 hm301 hR300 hm300 hR e0; grind []), hR301.toBelow⟩
      
theorem is12_eq (q : RfP) (u : List Nat) (i : Int) (v : Bool) (w : World) (h : RfV q u w) (hv : inU u i = v) :
    Calls Tryz.prog 62 #[.pointer (some ⟨q.b, 0, none⟩), .int .i64 i] w fun e w' => e = .returned (.bool v) ∧ Below w.heap.size w w' := by
  subst hv
  exact is12_any q u i w h
set_option maxRecDepth 100000 in
set_option maxHeartbeats 4000000 in
theorem head12_any (q : RfP) (u : List Nat) (i : Int) (w : World) (h : RfV q u w) (hu : u.length ≤ 1000) :
    Calls Tryz.prog 20 #[.pointer (some ⟨q.b, 0, none⟩), .int .i64 i] w fun e w' => e = .returned (.int .i64 (headI u i)) ∧ Below w.heap.size w w' := by
  obtain ⟨ρ, e0, hR, ho⟩ := h.open_
  obtain ⟨b, A, c, vL⟩ := q
  dsimp only at e0 hR ho
  have hV : Sta (RfP.mk b A c vL).has (RfV (RfP.mk b A c vL) u) ρ [⟨[.v (.slice A u.length c), .v vL], false⟩] w := ⟨h, fun _ _ hw => wrS_allRo rfl hw, h.lt, RfV.same⟩
  have hag := hR.ag_ 1 (by kernel_rfl)
  cases hq : inU u i with
  | true =>
    obtain ⟨k, rfl, hk⟩ := inU_true hq
    rw [headI_succ hk]
    obtain ⟨gA, rfl⟩ := own_spot ho.own (by omega)
    have hz : ((hds u).map Int.ofNat)[k]? = some (Uf.hd u (k + 1) : Int) := by rw [List.getElem?_map, hds_get hk]; rfl
    refine sim_enter Tryz.func20 ρ [.ptr 0 0, LI ((k + 1 : Nat) : Int)] [⟨[.v (.slice (some ⟨gA, 0, none⟩) u.length c), .v vL], false⟩] (by kernel_rfl) (by simp only [denL, LV.den, Nm.at_, e0]) ?_
    refine sim_seeQ _ k 1 (by kernel_rfl) hz ho hk hR (by kernel_rfl) (fun ρE hmE eE hRE => ?_)
    have hV := hV.moved hmE
    have hag0 := hag.moved hmE
    have hag := hRE.ag_ 2 (by kernel_rfl)
    have e0 := (hag0.at_ 0 (by omega)).trans e0
    refine sim_run 9 [] (hRE.cast (by kernel_rfl)) (by kernel_rfl) trivial (fun ρ500 w500 hm500 hR500 => ?_)
    have hV := hV.moved (hm500.castL (by kernel_rfl))
    have hag0 := hag0.moved (hm500.castL (by kernel_rfl))
    have hag := hag.moved (hm500.castL (by kernel_rfl))
    refine sim_call 62 [.ptr 0 0, LI ((↑(k + 1) : Int))] (by kernel_rfl) ?_
    have ez0_501 := (hag.at_ 0 (by omega)).trans e0
    simp only [denL, LV.den, Nm.at_, ez0_501, Nat.add_zero]
    refine Calls.mono (is12_eq ((RfP.mk b (some ⟨gA, 0, none⟩) c vL)) (u) _ (true) _ hV.is (by assumption)) ?_
    rintro e501 w501 ⟨rfl, hb501⟩
    have hR501 := hR500.below hb501
    have hV := hV.below hb501
    refine Back.of (LB true) hR501 rfl ?_
    refine sim_run 12 [⟨3, 5, LI (IntKind.i64.wrap ((↑(k + 1) : Int) - 1)), LI ((↑(k + 1) : Int) - 1)⟩] (hR501.cast (by kernel_rfl)) (by kernel_rfl) ⟨eqi (IntWalk.i64_in _ (by omega)), trivial⟩ (fun ρ502 w502 hm502 hR502 => ?_)
    have hag0 := hag0.moved (hm502.castL (by kernel_rfl))
    have hag := hag.moved (hm502.castL (by kernel_rfl))
    have hV := hV.moved (hm502.castL (by kernel_rfl))
    refine sim_place (.v (.slice (some ⟨gA, 0, none⟩) u.length c)) u.length 1 (((k + 1 : Nat) : Int) - 1) 1 0 (by kernel_rfl) (by omega) (by omega) rfl (by simp only [Nm.at_, hag.at_ 1 (by omega), eE, show (((k + 1 : Nat) : Int) - 1).toNat = k by omega, Nat.add_zero, Nat.zero_add, Nat.mul_one]) ?_
    refine sim_run 3 [] (hR502.cast (by kernel_rfl)) (by kernel_rfl) trivial (fun ρ504 w504 hm504 hR504 => ?_)
    have hag0 := hag0.moved (hm504.castL (by kernel_rfl))
    have hag := hag.moved (hm504.castL (by kernel_rfl))
    have hV := hV.moved (hm504.castL (by kernel_rfl))
    refine sim_ret (LI ((↑(Uf.hd u (k + 1)) : Int))) hR504 (by kernel_rfl) (by kernel_rfl) ?_
    exact ⟨rfl, hR504.toBelow⟩
    
  | false =>
    have hh : headI u i = 0 := by unfold headI; rw [hq]; rfl
    rw [hh]
    refine sim_enter Tryz.func20 ρ [.ptr 0 0, LI i] [⟨[.v (.slice A u.length c), .v vL], false⟩] (by kernel_rfl) (by simp only [denL, LV.den, Nm.at_, e0]) ?_
    refine sim_run 9 [] (hR.cast (by kernel_rfl)) (by kernel_rfl) trivial (fun ρ600 w600 hm600 hR600 => ?_)
    have ho := ho.moved (hm600.castL (by kernel_rfl))
    have hV := hV.moved (hm600.castL (by kernel_rfl))
    have hag := hag.moved (hm600.castL (by kernel_rfl))
    refine sim_call 62 [.ptr 0 0, LI i] (by kernel_rfl) ?_
    have ez0_601 := (hag.at_ 0 (by omega)).trans e0
    simp only [denL, LV.den, Nm.at_, ez0_601, Nat.add_zero]
    refine Calls.mono (is12_eq ((RfP.mk b A c vL)) (u) _ (false) _ hV.is (by assumption)) ?_
    rintro e601 w601 ⟨rfl, hb601⟩
    have hR601 := hR600.below hb601
    have ho := ho.below hb601
    have hV := hV.below hb601
    refine Back.of (LB false) hR601 rfl ?_
    refine sim_run 7 [] (hR601.cast (by kernel_rfl)) (by kernel_rfl) trivial (fun ρ602 w602 hm602 hR602 => ?_)
    have hag := hag.moved (hm602.castL (by kernel_rfl))
    have ho := ho.moved (hm602.castL (by kernel_rfl))
    have hV := hV.moved (hm602.castL (by kernel_rfl))
    refine sim_ret (LI 0) hR602 (by kernel_rfl) (by kernel_rfl) ?_
    exact ⟨rfl, hR602.toBelow⟩
    
end

section
open Go Go.RowKit
theorem head12_eq (q : RfP) (u : List Nat) (i v : Int) (w : World) (h : RfV q u w) (hu : u.length ≤ 1000) (hv : headI u i = v) :
    Calls Tryz.prog 20 #[.pointer (some ⟨q.b, 0, none⟩), .int .i64 i] w fun e w' => e = .returned (.int .i64 v) ∧ Below w.heap.size w w' := by
  subst hv
  exact head12_any q u i w h hu
theorem all_take_succ {α : Type} {p : α → Bool} {l : List α} {i : Nat} {a : α} (h : l[i]? = some a) (h1 : (l.take i).all p = true) (h2 : p a = true) : (l.take (i + 1)).all p = true := by
  rw [List.take_add_one, h, List.all_append, h1]
  simp [h2]
theorem all_not {α : Type} {p : α → Bool} {l : List α} {i : Nat} {a : α} (h : l[i]? = some a) (h2 : p a = false) : l.all p = false := by
  rw [List.all_eq_false]
  exact ⟨a, List.mem_of_getElem? h, by simp [h2]⟩
attribute [local irreducible] run goO leaveK someK nextK nextT nextOT nextOD loopBody loopRest loopK fillJ tmplOf tmplJ mergeT At AtO drawOk ordOf gateOf callC callO topOp topO idxOf appOf storeOf clearOf sliceOf calleeOf calleeO topQ idxQ newRowOf resL stepOp seek
set_option maxRecDepth 100000 in
set_option maxHeartbeats 4000000 in
theorem same12_f {Q : Exit → Act → World → Prop} {R : Ending → World → Prop} [hB : Body Tryz.prog Q Tryz.f22 R] {ρ : Nm} {w0 w : World} {b : Nat} {A : Option Addr} {c : Nat} {vL : Value} {u : List Nat} {ga oa n cl i : Nat} {x x0 : Int} (hR : Rel [] w0 ρ [⟨[.v (.slice A u.length c), .v vL], false⟩, ⟨[LI x], false⟩, ⟨[LI x0], false⟩] w) (hV : Sta (RfP.mk b A c vL).has (RfV (RfP.mk b A c vL) u) ρ [⟨[.v (.slice A u.length c), .v vL], false⟩, ⟨[LI x], false⟩, ⟨[LI x0], false⟩] w) (e0 : ρ 0 = (b, 0)) (eE : ρ 1 = (ga, oa + i)) (_ : ρ 2 = (ga, oa)) (_ : u.length ≤ 1000) (hlt : i < n) (_ : n ≤ 1000000) (hq : inU u x = false) (d : Nat → Value) (hret : ∀ w', Below w0.heap.size w0 w' → R (.returned (.bool false)) w') : At Tryz.prog Q ⟨regK Tryz.f22 4, fillJ (tmplJ Tryz.f22.ntmps 0 [(0, .ptr 0 0), (1, .v (.slice (some ⟨ga, oa, none⟩) n cl)), (5, LI (i : Int))]) d 0, [⟨[.v (.slice A u.length c), .v vL], false⟩, ⟨[LI x], false⟩, ⟨[LI x0], false⟩]⟩ ρ w := by
  have hag := hR.ag_ 3 (by kernel_rfl)
  refine sim_draw [] (by kernel_rfl) (by kernel_rfl) (hR.cast (by kernel_rfl)) (fun hR200 => ?_)
  have hV := hV.drew
  refine sim_ordN 3 [] hR200 (by kernel_rfl) trivial (fun ρ201 w201 hm201 hR201 => ?_)
  have hag := hag.moved (hm201.castL (by kernel_rfl))
  have hV := hV.moved (hm201.castL (by kernel_rfl))
  refine sim_ord_index (.v (.slice (some ⟨ga, oa, none⟩) n cl)) n 1 i 1 0 (by kernel_rfl) (by omega) (by omega) rfl hR201 (by simp only [Nm.at_, hag.at_ 1 (by omega), eE, Nat.add_zero, Int.toNat_natCast, Nat.mul_one]) (fun hR202 => ?_)
  refine sim_ordN 1 [] hR202 (by kernel_rfl) trivial (fun ρ203 w203 hm203 hR203 => ?_)
  have hag := hag.moved (hm203.castL (by kernel_rfl))
  have hV := hV.moved (hm203.castL (by kernel_rfl))
  refine sim_ord_call (T := []) (w0 := w0) 62 [.ptr 0 0, LI x] (by kernel_rfl) ?_
  have ez0_204 := (hag.at_ 0 (by omega)).trans e0
  simp only [denL, LV.den, Nm.at_, ez0_204, Nat.add_zero]
  refine Calls.mono (is12_eq ((RfP.mk b A c vL)) (u) _ (false) _ hV.is (by assumption)) ?_
  rintro e204 w204 ⟨rfl, hb204⟩
  have hR204 := hR203.call hb204 (LB false)
  have hV := hV.below hb204
  refine BackO.of (LB false) hR204 rfl ?_
  refine sim_ordN 15 [] hR204 (by kernel_rfl) trivial (fun ρ205 w205 hm205 hR205 => ?_)
  have hag := hag.moved (hm205.castL (by kernel_rfl))
  have hV := hV.moved (hm205.castL (by kernel_rfl))
  refine sim_ord_endR hR205 (by kernel_rfl) (fun hR206 => ?_)
  refine sim_run 5 [] (hR206.cast (by kernel_rfl)) (by kernel_rfl) trivial (fun ρ207 w207 hm207 hR207 => ?_)
  have hag := hag.moved (hm207.castL (by kernel_rfl))
  have hV := hV.moved (hm207.castL (by kernel_rfl))
  
  exact sim_ret (LB false) (by assumption : Rel _ _ _ _ _) (by kernel_rfl) (by kernel_rfl) (hret _ ((by assumption : Rel _ _ _ _ _)).toBelow)
set_option maxRecDepth 100000 in
set_option maxHeartbeats 4000000 in
theorem same12_t {Q : Exit → Act → World → Prop} {R : Ending → World → Prop} [hB : Body Tryz.prog Q Tryz.f22 R] {ρ : Nm} {w0 w : World} {b : Nat} {A : Option Addr} {c : Nat} {vL : Value} {u : List Nat} {ga oa n cl i : Nat} {x x0 : Int} (hR : Rel [] w0 ρ [⟨[.v (.slice A u.length c), .v vL], false⟩, ⟨[LI x], false⟩, ⟨[LI x0], false⟩] w) (hV : Sta (RfP.mk b A c vL).has (RfV (RfP.mk b A c vL) u) ρ [⟨[.v (.slice A u.length c), .v vL], false⟩, ⟨[LI x], false⟩, ⟨[LI x0], false⟩] w) (e0 : ρ 0 = (b, 0)) (eE : ρ 1 = (ga, oa + i)) (eF : ρ 2 = (ga, oa)) (hu : u.length ≤ 1000) (hlt : i < n) (hn : n ≤ 1000000) (hq : inU u x = true) (a a0 : Int) (ha : headI u x = a) (ha0 : headI u x0 = a0) (d : Nat → Value) (hret : ¬ a = a0 → ∀ w', Below w0.heap.size w0 w' → R (.returned (.bool false)) w')
    (hfin : a = a0 → ∀ (c' : Cfg) (ρ' : Nm) (w' : World), c'.k = [] → mergeT (tmplJ Tryz.f22.ntmps 0 [(0, .ptr 0 0), (1, .v (.slice (some ⟨ga, oa, none⟩) n cl)), (5, LI ((i : Int) + 1))]) c'.tmps = c'.tmps → (tmplJ Tryz.f22.ntmps 0 [(0, .ptr 0 0), (1, .v (.slice (some ⟨ga, oa, none⟩) n cl)), (5, LI ((i : Int) + 1))]).length = c'.tmps.length → Ag 1 ρ ρ' c'.rs → Rel [] w0 ρ' c'.rs w' → c'.rs.take 1 = [⟨[.v (.slice A u.length c), .v vL], false⟩] → Sta (RfP.mk b A c vL).has (RfV (RfP.mk b A c vL) u) ρ' c'.rs w' → At Tryz.prog Q c' ρ' w') : At Tryz.prog Q ⟨regK Tryz.f22 4, fillJ (tmplJ Tryz.f22.ntmps 0 [(0, .ptr 0 0), (1, .v (.slice (some ⟨ga, oa, none⟩) n cl)), (5, LI (i : Int))]) d 0, [⟨[.v (.slice A u.length c), .v vL], false⟩, ⟨[LI x], false⟩, ⟨[LI x0], false⟩]⟩ ρ w := by
  have hag := hR.ag_ 3 (by kernel_rfl)
  have hag1 := hR.ag_ 1 (by kernel_rfl)
  refine sim_draw [] (by kernel_rfl) (by kernel_rfl) (hR.cast (by kernel_rfl)) (fun hR300 => ?_)
  have hV := hV.drew
  refine sim_ordN 3 [] hR300 (by kernel_rfl) trivial (fun ρ301 w301 hm301 hR301 => ?_)
  have hag := hag.moved (hm301.castL (by kernel_rfl))
  have hag1 := hag1.moved (hm301.castL (by kernel_rfl))
  have hV := hV.moved (hm301.castL (by kernel_rfl))
  refine sim_ord_index (.v (.slice (some ⟨ga, oa, none⟩) n cl)) n 1 i 1 0 (by kernel_rfl) (by omega) (by omega) rfl hR301 (by simp only [Nm.at_, hag.at_ 1 (by omega), eE, Nat.add_zero, Int.toNat_natCast, Nat.mul_one]) (fun hR302 => ?_)
  refine sim_ordN 1 [] hR302 (by kernel_rfl) trivial (fun ρ303 w303 hm303 hR303 => ?_)
  have hag := hag.moved (hm303.castL (by kernel_rfl))
  have hag1 := hag1.moved (hm303.castL (by kernel_rfl))
  have hV := hV.moved (hm303.castL (by kernel_rfl))
  refine sim_ord_call (T := []) (w0 := w0) 62 [.ptr 0 0, LI x] (by kernel_rfl) ?_
  have ez0_304 := (hag.at_ 0 (by omega)).trans e0
  simp only [denL, LV.den, Nm.at_, ez0_304, Nat.add_zero]
  refine Calls.mono (is12_eq ((RfP.mk b A c vL)) (u) _ (true) _ hV.is (by assumption)) ?_
  rintro e304 w304 ⟨rfl, hb304⟩
  have hR304 := hR303.call hb304 (LB true)
  have hV := hV.below hb304
  refine BackO.of (LB true) hR304 rfl ?_
  refine sim_ordN 5 [] hR304 (by kernel_rfl) trivial (fun ρ305 w305 hm305 hR305 => ?_)
  have hag := hag.moved (hm305.castL (by kernel_rfl))
  have hag1 := hag1.moved (hm305.castL (by kernel_rfl))
  have hV := hV.moved (hm305.castL (by kernel_rfl))
  refine sim_ord_index (.v (.slice (some ⟨ga, oa, none⟩) n cl)) n 1 i 1 0 (by kernel_rfl) (by omega) (by omega) rfl hR305 (by simp only [Nm.at_, hag.at_ 1 (by omega), eE, Nat.add_zero, Int.toNat_natCast, Nat.mul_one]) (fun hR306 => ?_)
  refine sim_ordN 3 [] hR306 (by kernel_rfl) trivial (fun ρ307 w307 hm307 hR307 => ?_)
  have hag := hag.moved (hm307.castL (by kernel_rfl))
  have hag1 := hag1.moved (hm307.castL (by kernel_rfl))
  have hV := hV.moved (hm307.castL (by kernel_rfl))
  refine sim_ord_index (.v (.slice (some ⟨ga, oa, none⟩) n cl)) n 1 0 2 0 (by kernel_rfl) (by omega) (by omega) rfl hR307 (by simp only [Nm.at_, hag.at_ 2 (by omega), eF, Nat.add_zero, Int.toNat_zero, Nat.zero_mul]) (fun hR309 => ?_)
  refine sim_ordN 1 [] hR309 (by kernel_rfl) trivial (fun ρ310 w310 hm310 hR310 => ?_)
  have hag := hag.moved (hm310.castL (by kernel_rfl))
  have hag1 := hag1.moved (hm310.castL (by kernel_rfl))
  have hV := hV.moved (hm310.castL (by kernel_rfl))
  refine sim_ord_call (T := []) (w0 := w0) 20 [.ptr 0 0, LI x] (by kernel_rfl) ?_
  have ez0_311 := (hag.at_ 0 (by omega)).trans e0
  simp only [denL, LV.den, Nm.at_, ez0_311, Nat.add_zero]
  refine Calls.mono (head12_eq ((RfP.mk b A c vL)) (u) _ _ _ hV.is (by assumption) (by assumption)) ?_
  rintro e311 w311 ⟨rfl, hb311⟩
  have hR311 := hR310.call hb311 (LI a)
  have hV := hV.below hb311
  refine BackO.of (LI a) hR311 rfl ?_
  refine sim_ord_call (T := []) (w0 := w0) 20 [.ptr 0 0, LI x0] (by kernel_rfl) ?_
  have ez0_312 := (hag.at_ 0 (by omega)).trans e0
  simp only [denL, LV.den, Nm.at_, ez0_311, Nat.add_zero]
  refine Calls.mono (head12_eq ((RfP.mk b A c vL)) (u) _ _ _ hV.is (by assumption) (by assumption)) ?_
  rintro e312 w312 ⟨rfl, hb312⟩
  have hR312 := hR311.call hb312 (LI a0)
  have hV := hV.below hb312
  refine BackO.of (LI a0) hR312 rfl ?_
  refine sim_ordN 2 [] hR312 (by kernel_rfl) trivial (fun ρ313 w313 hm313 hR313 => ?_)
  have hag := hag.moved (hm313.castL (by kernel_rfl))
  have hag1 := hag1.moved (hm313.castL (by kernel_rfl))
  have hV := hV.moved (hm313.castL (by kernel_rfl))
  refine sim_ord_endR hR313 (by kernel_rfl) (fun hR314 => ?_)
  refine sim_fork 32 (a != a0) (by kernel_rfl) (fun hq315 => ?_) (fun hq315 => ?_)
  have hq315 := nb_t hq315
  have hq315 := of_decide_eq_false hq315
  refine sim_run 5 [] (hR314.cast (by kernel_rfl)) (by kernel_rfl) trivial (fun ρ316 w316 hm316 hR316 => ?_)
  have hag := hag.moved (hm316.castL (by kernel_rfl))
  have hag1 := hag1.moved (hm316.castL (by kernel_rfl))
  have hV := hV.moved (hm316.castL (by kernel_rfl))
  rotate_left
  have hq315 := nb_f hq315
  have hq315 := of_decide_eq_true hq315
  refine sim_run 8 [⟨3, 1, LI (IntKind.i64.wrap ((↑i : Int) + 1)), LI ((↑i : Int) + 1)⟩] (hR314.cast (by kernel_rfl)) (by kernel_rfl) ⟨eqi (IntWalk.i64_in _ (by omega)), trivial⟩ (fun ρ317 w317 hm317 hR317 => ?_)
  have hag := hag.moved (hm317.castL (by kernel_rfl))
  have hag1 := hag1.moved (hm317.castL (by kernel_rfl))
  have hV := hV.moved (hm317.castL (by kernel_rfl))
  rotate_left
  
  · exact sim_ret (LB false) (by assumption : Rel _ _ _ _ _) (by kernel_rfl) (by kernel_rfl) (hret hq315 _ ((by assumption : Rel _ _ _ _ _)).toBelow)
  · exact hfin hq315 _ _ _ (by kernel_rfl) (by kernel_rfl) (by kernel_rfl) hag1 (by assumption : Rel _ _ _ _ _) (by kernel_rfl) hV
set_option maxRecDepth 100000 in
set_option maxHeartbeats 4000000 in
theorem same12_any (q : RfP) (u : List Nat) (L : Option Addr) (n cl B : Nat) (xs : List Int) (v : Bool) (w : World) (h : RfV q u w) (hu : u.length ≤ 1000) (hr : Reads w B 1 L n (ints xs)) (hB : B ≤ w.heap.size) (hn : n ≤ 1000000) (hv : sameI u xs = v) :
    Calls Tryz.prog 22 #[.pointer (some ⟨q.b, 0, none⟩), .slice L n cl] w fun e w' => e = .returned (.bool v) ∧ Below w.heap.size w w' := by
  obtain ⟨ρ, e0, hR, _⟩ := h.open_
  have hxl : xs.length = n := by have := hr.1; rw [ints_length] at this; omega
  have hr' : Reads w B 1 L n (xs.map fun z => [Value.int .i64 z]).flatten := by rw [flat_intsQ]; exact hr
  obtain ⟨b, A, c, vL⟩ := q
  dsimp only at e0 hR
  have hV : Sta (RfP.mk b A c vL).has (RfV (RfP.mk b A c vL) u) ρ [⟨[.v (.slice A u.length c), .v vL], false⟩] w := ⟨h, fun _ _ hw => wrS_allRo rfl hw, h.lt, RfV.same⟩
  have hag := hR.ag_ 1 (by kernel_rfl)
  refine sim_enter Tryz.func22 ρ [.ptr 0 0, .v (.slice L n cl)] [⟨[.v (.slice A u.length c), .v vL], false⟩] (by kernel_rfl) (by simp only [denL, LV.den, Nm.at_, e0]) ?_
  refine sim_run 10 [] (hR.cast (by kernel_rfl)) (by kernel_rfl) trivial (fun ρ100 w100 hm100 hR100 => ?_)
  have hV := hV.moved (hm100.castL (by kernel_rfl))
  have hag := hag.moved (hm100.castL (by kernel_rfl))
  
  have e0 := (hag.at_ 0 (by omega)).trans e0
  refine sim_loop (ι := Nat) (T := []) (w0 := w) 0 [0, 1] (fun i => [(5, LI i)]) (fun _ => [⟨[.v (.slice A u.length c), .v vL], false⟩]) (fun i w1 => i ≤ n ∧ (xs.take i).all (fun x => inU u x && (headI u x == headI u (xs.headD 0))) = true ∧ Sta (RfP.mk b A c vL).has (RfV (RfP.mk b A c vL) u) ρ100 [⟨[.v (.slice A u.length c), .v vL], false⟩] w1) (fun i => n - i) (by kernel_rfl) (by kernel_rfl) ((by assumption : Rel _ _ _ _ _).cast (by kernel_rfl)) ⟨Nat.zero_le _, rfl, hV.castR (by kernel_rfl)⟩ ?_
  iterate 8 (try clear hV)
  iterate 8 (try clear hag)
  rintro i d w2 hR2 ⟨hi, hall, hV⟩
  have hag := hR2.ag_ 1 (by kernel_rfl)
  by_cases hlt : i < n
  · obtain ⟨x, hx⟩ : ∃ x, xs[i]? = some x := ⟨_, List.getElem?_eq_getElem (by omega)⟩
    obtain ⟨x0, r, rfl⟩ : ∃ x0 r, xs = x0 :: r := by
      cases xs with
      | nil => simp at hx
      | cons a r => exact ⟨a, r, rfl⟩
    rw [List.headD_cons] at hall
    have hz : ((x0 :: r).map fun z => [Value.int .i64 z])[i]? = some [.int .i64 x] := by rw [List.getElem?_map, hx]; rfl
    have hz0 : ((x0 :: r).map fun z => [Value.int .i64 z])[0]? = some [.int .i64 x0] := rfl
    refine sim_see (n := n) [.int .i64 x] i 1 (by kernel_rfl) hz hr' (by intro y hy; obtain ⟨o, _, rfl⟩ := List.mem_map.1 hy; rfl) (by omega) hlt hB (by simp) hR2 (by kernel_rfl) (fun ga oa ρE eA hgT hgl hmE eE hRE => ?_)
    subst eA
    have hV := hV.moved hmE
    have hag0 := hag.moved hmE
    have hagE := hRE.ag_ 2 (by kernel_rfl)
    refine sim_see (n := n) [.int .i64 x0] 0 2 (by kernel_rfl) hz0 hr' (by intro y hy; obtain ⟨o, _, rfl⟩ := List.mem_map.1 hy; rfl) (by omega) (by omega) hB (by simp) hRE (by kernel_rfl) (fun gb ob ρF eB _ _ hmF eF hRF => ?_)
    injection eB with eB
    injection eB with eB1 eB2
    subst eB1 eB2
    have hV := hV.moved hmF
    have hag0 := hag0.moved hmF
    have hagE := hagE.moved hmF
    have hag := hRF.ag_ 3 (by kernel_rfl)
    have eE := (hagE.at_ 1 (by omega)).trans eE
    have e0z := e0
    refine sim_run 8 [] (hRF.cast (by kernel_rfl)) (by kernel_rfl) trivial (fun ρ1200 w1200 hm1200 hR1200 => ?_)
    have hV := hV.moved (hm1200.castL (by kernel_rfl))
    have hag0 := hag0.moved (hm1200.castL (by kernel_rfl))
    have hagE := hagE.moved (hm1200.castL (by kernel_rfl))
    have hag := hag.moved (hm1200.castL (by kernel_rfl))
    refine sim_know 9 (decide ((↑i : Int) < (↑n : Int))) true (by kernel_rfl) (decide_eq_true (by omega)) ?_
    refine sim_run 5 [] (hR1200.cast (by kernel_rfl)) (by kernel_rfl) trivial (fun ρ1201 w1201 hm1201 hR1201 => ?_)
    have hV := hV.moved (hm1201.castL (by kernel_rfl))
    have hag0 := hag0.moved (hm1201.castL (by kernel_rfl))
    have hagE := hagE.moved (hm1201.castL (by kernel_rfl))
    have hag := hag.moved (hm1201.castL (by kernel_rfl))
    
    have e0 := (hag0.at_ 0 (by omega)).trans e0z
    have eE := (hag.at_ 1 (by omega)).trans eE
    have eF := (hag.at_ 2 (by omega)).trans eF
    have hRz := (by assumption : Rel _ _ _ _ _).cast (rs' := [⟨[.v (.slice A u.length c), .v vL], false⟩, ⟨[LI x], false⟩, ⟨[LI x0], false⟩]) (by kernel_rfl)
    have hVz := hV.castR (rs' := [⟨[.v (.slice A u.length c), .v vL], false⟩, ⟨[LI x], false⟩, ⟨[LI x0], false⟩]) (by kernel_rfl)
    have hagz := hag0.castR (rs' := [⟨[.v (.slice A u.length c), .v vL], false⟩, ⟨[LI x], false⟩, ⟨[LI x0], false⟩]) (by kernel_rfl)
    refine sim_to (regK Tryz.f22 4) (tmplJ Tryz.f22.ntmps 0 [(0, .ptr 0 0), (1, .v (.slice (some ⟨ga, oa, none⟩) n cl)), (5, LI (i : Int))]) [⟨[.v (.slice A u.length c), .v vL], false⟩, ⟨[LI x], false⟩, ⟨[LI x0], false⟩] (by kernel_rfl) (by kernel_rfl) (by kernel_rfl) (fun d4 => ?_)
    cases hq : inU u x with
    | false =>
      have hvf : v = false := by rw [← hv]; exact all_not hx (by simp [hq])
      subst hvf
      exact same12_f hRz hVz e0 (by simpa using eE) (by simpa using eF) hu hlt hn hq d4 (fun w' hb => ⟨rfl, hb⟩)
    | true =>
      refine same12_t hRz hVz e0 (by simpa using eE) (by simpa using eF) hu hlt hn hq _ _ rfl rfl d4 (fun hne w' hb => ⟨?_, hb⟩) (fun he c' ρ' w' hk hm hl hag' hR' htk hV' => ?_)
      rotate_left
      · have hvf : v = false := by
          rw [← hv]
          refine all_not hx ?_
          rw [hq, List.headD_cons, Bool.true_and]
          exact beq_eq_false_iff_ne.2 hne
        rw [hvf]
      · have hall2 := all_take_succ (p := fun x => inU u x && (headI u x == headI u x0)) hx hall (by
          rw [hq, Bool.true_and]
          exact beq_iff_eq.2 he)
        have hagy : Ag 1 ρ100 ρ' c'.rs := ⟨hagz.ag.tr hag'.ag, hag'.le⟩
        exact sim_again (i + 1) hk (by show n - (i + 1) < n - i; omega) ((congrArg (mergeT · c'.tmps) (by kernel_rfl)).trans hm) ((congrArg List.length (by kernel_rfl)).trans hl) (by kernel_rfl) hagy.ag hR' htk (by kernel_rfl) ⟨hlt, hall2, hV'.cut hagy rfl htk⟩
  · have hvt : v = true := by
      rw [← hv]
      rw [List.take_of_length_le (by omega)] at hall
      exact hall
    subst hvt
    refine sim_run 8 [] (hR2.cast (by kernel_rfl)) (by kernel_rfl) trivial (fun ρ900 w900 hm900 hR900 => ?_)
    have hV := hV.moved (hm900.castL (by kernel_rfl))
    have hag := hag.moved (hm900.castL (by kernel_rfl))
    refine sim_know 9 (decide ((↑i : Int) < (↑n : Int))) false (by kernel_rfl) (decide_eq_false (by omega)) ?_
    refine sim_run 1 [] (hR900.cast (by kernel_rfl)) (by kernel_rfl) trivial (fun ρ901 w901 hm901 hR901 => ?_)
    have hV := hV.moved (hm901.castL (by kernel_rfl))
    have hag := hag.moved (hm901.castL (by kernel_rfl))
    refine sim_leave (by kernel_rfl) ?_
    refine sim_run 4 [] (hR901.cast (by kernel_rfl)) (by kernel_rfl) trivial (fun ρ902 w902 hm902 hR902 => ?_)
    have hV := hV.moved (hm902.castL (by kernel_rfl))
    have hag := hag.moved (hm902.castL (by kernel_rfl))
    refine sim_ret (LB true) hR902 (by kernel_rfl) (by kernel_rfl) ?_
    exact ⟨rfl, hR902.toBelow⟩
    
end

section
open Go Go.RowKit
theorem clsTo_all (u : List Nat) (h : Nat) : clsTo u h (u.length + 1) = Uf.cls u h := rfl
theorem clsU_in {u : List Nat} {k : Nat} (h : inU u ((k + 1 : Nat) : Int) = true) : clsU u ((k + 1 : Nat) : Int) = Uf.cls u (Uf.hd u (k + 1)) := by
  unfold clsU
  rw [if_pos h]
  rfl
theorem clsU_out {u : List Nat} {i : Int} (h : inU u i = false) : clsU u i = [] := by
  unfold clsU
  rw [if_neg (by rw [h]; simp)]
/-- a row of one's own that is new -/
def RowN (w : World) (xs : List Nat) (e : Ending) (w' : World) : Prop := ∃ A cp, e = .returned (.slice A xs.length cp) ∧ w'.ownsRow w.heap.size 3 1 (.slice A xs.length cp) xs.length (nats xs) ∧ Below w.heap.size w w'
theorem RowN.nil (w w' : World) (h : Below w.heap.size w w') : RowN w [] (.returned (.slice none 0 0)) w' := ⟨none, 0, rfl, World.ownsRow_nil _ _ _ _, h⟩
attribute [local irreducible] run goO leaveK someK nextK nextT nextOT nextOD loopBody loopRest loopK fillJ tmplOf tmplJ mergeT At AtO drawOk ordOf gateOf callC callO topOp topO idxOf appOf storeOf clearOf sliceOf calleeOf calleeO topQ idxQ newRowOf resL stepOp seek
set_option maxRecDepth 100000 in
set_option maxHeartbeats 4000000 in
theorem class12_any (q : RfP) (u : List Nat) (i : Int) (w : World) (h : RfV q u w) (hu : u.length ≤ 1000) :
    Calls Tryz.prog 25 #[.pointer (some ⟨q.b, 0, none⟩), .int .i64 i] w (RowN w (clsU u i)) := by
  obtain ⟨ρ, e0, hR, _⟩ := h.open_
  obtain ⟨b, A, c, vL⟩ := q
  dsimp only at e0 hR
  have hV : Sta (RfP.mk b A c vL).has (RfV (RfP.mk b A c vL) u) ρ [⟨[.v (.slice A u.length c), .v vL], false⟩] w := ⟨h, fun _ _ hw => wrS_allRo rfl hw, h.lt, RfV.same⟩
  have hag := hR.ag_ 1 (by kernel_rfl)
  refine sim_enter Tryz.func25 ρ [.ptr 0 0, LI i] [⟨[.v (.slice A u.length c), .v vL], false⟩] (by kernel_rfl) (by simp only [denL, LV.den, Nm.at_, e0]) ?_
  cases hq : inU u i with
  | false =>
    rw [clsU_out hq]
    refine sim_run 14 [] (hR.cast (by kernel_rfl)) (by kernel_rfl) trivial (fun ρ100 w100 hm100 hR100 => ?_)
    have hV := hV.moved (hm100.castL (by kernel_rfl))
    have hag := hag.moved (hm100.castL (by kernel_rfl))
    refine sim_unroll 2 (by kernel_rfl) ?_
    refine sim_run 12 [] (hR100.cast (by kernel_rfl)) (by kernel_rfl) trivial (fun ρ101 w101 hm101 hR101 => ?_)
    have hV := hV.moved (hm101.castL (by kernel_rfl))
    have hag := hag.moved (hm101.castL (by kernel_rfl))
    refine sim_fork 14 (decide (1 ≤ (↑u.length : Int))) (by kernel_rfl) (fun hq102 => ?_) (fun hq102 => ?_)
    have hq102 := of_decide_eq_true hq102
    refine sim_run 2 [] (hR101.cast (by kernel_rfl)) (by kernel_rfl) trivial (fun ρ103 w103 hm103 hR103 => ?_)
    have hV := hV.moved (hm103.castL (by kernel_rfl))
    have hag := hag.moved (hm103.castL (by kernel_rfl))
    refine sim_call 62 [.ptr 0 0, LI i] (by kernel_rfl) ?_
    have ez0_104 := (hag.at_ 0 (by omega)).trans e0
    simp only [denL, LV.den, Nm.at_, ez0_104, Nat.add_zero]
    refine Calls.mono (is12_eq ((RfP.mk b A c vL)) (u) _ (false) _ hV.is (by assumption)) ?_
    rintro e104 w104 ⟨rfl, hb104⟩
    have hR104 := hR103.below hb104
    have hV := hV.below hb104
    refine Back.of (LB false) hR104 rfl ?_
    refine sim_run 9 [] (hR104.cast (by kernel_rfl)) (by kernel_rfl) trivial (fun ρ105 w105 hm105 hR105 => ?_)
    have hag := hag.moved (hm105.castL (by kernel_rfl))
    have hV := hV.moved (hm105.castL (by kernel_rfl))
    refine sim_ret (.v (Value.slice none 0 0)) hR105 (by kernel_rfl) (by kernel_rfl) ?_
    exact RowN.nil _ _ (hR105).toBelow
    have hq102 := of_decide_eq_false hq102
    refine sim_run 12 [] (hR101.cast (by kernel_rfl)) (by kernel_rfl) trivial (fun ρ106 w106 hm106 hR106 => ?_)
    have hV := hV.moved (hm106.castL (by kernel_rfl))
    have hag := hag.moved (hm106.castL (by kernel_rfl))
    refine sim_ret (.v (Value.slice none 0 0)) hR106 (by kernel_rfl) (by kernel_rfl) ?_
    exact RowN.nil _ _ (hR106).toBelow
    
  | true =>
    obtain ⟨t, rfl, ht⟩ := inU_true hq
    rw [clsU_in hq]
    obtain ⟨hh, hhe⟩ : ∃ p, Uf.hd u (t + 1) = p := ⟨_, rfl⟩
    have hhI : headI u ((t + 1 : Nat) : Int) = (hh : Int) := by rw [headI_succ ht, hhe]
    rw [hhe]
    refine sim_run 14 [] (hR.cast (by kernel_rfl)) (by kernel_rfl) trivial (fun ρ300 w300 hm300 hR300 => ?_)
    have hV := hV.moved (hm300.castL (by kernel_rfl))
    have hag := hag.moved (hm300.castL (by kernel_rfl))
    
    have e0 := (hag.at_ 0 (by omega)).trans e0
    refine sim_loop (ι := Nat × Value) (T := []) (w0 := w) (1, .slice none 0 0) [0, 1] (fun s => [(5, .v s.2), (6, LI s.1)]) (fun _ => [⟨[.v (.slice A u.length c), .v vL], false⟩]) (fun s w1 => (1 ≤ s.1 ∧ s.1 ≤ u.length + 1) ∧ Own ρ300 [⟨[.v (.slice A u.length c), .v vL], false⟩] w1 w.heap.size 3 1 s.2 (clsTo u hh s.1).length (nats (clsTo u hh s.1)) ∧ Sta (RfP.mk b A c vL).has (RfV (RfP.mk b A c vL) u) ρ300 [⟨[.v (.slice A u.length c), .v vL], false⟩] w1) (fun s => u.length + 1 - s.1) (by kernel_rfl) (by kernel_rfl) ((by assumption : Rel _ _ _ _ _).cast (by kernel_rfl)) ⟨⟨Nat.le_refl _, by omega⟩, ⟨World.ownsRow_nil _ _ _ _, fun g hg => by cases hg⟩, hV.castR (by kernel_rfl)⟩ ?_
    iterate 8 (try clear hV)
    iterate 8 (try clear hag)
    rintro ⟨k, v⟩ d w2 hR2 ⟨⟨hk1, hk2⟩, hv, hV⟩
    dsimp only at hk1 hk2 hv hV
    have hag := hR2.ag_ 1 (by kernel_rfl)
    have hlen := clsTo_length u hh k
    by_cases hlt : k ≤ u.length
    · obtain ⟨p, hp⟩ : ∃ p, Uf.hd u k = p := ⟨_, rfl⟩
      have hpI : headI u (k : Int) = (p : Int) := by rw [headI_nat ⟨hk1, hlt⟩, hp]
      have hsucc := clsTo_succ u hh k hk1
      rw [hp] at hsucc
      by_cases hph : p = hh
      · rw [if_pos hph] at hsucc
        refine sim_run 11 [] (hR2.cast (by kernel_rfl)) (by kernel_rfl) trivial (fun ρ400 w400 hm400 hR400 => ?_)
        have hv := hv.moved (hm400.castL (by kernel_rfl))
        have hV := hV.moved (hm400.castL (by kernel_rfl))
        have hag := hag.moved (hm400.castL (by kernel_rfl))
        refine sim_know 14 (decide ((↑(k, v).fst : Int) ≤ (↑u.length : Int))) true (by kernel_rfl) (decide_eq_true (by omega)) ?_
        refine sim_run 2 [] (hR400.cast (by kernel_rfl)) (by kernel_rfl) trivial (fun ρ401 w401 hm401 hR401 => ?_)
        have hv := hv.moved (hm401.castL (by kernel_rfl))
        have hV := hV.moved (hm401.castL (by kernel_rfl))
        have hag := hag.moved (hm401.castL (by kernel_rfl))
        refine sim_call 62 [.ptr 0 0, LI ((↑(t + 1) : Int))] (by kernel_rfl) ?_
        have ez0_402 := (hag.at_ 0 (by omega)).trans e0
        simp only [denL, LV.den, Nm.at_, ez0_402, Nat.add_zero]
        refine Calls.mono (is12_eq ((RfP.mk b A c vL)) (u) _ (true) _ hV.is (by assumption)) ?_
        rintro e402 w402 ⟨rfl, hb402⟩
        have hR402 := hR401.below hb402
        have hv := hv.below hb402
        have hV := hV.below hb402
        refine Back.of (LB true) hR402 rfl ?_
        refine sim_run 10 [] (hR402.cast (by kernel_rfl)) (by kernel_rfl) trivial (fun ρ403 w403 hm403 hR403 => ?_)
        have hag := hag.moved (hm403.castL (by kernel_rfl))
        have hv := hv.moved (hm403.castL (by kernel_rfl))
        have hV := hV.moved (hm403.castL (by kernel_rfl))
        refine sim_call 20 [.ptr 0 0, LI ((↑k : Int))] (by kernel_rfl) ?_
        have ez0_404 := (hag.at_ 0 (by omega)).trans e0
        simp only [denL, LV.den, Nm.at_, ez0_404, Nat.add_zero]
        refine Calls.mono (head12_eq ((RfP.mk b A c vL)) (u) _ _ _ hV.is (by assumption) (by assumption)) ?_
        rintro e404 w404 ⟨rfl, hb404⟩
        have hR404 := hR403.below hb404
        have hv := hv.below hb404
        have hV := hV.below hb404
        refine Back.of (LI ((↑p : Int))) hR404 rfl ?_
        refine sim_run 2 [] (hR404.cast (by kernel_rfl)) (by kernel_rfl) trivial (fun ρ405 w405 hm405 hR405 => ?_)
        have hag := hag.moved (hm405.castL (by kernel_rfl))
        have hv := hv.moved (hm405.castL (by kernel_rfl))
        have hV := hV.moved (hm405.castL (by kernel_rfl))
        refine sim_call 20 [.ptr 0 0, LI ((↑(t + 1) : Int))] (by kernel_rfl) ?_
        have ez0_406 := (hag.at_ 0 (by omega)).trans e0
        simp only [denL, LV.den, Nm.at_, ez0_406, Nat.add_zero]
        refine Calls.mono (head12_eq ((RfP.mk b A c vL)) (u) _ _ _ hV.is (by assumption) (by assumption)) ?_
        rintro e406 w406 ⟨rfl, hb406⟩
        have hR406 := hR405.below hb406
        have hv := hv.below hb406
        have hV := hV.below hb406
        refine Back.of (LI ((↑hh : Int))) hR406 rfl ?_
        refine sim_run 2 [] (hR406.cast (by kernel_rfl)) (by kernel_rfl) trivial (fun ρ407 w407 hm407 hR407 => ?_)
        have hag := hag.moved (hm407.castL (by kernel_rfl))
        have hv := hv.moved (hm407.castL (by kernel_rfl))
        have hV := hV.moved (hm407.castL (by kernel_rfl))
        refine sim_know 27 ((↑p : Int) == (↑hh : Int)) true (by kernel_rfl) (decide_eq_true (by omega)) ?_
        refine sim_run 5 [] (hR407.cast (by kernel_rfl)) (by kernel_rfl) trivial (fun ρ408 w408 hm408 hR408 => ?_)
        have hag := hag.moved (hm408.castL (by kernel_rfl))
        have hv := hv.moved (hm408.castL (by kernel_rfl))
        have hV := hV.moved (hm408.castL (by kernel_rfl))
        
        refine sim_appendO 31 v (.slc 1 0 1 1) (by kernel_rfl) hR408 tyI hv 1 1 1 rfl [LI (k : Int)] (by kernel_rfl) rfl (by kernel_rfl) (by unfold maxLen; omega) (by omega) hR408.keeps.size (fun g' hg' => .inr (own_ge hv.own hg')) [0] (by kernel_rfl) (fun k0 hk0 g hg => ?_) (fun v' w7 hv' hgw hR7 => ?_)
        · obtain rfl := List.mem_singleton.1 hk0
          rw [hag.at_ 0 (by omega), e0]
          exact fun e => by have h1 := own_ge hv.own hg; have h2 := h.blk.lt; have e : b = g := e; dsimp only at h2; omega
        have hV := hV.grown hgw (fun y hy hyg => by have h1 := own_ge hv.own hyg; have h2 := h.lt y hy; omega)
        have hv := hv'
        clear hv'
        refine sim_run 8 [⟨4, 1, LI (IntKind.i64.wrap ((↑k : Int) + 1)), LI ((↑k : Int) + 1)⟩] (hR7.cast (by kernel_rfl)) (by kernel_rfl) ⟨eqi (IntWalk.i64_in _ (by omega)), trivial⟩ (fun ρ500 w500 hm500 hR500 => ?_)
        have hag := hag.moved (hm500.castL (by kernel_rfl))
        have hV := hV.moved (hm500.castL (by kernel_rfl))
        have hv := hv.moved (hm500.castL (by kernel_rfl))
        
        refine sim_again (k + 1, v') (by kernel_rfl) (by show u.length + 1 - (k + 1) < u.length + 1 - k; omega) (by kernel_rfl) (by kernel_rfl) (by kernel_rfl) hag.ag (Rel.cast (by assumption) (by kernel_rfl)) (by kernel_rfl) (by kernel_rfl) ⟨⟨by omega, by omega⟩, ?_, hV.cut hag rfl (by kernel_rfl)⟩
        rw [hsucc, List.length_append, nats_append]
        exact hv.cut hag rfl (by kernel_rfl)
      · rw [if_neg hph, List.append_nil] at hsucc
        refine sim_run 11 [] (hR2.cast (by kernel_rfl)) (by kernel_rfl) trivial (fun ρ600 w600 hm600 hR600 => ?_)
        have hv := hv.moved (hm600.castL (by kernel_rfl))
        have hV := hV.moved (hm600.castL (by kernel_rfl))
        have hag := hag.moved (hm600.castL (by kernel_rfl))
        refine sim_know 14 (decide ((↑(k, v).fst : Int) ≤ (↑u.length : Int))) true (by kernel_rfl) (decide_eq_true (by omega)) ?_
        refine sim_run 2 [] (hR600.cast (by kernel_rfl)) (by kernel_rfl) trivial (fun ρ601 w601 hm601 hR601 => ?_)
        have hv := hv.moved (hm601.castL (by kernel_rfl))
        have hV := hV.moved (hm601.castL (by kernel_rfl))
        have hag := hag.moved (hm601.castL (by kernel_rfl))
        refine sim_call 62 [.ptr 0 0, LI ((↑(t + 1) : Int))] (by kernel_rfl) ?_
        have ez0_602 := (hag.at_ 0 (by omega)).trans e0
        simp only [denL, LV.den, Nm.at_, ez0_602, Nat.add_zero]
        refine Calls.mono (is12_eq ((RfP.mk b A c vL)) (u) _ (true) _ hV.is (by assumption)) ?_
        rintro e602 w602 ⟨rfl, hb602⟩
        have hR602 := hR601.below hb602
        have hv := hv.below hb602
        have hV := hV.below hb602
        refine Back.of (LB true) hR602 rfl ?_
        refine sim_run 10 [] (hR602.cast (by kernel_rfl)) (by kernel_rfl) trivial (fun ρ603 w603 hm603 hR603 => ?_)
        have hag := hag.moved (hm603.castL (by kernel_rfl))
        have hv := hv.moved (hm603.castL (by kernel_rfl))
        have hV := hV.moved (hm603.castL (by kernel_rfl))
        refine sim_call 20 [.ptr 0 0, LI ((↑k : Int))] (by kernel_rfl) ?_
        have ez0_604 := (hag.at_ 0 (by omega)).trans e0
        simp only [denL, LV.den, Nm.at_, ez0_604, Nat.add_zero]
        refine Calls.mono (head12_eq ((RfP.mk b A c vL)) (u) _ _ _ hV.is (by assumption) (by assumption)) ?_
        rintro e604 w604 ⟨rfl, hb604⟩
        have hR604 := hR603.below hb604
        have hv := hv.below hb604
        have hV := hV.below hb604
        refine Back.of (LI ((↑p : Int))) hR604 rfl ?_
        refine sim_run 2 [] (hR604.cast (by kernel_rfl)) (by kernel_rfl) trivial (fun ρ605 w605 hm605 hR605 => ?_)
        have hag := hag.moved (hm605.castL (by kernel_rfl))
        have hv := hv.moved (hm605.castL (by kernel_rfl))
        have hV := hV.moved (hm605.castL (by kernel_rfl))
        refine sim_call 20 [.ptr 0 0, LI ((↑(t + 1) : Int))] (by kernel_rfl) ?_
        have ez0_606 := (hag.at_ 0 (by omega)).trans e0
        simp only [denL, LV.den, Nm.at_, ez0_606, Nat.add_zero]
        refine Calls.mono (head12_eq ((RfP.mk b A c vL)) (u) _ _ _ hV.is (by assumption) (by assumption)) ?_
        rintro e606 w606 ⟨rfl, hb606⟩
        have hR606 := hR605.below hb606
        have hv := hv.below hb606
        have hV := hV.below hb606
        refine Back.of (LI ((↑hh : Int))) hR606 rfl ?_
        refine sim_run 2 [] (hR606.cast (by kernel_rfl)) (by kernel_rfl) trivial (fun ρ607 w607 hm607 hR607 => ?_)
        have hag := hag.moved (hm607.castL (by kernel_rfl))
        have hv := hv.moved (hm607.castL (by kernel_rfl))
        have hV := hV.moved (hm607.castL (by kernel_rfl))
        refine sim_know 27 ((↑p : Int) == (↑hh : Int)) false (by kernel_rfl) (decide_eq_false (by omega)) ?_
        refine sim_run 8 [⟨4, 1, LI (IntKind.i64.wrap ((↑k : Int) + 1)), LI ((↑k : Int) + 1)⟩] (hR607.cast (by kernel_rfl)) (by kernel_rfl) ⟨eqi (IntWalk.i64_in _ (by omega)), trivial⟩ (fun ρ608 w608 hm608 hR608 => ?_)
        have hag := hag.moved (hm608.castL (by kernel_rfl))
        have hv := hv.moved (hm608.castL (by kernel_rfl))
        have hV := hV.moved (hm608.castL (by kernel_rfl))
        
        exact sim_again (k + 1, v) (by kernel_rfl) (by show u.length + 1 - (k + 1) < u.length + 1 - k; omega) (by kernel_rfl) (by kernel_rfl) (by kernel_rfl) hag.ag (Rel.cast (by assumption) (by kernel_rfl)) (by kernel_rfl) (by kernel_rfl) ⟨⟨by omega, by omega⟩, by rw [hsucc]; exact hv.cut hag rfl (by kernel_rfl), hV.cut hag rfl (by kernel_rfl)⟩
    · obtain rfl : k = u.length + 1 := by omega
      rw [clsTo_all] at hv
      obtain ⟨Av, cv, rfl⟩ := own_row' hv.own
      refine sim_run 11 [] (hR2.cast (by kernel_rfl)) (by kernel_rfl) trivial (fun ρ700 w700 hm700 hR700 => ?_)
      have hV := hV.moved (hm700.castL (by kernel_rfl))
      have hag := hag.moved (hm700.castL (by kernel_rfl))
      have hv := hv.moved (hm700.castL (by kernel_rfl))
      refine sim_know 14 (decide ((↑(u.length + 1, Value.slice Av (Uf.cls u hh).length cv).fst : Int) ≤ (↑u.length : Int))) false (by kernel_rfl) (decide_eq_false (by omega)) ?_
      refine sim_run 6 [] (hR700.cast (by kernel_rfl)) (by kernel_rfl) trivial (fun ρ701 w701 hm701 hR701 => ?_)
      have hV := hV.moved (hm701.castL (by kernel_rfl))
      have hag := hag.moved (hm701.castL (by kernel_rfl))
      have hv := hv.moved (hm701.castL (by kernel_rfl))
      refine sim_leave (by kernel_rfl) ?_
      refine sim_run 5 [] (hR701.cast (by kernel_rfl)) (by kernel_rfl) trivial (fun ρ702 w702 hm702 hR702 => ?_)
      have hV := hV.moved (hm702.castL (by kernel_rfl))
      have hag := hag.moved (hm702.castL (by kernel_rfl))
      have hv := hv.moved (hm702.castL (by kernel_rfl))
      refine sim_ret (.v (Value.slice Av (Uf.cls u hh).length cv)) hR702 (by kernel_rfl) (by kernel_rfl) ?_
      
      exact ⟨Av, cv, rfl, hv.own, ((by assumption : Rel _ _ _ _ _)).toBelow⟩
end

section
open Go Go.RowKit
theorem headsTo_all (u : List Nat) : headsTo u (u.length + 1) = Uf.heads u := rfl
/-- the rows of some heads -/
def ClsS (u hs : List Nat) (rows : List BRow) : Prop := rows.map (fun r => (r.n, r.xs)) = hs.map fun h => ((Uf.cls u h).length, nats (Uf.cls u h))
theorem ClsS.length {u hs : List Nat} {rows : List BRow} (h : ClsS u hs rows) : rows.length = hs.length := by
  have := congrArg List.length h
  simpa using this
theorem ClsS.snoc {u hs : List Nat} {rows : List BRow} (h : ClsS u hs rows) (k : Nat) (v : Value) : ClsS u (hs ++ [k]) (rows ++ [⟨v, (Uf.cls u k).length, nats (Uf.cls u k)⟩]) := by
  unfold ClsS at h ⊢
  rw [List.map_append, List.map_append, h]
  rfl
theorem clsU_head {u : List Nat} {k : Nat} (h1 : 1 ≤ k) (h2 : k ≤ u.length) (h : Uf.hd u k = k) : clsU u (k : Int) = Uf.cls u k := by
  unfold clsU
  rw [if_pos (by unfold inU; rw [Bool.and_eq_true, decide_eq_true_iff, decide_eq_true_iff]; omega), Int.toNat_natCast, h]
/-- rows that are new, each its own -/
def ClsR (w : World) (xss : List (List Nat)) (e : Ending) (w' : World) : Prop :=
  ∃ A cp, ∃ rows : List BRow, e = .returned (.slice A xss.length cp) ∧ rows.map (fun r => (r.n, r.xs)) = xss.map (fun l => (l.length, nats l)) ∧ w'.ownsRow w.heap.size 31 1 (.slice A xss.length cp) xss.length (rows.map BRow.v) ∧ (∀ r ∈ rows, w'.ownsRow w.heap.size 3 1 r.v r.n r.xs) ∧ (rows.Pairwise fun a b => ∀ g, a.v.ownBlock = some g → b.v.ownBlock ≠ some g) ∧ Below w.heap.size w w'
attribute [local irreducible] run goO leaveK someK nextK nextT nextOT nextOD loopBody loopRest loopK fillJ tmplOf tmplJ mergeT At AtO drawOk ordOf gateOf callC callO topOp topO idxOf appOf storeOf clearOf sliceOf calleeOf calleeO topQ idxQ newRowOf resL stepOp seek
set_option maxRecDepth 100000 in
set_option maxHeartbeats 4000000 in
theorem classes12_any (q : RfP) (u : List Nat) (w : World) (h : RfV q u w) (_ : Uf.Good u) (hu : u.length ≤ 1000) :
    Calls Tryz.prog 18 #[.pointer (some ⟨q.b, 0, none⟩)] w (ClsR w (Uf.classes u)) := by
  obtain ⟨ρ, e0, hR, _⟩ := h.open_
  obtain ⟨b, A, c, vL⟩ := q
  dsimp only at e0 hR
  have hV : Sta (RfP.mk b A c vL).has (RfV (RfP.mk b A c vL) u) ρ [⟨[.v (.slice A u.length c), .v vL], false⟩] w := ⟨h, fun _ _ hw => wrS_allRo rfl hw, h.lt, RfV.same⟩
  have hag := hR.ag_ 1 (by kernel_rfl)
  refine sim_enter Tryz.func18 ρ [.ptr 0 0] [⟨[.v (.slice A u.length c), .v vL], false⟩] (by kernel_rfl) (by simp only [denL, LV.den, Nm.at_, e0]) ?_
  refine sim_run 14 [] (hR.cast (by kernel_rfl)) (by kernel_rfl) trivial (fun ρ100 w100 hm100 hR100 => ?_)
  have hV := hV.moved (hm100.castL (by kernel_rfl))
  have hag := hag.moved (hm100.castL (by kernel_rfl))
  
  have e0 := (hag.at_ 0 (by omega)).trans e0
  refine sim_loop (ι := Nat × Value × List BRow) (T := []) (w0 := w) (1, .slice none 0 0, []) [0] (fun s => [(3, .v s.2.1), (4, LI s.1)]) (fun _ => [⟨[.v (.slice A u.length c), .v vL], false⟩]) (fun s w1 => (1 ≤ s.1 ∧ s.1 ≤ u.length + 1) ∧ ClsS u (headsTo u s.1) s.2.2 ∧ Own ρ100 [⟨[.v (.slice A u.length c), .v vL], false⟩] w1 w.heap.size 31 1 s.2.1 (headsTo u s.1).length (s.2.2.map BRow.v) ∧ BkR w.heap.size 3 1 s.2.2 ρ100 [⟨[.v (.slice A u.length c), .v vL], false⟩] w1 ∧ Sta (RfP.mk b A c vL).has (RfV (RfP.mk b A c vL) u) ρ100 [⟨[.v (.slice A u.length c), .v vL], false⟩] w1) (fun s => u.length + 1 - s.1) (by kernel_rfl) (by kernel_rfl) ((by assumption : Rel _ _ _ _ _).cast (by kernel_rfl)) ⟨⟨Nat.le_refl _, by omega⟩, rfl, ⟨World.ownsRow_nil _ _ _ _, fun g hg => by cases hg⟩, BkR.nil, hV.castR (by kernel_rfl)⟩ ?_
  iterate 8 (try clear hV)
  iterate 8 (try clear hag)
  rintro ⟨k, vo, rows⟩ d w2 hR2 ⟨⟨hk1, hk2⟩, hS, hO, hr, hV⟩
  dsimp only at hk1 hk2 hS hO hr hV
  have hag := hR2.ag_ 1 (by kernel_rfl)
  have hlen := headsTo_length u k
  by_cases hlt : k ≤ u.length
  · obtain ⟨p, hp⟩ : ∃ p, Uf.hd u k = p := ⟨_, rfl⟩
    have hk : inU u (k : Int) = true := by unfold inU; rw [Bool.and_eq_true, decide_eq_true_iff, decide_eq_true_iff]; omega
    have hkI : headI u (k : Int) = (p : Int) := by rw [headI_nat ⟨hk1, hlt⟩, hp]
    have hsucc := headsTo_succ u k hk1
    rw [hp] at hsucc
    by_cases hpk : p = k
    · rw [if_pos hpk] at hsucc
      refine sim_run 11 [] (hR2.cast (by kernel_rfl)) (by kernel_rfl) trivial (fun ρ200 w200 hm200 hR200 => ?_)
      have hO := hO.moved (hm200.castL (by kernel_rfl))
      have hr := hr.moved (hm200.castL (by kernel_rfl))
      have hV := hV.moved (hm200.castL (by kernel_rfl))
      have hag := hag.moved (hm200.castL (by kernel_rfl))
      refine sim_know 11 (decide ((↑(k, vo, rows).fst : Int) ≤ (↑u.length : Int))) true (by kernel_rfl) (decide_eq_true (by omega)) ?_
      refine sim_run 8 [] (hR200.cast (by kernel_rfl)) (by kernel_rfl) trivial (fun ρ201 w201 hm201 hR201 => ?_)
      have hO := hO.moved (hm201.castL (by kernel_rfl))
      have hr := hr.moved (hm201.castL (by kernel_rfl))
      have hV := hV.moved (hm201.castL (by kernel_rfl))
      have hag := hag.moved (hm201.castL (by kernel_rfl))
      refine sim_call 20 [.ptr 0 0, LI ((↑(k, vo, rows).fst : Int))] (by kernel_rfl) ?_
      have ez0_202 := (hag.at_ 0 (by omega)).trans e0
      simp only [denL, LV.den, Nm.at_, ez0_202, Nat.add_zero]
      refine Calls.mono (head12_eq ((RfP.mk b A c vL)) (u) _ _ _ hV.is (by assumption) (by assumption)) ?_
      rintro e202 w202 ⟨rfl, hb202⟩
      have hR202 := hR201.below hb202
      have hO := hO.below hb202
      have hr := hr.below hb202
      have hV := hV.below hb202
      refine Back.of (LI ((↑p : Int))) hR202 rfl ?_
      refine sim_run 3 [] (hR202.cast (by kernel_rfl)) (by kernel_rfl) trivial (fun ρ203 w203 hm203 hR203 => ?_)
      have hag := hag.moved (hm203.castL (by kernel_rfl))
      have hO := hO.moved (hm203.castL (by kernel_rfl))
      have hr := hr.moved (hm203.castL (by kernel_rfl))
      have hV := hV.moved (hm203.castL (by kernel_rfl))
      refine sim_know 18 ((↑p : Int) == (↑k : Int)) true (by kernel_rfl) (decide_eq_true (by omega)) ?_
      refine sim_run 5 [] (hR203.cast (by kernel_rfl)) (by kernel_rfl) trivial (fun ρ204 w204 hm204 hR204 => ?_)
      have hag := hag.moved (hm204.castL (by kernel_rfl))
      have hO := hO.moved (hm204.castL (by kernel_rfl))
      have hr := hr.moved (hm204.castL (by kernel_rfl))
      have hV := hV.moved (hm204.castL (by kernel_rfl))
      refine sim_call 25 [.ptr 0 0, LI ((↑k : Int))] (by kernel_rfl) ?_
      have ez0_205 := (hag.at_ 0 (by omega)).trans e0
      simp only [denL, LV.den, Nm.at_, ez0_205, Nat.add_zero]
      refine Calls.mono (class12_any ((RfP.mk b A c vL)) (u) _ _ hV.is (by assumption)) ?_
      rintro e205 w205 ⟨Ac, cc, rfl, hC, hb205⟩
      have hCs := hR204.keeps.size
      have hrl : ∀ r ∈ rows, ∀ g, r.v.ownBlock = some g → (Value.slice Ac (clsU u k).length cc).ownBlock ≠ some g := fun r hr' g h1 h2 => by have h3 := own_lt (hr.own r hr').own h1; have h4 := own_ge hC h2; omega
      have hC := Own.start hR204 hC
      have hO := hO.below hb205
      have hr := hr.below hb205
      have hV := hV.below hb205
      have hR205 := hR204.below hb205
      refine Back.of (.v (Value.slice Ac (clsU u (↑k : Int)).length cc)) hR205 rfl ?_
      refine sim_run 1 [] (hR205.cast (by kernel_rfl)) (by kernel_rfl) trivial (fun ρ206 w206 hm206 hR206 => ?_)
      have hag := hag.moved (hm206.castL (by kernel_rfl))
      have hC := hC.moved (hm206.castL (by kernel_rfl))
      have hO := hO.moved (hm206.castL (by kernel_rfl))
      have hr := hr.moved (hm206.castL (by kernel_rfl))
      have hV := hV.moved (hm206.castL (by kernel_rfl))
      
      have hcl := clsU_head hk1 hlt (by rw [hp, hpk])
      refine sim_appendO 39 vo (.slc 1 0 1 1) (by kernel_rfl) hR206 tyII hO 1 1 1 rfl [.v (.slice Ac (clsU u (k : Int)).length cc)] (by kernel_rfl) rfl (by kernel_rfl) (by unfold maxLen; omega) (by omega) hR206.keeps.size (fun g' hg' => .inr (own_ge hO.own hg')) [0] (by kernel_rfl) (fun k0 hk0 g hg => ?_) (fun vo2 w7 hO2 hgw hR7 => ?_)
      · obtain rfl := List.mem_singleton.1 hk0
        rw [hag.at_ 0 (by omega), e0]
        exact fun e => by have h1 := own_ge hO.own hg; have h2 := h.blk.lt; have e : b = g := e; dsimp only at h2; omega
      have hV := hV.grown hgw (fun y hy hyg => by have h1 := own_ge hO.own hyg; have h2 := h.lt y hy; omega)
      have hr := hr.grown hgw (fun r hr' g h1 => own_ne (hr.own r hr').own hO.own (by decide) g h1)
      have hC := hC.grown hgw (own_ne hC.own hO.own (by decide))
      clear hO
      have hO := hO2
      clear hO2
      have hr := hr.snoc ⟨own_base0 hC.own hCs, hC.far⟩ hrl
      clear hC
      refine sim_run 8 [⟨4, 1, LI (IntKind.i64.wrap ((↑k : Int) + 1)), LI ((↑k : Int) + 1)⟩] (hR7.cast (by kernel_rfl)) (by kernel_rfl) ⟨eqi (IntWalk.i64_in _ (by omega)), trivial⟩ (fun ρ300 w300 hm300 hR300 => ?_)
      have hag := hag.moved (hm300.castL (by kernel_rfl))
      have hV := hV.moved (hm300.castL (by kernel_rfl))
      have hO := hO.moved (hm300.castL (by kernel_rfl))
      have hr := hr.moved (hm300.castL (by kernel_rfl))
      
      refine sim_again (k + 1, vo2, rows ++ [⟨.slice Ac (clsU u (k : Int)).length cc, (clsU u (k : Int)).length, nats (clsU u (k : Int))⟩]) (by kernel_rfl) (by show u.length + 1 - (k + 1) < u.length + 1 - k; omega) (by kernel_rfl) (by kernel_rfl) (by kernel_rfl) hag.ag (Rel.cast (by assumption) (by kernel_rfl)) (by kernel_rfl) (by kernel_rfl) ⟨⟨by omega, by omega⟩, ?_, ?_, hr.cut hag rfl (by kernel_rfl), hV.cut hag rfl (by kernel_rfl)⟩
      · rw [hsucc, hcl]
        exact hS.snoc k _
      · rw [hsucc, List.length_append, List.map_append]
        exact hO.cut hag rfl (by kernel_rfl)
    · rw [if_neg hpk, List.append_nil] at hsucc
      refine sim_run 11 [] (hR2.cast (by kernel_rfl)) (by kernel_rfl) trivial (fun ρ400 w400 hm400 hR400 => ?_)
      have hO := hO.moved (hm400.castL (by kernel_rfl))
      have hr := hr.moved (hm400.castL (by kernel_rfl))
      have hV := hV.moved (hm400.castL (by kernel_rfl))
      have hag := hag.moved (hm400.castL (by kernel_rfl))
      refine sim_know 11 (decide ((↑(k, vo, rows).fst : Int) ≤ (↑u.length : Int))) true (by kernel_rfl) (decide_eq_true (by omega)) ?_
      refine sim_run 8 [] (hR400.cast (by kernel_rfl)) (by kernel_rfl) trivial (fun ρ401 w401 hm401 hR401 => ?_)
      have hO := hO.moved (hm401.castL (by kernel_rfl))
      have hr := hr.moved (hm401.castL (by kernel_rfl))
      have hV := hV.moved (hm401.castL (by kernel_rfl))
      have hag := hag.moved (hm401.castL (by kernel_rfl))
      refine sim_call 20 [.ptr 0 0, LI ((↑(k, vo, rows).fst : Int))] (by kernel_rfl) ?_
      have ez0_402 := (hag.at_ 0 (by omega)).trans e0
      simp only [denL, LV.den, Nm.at_, ez0_402, Nat.add_zero]
      refine Calls.mono (head12_eq ((RfP.mk b A c vL)) (u) _ _ _ hV.is (by assumption) (by assumption)) ?_
      rintro e402 w402 ⟨rfl, hb402⟩
      have hR402 := hR401.below hb402
      have hO := hO.below hb402
      have hr := hr.below hb402
      have hV := hV.below hb402
      refine Back.of (LI ((↑p : Int))) hR402 rfl ?_
      refine sim_run 3 [] (hR402.cast (by kernel_rfl)) (by kernel_rfl) trivial (fun ρ403 w403 hm403 hR403 => ?_)
      have hag := hag.moved (hm403.castL (by kernel_rfl))
      have hO := hO.moved (hm403.castL (by kernel_rfl))
      have hr := hr.moved (hm403.castL (by kernel_rfl))
      have hV := hV.moved (hm403.castL (by kernel_rfl))
      refine sim_know 18 ((↑p : Int) == (↑k : Int)) false (by kernel_rfl) (decide_eq_false (by omega)) ?_
      refine sim_run 8 [⟨4, 1, LI (IntKind.i64.wrap ((↑k : Int) + 1)), LI ((↑k : Int) + 1)⟩] (hR403.cast (by kernel_rfl)) (by kernel_rfl) ⟨eqi (IntWalk.i64_in _ (by omega)), trivial⟩ (fun ρ404 w404 hm404 hR404 => ?_)
      have hag := hag.moved (hm404.castL (by kernel_rfl))
      have hO := hO.moved (hm404.castL (by kernel_rfl))
      have hr := hr.moved (hm404.castL (by kernel_rfl))
      have hV := hV.moved (hm404.castL (by kernel_rfl))
      
      exact sim_again (k + 1, vo, rows) (by kernel_rfl) (by show u.length + 1 - (k + 1) < u.length + 1 - k; omega) (by kernel_rfl) (by kernel_rfl) (by kernel_rfl) hag.ag (Rel.cast (by assumption) (by kernel_rfl)) (by kernel_rfl) (by kernel_rfl) ⟨⟨by omega, by omega⟩, by rw [hsucc]; exact hS, by rw [hsucc]; exact hO.cut hag rfl (by kernel_rfl), hr.cut hag rfl (by kernel_rfl), hV.cut hag rfl (by kernel_rfl)⟩
  · obtain rfl : k = u.length + 1 := by omega
    have hkf : inU u ((u.length + 1 : Nat) : Int) = false := by unfold inU; rw [Bool.and_eq_false_iff, decide_eq_false_iff_not, decide_eq_false_iff_not]; omega
    rw [headsTo_all] at hO hS
    obtain ⟨Av, cv, rfl⟩ := own_row' hO.own
    have hel : (Uf.heads u).length = (Uf.classes u).length := by unfold Uf.classes; rw [List.length_map]
    refine sim_run 11 [] (hR2.cast (by kernel_rfl)) (by kernel_rfl) trivial (fun ρ500 w500 hm500 hR500 => ?_)
    have hr := hr.moved (hm500.castL (by kernel_rfl))
    have hV := hV.moved (hm500.castL (by kernel_rfl))
    have hag := hag.moved (hm500.castL (by kernel_rfl))
    have hO := hO.moved (hm500.castL (by kernel_rfl))
    refine sim_know 11 (decide ((↑(u.length + 1, Value.slice Av (Uf.heads u).length cv, rows).fst : Int) ≤ (↑u.length : Int))) false (by kernel_rfl) (decide_eq_false (by omega)) ?_
    refine sim_run 1 [] (hR500.cast (by kernel_rfl)) (by kernel_rfl) trivial (fun ρ501 w501 hm501 hR501 => ?_)
    have hr := hr.moved (hm501.castL (by kernel_rfl))
    have hV := hV.moved (hm501.castL (by kernel_rfl))
    have hag := hag.moved (hm501.castL (by kernel_rfl))
    have hO := hO.moved (hm501.castL (by kernel_rfl))
    refine sim_leave (by kernel_rfl) ?_
    refine sim_run 5 [] (hR501.cast (by kernel_rfl)) (by kernel_rfl) trivial (fun ρ502 w502 hm502 hR502 => ?_)
    have hr := hr.moved (hm502.castL (by kernel_rfl))
    have hV := hV.moved (hm502.castL (by kernel_rfl))
    have hag := hag.moved (hm502.castL (by kernel_rfl))
    have hO := hO.moved (hm502.castL (by kernel_rfl))
    refine sim_ret (.v (Value.slice Av (Uf.heads u).length cv)) hR502 (by kernel_rfl) (by kernel_rfl) ?_
    
    refine ⟨Av, cv, rows, by rw [hel]; rfl, ?_, by rw [← hel]; exact hO.own, fun r hr' => (hr.own r hr').own, hr.apart, ((by assumption : Rel _ _ _ _ _)).toBelow⟩
    unfold ClsS at hS
    rw [hS]
    unfold Uf.classes
    rw [List.map_map]
    rfl
end
end Go.Proofs.YtedfbdeklepekaaGreat
