/-
  slices.Clone, slices.Grow and slices.Concat (of two) at api.Pledge.
-/
import Derived.Test.YtioehmngkoffaaaCrAP
import Derived.Test.YtioehmngkoffaaaAppR
import Derived.Shelf.Spec.SlicesGrow
namespace Go.Proofs.Ytioehmngkoffaaa
open Go Go.RowKit Go.Shelf
theorem tyPl : RowTy Try.prog 26 49 2 24 := RowTy.of Try.underlying26 (by kernel_rfl) (by kernel_rfl)
def renGPl : Ren := ⟨fun k => if k = 4 then 39 else k, fun k => if k = 0 then 0 else if k = 3 then 3 else if k = 4 then 4 else if k = 9 then 9 else if k = 20 then 20 else if k = 22 then 26 else if k = 25 then 49 else k, fun k => k⟩
set_option maxRecDepth 100000 in
theorem laysGPl : Lays8.n4 Try.prog renGPl where
  mixed := by kernel_rfl
  f4 := Exists.intro "slices.Grow[[]compline/api.Pledge,compline/api.Pledge]" ⟨by kernel_rfl, by kernel_rfl⟩
  t0 := by kernel_rfl
  a0 := fun _ => by kernel_rfl
  z0 := fun _ => by kernel_rfl
  v0 := fun _ => by kernel_rfl
  t3 := by kernel_rfl
  a3 := fun _ => by kernel_rfl
  z3 := fun _ => by kernel_rfl
  v3 := fun _ => by kernel_rfl
  t4 := by kernel_rfl
  a4 := fun _ => by kernel_rfl
  z4 := fun _ => by kernel_rfl
  v4 := fun _ => by kernel_rfl
  t9 := by kernel_rfl
  a9 := fun _ => by kernel_rfl
  z9 := fun _ => by kernel_rfl
  v9 := fun _ => by kernel_rfl
  t20 := by kernel_rfl
  a20 := fun _ => by kernel_rfl
  z20 := fun _ => by kernel_rfl
  v20 := fun _ => by kernel_rfl
  t22 := by kernel_rfl
  a22 := fun _ => by kernel_rfl
  z22 := fun _ => by kernel_rfl
  v22 := fun _ => by kernel_rfl
/-- a new row of one's own -/
def RowPl (w : World) (n : Nat) (cs : List Value) (e : Ending) (w' : World) : Prop := ∃ A cap, e = .returned (.slice A n cap) ∧ w'.ownsRow w.heap.size 49 2 (.slice A n cap) n cs ∧ Below w.heap.size w w'
theorem growPl_any (n : Nat) (z0 : Int) (hz0 : z0 = n) (hn : n ≤ 1000000) (w : World) : Calls Try.prog 39 #[.slice none 0 0, .int .i64 z0] w (RowPl w 0 []) := by
  subst hz0
  obtain ⟨i, z, h2, h3, h4, h5, h6, h7⟩ := tyPl.ex
  rcases Nat.eq_zero_or_pos n with h0 | h0
  · subst h0
    refine (Any8.slices_Grow_room laysGPl none 0 0 0 w (by omega) (by omega) (by omega) (by omega)).mono ?_
    rintro e w' ⟨rfl, rfl⟩
    exact ⟨none, 0, rfl, World.ownsRow_nil _ _ _ _, Below.refl _ _⟩
  · have hb : (0 + n) * i.bytes ≤ 140737488355328 := by rw [h5]; omega
    refine (Any8.slices_Grow_grow laysGPl i z h2 h3 (by omega) none 0 0 n [] w (by omega) (by omega) hb (by omega) (by simp) (fun _ => rfl) (fun a e => by cases e)).mono ?_
    rintro e w' ⟨rfl, rfl⟩
    have hg := grownCap_ge w (0 + n) 0 (renGPl.t 25)
    have hm := grownCap_le_maxLen w (0 + n) 0 (renGPl.t 25) (by unfold maxLen; omega)
    refine ⟨_, _, rfl, ⟨rfl, .inr ⟨w.heap.size, _, _, rfl, Nat.le_refl _, Blk.new w.drew _ _, Nat.zero_le _, hm, ?_, ?_⟩⟩, ?_⟩
    · simp only [Array.size_append, zeroCells_size, h6, List.size_toArray, List.length_nil]
      omega
    · rw [Nat.zero_mul, List.take_zero]
    · exact (Below.refl w.heap.size w).trans ⟨rfl, rfl, rfl, by simp, fun q hq => Below.heap_alloc w.drew _ q hq⟩
theorem oneV {cs : List Value} (h : ∀ v ∈ cs, v.oneCell' = true) : (cs.map LV.v).all oneL = true := by
  rw [List.all_eq_true]
  intro u hu
  obtain ⟨u', hu', rfl⟩ := List.mem_map.1 hu
  exact h u' hu'
attribute [local irreducible] run goO leaveK someK nextK nextT nextOT nextOD loopBody loopRest loopK fillJ tmplOf tmplJ mergeT At AtO drawOk ordOf gateOf callC callO topOp topO idxOf appOf storeOf clearOf sliceOf calleeOf calleeO topQ idxQ newRowOf resL stepOp seek
set_option maxRecDepth 100000 in
set_option maxHeartbeats 4000000 in
theorem clonePl_any (A : Option Addr) (n cp B : Nat) (cs : List Value) (w : World) (h : Reads w B 2 A n cs) (hB : B ≤ w.heap.size) (hn : n ≤ 1000000) (hA : A = none → n = 0 ∧ cp = 0) (h1 : ∀ v ∈ cs, v.oneCell' = true) :
    Calls Try.prog 36 #[.slice A n cp] w (RowPl w n cs) := by
  refine sim_enter Try.func36 ρ0 [.v (.slice A n cp)] [] (by kernel_rfl) rfl ?_
  have hR := Rel.start [] w ρ0
  cases A with
  | none =>
    obtain ⟨rfl, rfl⟩ := hA rfl
    have hcs : cs = [] := List.eq_nil_of_length_eq_zero (by have := h.1; omega)
    subst hcs
    refine sim_run 15 [] (hR.cast (by kernel_rfl)) (by kernel_rfl) trivial (fun ρ100 w100 hm100 hR100 => ?_)
    refine sim_ret (.v (Value.slice none 0 0)) hR100 (by kernel_rfl) (by kernel_rfl) ?_
    
    exact ⟨none, 0, rfl, World.ownsRow_nil _ _ _ _, (by assumption : Rel _ _ _ _ _).toBelow⟩
  | some ad =>
    refine sim_run 14 [] (hR.cast (by kernel_rfl)) (by kernel_rfl) trivial (fun ρ200 w200 hm200 hR200 => ?_)
    
    refine sim_newRow (e := 49) (by kernel_rfl) (by assumption : Rel _ _ _ _ _) (fun hR2 => ?_)
    generalize hwe : w200.alloc (.cells #[] 49) = w3 at hR2
    have hown0 := own_new w200 49 2
    rw [hwe] at hown0
    have hown : Own ρ200 _ w3 w200.heap.size 49 2 (.slice (some ⟨w200.heap.size, 0, none⟩) 0 0) 0 [] := ⟨hown0, fun g _ hw => wrS_allRo (rs := []) (by kernel_rfl) hw⟩
    refine sim_run 1 [] (hR2.cast (by kernel_rfl)) (by kernel_rfl) trivial (fun ρ300 w300 hm300 hR300 => ?_)
    have hown := hown.moved (hm300.castL (by kernel_rfl))
    
    refine sim_appendR 26 (.slice (some ⟨w200.heap.size, 0, none⟩) 0 0) (some ad) n cp (by kernel_rfl) (by assumption : Rel _ _ _ _ _) tyPl hown.own (h.belowW ((by assumption : Rel _ _ _ _ _)).toBelow hB) (oneV h1) (by unfold maxLen; omega) (by omega) ?_ hR200.keeps.size (fun g _ q r hq _ => (noReg (by kernel_rfl) hq).elim) (fun v' w4 g1 g2 g3 hR4 => ?_)
    · have := hm300.kept.size
      have h4 : w200.heap.size ≤ w3.heap.size := by rw [← hwe]; simp
      omega
    obtain ⟨A4, c4, hv4⟩ := own_row g1
    subst hv4
    refine sim_run 2 [] (hR4.cast (by kernel_rfl)) (by kernel_rfl) trivial (fun ρ400 w400 hm400 hR400 => ?_)
    refine sim_ret (.v (Value.slice A4 (0 + n) c4)) hR400 (by kernel_rfl) (by kernel_rfl) ?_
    
    rw [Nat.zero_add, List.nil_append] at g1
    exact ⟨A4, c4, by rw [Nat.zero_add]; rfl, own_base (own_kept g1 hm400.kept (fun g _ hw => wrS_allRo (by kernel_rfl) hw)) hR200.keeps.size, (by assumption : Rel _ _ _ _ _).toBelow⟩
def TwoAt (w : World) (g o : Nat) (v1 v2 : Value) : Prop := w.cell? ⟨g, o, none⟩ = some v1 ∧ w.cell? ⟨g, o + 1, none⟩ = some v2
theorem open_two {w : World} {g o : Nat} {v1 v2 : Value} (h : TwoAt w g o v1 v2) : ∃ ρ : Nm, ρ 0 = (g, o) ∧ Rel [] w ρ [⟨[.v v1, .v v2], false⟩] w := by
  obtain ⟨ρ, _, e0, hR⟩ := (Rel.start [] w ρ0).open_ rfl g o [.v v1, .v v2] rfl false (World.block_lt_of_cell? _ _ h.1) (fun j v hv => by
    match j, hv with
    | 0, hv => simp only [List.getElem?_cons_zero, Option.some.injEq] at hv; subst hv; exact h.1
    | 1, hv => simp only [List.getElem?_cons_succ, List.getElem?_cons_zero, Option.some.injEq] at hv; subst hv; exact h.2
    | j + 2, hv => simp at hv) (fun hb => by cases hb) (fun n r hn => by simp at hn)
  exact ⟨ρ, e0, hR⟩
set_option maxRecDepth 100000 in
set_option maxHeartbeats 4000000 in
theorem concatPl_any (g o : Nat) (A1 A2 : Option Addr) (n1 n2 c1 c2 B1 B2 : Nat) (cs1 cs2 : List Value) (w : World) (hc : TwoAt w g o (.slice A1 n1 c1) (.slice A2 n2 c2)) (h1 : Reads w B1 2 A1 n1 cs1) (h2 : Reads w B2 2 A2 n2 cs2) (hB1 : B1 ≤ w.heap.size) (hB2 : B2 ≤ w.heap.size) (hn1 : n1 ≤ 100000) (hn2 : n2 ≤ 100000) (ho1 : ∀ v ∈ cs1, v.oneCell' = true) (ho2 : ∀ v ∈ cs2, v.oneCell' = true) :
    Calls Try.prog 24 #[.slice (some ⟨g, o + 0, none⟩) 2 2] w (RowPl w (n1 + n2) (cs1 ++ cs2)) := by
  obtain ⟨ρ, e0, hR⟩ := open_two hc
  have hg : g < w.heap.size := World.block_lt_of_cell? _ _ hc.1
  refine sim_enter Try.func24 ρ [.slc 0 0 2 2] [⟨[.v (.slice A1 n1 c1), .v (.slice A2 n2 c2)], false⟩] (by kernel_rfl) (by simp only [denL, LV.den, Nm.at_, e0]) ?_
  have hag := hR.ag_ 1 (by kernel_rfl)
  refine sim_run 16 [] (hR.cast (by kernel_rfl)) (by kernel_rfl) trivial (fun ρ500 w500 hm500 hR500 => ?_)
  have hag := hag.moved (hm500.castL (by kernel_rfl))
  refine sim_unroll 3 (by kernel_rfl) ?_
  refine sim_run 12 [] (hR500.cast (by kernel_rfl)) (by kernel_rfl) trivial (fun ρ501 w501 hm501 hR501 => ?_)
  have hag := hag.moved (hm501.castL (by kernel_rfl))
  refine sim_idx 0 0 2 2 0 1 (by kernel_rfl) (by omega) ?_
  refine sim_run 35 [⟨5, 3, LI (IntKind.i64.wrap (0 + (↑n1 : Int))), LI (0 + (↑n1 : Int))⟩] (hR501.cast (by kernel_rfl)) (by kernel_rfl) ⟨eqi (IntWalk.i64_in _ (by omega)), trivial⟩ (fun ρ502 w502 hm502 hR502 => ?_)
  have hag := hag.moved (hm502.castL (by kernel_rfl))
  refine sim_idx 0 0 2 2 1 1 (by kernel_rfl) (by omega) ?_
  refine sim_run 34 [⟨5, 3, LI (IntKind.i64.wrap (0 + (↑n1 : Int) + (↑n2 : Int))), LI (0 + (↑n1 : Int) + (↑n2 : Int))⟩] (hR502.cast (by kernel_rfl)) (by kernel_rfl) ⟨eqi (IntWalk.i64_in _ (by omega)), trivial⟩ (fun ρ503 w503 hm503 hR503 => ?_)
  have hag := hag.moved (hm503.castL (by kernel_rfl))
  refine sim_call 39 [.v (Value.slice none 0 0), LI (0 + (↑n1 : Int) + (↑n2 : Int))] (by kernel_rfl) ?_
  refine Calls.mono (growPl_any (n1 + n2) (0 + (n1 : Int) + (n2 : Int)) ((by omega)) (by omega) _) ?_
  rintro e504 w504 ⟨A3, c3, rfl, ho3, hb504⟩
  have hown := Own.start (hR503) ho3
  have hR504 := (hR503).below hb504
  refine Back.of (.v (.slice A3 0 c3)) hR504 rfl ?_
  refine sim_run 10 [] (hR504.cast (by kernel_rfl)) (by kernel_rfl) trivial (fun ρ505 w505 hm505 hR505 => ?_)
  have hag := hag.moved (hm505.castL (by kernel_rfl))
  have hown := hown.moved (hm505.castL (by kernel_rfl))
  refine sim_unroll 3 (by kernel_rfl) ?_
  refine sim_run 12 [] (hR505.cast (by kernel_rfl)) (by kernel_rfl) trivial (fun ρ506 w506 hm506 hR506 => ?_)
  have hag := hag.moved (hm506.castL (by kernel_rfl))
  have hown := hown.moved (hm506.castL (by kernel_rfl))
  refine sim_idx 0 0 2 2 0 1 (by kernel_rfl) (by omega) ?_
  refine sim_run 6 [] (hR506.cast (by kernel_rfl)) (by kernel_rfl) trivial (fun ρ507 w507 hm507 hR507 => ?_)
  have hag := hag.moved (hm507.castL (by kernel_rfl))
  have hown := hown.moved (hm507.castL (by kernel_rfl))
  
  have hreg : ∀ {rs : List Reg} {ρ1 : Nm} {b n : Nat} {v : Value} {xs : List Value} {w1 : World}, Nat.beq rs.length 1 = true → ρ1 0 = (g, o) → w1.ownsRow b 49 2 v n xs → w.heap.size ≤ b → ∀ g', v.ownBlock = some g' → ∀ (q : Nat) (r : Reg), rs[q]? = some r → r.cells ≠ [] → (ρ1 q).1 ≠ g' := by
    intro rs ρ1 b n v xs w1 hb1 he hw1 hwb g' hg' q r hq _
    have h1 := (List.getElem?_eq_some_iff.1 hq).1
    have h2 := Nat.eq_of_beq_eq_true hb1
    have h3 := own_ge hw1 hg'
    have hq0 : q = 0 := by omega
    rw [hq0, he]
    show g ≠ g'
    omega
  refine sim_appendR 26 (.slice A3 0 c3) A1 n1 c1 (by kernel_rfl) (by assumption : Rel _ _ _ _ _) tyPl (own_base hown.own hR503.keeps.size) (h1.belowW ((by assumption : Rel _ _ _ _ _)).toBelow hB1) (oneV ho1) (by unfold maxLen; omega) (by omega) ((by assumption : Rel _ _ _ _ _)).keeps.size (Nat.le_refl _) (hreg (by kernel_rfl) ((hag.at_ 0 (by omega)).trans e0) (own_base hown.own hR503.keeps.size) (Nat.le_refl _)) (fun v1 w6 g1 g2 g3 hR6 => ?_)
  obtain ⟨A6, c6, rfl⟩ := own_row g1
  clear hown
  have hown := Own.ro hR6 g1 (by kernel_rfl)
  refine sim_run 19 [] (hR6.cast (by kernel_rfl)) (by kernel_rfl) trivial (fun ρ600 w600 hm600 hR600 => ?_)
  have hag := hag.moved (hm600.castL (by kernel_rfl))
  have hown := hown.moved (hm600.castL (by kernel_rfl))
  refine sim_idx 0 0 2 2 1 1 (by kernel_rfl) (by omega) ?_
  refine sim_run 6 [] (hR600.cast (by kernel_rfl)) (by kernel_rfl) trivial (fun ρ601 w601 hm601 hR601 => ?_)
  have hag := hag.moved (hm601.castL (by kernel_rfl))
  have hown := hown.moved (hm601.castL (by kernel_rfl))
  
  refine sim_appendR 26 (.slice A6 (0 + n1) c6) A2 n2 c2 (by kernel_rfl) (by assumption : Rel _ _ _ _ _) tyPl hown.own (h2.belowW ((by assumption : Rel _ _ _ _ _)).toBelow hB2) (oneV ho2) (by unfold maxLen; omega) (by omega) ((by assumption : Rel _ _ _ _ _)).keeps.size (Nat.le_refl _) (hreg (by kernel_rfl) ((hag.at_ 0 (by omega)).trans e0) hown.own (Nat.le_refl _)) (fun v2 w8 k1 k2 k3 hR8 => ?_)
  obtain ⟨A8, c8, rfl⟩ := own_row k1
  clear hown
  have hown := Own.ro hR8 k1 (by kernel_rfl)
  refine sim_run 20 [] (hR8.cast (by kernel_rfl)) (by kernel_rfl) trivial (fun ρ700 w700 hm700 hR700 => ?_)
  have hag := hag.moved (hm700.castL (by kernel_rfl))
  have hown := hown.moved (hm700.castL (by kernel_rfl))
  refine sim_ret (.v (Value.slice A8 (0 + n1 + n2) c8)) hR700 (by kernel_rfl) (by kernel_rfl) ?_
  
  have hz := hown.own
  rw [Nat.zero_add, List.nil_append] at hz
  exact ⟨A8, c8, by rw [Nat.zero_add]; rfl, hz, (by assumption : Rel _ _ _ _ _).toBelow⟩
end Go.Proofs.Ytioehmngkoffaaa
