/-
  AllegNear: what is told, one by one.
-/
import Derived.Test.YtnojkclgjinjhaaAllegNear1
import Derived.Test.YtnojkclgjinjhaaAllegNear2
import Derived.Test.YtnojkclgjinjhaaAllegNear4
namespace Go.Proofs.Ytnojkclgjinjhaa
open Go Go.RowKit
theorem own_sl {w : World} {b : Nat} {e : TypeId} {s : Nat} {v : Value} {n : Nat} {xs : List Value} (h : w.ownsRow b e s v n xs) : ∃ A cp, v = .slice A n cp := by
  rcases h.2 with ⟨rfl, rfl⟩ | ⟨g, cap, cur, rfl, _⟩
  · exact ⟨none, 0, rfl⟩
  · exact ⟨_, cap, rfl⟩
theorem forM_len (party : ByteArray) (l : List In) : (forM party l).length ≤ l.length := by
  unfold forM
  rw [List.length_map]
  exact pickS_len _ _
/-- of the first i no two have the same Id, and none has none -/
def IdsOk (l : List In) (i : Nat) : Prop := ∀ (a b : Nat) (x y : In), a < b → b < i → l[a]? = some x → l[b]? = some y → y.id ≠ x.id ∧ y.id ≠ 0 ∧ x.id ≠ 0
theorem ids_nodup {l : List In} (h : IdsOk l l.length) : (l.map (·.id)).Nodup := by
  refine List.pairwise_iff_getElem.2 fun a b ha hb hab => ?_
  simp only [List.length_map] at ha hb
  simp only [List.getElem_map]
  exact fun e => (h a b _ _ hab hb (List.getElem?_eq_getElem ha) (List.getElem?_eq_getElem hb)).1 e.symm
theorem ids_nz {l : List In} (h : IdsOk l l.length) (h2 : 2 ≤ l.length) : ∀ z ∈ l, z.id ≠ 0 := by
  intro z hz
  obtain ⟨i, hi, rfl⟩ := List.getElem_of_mem hz
  rcases Nat.eq_zero_or_pos i with h0 | h0
  · subst h0
    exact (h 0 1 _ _ (by omega) (by omega) (List.getElem?_eq_getElem hi) (List.getElem?_eq_getElem (by omega))).2.2
  · exact (h 0 i _ _ h0 hi (List.getElem?_eq_getElem (by omega)) (List.getElem?_eq_getElem hi)).2.1
theorem Rel.none0 {T : List Nat} {w0 w : World} {ρ ρ' : Nm} {rs : List Reg} (h : Rel T w0 ρ rs w) : Rel T w0 ρ' [] w := ⟨h.keeps, fun _ _ hr => by simp at hr, fun _ _ hr => by simp at hr, fun _ _ hr => by simp at hr, fun _ _ _ _ hr => by simp at hr⟩
theorem Agree.zero {ρ ρ' : Nm} : Agree 0 ρ ρ' := fun _ h => absurd h (Nat.not_lt_zero _)
attribute [local irreducible] run goO leaveK someK nextK nextT nextOT nextOD loopBody loopRest loopK fillJ tmplOf tmplJ mergeT At AtO drawOk ordOf gateOf callC callO topOp topO idxOf appOf storeOf clearOf sliceOf calleeOf calleeO topQ idxQ newRowOf resL stepOp seek
set_option maxRecDepth 100000 in
set_option maxHeartbeats 4000000 in
theorem near_tail {ρ : Nm} {w0 w : World} {party : ByteArray} {A A2 : Option Addr} {n cp m c2 B0 : Nat} {l : List In} {la : List Al} (hrd : Reads w0 w0.heap.size 21 A n (l.map In.cells).flatten) (hll : l.length = n) (hn30 : n ≤ 30) (hok : ∀ z ∈ l, z.ok) (hids : IdsOk l l.length) (hR : Rel [] w0 ρ [] w) (hrow : Own ρ [] w B0 32 15 (.slice A2 m c2) m (la.map Al.cells).flatten) (hla : la.length = m) (hm : m ≤ 30) (hpl : la.map Al.plain = forM party l) (hwh : ∀ a ∈ la, ∃ Aw cw, a.what = .slice Aw a.ws.length cw) (d : Nat → Value) :
    At Try.prog (bodyPost Try.prog Try.f3 (fun e w' => e = .returned (.bool true) ∧ Below w0.heap.size w0 w')) ⟨regK Try.f3 12, fillJ (tmplJ Try.f3.ntmps 0 [(0, LS party), (1, .v (.slice A n cp)), (7, .v (.slice A2 m c2))]) d 0, []⟩ ρ w := by
  have hd := ids_nodup hids
  refine sim_run 3 [] (hR.cast (by kernel_rfl)) (by kernel_rfl) trivial (fun ρ100 w100 hm100 hR100 => ?_)
  have hrow := hrow.moved (hm100.castL (by kernel_rfl))
  
  refine sim_loop (ι := Nat) (T := []) (w0 := w0) 0 [0, 1, 7] (fun i => [(8, LI i)]) (fun _ => []) (fun i w1 => i ≤ m ∧ Own ρ100 [] w1 B0 32 15 (.slice A2 m c2) m (la.map Al.cells).flatten) (fun i => m - i) (by kernel_rfl) (by kernel_rfl) ((by assumption : Rel _ _ _ _ _).cast (by kernel_rfl)) ⟨Nat.zero_le _, hrow.castR (by kernel_rfl)⟩ ?_
  clear hrow hR100 hm100 hR
  rintro i d5 w5 hR5 ⟨hi, hrow⟩
  by_cases hlt : i < m
  · obtain ⟨a, ha⟩ : ∃ a, la[i]? = some a := ⟨_, List.getElem?_eq_getElem (by omega)⟩
    obtain ⟨x, hx⟩ := near_at (party := party) (l := l) (ids_nz hids) (i := i) (t := a.term) (id := a.id) (near := a.near) (ws := a.ws) (by rw [← hpl, List.getElem?_map, ha]; rfl)
    obtain ⟨Aw, cw, hwa⟩ := hwh a (List.mem_of_getElem? ha)
    have hprev : ∀ (j : Nat) (b : Al), i = j + 1 → la[j]? = some b → b.id < x.id := fun j b hij hb => by
      subst hij
      have h1 := near_lt (party := party) (l := l) hd (i := j) (a := b.plain) (b := a.plain) (by rw [← hpl, List.getElem?_map, hb]; rfl) (by rw [← hpl, List.getElem?_map, ha]; rfl)
      rw [hx.id]
      exact h1
    have hcells : a.cells = x.term.cells ++ [.int .i64 x.id, .int .i64 a.near, .slice Aw a.ws.length cw] := by
      unfold Al.cells
      rw [hwa, hx.id, hx.term]
    obtain ⟨g2, o2, hA, _, _⟩ := (Reads.of_own hrow.own).spot (by omega) (by omega)
    subst hA
    have hx0 := hx
    obtain ⟨hxm, hxi, hxt, hoth, hst, hno, hsome⟩ := hx
    generalize a.near = near at *
    generalize a.ws = ws at *
    refine sim_seeO (xss := la.map Al.cells) (sz := 15) (n := m) a.cells i 0 (by kernel_rfl) (by rw [List.getElem?_map, ha]; rfl) hrow (by intro y hy; obtain ⟨o, _, rfl⟩ := List.mem_map.1 hy; rfl) (by omega) hlt hR5 (by kernel_rfl) (fun ρE hmE e0 hRE => ?_)
    have hrow := hrow.moved hmE
    rw [hcells] at hRE hrow
    refine sim_rs [⟨x.term.cells.map .v ++ [LI x.id, LI near, .v (.slice Aw ws.length cw)], false⟩] ?_
    have hRE := hRE.cast (rs' := [⟨x.term.cells.map .v ++ [LI x.id, LI near, .v (.slice Aw ws.length cw)], false⟩]) (by kernel_rfl)
    have hrow := hrow.castR (rs' := [⟨x.term.cells.map .v ++ [LI x.id, LI near, .v (.slice Aw ws.length cw)], false⟩]) (by kernel_rfl)
    have hag := hRE.ag_ 1 (by kernel_rfl)
    refine sim_run 8 [] (hRE.cast (by kernel_rfl)) (by kernel_rfl) trivial (fun ρ200 w200 hm200 hR200 => ?_)
    have hrow := hrow.moved (hm200.castL (by kernel_rfl))
    have hag := hag.moved (hm200.castL (by kernel_rfl))
    refine sim_know 63 (decide ((↑i : Int) < (↑m : Int))) true (by kernel_rfl) (decide_eq_true (by omega)) ?_
    refine sim_run 11 [] (hR200.cast (by kernel_rfl)) (by kernel_rfl) trivial (fun ρ201 w201 hm201 hR201 => ?_)
    have hrow := hrow.moved (hm201.castL (by kernel_rfl))
    have hag := hag.moved (hm201.castL (by kernel_rfl))
    
    have hRn := (by assumption : Rel _ _ _ _ _).cast (rs' := [⟨x.term.cells.map .v ++ [LI x.id, LI near, .v (.slice Aw ws.length cw)], false⟩, ⟨zeroIn.cells.map .v, true⟩, ⟨zeroIn.cells.map .v, true⟩]) (by kernel_rfl)
    have e0 := (hag.at_ 0 (by omega)).trans e0
    have hrow := hrow.castR (rs' := [⟨x.term.cells.map .v ++ [LI x.id, LI near, .v (.slice Aw ws.length cw)], false⟩, ⟨zeroIn.cells.map .v, true⟩, ⟨zeroIn.cells.map .v, true⟩]) (by kernel_rfl)
    refine sim_to (regK Try.f3 16) (tmplJ Try.f3.ntmps 0 [(0, LS party), (1, .v (.slice A n cp)), (7, .v (.slice (some ⟨g2, o2, none⟩) m c2)), (8, LI i), (9, .ptr 1 0), (10, .ptr 2 0)]) [⟨x.term.cells.map .v ++ [LI x.id, LI near, .v (.slice Aw ws.length cw)], false⟩, ⟨zeroIn.cells.map .v, true⟩, ⟨zeroIn.cells.map .v, true⟩] (by kernel_rfl) (by kernel_rfl) (by kernel_rfl) (fun d6 => ?_)
    refine near_own hrd hll hn30 hd hRn hrow e0 hlt d6 (fun X Y c ρ' w' d' hX hY hC hC0 hag1 hR1 hrow1 => ?_)
    obtain rfl : X = x := hX x hxm rfl
    have e0 := (hag1.at_ 0 (by omega)).trans e0
    have hb : (near != 0) = decide (0 < c) := by
      rcases Decidable.em (c = 0) with h | h
      · rw [hno (hC.1 h), h]
        rfl
      · have hne : ¬ ∀ z ∈ l, ownB party z = false := fun h0 => h (hC.2 h0)
        have hex : ∃ z ∈ l, ownB party z = true := by
          apply Classical.byContradiction
          intro h0
          exact hne fun z hz => by
            cases hz2 : ownB party z with
            | false => rfl
            | true => exact absurd ⟨z, hz, hz2⟩ h0
        rw [decide_eq_true (by omega)]
        exact bne_iff_ne.2 (hsome hex).1
    refine near_26 rfl hla hR1 hrow1 e0 hlt hm hoth hst hb hprev d' (fun ρ2 w2 d2 hag2 hR2 hrow2 => ?_)
    have e0 := (hag2.at_ 0 (by omega)).trans e0
    refine near_28 hrd hll hn30 hok (hok _ hxm) hR2 hrow2 e0 hlt hm (fun hn => ?_) d2 (fun c' ρ3 w3 hk' hm' hl' hR3 hrow3 => ?_)
    · have hex : ∃ z ∈ l, ownB party z = true := by
        apply Classical.byContradiction
        intro h0
        exact hn (hno fun z hz => by
          cases hz2 : ownB party z with
          | false => rfl
          | true => exact absurd ⟨z, hz, hz2⟩ h0)
      obtain ⟨_, y, hy, hyi, hyp, hys, hyl, hya⟩ := hsome hex
      obtain rfl : Y = y := hY y hy hyi
      exact ⟨hok _ hy, hyp, hys, hyl, hya⟩
    · exact sim_again (i + 1) hk' (by show m - (i + 1) < m - i; omega) ((congrArg (mergeT · c'.tmps) (by kernel_rfl)).trans hm') ((congrArg List.length (by kernel_rfl)).trans hl') (by kernel_rfl) (fun j hj => absurd hj (Nat.not_lt_zero j)) hR3 (by kernel_rfl) (by kernel_rfl) ⟨hlt, hrow3.cut (N := 0) ⟨fun j hj => absurd hj (Nat.not_lt_zero j), Nat.zero_le _⟩ rfl rfl⟩
  · refine sim_run 8 [] (hR5.cast (by kernel_rfl)) (by kernel_rfl) trivial (fun ρ300 w300 hm300 hR300 => ?_)
    have hrow := hrow.moved (hm300.castL (by kernel_rfl))
    refine sim_know 63 (decide ((↑i : Int) < (↑m : Int))) false (by kernel_rfl) (decide_eq_false (by omega)) ?_
    refine sim_run 1 [] (hR300.cast (by kernel_rfl)) (by kernel_rfl) trivial (fun ρ301 w301 hm301 hR301 => ?_)
    have hrow := hrow.moved (hm301.castL (by kernel_rfl))
    refine sim_leave (by kernel_rfl) ?_
    refine sim_run 2 [] (hR301.cast (by kernel_rfl)) (by kernel_rfl) trivial (fun ρ302 w302 hm302 hR302 => ?_)
    have hrow := hrow.moved (hm302.castL (by kernel_rfl))
    refine sim_call 6 [] (by kernel_rfl) ?_
    refine Calls.mono (alive16_any _) ?_
    rintro e303 w303 ⟨rfl, hb303⟩
    have hR303 := hR302.below hb303
    have hrow := hrow.below hb303
    refine Back.of (LB true) hR303 rfl ?_
    refine sim_run 2 [] (hR303.cast (by kernel_rfl)) (by kernel_rfl) trivial (fun ρ304 w304 hm304 hR304 => ?_)
    have hrow := hrow.moved (hm304.castL (by kernel_rfl))
    refine sim_ret (LB true) hR304 (by kernel_rfl) (by kernel_rfl) ?_
    exact ⟨rfl, hR304.toBelow⟩
    
end Go.Proofs.Ytnojkclgjinjhaa
