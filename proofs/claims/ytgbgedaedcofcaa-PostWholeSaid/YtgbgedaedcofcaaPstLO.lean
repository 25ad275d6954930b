/-
  Plain: what a transfer does, and what is wrong with it.
  complinelaw11.alive answers true.
  Plain: a total where two accounts alone have something of an asset.
  (*Ledger).Block: a position is blocked, or freed.
-/
import Derived.Test.YtgbgedaedcofcaaPstIK
namespace Go.Proofs.Ytgbgedaedcofcaa
section
open Go Go.RowKit

theorem sortPs_two (x y : Part) : sortPs [x, y] = [x, y] ∨ sortPs [x, y] = [y, x] := by
  cases hl : ltP y x with
  | false =>
    refine .inl (List.mergeSort_of_pairwise ?_)
    simp [leP, hl]
  | true =>
    refine .inr ?_
    rw [sortPs_perm (List.Perm.swap y x [])]
    refine List.mergeSort_of_pairwise ?_
    have : ltP x y = false := by
      cases h2 : ltP x y with
      | false => rfl
      | true => have := ltP_trans hl h2; rw [ltP_irrefl] at this; cases this
    simp [leP, this]
section
variable {s : LSt} {a b c : ByteArray} {z : Int}
def pA (a c : ByteArray) : Part := ((a, c), 0)
theorem move_keys (hab : a ≠ b) : keysP (moveL a b c z) [] = [pA a c, pA b c] := by
  have hne : ¬ pA a c = pA b c := fun e => hab (congrArg (fun k : Part => k.1.1) e)
  show (if hasPt (pA b c) [pA a c] = true then [pA a c] else [pA a c] ++ [pA b c]) = _
  rw [if_neg (by rw [hasPt_iff]; simpa using fun e => hne e.symm)]
  rfl
theorem move_ptA (hab : a ≠ b) : ptL (pA a c) (moveL a b c z) = [-z] := by
  have hne : ¬ pA b c = pA a c := fun e => hab (congrArg (fun k : Part => k.1.1) e).symm
  have h1 : (⟨a, c, 0, -z⟩ : OpP).part = pA a c := rfl
  have h2 : (⟨b, c, 0, z⟩ : OpP).part = pA b c := rfl
  simp [ptL, moveL, h1, h2, hne]
theorem move_ptB (hab : a ≠ b) : ptL (pA b c) (moveL a b c z) = [z] := by
  have hne : ¬ pA a c = pA b c := fun e => hab (congrArg (fun k : Part => k.1.1) e)
  have h1 : (⟨a, c, 0, -z⟩ : OpP).part = pA a c := rfl
  have h2 : (⟨b, c, 0, z⟩ : OpP).part = pA b c := rfl
  simp [ptL, moveL, h1, h2, hne]
theorem clampO_in {v : Int} (h : -1152921504606846976 ≤ v ∧ v ≤ 1152921504606846976) : clampO v = false := by
  unfold clampO
  rw [decide_eq_false (by omega), decide_eq_false (by omega)]
  rfl
theorem move_fA (hab : a ≠ b) (hz : 0 ≤ z ∧ z ≤ 1152921504606846976) : netF (moveL a b c z) (pA a c) = (-z, false) := by
  unfold netF
  rw [move_ptA hab]
  have : sumI [-z] = -z := by simp [sumI]
  rw [this, clamp_in (by omega), clampO_in (by omega)]
theorem move_fB (hab : a ≠ b) (hz : 0 ≤ z ∧ z ≤ 1152921504606846976) : netF (moveL a b c z) (pA b c) = (z, false) := by
  unfold netF
  rw [move_ptB hab]
  have : sumI [z] = z := by simp [sumI]
  rw [this, clamp_in (by omega), clampO_in (by omega)]
theorem move_rights (hz : 0 ≤ z ∧ z ≤ 1152921504606846976) : rightsB (moveL a b c z) = true := by
  simp only [rightsB, moveL, List.all_cons, List.all_nil, rightB, okBy, Bool.and_true, Bool.and_eq_true, decide_eq_true_eq]
  omega
theorem move_even : evenB (moveL a b c z) = true := by
  have h : asL c (moveL a b c z) = [-z, z] := by simp [asL, moveL]
  simp only [evenB, moveL, List.all_cons, List.all_nil, Bool.and_true, Bool.and_eq_true]
  have h2 : sumI (asL c (moveL a b c z)) = 0 := by rw [h]; simp [sumI]; omega
  exact ⟨decide_eq_true h2, decide_eq_true h2⟩
/-- what is wrong with a transfer of what is not blocked -/
theorem move_look (hab : a ≠ b) (hz : 0 ≤ z ∧ z ≤ 1152921504606846976) (hlb : hasK (a, c) s.lb = false) (hA : 0 ≤ partM (getM s.l (a, c)) 0) (hA2 : partM (getM s.l (a, c)) 0 ≤ 1152921504606846976) (hB : 0 ≤ partM (getM s.l (b, c)) 0) (hB2 : partM (getM s.l (b, c)) 0 + z ≤ 1152921504606846976) :
    lookC s (moveL a b c z) = if partM (getM s.l (a, c)) 0 < z then 30 else 0 := by
  have h0 : lookC s (moveL a b c z) = firstW s (moveL a b c z) (netsM (moveL a b c z)) := by
    unfold lookC
    rw [if_neg (by simp [moveL]), move_rights hz, move_even, if_neg (by simp)]
  have wA : wrongM s (pA a c) (-z) false = if partM (getM s.l (a, c)) 0 < z then 30 else 0 := by
    have hb : noBlk s (pA a c) (-z) := fun h => by rw [show hasK (pA a c).1 s.lb = false from hlb] at h; cases h.2.2
    split
    · rename_i h
      exact w30 rfl hb (.inl (by show partM (getM s.l (a, c)) 0 + -z < 0; omega))
    · rename_i h
      exact w0 rfl hb (fun h2 => h2.elim (fun h3 => h (by have h3 : partM (getM s.l (a, c)) 0 + -z < 0 := h3; omega)) (fun h3 => by cases h3.1)) (fun h2 => h2.elim (fun h3 => by have h3 : 1152921504606846976 < partM (getM s.l (a, c)) 0 + -z := h3; omega) (fun h3 => by cases h3))
  have wB : wrongM s (pA b c) z false = 0 :=
    w0 rfl (fun h => by have := h.2.1; omega) (fun h2 => h2.elim (fun h3 => by have h3 : partM (getM s.l (b, c)) 0 + z < 0 := h3; omega) (fun h3 => by cases h3.1)) (fun h2 => h2.elim (fun h3 => by have h3 : 1152921504606846976 < partM (getM s.l (b, c)) 0 + z := h3; omega) (fun h3 => by cases h3))
  rw [h0]
  unfold netsM
  rw [move_keys hab]
  rcases sortPs_two (pA a c) (pA b c) with e | e
  all_goals
    rw [e]
    simp only [firstW]
    rw [move_fA hab hz, move_fB hab hz]
    dsimp only
    rw [wA, wB]
    split <;> simp_all
/-- what a transfer that is OK leaves -/
theorem move_apply (hab : a ≠ b) (hz : 0 ≤ z ∧ z ≤ 1152921504606846976) (hl : lookC s (moveL a b c z) = 0) (cA : addC (getM s.l (a, c)) 0 (-z) = 0) (cB : addC (getM s.l (b, c)) 0 z = 0) (k : Key) :
    applyF (moveL a b c z) (getM s.l) (lookL s (moveL a b c z)) k = if k = (a, c) then setB (getM s.l k) 0 ((getM s.l k).1 - z) else if k = (b, c) then setB (getM s.l k) 0 ((getM s.l k).1 + z) else getM s.l k := by
  have hn1 : ((a, c) : Key) ≠ (b, c) := fun e => hab (congrArg (·.1) e)
  have hL : lookL s (moveL a b c z) = sortPs [pA a c, pA b c] := by
    unfold lookL netsM
    rw [if_pos hl, move_keys hab]
  have p0 : ∀ b : B3, partB b 0 = b.1 := fun _ => rfl
  rw [hL]
  rcases sortPs_two (pA a c) (pA b c) with e | e
  all_goals
    rw [e]
    simp only [applyF, List.foldl_cons, List.foldl_nil]
    rw [move_fA hab hz, move_fB hab hz]
    show addF (addF (getM s.l) _ 0 _) _ 0 _ k = _
    simp only [addF, pA]
    by_cases h1 : k = (a, c)
    · subst h1
      simp [hn1, hn1.symm, cA, cB, p0, Int.sub_eq_add_neg]
    · by_cases h2 : k = (b, c)
      · subst h2
        simp [hn1, hn1.symm, cA, cB, p0]
      · simp [h1, h2]
end
end

section
open Go Go.RowKit
theorem Back.view {P : Program} {Q : Exit → Act → World → Prop} {T : List Nat} {w0 w : World} {c : Cfg} {ρ : Nm} {B gl : Nat} {s : LSt} (h : LdV w B gl s) (hR : Rel T w0 ρ [] w) (hu : undL 0 c.tmps = true)
    (next : ∀ ρ', ρ' 0 = (gl, 0) → Rel T w0 ρ' [⟨ptrG s.g, false⟩] w → LdO ρ' [⟨ptrG s.g, false⟩] w B gl s → At P Q (nextC c (.ptr 0 0) [⟨ptrG s.g, false⟩]) ρ' w) : Back P Q c ρ (.returned (.pointer (some ⟨gl, 0, none⟩))) w := by
  obtain ⟨ρ', e0, hR', hO⟩ := h.view hR
  exact ⟨.ptr 0 0, _, ρ', by simp only [LV.den, Nm.at_, e0], act_ext (k := 0) Agree.zero hu, next ρ' e0 hR' hO⟩
def tA1 : ByteArray := ⟨#[65]⟩
def tB1 : ByteArray := ⟨#[66]⟩
def tX1 : ByteArray := ⟨#[88]⟩
theorem alive_get1 {g : Nat} (k : Key) : addF (getM (newS g).l) (⟨#[65]⟩, ⟨#[88]⟩) 0 5 k = if k = (⟨#[65]⟩, ⟨#[88]⟩) then (5, 0, 0) else (0, 0, 0) := by
  have h0 : ∀ q, getM (newS g).l q = (0, 0, 0) := fun _ => rfl
  have hc : addC (0, 0, 0) 0 5 = 0 := by decide
  unfold addF
  rw [h0, h0, hc]
  by_cases h : k = (⟨#[65]⟩, ⟨#[88]⟩)
  · rw [if_pos ⟨rfl, h⟩, if_pos h]
    rfl
  · rw [if_neg (fun e => h e.2), if_neg h]
theorem alive_get3 (k : Key) : (if k = (⟨#[65]⟩, ⟨#[88]⟩) then setB (if k = (⟨#[65]⟩, ⟨#[88]⟩) then (5, 0, 0) else (0, 0, 0)) 0 ((if k = (⟨#[65]⟩, ⟨#[88]⟩) then ((5, 0, 0) : B3) else (0, 0, 0)).1 - 5) else if k = (⟨#[66]⟩, ⟨#[88]⟩) then setB (if k = (⟨#[65]⟩, ⟨#[88]⟩) then (5, 0, 0) else (0, 0, 0)) 0 ((if k = (⟨#[65]⟩, ⟨#[88]⟩) then ((5, 0, 0) : B3) else (0, 0, 0)).1 + 5) else (if k = (⟨#[65]⟩, ⟨#[88]⟩) then (5, 0, 0) else (0, 0, 0))) = getM [(⟨(⟨#[66]⟩, ⟨#[88]⟩), (5, 0, 0), 0⟩ : Ent Key B3)] k := by
  have hneK : ¬ ((⟨#[66]⟩, ⟨#[88]⟩) : Key) = (⟨#[65]⟩, ⟨#[88]⟩) := by decide
  have hneK2 : ¬ ((⟨#[65]⟩, ⟨#[88]⟩) : Key) = (⟨#[66]⟩, ⟨#[88]⟩) := by decide
  by_cases h : k = (⟨#[65]⟩, ⟨#[88]⟩)
  · subst h
    simp only [if_true]
    show _ = (look _ _).getD _
    simp [look, hneK2, setB]
  · by_cases h2 : k = (⟨#[66]⟩, ⟨#[88]⟩)
    · subst h2
      simp only [if_neg hneK, if_true]
      show _ = (look _ _).getD _
      simp [look, setB]
    · simp only [if_neg h, if_neg h2]
      show _ = (look _ _).getD _
      simp [look, h2]
theorem pos_g {w : World} {B gl g : Nat} {s : LSt} (h : LdV w B gl s) (e : s.g = g) : PoV w B g s.m s.l s.ck := e ▸ h.pos
theorem move_short {a b c : ByteArray} {z : Int} (ha : a.size ≤ 281474976710656) (hb : b.size ≤ 281474976710656) (hc : c.size ≤ 281474976710656) : Short (moveL a b c z) := by
  intro p hp
  simp only [moveL, List.mem_cons, List.not_mem_nil, or_false] at hp
  rcases hp with rfl | rfl
  · exact ⟨ha, hc⟩
  · exact ⟨hb, hc⟩
attribute [local irreducible] run goO leaveK someK nextK nextT nextOT nextOD loopBody loopRest loopK fillJ tmplOf tmplJ mergeT At AtO drawOk ordOf gateOf callC callO topOp topO idxOf appOf storeOf clearOf sliceOf calleeOf calleeO topQ idxQ newRowOf resL stepOp seek
set_option maxRecDepth 100000 in
set_option maxHeartbeats 4000000 in
theorem alive11_any (w : World) : Calls Try.prog 23 #[] w fun e w' => e = .returned (.bool true) ∧ Below w.heap.size w w' := by
  refine sim_enter Try.func23 ρ0 [] [] (by kernel_rfl) rfl ?_
  have hR := Rel.start [] w ρ0
  refine sim_run 6 [] (hR.cast (by kernel_rfl)) (by kernel_rfl) trivial (fun ρ100 w100 hm100 hR100 => ?_)
  refine sim_call 24 [] (by kernel_rfl) ?_
  refine Calls.mono (newLd_any _) ?_
  rintro e101 w101 ⟨gl, g, rfl, hl101, hb101⟩
  have hBw := (hR100).keeps.size
  have hRr101 := (hR100).below hb101
  refine Back.view hl101 (hRr101.cast (by kernel_rfl)) (by kernel_rfl) (fun ρv e0 hR101 hld => ?_)
  have hag := hR101.ag_ 1 (by kernel_rfl)
  refine sim_run 5 [] (hR101.cast (by kernel_rfl)) (by kernel_rfl) trivial (fun ρ102 w102 hm102 hR102 => ?_)
  have hld := hld.moved (hm102.castL (by kernel_rfl))
  have hag := hag.moved (hm102.castL (by kernel_rfl))
  
  have hc5 : issC (newS g) ⟨#[65]⟩ ⟨#[88]⟩ 5 = 0 := by kernel_rfl
  have hi5 : -4611686018427387904 ≤ (look (⟨#[88]⟩ : ByteArray) (newS g).li).getD 0 ∧ (look (⟨#[88]⟩ : ByteArray) (newS g).li).getD 0 ≤ 4611686018427387904 := ⟨by show (-4611686018427387904 : Int) ≤ 0; decide, by show (0 : Int) ≤ 4611686018427387904; decide⟩
  refine sim_run 5 [] hR102 (by kernel_rfl) trivial (fun ρ200 w200 hm200 hR200 => ?_)
  have hld := hld.moved hm200
  have hag := hag.moved hm200
  refine sim_call 25 [.ptr 0 0, .agg [LS (ByteArray.mk #[65]), LS (ByteArray.mk #[88])], LI 5] (by kernel_rfl) ?_
  have ez0_201 := (hag.at_ 0 (by omega)).trans e0
  simp only [denL, LV.den, Nm.at_, ez0_201, Nat.add_zero]
  refine Calls.mono (issue_any _ (gl) (newS g) _ _ _ _ hld.ld (by unfold Is64 at *; omega) ((by decide)) ((by decide)) (hi5)) ?_
  rintro e201 w201 ⟨rfl, s1, hl201, his, hk201, hh201⟩
  obtain ⟨hld2, hR201⟩ := hld.afterL hR200 hBw hl201 his.g hk201 hh201 (by kernel_rfl) [] (by kernel_rfl) (by simp)
  clear hld
  have hld := hld2
  clear hld2
  refine Back.of (LI 0) hR201 (by rw [hc5]; rfl) ?_
  refine sim_run 7 [] (hR201.cast (by kernel_rfl)) (by kernel_rfl) trivial (fun ρ202 w202 hm202 hR202 => ?_)
  have hag := hag.moved (hm202.castL (by kernel_rfl))
  have hld := hld.moved (hm202.castL (by kernel_rfl))
  
  have hg1 : ∀ k, getM s1.l k = if k = (⟨#[65]⟩, ⟨#[88]⟩) then (5, 0, 0) else (0, 0, 0) := fun k => by
    rw [his.get k, if_pos hc5]
    exact alive_get1 k
  have hlb1 : s1.lb = [] := his.lb
  have hne : (⟨#[65]⟩ : ByteArray) ≠ ⟨#[66]⟩ := by decide
  have hneK : ((⟨#[66]⟩, ⟨#[88]⟩) : Key) ≠ (⟨#[65]⟩, ⟨#[88]⟩) := by decide
  have hpA1 : partM (getM s1.l (⟨#[65]⟩, ⟨#[88]⟩)) 0 = 5 := by rw [hg1, if_pos rfl]; rfl
  have hpB1 : partM (getM s1.l (⟨#[66]⟩, ⟨#[88]⟩)) 0 = 0 := by rw [hg1, if_neg hneK]; rfl
  have hl6 : lookC s1 (moveL ⟨#[65]⟩ ⟨#[66]⟩ ⟨#[88]⟩ 6) = 30 := by
    rw [move_look hne (by omega) (by rw [hlb1]; rfl) (by omega) (by omega) (by omega) (by omega), hpA1]
    rfl
  refine sim_run 1 [] hR202 (by kernel_rfl) trivial (fun ρ300 w300 hm300 hR300 => ?_)
  have hag := hag.moved hm300
  have hld := hld.moved hm300
  refine sim_call 26 [LS (ByteArray.mk #[65]), LS (ByteArray.mk #[66]), LS (ByteArray.mk #[88]), LI 6] (by kernel_rfl) ?_
  refine Calls.mono (move_any _ _ _ _ _ ((by decide)) ((by decide)) ((by decide)) ((by decide))) ?_
  rintro e301 w301 ⟨gp, op, rfl, hgp301, hps, hb301⟩
  have hR301 := (hR300).below hb301
  have hld := hld.below hb301
  refine Back.of (.v (.slice (some ⟨gp, op, none⟩) 2 2)) hR301 rfl ?_
  refine sim_call 29 [.ptr 0 0, .v (Value.slice (some (Addr.mk gp op none)) 2 2)] (by kernel_rfl) ?_
  have ez0_302 := (hag.at_ 0 (by omega)).trans e0
  simp only [denL, LV.den, Nm.at_, ez0_302, Nat.add_zero]
  refine Calls.mono (apply_any _ (gl) _ (s1) _ _ _ (moveL ⟨#[65]⟩ ⟨#[66]⟩ ⟨#[88]⟩ 6) _ hld.ld (by assumption) (by omega) ((by decide)) (move_short (by decide) (by decide) (by decide))) ?_
  rintro e302 w302 ⟨rfl, m302, l302, ck302, hl302, hget302, hlen302, hk302, hv302⟩
  obtain ⟨hld2, hR302⟩ := hld.afterL hR301 hBw hl302 rfl (hk302.mono (fun x hx => .inl (.inr (hx.elim .inl (fun e => .inr (.inl e)))))) (fun x hx => setPos_has hv302 hx) (by rw [his.g]; kernel_rfl) [] (by kernel_rfl) (by simp)
  clear hld
  have hld := hld2
  clear hld2
  refine Back.of (LI 30) hR302 (by rw [hl6]; rfl) ?_
  refine sim_run 4 [] (hR302.cast (by kernel_rfl)) (by kernel_rfl) trivial (fun ρ303 w303 hm303 hR303 => ?_)
  have hag := hag.moved (hm303.castL (by kernel_rfl))
  have hld := hld.moved (hm303.castL (by kernel_rfl))
  
  have hL6 : lookL s1 (moveL ⟨#[65]⟩ ⟨#[66]⟩ ⟨#[88]⟩ 6) = [] := by unfold lookL; rw [if_neg (by rw [hl6]; decide)]
  have hg2 : ∀ k, getM l302 k = if k = (⟨#[65]⟩, ⟨#[88]⟩) then (5, 0, 0) else (0, 0, 0) := fun k => by
    rw [hget302 k, hL6]
    exact hg1 k
  have hq2 : ∀ k, getM (s1.setPos m302 l302 ck302).l k = if k = (⟨#[65]⟩, ⟨#[88]⟩) then (5, 0, 0) else (0, 0, 0) := hg2
  have hpA2 : partM (getM (s1.setPos m302 l302 ck302).l (⟨#[65]⟩, ⟨#[88]⟩)) 0 = 5 := by rw [hq2, if_pos rfl]; rfl
  have hpB2 : partM (getM (s1.setPos m302 l302 ck302).l (⟨#[66]⟩, ⟨#[88]⟩)) 0 = 0 := by rw [hq2, if_neg hneK]; rfl
  have hl5 : lookC (s1.setPos m302 l302 ck302) (moveL ⟨#[65]⟩ ⟨#[66]⟩ ⟨#[88]⟩ 5) = 0 := by
    rw [move_look hne (by omega) (by show hasK _ s1.lb = false; rw [hlb1]; rfl) (by omega) (by omega) (by omega) (by omega), hpA2]
    rfl
  refine sim_run 1 [] hR303 (by kernel_rfl) trivial (fun ρ400 w400 hm400 hR400 => ?_)
  have hag := hag.moved hm400
  have hld := hld.moved hm400
  refine sim_call 26 [LS (ByteArray.mk #[65]), LS (ByteArray.mk #[66]), LS (ByteArray.mk #[88]), LI 5] (by kernel_rfl) ?_
  refine Calls.mono (move_any _ _ _ _ _ ((by decide)) ((by decide)) ((by decide)) ((by decide))) ?_
  rintro e401 w401 ⟨gp, op, rfl, hgp401, hps, hb401⟩
  have hR401 := (hR400).below hb401
  have hld := hld.below hb401
  refine Back.of (.v (.slice (some ⟨gp, op, none⟩) 2 2)) hR401 rfl ?_
  refine sim_call 29 [.ptr 0 0, .v (Value.slice (some (Addr.mk gp op none)) 2 2)] (by kernel_rfl) ?_
  have ez0_402 := (hag.at_ 0 (by omega)).trans e0
  simp only [denL, LV.den, Nm.at_, ez0_402, Nat.add_zero]
  refine Calls.mono (apply_any _ (gl) _ (s1.setPos m302 l302 ck302) _ _ _ (moveL ⟨#[65]⟩ ⟨#[66]⟩ ⟨#[88]⟩ 5) _ hld.ld (by assumption) (by omega) ((by decide)) (move_short (by decide) (by decide) (by decide))) ?_
  rintro e402 w402 ⟨rfl, m402, l402, ck402, hl402, hget402, hlen402, hk402, hv402⟩
  obtain ⟨hld2, hR402⟩ := hld.afterL hR401 hBw hl402 rfl (hk402.mono (fun x hx => .inl (.inr (hx.elim .inl (fun e => .inr (.inl e)))))) (fun x hx => setPos_has hv402 hx) (by show _ = some (⟨ptrG s1.g, false⟩ : Reg); rw [his.g]; kernel_rfl) [] (by kernel_rfl) (by simp)
  clear hld
  have hld := hld2
  clear hld2
  refine Back.of (LI 0) hR402 (by rw [hl5]; rfl) ?_
  refine sim_run 4 [] (hR402.cast (by kernel_rfl)) (by kernel_rfl) trivial (fun ρ403 w403 hm403 hR403 => ?_)
  have hag := hag.moved (hm403.castL (by kernel_rfl))
  have hld := hld.moved (hm403.castL (by kernel_rfl))
  
  have hg3 : ∀ k, getM l402 k = getM [(⟨(⟨#[66]⟩, ⟨#[88]⟩), (5, 0, 0), 0⟩ : Ent Key B3)] k := fun k => by
    rw [hget402 k, move_apply hne (by omega) hl5 (by rw [hq2, if_pos rfl]; decide) (by rw [hq2, if_neg hneK]; decide), hq2]
    exact alive_get3 k
  have hkeys := keys_same (l := [(⟨(⟨#[66]⟩, ⟨#[88]⟩), (5, 0, 0), 0⟩ : Ent Key B3)]) (clock := 1) ⟨List.pairwise_singleton _ _, by simp, by simp⟩ (by simp) hld.ld.pos.mp.fine hld.ld.pos.nz hg3 [⟨#[88]⟩]
  have htot : clampV (sumI (allOf l402 (sortKs (pickKs [⟨#[88]⟩] l402)))) = 5 := by
    have e1 : sortKs (pickKs [⟨#[88]⟩] l402) = [(⟨#[66]⟩, ⟨#[88]⟩)] := by
      refine hkeys.trans ?_
      rw [show pickKs [⟨#[88]⟩] [(⟨(⟨#[66]⟩, ⟨#[88]⟩), (5, 0, 0), 0⟩ : Ent Key B3)] = [(⟨#[66]⟩, ⟨#[88]⟩)] from by kernel_rfl]
      exact List.mergeSort_singleton _
    rw [e1, allOf_sum]
    simp only [List.map_cons, List.map_nil, List.sum_cons, List.sum_nil]
    rw [hg3]
    rfl
  have hprt : partM (getM l402 (⟨#[66]⟩, ⟨#[88]⟩)) 0 = 5 := by rw [hg3]; rfl
  have hisd : (look (⟨#[88]⟩ : ByteArray) s1.li).getD 0 = 5 := by rw [his.iss, if_pos ⟨hc5, rfl⟩]; rfl
  have hll : l402.length ≤ 1000000 := by
    have h1 : l402.length ≤ l302.length + 2 := hlen402
    have h2 : l302.length ≤ s1.l.length + 2 := hlen302
    have h3 : s1.l.length ≤ 0 + 1 := his.len
    omega
  refine sim_run 11 [] hR403 (by kernel_rfl) trivial (fun ρ500 w500 hm500 hR500 => ?_)
  have hag := hag.moved hm500
  have hld := hld.moved hm500
  refine sim_call 21 [.v (Value.pointer (some (Addr.mk (newS g).g 0 none))), LS (ByteArray.mk #[88])] (by kernel_rfl) ?_
  refine Calls.mono (total_po _ _ (m402) (l402) (ck402) _ _ (pos_g hld.ld his.g) (by assumption)) ?_
  rw [htot]
  rintro e501 w501 ⟨rfl, hb501⟩
  have hR501 := (hR500).below hb501
  have hld := hld.below hb501
  refine Back.of (LI 5) hR501 rfl ?_
  refine sim_run 4 [] (hR501.cast (by kernel_rfl)) (by kernel_rfl) trivial (fun ρ502 w502 hm502 hR502 => ?_)
  have hag := hag.moved (hm502.castL (by kernel_rfl))
  have hld := hld.moved (hm502.castL (by kernel_rfl))
  refine sim_call 32 [.ptr 0 0, LS (ByteArray.mk #[88])] (by kernel_rfl) ?_
  have ez0_503 := (hag.at_ 0 (by omega)).trans e0
  simp only [denL, LV.den, Nm.at_, ez0_503, Nat.add_zero]
  refine Calls.mono (issued_any _ _ _ _ _ hld.ld) ?_
  rw [show (look (⟨#[88]⟩ : ByteArray) ((s1.setPos m302 l302 ck302).setPos m402 l402 ck402).li).getD 0 = 5 from hisd]
  rintro e503 w503 ⟨rfl, hb503⟩
  have hR503 := (hR502).below hb503
  have hld := hld.below hb503
  refine Back.of (LI 5) hR503 rfl ?_
  refine sim_run 8 [] (hR503.cast (by kernel_rfl)) (by kernel_rfl) trivial (fun ρ504 w504 hm504 hR504 => ?_)
  have hag := hag.moved (hm504.castL (by kernel_rfl))
  have hld := hld.moved (hm504.castL (by kernel_rfl))
  refine sim_call 19 [.v (Value.pointer (some (Addr.mk (newS g).g 0 none))), .agg [LS (ByteArray.mk #[66]), LS (ByteArray.mk #[88])], LI 0] (by kernel_rfl) ?_
  refine Calls.mono (part_po _ _ (m402) (l402) (ck402) _ _ _ _ (pos_g hld.ld his.g)) ?_
  rw [hprt]
  rintro e505 w505 ⟨rfl, hb505⟩
  have hR505 := (hR504).below hb505
  have hld := hld.below hb505
  refine Back.of (LI 5) hR505 rfl ?_
  refine sim_run 4 [] (hR505.cast (by kernel_rfl)) (by kernel_rfl) trivial (fun ρ506 w506 hm506 hR506 => ?_)
  have hag := hag.moved (hm506.castL (by kernel_rfl))
  have hld := hld.moved (hm506.castL (by kernel_rfl))
  refine sim_ret (LB true) hR506 (by kernel_rfl) (by kernel_rfl) ?_
  exact ⟨rfl, hR506.toBelow⟩
  
end

section
open Go Go.RowKit

theorem total_two {l : List (Ent Key B3)} {clock : Nat} (hf : Fine l clock) (hnz : ∀ e ∈ l, e.val ≠ (0, 0, 0)) {a b c : ByteArray} (hab : a ≠ b) (h : ∀ k, k ≠ (a, c) → k ≠ (b, c) → getM l k = (0, 0, 0)) :
    sumI (allOf l (sortKs (pickKs [c] l))) = sum3 (getM l (a, c)) + sum3 (getM l (b, c)) := by
  have hne : ((a, c) : Key) ≠ (b, c) := fun e => hab (congrArg (·.1) e)
  have hm := keys_mem hf hnz
  have hnd : (l.map (·.key)).Nodup := List.pairwise_map.2 hf.keys
  have hsub : ∀ k ∈ l.map (·.key), k = (a, c) ∨ k = (b, c) := fun k hk => by
    have h1 := (hm k).1 hk
    by_cases h2 : k = (a, c)
    · exact .inl h2
    · by_cases h3 : k = (b, c)
      · exact .inr h3
      · exact absurd (h k h2 h3) h1
  have hpick : pickKs [c] l = l.map (·.key) := List.filter_eq_self.2 fun k hk => by
    rcases hsub k hk with e | e <;> simp [wantK, e]
  have hp : (sortKs (pickKs [c] l)).Perm (l.map (·.key)) := by
    rw [hpick]
    exact List.mergeSort_perm ..
  have hz : ∀ k, k ∉ l.map (·.key) → sum3 (getM l k) = 0 := fun k hk => by
    have : getM l k = (0, 0, 0) := Classical.byContradiction fun h1 => hk ((hm k).2 h1)
    rw [this]
    rfl
  have key : ∀ ks : List Key, (l.map (·.key)).Perm ks → sumI (allOf l (sortKs (pickKs [c] l))) = (ks.map fun k => sum3 (getM l k)).sum := fun ks hks => by
    rw [allOf_sum]
    exact sum_perm ((hp.trans hks).map _)
  by_cases hA : (a, c) ∈ l.map (·.key)
  · by_cases hB : (b, c) ∈ l.map (·.key)
    · rw [key [(a, c), (b, c)] ((List.perm_ext_iff_of_nodup hnd (by simp [hne])).2 fun k => ⟨fun hk => by simpa using hsub k hk, fun hk => by
        simp only [List.mem_cons, List.not_mem_nil, or_false] at hk
        rcases hk with rfl | rfl
        · exact hA
        · exact hB⟩)]
      simp
    · rw [key [(a, c)] ((List.perm_ext_iff_of_nodup hnd (by simp)).2 fun k => ⟨fun hk => by
        rcases hsub k hk with e | e
        · simp [e]
        · exact absurd (e ▸ hk) hB, fun hk => by
        rw [List.mem_singleton.1 hk]
        exact hA⟩), hz _ hB]
      simp
  · by_cases hB : (b, c) ∈ l.map (·.key)
    · rw [key [(b, c)] ((List.perm_ext_iff_of_nodup hnd (by simp)).2 fun k => ⟨fun hk => by
        rcases hsub k hk with e | e
        · exact absurd (e ▸ hk) hA
        · simp [e], fun hk => by
        rw [List.mem_singleton.1 hk]
        exact hB⟩), hz _ hA]
      simp
    · rw [key [] ((List.perm_ext_iff_of_nodup hnd List.nodup_nil).2 fun k => ⟨fun hk => by
        rcases hsub k hk with e | e
        · exact absurd (e ▸ hk) hA
        · exact absurd (e ▸ hk) hB, fun hk => absurd hk List.not_mem_nil⟩), hz _ hA, hz _ hB]
      rfl
end

section
open Go Go.RowKit

/-- what blocking leaves -/
structure BlkS (s s' : LSt) (a c : ByteArray) (on : Bool) : Prop where
  l : s'.l = s.l
  li : s'.li = s.li
  g : s'.g = s.g
  lb : ∀ k, hasK k s'.lb = if k = (a, c) then on else hasK k s.lb
def BlkR (w : World) (B gl : Nat) (s : LSt) (a c : ByteArray) (on : Bool) (e : Ending) (w' : World) : Prop :=
  e = .returned (.tuple #[]) ∧ ∃ s', LdV w' B gl s' ∧ BlkS s s' a c on ∧ Kept (s.all gl) w w' ∧ (∀ x, s'.has x → s.has x ∨ w.heap.size ≤ x)
def blkT (s : LSt) (gl : Nat) : List Nat := gl :: s.mb.toList
theorem blkT_all {s : LSt} {gl x : Nat} (h : x ∈ blkT s gl) : s.all gl x := by
  unfold blkT at h
  simp only [List.mem_cons, Option.mem_toList] at h
  rcases h with h | h
  · exact .inl h
  · exact .inr (.inr (.inr (.inr h)))
def LSt.setBlk (s : LSt) (mb : Option Nat) (lb : List (Ent Key Unit)) (cb : Nat) : LSt := { s with mb := mb, lb := lb, cb := cb }
theorem LdV.setBlk {w w' : World} {B gl q : Nat} {s : LSt} (h : LdV w B gl s) (hq : s.mb = some q) (ht : TurnM q w w') {l' : List (Ent Key Unit)} {c' : Nat} {ρ : Nm} {rs : List Reg} (hM : MpO encK encU ρ rs w' (some q) l' c') : LdV w' B gl (s.setBlk (some q) l' c') := by
  obtain ⟨es, cl, hw⟩ := ht.was
  have hcell : ∀ {g : Nat} {t : TypeId} {a : Array Value}, Blk w g t a → Blk w' g t a := fun hb => (ht.kept.block _ hb.lt (fun e => by
    unfold Blk at hb
    rw [e, hw] at hb
    cases hb)).trans hb
  have e : s.cells = (s.setBlk (some q) l' c').cells := by unfold LSt.cells LSt.setBlk; rw [hq]
  exact ⟨e ▸ hcell h.cell, ⟨hcell h.pos.cell, h.pos.mp.turnNe ht (h.neB q hq), h.pos.ok, h.pos.nz, h.pos.ge, h.pos.geM⟩, h.iss.turnNe ht (h.neX q hq), ⟨fun x hx => ⟨(hM.is x hx).1, fun hw => by obtain ⟨_, _, hr, _⟩ := hw; simp at hr⟩, fun e => by cases e⟩, h.ge, h.geI, fun x hx => h.geB x (hq.trans hx), h.neI, fun x hx => h.neB x (hq.trans hx), fun x hx => h.neX x (hq.trans hx)⟩
theorem LdO.setBlk {ρ : Nm} {rs : List Reg} {w w' : World} {B gl q : Nat} {s : LSt} (h : LdO ρ rs w B gl s) (hq : s.mb = some q) (ht : TurnM q w w') {l' : List (Ent Key Unit)} {c' : Nat} (hM : MpO encK encU ρ rs w' (some q) l' c') : LdO ρ rs w' B gl (s.setBlk (some q) l' c') :=
  ⟨h.ld.setBlk hq ht hM, h.at_, h.lt, fun x hx => h.far x (hx.imp id (fun h2 => by
    rcases h2 with h3 | h3 | h3 | h3
    · exact .inl h3
    · exact .inr (.inl h3)
    · exact .inr (.inr (.inl h3))
    · exact .inr (.inr (.inr (hq.trans h3)))))⟩
theorem setBlk_has {s : LSt} {q x : Nat} {l' : List (Ent Key Unit)} {c' : Nat} (hq : s.mb = some q) (h : (s.setBlk (some q) l' c').has x) : s.has x := by
  rcases h with h3 | h3 | h3 | h3
  · exact .inl h3
  · exact .inr (.inl h3)
  · exact .inr (.inr (.inl h3))
  · exact .inr (.inr (.inr (hq.trans h3)))
theorem hasK_look {K V : Type} [DecidableEq K] (k : K) (l : List (Ent K V)) : hasK k l = (look k l).isSome := by
  cases h : hasK k l with
  | true =>
    cases h2 : look k l with
    | none =>
      obtain ⟨e, he, hk⟩ := List.mem_map.1 (hasK_iff.1 h)
      exact absurd hk (look_none.1 h2 e he)
    | some v => rfl
  | false =>
    cases h2 : look k l with
    | none => rfl
    | some v =>
      have : ¬ look k l = none := by rw [h2]; simp
      have h3 : ∃ e ∈ l, e.key = k := Classical.byContradiction fun hn => this (look_none.2 fun e he hk => hn ⟨e, he, hk⟩)
      obtain ⟨e, he, hk⟩ := h3
      rw [hasK_iff.2 (List.mem_map.2 ⟨e, he, hk⟩)] at h
      cases h
theorem blk_off {l : List (Ent Key Unit)} {ck : Nat} (hf : Fine l ck) (k q : Key) : hasK q (del k l) = if q = k then false else hasK q l := by
  rw [hasK_look, look_del hf.keys, hasK_look]
  split <;> rfl
theorem blk_on {l : List (Ent Key Unit)} {ck : Nat} (hf : Fine l ck) (k q : Key) (n : Nat) : hasK q (ins k () n (del k l)) = if q = k then true else hasK q l := by
  rw [hasK_look, look_ins, look_del hf.keys, hasK_look]
  split <;> rfl
attribute [local irreducible] run goO leaveK someK nextK nextT nextOT nextOD loopBody loopRest loopK fillJ tmplOf tmplJ mergeT At AtO drawOk ordOf gateOf callC callO topOp topO idxOf appOf storeOf clearOf sliceOf calleeOf calleeO topQ idxQ newRowOf resL stepOp seek
set_option maxRecDepth 100000 in
set_option maxHeartbeats 4000000 in
theorem block_end {ρ : Nm} {w0 w : World} {B gl : Nat} {s : LSt} {a c : ByteArray} {on : Bool} (hR : Rel (blkT s gl) w0 ρ [⟨s.cells.map .v, false⟩, ⟨[LS a, LS c], true⟩] w) (hld : LdO ρ [⟨s.cells.map .v, false⟩, ⟨[LS a, LS c], true⟩] w B gl s) (hM : MpO encK encU ρ [⟨s.cells.map .v, false⟩, ⟨[LS a, LS c], true⟩] w s.mb s.lb s.cb) (ha : a.size ≤ 281474976710656) (hc : c.size ≤ 281474976710656) (d : Nat → Value) :
    At Try.prog (bodyPost Try.prog Try.f31 (BlkR w0 B gl s a c on)) ⟨regK Try.f31 2, fillJ (tmplJ Try.f31.ntmps 0 [(0, .ptr 0 0), (2, LB on), (4, .ptr 1 0)]) d 0, [⟨s.cells.map .v, false⟩, ⟨[LS a, LS c], true⟩]⟩ ρ w := by
  have hsw := hR.keeps.size
  have e0 := hld.at_
  have hag := Rel.ag_ hR 2 (by kernel_rfl)
  have hf := hM.fine
  obtain ⟨g, m, l, ck, mi, li, ci, mb, lb, cb⟩ := s
  have hf : Fine lb cb := hf
  cases mb with
  | some q =>
    have hq : (LSt.mk g m l ck mi li ci (some q) lb cb).mb = some q := rfl
    have hqT : q ∈ blkT (LSt.mk g m l ck mi li ci (some q) lb cb) gl := by simp [blkT]
    cases on with
    | false =>
      refine sim_run 9 [] (hR.cast (by kernel_rfl)) (by kernel_rfl) trivial (fun ρ200 w200 hm200 hR200 => ?_)
      have hld := hld.moved (hm200.castL (by kernel_rfl))
      have hM := hM.moved (hm200.castL (by kernel_rfl))
      have hag := hag.moved (hm200.castL (by kernel_rfl))
      refine sim_draw [] (by kernel_rfl) (by kernel_rfl) hR200 (fun hR201 => ?_)
      have hld := hld.drew
      have hM := hM.drew
      refine sim_ordN 5 [] hR201 (by kernel_rfl) trivial (fun ρ202 w202 hm202 hR202 => ?_)
      have hag := hag.moved (hm202.castL (by kernel_rfl))
      have hld := hld.moved (hm202.castL (by kernel_rfl))
      have hM := hM.moved (hm202.castL (by kernel_rfl))
      refine sim_ord_del (enc := encK) (encV := encU) (mx := .v (Value.map (some q))) (kx := .agg [LS a, LS c]) (a, c) (by kernel_rfl) rfl mb_ty kt_key hM rfl rfl (.inl hqT) hR202 (fun w203 ht203 hM2 hR203 => ?_)
      have hld := hld.setBlk hq ht203 hM2
      have hM := hM2
      clear hM2
      refine sim_ord_endR hR203 (by kernel_rfl) (fun hR204 => ?_)
      refine sim_run 6 [] (hR204.cast (by kernel_rfl)) (by kernel_rfl) trivial (fun ρ205 w205 hm205 hR205 => ?_)
      have hag := hag.moved (hm205.castL (by kernel_rfl))
      have hld := hld.moved (hm205.castL (by kernel_rfl))
      have hM := hM.moved (hm205.castL (by kernel_rfl))
      refine sim_end (.tup []) hR205 (by kernel_rfl) (by kernel_rfl) ?_
      
      refine ⟨rfl, _, hld.ld, ⟨rfl, rfl, rfl, fun k => blk_off hf (a, c) k⟩, ((by assumption : Rel _ _ _ _ _)).toKept.mono (fun _ hx => .inl (blkT_all hx)), fun x hx => .inl (setBlk_has rfl hx)⟩
    | true =>
      refine sim_run 9 [] (hR.cast (by kernel_rfl)) (by kernel_rfl) trivial (fun ρ300 w300 hm300 hR300 => ?_)
      have hld := hld.moved (hm300.castL (by kernel_rfl))
      have hM := hM.moved (hm300.castL (by kernel_rfl))
      have hag := hag.moved (hm300.castL (by kernel_rfl))
      refine sim_draw [] (by kernel_rfl) (by kernel_rfl) hR300 (fun hR301 => ?_)
      have hld := hld.drew
      have hM := hM.drew
      refine sim_ordN 5 [] hR301 (by kernel_rfl) trivial (fun ρ302 w302 hm302 hR302 => ?_)
      have hag := hag.moved (hm302.castL (by kernel_rfl))
      have hld := hld.moved (hm302.castL (by kernel_rfl))
      have hM := hM.moved (hm302.castL (by kernel_rfl))
      refine sim_ord_del (enc := encK) (encV := encU) (mx := .v (Value.map (some q))) (kx := .agg [LS a, LS c]) (a, c) (by kernel_rfl) rfl mb_ty kt_key hM rfl rfl (.inl hqT) hR302 (fun w303 ht303 hM2 hR303 => ?_)
      have hld := hld.setBlk hq ht303 hM2
      have hM := hM2
      clear hM2
      refine sim_ord_endR hR303 (by kernel_rfl) (fun hR304 => ?_)
      refine sim_run 5 [] (hR304.cast (by kernel_rfl)) (by kernel_rfl) trivial (fun ρ305 w305 hm305 hR305 => ?_)
      have hag := hag.moved (hm305.castL (by kernel_rfl))
      have hld := hld.moved (hm305.castL (by kernel_rfl))
      have hM := hM.moved (hm305.castL (by kernel_rfl))
      refine sim_drawG [] 7 (by kernel_rfl) (by kernel_rfl) hR305 (fun hR306 => ?_)
      have hld := hld.drew
      have hM := hM.drew
      refine sim_ordN 6 [] hR306 (by kernel_rfl) trivial (fun ρ307 w307 hm307 hR307 => ?_)
      have hag := hag.moved (hm307.castL (by kernel_rfl))
      have hld := hld.moved (hm307.castL (by kernel_rfl))
      have hM := hM.moved (hm307.castL (by kernel_rfl))
      refine sim_ord_call (T := blkT (LSt.mk g m l ck mi li ci (some q) lb cb) gl) (w0 := w0) 44 [.agg [LS a, LS c]] (by kernel_rfl) ?_
      refine Calls.mono (own_any _ _ _ (by assumption) (by assumption)) ?_
      rintro e308 w308 ⟨rfl, hb308⟩
      have hR308 := hR307.call hb308 (.agg [LS a, LS c])
      have hld := hld.below hb308
      have hM := hM.below hb308
      refine BackO.of (.agg [LS a, LS c]) hR308 rfl ?_
      refine sim_ord_upd (enc := encK) (encV := encU) (mx := .v (Value.map (some q))) (kx := .agg [LS a, LS c]) (vx := .agg []) (a, c) () (by kernel_rfl) mb_ty kt_key hM rfl rfl rfl (.inl hqT) hR308 (fun w309 ht309 hM2 hR309 => ?_)
      have hld := hld.setBlk rfl ht309 hM2
      have hM := hM2
      clear hM2
      refine sim_ord_endR hR309 (by kernel_rfl) (fun hR310 => ?_)
      refine sim_end (.tup []) (hR310.cast (by kernel_rfl)) (by kernel_rfl) (by kernel_rfl) ?_
      
      refine ⟨rfl, _, hld.ld, ⟨rfl, rfl, rfl, fun k => blk_on hf (a, c) k _⟩, ((by assumption : Rel _ _ _ _ _)).toKept.mono (fun _ hx => .inl (blkT_all hx)), fun x hx => .inl (setBlk_has rfl hx)⟩
  | none =>
    have hgl : (ρ 1).1 ≠ gl := fun e => hld.far gl (.inl rfl) ⟨1, _, rfl, rfl, e⟩
    have hW := hR.toW (by rw [e0]; simp [blkT]) (fun i _ => by simp only [Nm.at_, e0, Nat.zero_add]; exact hld.ld.cell.frozen i) (by rw [e0]; exact fun e => hgl e.symm)
    have hbl := hld.ld.cell
    have hrowv := hW.rowW hbl
    have hpo : PoO ρ [⟨(LSt.mk g m l ck mi li ci none lb cb).cells.map .v, true⟩, ⟨[LS a, LS c], true⟩] w B g m l ck := ⟨hld.ld.pos, fun h => (wrS_two h).elim (fun e => hld.ld.gl_ne (.inl rfl) (by rw [e0] at e; exact e.symm)) (hld.far _ (.inr (.inl rfl))), fun x hx h => (wrS_two h).elim (fun e => hld.ld.gl_ne (.inr hx) (by rw [e0] at e; exact e.symm)) (hld.far _ (.inr (.inr (.inl hx))))⟩
    have hMi : MpO encS encI ρ [⟨(LSt.mk g m l ck mi li ci none lb cb).cells.map .v, true⟩, ⟨[LS a, LS c], true⟩] w mi li ci := ⟨fun x hx => ⟨(hld.ld.iss.is x hx).1, fun h => (wrS_two h).elim (fun e => by
      rw [e0] at e
      have h3 := (hld.ld.iss.is x hx).1.blk
      have h4 := hld.ld.cell
      unfold Blk at h4
      rw [e, h4] at h3
      cases h3) (hld.far _ (.inr (.inr (.inr (.inl hx)))))⟩, hld.ld.iss.nil⟩
    refine sim_rs [⟨(LSt.mk g m l ck mi li ci none lb cb).cells.map .v, true⟩, ⟨[LS a, LS c], true⟩] ?_
    obtain ⟨rfl, rfl⟩ := hM.nil rfl
    have hld0 := hld.ld
    clear hld hM hR hag
    have hag := hW.ag_ 2 (by kernel_rfl)
    cases on with
    | false =>
      refine sim_run 9 [] (hW.cast (by kernel_rfl)) (by kernel_rfl) trivial (fun ρ400 w400 hm400 hR400 => ?_)
      have hrowv := hrowv.moved (hm400.castL (by kernel_rfl))
      have hpo := hpo.moved (hm400.castL (by kernel_rfl))
      have hMi := hMi.moved (hm400.castL (by kernel_rfl))
      have hag := hag.moved (hm400.castL (by kernel_rfl))
      refine sim_make encK encU (t := 54) (by kernel_rfl) hR400 (fun w401 q eq hb401 hM hR401 => ?_)
      have hq0 : w0.heap.size ≤ q := by rw [eq]; exact (hR400).keeps.size
      have hq2 : w.heap.size ≤ q := by rw [eq]; exact hm400.kept.size
      have hneM : m ≠ some q := fun e => by have := hld0.has_lt (x := q) (.inr (.inr (.inl e))); omega
      have hneI : mi ≠ some q := fun e => by have := hld0.has_lt (x := q) (.inr (.inr (.inr (.inl e)))); omega
      have hrowv := hrowv.below hb401
      have hpo := hpo.below hb401
      have hMi := hMi.below hb401
      refine sim_run 5 [] (hR401.cast (by kernel_rfl)) (by kernel_rfl) trivial (fun ρ402 w402 hm402 hR402 => ?_)
      have hag := hag.moved (hm402.castL (by kernel_rfl))
      have hM := hM.moved (hm402.castL (by kernel_rfl))
      have hrowv := hrowv.moved (hm402.castL (by kernel_rfl))
      have hpo := hpo.moved (hm402.castL (by kernel_rfl))
      have hMi := hMi.moved (hm402.castL (by kernel_rfl))
      refine sim_draw [] (by kernel_rfl) (by kernel_rfl) hR402 (fun hR403 => ?_)
      have hM := hM.drew
      have hrowv := hrowv.drew
      have hpo := hpo.drew
      have hMi := hMi.drew
      refine sim_ordN 5 [] hR403 (by kernel_rfl) trivial (fun ρ404 w404 hm404 hR404 => ?_)
      have hag := hag.moved (hm404.castL (by kernel_rfl))
      have hM := hM.moved (hm404.castL (by kernel_rfl))
      have hrowv := hrowv.moved (hm404.castL (by kernel_rfl))
      have hpo := hpo.moved (hm404.castL (by kernel_rfl))
      have hMi := hMi.moved (hm404.castL (by kernel_rfl))
      refine sim_ord_del (enc := encK) (encV := encU) (mx := .v (Value.map (some q))) (kx := .agg [LS a, LS c]) (a, c) (by kernel_rfl) rfl mb_ty kt_key hM rfl rfl (.inr hq0) hR404 (fun w405 ht405 hM2 hR405 => ?_)
      have hrowv := hrowv.turnM ht405
      have hpo := hpo.turnM ht405 hneM
      have hMi := hMi.turnNe ht405 hneI
      have hM := hM2
      clear hM2
      refine sim_ord_endR hR405 (by kernel_rfl) (fun hR406 => ?_)
      refine sim_run 6 [] (hR406.cast (by kernel_rfl)) (by kernel_rfl) trivial (fun ρ407 w407 hm407 hR407 => ?_)
      have hag := hag.moved (hm407.castL (by kernel_rfl))
      have hrowv := hrowv.moved (hm407.castL (by kernel_rfl))
      have hpo := hpo.moved (hm407.castL (by kernel_rfl))
      have hMi := hMi.moved (hm407.castL (by kernel_rfl))
      have hM := hM.moved (hm407.castL (by kernel_rfl))
      refine sim_end (.tup []) hR407 (by kernel_rfl) (by kernel_rfl) ?_
      
      have hbf := hrowv.full (n := 0) (cells := [.v (.pointer (some ⟨g, 0, none⟩)), .v (.map mi), .v (.map (some q))]) (wr := true) (by assumption : Rel _ _ _ _ _) hag (by kernel_rfl) e0 rfl
      have hltm : ∀ x, (x = gl ∨ (LSt.mk g m l ck mi li ci none [] 0).has x) → x < w.heap.size := fun x hx => hld0.has_lt hx
      refine ⟨rfl, (LSt.mk g m l ck mi li ci none [] 0).setBlk (some q) (del (a, c) []) 0, ⟨hbf, hpo.po, ⟨fun x hx => ⟨(hMi.is x hx).1, fun hw => by obtain ⟨_, _, hr, _⟩ := hw; simp at hr⟩, hMi.nil⟩, ⟨fun x hx => ⟨(hM.is x hx).1, fun hw => by obtain ⟨_, _, hr, _⟩ := hw; simp at hr⟩, fun e => by cases e⟩, hld0.ge, hld0.geI, fun x hx => ?_, hld0.neI, fun x hx e => ?_, fun x hx e => ?_⟩, ⟨rfl, rfl, rfl, fun k => blk_off (l := []) (ck := 0) fine_nil (a, c) k⟩, ((by assumption : Rel _ _ _ _ _)).toKept.mono (fun _ hx => .inl (blkT_all hx)), fun x hx => ?_⟩
      · injection hx with hx
        have := hld0.ge
        have := hld0.cell.lt
        omega
      · injection hx with hx
        have := hltm x (.inr (.inr (.inl e)))
        omega
      · injection hx with hx
        have := hltm x (.inr (.inr (.inr (.inl e))))
        omega
      · rcases hx with hx | hx | hx | hx
        · exact .inl (.inl hx)
        · exact .inl (.inr (.inl hx))
        · exact .inl (.inr (.inr (.inl hx)))
        · injection hx with hx
          exact .inr (by omega)
    | true =>
      refine sim_run 9 [] (hW.cast (by kernel_rfl)) (by kernel_rfl) trivial (fun ρ500 w500 hm500 hR500 => ?_)
      have hrowv := hrowv.moved (hm500.castL (by kernel_rfl))
      have hpo := hpo.moved (hm500.castL (by kernel_rfl))
      have hMi := hMi.moved (hm500.castL (by kernel_rfl))
      have hag := hag.moved (hm500.castL (by kernel_rfl))
      refine sim_make encK encU (t := 54) (by kernel_rfl) hR500 (fun w501 q eq hb501 hM hR501 => ?_)
      have hq0 : w0.heap.size ≤ q := by rw [eq]; exact (hR500).keeps.size
      have hq2 : w.heap.size ≤ q := by rw [eq]; exact hm500.kept.size
      have hneM : m ≠ some q := fun e => by have := hld0.has_lt (x := q) (.inr (.inr (.inl e))); omega
      have hneI : mi ≠ some q := fun e => by have := hld0.has_lt (x := q) (.inr (.inr (.inr (.inl e)))); omega
      have hrowv := hrowv.below hb501
      have hpo := hpo.below hb501
      have hMi := hMi.below hb501
      refine sim_run 5 [] (hR501.cast (by kernel_rfl)) (by kernel_rfl) trivial (fun ρ502 w502 hm502 hR502 => ?_)
      have hag := hag.moved (hm502.castL (by kernel_rfl))
      have hM := hM.moved (hm502.castL (by kernel_rfl))
      have hrowv := hrowv.moved (hm502.castL (by kernel_rfl))
      have hpo := hpo.moved (hm502.castL (by kernel_rfl))
      have hMi := hMi.moved (hm502.castL (by kernel_rfl))
      refine sim_draw [] (by kernel_rfl) (by kernel_rfl) hR502 (fun hR503 => ?_)
      have hM := hM.drew
      have hrowv := hrowv.drew
      have hpo := hpo.drew
      have hMi := hMi.drew
      refine sim_ordN 5 [] hR503 (by kernel_rfl) trivial (fun ρ504 w504 hm504 hR504 => ?_)
      have hag := hag.moved (hm504.castL (by kernel_rfl))
      have hM := hM.moved (hm504.castL (by kernel_rfl))
      have hrowv := hrowv.moved (hm504.castL (by kernel_rfl))
      have hpo := hpo.moved (hm504.castL (by kernel_rfl))
      have hMi := hMi.moved (hm504.castL (by kernel_rfl))
      refine sim_ord_del (enc := encK) (encV := encU) (mx := .v (Value.map (some q))) (kx := .agg [LS a, LS c]) (a, c) (by kernel_rfl) rfl mb_ty kt_key hM rfl rfl (.inr hq0) hR504 (fun w505 ht505 hM2 hR505 => ?_)
      have hrowv := hrowv.turnM ht505
      have hpo := hpo.turnM ht505 hneM
      have hMi := hMi.turnNe ht505 hneI
      have hM := hM2
      clear hM2
      refine sim_ord_endR hR505 (by kernel_rfl) (fun hR506 => ?_)
      refine sim_run 5 [] (hR506.cast (by kernel_rfl)) (by kernel_rfl) trivial (fun ρ507 w507 hm507 hR507 => ?_)
      have hag := hag.moved (hm507.castL (by kernel_rfl))
      have hrowv := hrowv.moved (hm507.castL (by kernel_rfl))
      have hpo := hpo.moved (hm507.castL (by kernel_rfl))
      have hMi := hMi.moved (hm507.castL (by kernel_rfl))
      have hM := hM.moved (hm507.castL (by kernel_rfl))
      refine sim_drawG [] 7 (by kernel_rfl) (by kernel_rfl) hR507 (fun hR508 => ?_)
      have hrowv := hrowv.drew
      have hpo := hpo.drew
      have hMi := hMi.drew
      have hM := hM.drew
      refine sim_ordN 6 [] hR508 (by kernel_rfl) trivial (fun ρ509 w509 hm509 hR509 => ?_)
      have hag := hag.moved (hm509.castL (by kernel_rfl))
      have hrowv := hrowv.moved (hm509.castL (by kernel_rfl))
      have hpo := hpo.moved (hm509.castL (by kernel_rfl))
      have hMi := hMi.moved (hm509.castL (by kernel_rfl))
      have hM := hM.moved (hm509.castL (by kernel_rfl))
      refine sim_ord_call (T := blkT (LSt.mk g m l ck mi li ci none [] 0) gl) (w0 := w0) 44 [.agg [LS a, LS c]] (by kernel_rfl) ?_
      refine Calls.mono (own_any _ _ _ (by assumption) (by assumption)) ?_
      rintro e510 w510 ⟨rfl, hb510⟩
      have hR510 := hR509.call hb510 (.agg [LS a, LS c])
      have hrowv := hrowv.below hb510
      have hpo := hpo.below hb510
      have hMi := hMi.below hb510
      have hM := hM.below hb510
      refine BackO.of (.agg [LS a, LS c]) hR510 rfl ?_
      refine sim_ord_upd (enc := encK) (encV := encU) (mx := .v (Value.map (some q))) (kx := .agg [LS a, LS c]) (vx := .agg []) (a, c) () (by kernel_rfl) mb_ty kt_key hM rfl rfl rfl (.inr hq0) hR510 (fun w511 ht511 hM2 hR511 => ?_)
      have hrowv := hrowv.turnM ht511
      have hpo := hpo.turnM ht511 hneM
      have hMi := hMi.turnNe ht511 hneI
      have hM := hM2
      clear hM2
      refine sim_ord_endR hR511 (by kernel_rfl) (fun hR512 => ?_)
      refine sim_end (.tup []) (hR512.cast (by kernel_rfl)) (by kernel_rfl) (by kernel_rfl) ?_
      
      have hbf := hrowv.full (n := 0) (cells := [.v (.pointer (some ⟨g, 0, none⟩)), .v (.map mi), .v (.map (some q))]) (wr := true) (by assumption : Rel _ _ _ _ _) hag (by kernel_rfl) e0 rfl
      have hltm : ∀ x, (x = gl ∨ (LSt.mk g m l ck mi li ci none [] 0).has x) → x < w.heap.size := fun x hx => hld0.has_lt hx
      refine ⟨rfl, (LSt.mk g m l ck mi li ci none [] 0).setBlk (some q) (ins (a, c) () 0 (del (a, c) [])) (clockAfter (a, c) (del (a, c) ([] : List (Ent Key Unit))) 0), ⟨hbf, hpo.po, ⟨fun x hx => ⟨(hMi.is x hx).1, fun hw => by obtain ⟨_, _, hr, _⟩ := hw; simp at hr⟩, hMi.nil⟩, ⟨fun x hx => ⟨(hM.is x hx).1, fun hw => by obtain ⟨_, _, hr, _⟩ := hw; simp at hr⟩, fun e => by cases e⟩, hld0.ge, hld0.geI, fun x hx => ?_, hld0.neI, fun x hx e => ?_, fun x hx e => ?_⟩, ⟨rfl, rfl, rfl, fun k => blk_on (l := []) (ck := 0) fine_nil (a, c) k _⟩, ((by assumption : Rel _ _ _ _ _)).toKept.mono (fun _ hx => .inl (blkT_all hx)), fun x hx => ?_⟩
      · injection hx with hx
        have := hld0.ge
        have := hld0.cell.lt
        omega
      · injection hx with hx
        have := hltm x (.inr (.inr (.inl e)))
        omega
      · injection hx with hx
        have := hltm x (.inr (.inr (.inr (.inl e))))
        omega
      · rcases hx with hx | hx | hx | hx
        · exact .inl (.inl hx)
        · exact .inl (.inr (.inl hx))
        · exact .inl (.inr (.inr (.inl hx)))
        · injection hx with hx
          exact .inr (by omega)
set_option maxRecDepth 100000 in
set_option maxHeartbeats 4000000 in
theorem block_any (B gl : Nat) (s : LSt) (a c : ByteArray) (on : Bool) (w : World) (h : LdV w B gl s) (ha : a.size ≤ 281474976710656) (hc : c.size ≤ 281474976710656) : Calls Try.prog 31 #[.pointer (some ⟨gl, 0, none⟩), .agg #[.string a, .string c], .bool on] w (BlkR w B gl s a c on) := by
  obtain ⟨ρ, e0, hR⟩ := h.open_ false (blkT s gl) (fun h => by cases h)
  have hag := Rel.ag_ hR 1 (by kernel_rfl)
  refine sim_enter Try.func31 ρ [.ptr 0 0, .agg [LS a, LS c], LB on] [⟨s.cells.map .v, false⟩] (by kernel_rfl) (by simp only [denL, LV.den, Nm.at_, e0]) ?_
  have hld := h.in_ (cs := s.cells.map .v) e0
  have hM := h.overB (r := ⟨s.cells.map .v, false⟩) e0
  refine sim_run 8 [] (hR.cast (by kernel_rfl)) (by kernel_rfl) trivial (fun ρ100 w100 hm100 hR100 => ?_)
  have hag := hag.moved (hm100.castL (by kernel_rfl))
  have hld := hld.moved (hm100.castL (by kernel_rfl))
  have hM := hM.moved (hm100.castL (by kernel_rfl))
  refine sim_call 42 [.ptr 0 0] (by kernel_rfl) ?_
  have ez0_101 := (hag.at_ 0 (by omega)).trans e0
  simp only [denL, LV.den, Nm.at_, ez0_101, Nat.add_zero]
  refine Calls.mono (none_any _ _ _ _ hld.ld) ?_
  rintro e101 w101 ⟨rfl, hb101⟩
  have hR101 := hR100.below hb101
  have hld := hld.below hb101
  have hM := hM.below hb101
  refine Back.of (LB false) hR101 rfl ?_
  refine sim_run 6 [] (hR101.cast (by kernel_rfl)) (by kernel_rfl) trivial (fun ρ102 w102 hm102 hR102 => ?_)
  have hag := hag.moved (hm102.castL (by kernel_rfl))
  have hld := hld.moved (hm102.castL (by kernel_rfl))
  have hM := hM.moved (hm102.castL (by kernel_rfl))
  
  refine sim_to (regK Try.f31 2) (tmplJ Try.f31.ntmps 0 [(0, .ptr 0 0), (2, LB on), (4, .ptr 1 0)]) [⟨s.cells.map .v, false⟩, ⟨[LS a, LS c], true⟩] (by kernel_rfl) (by kernel_rfl) (by kernel_rfl) (fun d => ?_)
  exact block_end ((by assumption : Rel _ _ _ _ _).cast (by kernel_rfl)) (hld.castR (by kernel_rfl)) (hM.castR (by kernel_rfl)) ha hc d
end
end Go.Proofs.Ytgbgedaedcofcaa
