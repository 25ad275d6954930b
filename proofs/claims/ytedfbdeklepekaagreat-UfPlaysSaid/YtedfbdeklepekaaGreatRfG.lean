/-
  complineref12.Graph: numbers are joined.
-/
import Derived.Test.YtedfbdeklepekaaGreatRfF
namespace Go.Proofs.YtedfbdeklepekaaGreat
open Go Go.RowKit
section
variable {P : Program} {Q : Exit → Act → World → Prop} {T : List Nat} {w0 w : World} {ρ : Nm} {c : Cfg}
/-- a store into a row of numbers of one's own -/
theorem sim_storeQ {a : LV} {z : Int} (h : storeOf P c = some (a, [LI z])) (hR : Rel T w0 ρ c.rs w) {g i n cp base : Nat} {e : TypeId} {pl : List Int} (hown : Own ρ c.rs w base e 1 (.slice (some ⟨g, 0, none⟩) n cp) n (ints pl)) (ha : a.den ρ = .pointer (some ⟨g, i, none⟩)) (hi : i < n) (hT : g ∈ T ∨ w0.heap.size ≤ g)
    (l : List Nat) (hro : roIdx c.rs 0 = l) (hidx : ∀ k ∈ l, (ρ k).1 ≠ g)
    (next : ∀ w', Own ρ c.rs w' base e 1 (.slice (some ⟨g, 0, none⟩) n cp) n (ints (pl.set i z)) → Kept (fun x => x = g) w w' → Rel T w0 ρ c.rs w' → At P Q (nextC c (.v undef) c.rs) ρ w') : At P Q c ρ w := by
  obtain ⟨hl, h2⟩ := hown.own
  rw [ints_length] at hl
  rcases h2 with ⟨h3, _⟩ | ⟨g', cap, cur, he, hb, hg, hn, hm, hsz, ht⟩
  · cases h3
  · injection he with he h4 h5
    injection he with he
    injection he with he
    subst he h5
    have hcl : i < cur.toList.length := by rw [Array.length_toList, hsz]; omega
    have hreg : ∀ (k : Nat) (r : Reg), c.rs[k]? = some r → r.cells ≠ [] → (ρ k).1 ≠ g := fun k r' hk hne he => by
      cases hw : r'.wr with
      | true => exact hown.far g rfl ⟨k, r', hk, hw, he⟩
      | false =>
        have := roIdx_mem c.rs 0 k r' hk hw hne
        rw [hro, Nat.zero_add] at this
        exact hidx k this he
    refine sim_store (cur := cur.toList) h hR ha (by rw [Array.toArray_toList]; exact hg) (by show i + 1 ≤ _; omega) hT hreg (fun w' hb' hk hR' => next w' ⟨⟨by rw [ints_length, List.length_set]; exact hl, .inr ⟨g, cp, _, rfl, hb, hb', hn, hm, ?_, ?_⟩⟩, hown.far⟩ hk hR')
    · show (overlay cur.toList i [Value.int .i64 z]).toArray.size = _
      rw [overlay_oneQ _ _ _ hcl, List.size_toArray, List.length_set, Array.length_toList, hsz]
    · show ((overlay cur.toList i [Value.int .i64 z]).toArray.toList).take (n * 1) = _
      rw [overlay_oneQ _ _ _ hcl, List.toList_toArray, List.take_set, ht]
      unfold ints
      rw [List.map_set]
end
/-- what lies outside of the box's cells in view, over fewer places -/
theorem rowCut {T : List Nat} {w0 w : World} {ρb ρ : Nm} {rs : List Reg} {b : Nat} {t : TypeId} {cs : List LV} {cur : List Value} (hR : Rel T w0 ρ rs w) (hbox : RowV ρ rs w b t cur) (hag : Ag 1 ρb ρ rs) (e0 : ρb 0 = (b, 0)) (hn : rs[0]? = some ⟨cs, true⟩) (hl : cs.length = cur.length) : RowV ρb [⟨cs, true⟩] w b t cur := by
  have h := hbox.full hR hag hn e0 hl
  refine ⟨_, h, by rw [List.size_toArray, denL_length, hl], fun i hi => ?_⟩
  have h1 := hi 0 ⟨cs, true⟩ rfl rfl (congrArg Prod.fst e0)
  rw [e0] at h1
  have h2 : cur.length ≤ i := by
    simp only at h1
    omega
  rw [List.getElem?_eq_none h2, Array.getElem?_eq_none (by rw [List.size_toArray, denL_length, hl]; exact h2)]
/-- the first k heads are replaced -/
def repK (l : List Nat) (lo hi k : Nat) : List Int := ((l.take k).map fun h => if h = hi then (lo : Int) else (h : Int)) ++ (l.drop k).map Int.ofNat
theorem repK_zero (l : List Nat) (lo hi : Nat) : repK l lo hi 0 = l.map Int.ofNat := rfl
theorem repK_all (l : List Nat) (lo hi k : Nat) (h : l.length ≤ k) : ints (repK l lo hi k) = nats (l.map fun h => if h = hi then lo else h) := by
  unfold repK
  rw [List.take_of_length_le h, List.drop_of_length_le h, nats_ints]
  simp only [List.map_nil, List.append_nil, List.map_map]
  congr 1
  refine List.map_congr_left fun x _ => ?_
  show (if x = hi then (lo : Int) else (x : Int)) = Int.ofNat (if x = hi then lo else x)
  split <;> rfl
theorem repK_at {l : List Nat} {lo hi k p : Nat} (h : l[k]? = some p) : (repK l lo hi k)[k]? = some (p : Int) := by
  obtain ⟨h1, rfl⟩ := List.getElem?_eq_some_iff.1 h
  unfold repK
  rw [List.getElem?_append_right (by rw [List.length_map, List.length_take]; omega), List.length_map, List.length_take, Nat.min_eq_left (by omega), Nat.sub_self, List.getElem?_map, List.getElem?_drop, Nat.add_zero, List.getElem?_eq_getElem h1]
  rfl
theorem repK_succ {l : List Nat} {lo hi k p : Nat} (h : l[k]? = some p) : repK l lo hi (k + 1) = (repK l lo hi k).set k (if p = hi then (lo : Int) else (p : Int)) := by
  obtain ⟨h1, rfl⟩ := List.getElem?_eq_some_iff.1 h
  unfold repK
  have h2 : ((l.take k).map fun h => if h = hi then (lo : Int) else (h : Int)).length = k := by rw [List.length_map, List.length_take]; omega
  rw [List.set_append_right _ _ (by omega), h2, Nat.sub_self, List.take_add_one, h, List.drop_eq_getElem_cons h1, List.map_append, List.map_cons, List.set_cons_zero, List.append_assoc]
  rfl
theorem repK_same {l : List Nat} {lo hi k p : Nat} (h : l[k]? = some p) (hp : p ≠ hi) : repK l lo hi (k + 1) = repK l lo hi k := by
  rw [repK_succ h, if_neg hp]
  have h1 := repK_at (lo := lo) (hi := hi) h
  obtain ⟨h2, h3⟩ := List.getElem?_eq_some_iff.1 h1
  rw [← h3]
  exact List.set_getElem_self h2
attribute [local irreducible] run goO leaveK someK nextK nextT nextOT nextOD loopBody loopRest loopK fillJ tmplOf tmplJ mergeT At AtO drawOk ordOf gateOf callC callO topOp topO idxOf appOf storeOf clearOf sliceOf calleeOf calleeO topQ idxQ newRowOf resL stepOp seek
set_option maxRecDepth 100000 in
set_option maxHeartbeats 4000000 in
theorem join_h {Q : Exit → Act → World → Prop} {R : Ending → World → Prop} [hB : Body Tryz.prog Q Tryz.f11 R] {ρ : Nm} {w0 w : World} {b : Nat} {A : Option Addr} {c : Nat} {vL : Value} {cur : List Value} {u : List Nat} {ga oa m cl cnt i : Nat} {lo hi : Nat} (hR : Rel [b] w0 ρ [⟨[.v (.slice A u.length c), .v vL], true⟩] w) (hbox : RowV ρ [⟨[.v (.slice A u.length c), .v vL], true⟩] w b 36 cur) (hcl : 2 = cur.length) (ho : Own ρ [⟨[.v (.slice A u.length c), .v vL], true⟩] w 0 3 1 (.slice A u.length c) u.length (nats (hds u))) (e0 : ρ 0 = (b, 0)) (hu : u.length ≤ 1000) (hpos : 0 < u.length) (hb : b < w0.heap.size) (_ : cnt ≤ 1000000) (hi1 : i ≤ 1000000) (_ : lo ≤ 1000) (_ : hi ≤ 1000) (d : Nat → Value)
    (hfin : ∀ (c' : Cfg) (ρ' : Nm) (w' : World) (A' : Option Addr) (c1 : Nat), c'.k = [] → mergeT (tmplJ Tryz.f11.ntmps 0 [(0, .ptr 0 0), (1, .v (.slice (some ⟨ga, oa, none⟩) m cl)), (7, LI ((cnt : Int) + 1)), (8, LI ((i : Int) + 1))]) c'.tmps = c'.tmps → (tmplJ Tryz.f11.ntmps 0 [(0, .ptr 0 0), (1, .v (.slice (some ⟨ga, oa, none⟩) m cl)), (7, LI ((cnt : Int) + 1)), (8, LI ((i : Int) + 1))]).length = c'.tmps.length → Ag 1 ρ ρ' c'.rs → Rel [b] w0 ρ' c'.rs w' → c'.rs.take 1 = [⟨[.v (.slice A' u.length c1), .v vL], true⟩] → RowV ρ' c'.rs w' b 36 cur → Own ρ' c'.rs w' 0 3 1 (.slice A' u.length c1) u.length (nats ((hds u).map fun h => if h = hi then lo else h)) → (∀ a, A' = some a → w0.heap.size ≤ a.block) → At Tryz.prog Q c' ρ' w') :
    At Tryz.prog Q ⟨regK Tryz.f11 15, fillJ (tmplJ Tryz.f11.ntmps 0 [(0, .ptr 0 0), (1, .v (.slice (some ⟨ga, oa, none⟩) m cl)), (7, LI ((cnt : Int) + 1)), (8, LI (i : Int)), (9, LI (lo : Int)), (10, LI (hi : Int))]) d 0, [⟨[.v (.slice A u.length c), .v vL], true⟩]⟩ ρ w := by
  have hag := hR.ag_ 1 (by kernel_rfl)
  rw [nats_ints] at ho
  refine sim_run 4 [] (hR.cast (by kernel_rfl)) (by kernel_rfl) trivial (fun ρ100 w100 hm100 hR100 => ?_)
  have hbox := hbox.moved (hm100.castL (by kernel_rfl))
  have ho := ho.moved (hm100.castL (by kernel_rfl))
  have hag := hag.moved (hm100.castL (by kernel_rfl))
  
  refine sim_appendRK 31 (.slice none 0 0) A u.length c (by kernel_rfl) hR100 tyI (World.ownsRow_nil _ w100.heap.size _ _) ho.reads (oneI _) (by unfold maxLen; omega) (by omega) (Nat.le_refl _) (fun g hg => by cases hg) (fun g hg => by cases hg) (fun v2 w2 hown hg2 _ _ hR2 => ?_)
  have hB0 := hR100.keeps.size
  rw [Nat.zero_add, List.nil_append] at hown
  have hv : Own ρ100 _ w2 w0.heap.size 3 1 v2 u.length (ints (repK (hds u) lo hi 0)) := ⟨own_base0 hown hB0, (Own.start hR100 hown).far⟩
  have hbox := hbox.grown hg2 (fun e => by cases e)
  clear hown ho hg2
  obtain ⟨Ah, ch, rfl⟩ := own_row' hv.own
  obtain ⟨gh, rfl⟩ := own_spot hv.own hpos
  refine sim_run 8 [] (hR2.cast (by kernel_rfl)) (by kernel_rfl) trivial (fun ρ200 w200 hm200 hR200 => ?_)
  have hag := hag.moved (hm200.castL (by kernel_rfl))
  have hbox := hbox.moved (hm200.castL (by kernel_rfl))
  have hv := hv.moved (hm200.castL (by kernel_rfl))
  
  have e0 := (hag.at_ 0 (by omega)).trans e0
  refine sim_loop (ι := Nat) (T := [b]) (w0 := w0) 0 [0, 1, 7, 8, 9, 10, 11] (fun k => [(12, LI k)]) (fun _ => [⟨[.v (.slice A u.length c), .v vL], true⟩]) (fun k w1 => k ≤ u.length ∧ Own ρ200 [⟨[.v (.slice A u.length c), .v vL], true⟩] w1 w0.heap.size 3 1 (.slice (some ⟨gh, 0, none⟩) u.length ch) u.length (ints (repK (hds u) lo hi k)) ∧ RowV ρ200 [⟨[.v (.slice A u.length c), .v vL], true⟩] w1 b 36 cur) (fun k => u.length - k) (by kernel_rfl) (by kernel_rfl) ((by assumption : Rel _ _ _ _ _).cast (by kernel_rfl)) ⟨Nat.zero_le _, hv.castR (by kernel_rfl), hbox.castR (by kernel_rfl)⟩ ?_
  iterate 8 (try clear hv)
  iterate 8 (try clear hbox)
  have hagO := hag.castR (rs' := [⟨[.v (.slice A u.length c), .v vL], true⟩]) (by kernel_rfl)
  iterate 8 (try clear hag)
  rintro k d4 w4 hR4 ⟨hk, hv, hbox⟩
  have hag := hR4.ag_ 1 (by kernel_rfl)
  by_cases hlt : k < u.length
  · obtain ⟨p, hp⟩ : ∃ p, Uf.hd u (k + 1) = p := ⟨_, rfl⟩
    have hpk : (hds u)[k]? = some p := by rw [hds_get hlt, hp]
    have hz := repK_at (lo := lo) (hi := hi) hpk
    refine sim_seeQ _ k 1 (by kernel_rfl) hz hv hlt hR4 (by kernel_rfl) (fun ρE hmE eE hRE => ?_)
    have hv := hv.moved hmE
    have hbox := hbox.moved hmE
    have hag0 := hag.moved hmE
    have hag := hRE.ag_ 2 (by kernel_rfl)
    by_cases hph : p = hi
    · refine sim_run 8 [] (hRE.cast (by kernel_rfl)) (by kernel_rfl) trivial (fun ρ300 w300 hm300 hR300 => ?_)
      have hv := hv.moved (hm300.castL (by kernel_rfl))
      have hbox := hbox.moved (hm300.castL (by kernel_rfl))
      have hag0 := hag0.moved (hm300.castL (by kernel_rfl))
      have hag := hag.moved (hm300.castL (by kernel_rfl))
      refine sim_know 61 (decide ((↑k : Int) < (↑u.length : Int))) true (by kernel_rfl) (decide_eq_true (by omega)) ?_
      refine sim_run 8 [] (hR300.cast (by kernel_rfl)) (by kernel_rfl) trivial (fun ρ301 w301 hm301 hR301 => ?_)
      have hv := hv.moved (hm301.castL (by kernel_rfl))
      have hbox := hbox.moved (hm301.castL (by kernel_rfl))
      have hag0 := hag0.moved (hm301.castL (by kernel_rfl))
      have hag := hag.moved (hm301.castL (by kernel_rfl))
      refine sim_place (.v (.slice (some ⟨gh, 0, none⟩) u.length ch)) u.length 1 (k : Int) 1 0 (by kernel_rfl) (by omega) (by omega) rfl (by simp only [Nm.at_, hag.at_ 1 (by omega), eE, Nat.add_zero, Nat.zero_add, Int.toNat_natCast, Nat.mul_one]) ?_
      refine sim_run 4 [] (hR301.cast (by kernel_rfl)) (by kernel_rfl) trivial (fun ρ303 w303 hm303 hR303 => ?_)
      have hv := hv.moved (hm303.castL (by kernel_rfl))
      have hbox := hbox.moved (hm303.castL (by kernel_rfl))
      have hag0 := hag0.moved (hm303.castL (by kernel_rfl))
      have hag := hag.moved (hm303.castL (by kernel_rfl))
      refine sim_know 69 ((↑p : Int) == (↑hi : Int)) true (by kernel_rfl) (decide_eq_true (by omega)) ?_
      refine sim_run 2 [] (hR303.cast (by kernel_rfl)) (by kernel_rfl) trivial (fun ρ304 w304 hm304 hR304 => ?_)
      have hv := hv.moved (hm304.castL (by kernel_rfl))
      have hbox := hbox.moved (hm304.castL (by kernel_rfl))
      have hag0 := hag0.moved (hm304.castL (by kernel_rfl))
      have hag := hag.moved (hm304.castL (by kernel_rfl))
      
      have hz1 := ((by assumption : Rel _ _ _ _ _)).ag_ 1 (by kernel_rfl)
      have e0z := (hag0.at_ 0 (by omega)).trans e0
      have hRz := ((by assumption : Rel _ _ _ _ _)).cut (rs := [⟨[.v (.slice A u.length c), .v vL], true⟩]) (by kernel_rfl) (Agree.refl _ _) (by kernel_rfl)
      have hvz := hv.cut (rs := [⟨[.v (.slice A u.length c), .v vL], true⟩]) hz1 rfl (by kernel_rfl)
      have hboxz := rowCut (cs := [.v (.slice A u.length c), .v vL]) (by assumption : Rel _ _ _ _ _) hbox hz1 e0z (by kernel_rfl) hcl
      have hagz : Ag 1 ρ200 _ [⟨[.v (.slice A u.length c), .v vL], true⟩] := ⟨hag0.ag, Nat.le_of_ble_eq_true (by kernel_rfl)⟩
      refine sim_to (regK Tryz.f11 20) (tmplJ Tryz.f11.ntmps 0 [(0, .ptr 0 0), (1, .v (.slice (some ⟨ga, oa, none⟩) m cl)), (7, LI ((cnt : Int) + 1)), (8, LI (i : Int)), (9, LI (lo : Int)), (10, LI (hi : Int)), (11, .v (.slice (some ⟨gh, 0, none⟩) u.length ch)), (12, LI (k : Int))]) [⟨[.v (.slice A u.length c), .v vL], true⟩] (by kernel_rfl) (by kernel_rfl) (by kernel_rfl) (fun d5 => ?_)
      iterate 8 (try clear hv)
      iterate 8 (try clear hbox)
      iterate 8 (try clear hag)
      iterate 8 (try clear hag0)
      refine sim_name 1 (by kernel_rfl) hRz gh k (by kernel_rfl) (own_lt hvz.own rfl) (hvz.far gh rfl) (fun ρF hmF eF hRF => ?_)
      have hv := hvz.moved hmF
      have hbox := hboxz.moved hmF
      have hag0 := hagz.moved hmF
      have hag := hRF.ag_ 2 (by kernel_rfl)
      clear hvz hboxz hagz
      refine sim_run 3 [] (hRF.cast (by kernel_rfl)) (by kernel_rfl) trivial (fun ρ400 w400 hm400 hR400 => ?_)
      have hv := hv.moved (hm400.castL (by kernel_rfl))
      have hbox := hbox.moved (hm400.castL (by kernel_rfl))
      have hag0 := hag0.moved (hm400.castL (by kernel_rfl))
      have hag := hag.moved (hm400.castL (by kernel_rfl))
      refine sim_place (.v (.slice (some ⟨gh, 0, none⟩) u.length ch)) u.length 1 (k : Int) 1 0 (by kernel_rfl) (by omega) (by omega) rfl (by simp only [Nm.at_, hag.at_ 1 (by omega), eF, Nat.add_zero, Nat.zero_add, Int.toNat_natCast, Nat.mul_one]) ?_
      
      refine sim_storeQ (a := .ptr 1 0) (z := (lo : Int)) (by kernel_rfl) (by assumption : Rel _ _ _ _ _) hv (by simp only [LV.den, Nm.at_, hag.at_ 1 (by omega), eF, Nat.add_zero]) hlt (.inr (own_ge hv.own rfl)) [] (by kernel_rfl) (by simp) (fun w5 hv5 hk5 hR5 => ?_)
      have hbox := hbox.grown hk5.grownBy (fun e => by injection e with e; have h3 := own_ge hv.own (g := gh) rfl; omega)
      have hv := hv5
      clear hv5
      refine sim_run 7 [⟨18, 1, LI (IntKind.i64.wrap ((↑k : Int) + 1)), LI ((↑k : Int) + 1)⟩] (hR5.cast (by kernel_rfl)) (by kernel_rfl) ⟨eqi (IntWalk.i64_in _ (by omega)), trivial⟩ (fun ρ700 w700 hm700 hR700 => ?_)
      have hag0 := hag0.moved (hm700.castL (by kernel_rfl))
      have hag := hag.moved (hm700.castL (by kernel_rfl))
      have hbox := hbox.moved (hm700.castL (by kernel_rfl))
      have hv := hv.moved (hm700.castL (by kernel_rfl))
      
      exact sim_again (k + 1) (by kernel_rfl) (by show u.length - (k + 1) < u.length - k; omega) (by kernel_rfl) (by kernel_rfl) (by kernel_rfl) hag0.ag (Rel.cast (by assumption) (by kernel_rfl)) (by kernel_rfl) (by kernel_rfl) ⟨hlt, by rw [repK_succ hpk, if_pos hph]; exact hv.cut hag0 rfl (by kernel_rfl), rowCut (cs := [.v (.slice A u.length c), .v vL]) (by assumption : Rel _ _ _ _ _) hbox hag0 e0 (by kernel_rfl) hcl⟩
    · refine sim_run 8 [] (hRE.cast (by kernel_rfl)) (by kernel_rfl) trivial (fun ρ500 w500 hm500 hR500 => ?_)
      have hv := hv.moved (hm500.castL (by kernel_rfl))
      have hbox := hbox.moved (hm500.castL (by kernel_rfl))
      have hag0 := hag0.moved (hm500.castL (by kernel_rfl))
      have hag := hag.moved (hm500.castL (by kernel_rfl))
      refine sim_know 61 (decide ((↑k : Int) < (↑u.length : Int))) true (by kernel_rfl) (decide_eq_true (by omega)) ?_
      refine sim_run 8 [] (hR500.cast (by kernel_rfl)) (by kernel_rfl) trivial (fun ρ501 w501 hm501 hR501 => ?_)
      have hv := hv.moved (hm501.castL (by kernel_rfl))
      have hbox := hbox.moved (hm501.castL (by kernel_rfl))
      have hag0 := hag0.moved (hm501.castL (by kernel_rfl))
      have hag := hag.moved (hm501.castL (by kernel_rfl))
      refine sim_place (.v (.slice (some ⟨gh, 0, none⟩) u.length ch)) u.length 1 (k : Int) 1 0 (by kernel_rfl) (by omega) (by omega) rfl (by simp only [Nm.at_, hag.at_ 1 (by omega), eE, Nat.add_zero, Nat.zero_add, Int.toNat_natCast, Nat.mul_one]) ?_
      refine sim_run 4 [] (hR501.cast (by kernel_rfl)) (by kernel_rfl) trivial (fun ρ503 w503 hm503 hR503 => ?_)
      have hv := hv.moved (hm503.castL (by kernel_rfl))
      have hbox := hbox.moved (hm503.castL (by kernel_rfl))
      have hag0 := hag0.moved (hm503.castL (by kernel_rfl))
      have hag := hag.moved (hm503.castL (by kernel_rfl))
      refine sim_know 69 ((↑p : Int) == (↑hi : Int)) false (by kernel_rfl) (decide_eq_false (by omega)) ?_
      refine sim_run 8 [⟨18, 1, LI (IntKind.i64.wrap ((↑k : Int) + 1)), LI ((↑k : Int) + 1)⟩] (hR503.cast (by kernel_rfl)) (by kernel_rfl) ⟨eqi (IntWalk.i64_in _ (by omega)), trivial⟩ (fun ρ504 w504 hm504 hR504 => ?_)
      have hv := hv.moved (hm504.castL (by kernel_rfl))
      have hbox := hbox.moved (hm504.castL (by kernel_rfl))
      have hag0 := hag0.moved (hm504.castL (by kernel_rfl))
      have hag := hag.moved (hm504.castL (by kernel_rfl))
      
      exact sim_again (k + 1) (by kernel_rfl) (by show u.length - (k + 1) < u.length - k; omega) (by kernel_rfl) (by kernel_rfl) (by kernel_rfl) hag0.ag (Rel.cast (by assumption) (by kernel_rfl)) (by kernel_rfl) (by kernel_rfl) ⟨hlt, by rw [repK_same hpk hph]; exact hv.cut hag0 rfl (by kernel_rfl), rowCut (cs := [.v (.slice A u.length c), .v vL]) (by assumption : Rel _ _ _ _ _) hbox hag0 e0 (by kernel_rfl) hcl⟩
  · obtain rfl : k = u.length := by omega
    rw [repK_all _ _ _ _ (Nat.le_of_eq (hds_length u))] at hv
    refine sim_run 8 [] (hR4.cast (by kernel_rfl)) (by kernel_rfl) trivial (fun ρ600 w600 hm600 hR600 => ?_)
    have hagO := hagO.moved (hm600.castL (by kernel_rfl))
    have hbox := hbox.moved (hm600.castL (by kernel_rfl))
    have hag := hag.moved (hm600.castL (by kernel_rfl))
    have hv := hv.moved (hm600.castL (by kernel_rfl))
    refine sim_know 61 (decide ((↑u.length : Int) < (↑u.length : Int))) false (by kernel_rfl) (decide_eq_false (by omega)) ?_
    refine sim_run 1 [] (hR600.cast (by kernel_rfl)) (by kernel_rfl) trivial (fun ρ601 w601 hm601 hR601 => ?_)
    have hagO := hagO.moved (hm601.castL (by kernel_rfl))
    have hbox := hbox.moved (hm601.castL (by kernel_rfl))
    have hag := hag.moved (hm601.castL (by kernel_rfl))
    have hv := hv.moved (hm601.castL (by kernel_rfl))
    refine sim_leave (by kernel_rfl) ?_
    refine sim_run 13 [⟨9, 1, LI (IntKind.i64.wrap ((↑i : Int) + 1)), LI ((↑i : Int) + 1)⟩] (hR601.cast (by kernel_rfl)) (by kernel_rfl) ⟨eqi (IntWalk.i64_in _ (by omega)), trivial⟩ (fun ρ602 w602 hm602 hR602 => ?_)
    have hagO := hagO.moved (hm602.castL (by kernel_rfl))
    have hbox := hbox.moved (hm602.castL (by kernel_rfl))
    have hag := hag.moved (hm602.castL (by kernel_rfl))
    have hv := hv.moved (hm602.castL (by kernel_rfl))
    
    exact hfin _ _ _ (some ⟨gh, 0, none⟩) ch (by kernel_rfl) (by kernel_rfl) (by kernel_rfl) hagO (by assumption : Rel _ _ _ _ _) (by kernel_rfl) hbox ⟨own_base0 hv.own (Nat.zero_le _), hv.far⟩ (fun a ha => own_new' hv.own a ha)
end Go.Proofs.YtedfbdeklepekaaGreat
