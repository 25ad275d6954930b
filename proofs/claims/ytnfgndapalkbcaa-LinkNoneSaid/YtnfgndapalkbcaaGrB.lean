/-
  link.joined: the classes as they are, and those that links make of them.
-/
import Derived.Test.YtnfgndapalkbcaaGrA
namespace Go.Proofs.Ytnfgndapalkbcaa
open Go Go.RowKit
theorem lk_in (l : List Lk) : ∀ x ∈ l.map Lk.cells, x.length = 3 := by
  intro x hx
  obtain ⟨y, _, rfl⟩ := List.mem_map.1 hx
  rfl
theorem lkV_len (l : List Lk) : (lkV l).length = l.length * 3 := by
  unfold lkV
  rw [List.length_flatten, List.map_map]
  induction l with
  | nil => rfl
  | cons x l ih =>
    rw [List.map_cons, List.sum_cons, ih, List.length_cons]
    show 3 + _ = _
    omega
theorem lkV_num {w : World} {B n : Nat} {A : Option Addr} {l : List Lk} (h : Reads w B 3 A n (lkV l)) : l.length = n := by
  have := h.1
  rw [lkV_len] at this
  omega
theorem class_get {u : List Nat} (g : Uf.Good u) {k : Nat} {c : List Nat} (h : (Uf.classes u)[k]? = some c) : ∃ p r, c = p :: r ∧ ∀ x ∈ c, 1 ≤ x ∧ x ≤ u.length := by
  obtain ⟨hk, he⟩ := List.getElem?_eq_some_iff.1 h
  obtain ⟨p, r, h1, _, _, _, h5⟩ := Uf.class_at g hk
  rw [List.getD_eq_getElem?_getD, h] at h1
  exact ⟨p, r, h1, fun x hx => (h5 x (h1 ▸ hx)).1⟩
theorem class_len {u : List Nat} {k : Nat} {c : List Nat} (h : (Uf.classes u)[k]? = some c) : c.length ≤ u.length := by
  obtain ⟨hk, he⟩ := List.getElem?_eq_some_iff.1 h
  have := Uf.classes_row_len hk
  rw [List.getD_eq_getElem?_getD, h] at this
  exact this
theorem classes_le (u : List Nat) : (Uf.classes u).length ≤ u.length := by
  rw [Uf.classes_length]
  unfold Uf.heads
  exact Nat.le_trans (List.length_filter_le _ _) (by rw [List.length_range']; exact Nat.le_refl _)
theorem Agree.zero {ρ ρ' : Nm} : Agree 0 ρ ρ' := fun n hn => absurd hn (Nat.not_lt_zero n)
attribute [local irreducible] run goO leaveK someK nextK nextT nextOT nextOD loopBody loopRest loopK fillJ tmplOf tmplJ mergeT At AtO drawOk ordOf gateOf callC callO topOp topO idxOf appOf storeOf clearOf sliceOf calleeOf calleeO topQ idxQ newRowOf resL stepOp seek
set_option maxRecDepth 100000 in
set_option maxHeartbeats 4000000 in
theorem joined_any (q : GrP) (u : List Nat) (ls : List Lk) (A : Option Addr) (n cp B : Nat) (l : List Lk) (w : World) (h : GrV q u ls w) (hg : Uf.Good u) (hu : u.length ≤ 1000) (hl : Reads w B 3 A n (lkV l)) (hB : B ≤ w.heap.size) (hn : n ≤ 100000) (hin : Uf.InL u.length l) :
    Calls Try.prog 61 #[.pointer (some ⟨q.b, 0, none⟩), .slice A n cp] w fun e w' => ∃ b g A' c', e = .returned (.pointer (some ⟨b, 0, none⟩)) ∧ UfAt w' b g (Uf.joinedM u l) A' c' ∧ w.heap.size ≤ b ∧ w.heap.size ≤ g ∧ Below w.heap.size w w' := by
  have hll := lkV_num hl
  obtain ⟨ρ, e0, hR⟩ := h.open_ false [] (by simp)
  have hs := h.sta (ρ := ρ) (rs := [⟨(q.cells ls.length).map .v, false⟩]) (by kernel_rfl)
  refine sim_enter Try.func61 ρ [.ptr 0 0, .v (.slice A n cp)] [⟨(q.cells ls.length).map .v, false⟩] (by kernel_rfl) (by simp only [denL, LV.den, Nm.at_, e0]) ?_
  have hag := hR.ag_ 1 (by kernel_rfl)
  refine sim_run 10 [] (hR.cast (by kernel_rfl)) (by kernel_rfl) trivial (fun ρ100 w100 hm100 hR100 => ?_)
  have hs := hs.moved (hm100.castL (by kernel_rfl))
  have hag := hag.moved (hm100.castL (by kernel_rfl))
  refine sim_call 38 [.v (Value.pointer (some (Addr.mk q.pb 0 none)))] (by kernel_rfl) ?_
  refine Calls.mono (ufLen_b hs.is.uf) ?_
  rintro e101 w101 ⟨rfl, hb101⟩
  have hR101 := hR100.below hb101
  have hs := hs.below hb101
  refine Back.of (LI ((↑u.length : Int))) hR101 rfl ?_
  refine sim_call 28 [LI ((↑u.length : Int))] (by kernel_rfl) ?_
  refine Calls.mono (new_in (u.length) (by assumption) _) ?_
  rintro e102 w102 ⟨rfl, gq, Aq, cq, hu102, hb102, hgq⟩
  have hbs := (hR101).keeps.size
  have hj := Sta.new (S := ufS _ gq) (V := UfW _ gq (Uf.fresh u.length) Aq cq) (hR101) hu102 (fun x hx => hx.elim (fun e => e ▸ Nat.le_refl _) (fun e => e ▸ hgq)) (fun x hx => hx.elim (fun e => e ▸ hu102.lt.1) (fun e => e ▸ hu102.lt.2)) UfW.same
  have hR102 := (hR101).below hb102
  have hs := hs.below hb102
  refine Back.of (.tup [.v (Value.pointer (some (Addr.mk w101.heap.size 0 none))), LI 0]) hR102 rfl ?_
  refine sim_run 13 [] (hR102.cast (by kernel_rfl)) (by kernel_rfl) trivial (fun ρ103 w103 hm103 hR103 => ?_)
  have hag := hag.moved (hm103.castL (by kernel_rfl))
  have hj := hj.moved (hm103.castL (by kernel_rfl))
  have hs := hs.moved (hm103.castL (by kernel_rfl))
  refine sim_call 58 [.v (Value.pointer (some (Addr.mk q.pb 0 none)))] (by kernel_rfl) ?_
  refine Calls.mono (ufClasses_b hs.is.uf (by assumption) (by assumption)) ?_
  rintro e104 w104 ⟨L, cL, rfl, hr104, hb104⟩
  have hrow := Sta.rows (hR103) hr104
  have hblt := hj.lt _ (.inl rfl)
  have hglt := hj.lt _ (.inr rfl)
  have hBsz := hb104.size
  have hR104 := (hR103).below hb104
  have hj := hj.below hb104
  have hs := hs.below hb104
  refine Back.of (.v (.slice L (Uf.classes u).length cL)) hR104 rfl ?_
  refine sim_run 4 [] (hR104.cast (by kernel_rfl)) (by kernel_rfl) trivial (fun ρ105 w105 hm105 hR105 => ?_)
  have hag := hag.moved (hm105.castL (by kernel_rfl))
  have hrow := hrow.moved (hm105.castL (by kernel_rfl))
  have hj := hj.moved (hm105.castL (by kernel_rfl))
  have hs := hs.moved (hm105.castL (by kernel_rfl))
  
  have hj := hj.cut (N := 0) (rs := []) (Ag.start 0 _ _ (by kernel_rfl)) rfl (by kernel_rfl)
  have hrow := hrow.cut (N := 0) (rs := []) (Ag.start 0 _ _ (by kernel_rfl)) rfl (by kernel_rfl)
  have hcn := classes_le u
  have hwb : w.heap.size ≤ gq := Nat.le_trans hbs hgq
  have hrj : Uf.rejoin u 0 = Uf.fresh u.length := rfl
  rw [← hrj] at hj
  refine sim_loop (ι := Nat) (T := []) (w0 := w) 0 [1, 5, 24, 25] (fun k => [(26, LI k)]) (fun _ => []) (fun k w1 => k ≤ (Uf.classes u).length ∧ Sta (ufS w101.heap.size gq) (UfW w101.heap.size gq (Uf.rejoin u k) Aq cq) ρ105 [] w1 ∧ Sta (btw w103.heap.size w104.heap.size) (RowW w104.heap.size w103.heap.size L (Uf.classes u)) ρ105 [] w1) (fun k => (Uf.classes u).length - k) (by kernel_rfl) (by kernel_rfl) ((by assumption : Rel _ _ _ _ _).none_) ⟨Nat.zero_le _, hj, hrow⟩ ?_
  generalize w101.heap.size = bq at *
  generalize w103.heap.size = B1 at *
  generalize w104.heap.size = B2 at *
  iterate 8 (try clear hj)
  iterate 8 (try clear hrow)
  iterate 8 (try clear hs)
  iterate 8 (try clear hag)
  rintro k d w2 hR2 ⟨hk, hj, hrow⟩
  have hag0 := hR2.ag_ 0 (by kernel_rfl)
  by_cases hlt : k < (Uf.classes u).length
  · obtain ⟨c, hc⟩ : ∃ c, (Uf.classes u)[k]? = some c := ⟨_, List.getElem?_eq_getElem hlt⟩
    refine sim_seeRow k 0 (by kernel_rfl) hc hrow hR2 (by kernel_rfl) (fun ga oa Ac cc ρE eA hgb hrd hcc hcm hAc hmE eE hRE => ?_)
    subst eA
    have hj := hj.moved hmE
    have hrow := hrow.moved hmE
    have hag0 := hag0.moved hmE
    have hag := hRE.ag_ 1 (by kernel_rfl)
    have hrd := hrd.moved hmE
    obtain ⟨p, r, hcp, hcin⟩ := class_get hg hc
    have hcl := class_len hc
    have hrg := Uf.rejoin_good hg k
    have hrl := Uf.rejoin_len u k
    have hAb : ∀ N ad, Ac = some ad → ad.block < N → ad.block ≠ bq ∧ ad.block ≠ gq := fun _ ad e _ => by have := hAc ad e; omega
    have hcr : InN (Uf.rejoin u k) c := fun x hx => by have := hcin x hx; omega
    have hc0 : c.head? = some p := by rw [hcp]; rfl
    have hga1 := hgb.1
    have hga2 := hgb.2
    refine sim_run 5 [] (hRE.cast (by kernel_rfl)) (by kernel_rfl) trivial (fun ρ200 w200 hm200 hR200 => ?_)
    have hj := hj.moved (hm200.castL (by kernel_rfl))
    have hrow := hrow.moved (hm200.castL (by kernel_rfl))
    have hag0 := hag0.moved (hm200.castL (by kernel_rfl))
    have hag := hag.moved (hm200.castL (by kernel_rfl))
    have hrd := hrd.moved (hm200.castL (by kernel_rfl))
    refine sim_know 27 (decide ((↑k : Int) < (↑(Uf.classes u).length : Int))) true (by kernel_rfl) (decide_eq_true (by omega)) ?_
    refine sim_run 6 [] (hR200.cast (by kernel_rfl)) (by kernel_rfl) trivial (fun ρ201 w201 hm201 hR201 => ?_)
    have hj := hj.moved (hm201.castL (by kernel_rfl))
    have hrow := hrow.moved (hm201.castL (by kernel_rfl))
    have hag0 := hag0.moved (hm201.castL (by kernel_rfl))
    have hag := hag.moved (hm201.castL (by kernel_rfl))
    have hrd := hrd.moved (hm201.castL (by kernel_rfl))
    refine sim_place (.v (.slice (some ⟨ga, oa, none⟩) (Uf.classes u).length cL)) (Uf.classes u).length 1 k 0 0 (by kernel_rfl) (by omega) (by omega) rfl (by simp only [Nm.at_, hag.at_ 0 (by omega), eE, Nat.add_zero, Int.toNat_natCast, Nat.mul_one]) ?_
    refine sim_run 6 [] (hR201.cast (by kernel_rfl)) (by kernel_rfl) trivial (fun ρ203 w203 hm203 hR203 => ?_)
    have hj := hj.moved (hm203.castL (by kernel_rfl))
    have hrow := hrow.moved (hm203.castL (by kernel_rfl))
    have hag0 := hag0.moved (hm203.castL (by kernel_rfl))
    have hag := hag.moved (hm203.castL (by kernel_rfl))
    have hrd := hrd.moved (hm203.castL (by kernel_rfl))
    refine sim_call 29 [.v (Value.pointer (some (Addr.mk bq 0 none))), .v (Value.slice Ac c.length cc)] (by kernel_rfl) ?_
    refine Calls.mono (join_in (bq) (gq) (Uf.rejoin u k) (Aq) (cq) (Ac) (c.length) (cc) _ (p) (c) _ (hj.is) (hrg) ((by omega)) ((Reads.size_ hrd.is Nat.one_pos)) (Nat.le_refl _) (hAb _) (hcr) (hc0) ((by omega))) ?_
    rintro e204 w204 ⟨rfl, hu204, hk204⟩
    have hR204 := (hR203).ufNew hj hk204 (by omega) (by omega) [0] (by kernel_rfl) (fun q hq => by simp only [List.mem_singleton] at hq; subst hq; rw [hag.at_ 0 (by omega), eE]; exact ⟨by show ga ≠ bq; omega, by show ga ≠ gq; omega⟩)
    have hrow := hrow.kept hk204.kept (fun x hx hm => by simp only [List.mem_cons, List.not_mem_nil, or_false] at hm; have := hx.1; omega)
    have hj := hj.ufNew hu204
    refine Back.of (.v (.tuple #[.int .i64 (joinC (Uf.rejoin u k) p c : Nat), .int .i64 0])) hR204 rfl ?_
    refine sim_run 6 [⟨6, 0, LI (IntKind.i64.wrap ((↑k : Int) + 1)), LI ((↑k : Int) + 1)⟩] (hR204.cast (by kernel_rfl)) (by kernel_rfl) ⟨eqi (IntWalk.i64_in _ (by omega)), trivial⟩ (fun ρ205 w205 hm205 hR205 => ?_)
    have hag0 := hag0.moved (hm205.castL (by kernel_rfl))
    have hag := hag.moved (hm205.castL (by kernel_rfl))
    have hrow := hrow.moved (hm205.castL (by kernel_rfl))
    have hj := hj.moved (hm205.castL (by kernel_rfl))
    
    have hej : joinU (Uf.rejoin u k) p c = Uf.rejoin u (k + 1) := by rw [Uf.rejoin_succ hc, hcp]; rfl
    rw [hej] at hj
    exact sim_again (k + 1) (by kernel_rfl) (by show (Uf.classes u).length - (k + 1) < (Uf.classes u).length - k; omega) (by kernel_rfl) (by kernel_rfl) (by kernel_rfl) Agree.zero (Rel.cast (by assumption) (by kernel_rfl)) (by kernel_rfl) (by kernel_rfl) ⟨hlt, hj.cut hag0 rfl (by kernel_rfl), hrow.cut hag0 rfl (by kernel_rfl)⟩
  · refine sim_run 5 [] (hR2.cast (by kernel_rfl)) (by kernel_rfl) trivial (fun ρ300 w300 hm300 hR300 => ?_)
    have hj := hj.moved (hm300.castL (by kernel_rfl))
    have hrow := hrow.moved (hm300.castL (by kernel_rfl))
    have hag0 := hag0.moved (hm300.castL (by kernel_rfl))
    refine sim_know 27 (decide ((↑k : Int) < (↑(Uf.classes u).length : Int))) false (by kernel_rfl) (decide_eq_false (by omega)) ?_
    refine sim_run 1 [] (hR300.cast (by kernel_rfl)) (by kernel_rfl) trivial (fun ρ301 w301 hm301 hR301 => ?_)
    have hj := hj.moved (hm301.castL (by kernel_rfl))
    have hrow := hrow.moved (hm301.castL (by kernel_rfl))
    have hag0 := hag0.moved (hm301.castL (by kernel_rfl))
    refine sim_leave (by kernel_rfl) ?_
    refine sim_run 8 [] (hR301.cast (by kernel_rfl)) (by kernel_rfl) trivial (fun ρ302 w302 hm302 hR302 => ?_)
    have hj := hj.moved (hm302.castL (by kernel_rfl))
    have hrow := hrow.moved (hm302.castL (by kernel_rfl))
    have hag0 := hag0.moved (hm302.castL (by kernel_rfl))
    
    obtain rfl : k = (Uf.classes u).length := by omega
    have hj := hj.cut (N := 0) (rs := []) (Ag.start 0 _ _ (by kernel_rfl)) rfl (by kernel_rfl)
    have hw0 : Uf.withM (Uf.rejoin u (Uf.classes u).length) (l.take 0) = Uf.rejoin u (Uf.classes u).length := rfl
    rw [← hw0] at hj
    refine sim_loop (ι := Nat) (T := []) (w0 := w) 0 [5, 34, 35] (fun k => [(36, LI k)]) (fun _ => []) (fun k w1 => k ≤ n ∧ Sta (ufS bq gq) (UfW bq gq (Uf.withM (Uf.rejoin u (Uf.classes u).length) (l.take k)) Aq cq) ρ302 [] w1) (fun k => n - k) (by kernel_rfl) (by kernel_rfl) ((by assumption : Rel _ _ _ _ _).none_) ⟨Nat.zero_le _, hj⟩ ?_
    iterate 8 (try clear hj)
    iterate 8 (try clear hag)
    iterate 8 (try clear hag0)
    rintro i d w3 hR3 ⟨hi, hj⟩
    have hag0 := hR3.ag_ 0 (by kernel_rfl)
    by_cases hlt : i < n
    · obtain ⟨x, hx⟩ : ∃ x, l[i]? = some x := ⟨_, List.getElem?_eq_getElem (by omega)⟩
      refine sim_see x.cells i 0 (by kernel_rfl) (by rw [List.getElem?_map, hx]; rfl) hl (lk_in l) (by omega) hlt hB (by simp) hR3 (by kernel_rfl) (fun ga oa ρE eA hgT hgl hmE eE hRE => ?_)
      subst eA
      have hj := hj.moved hmE
      have hag0 := hag0.moved hmE
      have hag := hRE.ag_ 1 (by kernel_rfl)
      have hxi := hin x (List.mem_of_getElem? hx)
      obtain ⟨kd, a, b, rfl⟩ : ∃ (kd : Int) (a b : Nat), x = ⟨kd, (a : Int), (b : Int)⟩ := ⟨x.kind, x.src.toNat, x.dst.toNat, by rw [Int.toNat_of_nonneg (by omega), Int.toNat_of_nonneg (by omega)]⟩
      have ha : 1 ≤ a ∧ a ≤ u.length := by have := hxi.1; dsimp only at this; omega
      have hb : 1 ≤ b ∧ b ≤ u.length := by have := hxi.2; dsimp only at this; omega
      have hrg := Uf.withM_good (Uf.rejoin_good hg (Uf.classes u).length) (ls := l.take i) (by rw [Uf.rejoin_len]; exact fun y hy => hin y (List.mem_of_mem_take hy))
      have hrl := (Uf.withM_len (Uf.rejoin u (Uf.classes u).length) (l.take i)).trans (Uf.rejoin_len u _)
      have htk : l.take (i + 1) = l.take i ++ [⟨kd, (a : Int), (b : Int)⟩] := by rw [List.take_add_one, hx]; rfl
      have hws := Uf.withM_snoc (Uf.rejoin u (Uf.classes u).length) (l.take i) ⟨kd, (a : Int), (b : Int)⟩
      rw [← htk] at hws
      simp only [Int.toNat_natCast] at hws
      have hab : InN (Uf.withM (Uf.rejoin u (Uf.classes u).length) (l.take i)) [a, b] := fun y hy => by simp only [List.mem_cons, List.not_mem_nil, or_false] at hy; omega
      refine sim_run 5 [] (hRE.cast (by kernel_rfl)) (by kernel_rfl) trivial (fun ρ400 w400 hm400 hR400 => ?_)
      have hj := hj.moved (hm400.castL (by kernel_rfl))
      have hag0 := hag0.moved (hm400.castL (by kernel_rfl))
      have hag := hag.moved (hm400.castL (by kernel_rfl))
      refine sim_know 37 (decide ((↑i : Int) < (↑n : Int))) true (by kernel_rfl) (decide_eq_true (by omega)) ?_
      refine sim_run 6 [] (hR400.cast (by kernel_rfl)) (by kernel_rfl) trivial (fun ρ401 w401 hm401 hR401 => ?_)
      have hj := hj.moved (hm401.castL (by kernel_rfl))
      have hag0 := hag0.moved (hm401.castL (by kernel_rfl))
      have hag := hag.moved (hm401.castL (by kernel_rfl))
      refine sim_place (.v (.slice (some ⟨ga, oa, none⟩) n cp)) n 3 i 0 0 (by kernel_rfl) (by omega) (by omega) rfl (by simp only [Nm.at_, hag.at_ 0 (by omega), eE, Nat.add_zero, Int.toNat_natCast]) ?_
      refine sim_run 10 [] (hR401.cast (by kernel_rfl)) (by kernel_rfl) trivial (fun ρ403 w403 hm403 hR403 => ?_)
      have hj := hj.moved (hm403.castL (by kernel_rfl))
      have hag0 := hag0.moved (hm403.castL (by kernel_rfl))
      have hag := hag.moved (hm403.castL (by kernel_rfl))
      refine sim_fork 42 ((Lk.mk kd (↑a : Int) (↑b : Int)).kind == 1) (by kernel_rfl) (fun hq404 => ?_) (fun hq404 => ?_)
      have hq404 := of_decide_eq_true hq404
      refine sim_run 8 [] (hR403.cast (by kernel_rfl)) (by kernel_rfl) trivial (fun ρ405 w405 hm405 hR405 => ?_)
      have hj := hj.moved (hm405.castL (by kernel_rfl))
      have hag0 := hag0.moved (hm405.castL (by kernel_rfl))
      have hag := hag.moved (hm405.castL (by kernel_rfl))
      refine sim_call 29 [.v (Value.pointer (some (Addr.mk bq 0 none))), .slc 2 0 2 2] (by kernel_rfl) ?_
      refine Calls.mono (join_in (bq) (gq) (Uf.withM (Uf.rejoin u (Uf.classes u).length) (l.take i)) (Aq) (cq) _ (2) (2) _ (a) ([a, b]) _ (hj.is) (hrg) ((by omega)) ((Rel.reads (by assumption : Rel _ _ _ _ _) (n := 2) (size := 1) (m := 2) (vs := nats [a, b]) (b := true) (by kernel_rfl) rfl)) (Nat.le_refl _) ((hj.farB (n := 2) (r := ⟨(nats [a, b]).map .v, true⟩) (by kernel_rfl) rfl _)) (hab) (rfl) ((by omega))) ?_
      rintro e406 w406 ⟨rfl, hu406, hk406⟩
      have hR406 := (hR405).ufNew hj hk406 (by omega) (by omega) [0] (by kernel_rfl) (fun q hq => by simp only [List.mem_singleton] at hq; subst hq; rw [hag.at_ 0 (by omega), eE]; exact ⟨by show ga ≠ bq; omega, by show ga ≠ gq; omega⟩)
      have hj := hj.ufNew hu406
      refine Back.of (.v (.tuple #[.int .i64 (joinC (Uf.withM (Uf.rejoin u (Uf.classes u).length) (l.take i)) a [a, b] : Nat), .int .i64 0])) hR406 rfl ?_
      refine sim_run 6 [⟨12, 0, LI (IntKind.i64.wrap ((↑i : Int) + 1)), LI ((↑i : Int) + 1)⟩] (hR406.cast (by kernel_rfl)) (by kernel_rfl) ⟨eqi (IntWalk.i64_in _ (by omega)), trivial⟩ (fun ρ407 w407 hm407 hR407 => ?_)
      have hag0 := hag0.moved (hm407.castL (by kernel_rfl))
      have hag := hag.moved (hm407.castL (by kernel_rfl))
      have hj := hj.moved (hm407.castL (by kernel_rfl))
      rotate_left
      have hq404 := of_decide_eq_false hq404
      refine sim_run 7 [⟨12, 0, LI (IntKind.i64.wrap ((↑i : Int) + 1)), LI ((↑i : Int) + 1)⟩] (hR403.cast (by kernel_rfl)) (by kernel_rfl) ⟨eqi (IntWalk.i64_in _ (by omega)), trivial⟩ (fun ρ408 w408 hm408 hR408 => ?_)
      have hj := hj.moved (hm408.castL (by kernel_rfl))
      have hag0 := hag0.moved (hm408.castL (by kernel_rfl))
      have hag := hag.moved (hm408.castL (by kernel_rfl))
      rotate_left
      
      · have e1 : joinU (Uf.withM (Uf.rejoin u (Uf.classes u).length) (l.take i)) a [a, b] = Uf.withM (Uf.rejoin u (Uf.classes u).length) (l.take (i + 1)) := by
          rw [hws, if_pos (by assumption), joinU_pair]
        rw [e1] at hj
        exact sim_again (i + 1) (by kernel_rfl) (by show n - (i + 1) < n - i; omega) (by kernel_rfl) (by kernel_rfl) (by kernel_rfl) Agree.zero (Rel.cast (by assumption) (by kernel_rfl)) (by kernel_rfl) (by kernel_rfl) ⟨hlt, hj.cut hag0 rfl (by kernel_rfl)⟩
      · rw [if_neg (by assumption)] at hws
        rw [← hws] at hj
        exact sim_again (i + 1) (by kernel_rfl) (by show n - (i + 1) < n - i; omega) (by kernel_rfl) (by kernel_rfl) (by kernel_rfl) Agree.zero (Rel.cast (by assumption) (by kernel_rfl)) (by kernel_rfl) (by kernel_rfl) ⟨hlt, hj.cut hag0 rfl (by kernel_rfl)⟩
    · refine sim_run 5 [] (hR3.cast (by kernel_rfl)) (by kernel_rfl) trivial (fun ρ500 w500 hm500 hR500 => ?_)
      have hj := hj.moved (hm500.castL (by kernel_rfl))
      have hag0 := hag0.moved (hm500.castL (by kernel_rfl))
      refine sim_know 37 (decide ((↑i : Int) < (↑n : Int))) false (by kernel_rfl) (decide_eq_false (by omega)) ?_
      refine sim_run 1 [] (hR500.cast (by kernel_rfl)) (by kernel_rfl) trivial (fun ρ501 w501 hm501 hR501 => ?_)
      have hj := hj.moved (hm501.castL (by kernel_rfl))
      have hag0 := hag0.moved (hm501.castL (by kernel_rfl))
      refine sim_leave (by kernel_rfl) ?_
      refine sim_run 5 [] (hR501.cast (by kernel_rfl)) (by kernel_rfl) trivial (fun ρ502 w502 hm502 hR502 => ?_)
      have hj := hj.moved (hm502.castL (by kernel_rfl))
      have hag0 := hag0.moved (hm502.castL (by kernel_rfl))
      refine sim_ret (.v (Value.pointer (some (Addr.mk bq 0 none)))) hR502 (by kernel_rfl) (by kernel_rfl) ?_
      
      obtain rfl : i = n := by omega
      refine ⟨bq, gq, Aq, cq, rfl, ?_, hbs, hwb, (by assumption : Rel _ _ _ _ _).toBelow⟩
      have := hj.is
      rw [show l.take i = l from by rw [← hll]; exact List.take_length] at this
      exact this
end Go.Proofs.Ytnfgndapalkbcaa
