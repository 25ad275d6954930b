/-
  A total is the sum of what the accounts have of it, in all parts: lemmas, and what is looked at for one key.
-/
import Derived.Test.YtgbgedaedcofcaaPosHU
import Derived.Test.YtgbgedaedcofcaaOpP
namespace Go.Proofs.Ytgbgedaedcofcaa
open Go Go.RowKit

theorem sum_perm {xs ys : List Int} (h : xs.Perm ys) : xs.sum = ys.sum := by
  induction h with
  | nil => rfl
  | cons x _ ih => simp only [List.sum_cons, ih]
  | swap x y l => simp only [List.sum_cons]; omega
  | trans _ _ h1 h2 => rw [h1, h2]
theorem take_sum_le {α : Type} (f : α → Int) : ∀ (n : Nat) (xs : List α), (∀ x ∈ xs, 0 ≤ f x) → 0 ≤ ((xs.take n).map f).sum ∧ ((xs.take n).map f).sum ≤ (xs.map f).sum
  | 0, [], _ => by simp
  | _ + 1, [], _ => by simp
  | 0, x :: xs, h => by
    have ih := take_sum_le f 0 xs (fun y hy => h y (by simp [hy]))
    have hx := h x (by simp)
    simp only [List.take_zero, List.map_nil, List.sum_nil, List.map_cons, List.sum_cons] at ih ⊢
    omega
  | n + 1, x :: xs, h => by
    have ih := take_sum_le f n xs (fun y hy => h y (by simp [hy]))
    have hx := h x (by simp)
    simp only [List.take_succ_cons, List.map_cons, List.sum_cons]
    omega
structure SumsAt (l : List (Ent Key B3)) (a : ByteArray) (ks : List Key) : Prop where
  key : ∀ k ∈ ks, (k.2.toList == a.toList) = true ∧ getM l k ≠ (0, 0, 0)
  ge : ∀ j, 0 ≤ sumI (allOf l (ks.take j))
  le : ∀ j, sumI (allOf l (ks.take j)) ≤ sumAll l
  step : ∀ j k, ks[j]? = some k → sumI (allOf l (ks.take (j + 1))) = sumI (allOf l (ks.take j)) + sum3 (getM l k)
theorem sums_at {l : List (Ent Key B3)} {clock : Nat} (hf : Fine l clock) (hok : ∀ e ∈ l, okB e.val) (hnz : ∀ e ∈ l, e.val ≠ (0, 0, 0)) (a : ByteArray) : SumsAt l a (sortKs (pickKs [a] l)) := by
  have hp : (sortKs (pickKs [a] l)).Perm (pickKs [a] l) := List.mergeSort_perm ..
  have hz : ∀ k, 0 ≤ sum3 (getM l k) := fun k => sum3_ok (getM_ok hok k)
  have h1 := filter_sum_le (fun k => sum3 (getM l k)) (wantK [a]) hz (l.map (·.key))
  rw [keys_sum hf] at h1
  have h2 := sum_perm (hp.map fun k => sum3 (getM l k))
  have h3 := fun j => take_sum_le (fun k => sum3 (getM l k)) j (sortKs (pickKs [a] l)) (fun x _ => hz x)
  refine ⟨fun k hk => ?_, fun j => ?_, fun j => ?_, fun j k hk => ?_⟩
  · have h4 := List.mem_filter.1 (hp.mem_iff.1 hk)
    refine ⟨by simpa [wantK] using h4.2, ?_⟩
    obtain ⟨e, he, rfl⟩ := List.mem_map.1 h4.1
    show (look e.key l).getD _ ≠ _
    rw [look_self hf.keys he]
    exact hnz e he
  · rw [allOf_sum]
    exact (h3 j).1
  · rw [allOf_sum]
    have := (h3 j).2
    unfold pickKs at h2
    unfold pickKs at this ⊢
    omega
  · rw [allOf_sum, allOf_sum, List.take_add_one, hk, List.map_append, List.sum_append]
    simp
theorem Own.none0 {ρ : Nm} {w : World} {base n : Nat} {e : TypeId} {size : Nat} {v : Value} {xs : List Value} (h : w.ownsRow base e size v n xs) : Own ρ [] w base e size v n xs :=
  ⟨h, fun _ _ ⟨_, _, hr, _⟩ => by simp at hr⟩
theorem PoO.none0 {ρ ρ' : Nm} {rs : List Reg} {w : World} {B g : Nat} {m : Option Nat} {l : List (Ent Key B3)} {clock : Nat} (h : PoO ρ rs w B g m l clock) : PoO ρ' [] w B g m l clock :=
  ⟨h.po, fun ⟨_, _, hr, _⟩ => by simp at hr, fun _ _ ⟨_, _, hr, _⟩ => by simp at hr⟩
theorem Rel.none0 {T : List Nat} {w0 w : World} {ρ ρ' : Nm} {rs : List Reg} (h : Rel T w0 ρ rs w) : Rel T w0 ρ' [] w :=
  ⟨h.keeps, fun _ _ hr => by simp at hr, fun _ _ hr => by simp at hr, fun _ _ hr => by simp at hr, fun _ _ _ _ hr => by simp at hr⟩
theorem Agree.zero {ρ ρ' : Nm} : Agree 0 ρ ρ' := fun _ h => absurd h (Nat.not_lt_zero _)
theorem clamp_in {v : Int} (h : -1152921504606846976 ≤ v ∧ v ≤ 1152921504606846976) : clampV v = v := by
  unfold clampV
  rw [if_neg (by omega), if_neg (by omega)]
theorem keys_flat (ks : List Key) : ks.flatMap encL = (ks.map encL).flatten := List.flatMap_def ..
theorem encL_len (ks : List Key) : ∀ y ∈ ks.map encL, y.length = 2 := by
  intro y hy
  obtain ⟨k, _, rfl⟩ := List.mem_map.1 hy
  rfl
attribute [local irreducible] run goO leaveK someK nextK nextT nextOT nextOD loopBody loopRest loopK fillJ tmplOf tmplJ mergeT At AtO drawOk ordOf gateOf callC callO topOp topO idxOf appOf storeOf clearOf sliceOf calleeOf calleeO topQ idxQ newRowOf resL stepOp seek
set_option maxRecDepth 100000 in
set_option maxHeartbeats 4000000 in
theorem sums_key {Q : Exit → Act → World → Prop} {R : Ending → World → Prop} [hB : Body Try.prog Q Try.f6 R] {ρ : Nm} {w0 w : World} {B g : Nat} {m : Option Nat} {l : List (Ent Key B3)} {clock : Nat} {SL : Value} {gb ob n cp i j Bk : Nat} {a : ByteArray} {k : Key} {b1 b2 b3 S : Int} {xs : List Value} (hR : Rel [] w0 ρ [⟨[LS k.1, LS k.2], false⟩, ⟨[LI b1, LI b2, LI b3], true⟩] w) (hpo : PoO ρ [⟨[LS k.1, LS k.2], false⟩, ⟨[LI b1, LI b2, LI b3], true⟩] w B g m l clock) (hrow : Own ρ [⟨[LS k.1, LS k.2], false⟩, ⟨[LI b1, LI b2, LI b3], true⟩] w Bk 24 2 (.slice (some ⟨gb, ob, none⟩) n cp) n xs)
    (e0 : ρ 0 = (gb, ob + j * 2)) (hlt : j < n) (hn : n ≤ 1000000) (hka : (k.2.toList == a.toList) = true) (hb1 : 0 ≤ b1) (hb2 : 0 ≤ b2) (hb3 : 0 ≤ b3) (hs0 : 0 ≤ S) (hs1 : S + (b1 + b2 + b3) ≤ 112589990684262400) (hwh : clampV (sum3 (getM l (k.1, k.2))) = b1 + b2 + b3) (hnz0 : b1 + b2 + b3 ≠ 0) (d : Nat → Value)
    (hfin : ∀ (c' : Cfg) (ρ' : Nm) (w' : World), c'.k = [] → mergeT (tmplJ Try.f6.ntmps 0 [(0, .v SL), (3, .v (.pointer (some ⟨g, 0, none⟩))), (5, LI i), (6, LS a), (7, .v (.slice (some ⟨gb, ob, none⟩) n cp)), (8, LI (S + (b1 + b2 + b3))), (9, LI ((j : Int) + 1))]) c'.tmps = c'.tmps → (tmplJ Try.f6.ntmps 0 [(0, .v SL), (3, .v (.pointer (some ⟨g, 0, none⟩))), (5, LI i), (6, LS a), (7, .v (.slice (some ⟨gb, ob, none⟩) n cp)), (8, LI (S + (b1 + b2 + b3))), (9, LI ((j : Int) + 1))]).length = c'.tmps.length → Rel [] w0 ρ' c'.rs w' → PoV w' B g m l clock → w'.ownsRow Bk 24 2 (.slice (some ⟨gb, ob, none⟩) n cp) n xs → At Try.prog Q c' ρ' w') :
    At Try.prog Q ⟨regK Try.f6 20, fillJ (tmplJ Try.f6.ntmps 0 [(0, .v SL), (3, .v (.pointer (some ⟨g, 0, none⟩))), (5, LI i), (6, LS a), (7, .v (.slice (some ⟨gb, ob, none⟩) n cp)), (8, LI S), (9, LI j), (10, .ptr 1 0)]) d 0, [⟨[LS k.1, LS k.2], false⟩, ⟨[LI b1, LI b2, LI b3], true⟩]⟩ ρ w := by
  have hag := Rel.ag_ hR 1 (by kernel_rfl)
  refine sim_draw [] (by kernel_rfl) (by kernel_rfl) hR (fun hR100 => ?_)
  have hpo := hpo.drew
  have hrow := hrow.drew
  refine sim_ordN 2 [] hR100 (by kernel_rfl) trivial (fun ρ101 w101 hm101 hR101 => ?_)
  have hag := hag.moved (hm101.castL (by kernel_rfl))
  have hpo := hpo.moved (hm101.castL (by kernel_rfl))
  have hrow := hrow.moved (hm101.castL (by kernel_rfl))
  refine sim_ord_index (.v (.slice (some ⟨gb, ob, none⟩) n cp)) n 2 j 0 0 (by kernel_rfl) (by omega) (by omega) rfl hR101 (by simp only [Nm.at_, hag.at_ 0 (by omega), e0, Nat.add_zero, Int.toNat_natCast]) (fun hR102 => ?_)
  refine sim_ordN 5 [] hR102 (by kernel_rfl) trivial (fun ρ103 w103 hm103 hR103 => ?_)
  have hag := hag.moved (hm103.castL (by kernel_rfl))
  have hpo := hpo.moved (hm103.castL (by kernel_rfl))
  have hrow := hrow.moved (hm103.castL (by kernel_rfl))
  refine sim_knowO hR103 97 (!k.snd.toList == a.toList) false (by kernel_rfl) (by rw [hka]; rfl) (fun hR104 => ?_)
  refine sim_ordN 5 [] hR104 (by kernel_rfl) trivial (fun ρ105 w105 hm105 hR105 => ?_)
  have hag := hag.moved (hm105.castL (by kernel_rfl))
  have hpo := hpo.moved (hm105.castL (by kernel_rfl))
  have hrow := hrow.moved (hm105.castL (by kernel_rfl))
  refine sim_knowO hR105 102 (decide (b1 < 0)) false (by kernel_rfl) (decide_eq_false (by omega)) (fun hR106 => ?_)
  refine sim_ordN 5 [] hR106 (by kernel_rfl) trivial (fun ρ107 w107 hm107 hR107 => ?_)
  have hag := hag.moved (hm107.castL (by kernel_rfl))
  have hpo := hpo.moved (hm107.castL (by kernel_rfl))
  have hrow := hrow.moved (hm107.castL (by kernel_rfl))
  refine sim_knowO hR107 107 (decide (b2 < 0)) false (by kernel_rfl) (decide_eq_false (by omega)) (fun hR108 => ?_)
  refine sim_ordN 5 [] hR108 (by kernel_rfl) trivial (fun ρ109 w109 hm109 hR109 => ?_)
  have hag := hag.moved (hm109.castL (by kernel_rfl))
  have hpo := hpo.moved (hm109.castL (by kernel_rfl))
  have hrow := hrow.moved (hm109.castL (by kernel_rfl))
  refine sim_knowO hR109 112 (decide (b3 < 0)) false (by kernel_rfl) (decide_eq_false (by omega)) (fun hR110 => ?_)
  refine sim_ordN 11 [⟨20, 27, LI (IntKind.i64.wrap (b1 + b2)), LI (b1 + b2)⟩, ⟨20, 30, LI (IntKind.i64.wrap (b1 + b2 + b3)), LI (b1 + b2 + b3)⟩] hR110 (by kernel_rfl) ⟨eqi (IntWalk.i64_in _ (by omega)), eqi (IntWalk.i64_in _ (by omega)), trivial⟩ (fun ρ111 w111 hm111 hR111 => ?_)
  have hag := hag.moved (hm111.castL (by kernel_rfl))
  have hpo := hpo.moved (hm111.castL (by kernel_rfl))
  have hrow := hrow.moved (hm111.castL (by kernel_rfl))
  refine sim_ord_index (.v (.slice (some ⟨gb, ob, none⟩) n cp)) n 2 j 0 0 (by kernel_rfl) (by omega) (by omega) rfl hR111 (by simp only [Nm.at_, hag.at_ 0 (by omega), e0, Nat.add_zero, Int.toNat_natCast]) (fun hR112 => ?_)
  refine sim_ordN 1 [] hR112 (by kernel_rfl) trivial (fun ρ113 w113 hm113 hR113 => ?_)
  have hag := hag.moved (hm113.castL (by kernel_rfl))
  have hpo := hpo.moved (hm113.castL (by kernel_rfl))
  have hrow := hrow.moved (hm113.castL (by kernel_rfl))
  refine sim_ord_call (T := []) (w0 := w0) 22 [.v (Value.pointer (some (Addr.mk g 0 none))), .agg [LS k.fst, LS k.snd]] (by kernel_rfl) ?_
  refine Calls.mono (whole_po _ _ _ _ _ _ _ _ hpo.po) ?_
  rw [hwh]
  rintro e114 w114 ⟨rfl, hb114⟩
  have hR114 := hR113.call hb114 (LI (b1 + b2 + b3))
  have hpo := hpo.below hb114
  have hrow := hrow.below hb114
  refine BackO.of (LI (b1 + b2 + b3)) hR114 rfl ?_
  refine sim_ordN 3 [] hR114 (by kernel_rfl) trivial (fun ρ115 w115 hm115 hR115 => ?_)
  have hag := hag.moved (hm115.castL (by kernel_rfl))
  have hpo := hpo.moved (hm115.castL (by kernel_rfl))
  have hrow := hrow.moved (hm115.castL (by kernel_rfl))
  refine sim_knowO hR115 129 (b1 + b2 + b3 != b1 + b2 + b3) false (by kernel_rfl) (bne_self_eq_false _) (fun hR116 => ?_)
  refine sim_ordN 3 [] hR116 (by kernel_rfl) trivial (fun ρ117 w117 hm117 hR117 => ?_)
  have hag := hag.moved (hm117.castL (by kernel_rfl))
  have hpo := hpo.moved (hm117.castL (by kernel_rfl))
  have hrow := hrow.moved (hm117.castL (by kernel_rfl))
  refine sim_ord_index (.v (.slice (some ⟨gb, ob, none⟩) n cp)) n 2 j 0 0 (by kernel_rfl) (by omega) (by omega) rfl hR117 (by simp only [Nm.at_, hag.at_ 0 (by omega), e0, Nat.add_zero, Int.toNat_natCast]) (fun hR118 => ?_)
  refine sim_ordN 1 [] hR118 (by kernel_rfl) trivial (fun ρ119 w119 hm119 hR119 => ?_)
  have hag := hag.moved (hm119.castL (by kernel_rfl))
  have hpo := hpo.moved (hm119.castL (by kernel_rfl))
  have hrow := hrow.moved (hm119.castL (by kernel_rfl))
  refine sim_ord_call (T := []) (w0 := w0) 22 [.v (Value.pointer (some (Addr.mk g 0 none))), .agg [LS k.fst, LS k.snd]] (by kernel_rfl) ?_
  refine Calls.mono (whole_po _ _ _ _ _ _ _ _ hpo.po) ?_
  rw [hwh]
  rintro e120 w120 ⟨rfl, hb120⟩
  have hR120 := hR119.call hb120 (LI (b1 + b2 + b3))
  have hpo := hpo.below hb120
  have hrow := hrow.below hb120
  refine BackO.of (LI (b1 + b2 + b3)) hR120 rfl ?_
  refine sim_ordN 2 [] hR120 (by kernel_rfl) trivial (fun ρ121 w121 hm121 hR121 => ?_)
  have hag := hag.moved (hm121.castL (by kernel_rfl))
  have hpo := hpo.moved (hm121.castL (by kernel_rfl))
  have hrow := hrow.moved (hm121.castL (by kernel_rfl))
  refine sim_ord_endR hR121 (by kernel_rfl) (fun hR122 => ?_)
  refine sim_know 137 (b1 + b2 + b3 == 0) false (by kernel_rfl) (decide_eq_false (by omega)) ?_
  refine sim_run 7 [] (hR122.cast (by kernel_rfl)) (by kernel_rfl) trivial (fun ρ123 w123 hm123 hR123 => ?_)
  have hag := hag.moved (hm123.castL (by kernel_rfl))
  have hpo := hpo.moved (hm123.castL (by kernel_rfl))
  have hrow := hrow.moved (hm123.castL (by kernel_rfl))
  refine sim_place (.v (.slice (some ⟨gb, ob, none⟩) n cp)) n 2 j 0 0 (by kernel_rfl) (by omega) (by omega) rfl (by simp only [Nm.at_, hag.at_ 0 (by omega), e0, Nat.add_zero, Int.toNat_natCast]) ?_
  refine sim_run 1 [] (hR123.cast (by kernel_rfl)) (by kernel_rfl) trivial (fun ρ125 w125 hm125 hR125 => ?_)
  have hag := hag.moved (hm125.castL (by kernel_rfl))
  have hpo := hpo.moved (hm125.castL (by kernel_rfl))
  have hrow := hrow.moved (hm125.castL (by kernel_rfl))
  refine sim_call 22 [.v (Value.pointer (some (Addr.mk g 0 none))), .agg [LS k.fst, LS k.snd]] (by kernel_rfl) ?_
  refine Calls.mono (whole_po _ _ _ _ _ _ _ _ hpo.po) ?_
  rw [hwh]
  rintro e126 w126 ⟨rfl, hb126⟩
  have hR126 := hR125.below hb126
  have hpo := hpo.below hb126
  have hrow := hrow.below hb126
  refine Back.of (LI (b1 + b2 + b3)) hR126 rfl ?_
  refine sim_run 9 [⟨22, 7, LI (IntKind.i64.wrap (S + (b1 + b2 + b3))), LI (S + (b1 + b2 + b3))⟩, ⟨18, 1, LI (IntKind.i64.wrap ((↑j : Int) + 1)), LI ((↑j : Int) + 1)⟩] (hR126.cast (by kernel_rfl)) (by kernel_rfl) ⟨eqi (IntWalk.i64_in _ (by omega)), eqi (IntWalk.i64_in _ (by omega)), trivial⟩ (fun ρ127 w127 hm127 hR127 => ?_)
  have hag := hag.moved (hm127.castL (by kernel_rfl))
  have hpo := hpo.moved (hm127.castL (by kernel_rfl))
  have hrow := hrow.moved (hm127.castL (by kernel_rfl))
  
  exact hfin _ _ _ (by kernel_rfl) (by kernel_rfl) (by kernel_rfl) (by assumption : Rel _ _ _ _ _) hpo.po hrow.own
end Go.Proofs.Ytgbgedaedcofcaa
