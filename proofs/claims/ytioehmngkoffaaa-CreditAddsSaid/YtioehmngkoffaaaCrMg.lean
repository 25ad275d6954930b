/-
  value.Merge: of each asset one pledge.
-/
import Derived.Test.YtioehmngkoffaaaCrMQ
import Derived.Test.YtioehmngkoffaaaCrO
import Derived.Test.YtioehmngkoffaaaSlPl
import Derived.Test.YtioehmngkoffaaaFork
namespace Go.Proofs.Ytioehmngkoffaaa
open Go Go.RowKit
attribute [local irreducible] run goO leaveK someK nextK nextT nextOT nextOD loopBody loopRest loopK fillJ tmplOf tmplJ mergeT At AtO drawOk ordOf gateOf callC callO topOp topO idxOf appOf storeOf clearOf sliceOf calleeOf calleeO topQ idxQ newRowOf resL stepOp seek
theorem flat_encS (ks : List ByteArray) : (ks.map fun a => [encS a]).flatten = ks.map encS := by
  induction ks with
  | nil => rfl
  | cons a ks ih => rw [List.map_cons, List.flatten_cons, ih]; rfl
set_option maxRecDepth 100000 in
set_option maxHeartbeats 4000000 in
theorem merge_any (A : Option Addr) (n cp B : Nat) (ps : List Pl) (w : World) (hrd : Reads w B 2 A n (plV ps)) (hlen : ps.length = n) (hB : B ≤ w.heap.size) (hn : n ≤ 100000) (hok : ∀ p ∈ ps, IsI64 p.qty) :
    Calls Try.prog 28 #[.slice A n cp] w fun e w' => ∃ (out : List Pl) (A' : Option Addr) (cp' : Nat), IsMrg ps out ∧ e = .returned (.slice A' out.length cp') ∧ w'.ownsRow w.heap.size 49 2 (.slice A' out.length cp') out.length (plV out) ∧ Below w.heap.size w w' := by
  refine sim_enter Try.func28 ρ0 [.v (.slice A n cp)] [] (by kernel_rfl) rfl ?_
  have hR := Rel.start [] w ρ0
  refine sim_run 6 [] (hR.cast (by kernel_rfl)) (by kernel_rfl) trivial (fun ρ100 w100 hm100 hR100 => ?_)
  refine sim_make encS id (t := 92) (by kernel_rfl) hR100 (fun w101 gm eg hb101 hM hR101 => ?_)
  refine sim_run 10 [] (hR101.cast (by kernel_rfl)) (by kernel_rfl) trivial (fun ρ102 w102 hm102 hR102 => ?_)
  have hM := hM.moved (hm102.castL (by kernel_rfl))
  
  have hgm : w.heap.size ≤ gm := by rw [eg]; exact hR100.keeps.size
  refine sim_loop (ι := Nat × List (Ent ByteArray Value) × Nat) (T := []) (w0 := w) (0, [], 0) [2, 3, 12, 13] (fun x => [(14, LI x.1)]) (fun _ => []) (fun x w1 => x.1 ≤ n ∧ MpO encS id ρ102 [] w1 (some gm) x.2.1 x.2.2 ∧ Rws ρ102 [] w1 w.heap.size x.2.1 (fun a => qtyL a (ps.take x.1)) ∧ (∀ a, look a x.2.1 = none → qtyL a (ps.take x.1) = []) ∧ (∀ e ∈ x.2.1, ∃ p ∈ ps.take x.1, p.asset = e.key) ∧ (∀ p ∈ ps.take x.1, p.asset ∈ x.2.1.map (·.key))) (fun x => n - x.1) (by kernel_rfl) (by kernel_rfl) (hR102.cast (by kernel_rfl)) ⟨Nat.zero_le _, hM.castR (by kernel_rfl), Rws.nil, fun _ _ => rfl, fun _ h => absurd h List.not_mem_nil, fun _ h => absurd h List.not_mem_nil⟩ ?_
  iterate 6 (try clear hM)
  clear hR102 hm102
  rintro ⟨i, l, clock⟩ d w2 hR2 ⟨hi, hM, hrw, hnone, hsome, hkey⟩
  dsimp only at hi hM hrw hnone hsome hkey
  have hag := hR2.ag_ 0 (by kernel_rfl)
  by_cases hlt : i < n
  · obtain ⟨u, hu⟩ : ∃ u, ps[i]? = some u := ⟨_, List.getElem?_eq_getElem (by omega)⟩
    have hx : (ps.map Pl.cells)[i]? = some u.cells := by rw [List.getElem?_map, hu]; rfl
    refine sim_see u.cells i 0 (by kernel_rfl) hx hrd (pl_in ps) (by omega) hlt hB (by simp) hR2 (by kernel_rfl) (fun ga oa ρE eA hgT hgl hmE eE hRE => ?_)
    subst eA
    have hM := hM.moved hmE
    have hrw := hrw.moved hmE
    have hag1 := hag.moved hmE
    have hag := hRE.ag_ 1 (by kernel_rfl)
    have hrow := hrw.at_ (hnone u.asset)
    have hM0 := hM.fine
    have hlen1 := qtyL_lenT u.asset ps i
    generalize hv : (look u.asset l).getD nilRow = v at hrow
    refine sim_run 5 [] (hRE.cast (by kernel_rfl)) (by kernel_rfl) trivial (fun ρ200 w200 hm200 hR200 => ?_)
    have hM := hM.moved (hm200.castL (by kernel_rfl))
    have hrw := hrw.moved (hm200.castL (by kernel_rfl))
    have hag1 := hag1.moved (hm200.castL (by kernel_rfl))
    have hag := hag.moved (hm200.castL (by kernel_rfl))
    have hrow := hrow.moved (hm200.castL (by kernel_rfl))
    refine sim_know 15 (decide ((↑(i, l, clock).fst : Int) < (↑n : Int))) true (by kernel_rfl) (decide_eq_true (by omega)) ?_
    refine sim_run 6 [] (hR200.cast (by kernel_rfl)) (by kernel_rfl) trivial (fun ρ201 w201 hm201 hR201 => ?_)
    have hM := hM.moved (hm201.castL (by kernel_rfl))
    have hrw := hrw.moved (hm201.castL (by kernel_rfl))
    have hag1 := hag1.moved (hm201.castL (by kernel_rfl))
    have hag := hag.moved (hm201.castL (by kernel_rfl))
    have hrow := hrow.moved (hm201.castL (by kernel_rfl))
    refine sim_place (.v (.slice (some ⟨ga, oa, none⟩) n cp)) n 2 i 0 0 (by kernel_rfl) (by omega) (by omega) rfl (by simp only [Nm.at_, hag.at_ 0 (by omega), eE, Nat.add_zero, Int.toNat_natCast]) ?_
    refine sim_run 4 [] (hR201.cast (by kernel_rfl)) (by kernel_rfl) trivial (fun ρ203 w203 hm203 hR203 => ?_)
    have hM := hM.moved (hm203.castL (by kernel_rfl))
    have hrw := hrw.moved (hm203.castL (by kernel_rfl))
    have hag1 := hag1.moved (hm203.castL (by kernel_rfl))
    have hag := hag.moved (hm203.castL (by kernel_rfl))
    have hrow := hrow.moved (hm203.castL (by kernel_rfl))
    refine sim_drawF2 [(0, false), (1, false), (2, false), (3, false), (4, false), (5, false), (7, false), (8, false)] (6, [(9, true), (10, true), (11, true)]) (9, [(6, true), (10, true), (11, true)]) (some 11) (by kernel_rfl) (by kernel_rfl) hR203 (fun hR204 => ?_) (fun hR204 => ?_)
    have hM := hM.drew
    have hrw := hrw.drew
    have hrow := hrow.drew
    refine sim_ordN 8 [] hR204 (by kernel_rfl) trivial (fun ρ205 w205 hm205 hR205 => ?_)
    have hag1 := hag1.moved (hm205.castL (by kernel_rfl))
    have hag := hag.moved (hm205.castL (by kernel_rfl))
    have hM := hM.moved (hm205.castL (by kernel_rfl))
    have hrw := hrw.moved (hm205.castL (by kernel_rfl))
    have hrow := hrow.moved (hm205.castL (by kernel_rfl))
    refine sim_ord_look (enc := encS) (encV := id) (mx := .v (Value.map (some gm))) (kx := LS u.asset) (ok := false) u.asset (.v v) (by kernel_rfl) mi_ty kt_str zero_row hM rfl rfl hR205 (by show v = _; exact hv.symm) (fun hR206 => ?_)
    refine sim_ordN 1 [] hR206 (by kernel_rfl) trivial (fun ρ207 w207 hm207 hR207 => ?_)
    have hag1 := hag1.moved (hm207.castL (by kernel_rfl))
    have hag := hag.moved (hm207.castL (by kernel_rfl))
    have hM := hM.moved (hm207.castL (by kernel_rfl))
    have hrw := hrw.moved (hm207.castL (by kernel_rfl))
    have hrow := hrow.moved (hm207.castL (by kernel_rfl))
    rotate_left
    have hM := hM.drew
    have hrw := hrw.drew
    have hrow := hrow.drew
    refine sim_ordN 9 [] hR204 (by kernel_rfl) trivial (fun ρ209 w209 hm209 hR209 => ?_)
    have hag1 := hag1.moved (hm209.castL (by kernel_rfl))
    have hag := hag.moved (hm209.castL (by kernel_rfl))
    have hM := hM.moved (hm209.castL (by kernel_rfl))
    have hrw := hrw.moved (hm209.castL (by kernel_rfl))
    have hrow := hrow.moved (hm209.castL (by kernel_rfl))
    refine sim_ord_look (enc := encS) (encV := id) (mx := .v (Value.map (some gm))) (kx := LS u.asset) (ok := false) u.asset (.v v) (by kernel_rfl) mi_ty kt_str zero_row hM rfl rfl hR209 (by show v = _; exact hv.symm) (fun hR210 => ?_)
    rotate_left
    
    · have hsz := (hR207).rel.keeps.size
      refine sim_ord_appendP 84 v (.slc 2 0 1 1) (by kernel_rfl) hR207 int_ty hrow 2 1 1 rfl [LI u.qty] (by kernel_rfl) rfl (by kernel_rfl) (by unfold maxLen; omega) (by omega) (hR207).rel.keeps.size (fun g' hg' => .inr (own_ge hrow.own hg')) [0] (by kernel_rfl) (fun k0 hk0 g' hg' => by
        simp only [List.mem_singleton] at hk0
        subst hk0
        rw [hag.at_ 0 (by omega), eE]
        have := own_ge hrow.own hg'
        show ga ≠ g'
        omega) (fun v' w4 hvo hgr hat hR4 => ?_)
      have hM := hM.grownO hrow.own hgr
      have hput := hrw.put (f' := fun a => qtyL a (ps.take (i + 1))) hM.fine (k := u.asset) (v' := v') (fun q hq => qtyL_ne hu hq) (by rw [hv]; exact hgr) (by rw [qtyL_eq hu, List.length_append]; unfold ints at hvo ⊢; rw [List.map_append]; exact hvo) (by rw [hv]; exact hat.imp id (fun e => ⟨_, Nat.le_refl _, e⟩)) clock
      clear hrow hrw hvo
      refine sim_ord_upd (enc := encS) (encV := id) (mx := .v (Value.map (some gm))) (kx := LS u.asset) (vx := .v v') u.asset v' (by kernel_rfl) mi_ty kt_str hM rfl rfl rfl (.inr hgm) hR4 (fun w400 ht400 hM2 hR400 => ?_)
      have hM := hM2
      clear hM2
      have hput := hput.turnM ht400
      refine sim_ord_endR hR400 (by kernel_rfl) (fun hR401 => ?_)
      refine sim_run 5 [⟨6, 0, LI (IntKind.i64.wrap ((↑(i, l, clock).fst : Int) + 1)), LI ((↑(i, l, clock).fst : Int) + 1)⟩] (hR401.cast (by kernel_rfl)) (by kernel_rfl) ⟨eqi (IntWalk.i64_in _ (by omega)), trivial⟩ (fun ρ402 w402 hm402 hR402 => ?_)
      have hag1 := hag1.moved (hm402.castL (by kernel_rfl))
      have hag := hag.moved (hm402.castL (by kernel_rfl))
      have hM := hM.moved (hm402.castL (by kernel_rfl))
      have hput := hput.moved (hm402.castL (by kernel_rfl))
      
      exact sim_again (i + 1, ins u.asset v' clock l, clockAfter u.asset l clock) (by kernel_rfl) (by show n - (i + 1) < n - i; omega) (by kernel_rfl) (by kernel_rfl) (by kernel_rfl) Agree.zero (Rel.cast (by assumption) (by kernel_rfl)) (by kernel_rfl) (by kernel_rfl) ⟨hlt, hM.cut hag1 rfl (by kernel_rfl), hput.cut hag1 rfl (by kernel_rfl), qtyL_none hu hnone, qtyL_some hu hM0.keys hsome, qtyL_all hu hkey⟩
    · have hsz := (hR210).rel.keeps.size
      refine sim_ord_appendP 84 v (.slc 2 0 1 1) (by kernel_rfl) hR210 int_ty hrow 2 1 1 rfl [LI u.qty] (by kernel_rfl) rfl (by kernel_rfl) (by unfold maxLen; omega) (by omega) (hR210).rel.keeps.size (fun g' hg' => .inr (own_ge hrow.own hg')) [0] (by kernel_rfl) (fun k0 hk0 g' hg' => by
        simp only [List.mem_singleton] at hk0
        subst hk0
        rw [hag.at_ 0 (by omega), eE]
        have := own_ge hrow.own hg'
        show ga ≠ g'
        omega) (fun v' w4 hvo hgr hat hR4 => ?_)
      have hM := hM.grownO hrow.own hgr
      have hput := hrw.put (f' := fun a => qtyL a (ps.take (i + 1))) hM.fine (k := u.asset) (v' := v') (fun q hq => qtyL_ne hu hq) (by rw [hv]; exact hgr) (by rw [qtyL_eq hu, List.length_append]; unfold ints at hvo ⊢; rw [List.map_append]; exact hvo) (by rw [hv]; exact hat.imp id (fun e => ⟨_, Nat.le_refl _, e⟩)) clock
      clear hrow hrw hvo
      refine sim_ord_upd (enc := encS) (encV := id) (mx := .v (Value.map (some gm))) (kx := LS u.asset) (vx := .v v') u.asset v' (by kernel_rfl) mi_ty kt_str hM rfl rfl rfl (.inr hgm) hR4 (fun w500 ht500 hM2 hR500 => ?_)
      have hM := hM2
      clear hM2
      have hput := hput.turnM ht500
      refine sim_ord_endR hR500 (by kernel_rfl) (fun hR501 => ?_)
      refine sim_run 5 [⟨6, 0, LI (IntKind.i64.wrap ((↑(i, l, clock).fst : Int) + 1)), LI ((↑(i, l, clock).fst : Int) + 1)⟩] (hR501.cast (by kernel_rfl)) (by kernel_rfl) ⟨eqi (IntWalk.i64_in _ (by omega)), trivial⟩ (fun ρ502 w502 hm502 hR502 => ?_)
      have hag1 := hag1.moved (hm502.castL (by kernel_rfl))
      have hag := hag.moved (hm502.castL (by kernel_rfl))
      have hM := hM.moved (hm502.castL (by kernel_rfl))
      have hput := hput.moved (hm502.castL (by kernel_rfl))
      
      exact sim_again (i + 1, ins u.asset v' clock l, clockAfter u.asset l clock) (by kernel_rfl) (by show n - (i + 1) < n - i; omega) (by kernel_rfl) (by kernel_rfl) (by kernel_rfl) Agree.zero (Rel.cast (by assumption) (by kernel_rfl)) (by kernel_rfl) (by kernel_rfl) ⟨hlt, hM.cut hag1 rfl (by kernel_rfl), hput.cut hag1 rfl (by kernel_rfl), qtyL_none hu hnone, qtyL_some hu hM0.keys hsome, qtyL_all hu hkey⟩
  · have hie : i = n := by omega
    subst hie
    have hps : ps.take i = ps := by rw [← hlen]; exact List.take_length
    rw [hps] at hrw hnone hsome hkey
    have hll : l.length ≤ i := by
      have h1 : (l.map (·.key)).length ≤ (ps.map (·.asset)).length := (nodup_keys hM.fine.keys).length_le_of_subset fun a ha => by
        obtain ⟨e, he, rfl⟩ := List.mem_map.1 ha
        obtain ⟨p, hp, hpe⟩ := hsome e he
        exact hpe ▸ List.mem_map_of_mem hp
      rw [List.length_map, List.length_map] at h1
      omega
    refine sim_run 5 [] (hR2.cast (by kernel_rfl)) (by kernel_rfl) trivial (fun ρ600 w600 hm600 hR600 => ?_)
    have hM := hM.moved (hm600.castL (by kernel_rfl))
    have hrw := hrw.moved (hm600.castL (by kernel_rfl))
    have hag := hag.moved (hm600.castL (by kernel_rfl))
    refine sim_know 15 (decide ((↑(i, l, clock).fst : Int) < (↑i : Int))) false (by kernel_rfl) (decide_eq_false (by omega)) ?_
    refine sim_run 1 [] (hR600.cast (by kernel_rfl)) (by kernel_rfl) trivial (fun ρ601 w601 hm601 hR601 => ?_)
    have hM := hM.moved (hm601.castL (by kernel_rfl))
    have hrw := hrw.moved (hm601.castL (by kernel_rfl))
    have hag := hag.moved (hm601.castL (by kernel_rfl))
    refine sim_leave (by kernel_rfl) ?_
    refine sim_run 8 [] (hR601.cast (by kernel_rfl)) (by kernel_rfl) trivial (fun ρ602 w602 hm602 hR602 => ?_)
    have hM := hM.moved (hm602.castL (by kernel_rfl))
    have hrw := hrw.moved (hm602.castL (by kernel_rfl))
    have hag := hag.moved (hm602.castL (by kernel_rfl))
    
    refine sim_call 44 [.v (.map (some gm))] (by kernel_rfl) ?_
    refine (keysS_any (some gm) _).mono ?_
    rintro e1 w61 ⟨g61, rfl, hm61, hg61, hb61⟩
    have hR61 := hR602.below hb61
    have hM := hM.below hb61
    have hrw := hrw.below hb61
    refine Back.of (.v (.func (.func 53) #[] #[.pointer (some ⟨g61, 0, none⟩)])) hR61 rfl ?_
    refine sim_call 43 [.v (.func (.func 53) #[] #[.pointer (some ⟨g61, 0, none⟩)])] (by kernel_rfl) ?_
    refine (sortedS_any g61 (some gm) l clock _ hm61 ⟨fun g hg => ⟨(hM.is g hg).1, noW0⟩, hM.nil⟩ (by omega)).mono ?_
    rintro e2 w62 ⟨Ak, ck, ks, rfl, hkp, hko, hb62⟩
    have hkl : ks.length = l.length := by rw [hkp.length_eq, List.length_map]
    have hR62 := hR61.below hb62
    have hM := hM.below hb62
    have hrw := hrw.below hb62
    have hko : Own ρ602 _ w62 w.heap.size 9 1 (.slice Ak l.length ck) l.length (ks.map encS) := Own.ro hR62 (own_base hko (Rel.keeps hR61).size) (by kernel_rfl)
    refine Back.of (.v (.slice Ak l.length ck)) hR62 rfl ?_
    refine sim_run 4 [] (hR62.cast (by kernel_rfl)) (by kernel_rfl) trivial (fun ρ700 w700 hm700 hR700 => ?_)
    have hag := hag.moved (hm700.castL (by kernel_rfl))
    have hM := hM.moved (hm700.castL (by kernel_rfl))
    have hrw := hrw.moved (hm700.castL (by kernel_rfl))
    have hko := hko.moved (hm700.castL (by kernel_rfl))
    
    refine sim_loop (ι := Nat × Value) (T := []) (w0 := w) (0, .slice none 0 0) [2, 3, 32, 33] (fun x => [(34, LI x.1), (6, .v x.2)]) (fun _ => []) (fun x w1 => x.1 ≤ l.length ∧ MpO encS id ρ700 [] w1 (some gm) l clock ∧ Rws ρ700 [] w1 w.heap.size l (fun a => qtyL a ps) ∧ Own ρ700 [] w1 w.heap.size 9 1 (.slice Ak l.length ck) l.length (ks.map encS) ∧ Own ρ700 [] w1 w.heap.size 49 2 x.2 (mrg ps (ks.take x.1)).length (plV (mrg ps (ks.take x.1)))) (fun x => l.length - x.1) (by kernel_rfl) (by kernel_rfl) (hR700.cast (by kernel_rfl)) ⟨Nat.zero_le _, hM.castR (by kernel_rfl), hrw.castR (by kernel_rfl), hko.castR (by kernel_rfl), World.ownsRow_nil _ _ _ _, fun g hg => by cases hg⟩ ?_
    iterate 12 (try clear hM)
    iterate 12 (try clear hrw)
    iterate 12 (try clear hko)
    iterate 12 (try clear hag)
    rintro ⟨j, vo⟩ d3 w3 hR3 ⟨hj, hM, hrw, hko, hvo⟩
    dsimp only at hj hM hrw hko hvo
    have hag := hR3.ag_ 0 (by kernel_rfl)
    have hml : (mrg ps (ks.take j)).length ≤ j := by have h1 := mrg_len ps (ks.take j); rw [List.length_take] at h1; omega
    by_cases hjl : j < l.length
    · obtain ⟨a, ha⟩ : ∃ a, ks[j]? = some a := ⟨_, List.getElem?_eq_getElem (by omega)⟩
      have htk : ks.take (j + 1) = ks.take j ++ [a] := by rw [List.take_add_one, ha]; rfl
      obtain ⟨gk, rfl⟩ := own_spot hko.own (by omega)
      refine sim_seeO (xss := ks.map fun a => [encS a]) (sz := 1) [encS a] j 0 (by kernel_rfl) (by rw [List.getElem?_map, ha]; rfl) (by rw [flat_encS]; exact hko) (by intro y hy; obtain ⟨o, _, rfl⟩ := List.mem_map.1 hy; rfl) (by omega) hjl hR3 (by kernel_rfl) (fun ρE hmE eE hRE => ?_)
      have hM := hM.moved hmE
      have hrw := hrw.moved hmE
      have hko := hko.moved hmE
      have hvo := hvo.moved hmE
      have hag1 := hag.moved hmE
      have hag := hRE.ag_ 1 (by kernel_rfl)
      have hrow := hrw.at_ (hnone a)
      have hla := qtyL_len a ps
      generalize hv : (look a l).getD nilRow = v at hrow
      obtain ⟨Av, cv, rfl⟩ := own_row hrow.own
      obtain ⟨z, hz⟩ : ∃ z, clampV (sumI (qtyL a ps)) = z := ⟨_, rfl⟩
      refine sim_run 5 [] (hRE.cast (by kernel_rfl)) (by kernel_rfl) trivial (fun ρ800 w800 hm800 hR800 => ?_)
      have hM := hM.moved (hm800.castL (by kernel_rfl))
      have hrw := hrw.moved (hm800.castL (by kernel_rfl))
      have hko := hko.moved (hm800.castL (by kernel_rfl))
      have hvo := hvo.moved (hm800.castL (by kernel_rfl))
      have hag1 := hag1.moved (hm800.castL (by kernel_rfl))
      have hag := hag.moved (hm800.castL (by kernel_rfl))
      have hrow := hrow.moved (hm800.castL (by kernel_rfl))
      refine sim_know 35 (decide ((↑(j, vo).fst : Int) < (↑l.length : Int))) true (by kernel_rfl) (decide_eq_true (by omega)) ?_
      refine sim_run 6 [] (hR800.cast (by kernel_rfl)) (by kernel_rfl) trivial (fun ρ801 w801 hm801 hR801 => ?_)
      have hM := hM.moved (hm801.castL (by kernel_rfl))
      have hrw := hrw.moved (hm801.castL (by kernel_rfl))
      have hko := hko.moved (hm801.castL (by kernel_rfl))
      have hvo := hvo.moved (hm801.castL (by kernel_rfl))
      have hag1 := hag1.moved (hm801.castL (by kernel_rfl))
      have hag := hag.moved (hm801.castL (by kernel_rfl))
      have hrow := hrow.moved (hm801.castL (by kernel_rfl))
      refine sim_place (.v (.slice (some ⟨gk, 0, none⟩) l.length ck)) l.length 1 j 0 0 (by kernel_rfl) (by omega) (by omega) rfl (by simp only [Nm.at_, hag.at_ 0 (by omega), eE, Nat.zero_add, Nat.mul_one, Nat.add_zero, Int.toNat_natCast]) ?_
      refine sim_run 11 [] (hR801.cast (by kernel_rfl)) (by kernel_rfl) trivial (fun ρ803 w803 hm803 hR803 => ?_)
      have hM := hM.moved (hm803.castL (by kernel_rfl))
      have hrw := hrw.moved (hm803.castL (by kernel_rfl))
      have hko := hko.moved (hm803.castL (by kernel_rfl))
      have hvo := hvo.moved (hm803.castL (by kernel_rfl))
      have hag1 := hag1.moved (hm803.castL (by kernel_rfl))
      have hag := hag.moved (hm803.castL (by kernel_rfl))
      have hrow := hrow.moved (hm803.castL (by kernel_rfl))
      refine sim_look (enc := encS) (encV := id) (mx := .v (Value.map (some gm))) (kx := LS a) (ok := false) a (.v (.slice Av (qtyL a ps).length cv)) (by kernel_rfl) mi_ty kt_str zero_row hM rfl rfl (by show _ = _; exact hv.symm) ?_
      
      refine sim_call 25 [.ptr 1 0, .v (.slice Av (qtyL a ps).length cv)] (by kernel_rfl) ?_
      refine (accAdd_any _ _ false Av _ cv (qtyL a ps) _ (((by assumption : Rel _ _ _ _ _)).at_cell 1 0 (LB false) (by kernel_rfl)) (((by assumption : Rel _ _ _ _ _)).unfrozen (q := 1) (r := ⟨[LB false], true⟩) (by kernel_rfl) rfl (by show 0 < 1; omega)) _ (Reads.of_own hrow.own) (qtyL_64 hok a) (by omega)).mono ?_
      rintro e7 w7 ⟨rfl, ho⟩
      have hR7 := ((by assumption : Rel _ _ _ _ _)).orAt (q := 1) (x := false) (by kernel_rfl) ho
      have hM := hM.orAt (q := 1) (cs := [LB false]) (cs' := [LB (false || clampO (sumI (qtyL a ps)))]) (by kernel_rfl) ho
      have hrw := hrw.orAt (q := 1) (cs := [LB false]) (cs' := [LB (false || clampO (sumI (qtyL a ps)))]) (by kernel_rfl) ho
      have hko := hko.orAt (q := 1) (cs := [LB false]) (cs' := [LB (false || clampO (sumI (qtyL a ps)))]) (by kernel_rfl) ho
      have hvo := hvo.orAt (q := 1) (cs := [LB false]) (cs' := [LB (false || clampO (sumI (qtyL a ps)))]) (by kernel_rfl) ho
      rw [hz]
      have hag : Ag 1 ρE ρ803 _ := ⟨hag.ag, (hR7.ag_ 1 (by kernel_rfl)).le⟩
      have hag1 : Ag 0 ρ700 ρ803 _ := ⟨Agree.zero, (hR7.ag_ 0 (by kernel_rfl)).le⟩
      refine Back.of (LI z) hR7 rfl ?_
      by_cases h0 : z = 0
      · subst h0
        have hms : mrg ps (ks.take (j + 1)) = mrg ps (ks.take j) := by rw [htk, mrg_snoc, if_pos hz]
        clear hrow
        refine sim_run 14 [⟨15, 0, LI (IntKind.i64.wrap ((↑(j, vo).fst : Int) + 1)), LI ((↑(j, vo).fst : Int) + 1)⟩] (hR7.cast (by kernel_rfl)) (by kernel_rfl) ⟨eqi (IntWalk.i64_in _ (by omega)), trivial⟩ (fun ρ900 w900 hm900 hR900 => ?_)
        have hM := hM.moved (hm900.castL (by kernel_rfl))
        have hrw := hrw.moved (hm900.castL (by kernel_rfl))
        have hko := hko.moved (hm900.castL (by kernel_rfl))
        have hvo := hvo.moved (hm900.castL (by kernel_rfl))
        have hag := hag.moved (hm900.castL (by kernel_rfl))
        have hag1 := hag1.moved (hm900.castL (by kernel_rfl))
        
        exact sim_again (j + 1, vo) (by kernel_rfl) (by show l.length - (j + 1) < l.length - j; omega) (by kernel_rfl) (by kernel_rfl) (by kernel_rfl) Agree.zero (Rel.cast (by assumption) (by kernel_rfl)) (by kernel_rfl) (by kernel_rfl) ⟨hjl, hM.cut hag1 rfl (by kernel_rfl), hrw.cut hag1 rfl (by kernel_rfl), hko.cut hag1 rfl (by kernel_rfl), by dsimp only; rw [hms]; exact hvo.cut hag1 rfl (by kernel_rfl)⟩
      · have hms : mrg ps (ks.take (j + 1)) = mrg ps (ks.take j) ++ [⟨a, z⟩] := by rw [htk, mrg_snoc, if_neg (by rw [hz]; exact h0), hz]
        clear hrow
        refine sim_run 7 [] (hR7.cast (by kernel_rfl)) (by kernel_rfl) trivial (fun ρ1000 w1000 hm1000 hR1000 => ?_)
        have hM := hM.moved (hm1000.castL (by kernel_rfl))
        have hrw := hrw.moved (hm1000.castL (by kernel_rfl))
        have hko := hko.moved (hm1000.castL (by kernel_rfl))
        have hvo := hvo.moved (hm1000.castL (by kernel_rfl))
        have hag := hag.moved (hm1000.castL (by kernel_rfl))
        have hag1 := hag1.moved (hm1000.castL (by kernel_rfl))
        refine sim_know 43 (z != 0) true (by kernel_rfl) (bne_iff_ne.2 h0) ?_
        refine sim_run 7 [] (hR1000.cast (by kernel_rfl)) (by kernel_rfl) trivial (fun ρ1001 w1001 hm1001 hR1001 => ?_)
        have hM := hM.moved (hm1001.castL (by kernel_rfl))
        have hrw := hrw.moved (hm1001.castL (by kernel_rfl))
        have hko := hko.moved (hm1001.castL (by kernel_rfl))
        have hvo := hvo.moved (hm1001.castL (by kernel_rfl))
        have hag := hag.moved (hm1001.castL (by kernel_rfl))
        have hag1 := hag1.moved (hm1001.castL (by kernel_rfl))
        
        refine sim_appendO 26 vo (.slc 2 0 1 1) (by kernel_rfl) (hR1001.cast (by kernel_rfl)) tyPl (hvo.castR (by kernel_rfl)) 2 1 1 rfl [LS a, LI z] (by kernel_rfl) rfl (by kernel_rfl) (by unfold maxLen; omega) (by omega) ((by assumption : Rel _ _ _ _ _)).keeps.size (fun g' hg' => .inr (own_ge hvo.own hg')) [0] (by kernel_rfl) (fun k0 hk0 g' hg' => by
          simp only [List.mem_singleton] at hk0
          subst hk0
          rw [hag.at_ 0 (by omega), eE]
          rintro rfl
          exact own_ne hko.own hvo.own (by decide) gk rfl hg') (fun v' w12 hvo' hgr hR12 => ?_)
        have hM := hM.grownO hvo.own hgr
        have hrw := hrw.map fun _ _ h1 => h1.grown hgr fun g hg1 hg2 => own_ne hvo.own h1.own (by decide) g hg2 hg1
        have hko := hko.grown hgr fun g hg1 hg2 => own_ne hvo.own hko.own (by decide) g hg2 hg1
        have hvo := hvo'
        clear hvo'
        refine sim_run 7 [⟨15, 0, LI (IntKind.i64.wrap ((↑(j, vo).fst : Int) + 1)), LI ((↑(j, vo).fst : Int) + 1)⟩] (hR12.cast (by kernel_rfl)) (by kernel_rfl) ⟨eqi (IntWalk.i64_in _ (by omega)), trivial⟩ (fun ρ1100 w1100 hm1100 hR1100 => ?_)
        have hag := hag.moved (hm1100.castL (by kernel_rfl))
        have hag1 := hag1.moved (hm1100.castL (by kernel_rfl))
        have hM := hM.moved (hm1100.castL (by kernel_rfl))
        have hrw := hrw.moved (hm1100.castL (by kernel_rfl))
        have hko := hko.moved (hm1100.castL (by kernel_rfl))
        have hvo := hvo.moved (hm1100.castL (by kernel_rfl))
        
        exact sim_again (j + 1, v') (by kernel_rfl) (by show l.length - (j + 1) < l.length - j; omega) (by kernel_rfl) (by kernel_rfl) (by kernel_rfl) Agree.zero (Rel.cast (by assumption) (by kernel_rfl)) (by kernel_rfl) (by kernel_rfl) ⟨hjl, hM.cut hag1 rfl (by kernel_rfl), hrw.cut hag1 rfl (by kernel_rfl), hko.cut hag1 rfl (by kernel_rfl), by dsimp only; rw [hms, List.length_append, plV_append, plV_one]; exact hvo.cut hag1 rfl (by kernel_rfl)⟩
    · have hje : j = l.length := by omega
      subst hje
      rw [show ks.take l.length = ks from by rw [← hkl]; exact List.take_length] at hvo
      obtain ⟨Av, cv, rfl⟩ := own_row hvo.own
      refine sim_run 5 [] (hR3.cast (by kernel_rfl)) (by kernel_rfl) trivial (fun ρ1200 w1200 hm1200 hR1200 => ?_)
      have hM := hM.moved (hm1200.castL (by kernel_rfl))
      have hrw := hrw.moved (hm1200.castL (by kernel_rfl))
      have hko := hko.moved (hm1200.castL (by kernel_rfl))
      have hag := hag.moved (hm1200.castL (by kernel_rfl))
      have hvo := hvo.moved (hm1200.castL (by kernel_rfl))
      refine sim_know 35 (decide ((↑(l.length, Value.slice Av (mrg ps ks).length cv).fst : Int) < (↑l.length : Int))) false (by kernel_rfl) (decide_eq_false (by omega)) ?_
      refine sim_run 1 [] (hR1200.cast (by kernel_rfl)) (by kernel_rfl) trivial (fun ρ1201 w1201 hm1201 hR1201 => ?_)
      have hM := hM.moved (hm1201.castL (by kernel_rfl))
      have hrw := hrw.moved (hm1201.castL (by kernel_rfl))
      have hko := hko.moved (hm1201.castL (by kernel_rfl))
      have hag := hag.moved (hm1201.castL (by kernel_rfl))
      have hvo := hvo.moved (hm1201.castL (by kernel_rfl))
      refine sim_leave (by kernel_rfl) ?_
      refine sim_run 5 [] (hR1201.cast (by kernel_rfl)) (by kernel_rfl) trivial (fun ρ1202 w1202 hm1202 hR1202 => ?_)
      have hM := hM.moved (hm1202.castL (by kernel_rfl))
      have hrw := hrw.moved (hm1202.castL (by kernel_rfl))
      have hko := hko.moved (hm1202.castL (by kernel_rfl))
      have hag := hag.moved (hm1202.castL (by kernel_rfl))
      have hvo := hvo.moved (hm1202.castL (by kernel_rfl))
      refine sim_ret (.v (Value.slice Av (mrg ps ks).length cv)) hR1202 (by kernel_rfl) (by kernel_rfl) ?_
      
      refine ⟨mrg ps ks, Av, cv, ⟨ks, hkp.nodup_iff.2 (nodup_keys hM.fine.keys), fun a => ?_, rfl⟩, rfl, hvo.own, ((by assumption : Rel _ _ _ _ _)).toBelow⟩
      rw [hkp.mem_iff]
      constructor
      · intro ha
        obtain ⟨e, he, rfl⟩ := List.mem_map.1 ha
        exact hsome e he
      · rintro ⟨p, hp, rfl⟩
        exact hkey p hp
end Go.Proofs.Ytioehmngkoffaaa
