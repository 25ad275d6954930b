/-
  post.even: whether of each asset what is added is taken off elsewhere.
  post.right, and whether there is a posting that cannot be.
  A ledger: its positions, what was issued, what is blocked; (*Ledger).none, Blocked.
-/
import Derived.Test.YtgbgedaedcofcaaRwsR
import Derived.Test.YtgbgedaedcofcaaPosS1
import Derived.Test.YtgbgedaedcofcaaOpP
import Derived.Test.YtgbgedaedcofcaaPosDG
namespace Go.Proofs.Ytgbgedaedcofcaa
section
open Go Go.RowKit

def encS (a : ByteArray) : Value := .string a
theorem kt_str : KT Try.prog 9 encS := by
  refine ⟨fun a b w => ?_, fun d hd a b x h => ?_, ⟨_, Try.underlying9⟩, fun b a w => by kernel_rfl, fun a => ?_⟩
  · have h : (Op.equal 9 (encS a) (encS b)).run Try.prog w = .ok (a == b) w := by kernel_rfl
    rw [h, ba_dec]
  · rw [Try.underlying9] at hd
    injection hd with hd
    subst hd
    simp [Instr.sameNow, encS, ba_dec] at h
    rw [← h]
  · unfold encS
    simp [Instr.sameBits, ba_dec]
theorem mi_ty : Try.prog.underlying 129 = some (.map 9 82) := Try.underlying129
theorem zero_row (w : World) : (zeroValue 82).run Try.prog w = .ok nilRow w := by kernel_rfl
/-- a list of postings -/
def Posts (w : World) (B : Nat) (A : Option Addr) (n : Nat) (ps : List OpP) : Prop := Reads w B 4 A n (ps.map OpP.cells).flatten ∧ ps.length = n ∧ ∀ o ∈ ps, o.ok
def asL (a : ByteArray) (ps : List OpP) : List Int := (ps.filter fun p => decide (p.asset = a)).map (·.amt)
def evenB (ps : List OpP) : Bool := ps.all fun p => decide (sumI (asL p.asset ps) = 0)
theorem asL_snoc (a : ByteArray) (ps : List OpP) (p : OpP) : asL a (ps ++ [p]) = if p.asset = a then asL a ps ++ [p.amt] else asL a ps := by
  unfold asL
  rw [List.filter_append]
  split <;> rename_i h <;> simp [h]
theorem asL_eq {ps : List OpP} {i : Nat} {u : OpP} (h : ps[i]? = some u) : asL u.asset (ps.take (i + 1)) = asL u.asset (ps.take i) ++ [u.amt] := by
  rw [List.take_add_one, h]
  show asL _ (_ ++ [u]) = _
  rw [asL_snoc, if_pos rfl]
theorem asL_ne {ps : List OpP} {i : Nat} {u : OpP} (h : ps[i]? = some u) {q : ByteArray} (hq : q ≠ u.asset) : asL q (ps.take (i + 1)) = asL q (ps.take i) := by
  rw [List.take_add_one, h]
  show asL _ (_ ++ [u]) = _
  rw [asL_snoc, if_neg (fun e => hq e.symm)]
theorem even_none {ps : List OpP} {i : Nat} {u : OpP} {v' : Value} {clock : Nat} {l : List (Ent ByteArray Value)} (hu : ps[i]? = some u) (h : ∀ a, look a l = none → asL a (ps.take i) = []) (a : ByteArray) (ha : look a (ins u.asset v' clock l) = none) : asL a (ps.take (i + 1)) = [] := by
  rw [look_ins] at ha
  split at ha
  · cases ha
  · rename_i hne
    rw [asL_ne hu hne]
    exact h a ha
theorem even_some {ps : List OpP} {i : Nat} {u : OpP} {v' : Value} {clock : Nat} {l : List (Ent ByteArray Value)} (hu : ps[i]? = some u) (hk : l.Pairwise fun a b => a.key ≠ b.key) (h : ∀ e ∈ l, ∃ p ∈ ps.take i, p.asset = e.key) (e : Ent ByteArray Value) (he : e ∈ ins u.asset v' clock l) : ∃ p ∈ ps.take (i + 1), p.asset = e.key := by
  rw [List.take_add_one, hu]
  rcases ins_mem2 hk he with ⟨h1, _⟩ | ⟨h1, _⟩
  · obtain ⟨p, hp, hpe⟩ := h e h1
    exact ⟨p, List.mem_append_left _ hp, hpe⟩
  · exact ⟨u, List.mem_append_right _ (by simp), h1.symm⟩
theorem asL_64 {ps : List OpP} (h : ∀ o ∈ ps, o.ok) (a : ByteArray) : ∀ x ∈ asL a ps, IsI64 x := by
  intro x hx
  unfold asL at hx
  obtain ⟨o, ho, rfl⟩ := List.mem_map.1 hx
  exact (h o (List.mem_filter.1 ho).1).amt
theorem own_row {w : World} {b : Nat} {e : TypeId} {s : Nat} {v : Value} {n : Nat} {xs : List Value} (h : w.ownsRow b e s v n xs) : ∃ A cp, v = .slice A n cp := by
  rcases h.2 with ⟨rfl, rfl⟩ | ⟨g, cap, cur, rfl, _⟩
  · exact ⟨none, 0, rfl⟩
  · exact ⟨_, cap, rfl⟩
theorem even_yes {ps : List OpP} {l dn : List (Ent ByteArray Value)} (hnone : ∀ a, look a l = none → asL a ps = []) (hall : ∀ e ∈ l, e ∈ dn) (hz : ∀ e ∈ dn, sumI (asL e.key ps) = 0) : evenB ps = true := by
  unfold evenB
  refine List.all_eq_true.2 fun p hp => ?_
  cases hl : look p.asset l with
  | none =>
    have := hnone _ hl
    rw [this]
    rfl
  | some v =>
    obtain ⟨e, he, hk, _⟩ := look_in hl
    have := hz e (hall e he)
    rw [hk] at this
    exact decide_eq_true this
theorem even_no {ps : List OpP} {l : List (Ent ByteArray Value)} (hsome : ∀ e ∈ l, ∃ p ∈ ps, p.asset = e.key) {e : Ent ByteArray Value} (he : e ∈ l) (hz : sumI (asL e.key ps) ≠ 0) : evenB ps = false := by
  obtain ⟨p, hp, hpe⟩ := hsome e he
  cases h : evenB ps with
  | false => rfl
  | true =>
    have := List.all_eq_true.1 h p hp
    rw [hpe] at this
    exact absurd (of_decide_eq_true this) hz
theorem ItO.leG {K V : Type} {ρ : Nm} {rs : List Reg} {w : World} {it : Nat} {m : Option Nat} {l dn : List (Ent K V)} {clock : Nat} (h : ItO ρ rs w it m l clock dn) : dn.length ≤ l.length := (nodup_map h.nodup).length_le_of_subset h.sub
theorem ItO.ltG {K V : Type} {ρ : Nm} {rs : List Reg} {w : World} {it : Nat} {m : Option Nat} {l dn : List (Ent K V)} {clock : Nat} {e : Ent K V} (h : ItO ρ rs w it m l clock (dn ++ [e])) : dn.length + 1 ≤ l.length := by
  have := h.leG
  rw [List.length_append, List.length_singleton] at this
  exact this
theorem clamp_z {v : Int} : clampV v = 0 ↔ v = 0 := by
  unfold clampV
  split
  · omega
  · split <;> omega
attribute [local irreducible] run goO leaveK someK nextK nextT nextOT nextOD loopBody loopRest loopK fillJ tmplOf tmplJ mergeT At AtO drawOk ordOf gateOf callC callO topOp topO idxOf appOf storeOf clearOf sliceOf calleeOf calleeO topQ idxQ newRowOf resL stepOp seek

set_option maxRecDepth 100000 in
set_option maxHeartbeats 4000000 in
theorem even_any (A : Option Addr) (n cp B : Nat) (ps : List OpP) (w : World) (h : Posts w B A n ps) (hB : B ≤ w.heap.size) (hn : n ≤ 100000) : Calls Try.prog 60 #[.slice A n cp] w fun e w' => e = .returned (.bool (evenB ps)) ∧ Below w.heap.size w w' := by
  refine sim_enter Try.func60 ρ0 [.v (.slice A n cp)] [] (by kernel_rfl) rfl ?_
  have hR := Rel.start [] w ρ0
  obtain ⟨hrd, hlen, hok⟩ := h
  refine sim_run 6 [] (hR.cast (by kernel_rfl)) (by kernel_rfl) trivial (fun ρ100 w100 hm100 hR100 => ?_)
  refine sim_make encS id (t := 129) (by kernel_rfl) hR100 (fun w101 gm eg hb101 hM hR101 => ?_)
  refine sim_run 10 [] (hR101.cast (by kernel_rfl)) (by kernel_rfl) trivial (fun ρ102 w102 hm102 hR102 => ?_)
  have hM := hM.moved (hm102.castL (by kernel_rfl))
  
  refine sim_loop (ι := Nat × List (Ent ByteArray Value) × Nat) (T := []) (w0 := w) (0, [], 0) [0, 2, 3, 10, 11] (fun x => [(12, LI x.1)]) (fun _ => []) (fun x w1 => x.1 ≤ n ∧ MpO encS id ρ102 [] w1 (some gm) x.2.1 x.2.2 ∧ Rws ρ102 [] w1 w.heap.size x.2.1 (fun a => asL a (ps.take x.1)) ∧ (∀ a, look a x.2.1 = none → asL a (ps.take x.1) = []) ∧ (∀ e ∈ x.2.1, ∃ p ∈ ps.take x.1, p.asset = e.key)) (fun x => n - x.1) (by kernel_rfl) (by kernel_rfl) (hR102.cast (by kernel_rfl)) ⟨Nat.zero_le _, hM.castR (by kernel_rfl), Rws.nil, fun _ _ => rfl, fun _ h => absurd h List.not_mem_nil⟩ ?_
  have hgm : w.heap.size ≤ gm := by rw [eg]; exact hR100.keeps.size
  iterate 6 (try clear hM)
  clear hR102 hm102
  rintro ⟨i, l, clock⟩ d w2 hR2 ⟨hi, hM, hrw, hnone, hsome⟩
  dsimp only at hi hM hrw hnone hsome
  have hag := hR2.ag_ 0 (by kernel_rfl)
  by_cases hlt : i < n
  · obtain ⟨u, hu⟩ : ∃ u, ps[i]? = some u := ⟨_, List.getElem?_eq_getElem (by omega)⟩
    have hx : (ps.map OpP.cells)[i]? = some u.cells := by rw [List.getElem?_map, hu]; rfl
    refine sim_see u.cells i 0 (by kernel_rfl) hx hrd (op_len ps) (by omega) hlt hB (by simp) hR2 (by kernel_rfl) (fun ga oa ρE eA hgT hgl hmE eE hRE => ?_)
    subst eA
    have hM := hM.moved hmE
    have hrw := hrw.moved hmE
    have hag1 := hag.moved hmE
    have hag := hRE.ag_ 1 (by kernel_rfl)
    have hrow := hrw.at_ (hnone u.asset)
    have hM0 := hM.fine
    have hlen1 : (asL u.asset (ps.take i)).length ≤ n := by have h1 : (asL u.asset (ps.take i)).length ≤ (ps.take i).length := by { unfold asL; rw [List.length_map]; exact List.length_filter_le _ _ }; rw [List.length_take] at h1; omega
    generalize hv : (look u.asset l).getD nilRow = v at hrow
    refine sim_run 5 [] (hRE.cast (by kernel_rfl)) (by kernel_rfl) trivial (fun ρ200 w200 hm200 hR200 => ?_)
    have hM := hM.moved (hm200.castL (by kernel_rfl))
    have hrw := hrw.moved (hm200.castL (by kernel_rfl))
    have hag1 := hag1.moved (hm200.castL (by kernel_rfl))
    have hag := hag.moved (hm200.castL (by kernel_rfl))
    have hrow := hrow.moved (hm200.castL (by kernel_rfl))
    refine sim_know 13 (decide ((↑(i, l, clock).fst : Int) < (↑n : Int))) true (by kernel_rfl) (decide_eq_true (by omega)) ?_
    refine sim_run 6 [] (hR200.cast (by kernel_rfl)) (by kernel_rfl) trivial (fun ρ201 w201 hm201 hR201 => ?_)
    have hM := hM.moved (hm201.castL (by kernel_rfl))
    have hrw := hrw.moved (hm201.castL (by kernel_rfl))
    have hag1 := hag1.moved (hm201.castL (by kernel_rfl))
    have hag := hag.moved (hm201.castL (by kernel_rfl))
    have hrow := hrow.moved (hm201.castL (by kernel_rfl))
    refine sim_place (.v (.slice (some ⟨ga, oa, none⟩) n cp)) n 4 i 0 0 (by kernel_rfl) (by omega) (by omega) rfl (by simp only [Nm.at_, hag.at_ 0 (by omega), eE, Nat.add_zero, Int.toNat_natCast]) ?_
    refine sim_run 4 [] (hR201.cast (by kernel_rfl)) (by kernel_rfl) trivial (fun ρ203 w203 hm203 hR203 => ?_)
    have hM := hM.moved (hm203.castL (by kernel_rfl))
    have hrw := hrw.moved (hm203.castL (by kernel_rfl))
    have hag1 := hag1.moved (hm203.castL (by kernel_rfl))
    have hag := hag.moved (hm203.castL (by kernel_rfl))
    have hrow := hrow.moved (hm203.castL (by kernel_rfl))
    refine sim_drawF2 [(0, false), (1, false), (2, false), (3, false), (4, false), (5, false), (6, false), (7, false), (9, false), (10, false)] (8, [(11, true), (12, true), (13, true)]) (11, [(8, true), (12, true), (13, true)]) (some 13) (by kernel_rfl) (by kernel_rfl) hR203 (fun hR204 => ?_) (fun hR204 => ?_)
    have hM := hM.drew
    have hrw := hrw.drew
    have hrow := hrow.drew
    refine sim_ordN 10 [] hR204 (by kernel_rfl) trivial (fun ρ205 w205 hm205 hR205 => ?_)
    have hag1 := hag1.moved (hm205.castL (by kernel_rfl))
    have hag := hag.moved (hm205.castL (by kernel_rfl))
    have hM := hM.moved (hm205.castL (by kernel_rfl))
    have hrw := hrw.moved (hm205.castL (by kernel_rfl))
    have hrow := hrow.moved (hm205.castL (by kernel_rfl))
    refine sim_ord_look (enc := encS) (encV := id) (mx := .v (Value.map (some gm))) (kx := LS u.asset) (ok := false) u.asset (.v v) (by kernel_rfl) mi_ty kt_str zero_row hM rfl rfl hR205 (by show v = _; exact hv.symm) (fun hR206 => ?_)
    refine sim_ordN 1 [] hR206 (by kernel_rfl) trivial (fun ρ207 w207 hm207 hR207 => ?_)
    have hag1 := hag1.moved (hm207.castL (by kernel_rfl))
    have hag := hag.moved (hm207.castL (by kernel_rfl))
    have hM := hM.moved (hm207.castL (by kernel_rfl))
    have hrw := hrw.moved (hm207.castL (by kernel_rfl))
    have hrow := hrow.moved (hm207.castL (by kernel_rfl))
    rotate_left
    have hM := hM.drew
    have hrw := hrw.drew
    have hrow := hrow.drew
    refine sim_ordN 11 [] hR204 (by kernel_rfl) trivial (fun ρ208 w208 hm208 hR208 => ?_)
    have hag1 := hag1.moved (hm208.castL (by kernel_rfl))
    have hag := hag.moved (hm208.castL (by kernel_rfl))
    have hM := hM.moved (hm208.castL (by kernel_rfl))
    have hrw := hrw.moved (hm208.castL (by kernel_rfl))
    have hrow := hrow.moved (hm208.castL (by kernel_rfl))
    refine sim_ord_look (enc := encS) (encV := id) (mx := .v (Value.map (some gm))) (kx := LS u.asset) (ok := false) u.asset (.v v) (by kernel_rfl) mi_ty kt_str zero_row hM rfl rfl hR208 (by show v = _; exact hv.symm) (fun hR209 => ?_)
    rotate_left
    
    · have hsz := (hR207).rel.keeps.size
      refine sim_ord_appendP 82 v (.slc 2 0 1 1) (by kernel_rfl) hR207 int_ty hrow 2 1 1 rfl [LI u.amt] (by kernel_rfl) rfl (by kernel_rfl) (by unfold maxLen; omega) (by omega) (hR207).rel.keeps.size (fun g' hg' => .inr (own_ge hrow.own hg')) [0] (by kernel_rfl) (fun k0 hk0 g' hg' => by
        simp only [List.mem_singleton] at hk0
        subst hk0
        rw [hag.at_ 0 (by omega), eE]
        have := own_ge hrow.own hg'
        show ga ≠ g'
        omega) (fun v' w4 hvo hgr hat hR4 => ?_)
      have hM := hM.grownO hrow.own hgr
      have hput := hrw.put (f' := fun a => asL a (ps.take (i + 1))) hM.fine (k := u.asset) (v' := v') (fun q hq => asL_ne hu hq) (by rw [hv]; exact hgr) (by rw [asL_eq hu, List.length_append]; unfold ints at hvo ⊢; rw [List.map_append]; exact hvo) (by rw [hv]; exact hat.imp id (fun e => ⟨_, Nat.le_refl _, e⟩)) clock
      clear hrow hrw hvo
      refine sim_ord_upd (enc := encS) (encV := id) (mx := .v (Value.map (some gm))) (kx := LS u.asset) (vx := .v v') u.asset v' (by kernel_rfl) mi_ty kt_str hM rfl rfl rfl (.inr hgm) hR4 (fun w400 ht400 hM2 hR400 => ?_)
      have hM := hM2
      clear hM2
      have hput := hput.turnM ht400
      refine sim_ord_endR hR400 (by kernel_rfl) (fun hR401 => ?_)
      refine sim_run 5 [⟨6, 0, LI (IntKind.i64.wrap ((↑(i, l, clock).fst : Int) + 1)), LI ((↑(i, l, clock).fst : Int) + 1)⟩] (hR401.cast (by kernel_rfl)) (by kernel_rfl) ⟨eqi (IntWalk.i64_in _ (by omega)), trivial⟩ (fun ρ402 w402 hm402 hR402 => ?_)
      have hag1 := hag1.moved (hm402.castL (by kernel_rfl))
      have hag := hag.moved (hm402.castL (by kernel_rfl))
      have hM := hM.moved (hm402.castL (by kernel_rfl))
      have hput := hput.moved (hm402.castL (by kernel_rfl))
      
      exact sim_again (i + 1, ins u.asset v' clock l, clockAfter u.asset l clock) (by kernel_rfl) (by show n - (i + 1) < n - i; omega) (by kernel_rfl) (by kernel_rfl) (by kernel_rfl) Agree.zero (Rel.cast (by assumption) (by kernel_rfl)) (by kernel_rfl) (by kernel_rfl) ⟨hlt, hM.cut hag1 rfl (by kernel_rfl), hput.cut hag1 rfl (by kernel_rfl), even_none hu hnone, even_some hu hM0.keys hsome⟩
    · have hsz := (hR209).rel.keeps.size
      refine sim_ord_appendP 82 v (.slc 2 0 1 1) (by kernel_rfl) hR209 int_ty hrow 2 1 1 rfl [LI u.amt] (by kernel_rfl) rfl (by kernel_rfl) (by unfold maxLen; omega) (by omega) (hR209).rel.keeps.size (fun g' hg' => .inr (own_ge hrow.own hg')) [0] (by kernel_rfl) (fun k0 hk0 g' hg' => by
        simp only [List.mem_singleton] at hk0
        subst hk0
        rw [hag.at_ 0 (by omega), eE]
        have := own_ge hrow.own hg'
        show ga ≠ g'
        omega) (fun v' w4 hvo hgr hat hR4 => ?_)
      have hM := hM.grownO hrow.own hgr
      have hput := hrw.put (f' := fun a => asL a (ps.take (i + 1))) hM.fine (k := u.asset) (v' := v') (fun q hq => asL_ne hu hq) (by rw [hv]; exact hgr) (by rw [asL_eq hu, List.length_append]; unfold ints at hvo ⊢; rw [List.map_append]; exact hvo) (by rw [hv]; exact hat.imp id (fun e => ⟨_, Nat.le_refl _, e⟩)) clock
      clear hrow hrw hvo
      refine sim_ord_upd (enc := encS) (encV := id) (mx := .v (Value.map (some gm))) (kx := LS u.asset) (vx := .v v') u.asset v' (by kernel_rfl) mi_ty kt_str hM rfl rfl rfl (.inr hgm) hR4 (fun w500 ht500 hM2 hR500 => ?_)
      have hM := hM2
      clear hM2
      have hput := hput.turnM ht500
      refine sim_ord_endR hR500 (by kernel_rfl) (fun hR501 => ?_)
      refine sim_run 5 [⟨6, 0, LI (IntKind.i64.wrap ((↑(i, l, clock).fst : Int) + 1)), LI ((↑(i, l, clock).fst : Int) + 1)⟩] (hR501.cast (by kernel_rfl)) (by kernel_rfl) ⟨eqi (IntWalk.i64_in _ (by omega)), trivial⟩ (fun ρ502 w502 hm502 hR502 => ?_)
      have hag1 := hag1.moved (hm502.castL (by kernel_rfl))
      have hag := hag.moved (hm502.castL (by kernel_rfl))
      have hM := hM.moved (hm502.castL (by kernel_rfl))
      have hput := hput.moved (hm502.castL (by kernel_rfl))
      
      exact sim_again (i + 1, ins u.asset v' clock l, clockAfter u.asset l clock) (by kernel_rfl) (by show n - (i + 1) < n - i; omega) (by kernel_rfl) (by kernel_rfl) (by kernel_rfl) Agree.zero (Rel.cast (by assumption) (by kernel_rfl)) (by kernel_rfl) (by kernel_rfl) ⟨hlt, hM.cut hag1 rfl (by kernel_rfl), hput.cut hag1 rfl (by kernel_rfl), even_none hu hnone, even_some hu hM0.keys hsome⟩
  · have hie : i = n := by omega
    subst hie
    refine sim_run 5 [] (hR2.cast (by kernel_rfl)) (by kernel_rfl) trivial (fun ρ300 w300 hm300 hR300 => ?_)
    have hM := hM.moved (hm300.castL (by kernel_rfl))
    have hrw := hrw.moved (hm300.castL (by kernel_rfl))
    have hag := hag.moved (hm300.castL (by kernel_rfl))
    refine sim_know 13 (decide ((↑(i, l, clock).fst : Int) < (↑i : Int))) false (by kernel_rfl) (decide_eq_false (by omega)) ?_
    refine sim_run 1 [] (hR300.cast (by kernel_rfl)) (by kernel_rfl) trivial (fun ρ301 w301 hm301 hR301 => ?_)
    have hM := hM.moved (hm301.castL (by kernel_rfl))
    have hrw := hrw.moved (hm301.castL (by kernel_rfl))
    have hag := hag.moved (hm301.castL (by kernel_rfl))
    refine sim_leave (by kernel_rfl) ?_
    refine sim_run 4 [] (hR301.cast (by kernel_rfl)) (by kernel_rfl) trivial (fun ρ302 w302 hm302 hR302 => ?_)
    have hM := hM.moved (hm302.castL (by kernel_rfl))
    have hrw := hrw.moved (hm302.castL (by kernel_rfl))
    have hag := hag.moved (hm302.castL (by kernel_rfl))
    refine sim_range (enc := encS) (encV := id) (mx := .v (Value.map (some gm))) (by kernel_rfl) mi_ty hM rfl hR302 (fun w303 it eit hb303 hI hR303 => ?_)
    have hit : w.heap.size ≤ it := by rw [eit]; exact (hR302).keeps.size
    have hM := hM.below hb303
    have hrw := hrw.below hb303
    refine sim_run 2 [] (hR303.cast (by kernel_rfl)) (by kernel_rfl) trivial (fun ρ304 w304 hm304 hR304 => ?_)
    have hag := hag.moved (hm304.castL (by kernel_rfl))
    have hI := hI.moved (hm304.castL (by kernel_rfl))
    have hM := hM.moved (hm304.castL (by kernel_rfl))
    have hrw := hrw.moved (hm304.castL (by kernel_rfl))
    
    have hle : ∀ a, (asL a (ps.take i)).length ≤ i := fun a => by have h1 : (asL a (ps.take i)).length ≤ (ps.take i).length := by { unfold asL; rw [List.length_map]; exact List.length_filter_le _ _ }; rw [List.length_take] at h1; omega
    have hps : ps.take i = ps := by rw [← hlen]; exact List.take_length
    rw [hps] at hrw hnone hsome hle
    refine sim_loop (ι := List (Ent ByteArray Value)) (T := []) (w0 := w) [] [2, 31] (fun _ => []) (fun _ => []) (fun dn w1 => dn.length ≤ l.length ∧ MpO encS id ρ304 [] w1 (some gm) l clock ∧ ItO ρ304 [] w1 it (some gm) l clock dn ∧ Rws ρ304 [] w1 w.heap.size l (fun a => asL a ps) ∧ ∀ e ∈ dn, sumI (asL e.key ps) = 0) (fun dn => l.length - dn.length) (by kernel_rfl) (by kernel_rfl) (hR304.cast (by kernel_rfl)) ⟨Nat.zero_le _, hM.castR (by kernel_rfl), hI.castR (by kernel_rfl), hrw.castR (by kernel_rfl), fun _ h => absurd h List.not_mem_nil⟩ ?_
    iterate 12 (try clear hM)
    iterate 12 (try clear hI)
    iterate 12 (try clear hrw)
    iterate 12 (try clear hag)
    rintro dn d5 w5 hR5 ⟨hdn, hM, hI, hrw, hzero⟩
    have hag := hR5.ag_ 0 (by kernel_rfl)
    refine sim_run 2 [] (hR5.cast (by kernel_rfl)) (by kernel_rfl) trivial (fun ρ600 w600 hm600 hR600 => ?_)
    have hM := hM.moved (hm600.castL (by kernel_rfl))
    have hI := hI.moved (hm600.castL (by kernel_rfl))
    have hrw := hrw.moved (hm600.castL (by kernel_rfl))
    have hag := hag.moved (hm600.castL (by kernel_rfl))
    
    refine sim_next (enc := encS) (encV := id) (x := .v (.pointer (some ⟨it, 0, none⟩))) (by kernel_rfl) hM hI rfl hit (by assumption : Rel _ _ _ _ _) (fun e w3 he hnd ht hI3 hR3 => ?_) (fun hall => ?_)
    · have hM := hM.turnI ht
      have hrw := hrw.turnI ht
      have hI := hI3
      clear hI3
      have hown := hrw.own e he
      refine sim_run 8 [] (hR3.cast (by kernel_rfl)) (by kernel_rfl) trivial (fun ρ700 w700 hm700 hR700 => ?_)
      have hag := hag.moved (hm700.castL (by kernel_rfl))
      have hM := hM.moved (hm700.castL (by kernel_rfl))
      have hrw := hrw.moved (hm700.castL (by kernel_rfl))
      have hI := hI.moved (hm700.castL (by kernel_rfl))
      have hown := hown.moved (hm700.castL (by kernel_rfl))
      refine sim_entry (enc := encS) (encV := id) (x := .v (Value.pointer (some (Addr.mk it 0 none)))) e (by kernel_rfl) hM hI rfl ?_
      refine sim_run 10 [] (hR700.cast (by kernel_rfl)) (by kernel_rfl) trivial (fun ρ702 w702 hm702 hR702 => ?_)
      have hag := hag.moved (hm702.castL (by kernel_rfl))
      have hM := hM.moved (hm702.castL (by kernel_rfl))
      have hrw := hrw.moved (hm702.castL (by kernel_rfl))
      have hI := hI.moved (hm702.castL (by kernel_rfl))
      have hown := hown.moved (hm702.castL (by kernel_rfl))
      
      obtain ⟨Av, cv, hve⟩ := own_row hown.own
      refine sim_call 41 [.ptr 0 0, .v (id e.val)] (by kernel_rfl) ?_
      have hc := accAdd_any _ _ false Av _ cv (asL e.key ps) _ ((hR702).at_cell 0 0 (LB false) (by kernel_rfl)) ((hR702).unfrozen (q := 0) (r := ⟨[LB false], true⟩) (by kernel_rfl) rfl (by show 0 < 1; omega)) _ (Reads.of_own (hve ▸ (hrw.own e he).own)) (asL_64 hok _) (by have := hle e.key; omega)
      rw [← hve] at hc
      refine hc.mono ?_
      rintro e2 w7 ⟨rfl, ho⟩
      have hR7 := (hR702).orAt (q := 0) (x := false) (by kernel_rfl) ho
      have hM := hM.orAt (q := 0) (cs := [LB false]) (cs' := [LB (false || clampO (sumI (asL e.key ps)))]) (by kernel_rfl) ho
      have hI := hI.orAt (q := 0) (cs := [LB false]) (cs' := [LB (false || clampO (sumI (asL e.key ps)))]) (by kernel_rfl) ho
      have hrw := hrw.orAt (q := 0) (cs := [LB false]) (cs' := [LB (false || clampO (sumI (asL e.key ps)))]) (by kernel_rfl) ho
      refine Back.of (LI (clampV (sumI (asL e.key ps)))) hR7 rfl ?_
      by_cases hz : sumI (asL e.key ps) = 0
      · have hcz : clampV (sumI (asL e.key ps)) = 0 := clamp_z.2 hz
        refine sim_run 2 [] (hR7.cast (by kernel_rfl)) (by kernel_rfl) trivial (fun ρ900 w900 hm900 hR900 => ?_)
        have hM := hM.moved (hm900.castL (by kernel_rfl))
        have hI := hI.moved (hm900.castL (by kernel_rfl))
        have hrw := hrw.moved (hm900.castL (by kernel_rfl))
        refine sim_know 38 (clampV (sumI (asL e.key ps)) != 0) false (by kernel_rfl) (by rw [hcz]; rfl) ?_
        refine sim_run 3 [] (hR900.cast (by kernel_rfl)) (by kernel_rfl) trivial (fun ρ901 w901 hm901 hR901 => ?_)
        have hM := hM.moved (hm901.castL (by kernel_rfl))
        have hI := hI.moved (hm901.castL (by kernel_rfl))
        have hrw := hrw.moved (hm901.castL (by kernel_rfl))
        
        exact sim_again (dn ++ [e]) (by kernel_rfl) (by have := hI.ltG; show l.length - (dn ++ [e]).length < l.length - dn.length; rw [List.length_append, List.length_singleton]; omega) (by kernel_rfl) (by kernel_rfl) (by kernel_rfl) Agree.zero (Rel.cast (by assumption) (by kernel_rfl)) (by kernel_rfl) (by kernel_rfl) ⟨hI.leG, hM.cut ⟨Agree.zero, Nat.zero_le _⟩ rfl (by kernel_rfl), hI.cut ⟨Agree.zero, Nat.zero_le _⟩ rfl (by kernel_rfl), hrw.cut ⟨Agree.zero, Nat.zero_le _⟩ rfl (by kernel_rfl), fun x hx => by
          rcases List.mem_append.1 hx with h1 | h1
          · exact hzero x h1
          · rw [List.mem_singleton.1 h1]
            exact hz⟩
      · have hcz : clampV (sumI (asL e.key ps)) ≠ 0 := fun h => hz (clamp_z.1 h)
        refine sim_run 2 [] (hR7.cast (by kernel_rfl)) (by kernel_rfl) trivial (fun ρ1000 w1000 hm1000 hR1000 => ?_)
        have hM := hM.moved (hm1000.castL (by kernel_rfl))
        have hI := hI.moved (hm1000.castL (by kernel_rfl))
        have hrw := hrw.moved (hm1000.castL (by kernel_rfl))
        refine sim_know 38 (clampV (sumI (asL e.key ps)) != 0) true (by kernel_rfl) (bne_iff_ne.2 hcz) ?_
        refine sim_run 5 [] (hR1000.cast (by kernel_rfl)) (by kernel_rfl) trivial (fun ρ1001 w1001 hm1001 hR1001 => ?_)
        have hM := hM.moved (hm1001.castL (by kernel_rfl))
        have hI := hI.moved (hm1001.castL (by kernel_rfl))
        have hrw := hrw.moved (hm1001.castL (by kernel_rfl))
        refine sim_ret (LB false) hR1001 (by kernel_rfl) (by kernel_rfl) ?_
        
        rw [even_no hsome he hz]
        exact ⟨rfl, ((by assumption : Rel _ _ _ _ _)).toBelow⟩
    · refine sim_run 4 [] (hR600.cast (by kernel_rfl)) (by kernel_rfl) trivial (fun ρ800 w800 hm800 hR800 => ?_)
      have hM := hM.moved (hm800.castL (by kernel_rfl))
      have hI := hI.moved (hm800.castL (by kernel_rfl))
      have hrw := hrw.moved (hm800.castL (by kernel_rfl))
      have hag := hag.moved (hm800.castL (by kernel_rfl))
      refine sim_leave (by kernel_rfl) ?_
      refine sim_run 4 [] (hR800.cast (by kernel_rfl)) (by kernel_rfl) trivial (fun ρ801 w801 hm801 hR801 => ?_)
      have hM := hM.moved (hm801.castL (by kernel_rfl))
      have hI := hI.moved (hm801.castL (by kernel_rfl))
      have hrw := hrw.moved (hm801.castL (by kernel_rfl))
      have hag := hag.moved (hm801.castL (by kernel_rfl))
      refine sim_ret (LB true) hR801 (by kernel_rfl) (by kernel_rfl) ?_
      
      rw [even_yes hnone hall hzero]
      exact ⟨rfl, ((by assumption : Rel _ _ _ _ _)).toBelow⟩
end

section
open Go Go.RowKit

def okBy (z : Int) : Bool := decide (-1152921504606846976 ≤ z) && decide (z ≤ 1152921504606846976)
def rightB (o : OpP) : Bool := (decide (0 ≤ o.sub) && decide (o.sub ≤ 2)) && okBy o.amt
def rightsB (ps : List OpP) : Bool := ps.all rightB
attribute [local irreducible] run goO leaveK someK nextK nextT nextOT nextOD loopBody loopRest loopK fillJ tmplOf tmplJ mergeT At AtO drawOk ordOf gateOf callC callO topOp topO idxOf appOf storeOf clearOf sliceOf calleeOf calleeO topQ idxQ newRowOf resL stepOp seek
set_option maxRecDepth 100000 in
set_option maxHeartbeats 4000000 in
theorem beyond_any (z : Int) (w : World) : Calls Try.prog 43 #[.int .i64 z] w fun e w' => e = .returned (.bool (!okBy z)) ∧ Below w.heap.size w w' := by
  refine sim_enter Try.func43 ρ0 [LI z] [] (by kernel_rfl) rfl ?_
  have hR := Rel.start [] w ρ0
  by_cases h1 : z < -1152921504606846976
  · refine sim_run 9 [] (hR.cast (by kernel_rfl)) (by kernel_rfl) trivial (fun ρ100 w100 hm100 hR100 => ?_)
    refine sim_know 5 (decide (z < -1152921504606846976)) true (by kernel_rfl) (decide_eq_true (by omega)) ?_
    refine sim_run 5 [] (hR100.cast (by kernel_rfl)) (by kernel_rfl) trivial (fun ρ101 w101 hm101 hR101 => ?_)
    refine sim_ret (LB true) hR101 (by kernel_rfl) (by kernel_rfl) ?_
    
    exact ⟨by rw [show okBy z = false from by unfold okBy; rw [decide_eq_false (by omega), Bool.false_and]]; rfl, (by assumption : Rel _ _ _ _ _).toBelow⟩
  · by_cases h2 : z ≤ 1152921504606846976
    · refine sim_run 9 [] (hR.cast (by kernel_rfl)) (by kernel_rfl) trivial (fun ρ200 w200 hm200 hR200 => ?_)
      refine sim_know 5 (decide (z < -1152921504606846976)) false (by kernel_rfl) (decide_eq_false (by omega)) ?_
      refine sim_run 5 [] (hR200.cast (by kernel_rfl)) (by kernel_rfl) trivial (fun ρ201 w201 hm201 hR201 => ?_)
      refine sim_ret (LB (decide (z > 1152921504606846976))) hR201 (by kernel_rfl) (by kernel_rfl) ?_
      
      exact ⟨by rw [show okBy z = true from by unfold okBy; rw [decide_eq_true (by omega), decide_eq_true h2]; rfl, show decide (z > 1152921504606846976) = false from decide_eq_false (by omega)]; rfl, (by assumption : Rel _ _ _ _ _).toBelow⟩
    · refine sim_run 9 [] (hR.cast (by kernel_rfl)) (by kernel_rfl) trivial (fun ρ300 w300 hm300 hR300 => ?_)
      refine sim_know 5 (decide (z < -1152921504606846976)) false (by kernel_rfl) (decide_eq_false (by omega)) ?_
      refine sim_run 5 [] (hR300.cast (by kernel_rfl)) (by kernel_rfl) trivial (fun ρ301 w301 hm301 hR301 => ?_)
      refine sim_ret (LB (decide (z > 1152921504606846976))) hR301 (by kernel_rfl) (by kernel_rfl) ?_
      
      exact ⟨by rw [show okBy z = false from by unfold okBy; rw [decide_eq_false h2, Bool.and_false], show decide (z > 1152921504606846976) = true from decide_eq_true (by omega)]; rfl, (by assumption : Rel _ _ _ _ _).toBelow⟩
set_option maxRecDepth 100000 in
set_option maxHeartbeats 4000000 in
theorem right_any (a b : ByteArray) (s z : Int) (w : World) : Calls Try.prog 59 #[.agg #[.string a, .string b, .int .i64 s, .int .i64 z]] w fun e w' => e = .returned (.bool ((decide (0 ≤ s) && decide (s ≤ 2)) && okBy z)) ∧ Below w.heap.size w w' := by
  refine sim_enter Try.func59 ρ0 [.agg [LS a, LS b, LI s, LI z]] [] (by kernel_rfl) rfl ?_
  have hR := Rel.start [] w ρ0
  by_cases h1 : 0 ≤ s
  · by_cases h2 : s ≤ 2
    · cases hz : okBy z with
      | true =>
        refine sim_run 11 [] (hR.cast (by kernel_rfl)) (by kernel_rfl) trivial (fun ρ400 w400 hm400 hR400 => ?_)
        refine sim_know 6 (decide (s ≥ 0)) true (by kernel_rfl) (decide_eq_true (by omega)) ?_
        refine sim_run 5 [] (hR400.cast (by kernel_rfl)) (by kernel_rfl) trivial (fun ρ401 w401 hm401 hR401 => ?_)
        refine sim_know 11 (decide (s ≤ 2)) true (by kernel_rfl) (decide_eq_true (by omega)) ?_
        refine sim_run 2 [] (hR401.cast (by kernel_rfl)) (by kernel_rfl) trivial (fun ρ402 w402 hm402 hR402 => ?_)
        refine sim_call 43 [LI z] (by kernel_rfl) ?_
        refine Calls.mono (beyond_any _ _) ?_
        rw [hz]
        rintro e403 w403 ⟨rfl, hb403⟩
        have hR403 := hR402.below hb403
        refine Back.of (LB !true) hR403 rfl ?_
        refine sim_run 4 [] (hR403.cast (by kernel_rfl)) (by kernel_rfl) trivial (fun ρ404 w404 hm404 hR404 => ?_)
        refine sim_ret (LB true) hR404 (by kernel_rfl) (by kernel_rfl) ?_
        exact ⟨retv_bool (by clear hR404 hm404 hR403 hb403 hR402 hm402 hR401 hm401 hR400 hm400 hR; grind []), hR404.toBelow⟩
        
      | false =>
        refine sim_run 11 [] (hR.cast (by kernel_rfl)) (by kernel_rfl) trivial (fun ρ500 w500 hm500 hR500 => ?_)
        refine sim_know 6 (decide (s ≥ 0)) true (by kernel_rfl) (decide_eq_true (by omega)) ?_
        refine sim_run 5 [] (hR500.cast (by kernel_rfl)) (by kernel_rfl) trivial (fun ρ501 w501 hm501 hR501 => ?_)
        refine sim_know 11 (decide (s ≤ 2)) true (by kernel_rfl) (decide_eq_true (by omega)) ?_
        refine sim_run 2 [] (hR501.cast (by kernel_rfl)) (by kernel_rfl) trivial (fun ρ502 w502 hm502 hR502 => ?_)
        refine sim_call 43 [LI z] (by kernel_rfl) ?_
        refine Calls.mono (beyond_any _ _) ?_
        rw [hz]
        rintro e503 w503 ⟨rfl, hb503⟩
        have hR503 := hR502.below hb503
        refine Back.of (LB !false) hR503 rfl ?_
        refine sim_run 4 [] (hR503.cast (by kernel_rfl)) (by kernel_rfl) trivial (fun ρ504 w504 hm504 hR504 => ?_)
        refine sim_ret (LB false) hR504 (by kernel_rfl) (by kernel_rfl) ?_
        exact ⟨retv_bool (by clear hR504 hm504 hR503 hb503 hR502 hm502 hR501 hm501 hR500 hm500 hR; grind []), hR504.toBelow⟩
        
    · refine sim_run 11 [] (hR.cast (by kernel_rfl)) (by kernel_rfl) trivial (fun ρ600 w600 hm600 hR600 => ?_)
      refine sim_know 6 (decide (s ≥ 0)) true (by kernel_rfl) (decide_eq_true (by omega)) ?_
      refine sim_run 5 [] (hR600.cast (by kernel_rfl)) (by kernel_rfl) trivial (fun ρ601 w601 hm601 hR601 => ?_)
      refine sim_know 11 (decide (s ≤ 2)) false (by kernel_rfl) (decide_eq_false (by omega)) ?_
      refine sim_run 7 [] (hR601.cast (by kernel_rfl)) (by kernel_rfl) trivial (fun ρ602 w602 hm602 hR602 => ?_)
      refine sim_ret (LB false) hR602 (by kernel_rfl) (by kernel_rfl) ?_
      exact ⟨retv_bool (by clear hR602 hm602 hR601 hm601 hR600 hm600 hR; grind []), hR602.toBelow⟩
      
  · refine sim_run 11 [] (hR.cast (by kernel_rfl)) (by kernel_rfl) trivial (fun ρ700 w700 hm700 hR700 => ?_)
    refine sim_know 6 (decide (s ≥ 0)) false (by kernel_rfl) (decide_eq_false (by omega)) ?_
    refine sim_run 12 [] (hR700.cast (by kernel_rfl)) (by kernel_rfl) trivial (fun ρ701 w701 hm701 hR701 => ?_)
    refine sim_ret (LB false) hR701 (by kernel_rfl) (by kernel_rfl) ?_
    exact ⟨retv_bool (by clear hR701 hm701 hR700 hm700 hR; grind []), hR701.toBelow⟩
    
set_option maxRecDepth 100000 in
set_option maxHeartbeats 4000000 in
theorem look1_any (o : OpP) (w : World) : Calls Try.prog 58 #[.agg #[.string o.acc, .string o.asset, .int .i64 o.sub, .int .i64 o.amt]] w fun e w' => e = .returned (.bool (!rightB o)) ∧ Below w.heap.size w w' := by
  refine sim_enter Try.func58 ρ0 [.agg [LS o.acc, LS o.asset, LI o.sub, LI o.amt]] [] (by kernel_rfl) rfl ?_
  have hR := Rel.start [] w ρ0
  refine sim_run 8 [] (hR.cast (by kernel_rfl)) (by kernel_rfl) trivial (fun ρ800 w800 hm800 hR800 => ?_)
  refine sim_call 59 [.agg [LS o.acc, LS o.asset, LI o.sub, LI o.amt]] (by kernel_rfl) ?_
  refine Calls.mono (right_any _ _ _ _ _) ?_
  rw [show ((decide (0 ≤ o.sub) && decide (o.sub ≤ 2)) && okBy o.amt) = rightB o from rfl]
  rintro e801 w801 ⟨rfl, hb801⟩
  have hR801 := hR800.below hb801
  refine Back.of (LB (rightB o)) hR801 rfl ?_
  refine sim_run 3 [] (hR801.cast (by kernel_rfl)) (by kernel_rfl) trivial (fun ρ802 w802 hm802 hR802 => ?_)
  refine sim_ret (LB (!rightB o)) hR802 (by kernel_rfl) (by kernel_rfl) ?_
  exact ⟨rfl, hR802.toBelow⟩
  
theorem look1_enters : Enters Try.prog 58 := ⟨_, Try.func58, by kernel_rfl, by kernel_rfl⟩
set_option maxRecDepth 100000 in
set_option maxHeartbeats 4000000 in
theorem indexW_any (A : Option Addr) (n cp B : Nat) (ps : List OpP) (w : World) (h : Posts w B A n ps) (hB : B ≤ w.heap.size) (hn : n ≤ 100000) : Calls Try.prog 77 #[.slice A n cp, .func (.func 58) #[] #[]] w fun e w' => (∃ z : Int, e = .returned (.int .i64 z) ∧ decide (0 ≤ z) = !rightsB ps) ∧ Below w.heap.size w w' := by
  refine sim_enter Try.func77 ρ0 [.v (.slice A n cp), .v (.func (.func 58) #[] #[])] [] (by kernel_rfl) rfl ?_
  have hR := Rel.start [] w ρ0
  obtain ⟨hrd, hlen, hok⟩ := h
  refine sim_run 12 [] (hR.cast (by kernel_rfl)) (by kernel_rfl) trivial (fun ρ900 w900 hm900 hR900 => ?_)
  
  refine sim_loop (ι := Nat) (T := []) (w0 := w) 0 [0, 1, 7] (fun k => [(8, LI k)]) (fun _ => []) (fun k _ => k ≤ n ∧ (ps.take k).all rightB = true) (fun k => n - k) (by kernel_rfl) (by kernel_rfl) ((by assumption : Rel _ _ _ _ _).cast (by kernel_rfl)) ⟨Nat.zero_le _, rfl⟩ ?_
  rintro i d w2 hR2 ⟨hi, hall⟩
  have hag := hR2.ag_ 0 (by kernel_rfl)
  by_cases hlt : i < n
  · obtain ⟨u, hu⟩ : ∃ u, ps[i]? = some u := ⟨_, List.getElem?_eq_getElem (by omega)⟩
    have hx : (ps.map OpP.cells)[i]? = some u.cells := by rw [List.getElem?_map, hu]; rfl
    refine sim_see u.cells i 0 (by kernel_rfl) hx hrd (op_len ps) (by omega) hlt hB (by simp) hR2 (by kernel_rfl) (fun ga oa ρE eA hgT hgl hmE eE hRE => ?_)
    subst eA
    have hag1 := hag.moved hmE
    have hag := hRE.ag_ 1 (by kernel_rfl)
    cases hu2 : rightB u with
    | true =>
      refine sim_run 5 [] (hRE.cast (by kernel_rfl)) (by kernel_rfl) trivial (fun ρ1000 w1000 hm1000 hR1000 => ?_)
      have hag1 := hag1.moved (hm1000.castL (by kernel_rfl))
      have hag := hag.moved (hm1000.castL (by kernel_rfl))
      refine sim_know 9 (decide ((↑i : Int) < (↑n : Int))) true (by kernel_rfl) (decide_eq_true (by omega)) ?_
      refine sim_run 14 [] (hR1000.cast (by kernel_rfl)) (by kernel_rfl) trivial (fun ρ1001 w1001 hm1001 hR1001 => ?_)
      have hag1 := hag1.moved (hm1001.castL (by kernel_rfl))
      have hag := hag.moved (hm1001.castL (by kernel_rfl))
      refine sim_place (.v (.slice (some ⟨ga, oa, none⟩) n cp)) n 4 i 0 0 (by kernel_rfl) (by omega) (by omega) rfl (by simp only [Nm.at_, hag.at_ 0 (by omega), eE, Nat.add_zero, Int.toNat_natCast]) ?_
      refine sim_run 1 [] (hR1001.cast (by kernel_rfl)) (by kernel_rfl) trivial (fun ρ1003 w1003 hm1003 hR1003 => ?_)
      have hag1 := hag1.moved (hm1003.castL (by kernel_rfl))
      have hag := hag.moved (hm1003.castL (by kernel_rfl))
      refine sim_call 58 [.agg [LS u.acc, LS u.asset, LI u.sub, LI u.amt]] (by kernel_rfl) ?_
      refine Calls.mono (look1_any (u) _) ?_
      rw [hu2]
      rintro e1004 w1004 ⟨rfl, hb1004⟩
      have hR1004 := hR1003.below hb1004
      refine Back.of (LB false) hR1004 rfl ?_
      refine sim_run 8 [⟨6, 0, LI (IntKind.i64.wrap ((↑i : Int) + 1)), LI ((↑i : Int) + 1)⟩] (hR1004.cast (by kernel_rfl)) (by kernel_rfl) ⟨eqi (IntWalk.i64_in _ (by omega)), trivial⟩ (fun ρ1005 w1005 hm1005 hR1005 => ?_)
      have hag1 := hag1.moved (hm1005.castL (by kernel_rfl))
      have hag := hag.moved (hm1005.castL (by kernel_rfl))
      
      exact sim_again (i + 1) (by kernel_rfl) (by show n - (i + 1) < n - i; omega) (by kernel_rfl) (by kernel_rfl) (by kernel_rfl) Agree.zero (Rel.cast (by assumption) (by kernel_rfl)) (by kernel_rfl) (by kernel_rfl) ⟨hlt, by rw [List.take_add_one, hu, List.all_append, hall]; simp [hu2]⟩
    | false =>
      refine sim_run 5 [] (hRE.cast (by kernel_rfl)) (by kernel_rfl) trivial (fun ρ1100 w1100 hm1100 hR1100 => ?_)
      have hag1 := hag1.moved (hm1100.castL (by kernel_rfl))
      have hag := hag.moved (hm1100.castL (by kernel_rfl))
      refine sim_know 9 (decide ((↑i : Int) < (↑n : Int))) true (by kernel_rfl) (decide_eq_true (by omega)) ?_
      refine sim_run 14 [] (hR1100.cast (by kernel_rfl)) (by kernel_rfl) trivial (fun ρ1101 w1101 hm1101 hR1101 => ?_)
      have hag1 := hag1.moved (hm1101.castL (by kernel_rfl))
      have hag := hag.moved (hm1101.castL (by kernel_rfl))
      refine sim_place (.v (.slice (some ⟨ga, oa, none⟩) n cp)) n 4 i 0 0 (by kernel_rfl) (by omega) (by omega) rfl (by simp only [Nm.at_, hag.at_ 0 (by omega), eE, Nat.add_zero, Int.toNat_natCast]) ?_
      refine sim_run 1 [] (hR1101.cast (by kernel_rfl)) (by kernel_rfl) trivial (fun ρ1103 w1103 hm1103 hR1103 => ?_)
      have hag1 := hag1.moved (hm1103.castL (by kernel_rfl))
      have hag := hag.moved (hm1103.castL (by kernel_rfl))
      refine sim_call 58 [.agg [LS u.acc, LS u.asset, LI u.sub, LI u.amt]] (by kernel_rfl) ?_
      refine Calls.mono (look1_any (u) _) ?_
      rw [hu2]
      rintro e1104 w1104 ⟨rfl, hb1104⟩
      have hR1104 := hR1103.below hb1104
      refine Back.of (LB true) hR1104 rfl ?_
      refine sim_run 7 [] (hR1104.cast (by kernel_rfl)) (by kernel_rfl) trivial (fun ρ1105 w1105 hm1105 hR1105 => ?_)
      have hag1 := hag1.moved (hm1105.castL (by kernel_rfl))
      have hag := hag.moved (hm1105.castL (by kernel_rfl))
      refine sim_ret (LI ((↑i : Int))) hR1105 (by kernel_rfl) (by kernel_rfl) ?_
      
      have hf : rightsB ps = false := by
        cases hc : rightsB ps with
        | false => rfl
        | true =>
          have := List.all_eq_true.1 hc u (List.mem_of_getElem? hu)
          rw [hu2] at this
          cases this
      exact ⟨⟨(i : Int), rfl, by rw [hf, decide_eq_true (by omega)]; rfl⟩, (by assumption : Rel _ _ _ _ _).toBelow⟩
  · have hie : i = n := by omega
    subst hie
    refine sim_run 5 [] (hR2.cast (by kernel_rfl)) (by kernel_rfl) trivial (fun ρ1200 w1200 hm1200 hR1200 => ?_)
    have hag := hag.moved (hm1200.castL (by kernel_rfl))
    refine sim_know 9 (decide ((↑i : Int) < (↑i : Int))) false (by kernel_rfl) (decide_eq_false (by omega)) ?_
    refine sim_run 1 [] (hR1200.cast (by kernel_rfl)) (by kernel_rfl) trivial (fun ρ1201 w1201 hm1201 hR1201 => ?_)
    have hag := hag.moved (hm1201.castL (by kernel_rfl))
    refine sim_leave (by kernel_rfl) ?_
    refine sim_run 4 [] (hR1201.cast (by kernel_rfl)) (by kernel_rfl) trivial (fun ρ1202 w1202 hm1202 hR1202 => ?_)
    have hag := hag.moved (hm1202.castL (by kernel_rfl))
    refine sim_ret (LI (-1)) hR1202 (by kernel_rfl) (by kernel_rfl) ?_
    
    have hps : ps.take i = ps := by rw [← hlen]; exact List.take_length
    rw [hps] at hall
    exact ⟨⟨-1, rfl, by rw [show rightsB ps = true from hall]; rfl⟩, (by assumption : Rel _ _ _ _ _).toBelow⟩
set_option maxRecDepth 100000 in
set_option maxHeartbeats 4000000 in
theorem containsW_any (A : Option Addr) (n cp B : Nat) (ps : List OpP) (w : World) (h : Posts w B A n ps) (hB : B ≤ w.heap.size) (hn : n ≤ 100000) : Calls Try.prog 57 #[.slice A n cp, .func (.func 58) #[] #[]] w fun e w' => e = .returned (.bool (!rightsB ps)) ∧ Below w.heap.size w w' := by
  refine sim_enter Try.func57 ρ0 [.v (.slice A n cp), .v (.func (.func 58) #[] #[])] [] (by kernel_rfl) rfl ?_
  have hR := Rel.start [] w ρ0
  refine sim_run 8 [] (hR.cast (by kernel_rfl)) (by kernel_rfl) trivial (fun ρ1300 w1300 hm1300 hR1300 => ?_)
  refine sim_call 77 [.v (Value.slice A n cp), .v (Value.func (Fn.func 58) (Array.mk []) (Array.mk []))] (by kernel_rfl) ?_
  refine Calls.mono (indexW_any (A) (n) (cp) (B) (ps) _ ⟨h.1.belowW (hR1300).toBelow hB, h.2⟩ (Nat.le_trans hB (hR1300).keeps.size) (hn)) ?_
  rintro e1301 w1301 ⟨⟨z, rfl, hz⟩, hb1301⟩
  have hR1301 := hR1300.below hb1301
  refine Back.of (LI z) hR1301 rfl ?_
  refine sim_run 3 [] (hR1301.cast (by kernel_rfl)) (by kernel_rfl) trivial (fun ρ1302 w1302 hm1302 hR1302 => ?_)
  refine sim_ret (LB (decide (z ≥ 0))) hR1302 (by kernel_rfl) (by kernel_rfl) ?_
  exact ⟨retv_bool (by clear hR1302 hm1302 hR1301 hb1301 hR1300 hm1300 hR; grind []), hR1302.toBelow⟩
  
end

section
open Go Go.RowKit

def encI (z : Int) : Value := .int .i64 z
def encU (_ : Unit) : Value := .agg #[]
/-- what a ledger is -/
structure LSt where
  g : Nat
  m : Option Nat
  l : List (Ent Key B3)
  ck : Nat
  mi : Option Nat
  li : List (Ent ByteArray Int)
  ci : Nat
  mb : Option Nat
  lb : List (Ent Key Unit)
  cb : Nat
def LSt.cells (s : LSt) : List Value := [.pointer (some ⟨s.g, 0, none⟩), .map s.mi, .map s.mb]
structure LdV (w : World) (B gl : Nat) (s : LSt) : Prop where
  cell : Blk w gl 56 s.cells.toArray
  pos : PoV w B s.g s.m s.l s.ck
  iss : MpO encS encI ρ0 [] w s.mi s.li s.ci
  blk : MpO encK encU ρ0 [] w s.mb s.lb s.cb
  ge : B ≤ gl
  geI : ∀ q, s.mi = some q → B ≤ q
  geB : ∀ q, s.mb = some q → B ≤ q
  neI : ∀ q, s.mi = some q → s.m ≠ some q
  neB : ∀ q, s.mb = some q → s.m ≠ some q
  neX : ∀ q, s.mb = some q → s.mi ≠ some q
theorem LdV.drew {w : World} {B gl : Nat} {s : LSt} (h : LdV w B gl s) : LdV w.drew B gl s := ⟨h.cell.drew, h.pos.drew, h.iss.drew, h.blk.drew, h.ge, h.geI, h.geB, h.neI, h.neB, h.neX⟩
theorem LdV.below {w w' : World} {B gl : Nat} {s : LSt} (h : LdV w B gl s) (hb : Below w.heap.size w w') : LdV w' B gl s := ⟨h.cell.below hb h.cell.lt, h.pos.below hb, h.iss.below hb, h.blk.below hb, h.ge, h.geI, h.geB, h.neI, h.neB, h.neX⟩
theorem noW1 {ρ : Nm} {cs : List LV} {g : Nat} (h : wrS ρ [⟨cs, false⟩] g) : False := by
  obtain ⟨n, r, hn, hw, _⟩ := h
  cases n with
  | zero =>
    simp only [List.getElem?_cons_zero, Option.some.injEq] at hn
    subst hn
    cases hw
  | succ n => simp at hn
theorem mi_ty2 : Try.prog.underlying 53 = some (.map 9 3) := Try.underlying53
theorem mb_ty : Try.prog.underlying 54 = some (.map 24 95) := Try.underlying54
theorem zero_int (w : World) : (zeroValue 3).run Try.prog w = .ok (encI 0) w := by kernel_rfl
theorem zero_unit (w : World) : (zeroValue 95).run Try.prog w = .ok (encU ()) w := by kernel_rfl
attribute [local irreducible] run goO leaveK someK nextK nextT nextOT nextOD loopBody loopRest loopK fillJ tmplOf tmplJ mergeT At AtO drawOk ordOf gateOf callC callO topOp topO idxOf appOf storeOf clearOf sliceOf calleeOf calleeO topQ idxQ newRowOf resL stepOp seek
theorem LdV.open_ {w : World} {B gl : Nat} {s : LSt} (h : LdV w B gl s) (b : Bool) (T : List Nat) (hT : b = true → gl ∈ T) : ∃ ρ : Nm, ρ 0 = (gl, 0) ∧ Rel T w ρ [⟨s.cells.map .v, b⟩] w := by
  obtain ⟨ρ, _, e0, hR⟩ := (Rel.start T w ρ0).open_ rfl gl 0 (s.cells.map .v) rfl b h.cell.lt (fun j v hv => by
    rw [Nat.zero_add, h.cell.cell j]
    rw [List.getElem?_map] at hv
    obtain ⟨u, hu, rfl⟩ := Option.map_eq_some_iff.1 hv
    have hl : (LV.v u).den ρ0 = u := rfl
    rw [hl]
    simpa using hu) (fun hb => ⟨.inl (hT hb), fun i _ => by rw [Nat.zero_add]; exact h.cell.frozen i⟩) (fun n r hn => by simp at hn)
  exact ⟨ρ, e0, hR⟩
/-- a map beside the cells of a ledger that is in view -/
theorem LdV.overB {w : World} {B gl : Nat} {s : LSt} (h : LdV w B gl s) {ρ : Nm} {r : Reg} (e0 : ρ 0 = (gl, 0)) : MpO encK encU ρ [r] w s.mb s.lb s.cb := ⟨fun q hq => ⟨(h.blk.is q hq).1, fun hw => by
    obtain ⟨n, r', hn, _, he⟩ := hw
    match n, hn with
    | 0, _ =>
      rw [e0] at he
      have h1 := h.cell
      have h2 := (h.blk.is q hq).1.blk
      have he : gl = q := he
      subst he
      unfold Blk at h1
      rw [h1] at h2
      cases h2⟩, h.blk.nil⟩
theorem LdV.overI {w : World} {B gl : Nat} {s : LSt} (h : LdV w B gl s) {ρ : Nm} {r : Reg} (e0 : ρ 0 = (gl, 0)) : MpO encS encI ρ [r] w s.mi s.li s.ci := ⟨fun q hq => ⟨(h.iss.is q hq).1, fun hw => by
    obtain ⟨n, r', hn, _, he⟩ := hw
    match n, hn with
    | 0, _ =>
      rw [e0] at he
      have h1 := h.cell
      have h2 := (h.iss.is q hq).1.blk
      have he : gl = q := he
      subst he
      unfold Blk at h1
      rw [h1] at h2
      cases h2⟩, h.iss.nil⟩
theorem LdV.overP {w : World} {B gl : Nat} {s : LSt} (h : LdV w B gl s) {ρ : Nm} {cs : List LV} : PoO ρ [⟨cs, false⟩] w B s.g s.m s.l s.ck := ⟨h.pos, noW1, fun _ _ => noW1⟩
/-- a block of a ledger -/
def LSt.has (s : LSt) (x : Nat) : Prop := x = s.g ∨ s.m = some x ∨ s.mi = some x ∨ s.mb = some x
/-- a ledger whose cells are in view, at the first place, to be read -/
structure LdO (ρ : Nm) (rs : List Reg) (w : World) (B gl : Nat) (s : LSt) : Prop where
  ld : LdV w B gl s
  at_ : ρ 0 = (gl, 0)
  lt : 0 < rs.length
  far : ∀ x, (x = gl ∨ s.has x) → ¬ wrS ρ rs x
theorem LdV.has_lt {w : World} {B gl : Nat} {s : LSt} (h : LdV w B gl s) {x : Nat} (hx : x = gl ∨ s.has x) : x < w.heap.size := by
  rcases hx with rfl | rfl | hx | hx | hx
  · exact h.cell.lt
  · exact h.pos.cell.lt
  · exact h.pos.ltM hx
  · exact (h.iss.is x hx).1.size
  · exact (h.blk.is x hx).1.size
theorem LdV.same {w w' : World} {B gl : Nat} {s : LSt} (h : LdV w B gl s) (hb : ∀ x, (x = gl ∨ s.has x) → w'.heap[x]? = w.heap[x]?) : LdV w' B gl s :=
  ⟨(hb gl (.inl rfl)).trans h.cell, ⟨(hb _ (.inr (.inl rfl))).trans h.pos.cell, ⟨fun q hq => ⟨(h.pos.mp.is q hq).1.same (hb q (.inr (.inr (.inl hq)))), (h.pos.mp.is q hq).2⟩, h.pos.mp.nil⟩, h.pos.ok, h.pos.nz, h.pos.ge, h.pos.geM⟩,
    ⟨fun q hq => ⟨(h.iss.is q hq).1.same (hb q (.inr (.inr (.inr (.inl hq))))), (h.iss.is q hq).2⟩, h.iss.nil⟩, ⟨fun q hq => ⟨(h.blk.is q hq).1.same (hb q (.inr (.inr (.inr (.inr hq))))), (h.blk.is q hq).2⟩, h.blk.nil⟩, h.ge, h.geI, h.geB, h.neI, h.neB, h.neX⟩
theorem LdO.moved {ρ ρ' : Nm} {rs rs' : List Reg} {w w' : World} {B gl : Nat} {s : LSt} (h : LdO ρ rs w B gl s) (hm : Moved ρ rs w ρ' rs' w') : LdO ρ' rs' w' B gl s := by
  have e : ρ' 0 = ρ 0 := hm.agree 0 h.lt
  have h1 : LdV w' B gl s := h.ld.same fun x hx => hm.kept.block x (h.ld.has_lt hx) (h.far x hx)
  refine ⟨h1, e.trans h.at_, Nat.lt_of_lt_of_le h.lt hm.size, fun x hx hw => ?_⟩
  rcases hm.wrs x hw with h3 | h3
  · exact h.far x hx h3
  · have := h.ld.has_lt hx
    omega
theorem LdO.below {ρ : Nm} {rs : List Reg} {w w' : World} {B gl : Nat} {s : LSt} (h : LdO ρ rs w B gl s) (hb : Below w.heap.size w w') : LdO ρ rs w' B gl s := ⟨h.ld.below hb, h.at_, h.lt, h.far⟩
theorem LdO.drew {ρ : Nm} {rs : List Reg} {w : World} {B gl : Nat} {s : LSt} (h : LdO ρ rs w B gl s) : LdO ρ rs w.drew B gl s := ⟨h.ld.drew, h.at_, h.lt, h.far⟩
theorem LdO.castR {ρ : Nm} {rs rs' : List Reg} {w : World} {B gl : Nat} {s : LSt} (h : LdO ρ rs w B gl s) (e : rs = rs') : LdO ρ rs' w B gl s := e ▸ h
theorem LdV.in_ {w : World} {B gl : Nat} {s : LSt} (h : LdV w B gl s) {ρ : Nm} {cs : List LV} (e0 : ρ 0 = (gl, 0)) : LdO ρ [⟨cs, false⟩] w B gl s := ⟨h, e0, Nat.zero_lt_one, fun _ _ => noW1⟩
set_option maxRecDepth 100000 in
set_option maxHeartbeats 4000000 in
theorem none_any (B gl : Nat) (s : LSt) (w : World) (h : LdV w B gl s) : Calls Try.prog 42 #[.pointer (some ⟨gl, 0, none⟩)] w fun e w' => e = .returned (.bool false) ∧ Below w.heap.size w w' := by
  obtain ⟨ρ, e0, hR⟩ := h.open_ false [] (fun h => by cases h)
  refine sim_enter Try.func42 ρ [.ptr 0 0] [⟨s.cells.map .v, false⟩] (by kernel_rfl) (by simp only [denL, LV.den, Nm.at_, e0]) ?_
  refine sim_run 17 [] (hR.cast (by kernel_rfl)) (by kernel_rfl) trivial (fun ρ100 w100 hm100 hR100 => ?_)
  refine sim_ret (LB false) hR100 (by kernel_rfl) (by kernel_rfl) ?_
  exact ⟨rfl, hR100.toBelow⟩
  
set_option maxRecDepth 100000 in
set_option maxHeartbeats 4000000 in
theorem blocked_any (B gl : Nat) (s : LSt) (k1 k2 : ByteArray) (w : World) (h : LdV w B gl s) : Calls Try.prog 34 #[.pointer (some ⟨gl, 0, none⟩), .agg #[.string k1, .string k2]] w fun e w' => e = .returned (.bool (hasK (k1, k2) s.lb)) ∧ Below w.heap.size w w' := by
  obtain ⟨ρ, e0, hR⟩ := h.open_ false [] (fun h => by cases h)
  have hM := h.overB (r := ⟨s.cells.map .v, false⟩) e0
  have hag := Rel.ag_ hR 1 (by kernel_rfl)
  refine sim_enter Try.func34 ρ [.ptr 0 0, .agg [LS k1, LS k2]] [⟨s.cells.map .v, false⟩] (by kernel_rfl) (by simp only [denL, LV.den, Nm.at_, e0]) ?_
  have hld := h.in_ (cs := s.cells.map .v) e0
  refine sim_run 9 [] (hR.cast (by kernel_rfl)) (by kernel_rfl) trivial (fun ρ200 w200 hm200 hR200 => ?_)
  have hM := hM.moved (hm200.castL (by kernel_rfl))
  have hag := hag.moved (hm200.castL (by kernel_rfl))
  have hld := hld.moved (hm200.castL (by kernel_rfl))
  refine sim_call 42 [.ptr 0 0] (by kernel_rfl) ?_
  have ez0_201 := (hag.at_ 0 (by omega)).trans e0
  simp only [denL, LV.den, Nm.at_, ez0_201, Nat.add_zero]
  refine Calls.mono (none_any _ _ _ _ hld.ld) ?_
  rintro e201 w201 ⟨rfl, hb201⟩
  have hR201 := hR200.below hb201
  have hM := hM.below hb201
  have hld := hld.below hb201
  refine Back.of (LB false) hR201 rfl ?_
  refine sim_run 4 [] (hR201.cast (by kernel_rfl)) (by kernel_rfl) trivial (fun ρ202 w202 hm202 hR202 => ?_)
  have hag := hag.moved (hm202.castL (by kernel_rfl))
  have hM := hM.moved (hm202.castL (by kernel_rfl))
  have hld := hld.moved (hm202.castL (by kernel_rfl))
  refine sim_drawF2 [(0, false), (1, false), (2, false), (3, false), (4, false)] (5, [(6, false), (7, false), (8, false), (9, true), (10, true), (11, false)]) (9, [(5, true), (6, false), (7, false), (8, false), (10, true), (11, false)]) (some 10) (by kernel_rfl) (by kernel_rfl) hR202 (fun hR203 => ?_) (fun hR203 => ?_)
  have hM := hM.drew
  have hld := hld.drew
  refine sim_ordN 5 [] hR203 (by kernel_rfl) trivial (fun ρ204 w204 hm204 hR204 => ?_)
  have hag := hag.moved (hm204.castL (by kernel_rfl))
  have hM := hM.moved (hm204.castL (by kernel_rfl))
  have hld := hld.moved (hm204.castL (by kernel_rfl))
  refine sim_ord_look (enc := encK) (encV := encU) (mx := .v (Value.map s.mb)) (kx := .agg [LS k1, LS k2]) (ok := true) (k1, k2) (.tup [.v (encU ()), LB (hasK (k1, k2) s.lb)]) (by kernel_rfl) mb_ty kt_key zero_unit hM rfl rfl hR204 (by rfl) (fun hR205 => ?_)
  refine sim_ordN 6 [] hR205 (by kernel_rfl) trivial (fun ρ206 w206 hm206 hR206 => ?_)
  have hag := hag.moved (hm206.castL (by kernel_rfl))
  have hM := hM.moved (hm206.castL (by kernel_rfl))
  have hld := hld.moved (hm206.castL (by kernel_rfl))
  refine sim_ord_endR hR206 (by kernel_rfl) (fun hR207 => ?_)
  refine sim_run 5 [] (hR207.cast (by kernel_rfl)) (by kernel_rfl) trivial (fun ρ208 w208 hm208 hR208 => ?_)
  have hag := hag.moved (hm208.castL (by kernel_rfl))
  have hM := hM.moved (hm208.castL (by kernel_rfl))
  have hld := hld.moved (hm208.castL (by kernel_rfl))
  refine sim_ret (LB (hasK (k1, k2) s.lb)) hR208 (by kernel_rfl) (by kernel_rfl) ?_
  exact ⟨rfl, hR208.toBelow⟩
  have hM := hM.drew
  have hld := hld.drew
  refine sim_ordN 6 [] hR203 (by kernel_rfl) trivial (fun ρ209 w209 hm209 hR209 => ?_)
  have hag := hag.moved (hm209.castL (by kernel_rfl))
  have hM := hM.moved (hm209.castL (by kernel_rfl))
  have hld := hld.moved (hm209.castL (by kernel_rfl))
  refine sim_ord_look (enc := encK) (encV := encU) (mx := .v (Value.map s.mb)) (kx := .agg [LS k1, LS k2]) (ok := true) (k1, k2) (.tup [.v (encU ()), LB (hasK (k1, k2) s.lb)]) (by kernel_rfl) mb_ty kt_key zero_unit hM rfl rfl hR209 (by rfl) (fun hR210 => ?_)
  refine sim_ordN 5 [] hR210 (by kernel_rfl) trivial (fun ρ211 w211 hm211 hR211 => ?_)
  have hag := hag.moved (hm211.castL (by kernel_rfl))
  have hM := hM.moved (hm211.castL (by kernel_rfl))
  have hld := hld.moved (hm211.castL (by kernel_rfl))
  refine sim_ord_endR hR211 (by kernel_rfl) (fun hR212 => ?_)
  refine sim_run 5 [] (hR212.cast (by kernel_rfl)) (by kernel_rfl) trivial (fun ρ213 w213 hm213 hR213 => ?_)
  have hag := hag.moved (hm213.castL (by kernel_rfl))
  have hM := hM.moved (hm213.castL (by kernel_rfl))
  have hld := hld.moved (hm213.castL (by kernel_rfl))
  refine sim_ret (LB (hasK (k1, k2) s.lb)) hR213 (by kernel_rfl) (by kernel_rfl) ?_
  exact ⟨rfl, hR213.toBelow⟩
  
end
end Go.Proofs.Ytgbgedaedcofcaa
