/-
  credit.over: whether pledges, merged, lie beyond money's end.
  credit.over: whether pledges, merged, lie beyond money's end.
-/
import Derived.Test.YtioehmngkoffaaaCrN
import Derived.Test.YtioehmngkoffaaaCrO
import Derived.Test.YtioehmngkoffaaaSlPl
import Derived.Test.YtioehmngkoffaaaTree
namespace Go.Proofs.Ytioehmngkoffaaa
section
open Go Go.RowKit
def encI (x : Int) : Value := .int .i64 x
theorem zero_int (w : World) : (zeroValue 3).run Try.prog w = .ok (encI 0) w := by kernel_rfl
theorem zero_accp (w : World) : (zeroValue 83).run Try.prog w = .ok (.pointer none) w := by kernel_rfl
/-- the blocks of some accs -/
def AccS (l : List (Ent ByteArray Value)) (x : Nat) : Prop := ∃ e ∈ l, ∃ o, e.val = .pointer (some ⟨x, o, none⟩)
/-- each acc lies in a block, and is not marked -/
def AccV (B : Nat) (l : List (Ent ByteArray Value)) (w : World) : Prop := ∀ e ∈ l, ∃ g o, e.val = .pointer (some ⟨g, o, none⟩) ∧ B ≤ g ∧ g < w.heap.size ∧ w.cell? ⟨g, o, none⟩ = some (.bool false) ∧ w.frozen? ⟨g, o, none⟩ = false
theorem AccV.same {B : Nat} {l : List (Ent ByteArray Value)} (w1 w2 : World) (S' : Nat → Prop) (h : AccV B l w1) (_ : ∀ x, AccS l x → x < w1.heap.size) (hk : Kept S' w1 w2) (hn : ∀ x, AccS l x → ¬ S' x) : AccV B l w2 := fun e he => by
  obtain ⟨g, o, h1, h2, h3, h4, h5⟩ := h e he
  have hb := hk.block g h3 (hn g ⟨e, he, o, h1⟩)
  exact ⟨g, o, h1, h2, Nat.lt_of_lt_of_le h3 hk.size, (World.cell?_of_block hb).trans h4, (frozen_of_block hb).trans h5⟩
theorem cell_not_map {w : World} {g o : Nat} {v : Value} {es : Array MapEntry} {c : Nat} (h : w.cell? ⟨g, o, none⟩ = some v) (hm : w.heap[g]? = some (.map es c)) : False := by
  unfold World.cell? at h
  rw [hm] at h
  simp at h
theorem orAt_yes {g o : Nat} {w w' : World} (h : orAt ⟨g, o, none⟩ w true w') (hc : ∃ v, w.cell? ⟨g, o, none⟩ = some v) : w'.cell? ⟨g, o, none⟩ = some (.bool true) := by
  rcases h with ⟨h, _⟩ | ⟨_, rfl⟩
  · cases h
  · obtain ⟨v, hv⟩ := hc
    exact World.cell?_setCell_same _ _ _ hv
theorem rel_keptW {T : List Nat} {w0 w w' : World} {ρ : Nm} {rs : List Reg} (hR : Rel T w0 ρ rs w) {S : Nat → Prop} (hk : Kept S w w') (hfar : ∀ x, S x → ¬ wrS ρ rs x) (il : List Nat) (hl : roIdx rs 0 = il) (hidx : ∀ k ∈ il, ¬ S (ρ k).1) (hT : ∀ x, S x → x ∈ T ∨ w0.heap.size ≤ x) : Rel T w0 ρ rs w' :=
  hR.kept hk (fun n r hn hne hs => by
    cases hw : r.wr with
    | true => exact hfar _ hs ⟨n, r, hn, hw, rfl⟩
    | false =>
      have hm := roIdx_mem rs 0 n r hn hw hne
      rw [hl, Nat.zero_add] at hm
      exact hidx n hm hs) hT
theorem AccS.of_look {l : List (Ent ByteArray Value)} {a : ByteArray} {g o : Nat} (h : look a l = some (.pointer (some ⟨g, o, none⟩))) : AccS l g := by
  obtain ⟨e, he, _, hv⟩ := look_mem h
  exact ⟨e, he, o, hv⟩
theorem acc_at {B : Nat} {l : List (Ent ByteArray Value)} {w : World} (h : AccV B l w) {a : ByteArray} {g o : Nat} (hl : look a l = some (.pointer (some ⟨g, o, none⟩))) : B ≤ g ∧ g < w.heap.size ∧ w.cell? ⟨g, o, none⟩ = some (.bool false) ∧ w.frozen? ⟨g, o, none⟩ = false := by
  obtain ⟨e, he, _, hv⟩ := look_mem hl
  obtain ⟨g', o', h1, h2⟩ := h e he
  rw [hv] at h1
  injection h1 with h1
  injection h1 with h1
  injection h1 with h1 h1'
  subst h1 h1'
  exact h2
theorem acc_cell {ρ : Nm} {w : World} {g o : Nat} {b : Bool} (h : w.cell? ⟨g, o, none⟩ = some (.bool b)) : ∀ (j : Nat) (v : LV), [LB b][j]? = some v → w.cell? ⟨g, o + j, none⟩ = some (v.den ρ) := fun j v hv => by
  match j, hv with
  | 0, hv => simp only [List.getElem?_cons_zero, Option.some.injEq] at hv; subst hv; exact h
  | j + 1, hv => simp at hv
theorem orAt_no {p : Addr} {w w' : World} (h : orAt p w false w') : w' = w := by
  rcases h with ⟨_, h⟩ | ⟨h, _⟩
  · exact h.symm
  · cases h
theorem orAt_kept {p : Addr} {w w' : World} {b : Bool} (h : orAt p w b w') : Kept (fun k => k = p.block) w w' := by
  rcases h with ⟨_, rfl⟩ | ⟨_, rfl⟩
  · exact Kept.refl _ _
  · exact Kept.setCell (S := fun k => k = p.block) w rfl _
theorem acc_nomap {B : Nat} {l : List (Ent ByteArray Value)} {w : World} (h : AccV B l w) {g : Nat} {es : Array MapEntry} {c : Nat} (hm : w.heap[g]? = some (.map es c)) {x : Nat} (hx : AccS l x) : x ≠ g := by
  rintro rfl
  obtain ⟨e, he, o, hv⟩ := hx
  obtain ⟨g', o', h1, _, _, h2, _⟩ := h e he
  rw [hv] at h1
  injection h1 with h1
  injection h1 with h1
  injection h1 with h1 h1'
  subst h1 h1'
  exact cell_not_map h2 hm
attribute [local irreducible] run goO leaveK someK nextK nextT nextOT nextOD loopBody loopRest loopK fillJ tmplOf tmplJ mergeT At AtO drawOk ordOf gateOf callC callO topOp topO idxOf appOf storeOf clearOf sliceOf calleeOf calleeO topQ idxQ newRowOf resL stepOp seek
set_option maxRecDepth 100000 in
set_option maxHeartbeats 4000000 in
theorem over_8 {Q : Exit → Act → World → Prop} {R : Ending → World → Prop} [hB : Body Try.prog Q Try.f26 R] {ρ : Nm} {w0 w : World} {u : Pl} {gb gs g o cb cs i n cp : Nat} {A : Option Addr} {lb : List (Ent ByteArray Value)} {ls : List (Ent ByteArray Int)} {s : Int}
    (hR : Rel [] w0 ρ [⟨[LS u.asset, LI u.qty], false⟩, ⟨[LS u.asset, LI u.qty], true⟩] w) (e0 : (ρ 0).1 < w0.heap.size) (hMb : MpO encS id ρ [⟨[LS u.asset, LI u.qty], false⟩, ⟨[LS u.asset, LI u.qty], true⟩] w (some gb) lb cb) (hMs : MpO encS encI ρ [⟨[LS u.asset, LI u.qty], false⟩, ⟨[LS u.asset, LI u.qty], true⟩] w (some gs) ls cs) (_ : w0.heap.size ≤ gb) (hgs : w0.heap.size ≤ gs) (hne : gb ≠ gs)
    (hA : Sta (AccS lb) (AccV w0.heap.size lb) ρ [⟨[LS u.asset, LI u.qty], false⟩, ⟨[LS u.asset, LI u.qty], true⟩] w) (hlk : look u.asset lb = some (.pointer (some ⟨g, o, none⟩))) (hsum : (look u.asset ls).getD 0 = s) (hs : IsI64 s) (hq : IsI64 u.qty) (hi : i < n) (hn : n ≤ 100000) (d : Nat → Value)
    (hret : ∀ w', clampO (sumI [s, u.qty]) = true → Below w0.heap.size w0 w' → R (.returned (.bool true)) w')
    (hfin : ∀ (c' : Cfg) (ρ' : Nm) (w' : World), clampO (sumI [s, u.qty]) = false → c'.k = [] → mergeT (tmplJ Try.f26.ntmps 0 [(3, .v (.map (some gb))), (4, .v (.map (some gs))), (9, .v (.slice A n cp)), (10, LI n), (11, LI ((i : Int) + 1))]) c'.tmps = c'.tmps → (tmplJ Try.f26.ntmps 0 [(3, .v (.map (some gb))), (4, .v (.map (some gs))), (9, .v (.slice A n cp)), (10, LI n), (11, LI ((i : Int) + 1))]).length = c'.tmps.length → Rel [] w0 ρ' c'.rs w' → MpO encS id ρ' c'.rs w' (some gb) lb cb → MpO encS encI ρ' c'.rs w' (some gs) (ins u.asset (clampV (sumI [s, u.qty])) cs ls) (clockAfter u.asset ls cs) → Sta (AccS lb) (AccV w0.heap.size lb) ρ' c'.rs w' → At Try.prog Q c' ρ' w') :
    At Try.prog Q ⟨regK Try.f26 8, fillJ (tmplJ Try.f26.ntmps 0 [(3, .v (.map (some gb))), (4, .v (.map (some gs))), (6, .ptr 1 0), (9, .v (.slice A n cp)), (10, LI n), (11, LI i)]) d 0, [⟨[LS u.asset, LI u.qty], false⟩, ⟨[LS u.asset, LI u.qty], true⟩]⟩ ρ w := by
  have hag := hR.ag_ 1 (by kernel_rfl)
  have hnm : ∀ x, AccS lb x → x ≠ gb ∧ x ≠ gs := fun x hx => ⟨acc_nomap hA.is (hMb.is gb rfl).1.blk hx, acc_nomap hA.is (hMs.is gs rfl).1.blk hx⟩
  refine sim_drawT (Tr.mk [(0, false), (1, false), (2, false), (3, false), (4, false), (5, false), (7, false), (8, false), (9, false), (11, false), (12, false)] (Ks.cons 6 (Tr.mk [(10, true), (13, true), (14, true), (15, true)] Ks.nil) (Ks.cons 10 (Tr.mk [] (Ks.cons 6 (Tr.mk [(13, true), (14, true), (15, true)] Ks.nil) (Ks.cons 13 (Tr.mk [(6, true), (14, true), (15, true)] Ks.nil) Ks.nil))) Ks.nil))) (some 15) (by kernel_rfl) (by kernel_rfl) (hR.cast (by kernel_rfl)) (fun hR100 => ?_)
  have hMb := hMb.drew
  have hMs := hMs.drew
  have hA := hA.drew
  refine sim_ordN 11 [] hR100 (by kernel_rfl) trivial (fun ρ101 w101 hm101 hR101 => ?_)
  have hag := hag.moved (hm101.castL (by kernel_rfl))
  have hMb := hMb.moved (hm101.castL (by kernel_rfl))
  have hMs := hMs.moved (hm101.castL (by kernel_rfl))
  have hA := hA.moved (hm101.castL (by kernel_rfl))
  refine sim_fork2 (by kernel_rfl) (by kernel_rfl) (by kernel_rfl) (by kernel_rfl) hR101 (fun hR102 => ?_) (fun hR102 => ?_)
  refine sim_ord_look (enc := encS) (encV := id) (mx := .v (Value.map (some gb))) (kx := LS u.asset) (ok := false) u.asset (.v (.pointer (some ⟨g, o, none⟩))) (by kernel_rfl) ma_ty kt_str zero_accp hMb rfl rfl hR102 (by rw [hlk]; rfl) (fun hR103 => ?_)
  refine sim_ord_look (enc := encS) (encV := encI) (mx := .v (Value.map (some gs))) (kx := LS u.asset) (ok := false) u.asset (LI s) (by kernel_rfl) ms_ty kt_str zero_int hMs rfl rfl hR103 (by rw [← hsum]; rfl) (fun hR105 => ?_)
  refine sim_ordN 1 [] hR105 (by kernel_rfl) trivial (fun ρ106 w106 hm106 hR106 => ?_)
  have hag := hag.moved (hm106.castL (by kernel_rfl))
  have hMb := hMb.moved (hm106.castL (by kernel_rfl))
  have hMs := hMs.moved (hm106.castL (by kernel_rfl))
  have hA := hA.moved (hm106.castL (by kernel_rfl))
  rotate_left
  refine sim_ord_look (enc := encS) (encV := encI) (mx := .v (Value.map (some gs))) (kx := LS u.asset) (ok := false) u.asset (LI s) (by kernel_rfl) ms_ty kt_str zero_int hMs rfl rfl hR102 (by rw [← hsum]; rfl) (fun hR108 => ?_)
  refine sim_fork2 (by kernel_rfl) (by kernel_rfl) (by kernel_rfl) (by kernel_rfl) hR108 (fun hR109 => ?_) (fun hR109 => ?_)
  refine sim_ord_look (enc := encS) (encV := id) (mx := .v (Value.map (some gb))) (kx := LS u.asset) (ok := false) u.asset (.v (.pointer (some ⟨g, o, none⟩))) (by kernel_rfl) ma_ty kt_str zero_accp hMb rfl rfl hR109 (by rw [hlk]; rfl) (fun hR110 => ?_)
  refine sim_ordN 1 [] hR110 (by kernel_rfl) trivial (fun ρ111 w111 hm111 hR111 => ?_)
  have hag := hag.moved (hm111.castL (by kernel_rfl))
  have hMb := hMb.moved (hm111.castL (by kernel_rfl))
  have hMs := hMs.moved (hm111.castL (by kernel_rfl))
  have hA := hA.moved (hm111.castL (by kernel_rfl))
  rotate_left
  refine sim_ordN 1 [] hR109 (by kernel_rfl) trivial (fun ρ112 w112 hm112 hR112 => ?_)
  have hag := hag.moved (hm112.castL (by kernel_rfl))
  have hMb := hMb.moved (hm112.castL (by kernel_rfl))
  have hMs := hMs.moved (hm112.castL (by kernel_rfl))
  have hA := hA.moved (hm112.castL (by kernel_rfl))
  refine sim_ord_look (enc := encS) (encV := id) (mx := .v (Value.map (some gb))) (kx := LS u.asset) (ok := false) u.asset (.v (.pointer (some ⟨g, o, none⟩))) (by kernel_rfl) ma_ty kt_str zero_accp hMb rfl rfl hR112 (by rw [hlk]; rfl) (fun hR113 => ?_)
  rotate_left
  
  · refine sim_ord_call (T := []) (w0 := w0) 25 [.v (.pointer (some ⟨g, o, none⟩)), .slc 2 0 2 2] (by kernel_rfl) ?_
    obtain ⟨hge, hgl, hcell, hfro⟩ := acc_at hA.is hlk
    refine (accAdd_any g o false _ 2 2 [s, u.qty] _ hcell hfro _ (hR106.rel.readsP (n := 2) (size := 1) (m := 2) (vs := [.int .i64 s, .int .i64 u.qty]) (b := true) (by kernel_rfl) rfl) (by intro x hx; simp only [List.mem_cons, List.not_mem_nil, or_false] at hx; rcases hx with rfl | rfl <;> assumption) (by omega)).mono ?_
    rintro e2 w2 ⟨rfl, ho⟩
    cases hfl : clampO (sumI [s, u.qty]) with
    | false =>
      rw [hfl] at ho
      obtain rfl := orAt_no ho
      have hR2 := hR106.with hR106.rel (LI (clampV (sumI [s, u.qty])))
      refine BackO.of (LI (clampV (sumI [s, u.qty]))) hR2 rfl ?_
      refine sim_ord_upd (enc := encS) (encV := encI) (mx := .v (Value.map (some gs))) (kx := LS u.asset) (vx := LI (clampV (sumI [s, u.qty]))) u.asset (clampV (sumI [s, u.qty])) (by kernel_rfl) ms_ty kt_str hMs rfl rfl rfl (.inr hgs) hR2 (fun w200 ht200 hM2 hR200 => ?_)
      have hMs := hM2
      clear hM2
      have hMb := hMb.turnNe ht200 (fun e => hne (by injection e))
      have hA := hA.turnM ht200 (fun h => (hnm _ h).2 rfl)
      refine sim_fork0 (by kernel_rfl) (by kernel_rfl) hR200 (fun hR201 => ?_)
      refine sim_run 2 [] (hR201.cast (by kernel_rfl)) (by kernel_rfl) trivial (fun ρ202 w202 hm202 hR202 => ?_)
      have hag := hag.moved (hm202.castL (by kernel_rfl))
      have hMs := hMs.moved (hm202.castL (by kernel_rfl))
      have hMb := hMb.moved (hm202.castL (by kernel_rfl))
      have hA := hA.moved (hm202.castL (by kernel_rfl))
      
      obtain ⟨_, hgl2, hcell2, _⟩ := acc_at hA.is hlk
      refine sim_open 3 (by kernel_rfl) (by assumption : Rel _ _ _ _ _) g o [LB false] (by kernel_rfl) hgl2 (acc_cell hcell2) (fun m r hm hw he => hA.far g (AccS.of_look hlk) ⟨m, r, hm, hw, he⟩) (fun ρE haE eE hRE => ?_)
      have hMb := hMb.moved (Moved.ext_ro (cells := [LB false]) haE (by kernel_rfl))
      have hMs := hMs.moved (Moved.ext_ro (cells := [LB false]) haE (by kernel_rfl))
      have hA := hA.moved (Moved.ext_ro (cells := [LB false]) haE (by kernel_rfl))
      have hagE := hRE.ag_ 4 (by kernel_rfl)
      refine sim_run 3 [] (hRE.cast (by kernel_rfl)) (by kernel_rfl) trivial (fun ρ300 w300 hm300 hR300 => ?_)
      have hMb := hMb.moved (hm300.castL (by kernel_rfl))
      have hMs := hMs.moved (hm300.castL (by kernel_rfl))
      have hA := hA.moved (hm300.castL (by kernel_rfl))
      have hagE := hagE.moved (hm300.castL (by kernel_rfl))
      refine sim_look (enc := encS) (encV := id) (mx := .v (Value.map (some gb))) (kx := LS u.asset) (ok := false) u.asset (.ptr 3 0) (by kernel_rfl) ma_ty kt_str zero_accp hMb rfl rfl (by rw [hlk]; simp only [LV.den, Nm.at_, hagE.at_ 3 (by omega), eE]; rfl) ?_
      refine sim_run 11 [⟨11, 0, LI (IntKind.i64.wrap ((↑i : Int) + 1)), LI ((↑i : Int) + 1)⟩] (hR300.cast (by kernel_rfl)) (by kernel_rfl) ⟨eqi (IntWalk.i64_in _ (by omega)), trivial⟩ (fun ρ302 w302 hm302 hR302 => ?_)
      have hMb := hMb.moved (hm302.castL (by kernel_rfl))
      have hMs := hMs.moved (hm302.castL (by kernel_rfl))
      have hA := hA.moved (hm302.castL (by kernel_rfl))
      have hagE := hagE.moved (hm302.castL (by kernel_rfl))
      
      exact hfin _ _ _ hfl (by kernel_rfl) (by kernel_rfl) (by kernel_rfl) ((by assumption : Rel _ _ _ _ _)) (hMb) (hMs) (hA)
    | true =>
      rw [hfl] at ho
      have hk2 := orAt_kept ho
      have hcell2 := orAt_yes ho ⟨_, hcell⟩
      have hR2 := hR106.with (rel_keptW hR106.rel hk2 (fun x hx hw => hA.far x (by rw [hx]; exact AccS.of_look hlk) hw) [0] (by kernel_rfl) (fun k0 hk0 he => by
        simp only [List.mem_singleton] at hk0
        subst hk0
        rw [hag.at_ 0 (by omega)] at he
        have he : (ρ 0).1 = g := he
        omega) (fun x hx => .inr (by rw [hx]; exact hge))) (LI (clampV (sumI [s, u.qty])))
      have hMb := hMb.keptS hk2 (fun g' hg' he => (hnm g (AccS.of_look hlk)).1 (by injection hg' with hg'; exact he.symm.trans hg'.symm))
      have hMs := hMs.keptS hk2 (fun g' hg' he => (hnm g (AccS.of_look hlk)).2 (by injection hg' with hg'; exact he.symm.trans hg'.symm))
      have hgl2 := Nat.lt_of_lt_of_le hgl hk2.size
      have hgS : Sta (fun x => x = g) (fun w1 => g < w1.heap.size ∧ w1.cell? ⟨g, o, none⟩ = some (.bool true)) _ _ w2 := ⟨⟨hgl2, hcell2⟩, fun x hx hw => hA.far x (by rw [hx]; exact AccS.of_look hlk) hw, fun x hx => by rw [hx]; exact hgl2, fun w1 w3 S' h hlt hk hn => ⟨Nat.lt_of_lt_of_le h.1 hk.size, (World.cell?_of_block (hk.block g h.1 (hn g rfl))).trans h.2⟩⟩
      clear hA
      refine BackO.of (LI (clampV (sumI [s, u.qty]))) hR2 rfl ?_
      refine sim_ord_upd (enc := encS) (encV := encI) (mx := .v (Value.map (some gs))) (kx := LS u.asset) (vx := LI (clampV (sumI [s, u.qty]))) u.asset (clampV (sumI [s, u.qty])) (by kernel_rfl) ms_ty kt_str hMs rfl rfl rfl (.inr hgs) hR2 (fun w400 ht400 hM2 hR400 => ?_)
      have hMs := hM2
      clear hM2
      have hMb := hMb.turnNe ht400 (fun e => hne (by injection e))
      have hgS := hgS.turnM ht400 (fun h => (hnm g (AccS.of_look hlk)).2 h.symm)
      refine sim_fork0 (by kernel_rfl) (by kernel_rfl) hR400 (fun hR401 => ?_)
      refine sim_run 2 [] (hR401.cast (by kernel_rfl)) (by kernel_rfl) trivial (fun ρ402 w402 hm402 hR402 => ?_)
      have hag := hag.moved (hm402.castL (by kernel_rfl))
      have hMs := hMs.moved (hm402.castL (by kernel_rfl))
      have hMb := hMb.moved (hm402.castL (by kernel_rfl))
      have hgS := hgS.moved (hm402.castL (by kernel_rfl))
      
      refine sim_open 3 (by kernel_rfl) (by assumption : Rel _ _ _ _ _) g o [LB true] (by kernel_rfl) hgS.is.1 (acc_cell hgS.is.2) (fun m r hm hw he => hgS.far g rfl ⟨m, r, hm, hw, he⟩) (fun ρE haE eE hRE => ?_)
      have hMb := hMb.moved (Moved.ext_ro (cells := [LB true]) haE (by kernel_rfl))
      have hagE := hRE.ag_ 4 (by kernel_rfl)
      refine sim_run 3 [] (hRE.cast (by kernel_rfl)) (by kernel_rfl) trivial (fun ρ500 w500 hm500 hR500 => ?_)
      have hMb := hMb.moved (hm500.castL (by kernel_rfl))
      have hagE := hagE.moved (hm500.castL (by kernel_rfl))
      refine sim_look (enc := encS) (encV := id) (mx := .v (Value.map (some gb))) (kx := LS u.asset) (ok := false) u.asset (.ptr 3 0) (by kernel_rfl) ma_ty kt_str zero_accp hMb rfl rfl (by rw [hlk]; simp only [LV.den, Nm.at_, hagE.at_ 3 (by omega), eE]; rfl) ?_
      refine sim_run 9 [] (hR500.cast (by kernel_rfl)) (by kernel_rfl) trivial (fun ρ502 w502 hm502 hR502 => ?_)
      have hMb := hMb.moved (hm502.castL (by kernel_rfl))
      have hagE := hagE.moved (hm502.castL (by kernel_rfl))
      
      exact sim_ret (LB true) ((by assumption : Rel _ _ _ _ _)) (by kernel_rfl) (by kernel_rfl) (hret _ hfl ((by assumption : Rel _ _ _ _ _)).toBelow)
  · refine sim_ord_call (T := []) (w0 := w0) 25 [.v (.pointer (some ⟨g, o, none⟩)), .slc 2 0 2 2] (by kernel_rfl) ?_
    obtain ⟨hge, hgl, hcell, hfro⟩ := acc_at hA.is hlk
    refine (accAdd_any g o false _ 2 2 [s, u.qty] _ hcell hfro _ (hR111.rel.readsP (n := 2) (size := 1) (m := 2) (vs := [.int .i64 s, .int .i64 u.qty]) (b := true) (by kernel_rfl) rfl) (by intro x hx; simp only [List.mem_cons, List.not_mem_nil, or_false] at hx; rcases hx with rfl | rfl <;> assumption) (by omega)).mono ?_
    rintro e2 w2 ⟨rfl, ho⟩
    cases hfl : clampO (sumI [s, u.qty]) with
    | false =>
      rw [hfl] at ho
      obtain rfl := orAt_no ho
      have hR2 := hR111.with hR111.rel (LI (clampV (sumI [s, u.qty])))
      refine BackO.of (LI (clampV (sumI [s, u.qty]))) hR2 rfl ?_
      refine sim_ord_upd (enc := encS) (encV := encI) (mx := .v (Value.map (some gs))) (kx := LS u.asset) (vx := LI (clampV (sumI [s, u.qty]))) u.asset (clampV (sumI [s, u.qty])) (by kernel_rfl) ms_ty kt_str hMs rfl rfl rfl (.inr hgs) hR2 (fun w1200 ht1200 hM2 hR1200 => ?_)
      have hMs := hM2
      clear hM2
      have hMb := hMb.turnNe ht1200 (fun e => hne (by injection e))
      have hA := hA.turnM ht1200 (fun h => (hnm _ h).2 rfl)
      refine sim_fork0 (by kernel_rfl) (by kernel_rfl) hR1200 (fun hR1201 => ?_)
      refine sim_run 2 [] (hR1201.cast (by kernel_rfl)) (by kernel_rfl) trivial (fun ρ1202 w1202 hm1202 hR1202 => ?_)
      have hag := hag.moved (hm1202.castL (by kernel_rfl))
      have hMs := hMs.moved (hm1202.castL (by kernel_rfl))
      have hMb := hMb.moved (hm1202.castL (by kernel_rfl))
      have hA := hA.moved (hm1202.castL (by kernel_rfl))
      
      obtain ⟨_, hgl2, hcell2, _⟩ := acc_at hA.is hlk
      refine sim_open 3 (by kernel_rfl) (by assumption : Rel _ _ _ _ _) g o [LB false] (by kernel_rfl) hgl2 (acc_cell hcell2) (fun m r hm hw he => hA.far g (AccS.of_look hlk) ⟨m, r, hm, hw, he⟩) (fun ρE haE eE hRE => ?_)
      have hMb := hMb.moved (Moved.ext_ro (cells := [LB false]) haE (by kernel_rfl))
      have hMs := hMs.moved (Moved.ext_ro (cells := [LB false]) haE (by kernel_rfl))
      have hA := hA.moved (Moved.ext_ro (cells := [LB false]) haE (by kernel_rfl))
      have hagE := hRE.ag_ 4 (by kernel_rfl)
      refine sim_run 3 [] (hRE.cast (by kernel_rfl)) (by kernel_rfl) trivial (fun ρ1300 w1300 hm1300 hR1300 => ?_)
      have hMb := hMb.moved (hm1300.castL (by kernel_rfl))
      have hMs := hMs.moved (hm1300.castL (by kernel_rfl))
      have hA := hA.moved (hm1300.castL (by kernel_rfl))
      have hagE := hagE.moved (hm1300.castL (by kernel_rfl))
      refine sim_look (enc := encS) (encV := id) (mx := .v (Value.map (some gb))) (kx := LS u.asset) (ok := false) u.asset (.ptr 3 0) (by kernel_rfl) ma_ty kt_str zero_accp hMb rfl rfl (by rw [hlk]; simp only [LV.den, Nm.at_, hagE.at_ 3 (by omega), eE]; rfl) ?_
      refine sim_run 11 [⟨11, 0, LI (IntKind.i64.wrap ((↑i : Int) + 1)), LI ((↑i : Int) + 1)⟩] (hR1300.cast (by kernel_rfl)) (by kernel_rfl) ⟨eqi (IntWalk.i64_in _ (by omega)), trivial⟩ (fun ρ1302 w1302 hm1302 hR1302 => ?_)
      have hMb := hMb.moved (hm1302.castL (by kernel_rfl))
      have hMs := hMs.moved (hm1302.castL (by kernel_rfl))
      have hA := hA.moved (hm1302.castL (by kernel_rfl))
      have hagE := hagE.moved (hm1302.castL (by kernel_rfl))
      
      exact hfin _ _ _ hfl (by kernel_rfl) (by kernel_rfl) (by kernel_rfl) ((by assumption : Rel _ _ _ _ _)) (hMb) (hMs) (hA)
    | true =>
      rw [hfl] at ho
      have hk2 := orAt_kept ho
      have hcell2 := orAt_yes ho ⟨_, hcell⟩
      have hR2 := hR111.with (rel_keptW hR111.rel hk2 (fun x hx hw => hA.far x (by rw [hx]; exact AccS.of_look hlk) hw) [0] (by kernel_rfl) (fun k0 hk0 he => by
        simp only [List.mem_singleton] at hk0
        subst hk0
        rw [hag.at_ 0 (by omega)] at he
        have he : (ρ 0).1 = g := he
        omega) (fun x hx => .inr (by rw [hx]; exact hge))) (LI (clampV (sumI [s, u.qty])))
      have hMb := hMb.keptS hk2 (fun g' hg' he => (hnm g (AccS.of_look hlk)).1 (by injection hg' with hg'; exact he.symm.trans hg'.symm))
      have hMs := hMs.keptS hk2 (fun g' hg' he => (hnm g (AccS.of_look hlk)).2 (by injection hg' with hg'; exact he.symm.trans hg'.symm))
      have hgl2 := Nat.lt_of_lt_of_le hgl hk2.size
      have hgS : Sta (fun x => x = g) (fun w1 => g < w1.heap.size ∧ w1.cell? ⟨g, o, none⟩ = some (.bool true)) _ _ w2 := ⟨⟨hgl2, hcell2⟩, fun x hx hw => hA.far x (by rw [hx]; exact AccS.of_look hlk) hw, fun x hx => by rw [hx]; exact hgl2, fun w1 w3 S' h hlt hk hn => ⟨Nat.lt_of_lt_of_le h.1 hk.size, (World.cell?_of_block (hk.block g h.1 (hn g rfl))).trans h.2⟩⟩
      clear hA
      refine BackO.of (LI (clampV (sumI [s, u.qty]))) hR2 rfl ?_
      refine sim_ord_upd (enc := encS) (encV := encI) (mx := .v (Value.map (some gs))) (kx := LS u.asset) (vx := LI (clampV (sumI [s, u.qty]))) u.asset (clampV (sumI [s, u.qty])) (by kernel_rfl) ms_ty kt_str hMs rfl rfl rfl (.inr hgs) hR2 (fun w1400 ht1400 hM2 hR1400 => ?_)
      have hMs := hM2
      clear hM2
      have hMb := hMb.turnNe ht1400 (fun e => hne (by injection e))
      have hgS := hgS.turnM ht1400 (fun h => (hnm g (AccS.of_look hlk)).2 h.symm)
      refine sim_fork0 (by kernel_rfl) (by kernel_rfl) hR1400 (fun hR1401 => ?_)
      refine sim_run 2 [] (hR1401.cast (by kernel_rfl)) (by kernel_rfl) trivial (fun ρ1402 w1402 hm1402 hR1402 => ?_)
      have hag := hag.moved (hm1402.castL (by kernel_rfl))
      have hMs := hMs.moved (hm1402.castL (by kernel_rfl))
      have hMb := hMb.moved (hm1402.castL (by kernel_rfl))
      have hgS := hgS.moved (hm1402.castL (by kernel_rfl))
      
      refine sim_open 3 (by kernel_rfl) (by assumption : Rel _ _ _ _ _) g o [LB true] (by kernel_rfl) hgS.is.1 (acc_cell hgS.is.2) (fun m r hm hw he => hgS.far g rfl ⟨m, r, hm, hw, he⟩) (fun ρE haE eE hRE => ?_)
      have hMb := hMb.moved (Moved.ext_ro (cells := [LB true]) haE (by kernel_rfl))
      have hagE := hRE.ag_ 4 (by kernel_rfl)
      refine sim_run 3 [] (hRE.cast (by kernel_rfl)) (by kernel_rfl) trivial (fun ρ1500 w1500 hm1500 hR1500 => ?_)
      have hMb := hMb.moved (hm1500.castL (by kernel_rfl))
      have hagE := hagE.moved (hm1500.castL (by kernel_rfl))
      refine sim_look (enc := encS) (encV := id) (mx := .v (Value.map (some gb))) (kx := LS u.asset) (ok := false) u.asset (.ptr 3 0) (by kernel_rfl) ma_ty kt_str zero_accp hMb rfl rfl (by rw [hlk]; simp only [LV.den, Nm.at_, hagE.at_ 3 (by omega), eE]; rfl) ?_
      refine sim_run 9 [] (hR1500.cast (by kernel_rfl)) (by kernel_rfl) trivial (fun ρ1502 w1502 hm1502 hR1502 => ?_)
      have hMb := hMb.moved (hm1502.castL (by kernel_rfl))
      have hagE := hagE.moved (hm1502.castL (by kernel_rfl))
      
      exact sim_ret (LB true) ((by assumption : Rel _ _ _ _ _)) (by kernel_rfl) (by kernel_rfl) (hret _ hfl ((by assumption : Rel _ _ _ _ _)).toBelow)
  · refine sim_ord_call (T := []) (w0 := w0) 25 [.v (.pointer (some ⟨g, o, none⟩)), .slc 2 0 2 2] (by kernel_rfl) ?_
    obtain ⟨hge, hgl, hcell, hfro⟩ := acc_at hA.is hlk
    refine (accAdd_any g o false _ 2 2 [s, u.qty] _ hcell hfro _ (hR113.rel.readsP (n := 2) (size := 1) (m := 2) (vs := [.int .i64 s, .int .i64 u.qty]) (b := true) (by kernel_rfl) rfl) (by intro x hx; simp only [List.mem_cons, List.not_mem_nil, or_false] at hx; rcases hx with rfl | rfl <;> assumption) (by omega)).mono ?_
    rintro e2 w2 ⟨rfl, ho⟩
    cases hfl : clampO (sumI [s, u.qty]) with
    | false =>
      rw [hfl] at ho
      obtain rfl := orAt_no ho
      have hR2 := hR113.with hR113.rel (LI (clampV (sumI [s, u.qty])))
      refine BackO.of (LI (clampV (sumI [s, u.qty]))) hR2 rfl ?_
      refine sim_ord_upd (enc := encS) (encV := encI) (mx := .v (Value.map (some gs))) (kx := LS u.asset) (vx := LI (clampV (sumI [s, u.qty]))) u.asset (clampV (sumI [s, u.qty])) (by kernel_rfl) ms_ty kt_str hMs rfl rfl rfl (.inr hgs) hR2 (fun w2200 ht2200 hM2 hR2200 => ?_)
      have hMs := hM2
      clear hM2
      have hMb := hMb.turnNe ht2200 (fun e => hne (by injection e))
      have hA := hA.turnM ht2200 (fun h => (hnm _ h).2 rfl)
      refine sim_fork0 (by kernel_rfl) (by kernel_rfl) hR2200 (fun hR2201 => ?_)
      refine sim_run 2 [] (hR2201.cast (by kernel_rfl)) (by kernel_rfl) trivial (fun ρ2202 w2202 hm2202 hR2202 => ?_)
      have hag := hag.moved (hm2202.castL (by kernel_rfl))
      have hMs := hMs.moved (hm2202.castL (by kernel_rfl))
      have hMb := hMb.moved (hm2202.castL (by kernel_rfl))
      have hA := hA.moved (hm2202.castL (by kernel_rfl))
      
      obtain ⟨_, hgl2, hcell2, _⟩ := acc_at hA.is hlk
      refine sim_open 3 (by kernel_rfl) (by assumption : Rel _ _ _ _ _) g o [LB false] (by kernel_rfl) hgl2 (acc_cell hcell2) (fun m r hm hw he => hA.far g (AccS.of_look hlk) ⟨m, r, hm, hw, he⟩) (fun ρE haE eE hRE => ?_)
      have hMb := hMb.moved (Moved.ext_ro (cells := [LB false]) haE (by kernel_rfl))
      have hMs := hMs.moved (Moved.ext_ro (cells := [LB false]) haE (by kernel_rfl))
      have hA := hA.moved (Moved.ext_ro (cells := [LB false]) haE (by kernel_rfl))
      have hagE := hRE.ag_ 4 (by kernel_rfl)
      refine sim_run 3 [] (hRE.cast (by kernel_rfl)) (by kernel_rfl) trivial (fun ρ2300 w2300 hm2300 hR2300 => ?_)
      have hMb := hMb.moved (hm2300.castL (by kernel_rfl))
      have hMs := hMs.moved (hm2300.castL (by kernel_rfl))
      have hA := hA.moved (hm2300.castL (by kernel_rfl))
      have hagE := hagE.moved (hm2300.castL (by kernel_rfl))
      refine sim_look (enc := encS) (encV := id) (mx := .v (Value.map (some gb))) (kx := LS u.asset) (ok := false) u.asset (.ptr 3 0) (by kernel_rfl) ma_ty kt_str zero_accp hMb rfl rfl (by rw [hlk]; simp only [LV.den, Nm.at_, hagE.at_ 3 (by omega), eE]; rfl) ?_
      refine sim_run 11 [⟨11, 0, LI (IntKind.i64.wrap ((↑i : Int) + 1)), LI ((↑i : Int) + 1)⟩] (hR2300.cast (by kernel_rfl)) (by kernel_rfl) ⟨eqi (IntWalk.i64_in _ (by omega)), trivial⟩ (fun ρ2302 w2302 hm2302 hR2302 => ?_)
      have hMb := hMb.moved (hm2302.castL (by kernel_rfl))
      have hMs := hMs.moved (hm2302.castL (by kernel_rfl))
      have hA := hA.moved (hm2302.castL (by kernel_rfl))
      have hagE := hagE.moved (hm2302.castL (by kernel_rfl))
      
      exact hfin _ _ _ hfl (by kernel_rfl) (by kernel_rfl) (by kernel_rfl) ((by assumption : Rel _ _ _ _ _)) (hMb) (hMs) (hA)
    | true =>
      rw [hfl] at ho
      have hk2 := orAt_kept ho
      have hcell2 := orAt_yes ho ⟨_, hcell⟩
      have hR2 := hR113.with (rel_keptW hR113.rel hk2 (fun x hx hw => hA.far x (by rw [hx]; exact AccS.of_look hlk) hw) [0] (by kernel_rfl) (fun k0 hk0 he => by
        simp only [List.mem_singleton] at hk0
        subst hk0
        rw [hag.at_ 0 (by omega)] at he
        have he : (ρ 0).1 = g := he
        omega) (fun x hx => .inr (by rw [hx]; exact hge))) (LI (clampV (sumI [s, u.qty])))
      have hMb := hMb.keptS hk2 (fun g' hg' he => (hnm g (AccS.of_look hlk)).1 (by injection hg' with hg'; exact he.symm.trans hg'.symm))
      have hMs := hMs.keptS hk2 (fun g' hg' he => (hnm g (AccS.of_look hlk)).2 (by injection hg' with hg'; exact he.symm.trans hg'.symm))
      have hgl2 := Nat.lt_of_lt_of_le hgl hk2.size
      have hgS : Sta (fun x => x = g) (fun w1 => g < w1.heap.size ∧ w1.cell? ⟨g, o, none⟩ = some (.bool true)) _ _ w2 := ⟨⟨hgl2, hcell2⟩, fun x hx hw => hA.far x (by rw [hx]; exact AccS.of_look hlk) hw, fun x hx => by rw [hx]; exact hgl2, fun w1 w3 S' h hlt hk hn => ⟨Nat.lt_of_lt_of_le h.1 hk.size, (World.cell?_of_block (hk.block g h.1 (hn g rfl))).trans h.2⟩⟩
      clear hA
      refine BackO.of (LI (clampV (sumI [s, u.qty]))) hR2 rfl ?_
      refine sim_ord_upd (enc := encS) (encV := encI) (mx := .v (Value.map (some gs))) (kx := LS u.asset) (vx := LI (clampV (sumI [s, u.qty]))) u.asset (clampV (sumI [s, u.qty])) (by kernel_rfl) ms_ty kt_str hMs rfl rfl rfl (.inr hgs) hR2 (fun w2400 ht2400 hM2 hR2400 => ?_)
      have hMs := hM2
      clear hM2
      have hMb := hMb.turnNe ht2400 (fun e => hne (by injection e))
      have hgS := hgS.turnM ht2400 (fun h => (hnm g (AccS.of_look hlk)).2 h.symm)
      refine sim_fork0 (by kernel_rfl) (by kernel_rfl) hR2400 (fun hR2401 => ?_)
      refine sim_run 2 [] (hR2401.cast (by kernel_rfl)) (by kernel_rfl) trivial (fun ρ2402 w2402 hm2402 hR2402 => ?_)
      have hag := hag.moved (hm2402.castL (by kernel_rfl))
      have hMs := hMs.moved (hm2402.castL (by kernel_rfl))
      have hMb := hMb.moved (hm2402.castL (by kernel_rfl))
      have hgS := hgS.moved (hm2402.castL (by kernel_rfl))
      
      refine sim_open 3 (by kernel_rfl) (by assumption : Rel _ _ _ _ _) g o [LB true] (by kernel_rfl) hgS.is.1 (acc_cell hgS.is.2) (fun m r hm hw he => hgS.far g rfl ⟨m, r, hm, hw, he⟩) (fun ρE haE eE hRE => ?_)
      have hMb := hMb.moved (Moved.ext_ro (cells := [LB true]) haE (by kernel_rfl))
      have hagE := hRE.ag_ 4 (by kernel_rfl)
      refine sim_run 3 [] (hRE.cast (by kernel_rfl)) (by kernel_rfl) trivial (fun ρ2500 w2500 hm2500 hR2500 => ?_)
      have hMb := hMb.moved (hm2500.castL (by kernel_rfl))
      have hagE := hagE.moved (hm2500.castL (by kernel_rfl))
      refine sim_look (enc := encS) (encV := id) (mx := .v (Value.map (some gb))) (kx := LS u.asset) (ok := false) u.asset (.ptr 3 0) (by kernel_rfl) ma_ty kt_str zero_accp hMb rfl rfl (by rw [hlk]; simp only [LV.den, Nm.at_, hagE.at_ 3 (by omega), eE]; rfl) ?_
      refine sim_run 9 [] (hR2500.cast (by kernel_rfl)) (by kernel_rfl) trivial (fun ρ2502 w2502 hm2502 hR2502 => ?_)
      have hMb := hMb.moved (hm2502.castL (by kernel_rfl))
      have hagE := hagE.moved (hm2502.castL (by kernel_rfl))
      
      exact sim_ret (LB true) ((by assumption : Rel _ _ _ _ _)) (by kernel_rfl) (by kernel_rfl) (hret _ hfl ((by assumption : Rel _ _ _ _ _)).toBelow)
end

section
open Go Go.RowKit
theorem clampV_no {v : Int} (h : clampO v = false) : clampV v = v ∧ -1152921504606846976 ≤ v ∧ v ≤ 1152921504606846976 := by
  unfold clampO at h
  simp only [Bool.or_eq_false_iff, decide_eq_false_iff_not] at h
  unfold clampV
  rw [if_neg h.1, if_neg h.2]
  exact ⟨rfl, by omega, by omega⟩
theorem i64_no {v : Int} (h : clampO v = false) : IsI64 v := by
  have := clampV_no h
  unfold IsI64
  omega
theorem acc_val {B : Nat} {l : List (Ent ByteArray Value)} {w : World} (h : AccV B l w) {a : ByteArray} {v : Value} (hl : look a l = some v) : ∃ g o, v = .pointer (some ⟨g, o, none⟩) := by
  obtain ⟨e, he, _, hv⟩ := look_mem hl
  obtain ⟨g, o, h1, _⟩ := h e he
  exact ⟨g, o, hv ▸ h1⟩
theorem qtyL_next {ps : List Pl} {i : Nat} {u : Pl} (hu : ps[i]? = some u) {a : ByteArray} : sumI (qtyL a (ps.take (i + 1))) = if a = u.asset then sumI [sumI (qtyL a (ps.take i)), u.qty] else sumI (qtyL a (ps.take i)) := by
  split
  · rename_i h
    subst h
    rw [qtyL_eq hu, sumI_append]
    show _ + (u.qty + 0) = _ + (u.qty + 0)
    rfl
  · rename_i h
    rw [qtyL_ne hu h]
attribute [local irreducible] run goO leaveK someK nextK nextT nextOT nextOD loopBody loopRest loopK fillJ tmplOf tmplJ mergeT At AtO drawOk ordOf gateOf callC callO topOp topO idxOf appOf storeOf clearOf sliceOf calleeOf calleeO topQ idxQ newRowOf resL stepOp seek
set_option maxRecDepth 100000 in
set_option maxHeartbeats 4000000 in
theorem over_any (A : Option Addr) (n cp B : Nat) (ps : List Pl) (w : World) (hrd : Reads w B 2 A n (plV ps)) (hlen : ps.length = n) (hB : B ≤ w.heap.size) (hn : n ≤ 100000) (hok : ∀ p ∈ ps, IsI64 p.qty) :
    Calls Try.prog 26 #[.slice A n cp] w fun e w' => ∃ b : Bool, e = .returned (.bool b) ∧ (b = true → ∃ a i, clampO (sumI (qtyL a (ps.take i))) = true) ∧ (b = false → ∀ a, clampO (sumI (qtyL a ps)) = false) ∧ Below w.heap.size w w' := by
  refine sim_enter Try.func26 ρ0 [.v (.slice A n cp)] [] (by kernel_rfl) rfl ?_
  have hR := Rel.start [] w ρ0
  refine sim_run 6 [] (hR.cast (by kernel_rfl)) (by kernel_rfl) trivial (fun ρ100 w100 hm100 hR100 => ?_)
  refine sim_make encS id (t := 90) (by kernel_rfl) hR100 (fun w101 gb eb hb101 hMb hR101 => ?_)
  refine sim_run 4 [] (hR101.cast (by kernel_rfl)) (by kernel_rfl) trivial (fun ρ102 w102 hm102 hR102 => ?_)
  have hMb := hMb.moved (hm102.castL (by kernel_rfl))
  refine sim_make encS encI (t := 91) (by kernel_rfl) hR102 (fun w104 gs es hb104 hMs hR104 => ?_)
  have hgb2 := (hMb.is gb rfl).1.size
  have hMb := hMb.below hb104
  refine sim_run 10 [] (hR104.cast (by kernel_rfl)) (by kernel_rfl) trivial (fun ρ105 w105 hm105 hR105 => ?_)
  have hMs := hMs.moved (hm105.castL (by kernel_rfl))
  have hMb := hMb.moved (hm105.castL (by kernel_rfl))
  
  have hgb : w.heap.size ≤ gb := by rw [eb]; exact hR100.keeps.size
  have hgs : w.heap.size ≤ gs := by rw [es]; exact hR102.keeps.size
  have hne : gb ≠ gs := by rw [es]; omega
  refine sim_loop (ι := Nat × List (Ent ByteArray Value) × Nat × List (Ent ByteArray Int) × Nat) (T := []) (w0 := w) (0, [], 0, [], 0) [3, 4, 9, 10] (fun x => [(11, LI x.1)]) (fun _ => []) (fun x w1 => x.1 ≤ n ∧ MpO encS id ρ105 [] w1 (some gb) x.2.1 x.2.2.1 ∧ MpO encS encI ρ105 [] w1 (some gs) x.2.2.2.1 x.2.2.2.2 ∧ Sta (AccS x.2.1) (AccV w.heap.size x.2.1) ρ105 [] w1 ∧ (∀ a, (look a x.2.2.2.1).getD 0 = sumI (qtyL a (ps.take x.1))) ∧ (∀ a, clampO (sumI (qtyL a (ps.take x.1))) = false)) (fun x => n - x.1) (by kernel_rfl) (by kernel_rfl) (hR105.cast (by kernel_rfl)) ⟨Nat.zero_le _, hMb.castR (by kernel_rfl), hMs.castR (by kernel_rfl), ⟨fun _ h => absurd h List.not_mem_nil, fun x ⟨_, h, _⟩ => absurd h List.not_mem_nil, fun x ⟨_, h, _⟩ => absurd h List.not_mem_nil, AccV.same⟩, fun _ => rfl, fun _ => rfl⟩ ?_
  iterate 6 (try clear hMb)
  iterate 6 (try clear hMs)
  rintro ⟨i, lb, cb, ls, cs⟩ d w2 hR2 ⟨hi, hMb, hMs, hA, hsum, hno⟩
  dsimp only at hi hMb hMs hA hsum hno
  have hag := hR2.ag_ 0 (by kernel_rfl)
  by_cases hlt : i < n
  · obtain ⟨u, hu⟩ : ∃ u, ps[i]? = some u := ⟨_, List.getElem?_eq_getElem (by omega)⟩
    have huq := hok u (List.mem_of_getElem? hu)
    have hx : (ps.map Pl.cells)[i]? = some u.cells := by rw [List.getElem?_map, hu]; rfl
    refine sim_see u.cells i 0 (by kernel_rfl) hx hrd (pl_in ps) (by omega) hlt hB (by simp) hR2 (by kernel_rfl) (fun ga oa ρE eA hgT hgl hmE eE hRE => ?_)
    subst eA
    have hMb := hMb.moved hmE
    have hMs := hMs.moved hmE
    have hA := hA.moved hmE
    have hag1 := hag.moved hmE
    have hag := hRE.ag_ 1 (by kernel_rfl)
    cases hlk : look u.asset lb with
    | none =>
      refine sim_run 5 [] (hRE.cast (by kernel_rfl)) (by kernel_rfl) trivial (fun ρ200 w200 hm200 hR200 => ?_)
      have hMb := hMb.moved (hm200.castL (by kernel_rfl))
      have hMs := hMs.moved (hm200.castL (by kernel_rfl))
      have hA := hA.moved (hm200.castL (by kernel_rfl))
      have hag1 := hag1.moved (hm200.castL (by kernel_rfl))
      have hag := hag.moved (hm200.castL (by kernel_rfl))
      refine sim_know 12 (decide ((↑(i, lb, cb, ls, cs).fst : Int) < (↑n : Int))) true (by kernel_rfl) (decide_eq_true (by omega)) ?_
      refine sim_run 6 [] (hR200.cast (by kernel_rfl)) (by kernel_rfl) trivial (fun ρ201 w201 hm201 hR201 => ?_)
      have hMb := hMb.moved (hm201.castL (by kernel_rfl))
      have hMs := hMs.moved (hm201.castL (by kernel_rfl))
      have hA := hA.moved (hm201.castL (by kernel_rfl))
      have hag1 := hag1.moved (hm201.castL (by kernel_rfl))
      have hag := hag.moved (hm201.castL (by kernel_rfl))
      refine sim_place (.v (.slice (some ⟨ga, oa, none⟩) n cp)) n 2 i 0 0 (by kernel_rfl) (by omega) (by omega) rfl (by simp only [Nm.at_, hag.at_ 0 (by omega), eE, Nat.add_zero, Int.toNat_natCast]) ?_
      refine sim_run 10 [] (hR201.cast (by kernel_rfl)) (by kernel_rfl) trivial (fun ρ203 w203 hm203 hR203 => ?_)
      have hMb := hMb.moved (hm203.castL (by kernel_rfl))
      have hMs := hMs.moved (hm203.castL (by kernel_rfl))
      have hA := hA.moved (hm203.castL (by kernel_rfl))
      have hag1 := hag1.moved (hm203.castL (by kernel_rfl))
      have hag := hag.moved (hm203.castL (by kernel_rfl))
      refine sim_look (enc := encS) (encV := id) (mx := .v (Value.map (some gb))) (kx := LS u.asset) (ok := false) u.asset (.v (.pointer none)) (by kernel_rfl) ma_ty kt_str zero_accp hMb rfl rfl (by rw [hlk]; rfl) ?_
      refine sim_run 8 [] (hR203.cast (by kernel_rfl)) (by kernel_rfl) trivial (fun ρ205 w205 hm205 hR205 => ?_)
      have hMb := hMb.moved (hm205.castL (by kernel_rfl))
      have hMs := hMs.moved (hm205.castL (by kernel_rfl))
      have hA := hA.moved (hm205.castL (by kernel_rfl))
      have hag1 := hag1.moved (hm205.castL (by kernel_rfl))
      have hag := hag.moved (hm205.castL (by kernel_rfl))
      
      refine sim_box (e := 67) (x := .agg [LB false]) 2 (by kernel_rfl) (by kernel_rfl) (by assumption : Rel _ _ _ _ _) (by kernel_rfl) (fun ρB wB hmB eB hRB hbB => ?_)
      have hb1 : (ρB 1).1 ≠ (ρB 2).1 := by
        have h1 := hR205.lt 1 ⟨[LS u.asset, LI u.qty], true⟩ (by kernel_rfl)
        rw [hmB.agree 1 (Nat.le_of_ble_eq_true (by kernel_rfl)), eB]
        exact Nat.ne_of_lt h1
      have hMb := hMb.moved hmB
      have hMs := hMs.moved hmB
      have hA := hA.moved hmB
      have hag := hag.moved hmB
      have hcB := hRB.at_cell 2 0 (LB false) (by kernel_rfl)
      have hfB := hRB.unfrozen (q := 2) (r := ⟨[LB false], true⟩) (by kernel_rfl) rfl (i := 0) (by show 0 < 1; omega)
      have hlbF := hMb.fine
      refine sim_upd (mx := .v (.map (some gb))) (kx := LS u.asset) (vx := .ptr 2 0) (enc := encS) (encV := id) u.asset (.pointer (some (ρB.at_ 2 0))) (by kernel_rfl) ma_ty kt_str hMb rfl rfl rfl (.inr hgb) hRB (fun w6 ht6 hM6 hR6 => ?_)
      have hnb : ∀ x, AccS lb x → x ≠ gb := fun x hx => acc_nomap hA.is (hMb.is gb rfl).1.blk hx
      have hMs := hMs.turnNe ht6 (fun e => hne (by injection e with e; exact e.symm))
      have hA := hA.turnM ht6 (fun h => hnb _ h rfl)
      have hcB := hR6.at_cell 2 0 (LB false) (by kernel_rfl)
      have hfB := hR6.unfrozen (q := 2) (r := ⟨[LB false], true⟩) (by kernel_rfl) rfl (i := 0) (by show 0 < 1; omega)
      have hltB := hR6.lt 2 ⟨[LB false], true⟩ (by kernel_rfl)
      have hgeB : w.heap.size ≤ (ρB 2).1 := (hR6.wr 2 ⟨[LB false], true⟩ (by kernel_rfl) rfl).1.elim (fun h => absurd h List.not_mem_nil) id
      have hagz := hR6.ag_ 2 (by kernel_rfl)
      have hRz := hR6.cut (rs := [⟨[LS u.asset, LI u.qty], false⟩, ⟨[LS u.asset, LI u.qty], true⟩]) (by kernel_rfl) hagz.ag (by kernel_rfl)
      have hMbz := hM6.cut (rs := [⟨[LS u.asset, LI u.qty], false⟩, ⟨[LS u.asset, LI u.qty], true⟩]) hagz rfl (by kernel_rfl)
      have hMsz := hMs.cut (rs := [⟨[LS u.asset, LI u.qty], false⟩, ⟨[LS u.asset, LI u.qty], true⟩]) hagz rfl (by kernel_rfl)
      have hA0 := hA.cut (rs := [⟨[LS u.asset, LI u.qty], false⟩, ⟨[LS u.asset, LI u.qty], true⟩]) hagz rfl (by kernel_rfl)
      have hin : ∀ e ∈ ins u.asset (.pointer (some (ρB.at_ 2 0))) cb lb, e ∈ lb ∨ e.val = .pointer (some (ρB.at_ 2 0)) := fun e he => (ins_mem2 hlbF.keys he).imp (fun h => h.1) (fun h => h.2)
      have hAz : Sta (AccS (ins u.asset (.pointer (some (ρB.at_ 2 0))) cb lb)) (AccV w.heap.size (ins u.asset (.pointer (some (ρB.at_ 2 0))) cb lb)) ρB [⟨[LS u.asset, LI u.qty], false⟩, ⟨[LS u.asset, LI u.qty], true⟩] w6 := by
        have hcase : ∀ x, AccS (ins u.asset (.pointer (some (ρB.at_ 2 0))) cb lb) x → AccS lb x ∨ x = (ρB 2).1 := fun x ⟨e, he, o, hv⟩ => (hin e he).imp (fun h => ⟨e, h, o, hv⟩) (fun h => by
          rw [h] at hv
          injection hv with hv
          injection hv with hv
          injection hv with hv
          exact hv.symm)
        refine ⟨fun e he => (hin e he).elim (hA.is e) (fun h => ⟨_, _, h, hgeB, hltB, hcB, hfB⟩), fun x hx hw => (hcase x hx).elim (fun h => hA0.far x h hw) (fun h => ?_), fun x hx => (hcase x hx).elim (hA.lt x) (fun h => by rw [h]; exact hltB), AccV.same⟩
        obtain ⟨m, r, hm, hw, he⟩ := hw
        match m, hm with
        | 0, hm => simp at hm; subst hm; cases hw
        | 1, _ => exact hb1 (he.trans h)
        | m + 2, hm => simp at hm
      have hlkz : look u.asset (ins u.asset (.pointer (some (ρB.at_ 2 0))) cb lb) = some (.pointer (some ⟨(ρB 2).1, (ρB 2).2 + 0, none⟩)) := by rw [look_ins, if_pos rfl]; rfl
      refine sim_rs [⟨[LS u.asset, LI u.qty], false⟩, ⟨[LS u.asset, LI u.qty], true⟩] ?_
      clear hM6 hMs hA hR6 hRB hA0
      have hag : Ag 1 ρE ρB [⟨[LS u.asset, LI u.qty], false⟩, ⟨[LS u.asset, LI u.qty], true⟩] := ⟨hag.ag, Nat.le_of_ble_eq_true rfl⟩
      refine sim_run 2 [] (hRz.cast (by kernel_rfl)) (by kernel_rfl) trivial (fun ρ500 w500 hm500 hR500 => ?_)
      have hMbz := hMbz.moved (hm500.castL (by kernel_rfl))
      have hMsz := hMsz.moved (hm500.castL (by kernel_rfl))
      have hAz := hAz.moved (hm500.castL (by kernel_rfl))
      have hag := hag.moved (hm500.castL (by kernel_rfl))
      
      have hRz := ((by assumption : Rel _ _ _ _ _)).cast (rs' := [⟨[LS u.asset, LI u.qty], false⟩, ⟨[LS u.asset, LI u.qty], true⟩]) (by kernel_rfl)
      have hMbz := hMbz.castR (rs' := [⟨[LS u.asset, LI u.qty], false⟩, ⟨[LS u.asset, LI u.qty], true⟩]) (by kernel_rfl)
      have hMsz := hMsz.castR (rs' := [⟨[LS u.asset, LI u.qty], false⟩, ⟨[LS u.asset, LI u.qty], true⟩]) (by kernel_rfl)
      have hAz := hAz.castR (rs' := [⟨[LS u.asset, LI u.qty], false⟩, ⟨[LS u.asset, LI u.qty], true⟩]) (by kernel_rfl)
      refine sim_to (regK Try.f26 8) (tmplJ Try.f26.ntmps 0 [(3, .v (.map (some gb))), (4, .v (.map (some gs))), (6, .ptr 1 0), (9, .v (.slice (some ⟨ga, oa, none⟩) n cp)), (10, LI n), (11, LI i)]) [⟨[LS u.asset, LI u.qty], false⟩, ⟨[LS u.asset, LI u.qty], true⟩] (by kernel_rfl) (by kernel_rfl) (by kernel_rfl) (fun dd => ?_)
      refine over_8 (g := (ρB 2).1) (o := (ρB 2).2 + 0) (s := sumI (qtyL u.asset (ps.take i))) hRz (by rw [hag.at_ 0 (by omega), eE]; exact hgl) hMbz hMsz hgb hgs hne hAz hlkz (hsum u.asset) (i64_no (hno u.asset)) huq hlt hn dd (fun w9 h9 hb9 => ⟨true, rfl, fun _ => ⟨u.asset, i + 1, by rw [qtyL_next hu, if_pos rfl]; exact h9⟩, fun h => (by cases h), hb9⟩) (fun c9 ρ9 w9 h9 hk9 hm9 hl9 hR9 hMb9 hMs9 hA9 => ?_)
      have hcl := (clampV_no h9).1
      rw [hcl] at hMs9
      exact sim_again (i + 1, ins u.asset (.pointer (some (ρB.at_ 2 0))) cb lb, clockAfter u.asset lb cb, ins u.asset (sumI [sumI (qtyL u.asset (ps.take i)), u.qty]) cs ls, clockAfter u.asset ls cs) hk9 (by show n - (i + 1) < n - i; omega) ((congrArg (mergeT · c9.tmps) (by kernel_rfl)).trans hm9) ((congrArg List.length (by kernel_rfl)).trans hl9) (by kernel_rfl) Agree.zero hR9 (List.take_zero ..) (by kernel_rfl) ⟨hlt, hMb9.cut ⟨Agree.zero, Nat.zero_le _⟩ rfl (List.take_zero ..), hMs9.cut ⟨Agree.zero, Nat.zero_le _⟩ rfl (List.take_zero ..), hA9.cut ⟨Agree.zero, Nat.zero_le _⟩ rfl (List.take_zero ..), fun a => by
        dsimp only
        rw [look_ins, qtyL_next hu]
        split
        · rename_i h
          rw [h]
          rfl
        · exact hsum a, fun a => by
        dsimp only
        rw [qtyL_next hu]
        split
        · rename_i h
          rw [h]
          exact h9
        · exact hno a⟩
    | some v =>
      obtain ⟨g, o, rfl⟩ := acc_val hA.is hlk
      refine sim_run 5 [] (hRE.cast (by kernel_rfl)) (by kernel_rfl) trivial (fun ρ300 w300 hm300 hR300 => ?_)
      have hMb := hMb.moved (hm300.castL (by kernel_rfl))
      have hMs := hMs.moved (hm300.castL (by kernel_rfl))
      have hA := hA.moved (hm300.castL (by kernel_rfl))
      have hag1 := hag1.moved (hm300.castL (by kernel_rfl))
      have hag := hag.moved (hm300.castL (by kernel_rfl))
      refine sim_know 12 (decide ((↑(i, lb, cb, ls, cs).fst : Int) < (↑n : Int))) true (by kernel_rfl) (decide_eq_true (by omega)) ?_
      refine sim_run 6 [] (hR300.cast (by kernel_rfl)) (by kernel_rfl) trivial (fun ρ301 w301 hm301 hR301 => ?_)
      have hMb := hMb.moved (hm301.castL (by kernel_rfl))
      have hMs := hMs.moved (hm301.castL (by kernel_rfl))
      have hA := hA.moved (hm301.castL (by kernel_rfl))
      have hag1 := hag1.moved (hm301.castL (by kernel_rfl))
      have hag := hag.moved (hm301.castL (by kernel_rfl))
      refine sim_place (.v (.slice (some ⟨ga, oa, none⟩) n cp)) n 2 i 0 0 (by kernel_rfl) (by omega) (by omega) rfl (by simp only [Nm.at_, hag.at_ 0 (by omega), eE, Nat.add_zero, Int.toNat_natCast]) ?_
      refine sim_run 10 [] (hR301.cast (by kernel_rfl)) (by kernel_rfl) trivial (fun ρ303 w303 hm303 hR303 => ?_)
      have hMb := hMb.moved (hm303.castL (by kernel_rfl))
      have hMs := hMs.moved (hm303.castL (by kernel_rfl))
      have hA := hA.moved (hm303.castL (by kernel_rfl))
      have hag1 := hag1.moved (hm303.castL (by kernel_rfl))
      have hag := hag.moved (hm303.castL (by kernel_rfl))
      refine sim_look (enc := encS) (encV := id) (mx := .v (Value.map (some gb))) (kx := LS u.asset) (ok := false) u.asset (.v (.pointer (some ⟨g, o, none⟩))) (by kernel_rfl) ma_ty kt_str zero_accp hMb rfl rfl (by rw [hlk]; rfl) ?_
      refine sim_run 5 [] (hR303.cast (by kernel_rfl)) (by kernel_rfl) trivial (fun ρ305 w305 hm305 hR305 => ?_)
      have hMb := hMb.moved (hm305.castL (by kernel_rfl))
      have hMs := hMs.moved (hm305.castL (by kernel_rfl))
      have hA := hA.moved (hm305.castL (by kernel_rfl))
      have hag1 := hag1.moved (hm305.castL (by kernel_rfl))
      have hag := hag.moved (hm305.castL (by kernel_rfl))
      
      have hRz := ((by assumption : Rel _ _ _ _ _)).cast (rs' := [⟨[LS u.asset, LI u.qty], false⟩, ⟨[LS u.asset, LI u.qty], true⟩]) (by kernel_rfl)
      have hMbz := hMb.castR (rs' := [⟨[LS u.asset, LI u.qty], false⟩, ⟨[LS u.asset, LI u.qty], true⟩]) (by kernel_rfl)
      have hMsz := hMs.castR (rs' := [⟨[LS u.asset, LI u.qty], false⟩, ⟨[LS u.asset, LI u.qty], true⟩]) (by kernel_rfl)
      have hAz := hA.castR (rs' := [⟨[LS u.asset, LI u.qty], false⟩, ⟨[LS u.asset, LI u.qty], true⟩]) (by kernel_rfl)
      refine sim_to (regK Try.f26 8) (tmplJ Try.f26.ntmps 0 [(3, .v (.map (some gb))), (4, .v (.map (some gs))), (6, .ptr 1 0), (9, .v (.slice (some ⟨ga, oa, none⟩) n cp)), (10, LI n), (11, LI i)]) [⟨[LS u.asset, LI u.qty], false⟩, ⟨[LS u.asset, LI u.qty], true⟩] (by kernel_rfl) (by kernel_rfl) (by kernel_rfl) (fun dd => ?_)
      refine over_8 (g := g) (o := o) (s := sumI (qtyL u.asset (ps.take i))) hRz (by rw [hag.at_ 0 (by omega), eE]; exact hgl) hMbz hMsz hgb hgs hne hAz hlk (hsum u.asset) (i64_no (hno u.asset)) huq hlt hn dd (fun w9 h9 hb9 => ⟨true, rfl, fun _ => ⟨u.asset, i + 1, by rw [qtyL_next hu, if_pos rfl]; exact h9⟩, fun h => (by cases h), hb9⟩) (fun c9 ρ9 w9 h9 hk9 hm9 hl9 hR9 hMb9 hMs9 hA9 => ?_)
      have hcl := (clampV_no h9).1
      rw [hcl] at hMs9
      exact sim_again (i + 1, lb, cb, ins u.asset (sumI [sumI (qtyL u.asset (ps.take i)), u.qty]) cs ls, clockAfter u.asset ls cs) hk9 (by show n - (i + 1) < n - i; omega) ((congrArg (mergeT · c9.tmps) (by kernel_rfl)).trans hm9) ((congrArg List.length (by kernel_rfl)).trans hl9) (by kernel_rfl) Agree.zero hR9 (List.take_zero ..) (by kernel_rfl) ⟨hlt, hMb9.cut ⟨Agree.zero, Nat.zero_le _⟩ rfl (List.take_zero ..), hMs9.cut ⟨Agree.zero, Nat.zero_le _⟩ rfl (List.take_zero ..), hA9.cut ⟨Agree.zero, Nat.zero_le _⟩ rfl (List.take_zero ..), fun a => by
        dsimp only
        rw [look_ins, qtyL_next hu]
        split
        · rename_i h
          rw [h]
          rfl
        · exact hsum a, fun a => by
        dsimp only
        rw [qtyL_next hu]
        split
        · rename_i h
          rw [h]
          exact h9
        · exact hno a⟩
  · have hie : i = n := by omega
    subst hie
    rw [show ps.take i = ps from by rw [← hlen]; exact List.take_length] at hno
    refine sim_run 5 [] (hR2.cast (by kernel_rfl)) (by kernel_rfl) trivial (fun ρ400 w400 hm400 hR400 => ?_)
    have hMb := hMb.moved (hm400.castL (by kernel_rfl))
    have hMs := hMs.moved (hm400.castL (by kernel_rfl))
    have hA := hA.moved (hm400.castL (by kernel_rfl))
    have hag := hag.moved (hm400.castL (by kernel_rfl))
    refine sim_know 12 (decide ((↑(i, lb, cb, ls, cs).fst : Int) < (↑i : Int))) false (by kernel_rfl) (decide_eq_false (by omega)) ?_
    refine sim_run 1 [] (hR400.cast (by kernel_rfl)) (by kernel_rfl) trivial (fun ρ401 w401 hm401 hR401 => ?_)
    have hMb := hMb.moved (hm401.castL (by kernel_rfl))
    have hMs := hMs.moved (hm401.castL (by kernel_rfl))
    have hA := hA.moved (hm401.castL (by kernel_rfl))
    have hag := hag.moved (hm401.castL (by kernel_rfl))
    refine sim_leave (by kernel_rfl) ?_
    refine sim_run 4 [] (hR401.cast (by kernel_rfl)) (by kernel_rfl) trivial (fun ρ402 w402 hm402 hR402 => ?_)
    have hMb := hMb.moved (hm402.castL (by kernel_rfl))
    have hMs := hMs.moved (hm402.castL (by kernel_rfl))
    have hA := hA.moved (hm402.castL (by kernel_rfl))
    have hag := hag.moved (hm402.castL (by kernel_rfl))
    refine sim_ret (LB false) hR402 (by kernel_rfl) (by kernel_rfl) ?_
    
    exact ⟨false, rfl, fun h => (by cases h), fun _ => hno, ((by assumption : Rel _ _ _ _ _)).toBelow⟩
end
end Go.Proofs.Ytioehmngkoffaaa
