/-
  The box of lists: one more row of ints is kept (Ints).
-/
import Derived.Test.YtedfbdeklepekaaGreatBkI13
import Derived.Test.YtedfbdeklepekaaGreatRwsI
namespace Go.Proofs.YtedfbdeklepekaaGreat
open Go Go.RowKit
def KSt.has (s : KSt) (y : Nat) : Prop := s.vL.ownBlock = some y ∨ s.vW.ownBlock = some y ∨ ∃ r, (r ∈ s.rows ∨ r ∈ s.was) ∧ r.v.ownBlock = some y
def boxT (b : Nat) (v u : Value) : List Nat := b :: (v.ownBlock.toList ++ u.ownBlock.toList)
theorem mem_boxT {b : Nat} {v u : Value} {y : Nat} : y ∈ boxT b v u ↔ y = b ∨ v.ownBlock = some y ∨ u.ownBlock = some y := by
  unfold boxT
  rw [List.mem_cons, List.mem_append, Option.mem_toList, Option.mem_toList]
theorem kept_box {b : Nat} {v u : Value} {w w' : World} (h : Keeps (boxT b v u) w w') : Kept (fun y => y = b ∨ v.ownBlock = some y ∨ u.ownBlock = some y) w w' := h.kept.mono fun _ hx => .inl (mem_boxT.1 hx)
theorem wrS_one {ρ : Nm} {cs : List LV} {g : Nat} (h : wrS ρ [⟨cs, true⟩] g) : (ρ 0).1 = g := by
  obtain ⟨n, r, hn, _, e⟩ := h
  match n, hn with
  | 0, _ => exact e
  | n + 1, hn => simp at hn
/-- the box's cells with a kind's two replaced -/
def setI (x : Nat → Value) (v u : Value) : Nat → Value := fun i => if i = 2 then v else if i = 3 then u else x i
theorem setI_ne {x : Nat → Value} {v u : Value} {i : Nat} (h2 : i ≠ 2) (h3 : i ≠ 3) : setI x v u i = x i := by
  unfold setI
  rw [if_neg h2, if_neg h3]
theorem den_bkI (ρ : Nm) (x : Nat → Value) (v u : Value) : denL ρ (bkI x v u) = bkC (setI x v u) := rfl
theorem own_base0 {w : World} {base base' : Nat} {e : TypeId} {size n : Nat} {v : Value} {xs : List Value} (h : w.ownsRow base e size v n xs) (hb : base' ≤ base) : w.ownsRow base' e size v n xs := by
  rcases h.2 with h1 | ⟨g, cap, cur, h1, h2, h3⟩
  · exact ⟨h.1, .inl h1⟩
  · exact ⟨h.1, .inr ⟨g, cap, cur, h1, Nat.le_trans hb h2, h3⟩⟩
theorem boxI_full {x : Nat → Value} {v u : Value} {T : List Nat} {w0 w : World} {ρb ρ : Nm} {rs : List Reg} {b : Nat} (hbox : RowV ρ rs w b 56 (bkC x)) (hR : Rel T w0 ρ rs w) (hag : Ag 1 ρb ρ rs) (e0 : ρb 0 = (b, 0)) (hn : rs[0]? = some ⟨bkI x v u, true⟩) : Blk w b 56 (bkC (setI x v u)).toArray :=
  hbox.full hR hag hn e0 rfl
theorem RdR.own_ne' {B : Nat} {et : TypeId} {sz : Nat} {rows : List BRow} {ρ : Nm} {rs : List Reg} {w : World} (h : RdR B et sz rows ρ rs w) {b n s : Nat} {e : TypeId} {v : Value} {xs : List Value} (ho : w.ownsRow b e s v n xs) (hne : et ≠ e) : ∀ r ∈ rows, ∀ g, r.v.ownBlock = some g → v.ownBlock ≠ some g :=
  fun r hr g hg => own_ne (h.own r hr).own ho hne g hg
/-- what Ints leaves -/
def AddI (x : Nat → Value) (b : Nat) (s : KSt) (v : Value) (n : Nat) (xs : List Value) (w : World) (e : Ending) (w' : World) : Prop :=
  e = .returned (.tuple #[]) ∧ ∃ x' s', Blk w' b 56 (bkC x').toArray ∧ x' 2 = s'.vL ∧ x' 3 = s'.vW ∧ (∀ i, i ≠ 2 → i ≠ 3 → x' i = x i) ∧ KI 31 3 1 s' w' ∧ KG IRw s' ∧ (s'.rows = s.rows ∨ s'.rows = s.rows ++ [⟨v, n, xs⟩]) ∧
    Kept (fun y => y = b ∨ s.vL.ownBlock = some y ∨ s.vW.ownBlock = some y) w w' ∧ (∀ y, s'.has y → s.has y ∨ v.ownBlock = some y ∨ w.heap.size ≤ y)
attribute [local irreducible] run goO leaveK someK nextK nextT nextOT nextOD loopBody loopRest loopK fillJ tmplOf tmplJ mergeT At AtO drawOk ordOf gateOf callC callO topOp topO idxOf appOf storeOf clearOf sliceOf calleeOf calleeO topQ idxQ newRowOf resL stepOp seek
set_option maxRecDepth 100000 in
set_option maxHeartbeats 4000000 in
theorem ints_any (x : Nat → Value) (b : Nat) (s : KSt) (w : World) (h : Blk w b 56 (bkC x).toArray) (hx : x 2 = s.vL) (hy : x 3 = s.vW) (hk : KI 31 3 1 s w) (hg : KG IRw s) (A : Option Addr) (n cp : Nat) (l : List Int) (hA : w.ownsRow 0 3 1 (.slice A n cp) n (ints l)) (hln : n = l.length) (hn : n ≤ 100000) (hap : ∀ r ∈ s.rows, ∀ g, r.v.ownBlock = some g → (Value.slice A n cp).ownBlock ≠ some g) :
    Calls Tryz.prog 17 #[.pointer (some ⟨b, 0, none⟩), .slice A n cp] w (AddI x b s (.slice A n cp) n (ints l) w) := by
  obtain ⟨vL, vW, rows, was⟩ := s
  obtain ⟨hL, hW, hr, hw⟩ := hk
  dsimp only at hL hW hr hw hap hx hy
  obtain ⟨AL, cL, rfl⟩ := own_row' hL
  obtain ⟨AW, cW, rfl⟩ := own_row' hW
  obtain ⟨ρ, e0, hR⟩ := blk_open h true (boxT b (.slice AL rows.length cL) (.slice AW rows.length cW)) (fun _ => List.mem_cons_self ..) (by kernel_rfl)
  rw [bkI_of hx hy] at hR
  have e01 : (ρ 0).1 = b := congrArg Prod.fst e0
  have hlw : ∀ g, (Value.slice AL rows.length cL).ownBlock = some g → (Value.slice AW rows.length cW).ownBlock ≠ some g := hg.lw
  have hfew : rows.length ≤ 250 := hg.few
  have hL : Own ρ [⟨bkI x (.slice AL rows.length cL) (.slice AW rows.length cW), true⟩] w 0 31 1 (.slice AL rows.length cL) rows.length (rows.map BRow.v) := ⟨hL, fun g hg hw => own_blk_ne hL h (by decide) (by rw [hg, ← wrS_one hw, e01])⟩
  have hW : Own ρ [⟨bkI x (.slice AL rows.length cL) (.slice AW rows.length cW), true⟩] w 0 31 1 (.slice AW rows.length cW) rows.length (was.map BRow.v) := ⟨hW, fun g hg hw => own_blk_ne hW h (by decide) (by rw [hg, ← wrS_one hw, e01])⟩
  have hA : Own ρ [⟨bkI x (.slice AL rows.length cL) (.slice AW rows.length cW), true⟩] w 0 3 1 (.slice A n cp) n (ints l) := ⟨hA, fun g hg hw => own_blk_ne hA h (by decide) (by rw [hg, ← wrS_one hw, e01])⟩
  have hr : RdR 0 3 1 rows ρ [⟨bkI x (.slice AL rows.length cL) (.slice AW rows.length cW), true⟩] w := ⟨fun r hr' => ⟨hr r hr', fun g hg hw => own_blk_ne (hr r hr') h (by decide) (by rw [hg, ← wrS_one hw, e01])⟩⟩
  have hw : RdR 0 3 1 was ρ [⟨bkI x (.slice AL rows.length cL) (.slice AW rows.length cW), true⟩] w := ⟨fun r hr' => ⟨hw r hr', fun g hg hw' => own_blk_ne (hw r hr') h (by decide) (by rw [hg, ← wrS_one hw', e01])⟩⟩
  have hbox : RowV ρ [⟨bkI x (.slice AL rows.length cL) (.slice AW rows.length cW), true⟩] w b 56 (bkC x) := RowV.start h _ _
  have hag := hR.ag_ 1 (by kernel_rfl)
  have hbL := own_blk_ne hL.own h (by decide)
  have hbW := own_blk_ne hW.own h (by decide)
  have hKI : KI 31 3 1 ⟨.slice AL rows.length cL, .slice AW rows.length cW, rows, was⟩ w := ⟨hL.own, hW.own, fun r hr' => (hr.own r hr').own, fun r hr' => (hw.own r hr').own⟩
  refine sim_enter Tryz.func17 ρ [.ptr 0 0, .v (.slice A n cp)] [⟨bkI x (.slice AL rows.length cL) (.slice AW rows.length cW), true⟩] (by kernel_rfl) (by simp only [denL, LV.den, Nm.at_, e0]) ?_
  by_cases h250 : rows.length < 250
  · refine sim_run 9 [] (hR.cast (by kernel_rfl)) (by kernel_rfl) trivial (fun ρ100 w100 hm100 hR100 => ?_)
    have hL := hL.moved (hm100.castL (by kernel_rfl))
    have hW := hW.moved (hm100.castL (by kernel_rfl))
    have hA := hA.moved (hm100.castL (by kernel_rfl))
    have hr := hr.moved (hm100.castL (by kernel_rfl))
    have hw := hw.moved (hm100.castL (by kernel_rfl))
    have hbox := hbox.moved (hm100.castL (by kernel_rfl))
    have hag := hag.moved (hm100.castL (by kernel_rfl))
    refine sim_know 9 (decide ((↑rows.length : Int) < 250)) true (by kernel_rfl) (decide_eq_true (by omega)) ?_
    refine sim_run 10 [] (hR100.cast (by kernel_rfl)) (by kernel_rfl) trivial (fun ρ101 w101 hm101 hR101 => ?_)
    have hL := hL.moved (hm101.castL (by kernel_rfl))
    have hW := hW.moved (hm101.castL (by kernel_rfl))
    have hA := hA.moved (hm101.castL (by kernel_rfl))
    have hr := hr.moved (hm101.castL (by kernel_rfl))
    have hw := hw.moved (hm101.castL (by kernel_rfl))
    have hbox := hbox.moved (hm101.castL (by kernel_rfl))
    have hag := hag.moved (hm101.castL (by kernel_rfl))
    
    refine sim_appendP 39 (.slice AL rows.length cL) (.slc 1 0 1 1) (by kernel_rfl) hR101 tyII hL 1 1 1 rfl [.v (.slice A n cp)] (by kernel_rfl) rfl (by kernel_rfl) (by unfold maxLen; omega) (by omega) (Nat.zero_le _) (fun g' hg' => .inl (mem_boxT.2 (.inr (.inl hg')))) [] (by kernel_rfl) (by simp) (fun v2 w2 hL2 hgw hat hR2 => ?_)
    have hlw2 : ∀ g, v2.ownBlock = some g → (Value.slice AW rows.length cW).ownBlock ≠ some g := fun g h1 h2 => hat.elim (fun e => hlw g (by rw [e] at h1; exact h1) h2) (fun e => by rw [e] at h1; injection h1 with h1; have := own_lt hW.own h2; omega)
    have hv2 : ∀ g, v2.ownBlock = some g → (Value.slice AL rows.length cL).ownBlock = some g ∨ w.heap.size ≤ g := fun g h1 => hat.imp (fun e => by rw [e] at h1; exact h1) (fun e => by rw [e] at h1; injection h1 with h1; have := hR101.keeps.size; omega)
    have hW := hW.grown hgw (fun g h1 h2 => hlw g h2 h1)
    have hA := hA.grown hgw (own_ne hA.own hL.own (by decide))
    have hr := hr.grown hgw (hr.own_ne' hL.own (by decide))
    have hw := hw.grown hgw (hw.own_ne' hL.own (by decide))
    have hbox := hbox.grown hgw (fun e => hbL e.symm)
    clear hL hat
    have hL := hL2
    clear hL2
    obtain ⟨A2, c2, rfl⟩ := own_row' hL.own
    refine sim_run 4 [] (hR2.cast (by kernel_rfl)) (by kernel_rfl) trivial (fun ρ200 w200 hm200 hR200 => ?_)
    have hag := hag.moved (hm200.castL (by kernel_rfl))
    have hW := hW.moved (hm200.castL (by kernel_rfl))
    have hA := hA.moved (hm200.castL (by kernel_rfl))
    have hr := hr.moved (hm200.castL (by kernel_rfl))
    have hw := hw.moved (hm200.castL (by kernel_rfl))
    have hbox := hbox.moved (hm200.castL (by kernel_rfl))
    have hL := hL.moved (hm200.castL (by kernel_rfl))
    refine sim_draw [] (by kernel_rfl) (by kernel_rfl) hR200 (fun hR201 => ?_)
    have hW := hW.drew
    have hA := hA.drew
    have hr := hr.drew
    have hw := hw.drew
    have hbox := hbox.drew
    have hL := hL.drew
    refine sim_ordN 6 [] hR201 (by kernel_rfl) trivial (fun ρ202 w202 hm202 hR202 => ?_)
    have hag := hag.moved (hm202.castL (by kernel_rfl))
    have hW := hW.moved (hm202.castL (by kernel_rfl))
    have hA := hA.moved (hm202.castL (by kernel_rfl))
    have hr := hr.moved (hm202.castL (by kernel_rfl))
    have hw := hw.moved (hm202.castL (by kernel_rfl))
    have hbox := hbox.moved (hm202.castL (by kernel_rfl))
    have hL := hL.moved (hm202.castL (by kernel_rfl))
    refine sim_ord_call (T := boxT b (Value.slice AL rows.length cL) (Value.slice AW rows.length cW)) (w0 := w) 63 [.v (Value.slice A n cp)] (by kernel_rfl) ?_
    refine Calls.mono (copyI_any (A) (n) (cp) _ (l) _ hA.reads (by omega) (by omega)) ?_
    rintro e203 w203 ⟨v203, rfl, hC, hb203⟩
    obtain ⟨Ac, cc, rfl⟩ := own_row' hC
    have hC := Own.start hR202.rel hC
    have hR203 := hR202.call hb203 (.v (Value.slice Ac n cc))
    have hcg := hR202.rel.keeps.size
    have hW := hW.below hb203
    have hA := hA.below hb203
    have hr := hr.below hb203
    have hw := hw.below hb203
    have hbox := hbox.below hb203
    have hL := hL.below hb203
    refine BackO.of (.v (Value.slice Ac n cc)) hR203 rfl ?_
    refine sim_ordN 1 [] hR203 (by kernel_rfl) trivial (fun ρ204 w204 hm204 hR204 => ?_)
    have hag := hag.moved (hm204.castL (by kernel_rfl))
    have hC := hC.moved (hm204.castL (by kernel_rfl))
    have hW := hW.moved (hm204.castL (by kernel_rfl))
    have hA := hA.moved (hm204.castL (by kernel_rfl))
    have hr := hr.moved (hm204.castL (by kernel_rfl))
    have hw := hw.moved (hm204.castL (by kernel_rfl))
    have hbox := hbox.moved (hm204.castL (by kernel_rfl))
    have hL := hL.moved (hm204.castL (by kernel_rfl))
    
    refine sim_ord_appendP 39 (.slice AW rows.length cW) (.slc 2 0 1 1) (by kernel_rfl) hR204 tyII hW 2 1 1 rfl [.v (.slice Ac n cc)] (by kernel_rfl) rfl (by kernel_rfl) (by unfold maxLen; omega) (by omega) (Nat.zero_le _) (fun g' hg' => .inl (mem_boxT.2 (.inr (.inr hg')))) [] (by kernel_rfl) (by simp) (fun v3 w3 hW3 hgw hat hR3 => ?_)
    have hlw3 : ∀ g, (Value.slice A2 (rows.length + 1) c2).ownBlock = some g → v3.ownBlock ≠ some g := fun g h1 h2 => hat.elim (fun e => hlw2 g h1 (by rw [e] at h2; exact h2)) (fun e => by rw [e] at h2; injection h2 with h2; have := own_lt hL.own h1; omega)
    have hv3 : ∀ g, v3.ownBlock = some g → (Value.slice AW rows.length cW).ownBlock = some g ∨ w.heap.size ≤ g := fun g h1 => hat.imp (fun e => by rw [e] at h1; exact h1) (fun e => by rw [e] at h1; injection h1 with h1; have := hR204.rel.keeps.size; omega)
    have hL := hL.grown hgw (fun g h1 h2 => hlw2 g h1 h2)
    have hA := hA.grown hgw (own_ne hA.own hW.own (by decide))
    have hC := hC.grown hgw (own_ne hC.own hW.own (by decide))
    have hr := hr.grown hgw (hr.own_ne' hW.own (by decide))
    have hw := hw.grown hgw (hw.own_ne' hW.own (by decide))
    have hbox := hbox.grown hgw (fun e => hbW e.symm)
    clear hW hat
    have hW := hW3
    clear hW3
    obtain ⟨A3, c3, rfl⟩ := own_row' hW.own
    refine sim_ordN 3 [] hR3 (by kernel_rfl) trivial (fun ρ300 w300 hm300 hR300 => ?_)
    have hag := hag.moved (hm300.castL (by kernel_rfl))
    have hL := hL.moved (hm300.castL (by kernel_rfl))
    have hA := hA.moved (hm300.castL (by kernel_rfl))
    have hC := hC.moved (hm300.castL (by kernel_rfl))
    have hr := hr.moved (hm300.castL (by kernel_rfl))
    have hw := hw.moved (hm300.castL (by kernel_rfl))
    have hbox := hbox.moved (hm300.castL (by kernel_rfl))
    have hW := hW.moved (hm300.castL (by kernel_rfl))
    refine sim_ord_endR hR300 (by kernel_rfl) (fun hR301 => ?_)
    refine sim_end (.tup []) (hR301.cast (by kernel_rfl)) (by kernel_rfl) (by kernel_rfl) ?_
    
    have e4 : ∀ r ∈ rows ++ [⟨.slice A n cp, n, ints l⟩], r ∈ rows ∨ r = ⟨.slice A n cp, n, ints l⟩ := fun r hr' => (List.mem_append.1 hr').imp id List.mem_singleton.1
    have e5 : ∀ r ∈ was ++ [⟨.slice Ac n cc, n, ints l⟩], r ∈ was ∨ r = ⟨.slice Ac n cc, n, ints l⟩ := fun r hr' => (List.mem_append.1 hr').imp id List.mem_singleton.1
    refine ⟨rfl, setI x (.slice A2 (rows.length + 1) c2) (.slice A3 (rows.length + 1) c3), ⟨_, _, rows ++ [⟨.slice A n cp, n, ints l⟩], was ++ [⟨.slice Ac n cc, n, ints l⟩]⟩, boxI_full hbox (by assumption : Rel _ _ _ _ _) hag e0 (by kernel_rfl), rfl, rfl, fun _ h2 h3 => setI_ne h2 h3, ⟨?_, ?_, fun r hr' => ?_, fun r hr' => ?_⟩, ⟨fun r hr' => ?_, ?_, ?_, hlw3, ?_⟩, .inr rfl, kept_box ((by assumption : Rel _ _ _ _ _)).keeps, fun y hy => ?_⟩
    · show w300.ownsRow 0 _ 1 _ (rows ++ [_]).length ((rows ++ [_]).map BRow.v)
      rw [List.length_append, List.map_append]
      exact hL.own
    · show w300.ownsRow 0 _ 1 _ (rows ++ [_]).length ((was ++ [_]).map BRow.v)
      rw [List.length_append, List.map_append]
      exact hW.own
    · rcases e4 r hr' with h1 | rfl
      · exact (hr.own r h1).own
      · exact hA.own
    · rcases e5 r hr' with h1 | rfl
      · exact (hw.own r h1).own
      · exact own_base0 hC.own (Nat.zero_le _)
    · rcases e4 r hr' with h1 | rfl
      · exact hg.ok r h1
      · exact ⟨l, rfl, hln, by omega⟩
    · show (was ++ [_]).map _ = (rows ++ [_]).map _
      rw [List.map_append, List.map_append, show was.map (fun r => (r.n, r.xs)) = rows.map (fun r => (r.n, r.xs)) from hg.same]
      rfl
    · refine List.pairwise_append.2 ⟨hg.ap, List.pairwise_singleton _ _, fun a ha c hc => ?_⟩
      rw [List.mem_singleton.1 hc]
      exact hap a ha
    · show (rows ++ [_]).length ≤ 250
      rw [List.length_append, List.length_singleton]
      omega
    · rcases hy with h1 | h1 | ⟨r, h1 | h1, h2⟩
      · exact (hv2 y h1).elim (fun h => .inl (.inl h)) (fun h => .inr (.inr h))
      · exact (hv3 y h1).elim (fun h => .inl (.inr (.inl h))) (fun h => .inr (.inr h))
      · rcases e4 r h1 with h3 | rfl
        · exact .inl (.inr (.inr ⟨r, .inl h3, h2⟩))
        · exact .inr (.inl h2)
      · rcases e5 r h1 with h3 | rfl
        · exact .inl (.inr (.inr ⟨r, .inr h3, h2⟩))
        · exact .inr (.inr (Nat.le_trans hcg (own_ge hC.own h2)))
  · refine sim_run 9 [] (hR.cast (by kernel_rfl)) (by kernel_rfl) trivial (fun ρ500 w500 hm500 hR500 => ?_)
    have hL := hL.moved (hm500.castL (by kernel_rfl))
    have hW := hW.moved (hm500.castL (by kernel_rfl))
    have hA := hA.moved (hm500.castL (by kernel_rfl))
    have hr := hr.moved (hm500.castL (by kernel_rfl))
    have hw := hw.moved (hm500.castL (by kernel_rfl))
    have hbox := hbox.moved (hm500.castL (by kernel_rfl))
    have hag := hag.moved (hm500.castL (by kernel_rfl))
    refine sim_know 9 (decide ((↑rows.length : Int) < 250)) false (by kernel_rfl) (decide_eq_false (by omega)) ?_
    refine sim_run 2 [] (hR500.cast (by kernel_rfl)) (by kernel_rfl) trivial (fun ρ501 w501 hm501 hR501 => ?_)
    have hL := hL.moved (hm501.castL (by kernel_rfl))
    have hW := hW.moved (hm501.castL (by kernel_rfl))
    have hA := hA.moved (hm501.castL (by kernel_rfl))
    have hr := hr.moved (hm501.castL (by kernel_rfl))
    have hw := hw.moved (hm501.castL (by kernel_rfl))
    have hbox := hbox.moved (hm501.castL (by kernel_rfl))
    have hag := hag.moved (hm501.castL (by kernel_rfl))
    refine sim_end (.tup []) hR501 (by kernel_rfl) (by kernel_rfl) ?_
    
    exact ⟨rfl, setI x _ _, _, boxI_full hbox (by assumption : Rel _ _ _ _ _) hag e0 (by kernel_rfl), rfl, rfl, fun _ h2 h3 => setI_ne h2 h3, ⟨hL.own, hW.own, fun r hr' => (hr.own r hr').own, fun r hr' => (hw.own r hr').own⟩, hg, .inl rfl, kept_box ((by assumption : Rel _ _ _ _ _)).keeps, fun y hy => .inl hy⟩
end Go.Proofs.YtedfbdeklepekaaGreat
