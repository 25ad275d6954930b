/-
  book: Add, New, Count.
-/
import Derived.Test.YtodjhkmbgennaaaBookE
namespace Go.Proofs.Ytodjhkmbgennaaa
open Go Go.RowKit
attribute [local irreducible] run goO goN ordGoN eqlOf eqlOper eqlOfO cellL leaveK someK nextK nextT nextOT nextOD loopBody loopRest loopK fillJ tmplOf tmplJ mergeT At AtO drawOk ordOf gateOf callC callO topOp topO idxOf appOf storeOf clearOf sliceOf calleeOf calleeO topQ idxQ newRowOf resL stepOp seek

theorem box_cell {T : List Nat} {w0 : World} {ρ ρb : Nm} {rs : List Reg} {w : World} {g N0 : Nat} {cur : List Value} {u : Value} (h : RowV ρ rs w g 85 cur) (hR : Rel T w0 ρ rs w) (hag : Ag N0 ρb ρ rs) (hn : rs[0]? = some ⟨[.v u], true⟩) (e0 : ρb 0 = (g, 0)) (hl : 1 = cur.length) (hN : 0 < N0 := by omega) : Blk w g 85 #[u] := h.full hR hag hn e0 hl
theorem Rel.rowV {T : List Nat} {w0 : World} {ρ : Nm} {rs : List Reg} {w : World} {g : Nat} {t : TypeId} {cur : List Value} (_ : Rel T w0 ρ rs w) (h : Blk w g t cur.toArray) : RowV ρ rs w g t cur := .start h ρ rs
def newI (n : Nat) (t : Tm) (prio : Int) (part held : Bool) : In := ⟨(n : Int) + 1, t, prio, part, held, false, 0, 0, 0, 0⟩
def addM (xs : List In) (t : Tm) (prio : Int) (part held : Bool) : List In × Int × Int :=
  if isPrioB prio = false then (xs, 0, 1) else if 120 ≤ xs.length then (xs, 0, 10) else (xs ++ [newI xs.length t prio part held], (xs.length : Int) + 1, 0)
/-- what Add leaves -/
def BkAdd (w : World) (B g : Nat) (v : Value) (xs' : List In) (id ec : Int) (e : Ending) (w' : World) : Prop :=
  ∃ v', e = .returned (.tuple #[.int .i64 id, .int .i64 ec]) ∧ BkV w' B g v' xs' ∧ Kept (fun k => k = g ∨ v.ownBlock = some k) w w' ∧ (v'.ownBlock = v.ownBlock ∨ ∃ k, w.heap.size ≤ k ∧ v'.ownBlock = some k)
set_option maxRecDepth 100000 in
theorem add_slc (A : Option Addr) (len cap B g : Nat) (xs : List In) (t : Tm) (prio : Int) (part held : Bool) (ht : t.short) (w : World) (hs : BkV w B g (.slice A len cap) xs) (hl : xs.length = len) (hB : B ≤ w.heap.size) :
    Calls Try.prog 21 #[.pointer (some ⟨g, 0, none⟩), t.val, .int .i64 prio, .bool part, .bool held] w (BkAdd w B g (.slice A len cap) (addM xs t prio part held).1 (addM xs t prio part held).2.1 (addM xs t prio part held).2.2) := by
  have hg : w.cell? ⟨g, 0, none⟩ = some (.slice A len cap) := hs.cell.cell 0
  obtain ⟨ρ, _, e0, hR⟩ := (Rel.start (g :: ((Value.slice A len cap).ownBlock).toList) w ρ0).open_ rfl g 0 [.v (.slice A len cap)] rfl true (World.block_lt_of_cell? _ _ hg) (fun j v hv => by
    match j, hv with
    | 0, hv => injection hv with hv; rw [← hv]; exact hg) (fun _ => ⟨.inl (by simp), fun i _ => by rw [Nat.zero_add]; exact hs.cell.frozen i⟩) (fun n r hn => by simp at hn)
  have e0 : ρ 0 = (g, 0) := e0
  have hR := hR.cast (rs' := [⟨[.v (.slice A len cap)], true⟩]) rfl
  have hag : Ag 1 ρ ρ [⟨[.v (.slice A len cap)], true⟩] := .start 1 ρ _ rfl
  have hbox : RowV ρ [⟨[.v (.slice A len cap)], true⟩] w g 85 [.slice A len cap] := .start hs.cell _ _
  refine sim_enter Try.func21 ρ [.ptr 0 0, .agg (t.cells.map .v), LI prio, LB part, LB held] [⟨[.v (.slice A len cap)], true⟩] (by kernel_rfl) (by simp only [denL, LV.den, Nm.at_, e0, denL_v]; rfl) ?_
  have hown : Own ρ [⟨[.v (.slice A len cap)], true⟩] w B 25 21 (.slice A len cap) len (insts xs) := ⟨hl ▸ hs.row, fun g' hg' ⟨n, r, hn, _, he⟩ => by
    match n, hn with
    | 0, _ => rw [e0] at he; have he' : g = g' := he; rw [← he'] at hg'; exact hs.ne hg'⟩
  unfold addM
  refine sim_run 14 [] hR (by kernel_rfl) trivial (fun ρ100 w100 hm100 hR100 => ?_)
  have hag := hag.moved hm100
  have hbox := hbox.moved hm100
  have hown := hown.moved hm100
  refine sim_call 47 [LI prio] (by kernel_rfl) ?_
  refine Calls.mono (isPrio_any _ _) ?_
  rintro e101 w101 ⟨rfl, hb101⟩
  have hR101 := hR100.below hb101
  have hbox := hbox.below hb101
  have hown := hown.below hb101
  refine Back.of (LB (isPrioB prio)) hR101 rfl ?_
  refine sim_run 4 [] hR101 (by kernel_rfl) trivial (fun ρ102 w102 hm102 hR102 => ?_)
  have hag := hag.moved hm102
  have hbox := hbox.moved hm102
  have hown := hown.moved hm102
  refine sim_fork 13 (!isPrioB prio) (by kernel_rfl) (fun hq103 => ?_) (fun hq103 => ?_)
  have hq103 := nb_t hq103
  refine sim_run 6 [] hR102 (by kernel_rfl) trivial (fun ρ104 w104 hm104 hR104 => ?_)
  have hag := hag.moved hm104
  have hbox := hbox.moved hm104
  have hown := hown.moved hm104
  refine sim_ret (.tup [LI 0, LI 1]) hR104 (by kernel_rfl) (by kernel_rfl) ?_
  rotate_left
  have hq103 := nb_f hq103
  refine sim_run 11 [] hR102 (by kernel_rfl) trivial (fun ρ105 w105 hm105 hR105 => ?_)
  have hag := hag.moved hm105
  have hbox := hbox.moved hm105
  have hown := hown.moved hm105
  refine sim_fork 21 (decide ((↑len : Int) ≥ 120)) (by kernel_rfl) (fun hq106 => ?_) (fun hq106 => ?_)
  have hq106 := of_decide_eq_true hq106
  refine sim_run 6 [] hR105 (by kernel_rfl) trivial (fun ρ107 w107 hm107 hR107 => ?_)
  have hag := hag.moved hm107
  have hbox := hbox.moved hm107
  have hown := hown.moved hm107
  refine sim_ret (.tup [LI 0, LI 10]) hR107 (by kernel_rfl) (by kernel_rfl) ?_
  rotate_left
  have hq106 := of_decide_eq_false hq106
  refine sim_run 14 [⟨5, 5, LI (IntKind.i64.wrap ((↑len : Int) + 1)), LI ((↑len : Int) + 1)⟩] hR105 (by kernel_rfl) ⟨eqi (IntWalk.i64_in _ (by omega)), trivial⟩ (fun ρ108 w108 hm108 hR108 => ?_)
  have hag := hag.moved hm108
  have hbox := hbox.moved hm108
  have hown := hown.moved hm108
  refine sim_draw [] (by kernel_rfl) (by kernel_rfl) hR108 (fun hR109 => ?_)
  have hbox := hbox.drew
  have hown := hown.drew
  refine sim_ordN 10 [] hR109 (by kernel_rfl) trivial (fun ρ110 w110 hm110 hR110 => ?_)
  have hag := hag.moved hm110
  have hbox := hbox.moved hm110
  have hown := hown.moved hm110
  refine sim_ord_call (T := g :: (Value.slice A len cap).ownBlock.toList) (w0 := w) 48 [.agg [LS t.party, LS t.account, LS t.money, LS t.other, LB t.deliver, LS t.asset, LS t.ccy, LS t.ref, LI t.qty, LI t.amount, LI t.day, LI t.trade]] (by kernel_rfl) ?_
  refine Calls.mono (owned_any (t) (by assumption) _) ?_
  rintro e111 w111 ⟨rfl, hb111⟩
  have hR111 := hR110.call hb111 (.agg (t.cells.map .v))
  have hbox := hbox.below hb111
  have hown := hown.below hb111
  refine BackO.of (.agg (t.cells.map .v)) hR111 rfl ?_
  refine sim_ordN 2 [] hR111 (by kernel_rfl) trivial (fun ρ112 w112 hm112 hR112 => ?_)
  have hag := hag.moved hm112
  have hbox := hbox.moved hm112
  have hown := hown.moved hm112
  rotate_left
  
  · rw [if_pos hq103]
    exact ⟨_, rfl, ⟨box_cell hbox hR104 hag (by kernel_rfl) e0 rfl, hl ▸ hown.own, hs.ne, hs.ge⟩, hR104.keeps.kept.mono (fun x hx => .inl (by simpa using hx)), .inl rfl⟩
  · rw [if_neg (by rw [hq103]; simp), if_pos (by omega)]
    exact ⟨_, rfl, ⟨box_cell hbox hR107 hag (by kernel_rfl) e0 rfl, hl ▸ hown.own, hs.ne, hs.ge⟩, hR107.keeps.kept.mono (fun x hx => .inl (by simpa using hx)), .inl rfl⟩
  · rw [if_neg (by rw [hq103]; simp), if_neg (by omega)]
    have hBw : B ≤ w112.heap.size := Nat.le_trans hB hR112.rel.keeps.size
    obtain ⟨i0, hi0, hz0, hz1, hz2⟩ := info_parts inst_info
    refine sim_ord_appendT 33 (.v (.slice A len cap)) (.slc 2 0 1 1) (by kernel_rfl) hR112 Try.underlying33 hi0 hz0 hz1 hz2 rfl (by omega) rfl hown.own rfl ((newI len t prio part held).cells.map .v) rfl (fun j u hu => by rw [at_add, Nat.zero_add]; exact hR112.rel.cell 2 ⟨(newI len t prio part held).cells.map .v, true⟩ (by kernel_rfl) j u hu) (by kernel_rfl) (by unfold maxLen; omega) (by omega) hBw (fun g' hg' => .inl (by have h2 : (Value.slice A len cap).ownBlock = some g' := hg'; simp [h2])) (fun g' hg' k r hk _ he => hown.far g' hg' ⟨k, r, hk, ?_, he⟩) (fun v' w4 hown' hgr hat hR4 => ?_)
    · cases hw : r.wr with
      | true => rfl
      | false =>
        have := roAll_mem _ 0 k r hk hw
        rw [show roAll _ 0 = [] from by kernel_rfl] at this
        cases this
    · have hfar : ∀ g', v'.ownBlock = some g' → ¬ wrS ρ112 _ g' := fun g' hg' hw => by
        rcases hat with h1 | h1
        · exact hown.far g' (h1 ▸ hg') hw
        · rw [h1] at hg'
          injection hg' with hg'
          have := hR112.rel.wr_lt hw
          omega
      have hown2 : Own ρ112 _ w4 B 25 21 v' (len + 1) (insts (xs ++ [newI len t prio part held])) := ⟨by
        rw [insts_append]
        have := hown'
        rw [denL_v] at this
        simpa [insts] using this, hfar⟩
      have hbox := hbox.grown hgr (by have := hs.ne; exact fun e => this e.symm)
      obtain ⟨A', cap', rfl⟩ : ∃ A' cap', v' = .slice A' (len + 1) cap' := by
        rcases hown2.own.2 with ⟨_, h0⟩ | ⟨g2, cap2, cur2, rfl, _⟩
        · omega
        · exact ⟨_, _, rfl⟩
      refine sim_ordN 3 [] hR4 (by kernel_rfl) trivial (fun ρ200 w200 hm200 hR200 => ?_)
      have hag := hag.moved hm200
      have hbox := hbox.moved hm200
      have hown2 := hown2.moved hm200
      refine sim_ord_endR hR200 (by kernel_rfl) (fun hR201 => ?_)
      refine sim_run 6 [] hR201 (by kernel_rfl) trivial (fun ρ202 w202 hm202 hR202 => ?_)
      have hag := hag.moved hm202
      have hbox := hbox.moved hm202
      have hown2 := hown2.moved hm202
      refine sim_ret (.tup [LI ((↑len : Int) + 1), LI 0]) hR202 (by kernel_rfl) (by kernel_rfl) ?_
      
      rw [hl]
      have hne : (Value.slice A' (len + 1) cap').ownBlock ≠ some g := by
        rcases hat with h1 | h1
        · rw [h1]; exact hs.ne
        · rw [h1]
          intro h2
          injection h2 with h2
          have := hs.cell.lt
          have := hR112.rel.keeps.size
          omega
      refine ⟨.slice A' (len + 1) cap', rfl, ⟨box_cell hbox hR202 hag (by kernel_rfl) e0 rfl, ?_, hne, hs.ge⟩, hR202.keeps.kept.mono (fun x hx => .inl (by simpa using hx)), hat.imp id (fun h1 => ⟨_, hR112.rel.keeps.size, h1⟩)⟩
      have := hown2.own
      rw [List.length_append, hl]
      exact this
/-- what New leaves -/
def BkNew (w : World) (e : Ending) (w' : World) : Prop := ∃ g, e = .returned (.pointer (some ⟨g, 0, none⟩)) ∧ w.heap.size ≤ g ∧ BkV w' w.heap.size g (.slice none 0 0) [] ∧ Below w.heap.size w w'
set_option maxRecDepth 100000 in
theorem new_any (w : World) : Calls Try.prog 19 #[] w (BkNew w) := by
  refine sim_enter Try.func19 ρ0 [] [] (by kernel_rfl) rfl ?_
  have hR := Rel.start [] w ρ0
  refine sim_run 7 [] hR (by kernel_rfl) trivial (fun ρ400 w400 hm400 hR400 => ?_)
  
  refine sim_box (e := 85) (x := .agg [.v (.slice none 0 0)]) 0 (by kernel_rfl) (by kernel_rfl) hR400 (by kernel_rfl) (fun ρ2 w2 hm2 e2 hR2 hb2 => ?_)
  have hag := hR2.ag_ 1 (by kernel_rfl)
  have hbox := hR2.rowV hb2
  refine sim_run 2 [] hR2 (by kernel_rfl) trivial (fun ρ300 w300 hm300 hR300 => ?_)
  have hag := hag.moved hm300
  have hbox := hbox.moved hm300
  refine sim_ret (.ptr 0 0) hR300 (by kernel_rfl) (by kernel_rfl) ?_
  
  have hsz := hR400.keeps.size
  refine ⟨w400.heap.size, by simp only [LV.den, Nm.at_, hag.at_ 0 (by omega), e2, Nat.add_zero], hsz, ⟨box_cell hbox hR300 hag (by kernel_rfl) e2 rfl, ⟨rfl, .inl ⟨rfl, rfl⟩⟩, by simp [Value.ownBlock], hsz⟩, hR300.toBelow⟩
end Go.Proofs.Ytodjhkmbgennaaa
