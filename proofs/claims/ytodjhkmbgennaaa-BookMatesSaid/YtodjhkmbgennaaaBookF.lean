/-
  book: mate, Cancel.
-/
import Derived.Test.YtodjhkmbgennaaaBookE
namespace Go.Proofs.Ytodjhkmbgennaaa
open Go Go.RowKit
attribute [local irreducible] run goO goN ordGoN eqlOf eqlOper eqlOfO cellL leaveK someK nextK nextT nextOT nextOD loopBody loopRest loopK fillJ tmplOf tmplJ mergeT At AtO drawOk ordOf gateOf callC callO topOp topO idxOf appOf storeOf clearOf sliceOf calleeOf calleeO topQ idxQ newRowOf resL stepOp seek

/-- where an instruction lies -/
def plI (h : Nat) (id : Int) : Addr := ⟨h, (id - 1).toNat * 21, none⟩
def mateP (h : Nat) (xs : List In) (id : Int) : Value := if mateI xs id = 0 then .pointer none else .pointer (some (plI h (mateI xs id)))
theorem plI_ne {h : Nat} {a b : Int} (ha : 1 ≤ a) (hb : 1 ≤ b) (hab : a ≠ b) : plI h a ≠ plI h b := by
  unfold plI
  intro e
  injection e with _ e2 _
  omega
theorem mateI_z {xs : List In} {id : Int} (h : outB xs (atI xs id).mate ∨ (atI xs id).mate = id) : mateI xs id = 0 := by unfold mateI; rw [if_pos h]
theorem mateI_of {xs : List In} {id : Int} (h : ¬outB xs (atI xs id).mate) (h' : (atI xs id).mate ≠ id) : mateI xs id = (atI xs id).mate := by unfold mateI; rw [if_neg (fun hc => hc.elim h h')]
set_option maxRecDepth 100000 in
theorem mate_row (h len cap g : Nat) (xs : List In) (rest : List Value) (id : Int) (w : World) (hg : w.cell? ⟨g, 0, none⟩ = some (.slice (some ⟨h, 0, none⟩) len cap)) (hb : Blk w h 25 (insts xs ++ rest).toArray) (hl : xs.length = len) (hin : ¬outB xs id) (hm : Is64 (atI xs id).mate) :
    Calls Try.prog 52 #[.pointer (some ⟨g, 0, none⟩), .pointer (some ⟨h, (id - 1).toNat * 21, none⟩)] w fun e w' => e = .returned (mateP h xs id) ∧ Below w.heap.size w w' := by
  have hk : (id - 1).toNat < xs.length := by unfold outB at hin; omega
  have hx : xs[(id - 1).toNat]? = some (atI xs id) := by unfold atI; rw [List.getD_eq_getElem?_getD, List.getElem?_eq_getElem hk]; rfl
  obtain ⟨ρ1, _, e0, hR1⟩ := (Rel.start [] w ρ0).open_ rfl g 0 [.v (.slice (some ⟨h, 0, none⟩) len cap)] rfl false (World.block_lt_of_cell? _ _ hg) (fun j v hv => by
    match j, hv with
    | 0, hv => injection hv with hv; rw [← hv]; exact hg) (fun h => by cases h) (fun n r hn => by simp at hn)
  obtain ⟨ρ, ha, e1, hR⟩ := hR1.open_ (by rfl) h ((id - 1).toNat * 21) ((atI xs id).cells.map .v) (denV_und _ _) false hb.lt (fun j v hv => by
      rw [List.getElem?_map] at hv
      cases hj : (atI xs id).cells[j]? with
      | none => rw [hj] at hv; cases hv
      | some u =>
        rw [hj] at hv
        injection hv with hv
        rw [← hv, hb.cell]
        have := insts_at xs _ _ hx j u hj
        rw [List.getElem?_toArray, List.getElem?_append_left (by exact (List.getElem?_eq_some_iff.1 this).1), this]
        rfl) (fun h => by cases h) (fun n r hn hw => by
    rcases hw with hw | hw
    · cases hw
    · match n, hn with
      | 0, hn => injection hn with hn; rw [← hn] at hw; cases hw)
  have e0 : ρ 0 = (g, 0) := (ha 0 (by simp)).trans e0
  have e1 : ρ 1 = (h, (id - 1).toNat * 21) := e1
  refine sim_enter Try.func52 ρ [.ptr 0 0, .ptr 1 0] [⟨[.v (.slice (some ⟨h, 0, none⟩) len cap)], false⟩, ⟨(atI xs id).cells.map .v, false⟩] (by kernel_rfl) (by simp only [denL, LV.den, Nm.at_, e0, e1, Nat.add_zero]) ?_
  have hR := hR.cast rfl
  have hag : Ag 2 ρ ρ [⟨[.v (.slice (some ⟨h, 0, none⟩) len cap)], false⟩, ⟨(atI xs id).cells.map .v, false⟩] := .start 2 ρ _ rfl
  by_cases ho : outB xs (atI xs id).mate
  · rw [show mateP h xs id = .pointer none from by unfold mateP; rw [if_pos (mateI_z (.inl ho))]]
    have ho' : (atI xs id).mate < 1 ∨ (atI xs id).mate > len := by rw [← hl]; exact ho
    refine sim_run 11 [] hR (by kernel_rfl) trivial (fun ρ300 w300 hm300 hR300 => ?_)
    have hag := hag.moved hm300
    refine sim_call 49 [.ptr 0 0, LI ((atI xs id).mate)] (by kernel_rfl) ?_
    have ez0_301 := (hag.at_ 0 (by omega)).trans e0
    simp only [denL, LV.den, Nm.at_, ez0_301, Nat.add_zero]
    refine Calls.mono (at_out _ _ _ _ (by assumption) _ _ _ (by assumption) (by have h := (hR300.at_cell 0 0 (.v (Value.slice (some (Addr.mk h 0 none)) len cap)) (by kernel_rfl)); simp only [Nm.at_, ez0_301] at h; exact h) (fun _ => ⟨h, rfl⟩)) ?_
    rintro e301 w301 ⟨rfl, hb301⟩
    have hR301 := hR300.below hb301
    refine Back.of (.v (Value.pointer none)) hR301 rfl ?_
    refine sim_run 7 [] hR301 (by kernel_rfl) trivial (fun ρ302 w302 hm302 hR302 => ?_)
    have hag := hag.moved hm302
    
    refine sim_eql_nil (.v (.pointer none)) (.ptr 1 0) true (by kernel_rfl) _ rfl rfl ?_
    refine sim_run 8 [] hR302 (by kernel_rfl) trivial (fun ρ400 w400 hm400 hR400 => ?_)
    have hag := hag.moved hm400
    refine sim_ret (.v (Value.pointer none)) hR400 (by kernel_rfl) (by kernel_rfl) ?_
    exact ⟨rfl, hR400.toBelow⟩
    
  · have ho' : ¬((atI xs id).mate < 1 ∨ (atI xs id).mate > len) := by rw [← hl]; exact ho
    by_cases hsame : (atI xs id).mate = id
    · rw [show mateP h xs id = .pointer none from by unfold mateP; rw [if_pos (mateI_z (.inr hsame))]]
      refine sim_run 11 [] hR (by kernel_rfl) trivial (fun ρ500 w500 hm500 hR500 => ?_)
      have hag := hag.moved hm500
      refine sim_call 49 [.ptr 0 0, LI ((atI xs id).mate)] (by kernel_rfl) ?_
      have ez0_501 := (hag.at_ 0 (by omega)).trans e0
      simp only [denL, LV.den, Nm.at_, ez0_501, Nat.add_zero]
      refine Calls.mono (at_in _ _ _ _ (by assumption) _ _ _ (by assumption) (by have h := (hR500.at_cell 0 0 (.v (Value.slice (some (Addr.mk h 0 none)) len cap)) (by kernel_rfl)); simp only [Nm.at_, ez0_501] at h; exact h)) ?_
      rintro e501 w501 ⟨rfl, hb501⟩
      have hR501 := hR500.below hb501
      refine Back.of (.v (Value.pointer (some (Addr.mk h (((atI xs id).mate - 1).toNat * 21) none)))) hR501 rfl ?_
      refine sim_run 7 [] hR501 (by kernel_rfl) trivial (fun ρ502 w502 hm502 hR502 => ?_)
      have hag := hag.moved hm502
      
      refine sim_eql_same (.v (.pointer (some ⟨h, ((atI xs id).mate - 1).toNat * 21, none⟩))) (.ptr 1 0) true (by kernel_rfl) _ rfl (by simp only [LV.den, Nm.at_, hag.at_ 1 (by omega), e1, hsame, Nat.add_zero]) ?_
      refine sim_run 6 [] hR502 (by kernel_rfl) trivial (fun ρ700 w700 hm700 hR700 => ?_)
      have hag := hag.moved hm700
      refine sim_ret (.v (Value.pointer none)) hR700 (by kernel_rfl) (by kernel_rfl) ?_
      exact ⟨rfl, hR700.toBelow⟩
      
    · rw [show mateP h xs id = .pointer (some (plI h (atI xs id).mate)) from by unfold mateP; rw [mateI_of ho hsame, if_neg (by omega)]]
      refine sim_run 11 [] hR (by kernel_rfl) trivial (fun ρ600 w600 hm600 hR600 => ?_)
      have hag := hag.moved hm600
      refine sim_call 49 [.ptr 0 0, LI ((atI xs id).mate)] (by kernel_rfl) ?_
      have ez0_601 := (hag.at_ 0 (by omega)).trans e0
      simp only [denL, LV.den, Nm.at_, ez0_601, Nat.add_zero]
      refine Calls.mono (at_in _ _ _ _ (by assumption) _ _ _ (by assumption) (by have h := (hR600.at_cell 0 0 (.v (Value.slice (some (Addr.mk h 0 none)) len cap)) (by kernel_rfl)); simp only [Nm.at_, ez0_601] at h; exact h)) ?_
      rintro e601 w601 ⟨rfl, hb601⟩
      have hR601 := hR600.below hb601
      refine Back.of (.v (Value.pointer (some (Addr.mk h (((atI xs id).mate - 1).toNat * 21) none)))) hR601 rfl ?_
      refine sim_run 7 [] hR601 (by kernel_rfl) trivial (fun ρ602 w602 hm602 hR602 => ?_)
      have hag := hag.moved hm602
      
      refine sim_eql_ne (.v (.pointer (some ⟨h, ((atI xs id).mate - 1).toNat * 21, none⟩))) (.ptr 1 0) true (by kernel_rfl) _ (plI h id) rfl (by simp only [LV.den, Nm.at_, hag.at_ 1 (by omega), e1, plI, Nat.add_zero]) rfl (plI_ne (by omega) (by unfold outB at hin; omega) hsame) ?_
      refine sim_run 8 [] hR602 (by kernel_rfl) trivial (fun ρ800 w800 hm800 hR800 => ?_)
      have hag := hag.moved hm800
      refine sim_ret (.v (Value.pointer (some (Addr.mk h (((atI xs id).mate - 1).toNat * 21) none)))) hR800 (by kernel_rfl) (by kernel_rfl) ?_
      exact ⟨rfl, hR800.toBelow⟩
      
theorem mate_none (h len cap g : Nat) (xs : List In) (rest : List Value) (id : Int) (w : World) (hg : w.cell? ⟨g, 0, none⟩ = some (.slice (some ⟨h, 0, none⟩) len cap)) (hb : Blk w h 25 (insts xs ++ rest).toArray) (hl : xs.length = len) (hin : ¬outB xs id) (hm : Is64 (atI xs id).mate) (hz : mateI xs id = 0) :
    Calls Try.prog 52 #[.pointer (some ⟨g, 0, none⟩), .pointer (some ⟨h, (id - 1).toNat * 21, none⟩)] w fun e w' => e = .returned (.pointer none) ∧ Below w.heap.size w w' := by
  have := mate_row h len cap g xs rest id w hg hb hl hin hm
  unfold mateP at this
  rw [if_pos hz] at this
  exact this
theorem mate_some (h len cap g : Nat) (xs : List In) (rest : List Value) (id : Int) (w : World) (hg : w.cell? ⟨g, 0, none⟩ = some (.slice (some ⟨h, 0, none⟩) len cap)) (hb : Blk w h 25 (insts xs ++ rest).toArray) (hl : xs.length = len) (hin : ¬outB xs id) (hm : Is64 (atI xs id).mate) (m : Int) (hz : mateI xs id = m ∧ m ≠ 0) :
    Calls Try.prog 52 #[.pointer (some ⟨g, 0, none⟩), .pointer (some ⟨h, (id - 1).toNat * 21, none⟩)] w fun e w' => e = .returned (.pointer (some ⟨h, (m - 1).toNat * 21, none⟩)) ∧ Below w.heap.size w w' := by
  have := mate_row h len cap g xs rest id w hg hb hl hin hm
  unfold mateP at this
  rw [if_neg (by rw [hz.1]; exact hz.2), hz.1] at this
  exact this

/-! ### Lists that are written -/
theorem _root_.List.set_getElem_of_get {α : Type} {l : List α} {k : Nat} {x : α} (h : l[k]? = some x) : l.set k x = l := by
  obtain ⟨hk, rfl⟩ := List.getElem?_eq_some_iff.1 h
  exact List.set_getElem_self hk
theorem outB_upd {xs : List In} {id m : Int} {f : In → In} : outB (updI xs id f) m ↔ outB xs m := by unfold outB updI; rw [List.length_set]
theorem upd_len {xs : List In} {id : Int} {f : In → In} : (updI xs id f).length = xs.length := by unfold updI; rw [List.length_set]
theorem atI_get {xs : List In} {id : Int} (h : ¬outB xs id) : xs[(id - 1).toNat]? = some (atI xs id) := by
  have hk : (id - 1).toNat < xs.length := by unfold outB at h; omega
  unfold atI
  rw [List.getD_eq_getElem?_getD, List.getElem?_eq_getElem hk]
  rfl
theorem atI_upd {xs : List In} {id : Int} {f : In → In} (h : ¬outB xs id) : atI (updI xs id f) id = f (atI xs id) := by
  have hk : (id - 1).toNat < xs.length := by unfold outB at h; omega
  have : (updI xs id f)[(id - 1).toNat]? = some (f (atI xs id)) := by unfold updI; rw [List.getElem?_set, if_pos rfl, if_pos hk]
  exact atI_of this
theorem atI_upd_ne {xs : List In} {id m : Int} {f : In → In} (h : ¬outB xs id) (h' : ¬outB xs m) (hne : m ≠ id) : atI (updI xs id f) m = atI xs m := by
  unfold outB at h h'
  unfold atI updI
  rw [List.getD_eq_getElem?_getD, List.getElem?_set, if_neg (by omega), ← List.getD_eq_getElem?_getD]
theorem mateI_upd {xs : List In} {id : Int} {f : In → In} (h : ¬outB xs id) (hf : (f (atI xs id)).mate = (atI xs id).mate) : mateI (updI xs id f) id = mateI xs id := by
  unfold mateI
  rw [atI_upd h, hf]
  simp only [outB_upd]
theorem mateI_in {xs : List In} {id : Int} (h : mateI xs id ≠ 0) : ¬outB xs (mateI xs id) ∧ mateI xs id ≠ id ∧ mateI xs id = (atI xs id).mate := by
  unfold mateI at h ⊢
  by_cases hc : outB xs (atI xs id).mate ∨ (atI xs id).mate = id
  · rw [if_pos hc] at h
    exact absurd rfl h
  · rw [if_neg hc] at h ⊢
    exact ⟨fun h1 => hc (.inl h1), fun h1 => hc (.inr h1), rfl⟩
theorem upd_upd {xs : List In} {id : Int} {f g : In → In} (h : ¬outB xs id) : updI (updI xs id f) id g = updI xs id (fun x => g (f x)) := by
  have h1 : updI (updI xs id f) id g = (updI xs id f).set (id - 1).toNat (g (atI (updI xs id f) id)) := rfl
  rw [h1, atI_upd h]
  unfold updI
  rw [List.set_set]
theorem upd2_eq {xs : List In} {id m : Int} {f g : In → In} (h : ¬outB xs id) (h' : ¬outB xs m) (hne : m ≠ id) : updI (updI xs id f) m g = (xs.set (id - 1).toNat (f (atI xs id))).set (m - 1).toNat (g (atI xs m)) := by
  have h1 : updI (updI xs id f) m g = (updI xs id f).set (m - 1).toNat (g (atI (updI xs id f) m)) := rfl
  rw [h1, atI_upd_ne h h' hne]
  rfl
/-- elements came into view and are as they were -/
theorem RowI.same1 {ρ : Nm} {rs : List Reg} {w : World} {h : Nat} {xs : List In} {rest : List Value} {id : Int} (hr : RowI ρ rs w h xs rest [(id - 1).toNat]) (hi : ¬outB xs id) (hy : ∀ (j : Nat) (v : Value), (atI xs id).cells[j]? = some v → w.cell? ⟨h, (id - 1).toNat * 21 + j, none⟩ = some v) : Blk w h 25 (insts xs ++ rest).toArray := by
  have := hr.close1 (by unfold outB at hi; omega) (atI xs id) hy
  rw [List.set_getElem_of_get (atI_get hi)] at this
  exact this
theorem RowI.same2 {ρ : Nm} {rs : List Reg} {w : World} {h : Nat} {xs : List In} {rest : List Value} {id m : Int} (hr : RowI ρ rs w h xs rest [(m - 1).toNat, (id - 1).toNat]) (hi : ¬outB xs id) (hm : ¬outB xs m) (hne : id ≠ m) (hy : ∀ (j : Nat) (v : Value), (atI xs id).cells[j]? = some v → w.cell? ⟨h, (id - 1).toNat * 21 + j, none⟩ = some v) (hz : ∀ (j : Nat) (v : Value), (atI xs m).cells[j]? = some v → w.cell? ⟨h, (m - 1).toNat * 21 + j, none⟩ = some v) : Blk w h 25 (insts xs ++ rest).toArray := by
  have := hr.close2 (by unfold outB at hi; omega) (by unfold outB at hm; omega) (by unfold outB at hi hm; omega) (atI xs id) (atI xs m) hy hz
  rw [List.set_getElem_of_get (atI_get hi), List.set_getElem_of_get (atI_get hm)] at this
  exact this
theorem doI_t {e : Int} {x : In} (h : (nextM x.state e).2 = true) : doI e x = { x with state := (nextM x.state e).1 } := by unfold doI; rw [if_pos h]
theorem doI_f {e : Int} {x : In} (h : (nextM x.state e).2 = false) : doI e x = x := by unfold doI; rw [if_neg (by rw [h]; simp)]
end Go.Proofs.Ytodjhkmbgennaaa
