/-
  book: what stays of a book behind its methods (mates' numbers, what a party may do); plain laws for BookRights.
-/
import Derived.Test.YtodjhkmbgennaaaBookM
import Derived.Test.YtodjhkmbgennaaaBookQ
import Derived.Test.YtodjhkmbgennaaaLight
namespace Go.Proofs.Ytodjhkmbgennaaa
open Go Go.RowKit
attribute [local irreducible] run goO goN ordGoN eqlOf eqlOper eqlOfO cellL leaveK someK nextK nextT nextOT nextOD loopBody loopRest loopK fillJ tmplOf tmplJ mergeT At AtO drawOk ordOf gateOf callC callO topOp topO idxOf appOf storeOf clearOf sliceOf calleeOf calleeO topQ idxQ newRowOf resL stepOp seek

/-- each mate's number is one of 64 bits -/
def okL (xs : List In) : Prop := ∀ x ∈ xs, Is64 x.mate
theorem okL.at_ {xs : List In} (h : okL xs) (id : Int) : Is64 (atI xs id).mate := by
  unfold atI
  rw [List.getD_eq_getElem?_getD]
  cases e : xs[(id - 1).toNat]? with
  | none => exact ⟨by decide, by decide⟩
  | some x => exact h x (List.mem_of_getElem? e)
theorem okL.upd {xs : List In} (h : okL xs) (id : Int) {f : In → In} (hf : Is64 (f (atI xs id)).mate) : okL (updI xs id f) := by
  intro x hx
  unfold updI at hx
  rcases List.mem_or_eq_of_mem_set hx with hx | rfl
  · exact h x hx
  · exact hf
theorem doI_mate (ev : Int) (x : In) : (doI ev x).mate = x.mate := by unfold doI; split <;> rfl
theorem okL.add {xs : List In} (h : okL xs) (t : Tm) (prio : Int) (part held : Bool) : okL (addM xs t prio part held).1 := by
  unfold addM
  split
  · exact h
  · split
    · exact h
    · intro x hx
      rcases List.mem_append.1 hx with hx | hx
      · exact h x hx
      · rw [List.mem_singleton.1 hx]
        show Is64 0
        exact ⟨by decide, by decide⟩
theorem okL.cancel {xs : List In} (h : okL xs) (party : ByteArray) (id : Int) : okL (cancelM xs party id).1 := by
  unfold cancelM
  simp only
  split
  · exact h
  · split
    · exact h.upd id (by rw [doI_mate]; exact h.at_ id)
    · have h2 : okL (updI xs id (fun x => { x with wish := true })) := h.upd id (h.at_ id)
      split
      · refine okL.upd (h2.upd _ ?_) _ ?_
        · rw [doI_mate]; exact h2.at_ _
        · rw [doI_mate]; exact okL.at_ (h2.upd _ (by rw [doI_mate]; exact h2.at_ _)) _
      · exact h2
theorem okL.pair {xs : List In} (h : okL xs) (d r amount : Int) (hd : Is64 d) (hr : Is64 r) : okL (pairM xs d r amount).1 := by
  unfold pairM
  split
  · exact h
  · split
    · exact h
    · split
      · exact h
      · exact okL.upd (h.upd d (f := fun x => doI 0 (pairedI r amount x)) (by rw [doI_mate]; exact hr)) r (f := fun x => doI 0 (pairedI d amount x)) (by rw [doI_mate]; exact hd)
theorem BkO.cut {ρ ρ' : Nm} {rs rs' : List Reg} {w : World} {B g N : Nat} {v : Value} {xs : List In} (h : BkO ρ' rs' w B g v xs) (hag : Ag N ρ ρ' rs') (hN : rs.length = N) (e : rs'.take N = rs) : BkO ρ rs w B g v xs := by
  have hw : ∀ k, wrS ρ rs k → wrS ρ' rs' k := by
    rintro k ⟨n, r, hn, hr, hk⟩
    have hlt : n < N := by rw [← hN]; exact (List.getElem?_eq_some_iff.1 hn).1
    refine ⟨n, r, ?_, hr, by rw [hag.at_ n hlt]; exact hk⟩
    rw [← e, List.getElem?_take, if_pos hlt] at hn
    exact hn
  exact ⟨h.bk, fun hx => h.far (hw _ hx), fun k hk hx => h.farV k hk (hw _ hx)⟩
theorem BkO.castR {ρ : Nm} {rs rs' : List Reg} {w : World} {B g : Nat} {v : Value} {xs : List In} (h : BkO ρ rs w B g v xs) (e : rs = rs') : BkO ρ rs' w B g v xs := e ▸ h
theorem Rel.reads1 {T : List Nat} {w0 w : World} {ρ : Nm} {rs : List Reg} (hR : Rel T w0 ρ rs w) (n : Nat) (z : Int) (h : cellL rs n 0 = some (LI z)) : Reads w w.heap.size 1 (some (ρ.at_ n 0)) 1 (ints [z]) := by
  have hc := hR.at_cell n 0 _ h
  refine ⟨rfl, fun _ => ⟨_, rfl, World.block_lt_of_cell? _ _ hc, fun j v hv => ?_⟩⟩
  match j, hv with
  | 0, hv =>
    have hv : Value.int .i64 z = v := by simpa [ints] using hv
    rw [← hv]
    exact hc
theorem BkO.farA {ρ : Nm} {rs : List Reg} {w : World} {B g : Nat} {v : Value} {xs : List In} (h : BkO ρ rs w B g v xs) (n : Nat) (e : (rs[n]?).map (·.wr) = some true) : ∀ a, some (ρ.at_ n 0) = some a → v.ownBlock ≠ some a.block := by
  intro a ha hv
  injection ha with ha
  obtain ⟨r, hr, hw⟩ := Option.map_eq_some_iff.1 e
  exact h.farV _ hv ⟨n, r, hr, hw, by rw [← ha]; rfl⟩
theorem Tm.okM.short {M : Nat} {t : Tm} (h : t.okM M) (hM : M ≤ 140737488355328) : t.short := ⟨by have := h.party; omega, by have := h.account; omega, by have := h.money; omega, by have := h.other; omega, by have := h.asset; omega, by have := h.ccy; omega, by have := h.ref; omega⟩
theorem ba_beq (s : ByteArray) : (s == s) = true := by
  cases s with
  | mk d => exact beq_self_eq_true d
theorem may_upd {xs : List In} {party : ByteArray} {id : Int} (f : In → In) (h1 : ∀ x, (f x).term.party = x.term.party) (h2 : ∀ x, (f x).state = x.state) : mayM (updI xs id f) party id = mayM xs party id := by
  by_cases ho : outB xs id
  · have ho' : outB (updI xs id f) id := outB_upd.2 ho
    unfold mayM
    rw [if_pos ho, if_pos ho']
  · have ho' : ¬outB (updI xs id f) id := fun h => ho (outB_upd.1 h)
    unfold mayM
    rw [if_neg ho, if_neg ho', atI_upd ho, h1, h2]
theorem hold_code (xs : List In) (p : ByteArray) (a : Int) : holdE xs p [a] = mayM xs p a := by
  simp only [holdE]
  split
  · rfl
  · rename_i h
    exact (Decidable.not_not.1 h).symm
theorem may_hold (xs : List In) (p : ByteArray) (on : Bool) (a : Int) : mayM (holdM xs p on [a]) p a = mayM xs p a := by
  unfold holdM
  split
  · exact may_upd (heldI on) (fun _ => rfl) (fun _ => rfl)
  · rfl
theorem may_keep (xs : List In) (p : ByteArray) (a : Int) : mayM (keepM xs p a) p a = mayM xs p a := by
  unfold keepM
  split
  · exact may_upd _ (fun _ => rfl) (fun _ => rfl)
  · rfl
theorem may_prio (xs : List In) (p : ByteArray) (a n : Int) : mayM (setPrioM xs p a n).1 p a = mayM xs p a := by
  unfold setPrioM
  split
  · split
    · exact may_upd (fun x => { x with prio := n }) (fun _ => rfl) (fun _ => rfl)
    · rfl
  · rfl
theorem prio_code (xs : List In) (p : ByteArray) (a : Int) : (setPrioM xs p a 2).2 = mayM xs p a := by
  unfold setPrioM
  split
  · rename_i h
    rw [h]
    rfl
  · rfl
/-- the four in a row -/
abbrev fourM (xs : List In) (p : ByteArray) (a : Int) (on pt : Bool) : List In := setPartM (setPrioM (keepM (holdM xs p on [a]) p a) p a 2).1 p a pt
theorem four_no {xs : List In} {p : ByteArray} {a : Int} {on pt : Bool} (h : mayM xs p a ≠ 0) : fourM xs p a on pt = xs := by
  have e1 : holdM xs p on [a] = xs := by unfold holdM; rw [hold_code, if_neg h]
  have e2 : keepM xs p a = xs := by unfold keepM; rw [if_neg h]
  have e3 : (setPrioM xs p a 2).1 = xs := by unfold setPrioM; rw [if_neg h]
  have e4 : setPartM xs p a pt = xs := by unfold setPartM; rw [if_neg h]
  show setPartM (setPrioM (keepM (holdM xs p on [a]) p a) p a 2).1 p a pt = xs
  rw [e1, e2, e3, e4]
theorem get_atI {xs : List In} {a : Int} (h : ¬outB xs a) : getM xs a = (atI xs a, 0) := by
  unfold getM
  rw [if_neg (by unfold outB at h; exact h)]
  rfl
theorem four_yes {xs : List In} {p : ByteArray} {a : Int} {on pt : Bool} (h : mayM xs p a = 0) : getM (fourM xs p a on pt) a = ({ atI xs a with held := on, wish := false, prio := 2, part := pt }, 0) := by
  have ho := may_in h
  have e1 : holdM xs p on [a] = updI xs a (heldI on) := by unfold holdM; rw [hold_code, if_pos h]; rfl
  have h1 : mayM (updI xs a (heldI on)) p a = 0 := by rw [← e1, may_hold, h]
  have o1 := may_in h1
  have e2 : keepM (updI xs a (heldI on)) p a = updI (updI xs a (heldI on)) a (fun x => { x with wish := false }) := by unfold keepM; rw [if_pos h1]
  have h2 : mayM (updI (updI xs a (heldI on)) a (fun x => { x with wish := false })) p a = 0 := by rw [← e2, may_keep, h1]
  have o2 := may_in h2
  have e3 : (setPrioM (updI (updI xs a (heldI on)) a (fun x => { x with wish := false })) p a 2).1 = updI (updI (updI xs a (heldI on)) a (fun x => { x with wish := false })) a (fun x => { x with prio := 2 }) := by unfold setPrioM; rw [if_pos h2]; rfl
  have h3 : mayM (updI (updI (updI xs a (heldI on)) a (fun x => { x with wish := false })) a (fun x => { x with prio := 2 })) p a = 0 := by rw [← e3, may_prio, h2]
  have o3 := may_in h3
  show getM (setPartM (setPrioM (keepM (holdM xs p on [a]) p a) p a 2).1 p a pt) a = _
  rw [e1, e2, e3]
  unfold setPartM
  rw [if_pos h3, get_atI (fun h => o3 (outB_upd.1 h)), atI_upd o3, atI_upd o2, atI_upd o1, atI_upd ho]
  rfl
end Go.Proofs.Ytodjhkmbgennaaa
