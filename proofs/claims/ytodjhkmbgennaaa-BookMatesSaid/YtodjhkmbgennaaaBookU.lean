/-
  A book's mates: what holds behind every step (plain).
-/
import Derived.Test.YtodjhkmbgennaaaBookT
namespace Go.Proofs.Ytodjhkmbgennaaa
open Go Go.RowKit

/-- what is known of an instruction by itself -/
structure Lone (x : In) (id : Int) : Prop where
  idd : x.id = id
  q0 : 0 ≤ x.term.qty
  q1 : x.term.qty ≤ 36028797018963968
  a0 : 0 ≤ x.term.amount
  a1 : x.term.amount ≤ 36028797018963968
  d0 : 0 ≤ x.done
  d1 : x.done ≤ x.term.qty
  p0 : 0 ≤ x.paid
  s0 : 0 ≤ x.state
  s5 : x.state ≤ 5
  free : x.mate = 0 → x.done = 0 ∧ x.paid = 0 ∧ (x.state = 0 ∨ x.state = 4 ∨ x.state = 5)
  tied : x.mate ≠ 0 → 1 ≤ x.state ∧ x.paid ≤ x.term.amount ∧ (x.state = 3 → x.done = x.term.qty) ∧ (x.state ≤ 2 → x.done < x.term.qty ∨ x.term.qty = 0)
/-- what is known of two halves -/
structure Halves (x y : In) (id m : Int) : Prop where
  xm : x.mate = m
  ym : y.mate = id
  st : y.state = x.state
  dn : y.done = x.done
  pd : y.paid = x.paid
  dl : y.term.deliver ≠ x.term.deliver
  am : y.term.amount = x.term.amount
  qt : y.term.qty = x.term.qty
theorem Halves.symm {x y : In} {id m : Int} (h : Halves x y id m) : Halves y x m id := ⟨h.ym, h.xm, h.st.symm, h.dn.symm, h.pd.symm, h.dl.symm, h.am.symm, h.qt.symm⟩
structure Good (xs : List In) (id : Int) : Prop where
  lone : Lone (atI xs id) id
  pair : (atI xs id).mate ≠ 0 → ¬outB xs (atI xs id).mate ∧ (atI xs id).mate ≠ id ∧ Halves (atI xs id) (atI xs (atI xs id).mate) id (atI xs id).mate
structure Inv (xs : List In) : Prop where
  good : ∀ id, ¬outB xs id → Good xs id
  few : xs.length ≤ 120
theorem outB_zero (xs : List In) : outB xs 0 := .inl (by decide)
theorem Inv.mate {xs : List In} (h : Inv xs) {id : Int} (hi : ¬outB xs id) : mateI xs id = (atI xs id).mate := by
  unfold mateI
  by_cases hz : (atI xs id).mate = 0
  · rw [if_pos (.inl (by rw [hz]; exact outB_zero xs)), hz]
  · obtain ⟨h1, h2, _⟩ := (h.good id hi).pair hz
    rw [if_neg (fun hc => hc.elim h1 h2)]
theorem Inv.nil : Inv [] := ⟨fun id h => absurd (outB_nil id) h, by decide⟩
theorem Inv.okL {xs : List In} (h : Inv xs) : okL xs := by
  intro x hx
  obtain ⟨k, hk, rfl⟩ := List.mem_iff_getElem.1 hx
  have hin : ¬outB xs ((k : Int) + 1) := by unfold outB; omega
  have e : atI xs ((k : Int) + 1) = xs[k] := atI_of (by rw [show ((k : Int) + 1 - 1).toNat = k by omega]; exact List.getElem?_eq_getElem hk)
  have hg := h.good _ hin
  by_cases hz : xs[k].mate = 0
  · rw [hz]; exact ⟨by decide, by decide⟩
  · have h1 := (hg.pair (by rw [e]; exact hz)).1
    rw [e] at h1
    have := h.few
    unfold outB at h1
    unfold Is64
    omega
/-- an alone instruction is changed -/
theorem Inv.upd1 {xs : List In} (h : Inv xs) {id : Int} (hi : ¬outB xs id) (f : In → In) (h0 : (atI xs id).mate = 0) (h1 : (f (atI xs id)).mate = 0) (hl : Lone (f (atI xs id)) id) : Inv (updI xs id f) := by
  refine ⟨fun j hj => ?_, by rw [upd_len]; exact h.few⟩
  have hj := fun hc => hj (outB_upd.2 hc)
  by_cases e : j = id
  · subst e
    refine ⟨by rw [atI_upd hi]; exact hl, fun hm => ?_⟩
    rw [atI_upd hi] at hm
    exact absurd h1 hm
  · refine ⟨by rw [atI_upd_ne hi hj e]; exact (h.good j hj).lone, fun hm => ?_⟩
    rw [atI_upd_ne hi hj e] at hm ⊢
    obtain ⟨g1, g2, g3⟩ := (h.good j hj).pair hm
    have hne : (atI xs j).mate ≠ id := fun e2 => by
      have := g3.ym
      rw [e2, h0] at this
      rw [← this] at hj
      exact hj (outB_zero xs)
    refine ⟨fun hc => g1 (outB_upd.1 hc), g2, ?_⟩
    rw [atI_upd_ne hi g1 hne]
    exact g3
/-- an instruction's flags are changed -/
theorem Inv.flag {xs : List In} (h : Inv xs) {id : Int} (hi : ¬outB xs id) (f : In → In) (h1 : ∀ x, (f x).id = x.id ∧ (f x).term = x.term ∧ (f x).state = x.state ∧ (f x).mate = x.mate ∧ (f x).done = x.done ∧ (f x).paid = x.paid) : Inv (updI xs id f) := by
  have hat : ∀ j, ¬outB xs j → ∃ y, atI (updI xs id f) j = y ∧ y.id = (atI xs j).id ∧ y.term = (atI xs j).term ∧ y.state = (atI xs j).state ∧ y.mate = (atI xs j).mate ∧ y.done = (atI xs j).done ∧ y.paid = (atI xs j).paid := by
    intro j hj
    by_cases e : j = id
    · subst e
      exact ⟨_, atI_upd hi, h1 _⟩
    · exact ⟨_, atI_upd_ne hi hj e, rfl, rfl, rfl, rfl, rfl, rfl⟩
  refine ⟨fun j hj => ?_, by rw [upd_len]; exact h.few⟩
  have hj := fun hc => hj (outB_upd.2 hc)
  obtain ⟨y, ey, y1, y2, y3, y4, y5, y6⟩ := hat j hj
  have g := (h.good j hj)
  refine ⟨?_, fun hm => ?_⟩
  · rw [ey]
    have l := g.lone
    constructor <;> simp only [y1, y2, y3, y4, y5, y6]
    · exact l.idd
    · exact l.q0
    · exact l.q1
    · exact l.a0
    · exact l.a1
    · exact l.d0
    · exact l.d1
    · exact l.p0
    · exact l.s0
    · exact l.s5
    · exact l.free
    · exact l.tied
  · rw [ey] at hm ⊢
    rw [y4] at hm ⊢
    obtain ⟨g1, g2, g3⟩ := g.pair hm
    obtain ⟨z, ez, z1, z2, z3, z4, z5, z6⟩ := hat _ g1
    refine ⟨fun hc => g1 (outB_upd.1 hc), g2, ?_⟩
    rw [ez]
    constructor <;> simp only [y1, y2, y3, y4, y5, y6, z1, z2, z3, z4, z5, z6]
    · exact g3.ym
    · exact g3.st
    · exact g3.dn
    · exact g3.pd
    · exact g3.dl
    · exact g3.am
    · exact g3.qt
/-- two are changed that are, or become, each other's half -/
theorem Inv.upd2 {xs : List In} (h : Inv xs) {id m : Int} (hi : ¬outB xs id) (hm : ¬outB xs m) (hne : m ≠ id) (f g : In → In) (o1 : (atI xs id).mate = 0 ∨ (atI xs id).mate = m) (o2 : (atI xs m).mate = 0 ∨ (atI xs m).mate = id)
    (l1 : Lone (f (atI xs id)) id) (l2 : Lone (g (atI xs m)) m) (hh : Halves (f (atI xs id)) (g (atI xs m)) id m) : Inv (updI (updI xs id f) m g) := by
  have hm' : ¬outB (updI xs id f) m := fun hc => hm (outB_upd.1 hc)
  have hi' : ¬outB (updI xs id f) id := fun hc => hi (outB_upd.1 hc)
  have eid : atI (updI (updI xs id f) m g) id = f (atI xs id) := by rw [atI_upd_ne hm' hi' hne.symm, atI_upd hi]
  have em : atI (updI (updI xs id f) m g) m = g (atI xs m) := by rw [atI_upd hm', atI_upd_ne hi hm hne]
  have eo : ∀ j, ¬outB xs j → j ≠ id → j ≠ m → atI (updI (updI xs id f) m g) j = atI xs j := fun j hj h1 h2 => by
    rw [atI_upd_ne hm' (fun hc => hj (outB_upd.1 hc)) h2, atI_upd_ne hi hj h1]
  have ho : ∀ j, outB (updI (updI xs id f) m g) j ↔ outB xs j := fun j => by rw [outB_upd, outB_upd]
  refine ⟨fun j hj => ?_, by rw [upd_len, upd_len]; exact h.few⟩
  rw [ho] at hj
  by_cases e : j = id
  · subst e
    refine ⟨by rw [eid]; exact l1, fun _ => ?_⟩
    rw [eid, hh.xm]
    exact ⟨by rw [ho]; exact hm, hne, by rw [em]; exact hh⟩
  · by_cases e2 : j = m
    · subst e2
      refine ⟨by rw [em]; exact l2, fun _ => ?_⟩
      rw [em, hh.ym]
      exact ⟨by rw [ho]; exact hi, hne.symm, by rw [eid]; exact hh.symm⟩
    · refine ⟨by rw [eo j hj e e2]; exact (h.good j hj).lone, fun hmz => ?_⟩
      rw [eo j hj e e2] at hmz ⊢
      obtain ⟨g1, g2, g3⟩ := (h.good j hj).pair hmz
      have hz : j ≠ 0 := fun e0 => hj (by rw [e0]; exact outB_zero xs)
      have n1 : (atI xs j).mate ≠ id := fun e3 => by
        have := g3.ym
        rw [e3] at this
        rcases o1 with o1 | o1
        · rw [o1] at this; exact hz this.symm
        · rw [o1] at this; exact e2 this.symm
      have n2 : (atI xs j).mate ≠ m := fun e3 => by
        have := g3.ym
        rw [e3] at this
        rcases o2 with o2 | o2
        · rw [o2] at this; exact hz this.symm
        · rw [o2] at this; exact e this.symm
      refine ⟨by rw [ho]; exact g1, g2, ?_⟩
      rw [eo _ g1 n1 n2]
      exact g3
theorem next4 {s : Int} (h : openB s = true) : nextM s 4 = (5, true) := by
  unfold nextM
  rw [if_neg (by rw [h]; decide)]
  simp
theorem next3 {s : Int} (h : openB s = true) : nextM s 3 = (4, true) := by
  unfold nextM
  rw [if_neg (by rw [h]; decide)]
  simp
/-- a state that ends it all -/
theorem Lone.over {x : In} {id s : Int} (h : Lone x id) (hs : s = 4 ∨ s = 5) : Lone { x with state := s } id :=
  ⟨h.idd, h.q0, h.q1, h.a0, h.a1, h.d0, h.d1, h.p0, by show 0 ≤ s; omega, by show s ≤ 5; omega, fun hz => ⟨(h.free hz).1, (h.free hz).2.1, by show s = 0 ∨ s = 4 ∨ s = 5; omega⟩, fun hz => ⟨by show 1 ≤ s; omega, (h.tied hz).2.1, fun e => by have e : s = 3 := e; omega, fun e => by have e : s ≤ 2 := e; omega⟩⟩
theorem Inv.exp {xs : List In} (h : Inv xs) (id : Int) : Inv (expI xs id) := by
  unfold expI
  split
  · exact h
  · rename_i hc
    have hi : ¬outB xs id := fun e => hc (.inl e)
    have hop : openB (atI xs id).state = true := by cases e : openB (atI xs id).state with
      | true => rfl
      | false => exact absurd (.inr e) hc
    have g := h.good id hi
    have ed : doI 4 (atI xs id) = { atI xs id with state := 5 } := by rw [doI_t (by rw [next4 hop])]; simp [next4 hop]
    rw [h.mate hi]
    split
    · rename_i hz
      exact h.upd1 hi _ hz (by rw [ed]; exact hz) (by rw [ed]; exact g.lone.over (.inr rfl))
    · rename_i hz
      obtain ⟨g1, g2, g3⟩ := g.pair hz
      have ed2 : doI 4 (atI xs (atI xs id).mate) = { atI xs (atI xs id).mate with state := 5 } := by
        have : openB (atI xs (atI xs id).mate).state = true := by rw [g3.st]; exact hop
        rw [doI_t (by rw [next4 this])]
        simp [next4 this]
      refine h.upd2 hi g1 g2 _ _ (.inr rfl) (.inr g3.ym) (by rw [ed]; exact g.lone.over (.inr rfl)) (by rw [ed2]; exact (h.good _ g1).lone.over (.inr rfl)) ?_
      rw [ed, ed2]
      exact ⟨g3.xm, g3.ym, rfl, g3.dn, g3.pd, g3.dl, g3.am, g3.qt⟩
theorem Inv.expAll : ∀ (ids : List Int) {xs : List In}, Inv xs → Inv (expAll xs ids)
  | [], _, h => h
  | id :: ids, _, h => Inv.expAll ids (h.exp id)
theorem Inv.hold {xs : List In} (h : Inv xs) (party : ByteArray) (on : Bool) (ids : List Int) : Inv (holdM xs party on ids) := by
  unfold holdM
  split
  · rename_i he
    have : ∀ (ids : List Int) (ys : List In), Inv ys → (∀ i ∈ ids, ¬outB ys i) → Inv (holdAll ys on ids) := by
      intro ids
      induction ids with
      | nil => intro ys hy _; exact hy
      | cons i ids ih =>
        intro ys hy hin
        refine ih (updI ys i (heldI on)) (hy.flag (hin i (by simp)) _ (fun x => ⟨rfl, rfl, rfl, rfl, rfl, rfl⟩)) (fun j hj hc => hin j (by simp [hj]) (outB_upd.1 hc))
    have hall : ∀ (ids : List Int), holdE xs party ids = 0 → ∀ i ∈ ids, ¬outB xs i := by
      intro ids
      induction ids with
      | nil => intro _ i hi; cases hi
      | cons j ids ih =>
        intro h0 i hi
        simp only [holdE] at h0
        split at h0
        · rename_i hj; exact absurd h0 hj
        · rename_i hj
          rcases List.mem_cons.1 hi with rfl | hi
          · exact may_in (Decidable.not_not.1 hj)
          · exact ih h0 i hi
    exact this ids xs h (hall ids he)
  · exact h
theorem Inv.keep {xs : List In} (h : Inv xs) (party : ByteArray) (id : Int) : Inv (keepM xs party id) := by
  unfold keepM
  split
  · rename_i h0
    exact h.flag (may_in h0) _ (fun x => ⟨rfl, rfl, rfl, rfl, rfl, rfl⟩)
  · exact h
theorem may_open {xs : List In} {party : ByteArray} {id : Int} (h : mayM xs party id = 0) : openB (atI xs id).state = true := by
  have hi := may_in h
  unfold mayM at h
  rw [if_neg hi] at h
  split at h
  · cases h
  · split at h
    · cases h
    · rename_i ho
      cases e : openB (atI xs id).state with
      | true => rfl
      | false => exact absurd e ho
theorem Inv.cancel {xs : List In} (h : Inv xs) (party : ByteArray) (id : Int) : Inv (cancelM xs party id).1 := by
  unfold cancelM
  simp only
  split
  · exact h
  · rename_i h0
    have h0 := Decidable.not_not.1 h0
    have hi := may_in h0
    have hop := may_open h0
    have g := h.good id hi
    have ed : ∀ x : In, openB x.state = true → doI 3 x = { x with state := 4 } := fun x hx => by rw [doI_t (by rw [next3 hx])]; simp [next3 hx]
    split
    · rename_i hs
      have hz : (atI xs id).mate = 0 := by
        by_cases hz : (atI xs id).mate = 0
        · exact hz
        · have := (g.lone.tied hz).1; omega
      exact h.upd1 hi _ hz (by rw [ed _ hop]; exact hz) (by rw [ed _ hop]; exact g.lone.over (.inl rfl))
    · have h2 : Inv (updI xs id (fun x => { x with wish := true })) := h.flag hi _ (fun x => ⟨rfl, rfl, rfl, rfl, rfl, rfl⟩)
      split
      · rename_i hw
        have hz := hw.1
        rw [h.mate hi] at hz ⊢
        obtain ⟨g1, g2, g3⟩ := g.pair hz
        rw [upd_upd hi]
        have ho2 : openB (atI xs (atI xs id).mate).state = true := by rw [g3.st]; exact hop
        have e1 : doI 3 { atI xs id with wish := true } = { atI xs id with wish := true, state := 4 } := ed _ hop
        have e2 := ed _ ho2
        have l1 : Lone { atI xs id with wish := true, state := 4 } id := by
          have l := g.lone.over (s := 4) (.inl rfl)
          exact ⟨l.idd, l.q0, l.q1, l.a0, l.a1, l.d0, l.d1, l.p0, l.s0, l.s5, l.free, l.tied⟩
        refine h.upd2 hi g1 g2 (fun x => doI 3 { x with wish := true }) _ (.inr rfl) (.inr g3.ym) (by rw [e1]; exact l1) (by rw [e2]; exact (h.good _ g1).lone.over (.inl rfl)) ?_
        rw [e1, e2]
        exact ⟨g3.xm, g3.ym, rfl, g3.dn, g3.pd, g3.dl, g3.am, g3.qt⟩
      · exact h2
theorem atI_app {xs ys : List In} {id : Int} (h : ¬outB xs id) : atI (xs ++ ys) id = atI xs id := by
  refine atI_of ?_
  unfold outB at h
  rw [List.getElem?_append_left (by omega)]
  exact atI_get (by unfold outB; exact h)
theorem Inv.add {xs : List In} (h : Inv xs) (t : Tm) (prio : Int) (part held : Bool) (q0 : 0 ≤ t.qty) (q1 : t.qty ≤ 36028797018963968) (a0 : 0 ≤ t.amount) (a1 : t.amount ≤ 36028797018963968) : Inv (addM xs t prio part held).1 := by
  unfold addM
  split
  · exact h
  · split
    · exact h
    · rename_i hf
      refine ⟨fun j hj => ?_, by simp; omega⟩
      by_cases hx : outB xs j
      · have e : j = (xs.length : Int) + 1 := by unfold outB at hj hx; simp at hj; omega
        subst e
        have e : atI (xs ++ [newI xs.length t prio part held]) ((xs.length : Int) + 1) = newI xs.length t prio part held := atI_of (by rw [List.getElem?_append_right (by omega), show ((xs.length : Int) + 1 - 1).toNat - xs.length = 0 by omega]; rfl)
        refine ⟨by rw [e]; exact ⟨rfl, q0, q1, a0, a1, Int.le_refl _, q0, Int.le_refl _, Int.le_refl _, (by decide : (0 : Int) ≤ 5), fun _ => ⟨rfl, rfl, .inl rfl⟩, fun hc => absurd rfl hc⟩, fun hc => ?_⟩
        rw [e] at hc
        exact absurd rfl hc
      · refine ⟨by rw [atI_app hx]; exact (h.good j hx).lone, fun hm => ?_⟩
        rw [atI_app hx] at hm ⊢
        obtain ⟨g1, g2, g3⟩ := (h.good j hx).pair hm
        refine ⟨fun hc => g1 ?_, g2, by rw [atI_app g1]; exact g3⟩
        unfold outB at hc g1 ⊢
        simp at hc
        omega
theorem Inv.pair {xs : List In} (h : Inv xs) (d r amount : Int) : Inv (pairM xs d r amount).1 := by
  unfold pairM
  split
  · exact h
  · split
    · exact h
    · split
      · exact h
      · rename_i h1 h2 h3
        have hd : ¬outB xs d := fun e => h1 (.inl e)
        have hr : ¬outB xs r := fun e => h1 (.inr e)
        have sd : (atI xs d).state = 0 := by by_cases e : (atI xs d).state = 0; exact e; exact absurd (.inl e) h2
        have sr : (atI xs r).state = 0 := by by_cases e : (atI xs r).state = 0; exact e; exact absurd (.inr e) h2
        have hne : r ≠ d := fun e => h3 (.inl e.symm)
        have dd : (atI xs d).term.deliver = true := by cases e : (atI xs d).term.deliver; exact absurd (.inr (.inl e)) h3; rfl
        have dr : (atI xs r).term.deliver = false := by cases e : (atI xs r).term.deliver; rfl; exact absurd (.inr (.inr (.inl e))) h3
        have hq : (atI xs d).term.qty = (atI xs r).term.qty := by by_cases e : (atI xs d).term.qty = (atI xs r).term.qty; exact e; exact absurd (.inr (.inr (.inr (.inl e)))) h3
        have ha0 : 0 ≤ amount := by by_cases e : amount < 0; exact absurd (.inr (.inr (.inr (.inr (.inl e))))) h3; omega
        have ha1 : amount ≤ 1125899906842624 := by by_cases e : amount > 1125899906842624; exact absurd (.inr (.inr (.inr (.inr (.inr e))))) h3; omega
        have gd := (h.good d hd).lone
        have gr := (h.good r hr).lone
        have md : (atI xs d).mate = 0 := by by_cases hz : (atI xs d).mate = 0; exact hz; have := (gd.tied hz).1; omega
        have mr : (atI xs r).mate = 0 := by by_cases hz : (atI xs r).mate = 0; exact hz; have := (gr.tied hz).1; omega
        have n0 : nextM 0 0 = (1, true) := by decide
        have ed : ∀ (x : In) (m : Int), x.state = 0 → doI 0 (pairedI m amount x) = { pairedI m amount x with state := 1 } := fun x m hx => by
          have e : (pairedI m amount x).state = 0 := hx
          rw [doI_t (by rw [e, n0]), e, n0]
        have z1 : d ≠ 0 := fun e => hd (by rw [e]; exact outB_zero xs)
        have z2 : r ≠ 0 := fun e => hr (by rw [e]; exact outB_zero xs)
        have lone : ∀ (x : In) (id m : Int), Lone x id → x.mate = 0 → m ≠ 0 → Lone { pairedI m amount x with state := 1 } id := fun x id m l hx hm => by
          have hf := l.free hx
          refine ⟨l.idd, l.q0, l.q1, ha0, by show amount ≤ _; omega, l.d0, l.d1, l.p0, by show (0 : Int) ≤ 1; decide, by show (1 : Int) ≤ 5; decide, fun e => absurd e hm, fun _ => ⟨by show (1 : Int) ≤ 1; decide, by show x.paid ≤ amount; omega, fun e => by have e : (1 : Int) = 3 := e; omega, fun _ => ?_⟩⟩
          show x.done < x.term.qty ∨ x.term.qty = 0
          have := l.q0
          omega
        refine h.upd2 hd hr hne (fun x => doI 0 (pairedI r amount x)) (fun x => doI 0 (pairedI d amount x)) (.inl md) (.inl mr) (by show Lone (doI 0 (pairedI r amount (atI xs d))) d; rw [ed _ _ sd]; exact lone _ _ _ gd md z2) (by show Lone (doI 0 (pairedI d amount (atI xs r))) r; rw [ed _ _ sr]; exact lone _ _ _ gr mr z1) ?_
        show Halves (doI 0 (pairedI r amount (atI xs d))) (doI 0 (pairedI d amount (atI xs r))) d r
        rw [ed _ _ sd, ed _ _ sr]
        have fd := gd.free md
        have fr := gr.free mr
        exact ⟨rfl, rfl, rfl, by show (atI xs r).done = (atI xs d).done; omega, by show (atI xs r).paid = (atI xs d).paid; omega, by show (atI xs r).term.deliver ≠ (atI xs d).term.deliver; rw [dd, dr]; decide, rfl, hq.symm⟩
theorem Inv.settle {xs : List In} (h : Inv xs) (id qty paid : Int) : Inv (settleM xs id qty paid).1 := by
  unfold settleM
  split
  · exact h
  · rename_i hi
    simp only
    split
    · exact h
    · rename_i hs
      split
      · exact h
      · rename_i ha
        have g := h.good id hi
        have l := g.lone
        have hs : (atI xs id).state = 1 ∨ (atI xs id).state = 2 := by by_cases e : (atI xs id).state = 1; exact .inl e; by_cases e2 : (atI xs id).state = 2; exact .inr e2; exact absurd ⟨e, e2⟩ hs
        have hz : (atI xs id).mate ≠ 0 := fun e => by have := l.free e; omega
        obtain ⟨g1, g2, g3⟩ := g.pair hz
        have l2 := (h.good _ g1).lone
        have t := l.tied hz
        have hleft : leftI (atI xs id) = (atI xs id).term.qty - (atI xs id).done := by unfold leftI; rw [if_neg (by have := l.d0; have := l.d1; omega)]
        have b1 := l.q0
        have b2 := l.q1
        have b3 := l.d0
        have b4 := l.d1
        have b5 := l.p0
        have b6 := l.a0
        have b7 := l.a1
        rw [IntWalk.i64_in _ (by omega), hleft] at ha
        have hop : openB (atI xs id).state = true := (openB_iff _).2 (by omega)
        rw [h.mate hi, if_neg hz]
        have next : ∀ s e : Int, (s = 1 ∨ s = 2) → (e = 1 ∨ e = 2) → nextM s e = (e + 1, true) := fun s e h1 h2 => by
          rcases h1 with rfl | rfl <;> rcases h2 with rfl | rfl <;> decide
        obtain ⟨ev, hev⟩ : ∃ ev : Int, (if qty = leftI (atI xs id) then (2 : Int) else 1) = ev := ⟨_, rfl⟩
        rw [hleft] at hev
        rw [hleft, hev]
        have hev2 : (ev = 2 ∧ qty = (atI xs id).term.qty - (atI xs id).done) ∨ (ev = 1 ∧ qty ≠ (atI xs id).term.qty - (atI xs id).done) := by
          split at hev
          · rename_i e; exact .inl ⟨hev.symm, e⟩
          · rename_i e; exact .inr ⟨hev.symm, e⟩
        have step : ∀ x : In, (x.state = 1 ∨ x.state = 2) → doI ev (paidI qty paid x) = { paidI qty paid x with state := ev + 1 } := fun x hx => by
          have e := next x.state ev hx (by omega)
          have e2 : (paidI qty paid x).state = x.state := rfl
          rw [doI_t (by rw [e2, e]), e2, e]
        have w1 : IntKind.i64.wrap ((atI xs id).done + qty) = (atI xs id).done + qty := IntWalk.i64_in _ (by omega)
        have w2 : IntKind.i64.wrap ((atI xs id).paid + paid) = (atI xs id).paid + paid := IntWalk.i64_in _ (by omega)
        have lone : ∀ (x : In) (j : Int), Lone x j → x.mate ≠ 0 → x.done = (atI xs id).done → x.paid = (atI xs id).paid → x.term.qty = (atI xs id).term.qty → x.term.amount = (atI xs id).term.amount → Lone { paidI qty paid x with state := ev + 1 } j := fun x j lx hx e1 e2 e3 e4 => by
          have u1 : IntKind.i64.wrap (x.done + qty) = x.done + qty := by rw [e1]; exact w1
          have u2 : IntKind.i64.wrap (x.paid + paid) = x.paid + paid := by rw [e2]; exact w2
          refine ⟨lx.idd, lx.q0, lx.q1, lx.a0, lx.a1, by show 0 ≤ IntKind.i64.wrap (x.done + qty); rw [u1]; omega, by show IntKind.i64.wrap (x.done + qty) ≤ x.term.qty; rw [u1]; omega, by show 0 ≤ IntKind.i64.wrap (x.paid + paid); rw [u2]; omega, by show 0 ≤ ev + 1; omega, by show ev + 1 ≤ 5; omega, fun e => absurd e hx, fun _ => ⟨by show 1 ≤ ev + 1; omega, by show IntKind.i64.wrap (x.paid + paid) ≤ x.term.amount; rw [u2]; omega, fun e => ?_, fun e => ?_⟩⟩
          · have e : ev + 1 = 3 := e
            show IntKind.i64.wrap (x.done + qty) = x.term.qty
            rw [u1]
            omega
          · have e : ev + 1 ≤ 2 := e
            show IntKind.i64.wrap (x.done + qty) < x.term.qty ∨ x.term.qty = 0
            rw [u1]
            omega
        have s2 : (atI xs (atI xs id).mate).state = 1 ∨ (atI xs (atI xs id).mate).state = 2 := by rw [g3.st]; exact hs
        have m2 : (atI xs (atI xs id).mate).mate ≠ 0 := by rw [g3.ym]; exact fun e => hi (by rw [e]; exact outB_zero xs)
        refine h.upd2 hi g1 g2 (fun x => doI ev (paidI qty paid x)) (fun x => doI ev (paidI qty paid x)) (.inr rfl) (.inr g3.ym) (by show Lone (doI ev (paidI qty paid (atI xs id))) id; rw [step _ hs]; exact lone _ _ l hz rfl rfl rfl rfl) (by show Lone (doI ev (paidI qty paid (atI xs (atI xs id).mate))) _; rw [step _ s2]; exact lone _ _ l2 m2 g3.dn g3.pd g3.qt g3.am) ?_
        show Halves (doI ev (paidI qty paid (atI xs id))) (doI ev (paidI qty paid (atI xs (atI xs id).mate))) _ _
        rw [step _ hs, step _ s2]
        exact ⟨g3.xm, g3.ym, rfl, by show IntKind.i64.wrap _ = IntKind.i64.wrap _; rw [g3.dn], by show IntKind.i64.wrap _ = IntKind.i64.wrap _; rw [g3.pd], g3.dl, g3.am, g3.qt⟩
end Go.Proofs.Ytodjhkmbgennaaa
