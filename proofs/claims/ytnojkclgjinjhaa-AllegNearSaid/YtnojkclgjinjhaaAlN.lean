/-
  Plain: what is said of a party: whose it is, what of its own is nearest, in what order.
-/
import Derived.Test.YtnojkclgjinjhaaAlC
namespace Go.Proofs.Ytnojkclgjinjhaa
open Go Go.RowKit

def ownB (party : ByteArray) (z : In) : Bool := wantOwn party z && decide (z.state = 0)
theorem pick_mem {p : In → Bool} {l : List In} {x : In} : x ∈ pickS p l ↔ x ∈ l ∧ x.state = 0 ∧ p x = true := by
  unfold pickS
  rw [(ssort_perm _ _ rfl).mem_iff, List.mem_filter]
  unfold PickB
  constructor
  · rintro ⟨h1, h2⟩
    simp only [Bool.not_or, Bool.and_eq_true, Bool.not_eq_true', Bool.not_not] at h2
    exact ⟨h1, by simpa using h2.1, h2.2⟩
  · rintro ⟨h1, h2, h3⟩
    refine ⟨h1, ?_⟩
    rw [h3, h2]
    rfl
theorem near_fold (x : In) : ∀ (ys : List In) (y : In), ∃ z ∈ y :: ys, ys.foldl (nearS x) (y.id, differ x y 0) = (z.id, differ x z 0) ∧ ∀ v ∈ y :: ys, (differ x z 0).length ≤ (differ x v 0).length
  | [], y => ⟨y, by simp, rfl, by simp⟩
  | v :: ys, y => by
    rw [List.foldl_cons]
    by_cases h : (differ x v 0).length < (differ x y 0).length
    · have e : nearS x (y.id, differ x y 0) v = (v.id, differ x v 0) := if_pos h
      obtain ⟨z, hz, h1, h2⟩ := near_fold x ys v
      rw [e]
      refine ⟨z, List.mem_cons_of_mem _ hz, h1, fun q hq => ?_⟩
      rcases List.mem_cons.1 hq with rfl | hq
      · have := h2 v (by simp)
        omega
      · exact h2 q hq
    · have e : nearS x (y.id, differ x y 0) v = (y.id, differ x y 0) := if_neg h
      obtain ⟨z, hz, h1, h2⟩ := near_fold x ys y
      rw [e]
      refine ⟨z, ?_, h1, fun q hq => ?_⟩
      · rcases List.mem_cons.1 hz with rfl | hz
        · simp
        · simp [hz]
      · rcases List.mem_cons.1 hq with rfl | hq
        · exact h2 q (by simp)
        · rcases List.mem_cons.1 hq with rfl | hq
          · have := h2 y (by simp)
            omega
          · exact h2 q (by simp [hq])
theorem near_some (x : In) {own : List In} (h : own ≠ []) : ∃ z ∈ own, nearM x own = (z.id, differ x z 0) ∧ ∀ v ∈ own, (differ x z 0).length ≤ (differ x v 0).length := by
  cases own with
  | nil => exact absurd rfl h
  | cons y ys => exact near_fold x ys y
theorem inj_ids {l : List In} (h : (l.map (·.id)).Nodup) {x y : In} (hx : x ∈ l) (hy : y ∈ l) (e : x.id = y.id) : x = y := by
  induction l with
  | nil => cases hx
  | cons a l ih =>
    rw [List.map_cons, List.nodup_cons] at h
    rcases List.mem_cons.1 hx with hxa | hxl
    · rcases List.mem_cons.1 hy with hya | hyl
      · rw [hxa, hya]
      · exact absurd (List.mem_map.2 ⟨y, hyl, by rw [← e, hxa]⟩) h.1
    · rcases List.mem_cons.1 hy with hya | hyl
      · exact absurd (List.mem_map.2 ⟨x, hxl, by rw [e, hya]⟩) h.1
      · exact ih h.2 hxl hyl
theorem two_of {l : List In} {x y : In} (hx : x ∈ l) (hy : y ∈ l) (h : x ≠ y) : 2 ≤ l.length := by
  match l, hx, hy with
  | [], hx, _ => cases hx
  | [a], hx, hy =>
    rw [List.mem_singleton.1 hx, List.mem_singleton.1 hy] at h
    exact absurd rfl h
  | a :: b :: l, _, _ => simp
/-- what is said at one place -/
structure NearAt (party : ByteArray) (l : List In) (x : In) (t : Tm) (id near : Int) (ws : List ByteArray) : Prop where
  mem : x ∈ l
  id : x.id = id
  term : x.term = t
  other : x.term.other = party
  state : x.state = 0
  none : (∀ z ∈ l, ownB party z = false) → near = 0
  some : (∃ z ∈ l, ownB party z = true) → near ≠ 0 ∧ ∃ y ∈ l, y.id = near ∧ y.term.party = party ∧ y.state = 0 ∧ (differ x y 0).length = ws.length ∧ ∀ z ∈ l, ownB party z = true → ws.length ≤ (differ x z 0).length
theorem near_at {party : ByteArray} {l : List In} (hnz : 2 ≤ l.length → ∀ z ∈ l, z.id ≠ 0) {i : Nat} {t : Tm} {id near : Int} {ws : List ByteArray} (h : (forM party l)[i]? = some (t, id, near, ws)) : ∃ x, NearAt party l x t id near ws := by
  unfold forM at h
  rw [List.getElem?_map] at h
  obtain ⟨x, hx, e⟩ := Option.map_eq_some_iff.1 h
  have hxm := List.mem_of_getElem? hx
  obtain ⟨h1, h2, h3⟩ := pick_mem.1 hxm
  unfold oneAl at e
  injection e with e1 e
  injection e with e2 e
  unfold wantOth at h3
  simp only [Bool.and_eq_true, Bool.not_eq_true'] at h3
  have hoth : x.term.other = party := ba_eq h3.1
  refine ⟨x, h1, e2, e1, hoth, h2, fun hno => ?_, fun hyes => ?_⟩
  · have : pickS (wantOwn party) l = [] := by
      cases hp : pickS (wantOwn party) l with
      | nil => rfl
      | cons y ys =>
        obtain ⟨g1, g2, g3⟩ := pick_mem.1 (show y ∈ pickS (wantOwn party) l by rw [hp]; simp)
        have := hno y g1
        unfold ownB at this
        rw [g3, decide_eq_true g2] at this
        cases this
    rw [this] at e
    injection e with e3 _
    exact e3.symm
  · obtain ⟨z, hz, hzo⟩ := hyes
    unfold ownB at hzo
    simp only [Bool.and_eq_true, decide_eq_true_eq] at hzo
    have hne : pickS (wantOwn party) l ≠ [] := fun e0 => by
      have := pick_mem.2 ⟨hz, hzo.2, hzo.1⟩
      rw [e0] at this
      cases this
    obtain ⟨y, hy, hy1, hy2⟩ := near_some x hne
    obtain ⟨g1, g2, g3⟩ := pick_mem.1 hy
    rw [hy1] at e
    injection e with e3 e4
    have hxy : x ≠ y := fun e0 => by
      have h4 := h3.2
      rw [e0] at h4
      rw [show (y.term.party.toList == party.toList) = true from g3] at h4
      cases h4
    refine ⟨?_, y, g1, e3, ba_eq g3, g2, by rw [e4], fun v hv hvo => ?_⟩
    · rw [← e3]
      exact hnz (two_of h1 g1 hxy) y g1
    · unfold ownB at hvo
      simp only [Bool.and_eq_true, decide_eq_true_eq] at hvo
      rw [← e4]
      exact hy2 v (pick_mem.2 ⟨hv, hvo.2, hvo.1⟩)
theorem near_lt {party : ByteArray} {l : List In} (hd : (l.map (·.id)).Nodup) {i : Nat} {a b : Tm × Int × Int × List ByteArray} (ha : (forM party l)[i]? = some a) (hb : (forM party l)[i + 1]? = some b) : a.2.1 < b.2.1 := by
  unfold forM at ha hb
  rw [List.getElem?_map] at ha hb
  obtain ⟨x, hx, rfl⟩ := Option.map_eq_some_iff.1 ha
  obtain ⟨y, hy, rfl⟩ := Option.map_eq_some_iff.1 hb
  show x.id < y.id
  have hs : Srt (ltC cmpId) (pickS (wantOth party) l) := ssort_srt weakId _ _ rfl
  have h1 := srt_get hs (Nat.lt_succ_self i) hx hy
  rw [ltId] at h1
  have h1 := of_decide_eq_false h1
  have hp : (pickS (wantOth party) l).Perm (l.filter (fun x => !PickB (wantOth party) x)) := ssort_perm _ _ rfl
  have hn : ((pickS (wantOth party) l).map (·.id)).Nodup := (hp.map _).nodup_iff.2 (hd.sublist (List.Sublist.map _ List.filter_sublist))
  have hne : x.id ≠ y.id := fun e => by
    have h2 : ((pickS (wantOth party) l).map (·.id))[i]? = some x.id := by rw [List.getElem?_map, hx]; rfl
    have h3 : ((pickS (wantOth party) l).map (·.id))[i + 1]? = some x.id := by rw [List.getElem?_map, hy, e]; rfl
    have hl := (List.getElem?_eq_some_iff.1 h3).1
    have := (List.getElem?_inj (by omega) hn).1 (h2.trans h3.symm)
    omega
  omega
theorem ba_beq (s : ByteArray) : (s == s) = true := by
  cases s with
  | mk d => exact beq_self_eq_true d
theorem ba_dec (a b : ByteArray) : (a == b) = decide (a = b) := by
  cases h : (a == b) with
  | true =>
    symm
    rw [decide_eq_true_iff]
    have h2 : (a.data == b.data) = true := h
    have h3 := eq_of_beq h2
    cases a; cases b; simp_all
  | false =>
    symm
    rw [decide_eq_false_iff_not]
    rintro rfl
    have : (a == a) = true := by
      obtain ⟨d⟩ := a
      show (d == d) = true
      simp
    rw [this] at h
    cases h
/-- of the first k only X has the Id -/
def AtI (l : List In) (k : Nat) (id : Int) (X : In) : Prop := ∀ z ∈ l.take k, z.id = id → X = z
theorem take_mem {l : List In} {k : Nat} {x z : In} (hx : l[k]? = some x) : z ∈ l.take (k + 1) ↔ z ∈ l.take k ∨ z = x := by
  rw [List.take_add_one, hx, List.mem_append]
  simp
theorem AtI.yes {l : List In} (hd : (l.map (·.id)).Nodup) {k : Nat} {id : Int} {x : In} (hx : l[k]? = some x) (e : x.id = id) : AtI l (k + 1) id x := fun z hz he => by
  rcases (take_mem hx).1 hz with hz | hz
  · exact inj_ids hd (List.mem_of_getElem? hx) (List.mem_of_mem_take hz) (e.trans he.symm)
  · exact hz.symm
theorem AtI.no {l : List In} {k : Nat} {id : Int} {X x : In} (h : AtI l k id X) (hx : l[k]? = some x) (e : ¬ x.id = id) : AtI l (k + 1) id X := fun z hz he => by
  rcases (take_mem hx).1 hz with hz | hz
  · exact h z hz he
  · exact absurd (hz ▸ he) e
/-- of the first k so many are the party's own, pending: c is not less than nought, and nought if there are none -/
def OwnC (party : ByteArray) (l : List In) (k : Nat) (c : Int) : Prop := (0 ≤ c ∧ c ≤ k) ∧ (c = 0 ↔ ∀ z ∈ l.take k, ownB party z = false)
theorem OwnC.yes {party : ByteArray} {l : List In} {k : Nat} {c : Int} {x : In} (h : OwnC party l k c) (hx : l[k]? = some x) (e : ownB party x = true) : OwnC party l (k + 1) (c + 1) := by
  obtain ⟨⟨h1, h2⟩, _⟩ := h
  refine ⟨⟨by omega, by omega⟩, fun h => by omega, fun h => ?_⟩
  have := h x ((take_mem hx).2 (.inr rfl))
  rw [e] at this
  cases this
theorem OwnC.no {party : ByteArray} {l : List In} {k : Nat} {c : Int} {x : In} (h : OwnC party l k c) (hx : l[k]? = some x) (e : ownB party x = false) : OwnC party l (k + 1) c := by
  obtain ⟨⟨h1, h2⟩, h3⟩ := h
  refine ⟨⟨by omega, by omega⟩, fun h z hz => ?_, fun h => h3.2 fun z hz => h z ((take_mem hx).2 (.inl hz))⟩
  rcases (take_mem hx).1 hz with hz | hz
  · exact h3.1 h z hz
  · rw [hz]
    exact e
theorem ownB_yes {party : ByteArray} {z : In} : ownB party z = true ↔ z.term.party = party ∧ z.state = 0 := by
  unfold ownB wantOwn
  simp only [Bool.and_eq_true, decide_eq_true_eq]
  constructor
  · rintro ⟨h1, h2⟩
    exact ⟨ba_eq h1, h2⟩
  · rintro ⟨h1, h2⟩
    exact ⟨by rw [h1]; simp, h2⟩
theorem ownB_no {party : ByteArray} {z : In} : ownB party z = false ↔ (z.term.party = party → ¬ z.state = 0) := by
  rw [← Bool.not_eq_true, ownB_yes]
  exact ⟨fun h h1 h2 => h ⟨h1, h2⟩, fun h h1 => h h1.1 h1.2⟩
end Go.Proofs.Ytnojkclgjinjhaa
