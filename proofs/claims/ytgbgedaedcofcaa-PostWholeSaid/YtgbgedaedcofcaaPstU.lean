/-
  Plain: two ledgers that hold the same; two transactions one behind the other, and both at once.
-/
import Derived.Test.YtgbgedaedcofcaaPstT
namespace Go.Proofs.Ytgbgedaedcofcaa
open Go Go.RowKit

/-- they hold the same -/
structure Eqv (s t : LSt) : Prop where
  get : ∀ k, getM s.l k = getM t.l k
  iss : ∀ c, issd s c = issd t c
  blk : ∀ k, hasK k s.lb = hasK k t.lb
theorem Eqv.code {s t : LSt} (h : Eqv s t) (a c : ByteArray) (z : Int) : issC s a c z = issC t a c z := by
  have h1 := h.iss c
  unfold issd at h1
  unfold issC
  rw [h.get, h.blk, h1]
theorem Eqv.issue {s t s' t' : LSt} {a c : ByteArray} {z : Int} (h : Eqv s t) (h1 : IssS s s' a c z) (h2 : IssS t t' a c z) : Eqv s' t' := by
  have hc := h.code a c z
  refine ⟨fun k => ?_, fun q => ?_, fun k => by rw [h1.lb, h2.lb]; exact h.blk k⟩
  · rw [h1.get, h2.get, hc]
    have : addF (getM s.l) (a, c) 0 z k = addF (getM t.l) (a, c) 0 z k := by
      unfold addF
      rw [h.get, h.get]
    rw [this, h.get]
  · have i1 := h.iss q
    have i2 := h.iss c
    unfold issd at *
    rw [h1.iss, h2.iss, hc, i1, i2]
theorem Eqv.block {s t s' t' : LSt} {a c : ByteArray} {on : Bool} (h : Eqv s t) (h1 : BlkS s s' a c on) (h2 : BlkS t t' a c on) : Eqv s' t' :=
  ⟨fun k => by rw [h1.l, h2.l]; exact h.get k, fun q => by unfold issd; rw [h1.li, h2.li]; exact h.iss q, fun k => by rw [h1.lb, h2.lb, h.blk]⟩
theorem eqv_new (g g' : Nat) : Eqv (newS g) (newS g') := ⟨fun _ => rfl, fun _ => rfl, fun _ => rfl⟩
theorem wrongM_eqv {s t : LSt} (h : Eqv s t) (k : Part) (z : Int) (ov : Bool) : wrongM s k z ov = wrongM t k z ov := by
  unfold wrongM nowM
  rw [h.blk, h.get]
theorem firstW_eqv {s t : LSt} (h : Eqv s t) (ps : List OpP) : ∀ ks : List Part, firstW s ps ks = firstW t ps ks
  | [] => rfl
  | k :: ks => by
    simp only [firstW]
    rw [wrongM_eqv h, firstW_eqv h ps ks]
theorem lookC_eqv {s t : LSt} (h : Eqv s t) (ps : List OpP) : lookC s ps = lookC t ps := by
  unfold lookC
  rw [firstW_eqv h]
theorem ptL_app (k : Part) (p q : List OpP) : ptL k (p ++ q) = ptL k p ++ ptL k q := by simp [ptL]
theorem asL_app (a : ByteArray) (p q : List OpP) : asL a (p ++ q) = asL a p ++ asL a q := by simp [asL]
theorem even_all {ps : List OpP} (h : evenB ps = true) (a : ByteArray) : sumI (asL a ps) = 0 := by
  by_cases hx : ∃ p ∈ ps, p.asset = a
  · obtain ⟨p, hp, rfl⟩ := hx
    exact of_decide_eq_true (List.all_eq_true.1 h p hp)
  · have : asL a ps = [] := by
      unfold asL
      rw [List.filter_eq_nil_iff.2, List.map_nil]
      intro p hp e
      exact hx ⟨p, hp, by simpa using e⟩
    rw [this]
    rfl
theorem split_ok {s s1 t : LSt} {p q : List OpP} (he : ∀ k, getM t.l k = getM s.l k) (hs : ∀ e ∈ s.l, okB e.val) (hs1 : ∀ e ∈ s1.l, okB e.val) (ht : ∀ e ∈ t.l, okB e.val) (hlb : t.lb = []) (h1 : lookC s p = 0) (hg1 : ∀ k, getM s1.l k = applyF p (getM s.l) (lookL s p) k) (h2 : lookC s1 q = 0) (hlen : p.length + q.length ≤ 600) :
    lookC t (p ++ q) = 0 ∧ ∀ k, applyF (p ++ q) (getM t.l) (lookL t (p ++ q)) k = applyF q (getM s1.l) (lookL s1 q) k := by
  obtain ⟨_, r1, e1, k1⟩ := (look_ok hs).1 h1
  obtain ⟨_, r2, e2, k2⟩ := (look_ok hs1).1 h2
  have hx : ∀ (k : Key) (u : Int), 0 ≤ u ∧ u ≤ 2 → partB (getM s1.l k) u = partB (getM t.l k) u + sumI (ptL (k, u) p) := fun k u hu => by
    rw [hg1, apply_exact hs h1 k u hu, he]
  have hl : lookC t (p ++ q) = 0 := by
    refine (look_ok ht).2 ⟨by rw [List.length_append]; exact hlen, by unfold rightsB at *; rw [List.all_append, r1, r2]; rfl, ?_, fun k hk => ?_⟩
    · unfold evenB
      refine List.all_eq_true.2 fun x _ => decide_eq_true ?_
      rw [asL_app, sumI_app, even_all e1, even_all e2]
      rfl
    · obtain ⟨x, hx1, rfl⟩ := nets_mem.1 hk
      have hr : 0 ≤ x.sub ∧ x.sub ≤ 2 := by
        rcases List.mem_append.1 hx1 with h | h
        · exact (right_of r1 h).1
        · exact (right_of r2 h).1
      have hr' : 0 ≤ x.part.2 ∧ x.part.2 ≤ 2 := hr
      have g1 := hx x.part.1 x.part.2 hr'
      have hin := part_in hs1 x.part.1 x.part.2
      rw [partM_in hr', g1] at hin
      have hsum : 0 ≤ partB (getM t.l x.part.1) x.part.2 + sumI (ptL x.part p) + sumI (ptL x.part q) ∧ partB (getM t.l x.part.1) x.part.2 + sumI (ptL x.part p) + sumI (ptL x.part q) ≤ 1152921504606846976 := by
        by_cases hq : x.part ∈ netsM q
        · obtain ⟨_, f1, f2⟩ := k2 _ hq
          rw [partM_in hr', g1] at f1 f2
          exact ⟨f1, f2⟩
        · rw [ptL_no hq]
          show 0 ≤ _ + (0 : Int) ∧ _ + (0 : Int) ≤ _
          rw [Int.add_zero]
          exact hin
      refine ⟨fun h => by (have h3 := h.2.2; rw [hlb] at h3; cases h3), ?_, ?_⟩
      · rw [ptL_app, sumI_app, partM_in hr']
        omega
      · rw [ptL_app, sumI_app, partM_in hr']
        omega
  refine ⟨hl, fun k => b3_ext fun u hu => ?_⟩
  rw [apply_exact ht hl k u hu, apply_exact hs1 h2 k u hu, hx k u hu, ptL_app, sumI_app]
  omega
theorem posts_app {w : World} {B : Nat} {A : Option Addr} {n : Nat} {p q : List OpP} (h : Reads w B 4 A n ((p ++ q).map OpP.cells).flatten) (hl : p.length + q.length = n) (hp : ∀ o ∈ p, o.ok) (hq : ∀ o ∈ q, o.ok) : Posts w B A n (p ++ q) :=
  ⟨h, by rw [List.length_append]; exact hl, fun o ho => (List.mem_append.1 ho).elim (hp o) (hq o)⟩
theorem posts_one : ∀ (p : List OpP), ((p.map OpP.cells).flatten.map LV.v).all oneL = true
  | [] => rfl
  | o :: p => by
    rw [List.map_cons, List.flatten_cons, List.map_append, List.all_append, posts_one p]
    rfl
theorem len_same {l l' : List (Ent Key B3)} {clock clock' : Nat} (hf : Fine l clock) (hnz : ∀ e ∈ l, e.val ≠ (0, 0, 0)) (hf' : Fine l' clock') (hnz' : ∀ e ∈ l', e.val ≠ (0, 0, 0)) (h : ∀ k, getM l' k = getM l k) : l.length = l'.length := by
  have h1 := (keys_perm hf hnz hf' hnz' h).length_eq
  simpa using h1
end Go.Proofs.Ytgbgedaedcofcaa
