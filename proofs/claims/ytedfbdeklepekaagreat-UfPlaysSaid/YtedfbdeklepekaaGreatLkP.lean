/-
  Links between classes of numbers, plain: which classes stand ahead, their order, what a link makes of it.
-/
import Derived.Test.YtedfbdeklepekaaGreatUfHK
import Derived.Test.YtedfbdeklepekaaGreatShape
namespace Go.Proofs.YtedfbdeklepekaaGreat
open Go Go.RowKit
/-- a link -/
structure Lk where
  kind : Int
  src : Int
  dst : Int
def Lk.cells (x : Lk) : List Value := [.int .i64 x.kind, .int .i64 x.src, .int .i64 x.dst]
structure Lk.ok (x : Lk) : Prop where
  kind : Is64 x.kind
  src : Is64 x.src
  dst : Is64 x.dst
def lkV (l : List Lk) : List Value := (l.map Lk.cells).flatten
/-- a list without a number that is there already -/
def addN (l : List Nat) (x : Nat) : List Nat := if x ∈ l then l else l ++ [x]
theorem mem_addN {l : List Nat} {x y : Nat} : y ∈ addN l x ↔ y ∈ l ∨ y = x := by
  unfold addN
  split
  · rename_i h
    exact ⟨.inl, fun hy => hy.elim id (fun e => e ▸ h)⟩
  · simp
theorem addN_nodup {l : List Nat} {x : Nat} (h : l.Nodup) : (addN l x).Nodup := by
  unfold addN
  split
  · exact h
  · rename_i hx
    rw [List.nodup_append]
    exact ⟨h, by simp, fun a ha b hb => by rw [List.mem_singleton] at hb; rintro rfl; exact hx (hb ▸ ha)⟩
namespace Uf
def hz (u : List Nat) (x : Int) : Nat := hd u x.toNat
/-- the heads that stand straight ahead of head t -/
def stepA (u : List Nat) (t : Nat) (acc : List Nat) (x : Lk) : List Nat := if x.kind = 2 ∧ hz u x.dst = t then addN acc (hz u x.src) else acc
def aheadM (u : List Nat) (ls : List Lk) (t : Nat) : List Nat := ls.foldl (stepA u t) []
theorem aheadM_snoc (u : List Nat) (ls : List Lk) (x : Lk) (t : Nat) : aheadM u (ls ++ [x]) t = stepA u t (aheadM u ls t) x := by unfold aheadM; rw [List.foldl_append]; rfl
theorem aheadM_nil (u : List Nat) (t : Nat) : aheadM u [] t = [] := rfl
theorem mem_foldA {u : List Nat} {t h : Nat} : ∀ {ls : List Lk} {acc : List Nat}, h ∈ ls.foldl (stepA u t) acc ↔ h ∈ acc ∨ ∃ x ∈ ls, x.kind = 2 ∧ hz u x.dst = t ∧ hz u x.src = h
  | [], acc => by simp
  | x :: ls, acc => by
    rw [List.foldl_cons, mem_foldA]
    unfold stepA
    constructor
    · rintro (h1 | ⟨y, hy, h1⟩)
      · split at h1
        · rename_i hx
          rcases mem_addN.1 h1 with h2 | h2
          · exact .inl h2
          · exact .inr ⟨x, by simp, hx.1, hx.2, h2.symm⟩
        · exact .inl h1
      · exact .inr ⟨y, by simp [hy], h1⟩
    · rintro (h1 | ⟨y, hy, h1, h2, h3⟩)
      · left
        split
        · exact mem_addN.2 (.inl h1)
        · exact h1
      · rcases List.mem_cons.1 hy with rfl | hy
        · left
          rw [if_pos ⟨h1, h2⟩]
          exact mem_addN.2 (.inr h3.symm)
        · exact .inr ⟨y, hy, h1, h2, h3⟩
theorem mem_ahead {u : List Nat} {ls : List Lk} {t h : Nat} : h ∈ aheadM u ls t ↔ ∃ x ∈ ls, x.kind = 2 ∧ hz u x.dst = t ∧ hz u x.src = h := by
  unfold aheadM
  rw [mem_foldA]
  simp
theorem foldA_nodup {u : List Nat} {t : Nat} : ∀ {ls : List Lk} {acc : List Nat}, acc.Nodup → (ls.foldl (stepA u t) acc).Nodup
  | [], _, h => h
  | x :: ls, acc, h => by
    rw [List.foldl_cons]
    refine foldA_nodup ?_
    unfold stepA
    split
    · exact addN_nodup h
    · exact h
theorem ahead_nodup (u : List Nat) (ls : List Lk) (t : Nat) : (aheadM u ls t).Nodup := foldA_nodup List.nodup_nil
/-! ### the order -/
def rdy (ah : Nat → List Nat) (done : List Nat) (h : Nat) : Bool := !(done.contains h) && (ah h).all fun x => done.contains x
theorem rdy_iff {ah : Nat → List Nat} {done : List Nat} {h : Nat} : rdy ah done h = true ↔ h ∉ done ∧ ∀ x ∈ ah h, x ∈ done := by
  unfold rdy
  simp
def nxt (ah : Nat → List Nat) (hs done : List Nat) : Option Nat := hs.find? (rdy ah done)
def ordM (ah : Nat → List Nat) (hs : List Nat) : Nat → List Nat → List Nat
  | 0, done => done
  | f + 1, done => match nxt ah hs done with
    | none => done
    | some h => ordM ah hs f (done ++ [h])
/-- what stands in an order so far -/
structure OrdI (ah : Nat → List Nat) (hs done : List Nat) : Prop where
  sub : ∀ h ∈ done, h ∈ hs
  nodup : done.Nodup
  ahead : ∀ k h, done[k]? = some h → ∀ x ∈ ah h, x ∈ done.take k
theorem OrdI.nil (ah : Nat → List Nat) (hs : List Nat) : OrdI ah hs [] := ⟨fun _ h => (List.not_mem_nil h).elim, List.nodup_nil, fun k h hk => by simp at hk⟩
theorem OrdI.snoc {ah : Nat → List Nat} {hs done : List Nat} {h : Nat} (i : OrdI ah hs done) (hn : nxt ah hs done = some h) : OrdI ah hs (done ++ [h]) := by
  have hr := rdy_iff.1 (List.find?_some hn)
  have hm := List.mem_of_find?_eq_some hn
  refine ⟨fun x hx => ?_, ?_, fun k x hk y hy => ?_⟩
  · rcases List.mem_append.1 hx with hx | hx
    · exact i.sub x hx
    · rw [List.mem_singleton] at hx; rw [hx]; exact hm
  · rw [List.nodup_append]
    exact ⟨i.nodup, by simp, fun a ha b hb => by rw [List.mem_singleton] at hb; rintro rfl; exact hr.1 (hb ▸ ha)⟩
  · rcases Nat.lt_or_ge k done.length with hl | hl
    · rw [List.getElem?_append_left hl] at hk
      have := i.ahead k x hk y hy
      rw [List.take_append_of_le_length (by omega)]
      exact this
    · have hk0 : k = done.length := by
        rcases Nat.lt_or_ge done.length k with h1 | h1
        · rw [List.getElem?_eq_none (by simp; omega)] at hk; cases hk
        · omega
      subst hk0
      rw [List.getElem?_append_right (Nat.le_refl _)] at hk
      simp at hk
      subst hk
      rw [List.take_append_of_le_length (Nat.le_refl _), List.take_length]
      exact hr.2 y hy
theorem nodup_le {l : List Nat} {m : List Nat} (h : l.Nodup) (hs : ∀ x ∈ l, x ∈ m) : l.length ≤ m.length := h.length_le_of_subset hs
theorem OrdI.le {ah : Nat → List Nat} {hs done : List Nat} (i : OrdI ah hs done) : done.length ≤ hs.length := nodup_le i.nodup i.sub
theorem ordM_inv {ah : Nat → List Nat} {hs : List Nat} : ∀ (f : Nat) (done : List Nat), OrdI ah hs done → OrdI ah hs (ordM ah hs f done)
  | 0, _, h => h
  | f + 1, done, h => by
    unfold ordM
    split
    · exact h
    · rename_i x hx
      exact ordM_inv f _ (h.snoc hx)
/-- with steps enough it ends stuck -/
theorem ordM_stuck {ah : Nat → List Nat} {hs : List Nat} : ∀ (f : Nat) (done : List Nat), OrdI ah hs done → hs.length < f + done.length → nxt ah hs (ordM ah hs f done) = none
  | 0, done, h, hl => by have := h.le; omega
  | f + 1, done, h, hl => by
    unfold ordM
    split
    · rename_i hx
      exact hx
    · rename_i x hx
      exact ordM_stuck f _ (h.snoc hx) (by simp; omega)
theorem ordM_end {ah : Nat → List Nat} {hs done : List Nat} (h : nxt ah hs done = none) : ∀ f, ordM ah hs f done = done
  | 0 => rfl
  | f + 1 => by unfold ordM; rw [h]
theorem ordM_step {ah : Nat → List Nat} {hs done : List Nat} {x : Nat} (h : nxt ah hs done = some x) (f : Nat) : ordM ah hs (f + 1) done = ordM ah hs f (done ++ [x]) := by
  show (match nxt ah hs done with | none => done | some h => ordM ah hs f (done ++ [h])) = _
  rw [h]
/-- more steps end the same -/
theorem ordM_fuel {ah : Nat → List Nat} {hs : List Nat} : ∀ (f f' : Nat) (done : List Nat), OrdI ah hs done → hs.length ≤ f + done.length → hs.length ≤ f' + done.length → ordM ah hs f done = ordM ah hs f' done
  | f, f', done, h, h1, h2 => by
    cases hn : nxt ah hs done with
    | none => rw [ordM_end hn, ordM_end hn]
    | some x =>
      have hle := (h.snoc hn).le
      simp at hle
      obtain ⟨f0, rfl⟩ : ∃ k, f = k + 1 := ⟨f - 1, by omega⟩
      obtain ⟨f1, rfl⟩ : ∃ k, f' = k + 1 := ⟨f' - 1, by omega⟩
      rw [ordM_step hn, ordM_step hn]
      exact ordM_fuel f0 f1 _ (h.snoc hn) (by simp; omega) (by simp; omega)
  termination_by f => f
def orderM (u : List Nat) (ls : List Lk) : List Nat := ordM (aheadM u ls) (heads u) (heads u).length []
theorem order_inv (u : List Nat) (ls : List Lk) : OrdI (aheadM u ls) (heads u) (orderM u ls) := ordM_inv _ _ (.nil _ _)
def fullB (u : List Nat) (ls : List Lk) : Bool := decide ((orderM u ls).length = (heads u).length)
theorem order_le (u : List Nat) (ls : List Lk) : (orderM u ls).length ≤ (heads u).length := (order_inv u ls).le
theorem order_stuck (u : List Nat) (ls : List Lk) : nxt (aheadM u ls) (heads u) (orderM u ls) = none := by
  unfold orderM
  rw [ordM_fuel (heads u).length ((heads u).length + 1) [] (.nil _ _) (by simp) (by simp)]
  exact ordM_stuck _ _ (.nil _ _) (by simp)
theorem heads_nodup (u : List Nat) : (heads u).Nodup := (heads_sorted u).imp (fun h => Nat.ne_of_lt h)
/-- a whole order has each head -/
theorem full_mem {u : List Nat} {ls : List Lk} (hf : fullB u ls = true) {h : Nat} (hh : h ∈ heads u) : h ∈ orderM u ls := by
  have hl := of_decide_eq_true hf
  have i := order_inv u ls
  refine Decidable.byContradiction fun hc => ?_
  have := nodup_le (l := h :: orderM u ls) (m := heads u) (List.nodup_cons.2 ⟨hc, i.nodup⟩) (fun x hx => (List.mem_cons.1 hx).elim (fun e => e ▸ hh) (i.sub x))
  simp at this
  omega
theorem full_free {u : List Nat} {ls : List Lk} (h : ∀ t, aheadM u ls t = []) : fullB u ls = true := by
  have i := order_inv u ls
  have hs := order_stuck u ls
  refine decide_eq_true ?_
  have : (heads u).length ≤ (orderM u ls).length := nodup_le (heads_nodup u) fun x hx => by
    refine Decidable.byContradiction fun hc => ?_
    have := List.find?_eq_none.1 hs x hx
    exact this (rdy_iff.2 ⟨hc, by rw [h]; simp⟩)
  have := i.le
  omega
/-- in a whole order what stands ahead stands ahead -/
theorem full_ne {u : List Nat} {ls : List Lk} (hf : fullB u ls = true) {t h : Nat} (ht : t ∈ heads u) (hh : h ∈ aheadM u ls t) : h ≠ t := by
  rintro rfl
  have i := order_inv u ls
  obtain ⟨k, hk, e⟩ := List.getElem_of_mem (full_mem hf ht)
  have hk' : (orderM u ls)[k]? = some h := by rw [List.getElem?_eq_getElem hk, e]
  have hm := i.ahead k h hk' h hh
  obtain ⟨j, hj, e2⟩ := List.getElem_of_mem hm
  rw [List.getElem_take] at e2
  have hj' : j < k := by simp at hj; omega
  have := List.pairwise_iff_getElem.1 i.nodup j k (by omega) hk hj'
  exact this (e2.trans e.symm)
/-! ### all that hangs on the heads alone -/
theorem heads_congr {u v : List Nat} (hl : u.length = v.length) (h : ∀ i, 1 ≤ i → i ≤ u.length → hd u i = hd v i) : heads u = heads v := by
  unfold heads
  rw [← hl]
  refine List.filter_congr fun i hi => ?_
  rw [List.mem_range'_1] at hi
  rw [h i (by omega) (by omega)]
theorem cls_congr {u v : List Nat} (hl : u.length = v.length) (h : ∀ i, 1 ≤ i → i ≤ u.length → hd u i = hd v i) (t : Nat) : cls u t = cls v t := by
  unfold cls
  rw [← hl]
  refine List.filter_congr fun i hi => ?_
  rw [List.mem_range'_1] at hi
  rw [h i (by omega) (by omega)]
/-- the ends of links lie within -/
def InL (n : Nat) (ls : List Lk) : Prop := ∀ x ∈ ls, (1 ≤ x.src ∧ x.src ≤ n) ∧ 1 ≤ x.dst ∧ x.dst ≤ n
theorem InL.hz_eq {u v : List Nat} (h : ∀ i, 1 ≤ i → i ≤ u.length → hd u i = hd v i) {x : Int} (h1 : 1 ≤ x) (h2 : x ≤ u.length) : hz u x = hz v x := h _ (by omega) (by omega)
theorem foldA_congr {u v : List Nat} (h : ∀ i, 1 ≤ i → i ≤ u.length → hd u i = hd v i) (t : Nat) : ∀ (ls : List Lk) (acc : List Nat), InL u.length ls → ls.foldl (stepA u t) acc = ls.foldl (stepA v t) acc
  | [], _, _ => rfl
  | x :: ls, acc, hi => by
    have hx := hi x (by simp)
    rw [List.foldl_cons, List.foldl_cons]
    have : stepA u t acc x = stepA v t acc x := by
      unfold stepA
      rw [InL.hz_eq h hx.1.1 hx.1.2, InL.hz_eq h hx.2.1 hx.2.2]
    rw [this]
    exact foldA_congr h t ls _ fun y hy => hi y (by simp [hy])
theorem ahead_congr {u v : List Nat} (h : ∀ i, 1 ≤ i → i ≤ u.length → hd u i = hd v i) {ls : List Lk} (hi : InL u.length ls) : aheadM u ls = aheadM v ls := funext fun t => foldA_congr h t ls [] hi
theorem order_congr {u v : List Nat} (hl : u.length = v.length) (h : ∀ i, 1 ≤ i → i ≤ u.length → hd u i = hd v i) {ls : List Lk} (hi : InL u.length ls) : orderM u ls = orderM v ls := by
  unfold orderM
  rw [ahead_congr h hi, heads_congr hl h]
theorem full_congr {u v : List Nat} (hl : u.length = v.length) (h : ∀ i, 1 ≤ i → i ≤ u.length → hd u i = hd v i) {ls : List Lk} (hi : InL u.length ls) : fullB u ls = fullB v ls := by
  unfold fullB
  rw [order_congr hl h hi, heads_congr hl h]
/-! ### classes that are made anew -/
/-- the ends of the links that join -/
def withs (ls : List Lk) : List (Nat × Nat) := (ls.filter fun x => decide (x.kind = 1)).map fun x => (x.src.toNat, x.dst.toNat)
def withM (u : List Nat) (ls : List Lk) : List Nat := joins u (withs ls)
theorem withM_snoc (u : List Nat) (ls : List Lk) (x : Lk) : withM u (ls ++ [x]) = if x.kind = 1 then step (withM u ls) x.src.toNat x.dst.toNat else withM u ls := by
  unfold withM withs
  rw [List.filter_append, List.map_append]
  by_cases hx : x.kind = 1
  · rw [if_pos hx]
    simp [hx, joins_snoc]
  · rw [if_neg hx]
    simp [hx]
theorem withs_in {n : Nat} {ls : List Lk} (h : InL n ls) : InR n (withs ls) := by
  intro p hp
  unfold withs at hp
  obtain ⟨x, hx, rfl⟩ := List.mem_map.1 hp
  have := h x (List.mem_filter.1 hx).1
  exact ⟨⟨by show 1 ≤ x.src.toNat; omega, by show x.src.toNat ≤ n; omega⟩, by show 1 ≤ x.dst.toNat; omega, by show x.dst.toNat ≤ n; omega⟩
theorem withM_len (u : List Nat) (ls : List Lk) : (withM u ls).length = u.length := joins_length _ _
theorem withM_good {u : List Nat} (g : Good u) {ls : List Lk} (h : InL u.length ls) : Good (withM u ls) := good_joins g (withs_in h)
theorem withM_E {u : List Nat} (g : Good u) {ls : List Lk} (h : InL u.length ls) (i j : Nat) : E (withM u ls) i j ↔ Con (E u) (withs ls) i j := E_joins g (withs_in h) i j
/-- a class as pairs with its first one -/
def starP (c : List Nat) : List (Nat × Nat) := c.map fun x => (c.headD 0, x)
def stars (cs : List (List Nat)) : List (Nat × Nat) := (cs.map starP).flatten
def rejoin (u : List Nat) (k : Nat) : List Nat := joins (fresh u.length) (stars ((classes u).take k))
theorem joinU_joins (u : List Nat) (x0 : Nat) : ∀ xs : List Nat, joinU u x0 xs = joins u (xs.map fun x => (x0, x)) := by
  intro xs
  unfold joinU joins
  rw [List.foldl_map]
theorem joins_append (u : List Nat) (ps qs : List (Nat × Nat)) : joins u (ps ++ qs) = joins (joins u ps) qs := by
  unfold joins
  rw [List.foldl_append]
theorem rejoin_succ {u : List Nat} {k : Nat} {c : List Nat} (h : (classes u)[k]? = some c) : rejoin u (k + 1) = joinU (rejoin u k) (c.headD 0) c := by
  unfold rejoin
  rw [List.take_add_one, h]
  unfold stars
  simp only [Option.toList, List.map_append, List.flatten_append, List.map_cons, List.map_nil, List.flatten_cons, List.flatten_nil, List.append_nil]
  rw [joins_append, joinU_joins]
  rfl
theorem rejoin_len (u : List Nat) (k : Nat) : (rejoin u k).length = u.length := by unfold rejoin; rw [joins_length, fresh_length]
theorem star_mem {u : List Nat} (g : Good u) {k : Nat} {p : Nat × Nat} (h : p ∈ stars ((classes u).take k)) : (1 ≤ p.2 ∧ p.2 ≤ u.length) ∧ p.1 = hd u p.2 := by
  unfold stars at h
  obtain ⟨l, hl, hp⟩ := List.mem_flatten.1 h
  obtain ⟨c, hc, rfl⟩ := List.mem_map.1 hl
  have hc := List.mem_of_mem_take hc
  unfold classes at hc
  obtain ⟨t, ht, rfl⟩ := List.mem_map.1 hc
  have h1 := mem_heads ht
  have h2 := hd_of_heads ht
  obtain ⟨r, e⟩ := cls_first g h1.1 h1.2
  rw [h2] at e
  unfold starP at hp
  obtain ⟨x, hx, rfl⟩ := List.mem_map.1 hp
  have hx' := mem_cls.1 hx
  refine ⟨hx'.1, ?_⟩
  show (cls u t).headD 0 = hd u x
  rw [hx'.2, e]
  rfl
theorem star_in {u : List Nat} (g : Good u) (k : Nat) : InR u.length (stars ((classes u).take k)) := by
  intro p hp
  obtain ⟨h1, h2⟩ := star_mem g hp
  refine ⟨?_, h1⟩
  rw [h2]
  have := hd_spec g p.2 h1.1 h1.2
  exact ⟨this.1, by omega⟩
theorem rejoin_good {u : List Nat} (g : Good u) (k : Nat) : Good (rejoin u k) := good_joins (fresh_good _) (by rw [fresh_length]; exact star_in g k)
theorem Con.into {R R' : Nat → Nat → Prop} {ps : List (Nat × Nat)} (hR : ∀ i j, R i j → R' i j) (hp : ∀ x y, (x, y) ∈ ps → R' x y) (hs : ∀ i j, R' i j → R' j i) (ht : ∀ i j k, R' i j → R' j k → R' i k) {i j : Nat} (h : Con R ps i j) : R' i j := by
  induction h with
  | base h => exact hR _ _ h
  | pair h => exact hp _ _ h
  | symm _ ih => exact hs _ _ ih
  | trans _ _ ih ih' => exact ht _ _ _ ih ih'
/-- all classes made anew: the same classes -/
theorem rejoin_E {u : List Nat} (g : Good u) (i j : Nat) : E (rejoin u (classes u).length) i j ↔ E u i j := by
  unfold rejoin
  rw [List.take_length, E_joins (fresh_good _) (by rw [fresh_length]; have := star_in g (classes u).length; rw [List.take_length] at this; exact this)]
  constructor
  · refine Con.into (fun a b h => ?_) (fun x y h => ?_) (fun _ _ h => h.symm) (fun _ _ _ h h' => h.trans h')
    · obtain ⟨h1, h2, h3⟩ := h
      rw [fresh_length] at h1 h2
      rw [fresh_hd _ _ h1.1 h1.2, fresh_hd _ _ h2.1 h2.2] at h3
      exact ⟨h1, h2, by rw [h3]⟩
    · have hm : (x, y) ∈ stars ((classes u).take (classes u).length) := by rw [List.take_length]; exact h
      have hin := star_in g _ _ hm
      obtain ⟨h1, h2⟩ := star_mem g hm
      dsimp only at hin h1 h2
      exact ⟨hin.1, h1, by rw [h2, hd_hd g h1.1 h1.2]⟩
  · rintro ⟨h1, h2, h3⟩
    have key : ∀ x, 1 ≤ x → x ≤ u.length → (hd u x, x) ∈ stars (classes u) := by
      intro x hx1 hx2
      have hs := hd_spec g x hx1 hx2
      have hh : hd u x ∈ heads u := by
        unfold heads
        rw [List.mem_filter, List.mem_range'_1]
        exact ⟨⟨hs.1, by omega⟩, decide_eq_true (hd_hd g hx1 hx2)⟩
      unfold stars classes
      refine List.mem_flatten.2 ⟨starP (cls u (hd u x)), List.mem_map.2 ⟨_, List.mem_map.2 ⟨_, hh, rfl⟩, rfl⟩, ?_⟩
      unfold starP
      refine List.mem_map.2 ⟨x, mem_cls.2 ⟨⟨hx1, hx2⟩, rfl⟩, ?_⟩
      obtain ⟨r, e⟩ := cls_first g hx1 hx2
      rw [e]
      rfl
    have k1 := key i h1.1 h1.2
    have k2 := key j h2.1 h2.2
    rw [h3] at k1
    exact (Con.pair k1).symm.trans (Con.pair k2)
theorem E_refl {u : List Nat} {i : Nat} (h1 : 1 ≤ i) (h2 : i ≤ u.length) : E u i i := ⟨⟨h1, h2⟩, ⟨h1, h2⟩, rfl⟩
def joinedM (u : List Nat) (ls : List Lk) : List Nat := withM (rejoin u (classes u).length) ls
theorem joinedM_len (u : List Nat) (ls : List Lk) : (joinedM u ls).length = u.length := by unfold joinedM; rw [withM_len, rejoin_len]
theorem joinedM_good {u : List Nat} (g : Good u) {ls : List Lk} (h : InL u.length ls) : Good (joinedM u ls) := withM_good (rejoin_good g _) (by rw [rejoin_len]; exact h)
/-- classes made anew and joined have the heads of those that are joined -/
theorem joinedM_hd {u : List Nat} (g : Good u) {ls : List Lk} (h : InL u.length ls) (i : Nat) (h1 : 1 ≤ i) (h2 : i ≤ u.length) : hd (joinedM u ls) i = hd (withM u ls) i := by
  refine hd_unique (joinedM_good g h) (withM_good g h) (by rw [joinedM_len, withM_len]) (fun a b => ?_) h1 (by rw [joinedM_len]; exact h2)
  unfold joinedM
  rw [withM_E (rejoin_good g _) (by rw [rejoin_len]; exact h), withM_E g h]
  constructor
  · exact Con.mono (fun a b h => .base ((rejoin_E g a b).1 h)) (fun x y h => .pair h)
  · exact Con.mono (fun a b h => .base ((rejoin_E g a b).2 h)) (fun x y h => .pair h)
theorem joined_full {u : List Nat} (g : Good u) {ls : List Lk} (h : InL u.length ls) {ms : List Lk} (hm : InL u.length ms) : fullB (joinedM u ls) ms = fullB (withM u ls) ms :=
  full_congr (by rw [joinedM_len, withM_len]) (fun i h1 h2 => joinedM_hd g h i h1 (by rw [joinedM_len] at h2; exact h2)) (by rw [joinedM_len]; exact hm)
end Uf
open Uf
/-! ### what is told of links -/
def inL (n : Nat) (x : Int) : Bool := decide (1 ≤ x) && decide (x ≤ n)
def outL (n : Nat) (l : List Lk) : Bool := l.any fun x => !(inL n x.src) || !(inL n x.dst)
def badL (l : List Lk) : Bool := l.any fun x => (!(decide (x.kind = 1)) && !(decide (x.kind = 2))) || decide (x.src = x.dst)
def tryM (u : List Nat) (ls l : List Lk) : Int :=
  if 120 < ls.length + l.length then 2 else if outL u.length l = true then 3 else if badL l = true then 1 else if fullB (joinedM u l) (ls ++ l) = true then 0 else 24
theorem inL_of {n : Nat} {l : List Lk} (h : outL n l = false) : InL n l := by
  intro x hx
  have := List.any_eq_false.1 h x hx
  simp [inL] at this
  omega
/-- what stands of every graph -/
structure GInv (u : List Nat) (ls : List Lk) : Prop where
  good : Uf.Good u
  le : u.length ≤ 1000
  inl : InL u.length ls
  same : ∀ x ∈ ls, x.kind = 1 → hz u x.src = hz u x.dst
  kind : ∀ x ∈ ls, x.kind = 1 ∨ x.kind = 2
  full : fullB u ls = true
  few : ls.length ≤ 120
theorem GInv.fresh {n : Nat} (h : n ≤ 1000) : GInv (fresh n) [] := ⟨fresh_good n, by rw [fresh_length]; exact h, fun _ h => (List.not_mem_nil h).elim, fun _ h => (List.not_mem_nil h).elim, fun _ h => (List.not_mem_nil h).elim, full_free fun _ => rfl, by simp⟩
theorem tryM_zero {u : List Nat} {ls l : List Lk} (h : tryM u ls l = 0) : ls.length + l.length ≤ 120 ∧ outL u.length l = false ∧ badL l = false ∧ fullB (joinedM u l) (ls ++ l) = true := by
  unfold tryM at h
  split at h
  · cases h
  · split at h
    · cases h
    · split at h
      · cases h
      · split at h
        · rename_i h1 h2 h3 h4
          exact ⟨by omega, by simpa using h2, by simpa using h3, h4⟩
        · cases h
theorem Uf.InL.append {n : Nat} {ls l : List Lk} (h : InL n ls) (h' : InL n l) : InL n (ls ++ l) := fun x hx => (List.mem_append.1 hx).elim (h x) (h' x)
theorem GInv.add {u : List Nat} {ls l : List Lk} (g : GInv u ls) (h : tryM u ls l = 0) : GInv (withM u l) (ls ++ l) := by
  obtain ⟨h1, h2, h3, h4⟩ := tryM_zero h
  have hi := inL_of h2
  have hia := g.inl.append hi
  refine ⟨withM_good g.good hi, by rw [withM_len]; exact g.le, by rw [withM_len]; exact hia, fun x hx hk => ?_, fun x hx => ?_, by rw [← joined_full g.good hi hia]; exact h4, by simp; omega⟩
  · have hin := hia x hx
    have e : E (withM u l) x.src.toNat x.dst.toNat := by
      rw [withM_E g.good hi]
      rcases List.mem_append.1 hx with hx | hx
      · exact .base ⟨⟨by omega, by omega⟩, ⟨by omega, by omega⟩, g.same x hx hk⟩
      · exact .pair (List.mem_map.2 ⟨x, List.mem_filter.2 ⟨hx, decide_eq_true hk⟩, rfl⟩)
    exact e.2.2
  · rcases List.mem_append.1 hx with hx | hx
    · exact g.kind x hx
    · have := List.any_eq_false.1 h3 x hx
      simp at this
      omega
/-- the numbers of the classes of some heads -/
def numsM (u : List Nat) (hs : List Nat) : List Nat := (List.range' 1 u.length).filter fun j => hs.contains (hd u j)
def aheadOf (u : List Nat) (ls : List Lk) (i : Int) : List Nat := if inU u i = true then numsM u (aheadM u ls (hz u i)) else []
/-- the heads ahead of which one stands -/
def behindM (u : List Nat) (ls : List Lk) (h : Nat) : List Nat := (heads u).filter fun t => (aheadM u ls t).contains h
def behindOf (u : List Nat) (ls : List Lk) (i : Int) : List Nat := if inU u i = true then numsM u (behindM u ls (hz u i)) else []
end Go.Proofs.YtedfbdeklepekaaGreat
