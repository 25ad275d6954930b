/-
  Plain: of each asset there is what was issued, whatever is issued and applied.
-/
import Derived.Test.YtgbgedaedcofcaaOpL
namespace Go.Proofs.Ytgbgedaedcofcaa
open Go Go.RowKit

def totS (l : List (Ent Key B3)) (c : ByteArray) : Int := sumI (allOf l (sortKs (pickKs [c] l)))
def issd (s : LSt) (c : ByteArray) : Int := (look c s.li).getD 0
/-- what a function has of an asset at some keys -/
def TK (K : List Key) (f : Key → B3) (c : ByteArray) : Int := (K.map fun k => if k.2 = c then sum3 (f k) else 0).sum
theorem sum_sup {α : Type} (g : α → Int) : ∀ (L K : List α), L.Nodup → K.Nodup → (∀ x ∈ L, x ∈ K) → (∀ x ∈ K, x ∉ L → g x = 0) → (K.map g).sum = (L.map g).sum
  | [], K, _, _, _, hz => by
    have : ∀ x ∈ K, g x = 0 := fun x hx => hz x hx (by simp)
    clear hz
    induction K with
    | nil => rfl
    | cons k K ih =>
      simp only [List.map_cons, List.sum_cons]
      rw [this k (by simp), ih (by simp_all) (by simp) (fun x hx => this x (by simp [hx]))]
      rfl
  | a :: L, K, hL, hK, hs, hz => by
    obtain ⟨p, q, rfl⟩ := List.append_of_mem (hs a (by simp))
    obtain ⟨ha, hL'⟩ := List.nodup_cons.1 hL
    have hp : (p ++ a :: q).Perm (a :: (p ++ q)) := List.perm_middle
    have hK' := hp.nodup_iff.1 hK
    obtain ⟨ha2, hK'⟩ := List.nodup_cons.1 hK'
    have ih := sum_sup g L (p ++ q) hL' hK' (fun x hx => by
      have := hp.mem_iff.1 (hs x (by simp [hx]))
      rcases List.mem_cons.1 this with rfl | h
      · exact absurd hx ha
      · exact h) (fun x hx hn => hz x (hp.mem_iff.2 (by simp [hx])) (fun h => by
        rcases List.mem_cons.1 h with rfl | h
        · exact ha2 hx
        · exact hn h))
    rw [sum_perm (hp.map g), List.map_cons, List.sum_cons, ih, List.map_cons, List.sum_cons]
theorem sum_filter_if {α : Type} (p : α → Bool) (g : α → Int) : ∀ (L : List α), ((L.filter p).map g).sum = (L.map fun x => if p x = true then g x else 0).sum
  | [] => rfl
  | x :: L => by
    have ih := sum_filter_if p g L
    cases h : p x with
    | true => rw [List.filter_cons_of_pos (by simpa using h), List.map_cons, List.sum_cons, ih, List.map_cons, List.sum_cons, h, if_pos rfl]
    | false => rw [List.filter_cons_of_neg (by simp [h]), ih, List.map_cons, List.sum_cons, h, if_neg (by simp)]; omega
theorem tl_eq {a b : ByteArray} (h : (a.toList == b.toList) = true) : a = b := by
  have h := eq_of_beq h
  cases a
  cases b
  simp_all [ByteArray.toList_eq]
theorem tot_K {l : List (Ent Key B3)} {ck : Nat} (hf : Fine l ck) {K : List Key} (hK : K.Nodup) (hs : ∀ k ∈ l.map (·.key), k ∈ K) (c : ByteArray) : totS l c = TK K (getM l) c := by
  have hp : (sortKs (pickKs [c] l)).Perm (pickKs [c] l) := List.mergeSort_perm ..
  have h0 : (fun k : Key => if wantK [c] k = true then sum3 (getM l k) else 0) = fun k => if k.2 = c then sum3 (getM l k) else 0 := by
    funext k
    by_cases h : k.2 = c
    · rw [if_pos h, if_pos (by simp [wantK, h])]
    · rw [if_neg h, if_neg (fun hw => h (by
        have : (k.2.toList == c.toList) = true := by simpa [wantK] using hw
        exact tl_eq this))]
  unfold totS TK
  rw [allOf_sum, sum_perm (hp.map _)]
  unfold pickKs
  rw [sum_filter_if, h0]
  refine (sum_sup _ _ _ (List.pairwise_map.2 hf.keys) hK hs (fun k _ hk => ?_)).symm
  have : getM l k = (0, 0, 0) := by
    show (look k l).getD _ = _
    rw [look_none.2 (fun e he e' => hk (List.mem_map.2 ⟨e, he, e'⟩))]
    rfl
  rw [this]
  split <;> rfl
theorem TK_eq {f g : Key → B3} {c : ByteArray} : ∀ {K : List Key}, (∀ k ∈ K, sum3 (f k) = sum3 (g k)) → TK K f c = TK K g c
  | [], _ => rfl
  | k :: K, h => by
    have ih := TK_eq (c := c) (K := K) (fun k hk => h k (List.mem_cons_of_mem _ hk))
    unfold TK at *
    rw [List.map_cons, List.sum_cons, List.map_cons, List.sum_cons, ih, h k (by simp)]
/-- what postings add to a key -/
def addK (ps : List OpP) (k : Key) : Int := sumI ((ps.filter fun p => decide (p.key = k)).map (·.amt))
theorem TK_add {f g : Key → B3} {d : Key → Int} {c : ByteArray} : ∀ {K : List Key}, (∀ k ∈ K, sum3 (g k) = sum3 (f k) + d k) → TK K g c = TK K f c + (K.map fun k => if k.2 = c then d k else 0).sum
  | [], _ => rfl
  | k :: K, h => by
    have ih := TK_add (c := c) (K := K) (fun k hk => h k (List.mem_cons_of_mem _ hk))
    have hk := h k (by simp)
    unfold TK at *
    simp only [List.map_cons, List.sum_cons]
    rw [ih]
    split
    · omega
    · omega
theorem sum_one {K : List Key} (hK : K.Nodup) {k0 : Key} (h0 : k0 ∈ K) {c : ByteArray} {z : Int} : (K.map fun k => if k.2 = c then (if k = k0 then z else 0) else 0).sum = if k0.2 = c then z else 0 := by
  refine (sum_sup (fun k : Key => if k.2 = c then (if k = k0 then z else 0) else 0) [k0] K (by simp) hK (by simpa using h0) (fun k _ hk => ?_)).trans ?_
  · have : ¬ k = k0 := fun e => hk (by simp [e])
    show (if k.2 = c then (if k = k0 then z else 0) else 0) = 0
    rw [if_neg this]
    split <;> rfl
  · simp
theorem sum_addI {α : Type} (f g : α → Int) : ∀ (L : List α), (L.map fun x => f x + g x).sum = (L.map f).sum + (L.map g).sum
  | [] => rfl
  | x :: L => by
    have ih := sum_addI f g L
    simp only [List.map_cons, List.sum_cons]
    omega
theorem zero_sum {α : Type} : ∀ (L : List α), (L.map fun _ => (0 : Int)).sum = 0
  | [] => rfl
  | x :: L => by
    simp only [List.map_cons, List.sum_cons]
    rw [zero_sum L]
    rfl
theorem addK_sum {K : List Key} (hK : K.Nodup) {c : ByteArray} : ∀ {ps : List OpP}, (∀ p ∈ ps, p.key ∈ K) → (K.map fun k => if k.2 = c then addK ps k else 0).sum = sumI (asL c ps)
  | [], _ => by
    have : (fun k : Key => if k.2 = c then addK [] k else 0) = fun _ => 0 := by
      funext k
      split <;> rfl
    rw [this]
    show _ = (0 : Int)
    exact zero_sum K
  | p :: ps, h => by
    have ih := addK_sum hK (c := c) (ps := ps) (fun q hq => h q (List.mem_cons_of_mem _ hq))
    have e : (fun k : Key => if k.2 = c then addK (p :: ps) k else 0) = fun k => (if k.2 = c then (if k = p.key then p.amt else 0) else 0) + (if k.2 = c then addK ps k else 0) := by
      funext k
      by_cases h1 : k.2 = c
      · simp only [if_pos h1]
        unfold addK
        by_cases h2 : p.key = k
        · rw [List.filter_cons_of_pos (by simpa using h2), if_pos h2.symm]
          rfl
        · rw [List.filter_cons_of_neg (by simpa using h2), if_neg (fun e => h2 e.symm)]
          omega
      · simp only [if_neg h1]
        rfl
    rw [e, sum_addI, ih, sum_one hK (h p (by simp))]
    unfold asL
    by_cases h3 : p.asset = c
    · rw [if_pos (show p.key.2 = c from h3), List.filter_cons_of_pos (by simpa using h3)]
      rfl
    · rw [if_neg (show ¬ p.key.2 = c from h3), List.filter_cons_of_neg (by simpa using h3)]
      omega
theorem sumI_app : ∀ (a b : List Int), sumI (a ++ b) = sumI a + sumI b
  | [], b => by simp [sumI]
  | x :: a, b => by
    have := sumI_app a b
    simp only [List.cons_append, sumI]
    omega
/-- by key is by part, over all parts -/
theorem addK_parts {k : Key} : ∀ {ps : List OpP}, rightsB ps = true → addK ps k = sumI (ptL (k, 0) ps) + (sumI (ptL (k, 1) ps) + sumI (ptL (k, 2) ps))
  | [], _ => rfl
  | p :: ps, h => by
    have ih := addK_parts (k := k) (ps := ps) (List.all_eq_true.2 fun q hq => List.all_eq_true.1 h q (List.mem_cons_of_mem _ hq))
    have hr := (right_of h (p := p) (by simp)).1
    have hpt : ∀ t : Int, sumI (ptL (k, t) (p :: ps)) = (if p.key = k ∧ p.sub = t then p.amt else 0) + sumI (ptL (k, t) ps) := by
      intro t
      unfold ptL
      by_cases h2 : p.key = k ∧ p.sub = t
      · rw [List.filter_cons_of_pos (by
          rw [decide_eq_true_eq]
          show (p.key, p.sub) = (k, t)
          rw [h2.1, h2.2]), if_pos h2]
        rfl
      · rw [List.filter_cons_of_neg (by
          rw [decide_eq_true_eq]
          exact fun e => h2 ⟨congrArg (·.1) e, congrArg (·.2) e⟩), if_neg h2]
        omega
    rw [hpt 0, hpt 1, hpt 2]
    unfold addK at *
    by_cases h2 : p.key = k
    · rw [List.filter_cons_of_pos (by simpa using h2)]
      show p.amt + sumI _ = _
      rw [ih]
      have h3 : p.sub = 0 ∨ p.sub = 1 ∨ p.sub = 2 := by omega
      rcases h3 with h3 | h3 | h3 <;> simp [h2, h3] <;> omega
    · rw [List.filter_cons_of_neg (by simpa using h2), ih]
      simp [h2]
theorem sum3_parts (b : B3) : sum3 b = partB b 0 + (partB b 1 + partB b 2) := rfl
/-- what a transaction that is OK adds to a key, in all parts -/
theorem apply_sum {s : LSt} {ps : List OpP} (hs : ∀ e ∈ s.l, okB e.val) (h : lookC s ps = 0) (k : Key) : sum3 (applyF ps (getM s.l) (lookL s ps) k) = sum3 (getM s.l k) + addK ps k := by
  obtain ⟨_, h2, _, _⟩ := (look_ok hs).1 h
  rw [sum3_parts, apply_exact hs h k 0 (by omega), apply_exact hs h k 1 (by omega), apply_exact hs h k 2 (by omega), addK_parts h2, sum3_parts]
  omega
/-- of each asset there is what was issued -/
structure Lvl (s : LSt) : Prop where
  eq : ∀ c, totS s.l c = issd s c
  le : ∀ c, totS s.l c ≤ 1152921504606846976
theorem tot_nn {l : List (Ent Key B3)} {ck : Nat} (hf : Fine l ck) (hs : ∀ e ∈ l, okB e.val) (hnz : ∀ e ∈ l, e.val ≠ (0, 0, 0)) (c : ByteArray) : 0 ≤ totS l c := by
  have := (sums_at hf hs hnz c).ge (sortKs (pickKs [c] l)).length
  rw [List.take_length] at this
  exact this
theorem lvl_new (g : Nat) : Lvl (newS g) := by
  have h0 : ∀ c, totS (newS g).l c = 0 := fun c => by
    rw [tot_K (K := []) (l := (newS g).l) (ck := 0) fine_nil List.nodup_nil (fun k hk => hk)]
    rfl
  exact ⟨fun c => h0 c, fun c => by rw [h0]; omega⟩
section
open Classical in
/-- all keys of two lists, and more, once -/
theorem keys_all {K1 K2 K3 : List Key} (h1 : K1.Nodup) : ∃ K : List Key, K.Nodup ∧ (∀ k ∈ K1, k ∈ K) ∧ (∀ k ∈ K2, k ∈ K) ∧ (∀ k ∈ K3, k ∈ K) := by
  have add : ∀ (L K : List Key), K.Nodup → ∃ K' : List Key, K'.Nodup ∧ (∀ k ∈ K, k ∈ K') ∧ ∀ k ∈ L, k ∈ K' := by
    intro L
    induction L with
    | nil => exact fun K h => ⟨K, h, fun _ h => h, fun _ h => by cases h⟩
    | cons x L ih =>
      intro K h
      by_cases hx : x ∈ K
      · obtain ⟨K', g1, g2, g3⟩ := ih K h
        exact ⟨K', g1, g2, fun k hk => (List.mem_cons.1 hk).elim (fun e => g2 k (e ▸ hx)) (g3 k)⟩
      · obtain ⟨K', g1, g2, g3⟩ := ih (x :: K) (List.nodup_cons.2 ⟨hx, h⟩)
        exact ⟨K', g1, fun k hk => g2 k (by simp [hk]), fun k hk => (List.mem_cons.1 hk).elim (fun e => g2 k (by simp [e])) (g3 k)⟩
  obtain ⟨K', g1, g2, g3⟩ := add K2 K1 h1
  obtain ⟨K'', f1, f2, f3⟩ := add K3 K' g1
  exact ⟨K'', f1, fun k hk => f2 k (g2 k hk), fun k hk => f2 k (g3 k hk), f3⟩
end
theorem lvl_issue {s s' : LSt} {a c : ByteArray} {z : Int} {ck ck' : Nat} (h : Lvl s) (hf : Fine s.l ck) (hf' : Fine s'.l ck') (hi : IssS s s' a c z) : Lvl s' := by
  obtain ⟨K, k1, k2, k3, k4⟩ := keys_all (K1 := s.l.map (·.key)) (K2 := s'.l.map (·.key)) (K3 := [(a, c)]) (List.pairwise_map.2 hf.keys)
  by_cases h0 : issC s a c z = 0
  · have hadd : addC (getM s.l (a, c)) 0 z = 0 := by
      unfold issC at h0
      split at h0
      · cases h0
      · split at h0
        · cases h0
        · split at h0
          · cases h0
          · exact h0
    have hle : issd s c + z ≤ 1152921504606846976 := by
      unfold issC at h0
      split at h0
      · cases h0
      · split at h0
        · cases h0
        · split at h0
          · cases h0
          · unfold issd
            omega
    have ht : ∀ q, totS s'.l q = totS s.l q + if c = q then z else 0 := by
      intro q
      rw [tot_K hf k1 k2, tot_K hf' k1 k3, TK_add (f := getM s.l) (d := fun k => if k = (a, c) then z else 0) (fun k _ => ?_), sum_one k1 (k4 _ (by simp))]
      rw [hi.get, if_pos h0]
      unfold addF
      by_cases hk : k = (a, c)
      · subst hk
        rw [if_pos ⟨hadd, rfl⟩, if_pos rfl]
        show _ + _ + _ = _
        simp only [sum3, partB, setB, if_true]
        omega
      · rw [if_neg (fun h => hk h.2), if_neg hk]
        omega
    refine ⟨fun q => ?_, fun q => ?_⟩
    · rw [ht, h.eq]
      unfold issd
      rw [hi.iss]
      by_cases hq : q = c
      · rw [if_pos hq.symm, if_pos ⟨h0, hq⟩, hq]
      · rw [if_neg (fun e => hq e.symm), if_neg (fun e => hq e.2)]
        omega
    · rw [ht]
      by_cases hq : c = q
      · rw [if_pos hq, h.eq, ← hq]
        exact hle
      · rw [if_neg hq]
        have := h.le q
        omega
  · have ht : ∀ q, totS s'.l q = totS s.l q := fun q => by
      rw [tot_K hf k1 k2, tot_K hf' k1 k3]
      exact TK_eq fun k _ => by rw [hi.get, if_neg h0]
    refine ⟨fun q => ?_, fun q => by rw [ht]; exact h.le q⟩
    rw [ht, h.eq]
    unfold issd
    rw [hi.iss, if_neg (fun e => h0 e.1)]
theorem lvl_apply {s : LSt} {ps : List OpP} {m' : Option Nat} {l' : List (Ent Key B3)} {ck ck' : Nat} (h : Lvl s) (hs : ∀ e ∈ s.l, okB e.val) (hf : Fine s.l ck) (hf' : Fine l' ck') (hg : ∀ k, getM l' k = applyF ps (getM s.l) (lookL s ps) k) : Lvl (s.setPos m' l' ck') := by
  have ht : ∀ q, totS l' q = totS s.l q := by
    intro q
    obtain ⟨K, k1, k2, k3, k4⟩ := keys_all (K1 := s.l.map (·.key)) (K2 := l'.map (·.key)) (K3 := ps.map (·.key)) (List.pairwise_map.2 hf.keys)
    rw [tot_K hf k1 k2, tot_K hf' k1 k3]
    by_cases h0 : lookC s ps = 0
    · rw [TK_add (f := getM s.l) (d := addK ps) (fun k _ => by rw [hg, apply_sum hs h0]), addK_sum k1 (fun p hp => k4 _ (List.mem_map.2 ⟨p, hp, rfl⟩))]
      obtain ⟨_, _, he, _⟩ := (look_ok hs).1 h0
      have : sumI (asL q ps) = 0 := by
        by_cases hx : ∃ p ∈ ps, p.asset = q
        · obtain ⟨p, hp, rfl⟩ := hx
          exact of_decide_eq_true (List.all_eq_true.1 he p hp)
        · have : asL q ps = [] := by
            unfold asL
            rw [List.filter_eq_nil_iff.2, List.map_nil]
            intro p hp e
            exact hx ⟨p, hp, by simpa using e⟩
          rw [this]
          rfl
      omega
    · exact TK_eq fun k _ => by rw [hg, look_nil h0]; rfl
  exact ⟨fun q => (ht q).trans (h.eq q), fun q => by show totS l' q ≤ _; rw [ht]; exact h.le q⟩
theorem lvl_block {s s' : LSt} {a c : ByteArray} {on : Bool} (h : Lvl s) (hb : BlkS s s' a c on) : Lvl s' :=
  ⟨fun q => by unfold issd; rw [hb.l, hb.li]; exact h.eq q, fun q => by rw [hb.l]; exact h.le q⟩
theorem lvl_tot {w : World} {B gl : Nat} {s : LSt} (h : Lvl s) (hl : LdV w B gl s) (c : ByteArray) : clampV (sumI (allOf s.l (sortKs (pickKs [c] s.l)))) = (look c s.li).getD 0 := by
  have h1 := tot_nn hl.pos.mp.fine hl.pos.ok hl.pos.nz c
  have h2 := h.le c
  have h3 := h.eq c
  unfold totS at h1 h2 h3
  rw [clamp_in (by omega), h3]
  rfl
theorem lvl_hi {w : World} {B gl : Nat} {s : LSt} (h : Lvl s) (hl : LdV w B gl s) (c : ByteArray) : -4611686018427387904 ≤ (look c s.li).getD 0 ∧ (look c s.li).getD 0 ≤ 4611686018427387904 := by
  have h1 := tot_nn hl.pos.mp.fine hl.pos.ok hl.pos.nz c
  have h2 := h.le c
  have h3 := h.eq c
  unfold issd at h3
  omega
end Go.Proofs.Ytgbgedaedcofcaa
