/-
  Lines in a law; one loan, plain.
  Lines with one loan at most, of one party, one account, one currency, one asset: each method.
  complinelaw21.alive.
-/
import Derived.Test.YtioehmngkoffaaaCrTT
import Derived.Test.YtioehmngkoffaaaCrXZ
namespace Go.Proofs.Ytioehmngkoffaaa
section
open Go Go.RowKit
/-- lines that the law has made -/
structure LnG (n0 : Nat) (q : LnP) (ρ : Nm) (rs : List Reg) (w : World) : Prop where
  sta : Sta q.has (LnV q) ρ rs w
  ge : ∀ x, q.has x → n0 ≤ x
section
variable {n0 : Nat} {q q' : LnP} {ρ ρ' : Nm} {rs rs' : List Reg} {w w' : World}
theorem LnG.moved (h : LnG n0 q ρ rs w) (hm : Moved ρ rs w ρ' rs' w') : LnG n0 q ρ' rs' w' := ⟨h.sta.moved hm, h.ge⟩
theorem LnG.below (h : LnG n0 q ρ rs w) (hb : Below w.heap.size w w') : LnG n0 q ρ rs w' := ⟨h.sta.below hb, h.ge⟩
theorem LnG.drew (h : LnG n0 q ρ rs w) : LnG n0 q ρ rs w.drew := ⟨h.sta.drew, h.ge⟩
theorem LnG.castR (h : LnG n0 q ρ rs w) (e : rs = rs') : LnG n0 q ρ rs' w := e ▸ h
theorem LnG.cut {N : Nat} (h : LnG n0 q ρ' rs' w) (hag : Ag N ρ ρ' rs') (hN : rs.length = N) (e0 : rs'.take N = rs) : LnG n0 q ρ rs w := ⟨h.sta.cut hag hN e0, h.ge⟩
theorem LnG.grown (h : LnG n0 q ρ rs w) {row : Option Nat} (hg : w.grownBy w' row) (hn : ∀ x, q.has x → row ≠ some x) : LnG n0 q ρ rs w' := ⟨h.sta.grown hg hn, h.ge⟩
theorem turn_has {x : Nat} (h : x ∈ q.b :: mT q.m) : q.has x := by
  rcases List.mem_cons.1 h with rfl | h
  · exact .inl rfl
  · exact .inr (.inl (mem_mT.1 h))
theorem LnG.after {T : List Nat} {w0 : World} (h : LnG n0 q ρ rs w) (hR : Rel T w0 ρ rs w) (hV : LnV q' w') (hn : ∀ x, q'.has x → q.has x ∨ w.heap.size ≤ x) (h0 : n0 ≤ w.heap.size) : LnG n0 q' ρ rs w' :=
  ⟨⟨hV, fun x hx hw => (hn x hx).elim (fun h1 => h.sta.far x h1 hw) (fun h1 => by have := hR.wr_lt hw; omega), hV.lt, LnV.same⟩, fun x hx => (hn x hx).elim (h.ge x) (fun h1 => Nat.le_trans h0 h1)⟩
theorem LnG.rel {w0 : World} (h : LnG w0.heap.size q ρ rs w) (hR : Rel [] w0 ρ rs w) (hk : Kept (fun y => y ∈ q.b :: mT q.m) w w') (il : List Nat) (hl : roIdx rs 0 = il) (hidx : ∀ k ∈ il, ¬ q.has (ρ k).1) : Rel [] w0 ρ rs w' :=
  rel_keptW hR hk (fun x hx hw => h.sta.far x (turn_has hx) hw) il hl (fun k hk2 hx => hidx k hk2 (turn_has hx)) (fun x hx => .inr (h.ge x (turn_has hx)))
theorem kept_mT (hk : Kept (fun y => y ∈ mT q.m) w w') : Kept (fun y => y ∈ q.b :: mT q.m) w w' := ⟨hk.os, hk.tape, hk.output, hk.size, fun k hl hn => hk.block k hl (fun h => hn (List.mem_cons_of_mem _ h))⟩
theorem put_has {g : Nat} {k : Key} {x : LoC} {out : List Pl} {n : Nat} (hf : Fine q.l q.ck) (hg : q.m = some g ∨ (q.m = none ∧ n ≤ g)) (hp : ∀ y, x.pv.ownBlock = some y → n ≤ y) : ∀ y, (q.put g k x out).has y → q.has y ∨ n ≤ y := by
  rintro y (rfl | hy | ⟨e, he, hy⟩)
  · exact .inl (.inl rfl)
  · injection hy with hy
    subst hy
    exact hg.imp (fun h => .inr (.inl h)) (fun h => h.2)
  · rcases ins_mem3 hf.keys he with ⟨h1, _⟩ | ⟨_, h2⟩
    · exact .inl (.inr (.inr ⟨e, h1, hy⟩))
    · rw [h2] at hy
      exact .inr (hp y hy)
theorem sub_has {l' : List (Ent Key LoC)} {ck' : Nat} {f' : Key → List Pl} (h : ∀ e ∈ l', ∃ e0 ∈ q.l, e0.key = e.key ∧ e0.val.pv = e.val.pv) : ∀ y, (LnP.mk q.b q.m l' ck' f').has y → q.has y := by
  rintro y (rfl | hy | ⟨e, he, hy⟩)
  · exact .inl rfl
  · exact .inr (.inl hy)
  · obtain ⟨e0, h0, _, h2⟩ := h e he
    exact .inr (.inr ⟨e0, h0, by rw [h2]; exact hy⟩)
theorem repL_sub {k : Key} {x : LoC} {a : Int} {c : Nat} (hf : Fine q.l c) (hl : look k q.l = some x) : ∀ e ∈ repL q k x a, ∃ e0 ∈ q.l, e0.key = e.key ∧ e0.val.pv = e.val.pv := fun e he => by
  unfold repL at he
  split at he
  · exact ins_subK (x' := { x with amt := x.amt - a }) (n := q.ck) hf hl rfl e (del_mem he)
  · exact ins_subK (x' := { x with amt := x.amt - a }) (n := q.ck) hf hl rfl e he
end
theorem sumI_sub : ∀ {l m : List Int}, l.Sublist m → (∀ x ∈ m, 0 ≤ x) → 0 ≤ sumI l ∧ sumI l ≤ sumI m := by
  intro l m h hp
  induction h with
  | slnil => simp [sumI]
  | cons a h ih =>
    have h1 := ih fun x hx => hp x (List.mem_cons_of_mem _ hx)
    have h2 := hp a (by simp)
    simp only [sumI]
    omega
  | cons_cons a h ih =>
    have h1 := ih fun x hx => hp x (List.mem_cons_of_mem _ hx)
    have h2 := hp a (by simp)
    simp only [sumI]
    omega
theorem over_no {ps : List Pl} (hq : ∀ p ∈ ps, 0 ≤ p.qty) (hs : sumI (ps.map (·.qty)) ≤ 1152921504606846976) (a : ByteArray) (i : Nat) : clampO (sumI (qtyL a (ps.take i))) = false := by
  have h1 : (qtyL a (ps.take i)).Sublist (ps.map (·.qty)) := by
    unfold qtyL
    exact (List.filter_sublist.trans (List.take_sublist i ps)).map _
  have h2 := sumI_sub h1 (fun x hx => by obtain ⟨p, hp, rfl⟩ := List.mem_map.1 hx; exact hq p hp)
  exact (clampO_in (by omega) (by omega)).1
theorem mrg_single {ps out : List Pl} {X : ByteArray} (h : IsMrg ps out) (hne : ps ≠ []) (hall : ∀ p ∈ ps, p.asset = X) (hs0 : 0 < sumI (ps.map (·.qty))) (hsm : sumI (ps.map (·.qty)) ≤ 1152921504606846976) : out = [⟨X, sumI (ps.map (·.qty))⟩] := by
  obtain ⟨ks, h1, h2, rfl⟩ := h
  have h3 : ∀ a, a ∈ ks ↔ a = X := fun a => by
    rw [h2]
    constructor
    · rintro ⟨p, hp, rfl⟩
      exact hall p hp
    · rintro rfl
      cases ps with
      | nil => exact absurd rfl hne
      | cons p ps => exact ⟨p, by simp, hall p (by simp)⟩
  have h4 : ks = [X] := by
    cases ks with
    | nil => exact absurd ((h3 X).2 rfl) List.not_mem_nil
    | cons a ks =>
      have ha := (h3 a).1 (by simp)
      subst ha
      cases ks with
      | nil => rfl
      | cons b ks =>
        have hb := (h3 b).1 (by simp)
        rw [hb] at h1
        have := (List.nodup_cons.1 h1).1
        simp at this
  rw [h4]
  have h5 : qtyL X ps = ps.map (·.qty) := by
    unfold qtyL
    rw [List.filter_eq_self.2 fun p hp => decide_eq_true (hall p hp)]
  have h6 := (clampO_in (v := sumI (ps.map (·.qty))) (by omega) hsm).2
  unfold mrg
  rw [List.map_cons, List.map_nil, h5, h6, List.filter_cons, if_pos (decide_eq_true (by show sumI (ps.map (·.qty)) ≠ 0; omega))]
  rfl
/-- one loan alone -/
structure One (q : LnP) (k : Key) (x : LoC) (ps : List Pl) : Prop where
  l : ∃ n, q.l = [⟨k, x, n⟩]
  f : q.f k = ps
section
variable {q : LnP} {k : Key} {x : LoC} {ps : List Pl}
theorem One.look (h : One q k x ps) : Go.Proofs.Ytioehmngkoffaaa.look k q.l = some x := by
  obtain ⟨n, hn⟩ := h.l
  rw [hn]
  simp [Go.Proofs.Ytioehmngkoffaaa.look]
theorem One.has (h : One q k x ps) : hasK k q.l = true := by unfold hasK; rw [h.look]; rfl
theorem One.at_ (h : One q k x ps) : q.at_ k = x := by unfold LnP.at_; rw [h.look]; rfl
theorem One.pls (h : One q k x ps) : q.pls k = ps := by unfold LnP.pls; rw [h.has, if_pos rfl, h.f]
theorem One.put (h : One q k x ps) (g : Nat) (x' : LoC) (out : List Pl) : One (q.put g k x' out) k x' out := by
  obtain ⟨n, hn⟩ := h.l
  refine ⟨⟨n, ?_⟩, if_pos rfl⟩
  show ins k x' q.ck q.l = _
  rw [hn]
  simp [ins]
theorem one_new (h : q.l = []) (g : Nat) (x' : LoC) (out : List Pl) : One (q.put g k x' out) k x' out := by
  refine ⟨⟨q.ck, ?_⟩, if_pos rfl⟩
  show ins k x' q.ck q.l = _
  rw [h]
  rfl
theorem One.loans (h : One q k x ps) (qs : List ByteArray) : q.loans qs = if q.ask qs k = true then [x.of ps] else [] := by
  obtain ⟨n, hn⟩ := h.l
  unfold LnP.loans
  rw [hn]
  show ((sortKs [k]).filter (q.ask qs)).map q.lo = _
  have h1 : sortKs [k] = [k] := by unfold sortKs; rw [List.mergeSort_singleton]
  rw [h1, List.filter_cons]
  split
  · show [q.lo k] = _
    unfold LnP.lo
    rw [h.at_, h.f]
  · rfl
theorem One.used (h : One q k x ps) : q.used x.party = x.amt := by
  unfold LnP.used
  rw [h.loans, if_pos (by unfold LnP.ask; rw [h.at_]; simp)]
  show x.amt + 0 = _
  omega
theorem One.used_le (h : One q k x ps) (h0 : 0 ≤ x.amt) (p : ByteArray) : q.used p ≤ x.amt := by
  unfold LnP.used
  rw [h.loans]
  split
  · show x.amt + 0 ≤ _
    omega
  · exact h0
theorem One.ok (h : One q k x ps) (hk : x.acc = k.1 ∧ x.ccy = k.2) (ha : 0 ≤ x.amt ∧ x.amt ≤ 1152921504606846976) (hl : ps.length ≤ 1000) (hq : ∀ p ∈ ps, IsI64 p.qty ∧ p.asset.size ≤ 281474976710656) : LnOk 100000 90000 q := by
  obtain ⟨n, hn⟩ := h.l
  have h1 : ∀ e ∈ q.l, e = ⟨k, x, n⟩ := fun e he => by rw [hn] at he; exact List.mem_singleton.1 he
  refine ⟨by rw [hn]; show 1 ≤ _; omega, fun e he => ?_, fun e he => ?_, fun e he => ?_, fun e he => ?_⟩
  · rw [h1 e he]; show (q.f k).length ≤ _; rw [h.f]; omega
  · rw [h1 e he]; exact hk
  · rw [h1 e he]; exact ha
  · rw [h1 e he]; show ∀ p ∈ q.f k, _; rw [h.f]; exact hq
end
/-- no loan -/
theorem no_has {q : LnP} {k : Key} (h : q.l = []) : hasK k q.l = false := by rw [h]; rfl
theorem no_at {q : LnP} {k : Key} (h : q.l = []) : q.at_ k = noLo := by unfold LnP.at_; rw [h]; rfl
theorem no_pls {q : LnP} {k : Key} (h : q.l = []) : q.pls k = [] := by unfold LnP.pls; rw [no_has h]; rfl
theorem no_loans {q : LnP} (h : q.l = []) (qs : List ByteArray) : q.loans qs = [] := by
  unfold LnP.loans
  rw [h]
  show ((sortKs []).filter _).map _ = _
  have h1 : sortKs [] = [] := by unfold sortKs; rw [List.mergeSort_nil]
  rw [h1]
  rfl
theorem no_used {q : LnP} (h : q.l = []) (p : ByteArray) : q.used p = 0 := by unfold LnP.used; rw [no_loans h]; rfl
theorem no_ok {q : LnP} (h : q.l = []) : LnOk 100000 90000 q := ⟨by rw [h]; exact Nat.zero_le _, fun e he => (by rw [h] at he; cases he), fun e he => (by rw [h] at he; cases he), fun e he => (by rw [h] at he; cases he), fun e he => (by rw [h] at he; cases he)⟩
end

section
open Go Go.RowKit
def bP : ByteArray := ⟨#[80]⟩
def bA : ByteArray := ⟨#[65]⟩
def bE : ByteArray := ⟨#[69, 85, 82]⟩
def bX : ByteArray := ⟨#[88]⟩
/-- so much is owed, so much is pledged -/
structure St (q : LnP) (o p : Int) : Prop where
  o0 : 0 ≤ o ∧ o ≤ 1152921504606846976
  p0 : 0 ≤ p ∧ p ≤ 1152921504606846976
  c : (p = 0 ∧ o = 0 ∧ q.l = []) ∨ (0 < p ∧ ∃ pv, One q (bA, bE) ⟨bP, bA, bE, o, pv⟩ [⟨bX, p⟩])
theorem i64_in {v : Int} (h : 0 ≤ v ∧ v ≤ 1152921504606846976) : IsI64 v := by unfold IsI64; omega
theorem St.ok {q : LnP} {o p : Int} (h : St q o p) : LnOk 100000 90000 q := by
  rcases h.c with ⟨_, _, h1⟩ | ⟨_, pv, h1⟩
  · exact no_ok h1
  · exact h1.ok ⟨rfl, rfl⟩ h.o0 (by show 1 ≤ _; omega) (fun x hx => by rw [List.mem_singleton.1 hx]; exact ⟨i64_in h.p0, by show bX.size ≤ _; decide⟩)
theorem St.used {q : LnP} {o p : Int} (h : St q o p) : q.used bP = o := by
  rcases h.c with ⟨_, h0, h1⟩ | ⟨_, pv, h1⟩
  · rw [no_used h1, h0]
  · exact h1.used
theorem St.amt {q : LnP} {o p : Int} (h : St q o p) : (q.at_ (bA, bE)).amt = o := by
  rcases h.c with ⟨_, h0, h1⟩ | ⟨_, pv, h1⟩
  · rw [no_at h1, h0]; rfl
  · rw [h1.at_]
theorem St.pls {q : LnP} {o p : Int} (h : St q o p) : (∀ x ∈ q.pls (bA, bE), x.asset = bX ∧ 0 ≤ x.qty) ∧ sumI ((q.pls (bA, bE)).map (·.qty)) = p ∧ (q.pls (bA, bE)).length ≤ 1 := by
  rcases h.c with ⟨h0, _, h1⟩ | ⟨_, pv, h1⟩
  · rw [no_pls h1]
    exact ⟨fun _ hx => (by cases hx), h0.symm, Nat.zero_le _⟩
  · rw [h1.pls]
    refine ⟨fun x hx => by rw [List.mem_singleton.1 hx]; exact ⟨rfl, h.p0.1⟩, by show p + 0 = p; omega, Nat.le_refl _⟩
/-- what stands behind a method -/
def StA (q : LnP) (o p : Int) (w w' : World) : Prop := ∃ q' : LnP, q'.b = q.b ∧ LnV q' w' ∧ (∀ y, q'.has y → q.has y ∨ w.heap.size ≤ y) ∧ St q' o p
theorem take_St {q : LnP} {o p am n : Int} {w w' : World} {e : Ending} (h : LnV q w) (hs : St q o p) (hn : 0 < n) (hpn : p + n ≤ 1152921504606846976) (ht : TakeR q bP bA bE am [⟨bX, n⟩] w e w') :
    Kept (fun y => y ∈ q.b :: mT q.m) w w' ∧ ∃ c : Int, e = .returned (.int .i64 c) ∧ (1 ≤ am → o + am ≤ 1152921504606846976 → c = 0) ∧ ((c = 0 ∧ 1 ≤ am ∧ StA q (o + am) (p + n) w w') ∨ (c ≠ 0 ∧ StA q o p w w')) := by
  obtain ⟨hk, c, rfl, hc⟩ := ht
  have hself : LnV q w' → StA q o p w w' := fun h1 => ⟨q, rfl, h1, fun y hy => .inl hy, hs⟩
  obtain ⟨hp1, hp2, _⟩ := hs.pls
  have hall1 : ∀ x ∈ q.pls (bA, bE) ++ ([⟨bX, n⟩] : List Pl), x.asset = bX ∧ 0 ≤ x.qty := fun x hx => (List.mem_append.1 hx).elim (hp1 x) (fun h1 => by rw [List.mem_singleton.1 h1]; exact ⟨rfl, by show 0 ≤ n; omega⟩)
  have hsum : sumI ((q.pls (bA, bE) ++ ([⟨bX, n⟩] : List Pl)).map (·.qty)) = p + n := by
    rw [List.map_append, sumI_append, hp2]
    show p + (n + 0) = _
    omega
  have ho := hs.o0
  refine ⟨hk, c, rfl, fun h1 h2 => ?_, ?_⟩
  · rcases hc with ⟨_, h3, _⟩ | ⟨_, h3, h4, _⟩ | ⟨_, h3, _⟩ | ⟨h3, _⟩
    · exfalso
      unfold wrongB amtB at h3
      have hp0 := hs.p0
      have e1 : decide (1 ≤ am) = true := decide_eq_true h1
      have e2 : decide (am ≤ 1152921504606846976) = true := decide_eq_true (by omega)
      have e3 : decide (1 ≤ n) = true := decide_eq_true (by omega)
      have e4 : decide (n ≤ 1152921504606846976) = true := decide_eq_true (by omega)
      simp [e1, e2, e3, e4] at h3
    · exfalso
      rcases hs.c with ⟨_, _, h5⟩ | ⟨_, pv, h5⟩
      · rw [no_has h5] at h3; cases h3
      · rw [h5.at_] at h4; exact h4 rfl
    · exfalso
      have h4 : clampO (sumI [o, am]) = false := (clampO_in (by simp only [sumI]; omega) (by simp only [sumI]; omega)).1
      rw [hs.amt, hs.used, h4] at h3
      rcases h3 with h3 | h3 | ⟨a, i, h3⟩
      · cases h3
      · cases h3
      · rw [over_no (fun x hx => (hall1 x hx).2) (by rw [hsum]; exact hpn) a i] at h3
        cases h3
    · exact h3
  · rcases hc with ⟨h3, _, h5⟩ | ⟨h3, _, _, h5⟩ | ⟨h3, _, h5⟩ | ⟨h3, h4, _, h6, _, _, g, pv, out, hm, hpv, hg, hV⟩
    · exact .inr ⟨by rw [h3]; decide, hself h5⟩
    · exact .inr ⟨by rw [h3]; decide, hself h5⟩
    · exact .inr ⟨by rw [h3]; decide, hself h5⟩
    · have ham : 1 ≤ am := by
        unfold wrongB at h4
        rw [Bool.or_eq_false_iff] at h4
        have h7 := h4.1
        unfold amtB at h7
        rw [Bool.not_eq_false', Bool.and_eq_true, decide_eq_true_iff] at h7
        exact h7.1
      rw [hs.amt] at h6 hV
      have h7 := clampV_no h6
      have h8 : sumI [o, am] = o + am := by simp only [sumI]; omega
      rw [h7.1, h8] at hV
      rw [h8] at h7
      have hout := mrg_single hm (by simp) (fun x hx => (hall1 x hx).1) (by rw [hsum]; have := hs.p0; omega) (by rw [hsum]; exact hpn)
      rw [hsum] at hout
      refine .inl ⟨h3, ham, q.put g (bA, bE) ⟨bP, bA, bE, o + am, pv⟩ out, rfl, hV, put_has h.fine hg hpv, ⟨⟨by omega, h7.2.2⟩, ⟨by have := hs.p0; omega, hpn⟩, .inr ⟨by have := hs.p0; omega, pv, ?_⟩⟩⟩
      rw [hout]
      rcases hs.c with ⟨_, _, h5⟩ | ⟨_, pv0, h5⟩
      · exact one_new h5 _ _ _
      · exact h5.put _ _ _
theorem repay_St {q : LnP} {o p a : Int} {w w' : World} {e : Ending} (h : LnV q w) (hs : St q o p) (ht : RepR q (bA, bE) a w e w') :
    Kept (fun y => y ∈ q.b :: mT q.m) w w' ∧ ∃ n c : Int, e = .returned (.tuple #[.int .i64 n, .int .i64 c]) ∧ (0 < p → 0 ≤ a → a ≤ o → c = 0) ∧ ((c = 0 ∧ n = o - a ∧ 0 ≤ a ∧ a ≤ o ∧ StA q (o - a) p w w') ∨ (c ≠ 0 ∧ StA q o p w w')) := by
  obtain ⟨n, c, rfl, hc⟩ := ht
  have hself : LnV q w' → StA q o p w w' := fun h1 => ⟨q, rfl, h1, fun y hy => .inl hy, hs⟩
  rcases hc with ⟨h1, _, h3, h4⟩ | ⟨x, h1, h2, _, h3, h4⟩ | ⟨x, h1, h2, h3, h4, h5, h6, h7⟩
  · refine ⟨Kept.of_below _ h4, n, c, rfl, fun h5 => ?_, .inr ⟨by rw [h3]; decide, hself (h.kept (Kept.of_below (fun _ => False) h4) (fun _ _ hf => hf))⟩⟩
    rcases hs.c with ⟨h6, _, _⟩ | ⟨_, pv, h6⟩
    · omega
    · rw [h6.look] at h1; cases h1
  · refine ⟨Kept.of_below _ h4, n, c, rfl, fun _ h6 h7 => ?_, .inr ⟨by rw [h3]; decide, hself (h.kept (Kept.of_below (fun _ => False) h4) (fun _ _ hf => hf))⟩⟩
    rcases hs.c with ⟨_, _, h8⟩ | ⟨_, pv, h8⟩
    · rw [h8] at h1; cases h1
    · rw [h8.look] at h1
      injection h1 with h1
      subst h1
      exact absurd ⟨h6, h7⟩ h2
  · rcases hs.c with ⟨_, _, h8⟩ | ⟨hp, pv, h8⟩
    · rw [h8] at h1; cases h1
    · rw [h8.look] at h1
      injection h1 with h1
      subst h1
      have h3 : a ≤ o := h3
      refine ⟨kept_mT h7, n, c, rfl, fun _ _ _ => h5, .inl ⟨h5, h4, h2, h3, ⟨q.b, q.m, repL q (bA, bE) ⟨bP, bA, bE, o, pv⟩ a, q.ck, q.f⟩, rfl, h6, fun y hy => .inl (sub_has (repL_sub h.fine h8.look) y hy), ⟨by have := hs.o0; omega, hs.p0, .inr ⟨hp, pv, ?_, h8.f⟩⟩⟩⟩
      obtain ⟨m, hm⟩ := h8.l
      refine ⟨m, ?_⟩
      show repL q (bA, bE) _ a = _
      unfold repL
      rw [if_neg (fun hx => by rw [h8.f] at hx; exact absurd hx.2 (by simp)), hm]
      simp [ins]
theorem free_St {q : LnP} {o p : Int} {w w' : World} {e : Ending} (h : LnV q w) (hs : St q o p) (ht : FreeR q (bA, bE) w e w') :
    Kept (fun y => y ∈ q.b :: mT q.m) w w' ∧ ((p = 0 ∧ e = .returned (.tuple #[.slice none 0 0, .int .i64 7]) ∧ StA q o p w w') ∨ (0 < p ∧ 0 < o ∧ e = .returned (.tuple #[.slice none 0 0, .int .i64 20]) ∧ StA q o p w w') ∨
     (0 < p ∧ o = 0 ∧ ∃ A cp, e = .returned (.tuple #[.slice A 1 cp, .int .i64 0]) ∧ w'.ownsRow 0 49 2 (.slice A 1 cp) 1 (plV [⟨bX, p⟩]) ∧ (∀ y, (Value.slice A 1 cp).ownBlock = some y → q.has y) ∧ StA q 0 0 w w')) := by
  have hself : LnV q w' → StA q o p w w' := fun h1 => ⟨q, rfl, h1, fun y hy => .inl hy, hs⟩
  have hbel : Below w.heap.size w w' → LnV q w' := fun h4 => h.kept (Kept.of_below (fun _ => False) h4) (fun _ _ hf => hf)
  rcases ht with ⟨h1, h2, h3⟩ | ⟨x, h1, h2, h3, h4⟩ | ⟨x, h1, h2, h3, h4, h5, h6⟩
  · refine ⟨Kept.of_below _ h3, .inl ⟨?_, h2, hself (hbel h3)⟩⟩
    rcases hs.c with ⟨h6, _, _⟩ | ⟨_, pv, h6⟩
    · exact h6
    · rw [h6.look] at h1; cases h1
  · rcases hs.c with ⟨_, _, h8⟩ | ⟨hp, pv, h8⟩
    · rw [h8] at h1; cases h1
    · rw [h8.look] at h1
      injection h1 with h1
      subst h1
      have h2 : o ≠ 0 := h2
      have := hs.o0
      exact ⟨Kept.of_below _ h4, .inr (.inl ⟨hp, by omega, h3, hself (hbel h4)⟩)⟩
  · rcases hs.c with ⟨_, _, h8⟩ | ⟨hp, pv, h8⟩
    · rw [h8] at h1; cases h1
    · rw [h8.look] at h1
      injection h1 with h1
      subst h1
      rw [h8.f] at h5
      obtain ⟨m, hm⟩ := h8.l
      have hown : ∀ y, pv.ownBlock = some y → q.has y := fun y hy => .inr (.inr ⟨_, by rw [hm]; exact List.mem_singleton.2 rfl, hy⟩)
      obtain ⟨A, cp, hpv⟩ := own_row h5
      have hpv : pv = .slice A 1 cp := hpv
      subst hpv
      refine ⟨kept_mT h6, .inr (.inr ⟨hp, h2, A, cp, h3, h5, hown, ⟨q.b, q.m, del (bA, bE) q.l, q.ck, q.f⟩, rfl, h4, fun y hy => .inl (sub_has (fun e he => ⟨e, del_mem he, rfl, rfl⟩) y hy), ⟨⟨Int.le_refl _, by omega⟩, ⟨Int.le_refl _, by omega⟩, .inl ⟨rfl, rfl, ?_⟩⟩⟩)⟩
      show del (bA, bE) q.l = []
      rw [hm]
      simp [del]
/-- new lines -/
theorem newQ_any (w : World) : Calls Try.prog 7 #[] w fun e w' => ∃ q : LnP, e = .returned (.pointer (some ⟨q.b, 0, none⟩)) ∧ LnV q w' ∧ (∀ y, q.has y → w.heap.size ≤ y) ∧ q.l = [] ∧ Below w.heap.size w w' := by
  refine (newL_any w).mono ?_
  rintro e w' ⟨g, he, hV, hg, hb⟩
  refine ⟨_, he, hV, ?_, rfl, hb⟩
  rintro y (rfl | hy | ⟨_, h, _⟩)
  · exact hg
  · cases hy
  · cases h
theorem LnG.new {q : LnP} {ρ : Nm} {rs : List Reg} {w0 wb w : World} (hR : Rel [] w0 ρ rs wb) (hV : LnV q w) (hge : ∀ y, q.has y → wb.heap.size ≤ y) : LnG w0.heap.size q ρ rs w := ⟨Sta.new hR hV hge hV.lt LnV.same, fun x hx => Nat.le_trans hR.keeps.size (hge x hx)⟩
theorem LnG.st {n0 : Nat} {q : LnP} {o p : Int} {T : List Nat} {ρ : Nm} {rs : List Reg} {w0 w w' : World} (h : LnG n0 q ρ rs w) (hR : Rel T w0 ρ rs w) (h0 : n0 ≤ w.heap.size) (hs : StA q o p w w') : ∃ q' : LnP, q'.b = q.b ∧ LnG n0 q' ρ rs w' ∧ St q' o p := by
  obtain ⟨q', hb, hV, hn, hst⟩ := hs
  exact ⟨q', hb, h.after hR hV hn h0, hst⟩
/-- a row stands through what turns the lines' cell and map alone -/
theorem own_turned {q : LnP} {w w' : World} {B n z : Nat} {e : TypeId} {v : Value} {xs : List Value} (h : LnV q w) (ho : w.ownsRow B e z v n xs) (he : e ≠ 52) (hk : Kept (fun y => y ∈ q.b :: mT q.m) w w') : w'.ownsRow B e z v n xs :=
  own_kept ho hk (fun y hy hm => by
    rcases List.mem_cons.1 hm with rfl | hm
    · obtain ⟨a, m, h1⟩ := own_is_cells ho hy
      have h2 : w.heap[q.b]? = _ := h.blk
      rw [h1] at h2
      injection h2 with h2
      injection h2 with _ h2
      exact he h2
    · exact own_not_map ho (h.mp.is y (mem_mT.1 hm)).1.blk hy.symm)
theorem Own.turned {q : LnP} {ρ : Nm} {rs : List Reg} {w w' : World} {B n z : Nat} {e : TypeId} {v : Value} {xs : List Value} (ho : Own ρ rs w B e z v n xs) (h : LnV q w) (he : e ≠ 52) (hk : Kept (fun y => y ∈ q.b :: mT q.m) w w') : Own ρ rs w' B e z v n xs := ⟨own_turned h ho.own he hk, ho.far⟩
end

section
open Go Go.RowKit
attribute [local irreducible] run goO leaveK someK nextK nextT nextOT nextOD loopBody loopRest loopK fillJ tmplOf tmplJ mergeT At AtO drawOk ordOf gateOf callC callO topOp topO idxOf appOf storeOf clearOf sliceOf calleeOf calleeO topQ idxQ newRowOf resL stepOp seek
set_option maxRecDepth 100000 in
set_option maxHeartbeats 4000000 in
theorem alive21_any (w : World) : Calls Try.prog 6 #[] w fun e w' => e = .returned (.bool true) ∧ Below w.heap.size w w' := by
  refine sim_enter Try.func6 ρ0 [] [] (by kernel_rfl) rfl ?_
  have hR := Rel.start [] w ρ0
  refine sim_run 6 [] (hR.cast (by kernel_rfl)) (by kernel_rfl) trivial (fun ρ100 w100 hm100 hR100 => ?_)
  
  refine sim_call 7 [] (by kernel_rfl) ?_
  refine (newQ_any _).mono ?_
  rintro e1 w1 ⟨q, rfl, hV1, hge, hl0, hb1⟩
  have hR1 := ((by assumption : Rel _ _ _ _ _)).below hb1
  have hG := LnG.new ((by assumption : Rel _ _ _ _ _)) hV1 hge
  have hst : St q 0 0 := ⟨by omega, by omega, .inl ⟨rfl, rfl, hl0⟩⟩
  clear hl0 hge hV1
  refine Back.of (.v (.pointer (some ⟨q.b, 0, none⟩))) hR1 rfl ?_
  refine sim_run 12 [] (hR1.cast (by kernel_rfl)) (by kernel_rfl) trivial (fun ρ200 w200 hm200 hR200 => ?_)
  have hG := hG.moved (hm200.castL (by kernel_rfl))
  
  have ht := take_any q bP bA bE 10 _ 1 1 _ [⟨bX, 3⟩] _ hG.sta.is hst.ok (by rw [hst.used]; omega) (by unfold IsI64; omega) (((by assumption : Rel _ _ _ _ _)).readsP (n := 0) (size := 2) (m := 1) (vs := [.string bX, .int .i64 3]) (b := true) (by kernel_rfl) rfl) rfl (Nat.le_refl _) (by omega) (by decide) (by decide) (by decide) (fun x hx => by rw [List.mem_singleton.1 hx]; exact ⟨by show IsI64 ((3 : Nat) : Int); unfold IsI64; omega, by decide⟩) (fun a ha => by injection ha with ha; rw [← ha]; exact ((by assumption : Rel _ _ _ _ _)).lt 0 ⟨[LS bX, LI 3], true⟩ (by kernel_rfl))
  refine sim_call 11 [.v (.pointer (some ⟨q.b, 0, none⟩)), LS bP, .agg [LS bA, LS bE, LI 10, .slc 0 0 1 1]] (by kernel_rfl) ?_
  refine ht.mono ?_
  rintro e2 w2 hT
  obtain ⟨hk2, c2, rfl, hc2, hcc2⟩ := take_St hG.sta.is hst (by omega) (by omega) hT
  have hcz2 := hc2 (by omega) (by omega)
  subst hcz2
  obtain ⟨_, _, hsa2⟩ := hcc2.resolve_right (fun h => h.1 rfl)
  have hR2 := hG.rel ((by assumption : Rel _ _ _ _ _)) hk2 [] (by kernel_rfl) (fun _ h => absurd h List.not_mem_nil)
  obtain ⟨q2, hbq2, hG2, hst2⟩ := hG.st (by assumption : Rel [] w _ _ _) (by assumption : Rel [] w _ _ _).keeps.size hsa2
  have hbq2 := hbq2
  clear hG hst hT hcc2 hc2 hsa2 ht
  have hG := hG2
  have hst := hst2
  clear hG2 hst2
  refine Back.of (LI 0) hR2 rfl ?_
  refine sim_run 7 [] (hR2.cast (by kernel_rfl)) (by kernel_rfl) trivial (fun ρ300 w300 hm300 hR300 => ?_)
  have hG := hG.moved (hm300.castL (by kernel_rfl))
  
  have ht := take_any q2 bP bA bE 5 _ 1 1 _ [⟨bX, 1⟩] _ hG.sta.is hst.ok (by rw [hst.used]; omega) (by unfold IsI64; omega) (((by assumption : Rel _ _ _ _ _)).readsP (n := 1) (size := 2) (m := 1) (vs := [.string bX, .int .i64 1]) (b := true) (by kernel_rfl) rfl) rfl (Nat.le_refl _) (by omega) (by decide) (by decide) (by decide) (fun x hx => by rw [List.mem_singleton.1 hx]; exact ⟨by show IsI64 ((1 : Nat) : Int); unfold IsI64; omega, by decide⟩) (fun a ha => by injection ha with ha; rw [← ha]; exact ((by assumption : Rel _ _ _ _ _)).lt 1 ⟨[LS bX, LI 1], true⟩ (by kernel_rfl))
  rw [hbq2] at ht
  refine sim_call 11 [.v (.pointer (some ⟨q.b, 0, none⟩)), LS bP, .agg [LS bA, LS bE, LI 5, .slc 1 0 1 1]] (by kernel_rfl) ?_
  refine ht.mono ?_
  rintro e3 w3 hT
  obtain ⟨hk3, c3, rfl, hc3, hcc3⟩ := take_St hG.sta.is hst (by omega) (by omega) hT
  have hcz3 := hc3 (by omega) (by omega)
  subst hcz3
  obtain ⟨_, _, hsa3⟩ := hcc3.resolve_right (fun h => h.1 rfl)
  have hR3 := hG.rel ((by assumption : Rel _ _ _ _ _)) hk3 [] (by kernel_rfl) (fun _ h => absurd h List.not_mem_nil)
  obtain ⟨q3, hbq3, hG3, hst3⟩ := hG.st (by assumption : Rel [] w _ _ _) (by assumption : Rel [] w _ _ _).keeps.size hsa3
  have hbq3 := hbq3.trans hbq2
  clear hG hst hT hcc3 hc3 hsa3 ht
  have hG := hG3
  have hst := hst3
  clear hG3 hst3
  refine Back.of (LI 0) hR3 rfl ?_
  refine sim_run 8 [] (hR3.cast (by kernel_rfl)) (by kernel_rfl) trivial (fun ρ400 w400 hm400 hR400 => ?_)
  have hG := hG.moved (hm400.castL (by kernel_rfl))
  
  have hst : St q3 15 4 := hst
  obtain ⟨_, pv0, hone⟩ := hst.c.resolve_left (fun h => absurd h.1 (by decide))
  have hl := loan_any q3 bA bE _ hG.sta.is (hst.ok.mono (Nat.le_refl _) (by omega))
  unfold LoanR at hl
  rw [hone.has, hone.at_, if_pos rfl, hone.f, hbq3] at hl
  refine sim_call 15 [.v (.pointer (some ⟨q.b, 0, none⟩)), LS bA, LS bE] (by kernel_rfl) ?_
  refine hl.mono ?_
  rintro e5 w5 ⟨pv, rfl, hpo, hb5⟩
  obtain ⟨Ap, cq, rfl⟩ := own_row hpo
  have hsz5 := ((by assumption : Rel _ _ _ _ _)).keeps.size
  have hR5 := ((by assumption : Rel _ _ _ _ _)).below hb5
  have hpo := Own.start ((by assumption : Rel _ _ _ _ _)) hpo
  have hG := hG.below hb5
  refine Back.of (.tup [.agg [LS bP, LS bA, LS bE, LI 15, .v (.slice Ap 1 cq)], LB true]) hR5 rfl ?_
  clear hl
  refine sim_run 10 [] (hR5.cast (by kernel_rfl)) (by kernel_rfl) trivial (fun ρ500 w500 hm500 hR500 => ?_)
  have hpo := hpo.moved (hm500.castL (by kernel_rfl))
  have hG := hG.moved (hm500.castL (by kernel_rfl))
  
  have hr := repay_any q3 bA bE 15 _ hG.sta.is (hst.ok.mono (Nat.le_refl _) (by omega)) (by unfold IsI64; omega)
  rw [hbq3] at hr
  refine sim_call 9 [.v (.pointer (some ⟨q.b, 0, none⟩)), LS bA, LS bE, LI 15] (by kernel_rfl) ?_
  refine hr.mono ?_
  rintro e6 w6 hT
  obtain ⟨hk6, n6, c6, rfl, hc6, hcc6⟩ := repay_St hG.sta.is hst hT
  have hcz6 := hc6 (by omega) (by omega) (by omega)
  subst hcz6
  obtain ⟨_, hn6, _, _, hsa6⟩ := hcc6.resolve_right (fun h => h.1 rfl)
  have hn6 : n6 = 0 := by omega
  subst hn6
  have hpo := hpo.turned hG.sta.is (by decide) hk6
  have hR6 := hG.rel ((by assumption : Rel _ _ _ _ _)) hk6 [] (by kernel_rfl) (fun _ h => absurd h List.not_mem_nil)
  obtain ⟨q4, hbq4, hG6, hst6⟩ := hG.st (by assumption : Rel [] w _ _ _) (by assumption : Rel [] w _ _ _).keeps.size hsa6
  have hbq4 := hbq4.trans hbq3
  clear hG hst hT hcc6 hc6 hsa6 hr hone
  have hG := hG6
  have hst : St q4 0 4 := hst6
  clear hG6 hst6
  refine Back.of (.tup [LI 0, LI 0]) hR6 rfl ?_
  refine sim_run 9 [] (hR6.cast (by kernel_rfl)) (by kernel_rfl) trivial (fun ρ600 w600 hm600 hR600 => ?_)
  have hpo := hpo.moved (hm600.castL (by kernel_rfl))
  have hG := hG.moved (hm600.castL (by kernel_rfl))
  
  have hf := free_any q4 bA bE _ hG.sta.is
  rw [hbq4] at hf
  refine sim_call 10 [.v (.pointer (some ⟨q.b, 0, none⟩)), LS bA, LS bE] (by kernel_rfl) ?_
  refine hf.mono ?_
  rintro e7 w7 hT
  obtain ⟨hk7, hcc7⟩ := free_St hG.sta.is hst hT
  obtain ⟨_, _, A7, c7, rfl, ho7, hb7, hsa7⟩ := (hcc7.resolve_left (fun h => absurd h.1 (by decide))).resolve_left (fun h => absurd h.2.1 (by decide))
  have hpo := hpo.turned hG.sta.is (by decide) hk7
  have ho7 : Own _ _ w7 0 49 2 (.slice A7 1 c7) 1 (plV [⟨bX, 4⟩]) := ⟨ho7, fun y hy => hG.sta.far y (hb7 y hy)⟩
  have hR7 := hG.rel ((by assumption : Rel _ _ _ _ _)) hk7 [] (by kernel_rfl) (fun _ h => absurd h List.not_mem_nil)
  obtain ⟨q5, hbq5, hG7, hst7⟩ := hG.st (by assumption : Rel [] w _ _ _) (by assumption : Rel [] w _ _ _).keeps.size hsa7
  have hbq5 := hbq5.trans hbq4
  clear hG hst hT hcc7 hsa7 hf
  have hG := hG7
  have hst := hst7
  clear hG7 hst7
  refine Back.of (.tup [.v (.slice A7 1 c7), LI 0]) hR7 rfl ?_
  obtain ⟨gp, rfl⟩ := own_spot hpo.own (by show 0 < 1; omega)
  obtain ⟨g7, rfl⟩ := own_spot ho7.own (by omega)
  have hpo : Own _ _ w7 w.heap.size 49 2 (.slice (some ⟨gp, 0, none⟩) 1 cq) 1 (plV [⟨bX, 4⟩]) := ⟨own_base hpo.own hsz5, hpo.far⟩
  refine sim_seeO (xss := [[.string bX, .int .i64 4]]) (sz := 2) [.string bX, .int .i64 4] 0 3 (by kernel_rfl) rfl hpo (by intro y hy; rw [List.mem_singleton.1 hy]; rfl) (by omega) (by omega) hR7 (by kernel_rfl) (fun ρ8 hm8 e8 hR8 => ?_)
  have hG := hG.moved hm8
  have ho7 := ho7.moved hm8
  refine sim_seeO (xss := [[.string bX, .int .i64 4]]) (sz := 2) [.string bX, .int .i64 4] 0 4 (by kernel_rfl) rfl ho7 (by intro y hy; rw [List.mem_singleton.1 hy]; rfl) (by omega) (by omega) hR8 (by kernel_rfl) (fun ρ9 hm9 e9 hR9 => ?_)
  have hG := hG.moved hm9
  have e8 := (hm9.agree 3 (Nat.le_of_ble_eq_true (by kernel_rfl))).trans e8
  have hag := hR9.ag_ 5 (by kernel_rfl)
  clear hpo ho7 hR8 hR7
  refine sim_run 23 [] (hR9.cast (by kernel_rfl)) (by kernel_rfl) trivial (fun ρ700 w700 hm700 hR700 => ?_)
  have hG := hG.moved (hm700.castL (by kernel_rfl))
  have hag := hag.moved (hm700.castL (by kernel_rfl))
  refine sim_place (.v (.slice (some ⟨gp, 0, none⟩) 1 cq)) 1 2 0 3 0 (by kernel_rfl) (by omega) (by omega) rfl (by simp only [Nm.at_, hag.at_ 3 (by omega), e8]; rfl) ?_
  refine sim_run 23 [] (hR700.cast (by kernel_rfl)) (by kernel_rfl) trivial (fun ρ702 w702 hm702 hR702 => ?_)
  have hG := hG.moved (hm702.castL (by kernel_rfl))
  have hag := hag.moved (hm702.castL (by kernel_rfl))
  refine sim_place (.v (.slice (some ⟨g7, 0, none⟩) 1 c7)) 1 2 0 4 0 (by kernel_rfl) (by omega) (by omega) rfl (by simp only [Nm.at_, hag.at_ 4 (by omega), e9]; rfl) ?_
  refine sim_run 6 [] (hR702.cast (by kernel_rfl)) (by kernel_rfl) trivial (fun ρ705 w705 hm705 hR705 => ?_)
  have hG := hG.moved (hm705.castL (by kernel_rfl))
  have hag := hag.moved (hm705.castL (by kernel_rfl))
  
  have hu := used_any q5 bP _ hG.sta.is (hst.ok.mono (Nat.le_refl _) (by omega)) (by rw [hst.used]; omega)
  rw [hbq5, hst.used] at hu
  refine sim_call 14 [.v (.pointer (some ⟨q.b, 0, none⟩)), LS bP] (by kernel_rfl) ?_
  refine hu.mono ?_
  rintro e10 w10 ⟨rfl, hb10⟩
  have hR10 := ((by assumption : Rel _ _ _ _ _)).below hb10
  refine Back.of (LI 0) hR10 rfl ?_
  refine sim_run 4 [] (hR10.cast (by kernel_rfl)) (by kernel_rfl) trivial (fun ρ800 w800 hm800 hR800 => ?_)
  have hag := hag.moved (hm800.castL (by kernel_rfl))
  refine sim_ret (LB true) hR800 (by kernel_rfl) (by kernel_rfl) ?_
  exact ⟨rfl, hR800.toBelow⟩
  
end
end Go.Proofs.Ytioehmngkoffaaa
