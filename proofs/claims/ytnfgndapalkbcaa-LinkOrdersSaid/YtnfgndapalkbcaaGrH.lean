/-
  link.Add: links are added, all or none.
-/
import Derived.Test.YtnfgndapalkbcaaGrG
namespace Go.Proofs.Ytnfgndapalkbcaa
open Go Go.RowKit
def addU (u : List Nat) (ls l : List Lk) : List Nat := if tryM u ls l = 0 then Uf.withM u l else u
def addL (u : List Nat) (ls l : List Lk) : List Lk := if tryM u ls l = 0 then ls ++ l else ls
theorem GInv.addM {u : List Nat} {ls : List Lk} (h : GInv u ls) (l : List Lk) : GInv (addU u ls l) (addL u ls l) := by
  unfold addU addL
  split
  · exact h.add (by assumption)
  · exact h
theorem addU_len (u : List Nat) (ls l : List Lk) : (addU u ls l).length = u.length := by
  unfold addU
  split
  · exact Uf.withM_len _ _
  · rfl
def AddR (w : World) (q : GrP) (u : List Nat) (ls l : List Lk) (e : Ending) (w' : World) : Prop :=
  e = .returned (.int .i64 (tryM u ls l)) ∧ ∃ q' : GrP, GrV q' (addU u ls l) (addL u ls l) w' ∧ q'.b = q.b ∧ q'.pb = q.pb ∧ Kept q.has w w' ∧ ∀ x, q'.has x → q.has x ∨ w.heap.size ≤ x
theorem addR_same {w w' : World} {q : GrP} {u : List Nat} {ls l : List Lk} (h : GrV q u ls w') (hb : Kept q.has w w') {k : Int} (ht : tryM u ls l = k) (hk : k ≠ 0) : AddR w q u ls l (.returned (.int .i64 k)) w' :=
  ⟨by rw [ht], q, by unfold addU addL; rw [if_neg (by omega), if_neg (by omega)]; exact h, rfl, rfl, hb, fun _ h => .inl h⟩
/-- the blocks of a graph -/
def GrP.T (q : GrP) : List Nat := [q.b, q.pb, q.pg] ++ (match q.L with | some a => [a.block] | none => [])
theorem GrP.T_iff {q : GrP} {x : Nat} : x ∈ q.T ↔ q.has x := by
  unfold GrP.T GrP.has
  cases q.L with
  | none => simp
  | some a =>
    simp
    constructor
    · rintro (h | h | h | h) <;> simp [h]
    · rintro (h | h | h | h) <;> simp [h]
/-- a graph but its classes -/
structure GrH (q : GrP) (ls : List Lk) (w : World) : Prop where
  blk : Blk w q.b 36 #[.pointer (some ⟨q.pb, 0, none⟩), .slice q.L ls.length q.cl]
  own : w.ownsRow 0 30 3 (.slice q.L ls.length q.cl) ls.length (lkV ls)
def grhS (q : GrP) (x : Nat) : Prop := x = q.b ∨ ∃ a, q.L = some a ∧ a.block = x
theorem GrH.same {q : GrP} {ls : List Lk} : ∀ (w1 w2 : World) (S' : Nat → Prop), GrH q ls w1 → (∀ x, grhS q x → x < w1.heap.size) → Kept S' w1 w2 → (∀ x, grhS q x → ¬ S' x) → GrH q ls w2 := fun _ _ _ h _ hk hn => by
  refine ⟨h.blk.kept hk (hn _ (.inl rfl)), own_kept h.own hk (fun x hx => hn x ?_)⟩
  cases hL : q.L with
  | none => rw [hL] at hx; cases hx
  | some a =>
    rw [hL] at hx
    simp only [Value.ownBlock, Option.some.injEq] at hx
    exact .inr ⟨a, hL, hx⟩
theorem Sta.grh {q : GrP} {u : List Nat} {ls : List Lk} {ρ : Nm} {rs : List Reg} {w : World} (h : Sta q.has (GrV q u ls) ρ rs w) : Sta (grhS q) (GrH q ls) ρ rs w :=
  ⟨⟨h.is.blk, h.is.own⟩, fun x hx => h.far x (hx.elim .inl (fun e => .inr (.inr (.inr e)))), fun x hx => h.lt x (hx.elim .inl (fun e => .inr (.inr (.inr e)))), GrH.same⟩
theorem Rel.ufNewT {T : List Nat} {w0 : World} {b g : Nat} {V : World → Prop} {ρ : Nm} {rs : List Reg} {w w' : World} (hR : Rel T w0 ρ rs w) (h : Sta (ufS b g) V ρ rs w) (hk : Keeps [b, g] w w') (hT : ∀ x, x = b ∨ x = g → x ∈ T ∨ w0.heap.size ≤ x) (l : List Nat) (hl : roIdx rs 0 = l) (hidx : ∀ k ∈ l, (ρ k).1 ≠ b ∧ (ρ k).1 ≠ g) : Rel T w0 ρ rs w' := by
  refine hR.kept hk.kept (fun n r hn hne hs => ?_) (fun x hx => ?_)
  · simp only [List.mem_cons, List.not_mem_nil, or_false] at hs
    cases hw : r.wr with
    | true => exact h.far _ hs ⟨n, r, hn, hw, rfl⟩
    | false =>
      have hm := roIdx_mem rs 0 n r hn hw hne
      rw [hl, Nat.zero_add] at hm
      have := hidx n hm
      exact hs.elim this.1 this.2
  · simp only [List.mem_cons, List.not_mem_nil, or_false] at hx
    exact hT x hx
/-- the parts of a graph lie apart -/
theorem GrV.apart {q : GrP} {u : List Nat} {ls : List Lk} {w : World} (h : GrV q u ls w) : ∀ x, grhS q x → x ≠ q.pb ∧ x ≠ q.pg := by
  have hbp : q.b ≠ q.pb := h.blk.ne_ h.uf.blk (by decide)
  have hg : ∀ x, grhS q x → x ≠ q.pb := by
    rintro x (rfl | ⟨a, ha, rfl⟩)
    · exact hbp
    · have := own_blk_ne h.own h.uf.blk (by decide)
      rw [ha] at this
      exact fun e => this (by rw [← e]; rfl)
  refine fun x hx => ⟨hg x hx, ?_⟩
  rcases h.uf.at_ with ⟨_, e⟩ | ⟨e, _⟩
  · rw [e]; exact hg x hx
  · rcases hx with rfl | ⟨a, ha, rfl⟩
    · have := own_blk_ne h.uf.own h.blk (by decide)
      rw [e] at this
      exact fun e2 => this (by rw [e2]; rfl)
    · have := own_own_ne h.own h.uf.own (by decide) a.block (by rw [ha]; rfl)
      rw [e] at this
      exact fun e2 => this (by rw [e2]; rfl)
attribute [local irreducible] run goO leaveK someK nextK nextT nextOT nextOD loopBody loopRest loopK fillJ tmplOf tmplJ mergeT At AtO drawOk ordOf gateOf callC callO topOp topO idxOf appOf storeOf clearOf sliceOf calleeOf calleeO topQ idxQ newRowOf resL stepOp seek
set_option maxRecDepth 100000 in
set_option maxHeartbeats 4000000 in
theorem add_any (q : GrP) (u : List Nat) (ls : List Lk) (A : Option Addr) (n cp B : Nat) (l : List Lk) (w : World) (h : GrV q u ls w) (hi : GInv u ls) (hl : Reads w B 3 A n (lkV l)) (hB : B ≤ w.heap.size) (hn : n ≤ 10000) (hA : ∀ a, A = some a → a.block < B → ¬ q.has a.block) :
    Calls Try.prog 11 #[.pointer (some ⟨q.b, 0, none⟩), .slice A n cp] w (AddR w q u ls l) := by
  have hll := lkV_num hl
  have hu := hi.le
  have hfew := hi.few
  have hgd := hi.good
  obtain ⟨ρ, e0, hR⟩ := h.open_ false q.T (by simp)
  have hs := h.sta (ρ := ρ) (rs := [⟨(q.cells ls.length).map .v, false⟩]) (by kernel_rfl)
  refine sim_enter Try.func11 ρ [.ptr 0 0, .v (.slice A n cp)] [⟨(q.cells ls.length).map .v, false⟩] (by kernel_rfl) (by simp only [denL, LV.den, Nm.at_, e0]) ?_
  have hag := hR.ag_ 1 (by kernel_rfl)
  have hAT : ∀ a, A = some a → a.block < B → a.block ∉ q.T := fun a ha hb hm => hA a ha hb (GrP.T_iff.1 hm)
  generalize ht : tryM u ls l = t
  by_cases h0 : t = 0
  · subst h0
    refine sim_run 9 [] (hR.cast (by kernel_rfl)) (by kernel_rfl) trivial (fun ρ100 w100 hm100 hR100 => ?_)
    have hs := hs.moved (hm100.castL (by kernel_rfl))
    have hag := hag.moved (hm100.castL (by kernel_rfl))
    refine sim_call 19 [.ptr 0 0, .v (Value.slice A n cp)] (by kernel_rfl) ?_
    have ez0_101 := (hag.at_ 0 (by omega)).trans e0
    simp only [denL, LV.den, Nm.at_, ez0_101, Nat.add_zero]
    refine Calls.mono (try_any (q) (u) (ls) (A) (n) (cp) (B) (l) _ (hs.is) (hi) ((hl.keepsFar ((by assumption : Rel _ _ _ _ _)).keeps hB hAT)) ((Nat.le_trans hB ((by assumption : Rel _ _ _ _ _)).keeps.size)) (hn)) ?_
    rw [ht]
    rintro e101 w101 ⟨rfl, hb101⟩
    have hR101 := (hR100).below hb101
    have hs := hs.below hb101
    refine Back.of (LI 0) hR101 rfl ?_
    refine sim_run 17 [] (hR101.cast (by kernel_rfl)) (by kernel_rfl) trivial (fun ρ102 w102 hm102 hR102 => ?_)
    have hag := hag.moved (hm102.castL (by kernel_rfl))
    have hs := hs.moved (hm102.castL (by kernel_rfl))
    
    have hin := inL_of (tryM_zero ht).2.1
    have hlen := (tryM_zero ht).1
    have hj := hs.uf
    have hh := hs.grh
    have hap := h.apart
    have hpb : q.pb ∈ q.T := GrP.T_iff.2 (.inr (.inl rfl))
    have hpg : q.pg ∈ q.T := GrP.T_iff.2 (.inr (.inr (.inl rfl)))
    have hw0 : Uf.withM u (l.take 0) = u := rfl
    rw [← hw0] at hj
    refine sim_loop (ι := Nat) (T := q.T) (w0 := w) 0 [0, 1, 14, 15] (fun k => [(16, LI k)]) (fun _ => [⟨(q.cells ls.length).map .v, false⟩]) (fun k w1 => k ≤ n ∧ Sta (ufS q.pb q.pg) (UfW q.pb q.pg (Uf.withM u (l.take k)) q.A q.c) ρ102 [⟨(q.cells ls.length).map .v, false⟩] w1 ∧ Sta (grhS q) (GrH q ls) ρ102 [⟨(q.cells ls.length).map .v, false⟩] w1) (fun k => n - k) (by kernel_rfl) (by kernel_rfl) ((by assumption : Rel _ _ _ _ _).cast (by kernel_rfl)) ⟨Nat.zero_le _, hj.castR (by kernel_rfl), hh.castR (by kernel_rfl)⟩ ?_
    have e0 := (hag.at_ 0 (by omega)).trans e0
    iterate 8 (try clear hj)
    iterate 8 (try clear hh)
    iterate 8 (try clear hs)
    iterate 8 (try clear hag)
    rintro i d w3 hR3 ⟨hi2, hj, hh⟩
    have hag0 := hR3.ag_ 1 (by kernel_rfl)
    by_cases hlt : i < n
    · obtain ⟨x, hx⟩ : ∃ x, l[i]? = some x := ⟨_, List.getElem?_eq_getElem (by omega)⟩
      have hxi := hin x (List.mem_of_getElem? hx)
      obtain ⟨kd, a, b, rfl⟩ : ∃ (kd : Int) (a b : Nat), x = ⟨kd, (a : Int), (b : Int)⟩ := ⟨x.kind, x.src.toNat, x.dst.toNat, by rw [Int.toNat_of_nonneg (by omega), Int.toNat_of_nonneg (by omega)]⟩
      have ha : 1 ≤ a ∧ a ≤ u.length := by have := hxi.1; dsimp only at this; omega
      have hb : 1 ≤ b ∧ b ≤ u.length := by have := hxi.2; dsimp only at this; omega
      have hrg := Uf.withM_good hgd (ls := l.take i) (fun y hy => hin y (List.mem_of_mem_take hy))
      have hrl := Uf.withM_len u (l.take i)
      have htk : l.take (i + 1) = l.take i ++ [⟨kd, (a : Int), (b : Int)⟩] := by rw [List.take_add_one, hx]; rfl
      have hws := Uf.withM_snoc u (l.take i) ⟨kd, (a : Int), (b : Int)⟩
      rw [← htk] at hws
      simp only [Int.toNat_natCast] at hws
      have hab : InN (Uf.withM u (l.take i)) [a, b] := fun y hy => by simp only [List.mem_cons, List.not_mem_nil, or_false] at hy; omega
      refine sim_see (Lk.cells ⟨kd, (a : Int), (b : Int)⟩) i 1 (by kernel_rfl) (by rw [List.getElem?_map, hx]; rfl) hl (lk_in l) (by omega) hlt hB (fun a ha => hAT a ha (by obtain ⟨_, e1, e2, _⟩ := hl.2 (by omega); rw [ha] at e1; injection e1 with e1; subst e1; exact e2)) hR3 (by kernel_rfl) (fun ga oa ρE eA hgT hgl hmE eE hRE => ?_)
      subst eA
      have hj := hj.moved hmE
      have hh := hh.moved hmE
      have e0 := (hmE.agree 0 (by show 0 < 1; omega)).trans e0
      have hag0 := hag0.moved hmE
      have hag := hRE.ag_ 2 (by kernel_rfl)
      have hidx : ∀ k ∈ [0, 1], (ρE k).1 ≠ q.pb ∧ (ρE k).1 ≠ q.pg := fun k hk => by
        simp only [List.mem_cons, List.not_mem_nil, or_false] at hk
        rcases hk with rfl | rfl
        · rw [e0]; exact hap _ (.inl rfl)
        · rw [eE]; exact ⟨fun e => hgT (by rw [show ga = q.pb from e]; exact hpb), fun e => hgT (by rw [show ga = q.pg from e]; exact hpg)⟩
      have hidx2 : ∀ ρ' : Nm, ρ' 0 = ρE 0 → ρ' 1 = ρE 1 → ∀ k ∈ [0, 1], (ρ' k).1 ≠ q.pb ∧ (ρ' k).1 ≠ q.pg := fun ρ' h1 h2 k hk => by
        have := hidx k hk
        simp only [List.mem_cons, List.not_mem_nil, or_false] at hk
        rcases hk with rfl | rfl
        · rw [h1]; exact this
        · rw [h2]; exact this
      have hufT : ∀ x, x = q.pb ∨ x = q.pg → x ∈ q.T ∨ w.heap.size ≤ x := fun x hx => .inl (hx.elim (fun e => e ▸ hpb) (fun e => e ▸ hpg))
      refine sim_run 5 [] (hRE.cast (by kernel_rfl)) (by kernel_rfl) trivial (fun ρ400 w400 hm400 hR400 => ?_)
      have hj := hj.moved (hm400.castL (by kernel_rfl))
      have hh := hh.moved (hm400.castL (by kernel_rfl))
      have hag0 := hag0.moved (hm400.castL (by kernel_rfl))
      have hag := hag.moved (hm400.castL (by kernel_rfl))
      refine sim_know 17 (decide ((↑i : Int) < (↑n : Int))) true (by kernel_rfl) (decide_eq_true (by omega)) ?_
      refine sim_run 6 [] (hR400.cast (by kernel_rfl)) (by kernel_rfl) trivial (fun ρ401 w401 hm401 hR401 => ?_)
      have hj := hj.moved (hm401.castL (by kernel_rfl))
      have hh := hh.moved (hm401.castL (by kernel_rfl))
      have hag0 := hag0.moved (hm401.castL (by kernel_rfl))
      have hag := hag.moved (hm401.castL (by kernel_rfl))
      refine sim_place (.v (.slice (some ⟨ga, oa, none⟩) n cp)) n 3 i 1 0 (by kernel_rfl) (by omega) (by omega) rfl (by simp only [Nm.at_, hag.at_ 1 (by omega), eE, Nat.add_zero, Int.toNat_natCast]) ?_
      refine sim_run 10 [] (hR401.cast (by kernel_rfl)) (by kernel_rfl) trivial (fun ρ403 w403 hm403 hR403 => ?_)
      have hj := hj.moved (hm403.castL (by kernel_rfl))
      have hh := hh.moved (hm403.castL (by kernel_rfl))
      have hag0 := hag0.moved (hm403.castL (by kernel_rfl))
      have hag := hag.moved (hm403.castL (by kernel_rfl))
      refine sim_fork 22 ((Lk.mk kd (↑a : Int) (↑b : Int)).kind == 1) (by kernel_rfl) (fun hq404 => ?_) (fun hq404 => ?_)
      have hq404 := of_decide_eq_true hq404
      refine sim_run 1 [] (hR403.cast (by kernel_rfl)) (by kernel_rfl) trivial (fun ρ405 w405 hm405 hR405 => ?_)
      have hj := hj.moved (hm405.castL (by kernel_rfl))
      have hh := hh.moved (hm405.castL (by kernel_rfl))
      have hag0 := hag0.moved (hm405.castL (by kernel_rfl))
      have hag := hag.moved (hm405.castL (by kernel_rfl))
      refine sim_drawT (Tr.mk [(0, false), (1, false), (2, false), (3, false), (4, false), (5, false), (6, false), (7, false), (8, true), (9, true)] Ks.nil) (some 9) (by kernel_rfl) (by kernel_rfl) hR405 (fun hR406 => ?_)
      have hj := hj.drew
      have hh := hh.drew
      refine sim_ordN 9 [] hR406 (by kernel_rfl) trivial (fun ρ407 w407 hm407 hR407 => ?_)
      have hag0 := hag0.moved (hm407.castL (by kernel_rfl))
      have hag := hag.moved (hm407.castL (by kernel_rfl))
      have hj := hj.moved (hm407.castL (by kernel_rfl))
      have hh := hh.moved (hm407.castL (by kernel_rfl))
      refine sim_ord_call (T := q.T) (w0 := w) 29 [.v (Value.pointer (some (Addr.mk q.pb 0 none))), .slc 3 0 2 2] (by kernel_rfl) ?_
      refine Calls.mono (join_in (q.pb) (q.pg) (Uf.withM u (l.take i)) (q.A) (q.c) _ (2) (2) _ (a) ([a, b]) _ (hj.is) (hrg) ((by omega)) ((Rel.reads (RelO.rel (by assumption)) (n := 3) (size := 1) (m := 2) (vs := nats [a, b]) (b := true) (by kernel_rfl) rfl)) (Nat.le_refl _) ((hj.farB (n := 3) (r := ⟨(nats [a, b]).map .v, true⟩) (by kernel_rfl) rfl _)) (hab) (rfl) ((by omega))) ?_
      rintro e408 w408 ⟨rfl, hu408, hk408⟩
      have hQ408 := (hR407).rel.ufNewT hj hk408 hufT [0, 1] (by kernel_rfl) (hidx2 _ (hag.at_ 0 (by omega)) (hag.at_ 1 (by omega)))
      have hh := hh.kept hk408.kept (fun x hx hm => by simp only [List.mem_cons, List.not_mem_nil, or_false] at hm; exact hm.elim (hap x hx).1 (hap x hx).2)
      have hj := hj.ufNew hu408
      have hR408 := (hR407).with hQ408 (.v (.tuple #[.int .i64 (joinC (Uf.withM u (l.take i)) a [a, b] : Nat), .int .i64 0]))
      refine BackO.of (.v (.tuple #[.int .i64 (joinC (Uf.withM u (l.take i)) a [a, b] : Nat), .int .i64 0])) hR408 rfl ?_
      refine sim_fork0 (by kernel_rfl) (by kernel_rfl) hR408 (fun hR409 => ?_)
      refine sim_run 5 [⟨9, 0, LI (IntKind.i64.wrap ((↑i : Int) + 1)), LI ((↑i : Int) + 1)⟩] (hR409.cast (by kernel_rfl)) (by kernel_rfl) ⟨eqi (IntWalk.i64_in _ (by omega)), trivial⟩ (fun ρ410 w410 hm410 hR410 => ?_)
      have hag0 := hag0.moved (hm410.castL (by kernel_rfl))
      have hag := hag.moved (hm410.castL (by kernel_rfl))
      have hh := hh.moved (hm410.castL (by kernel_rfl))
      have hj := hj.moved (hm410.castL (by kernel_rfl))
      rotate_left
      have hq404 := of_decide_eq_false hq404
      refine sim_run 7 [⟨9, 0, LI (IntKind.i64.wrap ((↑i : Int) + 1)), LI ((↑i : Int) + 1)⟩] (hR403.cast (by kernel_rfl)) (by kernel_rfl) ⟨eqi (IntWalk.i64_in _ (by omega)), trivial⟩ (fun ρ411 w411 hm411 hR411 => ?_)
      have hj := hj.moved (hm411.castL (by kernel_rfl))
      have hh := hh.moved (hm411.castL (by kernel_rfl))
      have hag0 := hag0.moved (hm411.castL (by kernel_rfl))
      have hag := hag.moved (hm411.castL (by kernel_rfl))
      rotate_left
      
      · have e1 : joinU (Uf.withM u (l.take i)) a [a, b] = Uf.withM u (l.take (i + 1)) := by
          rw [hws, if_pos (by assumption), joinU_pair]
        rw [e1] at hj
        exact sim_again (i + 1) (by kernel_rfl) (by show n - (i + 1) < n - i; omega) (by kernel_rfl) (by kernel_rfl) (by kernel_rfl) hag0.ag (Rel.cast (by assumption) (by kernel_rfl)) (by kernel_rfl) (by kernel_rfl) ⟨hlt, hj.cut hag0 rfl (by kernel_rfl), hh.cut hag0 rfl (by kernel_rfl)⟩
      · rw [if_neg (by assumption)] at hws
        rw [← hws] at hj
        exact sim_again (i + 1) (by kernel_rfl) (by show n - (i + 1) < n - i; omega) (by kernel_rfl) (by kernel_rfl) (by kernel_rfl) hag0.ag (Rel.cast (by assumption) (by kernel_rfl)) (by kernel_rfl) (by kernel_rfl) ⟨hlt, hj.cut hag0 rfl (by kernel_rfl), hh.cut hag0 rfl (by kernel_rfl)⟩
    · refine sim_run 5 [] (hR3.cast (by kernel_rfl)) (by kernel_rfl) trivial (fun ρ500 w500 hm500 hR500 => ?_)
      have hj := hj.moved (hm500.castL (by kernel_rfl))
      have hh := hh.moved (hm500.castL (by kernel_rfl))
      have hag0 := hag0.moved (hm500.castL (by kernel_rfl))
      refine sim_know 17 (decide ((↑i : Int) < (↑n : Int))) false (by kernel_rfl) (decide_eq_false (by omega)) ?_
      refine sim_run 1 [] (hR500.cast (by kernel_rfl)) (by kernel_rfl) trivial (fun ρ501 w501 hm501 hR501 => ?_)
      have hj := hj.moved (hm501.castL (by kernel_rfl))
      have hh := hh.moved (hm501.castL (by kernel_rfl))
      have hag0 := hag0.moved (hm501.castL (by kernel_rfl))
      refine sim_leave (by kernel_rfl) ?_
      refine sim_run 8 [] (hR501.cast (by kernel_rfl)) (by kernel_rfl) trivial (fun ρ502 w502 hm502 hR502 => ?_)
      have hj := hj.moved (hm502.castL (by kernel_rfl))
      have hh := hh.moved (hm502.castL (by kernel_rfl))
      have hag0 := hag0.moved (hm502.castL (by kernel_rfl))
      
      obtain rfl : i = n := by omega
      rw [show l.take i = l from by rw [← hll]; exact List.take_length] at hj
      have e0b := e0
      have e0 := (hag0.at_ 0 (by omega)).trans e0
      have hnb : ∀ g, (Value.slice q.L ls.length q.cl).ownBlock = some g → grhS q g := fun x hx => by
        cases hL : q.L with
        | none => rw [hL] at hx; cases hx
        | some a =>
          rw [hL] at hx
          simp only [Value.ownBlock, Option.some.injEq] at hx
          exact .inr ⟨a, hL, hx⟩
      have hob := own_blk_ne hh.is.own hh.is.blk (by decide)
      have hone : ∀ {rs : List Reg} {k : Nat} {r : Reg}, Nat.beq rs.length 1 = true → rs[k]? = some r → k = 0 := fun {rs k r} h1 h2 => by
        have h3 := (List.getElem?_eq_some_iff.1 h2).1
        have h4 := Nat.eq_of_beq_eq_true h1
        omega
      have hszw := ((by assumption : Rel _ _ _ _ _)).keeps.size
      refine sim_appendRT 22 (.slice q.L ls.length q.cl) A i cp (by kernel_rfl) (by assumption : Rel _ _ _ _ _) tyLk hh.is.own (hl.keepsFar ((by assumption : Rel _ _ _ _ _)).keeps hB hAT) (oneV (lk_one l)) (by unfold maxLen; omega) (by omega) (Nat.zero_le _) (fun g hg => .inl (GrP.T_iff.2 ((hnb g hg).elim .inl (fun e => .inr (.inr (.inr e)))))) (fun g hg k r hk _ he => by
        obtain rfl := hone (by kernel_rfl) hk
        rw [e0] at he
        have he : q.b = g := he
        exact hob (by rw [he]; exact hg)) (fun v' w6 g1 g2 g3 hR6 => ?_)
      obtain ⟨L6, c6, rfl⟩ := own_row g1
      have hj := hj.grown g2 (fun x hx e => by
        have := hap x (hnb x e)
        exact hx.elim this.1 this.2)
      have hqb : Blk w6 q.b 36 (q.cells ls.length).toArray := Blk.grown hh.is.blk g2 (fun e => hob e.symm)
      have hown := Own.ro hR6 g1 (by kernel_rfl)
      clear hh
      refine sim_run 2 [] (hR6.cast (by kernel_rfl)) (by kernel_rfl) trivial (fun ρ600 w600 hm600 hR600 => ?_)
      have hag0 := hag0.moved (hm600.castL (by kernel_rfl))
      have hj := hj.moved (hm600.castL (by kernel_rfl))
      have hown := hown.moved (hm600.castL (by kernel_rfl))
      
      have e0 := (hag0.at_ 0 (by omega)).trans (e0b)
      have hqb := hqb.kept hm600.kept (fun hw => wrS_allRo (by kernel_rfl) hw)
      refine sim_rs [] ?_
      refine sim_store (a := .ptr 0 1) (vs := [.v (.slice L6 (ls.length + i) c6)]) (by kernel_rfl) ((by assumption : Rel _ _ _ _ _).none_) (g := q.b) (o := 1) (by simp only [LV.den, Nm.at_, e0, Nat.zero_add]) hqb (by show 2 ≤ 2; omega) (.inl (GrP.T_iff.2 (.inl rfl))) (fun k r hk _ => (noReg (by kernel_rfl) hk).elim) (fun w7 hb7 hk7 hR7 => ?_)
      have hbne := own_blk_ne hown.own hqb (by decide)
      have hj := hj.kept hk7 (fun x hx e => (hap q.b (.inl rfl)).elim (fun h1 h2 => hx.elim (fun h3 => h1 (e.symm.trans h3)) (fun h3 => h2 (e.symm.trans h3))))
      have ho7 := own_kept hown.own hk7 (fun g hg e => hbne (e ▸ hg))
      refine sim_run 5 [] (hR7.cast (by kernel_rfl)) (by kernel_rfl) trivial (fun ρ700 w700 hm700 hR700 => ?_)
      refine sim_ret (LI 0) hR700 (by kernel_rfl) (by kernel_rfl) ?_
      
      have hK : ∀ x, ¬ wrS ρ600 [] x := fun x hw => noW0 hw
      have hj := hj.kept hm700.kept (fun x _ hw => hK x (by exact hw))
      have hb8 := hb7.kept hm700.kept (fun hw => hK _ (by exact hw))
      have ho8 := own_kept ho7 hm700.kept (fun g _ hw => hK g (by exact hw))
      have hu7 : UfAt w700 q.pb q.pg (Uf.withM u l) q.A q.c := hj.is
      refine ⟨by rw [ht]; rfl, ⟨q.b, q.pb, q.pg, q.A, q.c, L6, c6⟩, ⟨?_, ?_, ?_⟩, rfl, rfl, ((by assumption : Rel _ _ _ _ _)).keeps.kept.mono (fun x hx => .inl (GrP.T_iff.1 hx)), fun x hx => ?_⟩
      · unfold addL
        rw [if_pos ht, List.length_append, hll]
        exact hb8
      · unfold addU
        rw [if_pos ht]
        exact hu7
      · unfold addL
        rw [if_pos ht, List.length_append, hll, lkV_append]
        exact ho8
      · rcases hx with hx | hx | hx | ⟨a, ha, hx⟩
        · exact .inl (.inl hx)
        · exact .inl (.inr (.inl hx))
        · exact .inl (.inr (.inr (.inl hx)))
        · have ha : L6 = some a := ha
          subst ha
          rcases g3 with g3 | g3
          · have := hnb x (by rw [← g3, ← hx]; rfl)
            exact .inl (this.elim .inl (fun e => .inr (.inr (.inr e))))
          · simp only [Value.ownBlock, Option.some.injEq] at g3
            exact .inr (by omega)
  · refine sim_run 9 [] (hR.cast (by kernel_rfl)) (by kernel_rfl) trivial (fun ρ200 w200 hm200 hR200 => ?_)
    have hs := hs.moved (hm200.castL (by kernel_rfl))
    have hag := hag.moved (hm200.castL (by kernel_rfl))
    refine sim_call 19 [.ptr 0 0, .v (Value.slice A n cp)] (by kernel_rfl) ?_
    have ez0_201 := (hag.at_ 0 (by omega)).trans e0
    simp only [denL, LV.den, Nm.at_, ez0_201, Nat.add_zero]
    refine Calls.mono (try_any (q) (u) (ls) (A) (n) (cp) (B) (l) _ (hs.is) (hi) ((hl.keepsFar ((by assumption : Rel _ _ _ _ _)).keeps hB hAT)) ((Nat.le_trans hB ((by assumption : Rel _ _ _ _ _)).keeps.size)) (hn)) ?_
    rw [ht]
    rintro e201 w201 ⟨rfl, hb201⟩
    have hR201 := (hR200).below hb201
    have hs := hs.below hb201
    refine Back.of (LI t) hR201 rfl ?_
    refine sim_run 7 [] (hR201.cast (by kernel_rfl)) (by kernel_rfl) trivial (fun ρ202 w202 hm202 hR202 => ?_)
    have hag := hag.moved (hm202.castL (by kernel_rfl))
    have hs := hs.moved (hm202.castL (by kernel_rfl))
    refine sim_know 12 (t != 0) true (by kernel_rfl) (bne_iff_ne.2 h0) ?_
    refine sim_run 6 [] (hR202.cast (by kernel_rfl)) (by kernel_rfl) trivial (fun ρ203 w203 hm203 hR203 => ?_)
    have hag := hag.moved (hm203.castL (by kernel_rfl))
    have hs := hs.moved (hm203.castL (by kernel_rfl))
    refine sim_ret (LI t) hR203 (by kernel_rfl) (by kernel_rfl) ?_
    
    exact addR_same hs.is (((by assumption : Rel _ _ _ _ _)).keeps.kept.mono (fun x hx => .inl (GrP.T_iff.1 hx))) ht h0
end Go.Proofs.Ytnfgndapalkbcaa
