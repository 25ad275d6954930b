/-
  post.New, Move, Shift; (*Ledger).Issued.
  (*Ledger).Issue, its last part: the positions change, and what was issued is noted.
  (*Ledger).Issue: more of an asset is made, or less.
  A ledger in a law: the pointer to its positions is in view, at the first place, to be read; what stands behind each method.
-/
import Derived.Test.YtgbgedaedcofcaaPstEH
namespace Go.Proofs.Ytgbgedaedcofcaa
section
open Go Go.RowKit

/-- postings that a call has laid -/
def PostsN (w : World) (ps : List OpP) (e : Ending) (w' : World) : Prop :=
  ∃ g o, e = .returned (.slice (some ⟨g, o, none⟩) ps.length ps.length) ∧ w.heap.size ≤ g ∧ Posts w' w'.heap.size (some ⟨g, o, none⟩) ps.length ps ∧ Below w.heap.size w w'
def moveL (a b c : ByteArray) (z : Int) : List OpP := [⟨a, c, 0, -z⟩, ⟨b, c, 0, z⟩]
def shiftL (a c : ByteArray) (s t z : Int) : List OpP := [⟨a, c, s, -z⟩, ⟨a, c, t, z⟩]
def newS (g : Nat) : LSt := ⟨g, none, [], 0, none, [], 0, none, [], 0⟩
theorem PoV.low {w : World} {B B' g : Nat} {m : Option Nat} {l : List (Ent Key B3)} {clock : Nat} (h : PoV w B g m l clock) (hb : B' ≤ B) : PoV w B' g m l clock := ⟨h.cell, h.mp, h.ok, h.nz, Nat.le_trans hb h.ge, fun q hq => Nat.le_trans hb (h.geM q hq)⟩
theorem newS_ld {w : World} {B g gl : Nat} (hg : PoV w B g none [] 0) (hl : Blk w gl 56 (newS g).cells.toArray) (hB2 : B ≤ gl) : LdV w B gl (newS g) where
  cell := hl
  pos := hg
  iss := .none_
  blk := .none_
  ge := hB2
  geI := fun q hq => by cases hq
  geB := fun q hq => by cases hq
  neI := fun q hq => by cases hq
  neB := fun q hq => by cases hq
  neX := fun q hq => by cases hq
attribute [local irreducible] run goO leaveK someK nextK nextT nextOT nextOD loopBody loopRest loopK fillJ tmplOf tmplJ mergeT At AtO drawOk ordOf gateOf callC callO topOp topO idxOf appOf storeOf clearOf sliceOf calleeOf calleeO topQ idxQ newRowOf resL stepOp seek
set_option maxRecDepth 100000 in
set_option maxHeartbeats 4000000 in
theorem newLd_any (w : World) : Calls Try.prog 24 #[] w fun e w' => ∃ gl g, e = .returned (.pointer (some ⟨gl, 0, none⟩)) ∧ LdV w' w.heap.size gl (newS g) ∧ Below w.heap.size w w' := by
  refine sim_enter Try.func24 ρ0 [] [] (by kernel_rfl) rfl ?_
  have hR := Rel.start [] w ρ0
  refine sim_run 6 [] (hR.cast (by kernel_rfl)) (by kernel_rfl) trivial (fun ρ100 w100 hm100 hR100 => ?_)
  refine sim_call 14 [] (by kernel_rfl) ?_
  refine Calls.mono (new_any _) ?_
  rintro e101 w101 ⟨g, rfl, hg101, hb101, hbel101⟩
  have hBw := hR100.keeps.size
  have hpo := PoO.new hR100 hg101 hb101
  have hR101 := hR100.below hbel101
  refine Back.of (.v (Value.pointer (some (Addr.mk g 0 none)))) hR101 rfl ?_
  refine sim_run 1 [] (hR101.cast (by kernel_rfl)) (by kernel_rfl) trivial (fun ρ102 w102 hm102 hR102 => ?_)
  have hpo := hpo.moved (hm102.castL (by kernel_rfl))
  
  have hB := hR100.keeps.size
  refine sim_box (e := 56) (x := .agg ((newS g).cells.map .v)) 0 (by kernel_rfl) (by kernel_rfl) hR102 (by kernel_rfl) (fun ρ2 w2 hm2 e2 hR2 hb2 => ?_)
  have hag := hR2.ag_ 1 (by kernel_rfl)
  have hbox := hR2.rowW (cur := (newS g).cells) hb2
  have hpo := hpo.moved (hm2.castL (by kernel_rfl))
  refine sim_run 2 [] (hR2.cast (by kernel_rfl)) (by kernel_rfl) trivial (fun ρ200 w200 hm200 hR200 => ?_)
  have hag := hag.moved (hm200.castL (by kernel_rfl))
  have hbox := hbox.moved (hm200.castL (by kernel_rfl))
  have hpo := hpo.moved (hm200.castL (by kernel_rfl))
  refine sim_ret (.ptr 0 0) hR200 (by kernel_rfl) (by kernel_rfl) ?_
  
  have hsz := hR102.keeps.size
  exact ⟨w102.heap.size, g, by simp only [LV.den, Nm.at_, hag.at_ 0 (by omega), e2, Nat.add_zero], newS_ld (hpo.po.low hBw) (hbox.full (n := 0) (cells := (newS g).cells.map .v) (wr := true) (by assumption : Rel _ _ _ _ _) hag (by kernel_rfl) e2 rfl) hsz, ((by assumption : Rel _ _ _ _ _)).toBelow⟩
set_option maxRecDepth 100000 in
set_option maxHeartbeats 4000000 in
theorem move_any (a b c : ByteArray) (z : Int) (w : World) (hz : -4611686018427387904 ≤ z ∧ z ≤ 4611686018427387904) (ha : a.size ≤ 9223372036854775807) (hb : b.size ≤ 9223372036854775807) (hc : c.size ≤ 9223372036854775807) : Calls Try.prog 26 #[.string a, .string b, .string c, .int .i64 z] w (PostsN w (moveL a b c z)) := by
  refine sim_enter Try.func26 ρ0 [LS a, LS b, LS c, LI z] [] (by kernel_rfl) rfl ?_
  have hR := Rel.start [] w ρ0
  refine sim_run 20 [⟨1, 4, LI (IntKind.i64.wrap (0 - z)), LI (0 - z)⟩] (hR.cast (by kernel_rfl)) (by kernel_rfl) ⟨eqi (IntWalk.i64_in _ (by omega)), trivial⟩ (fun ρ300 w300 hm300 hR300 => ?_)
  refine sim_ret (.slc 0 0 2 2) hR300 (by kernel_rfl) (by kernel_rfl) ?_
  
  have hwn : 0 - z = -z := by omega
  have hR3 := Rel.cast (rs' := [⟨[LS a, LS c, LI 0, LI (0 - z), LS b, LS c, LI 0, LI z], true⟩]) (by assumption : Rel _ _ _ _ _) (by kernel_rfl)
  rw [hwn] at hR3
  exact ⟨_, _, rfl, ((hR3.wr 0 _ rfl rfl).1.elim (fun h => absurd h List.not_mem_nil) id), ⟨hR3.readsP (n := 0) (size := 4) (m := 2) (vs := ((moveL a b c z).map OpP.cells).flatten) (b := true) rfl rfl, rfl, by
    intro o ho
    simp only [moveL, List.mem_cons, List.not_mem_nil, or_false] at ho
    rcases ho with rfl | rfl
    · exact ⟨by unfold Is64; dsimp only; omega, by unfold Is64; dsimp only; omega, ha, hc⟩
    · exact ⟨by unfold Is64; dsimp only; omega, by unfold Is64; dsimp only; omega, hb, hc⟩⟩, ((by assumption : Rel _ _ _ _ _)).toBelow⟩
set_option maxRecDepth 100000 in
set_option maxHeartbeats 4000000 in
theorem shift_any (a c : ByteArray) (s t z : Int) (w : World) (hz : -4611686018427387904 ≤ z ∧ z ≤ 4611686018427387904) (ha : a.size ≤ 9223372036854775807) (hc : c.size ≤ 9223372036854775807) (hs : Is64 s) (ht : Is64 t) : Calls Try.prog 33 #[.agg #[.string a, .string c], .int .i64 s, .int .i64 t, .int .i64 z] w (PostsN w (shiftL a c s t z)) := by
  refine sim_enter Try.func33 ρ0 [.agg [LS a, LS c], LI s, LI t, LI z] [] (by kernel_rfl) rfl ?_
  have hR := Rel.start [] w ρ0
  refine sim_run 19 [⟨1, 3, LI (IntKind.i64.wrap (0 - z)), LI (0 - z)⟩] (hR.cast (by kernel_rfl)) (by kernel_rfl) ⟨eqi (IntWalk.i64_in _ (by omega)), trivial⟩ (fun ρ400 w400 hm400 hR400 => ?_)
  refine sim_ret (.slc 1 0 2 2) hR400 (by kernel_rfl) (by kernel_rfl) ?_
  
  have hwn : 0 - z = -z := by omega
  have hR3 := Rel.cast (rs' := [⟨[LS a, LS c], true⟩, ⟨[LS a, LS c, LI s, LI (0 - z), LS a, LS c, LI t, LI z], true⟩]) (by assumption : Rel _ _ _ _ _) (by kernel_rfl)
  rw [hwn] at hR3
  exact ⟨_, _, rfl, ((hR3.wr 1 _ rfl rfl).1.elim (fun h => absurd h List.not_mem_nil) id), ⟨hR3.readsP (n := 1) (size := 4) (m := 2) (vs := ((shiftL a c s t z).map OpP.cells).flatten) (b := true) rfl rfl, rfl, by
    intro o ho
    simp only [shiftL, List.mem_cons, List.not_mem_nil, or_false] at ho
    unfold Is64 at hs ht
    rcases ho with rfl | rfl
    · exact ⟨by unfold Is64; dsimp only; omega, by unfold Is64; dsimp only; omega, ha, hc⟩
    · exact ⟨by unfold Is64; dsimp only; omega, by unfold Is64; dsimp only; omega, ha, hc⟩⟩, ((by assumption : Rel _ _ _ _ _)).toBelow⟩
set_option maxRecDepth 100000 in
set_option maxHeartbeats 4000000 in
theorem issued_any (B gl : Nat) (s : LSt) (k : ByteArray) (w : World) (h : LdV w B gl s) : Calls Try.prog 32 #[.pointer (some ⟨gl, 0, none⟩), .string k] w fun e w' => e = .returned (.int .i64 ((look k s.li).getD 0)) ∧ Below w.heap.size w w' := by
  obtain ⟨ρ, e0, hR⟩ := h.open_ false [] (fun h => by cases h)
  have hM := h.overI (r := ⟨s.cells.map .v, false⟩) e0
  have hag := Rel.ag_ hR 1 (by kernel_rfl)
  refine sim_enter Try.func32 ρ [.ptr 0 0, LS k] [⟨s.cells.map .v, false⟩] (by kernel_rfl) (by simp only [denL, LV.den, Nm.at_, e0]) ?_
  have hld := h.in_ (cs := s.cells.map .v) e0
  refine sim_run 8 [] (hR.cast (by kernel_rfl)) (by kernel_rfl) trivial (fun ρ500 w500 hm500 hR500 => ?_)
  have hM := hM.moved (hm500.castL (by kernel_rfl))
  have hag := hag.moved (hm500.castL (by kernel_rfl))
  have hld := hld.moved (hm500.castL (by kernel_rfl))
  refine sim_call 42 [.ptr 0 0] (by kernel_rfl) ?_
  have ez0_501 := (hag.at_ 0 (by omega)).trans e0
  simp only [denL, LV.den, Nm.at_, ez0_501, Nat.add_zero]
  refine Calls.mono (none_any _ _ _ _ hld.ld) ?_
  rintro e501 w501 ⟨rfl, hb501⟩
  have hR501 := hR500.below hb501
  have hM := hM.below hb501
  have hld := hld.below hb501
  refine Back.of (LB false) hR501 rfl ?_
  refine sim_run 10 [] (hR501.cast (by kernel_rfl)) (by kernel_rfl) trivial (fun ρ502 w502 hm502 hR502 => ?_)
  have hag := hag.moved (hm502.castL (by kernel_rfl))
  have hM := hM.moved (hm502.castL (by kernel_rfl))
  have hld := hld.moved (hm502.castL (by kernel_rfl))
  refine sim_look (enc := encS) (encV := encI) (mx := .v (Value.map s.mi)) (kx := LS k) (ok := false) k (LI ((look k s.li).getD 0)) (by kernel_rfl) mi_ty2 kt_str zero_int hM rfl rfl rfl ?_
  refine sim_run 2 [] (hR502.cast (by kernel_rfl)) (by kernel_rfl) trivial (fun ρ504 w504 hm504 hR504 => ?_)
  have hag := hag.moved (hm504.castL (by kernel_rfl))
  have hM := hM.moved (hm504.castL (by kernel_rfl))
  have hld := hld.moved (hm504.castL (by kernel_rfl))
  refine sim_ret (LI ((look k s.li).getD 0)) hR504 (by kernel_rfl) (by kernel_rfl) ?_
  exact ⟨rfl, hR504.toBelow⟩
  
end

section
open Go Go.RowKit

def issC (s : LSt) (a c : ByteArray) (z : Int) : Int :=
  if okBy z = false then 1 else if z < 0 ∧ hasK (a, c) s.lb = true then 35 else if 1152921504606846976 < (look c s.li).getD 0 + z then 12 else addC (getM s.l (a, c)) 0 z
/-- what issuing leaves -/
structure IssS (s s' : LSt) (a c : ByteArray) (z : Int) : Prop where
  get : ∀ k, getM s'.l k = if issC s a c z = 0 then addF (getM s.l) (a, c) 0 z k else getM s.l k
  len : s'.l.length ≤ s.l.length + 1
  iss : ∀ q, (look q s'.li).getD 0 = if issC s a c z = 0 ∧ q = c then (look c s.li).getD 0 + z else (look q s.li).getD 0
  lb : s'.lb = s.lb
  g : s'.g = s.g
def LSt.all (s : LSt) (gl x : Nat) : Prop := x = gl ∨ s.has x
theorem Rel.toKept {T : List Nat} {w0 w : World} {ρ : Nm} {rs : List Reg} (h : Rel T w0 ρ rs w) : Kept (fun x => x ∈ T) w0 w := h.keeps.kept
def issT (s : LSt) (gl : Nat) : List Nat := gl :: s.g :: s.m.toList ++ s.mi.toList
theorem idx1 {ρ : Nm} {rs : List Reg} {w : World} {B gl : Nat} {s : LSt} (hld : LdO ρ rs w B gl s) : ∀ k ∈ [0], ∀ x, (x = s.g ∨ s.m = some x) → (ρ k).1 ≠ x := by
  intro k hk x hx
  obtain rfl := List.mem_singleton.1 hk
  rw [hld.at_]
  exact hld.ld.gl_ne hx
def IssR (w : World) (B gl : Nat) (s : LSt) (a c : ByteArray) (z : Int) (e : Ending) (w' : World) : Prop :=
  e = .returned (.int .i64 (issC s a c z)) ∧ ∃ s', LdV w' B gl s' ∧ IssS s s' a c z ∧ Kept (s.all gl) w w' ∧ (∀ x, s'.has x → s.has x ∨ w.heap.size ≤ x)
theorem issT_all {s : LSt} {gl x : Nat} (h : x ∈ issT s gl) : s.all gl x := by
  unfold issT at h
  unfold LSt.all LSt.has
  simp only [List.cons_append, List.mem_cons, List.mem_append, Option.mem_toList] at h
  rcases h with h | h | h | h
  · exact .inl h
  · exact .inr (.inl h)
  · exact .inr (.inr (.inl h))
  · exact .inr (.inr (.inr (.inl h)))
theorem iss_same {w w' : World} {B gl : Nat} {s : LSt} {a c : ByteArray} {z v : Int} (h : LdV w' B gl s) (hv : issC s a c z = v) (hc : v ≠ 0) (hk : Kept (fun x => x ∈ issT s gl) w w') : IssR w B gl s a c z (.returned (.int .i64 v)) w' :=
  ⟨by rw [hv], s, h, ⟨fun k => by rw [if_neg (by rw [hv]; exact hc)], by omega, fun q => by rw [if_neg (fun h => hc (hv ▸ h.1))], rfl, rfl⟩, hk.mono (fun _ hx => .inl (issT_all hx)), fun _ hx => .inl hx⟩
def LSt.setIss (s : LSt) (mi : Option Nat) (li : List (Ent ByteArray Int)) (ci : Nat) : LSt := { s with mi := mi, li := li, ci := ci }
theorem LdV.setIss {w w' : World} {B gl q : Nat} {s : LSt} (h : LdV w B gl s) (hq : s.mi = some q) (ht : TurnM q w w') {l' : List (Ent ByteArray Int)} {c' : Nat} {ρ : Nm} {rs : List Reg} (hM : MpO encS encI ρ rs w' (some q) l' c') : LdV w' B gl (s.setIss (some q) l' c') := by
  obtain ⟨es, cl, hw⟩ := ht.was
  have hcell : ∀ {g : Nat} {t : TypeId} {a : Array Value}, Blk w g t a → Blk w' g t a := fun hb => (ht.kept.block _ hb.lt (fun e => by
    unfold Blk at hb
    rw [e, hw] at hb
    cases hb)).trans hb
  have e : s.cells = (s.setIss (some q) l' c').cells := by unfold LSt.cells LSt.setIss; rw [hq]
  exact ⟨e ▸ hcell h.cell, ⟨hcell h.pos.cell, h.pos.mp.turnNe ht (h.neI q hq), h.pos.ok, h.pos.nz, h.pos.ge, h.pos.geM⟩, ⟨fun x hx => ⟨(hM.is x hx).1, fun hw => by obtain ⟨_, _, hr, _⟩ := hw; simp at hr⟩, fun e => by cases e⟩, h.blk.turnNe ht (fun e => h.neX q e hq), h.ge, fun x hx => h.geI x (hq.trans hx), h.geB, fun x hx => h.neI x (hq.trans hx), h.neB, fun x hx e => h.neX x hx (hq.trans e)⟩
theorem LdO.setIss {ρ : Nm} {rs : List Reg} {w w' : World} {B gl q : Nat} {s : LSt} (h : LdO ρ rs w B gl s) (hq : s.mi = some q) (ht : TurnM q w w') {l' : List (Ent ByteArray Int)} {c' : Nat} (hM : MpO encS encI ρ rs w' (some q) l' c') : LdO ρ rs w' B gl (s.setIss (some q) l' c') :=
  ⟨h.ld.setIss hq ht hM, h.at_, h.lt, fun x hx => h.far x (hx.imp id (fun h2 => by
    rcases h2 with h3 | h3 | h3 | h3
    · exact .inl h3
    · exact .inr (.inl h3)
    · exact .inr (.inr (.inl (hq.trans h3)))
    · exact .inr (.inr (.inr h3))))⟩
theorem setIss_has {s : LSt} {q x : Nat} {l' : List (Ent ByteArray Int)} {c' : Nat} (hq : s.mi = some q) (h : (s.setIss (some q) l' c').has x) : s.has x := by
  rcases h with h3 | h3 | h3 | h3
  · exact .inl h3
  · exact .inr (.inl h3)
  · exact .inr (.inr (.inl (hq.trans h3)))
  · exact .inr (.inr (.inr h3))
theorem iss_at {s : LSt} {a c : ByteArray} {z v : Int} (hi : issC s a c z = 0) (hv : (look c s.li).getD 0 = v) {n : Nat} (k : ByteArray) : (look k (ins c (v + z) n s.li)).getD 0 = if issC s a c z = 0 ∧ k = c then (look c s.li).getD 0 + z else (look k s.li).getD 0 := by
  rw [look_ins]
  by_cases hk : k = c
  · rw [if_pos hk, if_pos ⟨hi, hk⟩, hv]
    rfl
  · rw [if_neg hk, if_neg (fun h => hk h.2)]
theorem Rel.toW {T : List Nat} {w0 w : World} {ρ : Nm} {cs : List LV} {r : Reg} (h : Rel T w0 ρ [⟨cs, false⟩, r] w) (hT : (ρ 0).1 ∈ T) (hfz : ∀ i, i < cs.length → w.frozen? (ρ.at_ 0 i) = false) (hne : (ρ 0).1 ≠ (ρ 1).1) : Rel T w0 ρ [⟨cs, true⟩, r] w := by
  have hg : ∀ (n : Nat) (q : Reg), [⟨cs, true⟩, r][n]? = some q → (n = 0 ∧ q = ⟨cs, true⟩) ∨ (n = 1 ∧ q = r) := by
    intro n q hn
    match n, hn with
    | 0, hn => exact .inl ⟨rfl, by simpa using hn.symm⟩
    | 1, hn => exact .inr ⟨rfl, by simpa using hn.symm⟩
    | n + 2, hn => simp at hn
  refine ⟨h.keeps, fun n q hn => ?_, fun n q hn => ?_, fun n q hn hw => ?_, fun n m q q' hn hm hnm _ he => ?_⟩
  · rcases hg n q hn with ⟨rfl, rfl⟩ | ⟨rfl, rfl⟩
    · exact h.lt 0 ⟨cs, false⟩ rfl
    · exact h.lt 1 _ rfl
  · rcases hg n q hn with ⟨rfl, rfl⟩ | ⟨rfl, rfl⟩
    · exact h.cell 0 ⟨cs, false⟩ rfl
    · exact h.cell 1 _ rfl
  · rcases hg n q hn with ⟨rfl, rfl⟩ | ⟨rfl, rfl⟩
    · exact ⟨.inl hT, hfz⟩
    · exact h.wr 1 _ rfl hw
  · rcases hg n q hn with ⟨rfl, rfl⟩ | ⟨rfl, rfl⟩ <;> rcases hg m q' hm with ⟨rfl, rfl⟩ | ⟨rfl, rfl⟩
    · exact absurd rfl hnm
    · exact absurd he hne
    · exact absurd he.symm hne
    · exact absurd rfl hnm
theorem wrS_two {ρ : Nm} {cs cs2 : List LV} {g : Nat} (h : wrS ρ [⟨cs, true⟩, ⟨cs2, true⟩] g) : g = (ρ 0).1 ∨ wrS ρ [⟨cs, false⟩, ⟨cs2, true⟩] g := by
  obtain ⟨n, r, hn, hw, he⟩ := h
  match n, hn with
  | 0, hn => exact .inl he.symm
  | 1, hn => exact .inr ⟨1, r, hn, hw, he⟩
  | n + 2, hn => simp at hn
theorem PoO.turnM {ρ : Nm} {rs : List Reg} {w w' : World} {B g q : Nat} {m : Option Nat} {l : List (Ent Key B3)} {clock : Nat} (h : PoO ρ rs w B g m l clock) (ht : TurnM q w w') (hne : m ≠ some q) : PoO ρ rs w' B g m l clock := by
  obtain ⟨es, cl, hw⟩ := ht.was
  exact ⟨⟨(ht.kept.block _ h.po.cell.lt (fun e => by
    have hb := h.po.cell
    unfold Blk at hb
    rw [e, hw] at hb
    cases hb)).trans h.po.cell, h.po.mp.turnNe ht hne, h.po.ok, h.po.nz, h.po.ge, h.po.geM⟩, h.far, h.farM⟩
theorem setPos_has {s : LSt} {m' : Option Nat} {l' : List (Ent Key B3)} {ck' N : Nat} (hv : m' = s.m ∨ ∃ x, N ≤ x ∧ m' = some x) {x : Nat} (hx : (s.setPos m' l' ck').has x) : s.has x ∨ N ≤ x := by
  rcases hx with hx | hx | hx | hx
  · exact .inl (.inl hx)
  · rcases hv with e | ⟨y, hy, e⟩
    · exact .inl (.inr (.inl (e ▸ hx)))
    · have hx : m' = some x := hx
      rw [e] at hx
      injection hx with hx
      exact .inr (by omega)
  · exact .inl (.inr (.inr (.inl hx)))
  · exact .inl (.inr (.inr (.inr hx)))
attribute [local irreducible] run goO leaveK someK nextK nextT nextOT nextOD loopBody loopRest loopK fillJ tmplOf tmplJ mergeT At AtO drawOk ordOf gateOf callC callO topOp topO idxOf appOf storeOf clearOf sliceOf calleeOf calleeO topQ idxQ newRowOf resL stepOp seek
set_option maxRecDepth 100000 in
set_option maxHeartbeats 4000000 in
theorem issue_end {ρ : Nm} {w0 w : World} {B gl : Nat} {s s1 : LSt} {a c : ByteArray} {z v : Int} (hR : Rel (issT s gl) w0 ρ [⟨s.cells.map .v, false⟩, ⟨[LS a, LS c], true⟩] w) (hld : LdO ρ [⟨s.cells.map .v, false⟩, ⟨[LS a, LS c], true⟩] w B gl s1) (hM : MpO encS encI ρ [⟨s.cells.map .v, false⟩, ⟨[LS a, LS c], true⟩] w s.mi s.li s.ci) (hz : -1152921504606846976 ≤ z ∧ z ≤ 1152921504606846976) (hv : (look c s.li).getD 0 = v) (hi : -4611686018427387904 ≤ v ∧ v ≤ 4611686018427387904) (hiss : issC s a c z = 0)
    (h1 : s1.cells = s.cells) (h2 : s1.mi = s.mi) (h3 : s1.li = s.li) (h4 : s1.ci = s.ci) (hget : ∀ k, getM s1.l k = addF (getM s.l) (a, c) 0 z k) (hlen : s1.l.length ≤ s.l.length + 1) (hhas : ∀ x, s1.has x → s.has x ∨ w0.heap.size ≤ x) (hlb : s1.lb = s.lb) (hg : s1.g = s.g) (d : Nat → Value) :
    At Try.prog (bodyPost Try.prog Try.f25 (IssR w0 B gl s a c z)) ⟨regK Try.f25 11, fillJ (tmplJ Try.f25.ntmps 0 [(0, .ptr 0 0), (2, LI z), (4, .ptr 1 0)]) d 0, [⟨s.cells.map .v, false⟩, ⟨[LS a, LS c], true⟩]⟩ ρ w := by
  have hsw := hR.keeps.size
  have e0 := hld.at_
  have hag := Rel.ag_ hR 2 (by kernel_rfl)
  obtain ⟨g, m, l, ck, mi, li, ci, mb, lb, cb⟩ := s
  cases mi with
  | some q =>
    refine sim_run 9 [] (hR.cast (by kernel_rfl)) (by kernel_rfl) trivial (fun ρ800 w800 hm800 hR800 => ?_)
    have hld := hld.moved (hm800.castL (by kernel_rfl))
    have hM := hM.moved (hm800.castL (by kernel_rfl))
    have hag := hag.moved (hm800.castL (by kernel_rfl))
    refine sim_draw [] (by kernel_rfl) (by kernel_rfl) hR800 (fun hR801 => ?_)
    have hld := hld.drew
    have hM := hM.drew
    refine sim_ordN 7 [] hR801 (by kernel_rfl) trivial (fun ρ802 w802 hm802 hR802 => ?_)
    have hag := hag.moved (hm802.castL (by kernel_rfl))
    have hld := hld.moved (hm802.castL (by kernel_rfl))
    have hM := hM.moved (hm802.castL (by kernel_rfl))
    refine sim_ord_look (enc := encS) (encV := encI) (mx := .v (Value.map (some q))) (kx := LS c) (ok := false) c (LI v) (by kernel_rfl) mi_ty2 kt_str zero_int hM rfl rfl hR802 (by show _ = encI ((look c li).getD 0); rw [← hv]; rfl) (fun hR803 => ?_)
    refine sim_ordN 1 [⟨13, 8, LI (IntKind.i64.wrap (v + z)), LI (v + z)⟩] hR803 (by kernel_rfl) ⟨eqi (IntWalk.i64_in _ (by omega)), trivial⟩ (fun ρ804 w804 hm804 hR804 => ?_)
    have hag := hag.moved (hm804.castL (by kernel_rfl))
    have hld := hld.moved (hm804.castL (by kernel_rfl))
    have hM := hM.moved (hm804.castL (by kernel_rfl))
    refine sim_ord_upd (enc := encS) (encV := encI) (mx := .v (Value.map (some q))) (kx := LS c) (vx := LI (v + z)) c (v + z) (by kernel_rfl) mi_ty2 kt_str hM rfl rfl rfl (.inl (by simp [issT])) hR804 (fun w805 ht805 hM2 hR805 => ?_)
    have hld := hld.setIss h2 ht805 hM2
    have hM := hM2
    clear hM2
    refine sim_ord_endR hR805 (by kernel_rfl) (fun hR806 => ?_)
    refine sim_run 4 [] (hR806.cast (by kernel_rfl)) (by kernel_rfl) trivial (fun ρ807 w807 hm807 hR807 => ?_)
    have hag := hag.moved (hm807.castL (by kernel_rfl))
    have hld := hld.moved (hm807.castL (by kernel_rfl))
    have hM := hM.moved (hm807.castL (by kernel_rfl))
    refine sim_ret (LI 0) hR807 (by kernel_rfl) (by kernel_rfl) ?_
    
    refine ⟨by rw [hiss]; rfl, _, hld.ld, ⟨fun k => by rw [if_pos hiss]; exact hget k, hlen, fun k => iss_at hiss hv k, hlb, hg⟩, ((by assumption : Rel _ _ _ _ _)).toKept.mono (fun _ hx => .inl (issT_all hx)), fun x hx => hhas x (setIss_has h2 hx)⟩
  | none =>
    have hgl : (ρ 1).1 ≠ gl := fun e => hld.far gl (.inl rfl) ⟨1, _, rfl, rfl, e⟩
    have hW := hR.toW (by rw [e0]; simp [issT]) (fun i _ => by simp only [Nm.at_, e0, Nat.zero_add]; exact hld.ld.cell.frozen i) (by rw [e0]; exact fun e => hgl e.symm)
    have hbl := hld.ld.cell
    rw [h1] at hbl
    have hrowv := hW.rowW hbl
    have hpo : PoO ρ [⟨(LSt.mk g m l ck none li ci mb lb cb).cells.map .v, true⟩, ⟨[LS a, LS c], true⟩] w B s1.g s1.m s1.l s1.ck := ⟨hld.ld.pos, fun h => (wrS_two h).elim (fun e => hld.ld.gl_ne (.inl rfl) (by rw [e0] at e; exact e.symm)) (hld.far _ (.inr (.inl rfl))), fun x hx h => (wrS_two h).elim (fun e => hld.ld.gl_ne (.inr hx) (by rw [e0] at e; exact e.symm)) (hld.far _ (.inr (.inr (.inl hx))))⟩
    have hMb : MpO encK encU ρ [⟨(LSt.mk g m l ck none li ci mb lb cb).cells.map .v, true⟩, ⟨[LS a, LS c], true⟩] w s1.mb s1.lb s1.cb := ⟨fun x hx => ⟨(hld.ld.blk.is x hx).1, fun h => (wrS_two h).elim (fun e => by
      rw [e0] at e
      have h3 := (hld.ld.blk.is x hx).1.blk
      have h4 := hld.ld.cell
      unfold Blk at h4
      rw [e, h4] at h3
      cases h3) (hld.far _ (.inr (.inr (.inr (.inr hx)))))⟩, hld.ld.blk.nil⟩
    refine sim_rs [⟨(LSt.mk g m l ck none li ci mb lb cb).cells.map .v, true⟩, ⟨[LS a, LS c], true⟩] ?_
    obtain ⟨rfl, rfl⟩ := hM.nil rfl
    have hld0 := hld.ld
    clear hld hM hR hag
    have hag := hW.ag_ 2 (by kernel_rfl)
    refine sim_run 9 [] (hW.cast (by kernel_rfl)) (by kernel_rfl) trivial (fun ρ900 w900 hm900 hR900 => ?_)
    have hrowv := hrowv.moved (hm900.castL (by kernel_rfl))
    have hpo := hpo.moved (hm900.castL (by kernel_rfl))
    have hMb := hMb.moved (hm900.castL (by kernel_rfl))
    have hag := hag.moved (hm900.castL (by kernel_rfl))
    refine sim_make encS encI (t := 53) (by kernel_rfl) hR900 (fun w901 q eq hb901 hM hR901 => ?_)
    have hq0 : w0.heap.size ≤ q := by rw [eq]; exact (hR900).keeps.size
    have hq2 : w.heap.size ≤ q := by rw [eq]; exact hm900.kept.size
    have hneM : s1.m ≠ some q := fun e => by have := hld0.has_lt (x := q) (.inr (.inr (.inl e))); omega
    have hneB : s1.mb ≠ some q := fun e => by have := hld0.has_lt (x := q) (.inr (.inr (.inr (.inr e)))); omega
    have hrowv := hrowv.below hb901
    have hpo := hpo.below hb901
    have hMb := hMb.below hb901
    refine sim_run 5 [] (hR901.cast (by kernel_rfl)) (by kernel_rfl) trivial (fun ρ902 w902 hm902 hR902 => ?_)
    have hag := hag.moved (hm902.castL (by kernel_rfl))
    have hM := hM.moved (hm902.castL (by kernel_rfl))
    have hrowv := hrowv.moved (hm902.castL (by kernel_rfl))
    have hpo := hpo.moved (hm902.castL (by kernel_rfl))
    have hMb := hMb.moved (hm902.castL (by kernel_rfl))
    refine sim_draw [] (by kernel_rfl) (by kernel_rfl) hR902 (fun hR903 => ?_)
    have hM := hM.drew
    have hrowv := hrowv.drew
    have hpo := hpo.drew
    have hMb := hMb.drew
    refine sim_ordN 7 [] hR903 (by kernel_rfl) trivial (fun ρ904 w904 hm904 hR904 => ?_)
    have hag := hag.moved (hm904.castL (by kernel_rfl))
    have hM := hM.moved (hm904.castL (by kernel_rfl))
    have hrowv := hrowv.moved (hm904.castL (by kernel_rfl))
    have hpo := hpo.moved (hm904.castL (by kernel_rfl))
    have hMb := hMb.moved (hm904.castL (by kernel_rfl))
    refine sim_ord_look (enc := encS) (encV := encI) (mx := .v (Value.map (some q))) (kx := LS c) (ok := false) c (LI v) (by kernel_rfl) mi_ty2 kt_str zero_int hM rfl rfl hR904 (by show _ = encI ((look c []).getD 0); rw [← hv]; rfl) (fun hR905 => ?_)
    refine sim_ordN 1 [⟨13, 8, LI (IntKind.i64.wrap (v + z)), LI (v + z)⟩] hR905 (by kernel_rfl) ⟨eqi (IntWalk.i64_in _ (by omega)), trivial⟩ (fun ρ906 w906 hm906 hR906 => ?_)
    have hag := hag.moved (hm906.castL (by kernel_rfl))
    have hM := hM.moved (hm906.castL (by kernel_rfl))
    have hrowv := hrowv.moved (hm906.castL (by kernel_rfl))
    have hpo := hpo.moved (hm906.castL (by kernel_rfl))
    have hMb := hMb.moved (hm906.castL (by kernel_rfl))
    refine sim_ord_upd (enc := encS) (encV := encI) (mx := .v (Value.map (some q))) (kx := LS c) (vx := LI (v + z)) c (v + z) (by kernel_rfl) mi_ty2 kt_str hM rfl rfl rfl (.inr hq0) hR906 (fun w907 ht907 hM2 hR907 => ?_)
    have hrowv := hrowv.turnM ht907
    have hpo := hpo.turnM ht907 hneM
    have hMb := hMb.turnNe ht907 hneB
    have hM := hM2
    clear hM2
    refine sim_ord_endR hR907 (by kernel_rfl) (fun hR908 => ?_)
    refine sim_run 4 [] (hR908.cast (by kernel_rfl)) (by kernel_rfl) trivial (fun ρ909 w909 hm909 hR909 => ?_)
    have hag := hag.moved (hm909.castL (by kernel_rfl))
    have hrowv := hrowv.moved (hm909.castL (by kernel_rfl))
    have hpo := hpo.moved (hm909.castL (by kernel_rfl))
    have hMb := hMb.moved (hm909.castL (by kernel_rfl))
    have hM := hM.moved (hm909.castL (by kernel_rfl))
    refine sim_ret (LI 0) hR909 (by kernel_rfl) (by kernel_rfl) ?_
    
    have hmb : s1.mb = mb := by
      have h5 := h1
      unfold LSt.cells at h5
      simp only [List.cons.injEq, Value.map.injEq] at h5
      exact h5.2.2.1
    have hbf := hrowv.full (n := 0) (cells := [.v (.pointer (some ⟨g, 0, none⟩)), .v (.map (some q)), .v (.map mb)]) (wr := true) (by assumption : Rel _ _ _ _ _) hag (by kernel_rfl) e0 rfl
    have hc2 : ∀ l' c', (s1.setIss (some q) l' c').cells = [.pointer (some ⟨g, 0, none⟩), .map (some q), .map mb] := fun l' c' => by
      unfold LSt.cells LSt.setIss
      dsimp only
      rw [hg, hmb]
    have hltm : ∀ x, (x = gl ∨ s1.has x) → x < w.heap.size := fun x hx => hld0.has_lt hx
    refine ⟨by rw [hiss]; rfl, s1.setIss (some q) (ins c (v + z) 0 []) (clockAfter c ([] : List (Ent ByteArray Int)) 0), ⟨by rw [hc2]; exact hbf, hpo.po, ⟨fun x hx => ⟨(hM.is x hx).1, fun hw => by obtain ⟨_, _, hr, _⟩ := hw; simp at hr⟩, fun e => by cases e⟩, ⟨fun x hx => ⟨(hMb.is x hx).1, fun hw => by obtain ⟨_, _, hr, _⟩ := hw; simp at hr⟩, hMb.nil⟩, hld0.ge, fun x hx => ?_, hld0.geB, fun x hx e => ?_, hld0.neB, fun x hx e => ?_⟩, ⟨fun k => by rw [if_pos hiss]; exact hget k, hlen, fun k => iss_at (s := ⟨g, m, l, ck, none, [], 0, mb, lb, cb⟩) hiss hv k, hlb, hg⟩, ((by assumption : Rel _ _ _ _ _)).toKept.mono (fun _ hx => .inl (issT_all hx)), fun x hx => ?_⟩
    · injection hx with hx
      have := hld0.ge
      have := hld0.cell.lt
      omega
    · injection hx with hx
      have := hltm x (.inr (.inr (.inl e)))
      omega
    · injection e with e
      have := hltm x (.inr (.inr (.inr (.inr hx))))
      omega
    · rcases hx with hx | hx | hx | hx
      · exact hhas x (.inl hx)
      · exact hhas x (.inr (.inl hx))
      · injection hx with hx
        exact .inr (by omega)
      · exact hhas x (.inr (.inr (.inr hx)))
set_option maxRecDepth 100000 in
set_option maxHeartbeats 4000000 in
theorem issue_tail {ρ : Nm} {w0 w : World} {B gl : Nat} {s : LSt} {a c : ByteArray} {z v : Int} (hR : Rel (issT s gl) w0 ρ [⟨s.cells.map .v, false⟩, ⟨[LS a, LS c], true⟩] w) (hld : LdO ρ [⟨s.cells.map .v, false⟩, ⟨[LS a, LS c], true⟩] w B gl s) (hM : MpO encS encI ρ [⟨s.cells.map .v, false⟩, ⟨[LS a, LS c], true⟩] w s.mi s.li s.ci) (hz : -1152921504606846976 ≤ z ∧ z ≤ 1152921504606846976) (ha : a.size ≤ 281474976710656) (hc : c.size ≤ 281474976710656) (hv : (look c s.li).getD 0 = v) (hi : -4611686018427387904 ≤ v ∧ v ≤ 4611686018427387904) (hiss : issC s a c z = addC (getM s.l (a, c)) 0 z) (d : Nat → Value) :
    At Try.prog (bodyPost Try.prog Try.f25 (IssR w0 B gl s a c z)) ⟨regK Try.f25 7, fillJ (tmplJ Try.f25.ntmps 0 [(0, .ptr 0 0), (2, LI z), (4, .ptr 1 0)]) d 0, [⟨s.cells.map .v, false⟩, ⟨[LS a, LS c], true⟩]⟩ ρ w := by
  have e0 := hld.at_
  have hag := Rel.ag_ hR 2 (by kernel_rfl)
  have hT : s.mayW (issT s gl) w0 := fun x hx => by
    refine .inl ?_
    unfold issT
    rcases hx with rfl | hx
    · simp
    · simp [hx]
  refine sim_run 1 [] (hR.cast (by kernel_rfl)) (by kernel_rfl) trivial (fun ρ500 w500 hm500 hR500 => ?_)
  have hld := hld.moved (hm500.castL (by kernel_rfl))
  have hM := hM.moved (hm500.castL (by kernel_rfl))
  have hag := hag.moved (hm500.castL (by kernel_rfl))
  refine sim_call 44 [.agg [LS a, LS c]] (by kernel_rfl) ?_
  refine Calls.mono (own_any _ _ _ (by assumption) (by assumption)) ?_
  rintro e501 w501 ⟨rfl, hb501⟩
  have hR501 := hR500.below hb501
  have hld := hld.below hb501
  have hM := hM.below hb501
  refine Back.of (.agg [LS a, LS c]) hR501 rfl ?_
  refine sim_run 4 [] (hR501.cast (by kernel_rfl)) (by kernel_rfl) trivial (fun ρ502 w502 hm502 hR502 => ?_)
  have hag := hag.moved (hm502.castL (by kernel_rfl))
  have hld := hld.moved (hm502.castL (by kernel_rfl))
  have hM := hM.moved (hm502.castL (by kernel_rfl))
  refine sim_draw [] (by kernel_rfl) (by kernel_rfl) hR502 (fun hR503 => ?_)
  have hld := hld.drew
  have hM := hM.drew
  refine sim_ordN 6 [] hR503 (by kernel_rfl) trivial (fun ρ504 w504 hm504 hR504 => ?_)
  have hag := hag.moved (hm504.castL (by kernel_rfl))
  have hld := hld.moved (hm504.castL (by kernel_rfl))
  have hM := hM.moved (hm504.castL (by kernel_rfl))
  refine sim_ord_call (T := issT s gl) (w0 := w0) 16 [.v (Value.pointer (some (Addr.mk s.g 0 none))), .agg [LS a, LS c], LI 0, LI z] (by kernel_rfl) ?_
  refine Calls.mono (add_po _ _ _ _ _ _ _ _ _ _ hld.ld.pos) ?_
  rintro e505 w505 ⟨v505, c505, rfl, hpo505, hk505, hv505⟩
  have hs505 := (hR504).rel.keeps.size
  have hfin : Fine s.l s.ck := hld.ld.pos.mp.fine
  have hM2 := hM.keptS hk505 (fun q hq hx => hx.elim (fun e => hld.ld.g_ne (.inl hq) e) (fun e => hld.ld.neI q hq e))
  obtain ⟨hld2, hQ505, hT2⟩ := hld.after (hR504).rel hT hpo505 hk505 hv505 [0] (by kernel_rfl) (idx1 hld)
  clear hld hM
  have hld := hld2
  have hM := hM2
  clear hld2 hM2
  have hR505 := hR504.with hQ505 (LI (addC (getM s.l (a, c)) 0 z))
  refine BackO.of (LI (addC (getM s.l (a, c)) 0 z)) hR505 rfl ?_
  refine sim_ordN 1 [] hR505 (by kernel_rfl) trivial (fun ρ506 w506 hm506 hR506 => ?_)
  have hag := hag.moved (hm506.castL (by kernel_rfl))
  have hld := hld.moved (hm506.castL (by kernel_rfl))
  have hM := hM.moved (hm506.castL (by kernel_rfl))
  refine sim_ord_endR hR506 (by kernel_rfl) (fun hR507 => ?_)
  refine sim_run 2 [] (hR507.cast (by kernel_rfl)) (by kernel_rfl) trivial (fun ρ508 w508 hm508 hR508 => ?_)
  have hag := hag.moved (hm508.castL (by kernel_rfl))
  have hld := hld.moved (hm508.castL (by kernel_rfl))
  have hM := hM.moved (hm508.castL (by kernel_rfl))
  
  have hsw := hR.keeps.size
  have hhas : ∀ x, (s.setPos v505 (addL s.ck s.l (a, c) 0 z) c505).has x → s.has x ∨ w0.heap.size ≤ x := fun x hx => setPos_has (hv505.imp id (fun ⟨y, hy, e⟩ => ⟨y, by omega, e⟩)) hx
  have hlen := addL_len s.l s.ck (a, c) 0 z
  by_cases hc0 : addC (getM s.l (a, c)) 0 z = 0
  · refine sim_run 3 [] hR508 (by kernel_rfl) trivial (fun ρ600 w600 hm600 hR600 => ?_)
    have hag := hag.moved hm600
    have hld := hld.moved hm600
    have hM := hM.moved hm600
    refine sim_know 44 (addC (getM s.l (a, c)) 0 z != 0) false (by kernel_rfl) (by rw [hc0]; rfl) ?_
    refine sim_run 5 [] (hR600.cast (by kernel_rfl)) (by kernel_rfl) trivial (fun ρ601 w601 hm601 hR601 => ?_)
    have hag := hag.moved (hm601.castL (by kernel_rfl))
    have hld := hld.moved (hm601.castL (by kernel_rfl))
    have hM := hM.moved (hm601.castL (by kernel_rfl))
    
    refine sim_to (regK Try.f25 11) (tmplJ Try.f25.ntmps 0 [(0, .ptr 0 0), (2, LI z), (4, .ptr 1 0)]) [⟨s.cells.map .v, false⟩, ⟨[LS a, LS c], true⟩] (by kernel_rfl) (by kernel_rfl) (by kernel_rfl) (fun d => ?_)
    refine issue_end (s1 := s.setPos v505 (addL s.ck s.l (a, c) 0 z) c505) ((by assumption : Rel _ _ _ _ _).cast (by kernel_rfl)) (hld.castR (by kernel_rfl)) (hM.castR (by kernel_rfl)) hz hv hi (hiss.trans hc0) rfl rfl rfl rfl (fun k => by rw [show (s.setPos v505 (addL s.ck s.l (a, c) 0 z) c505).l = addL s.ck s.l (a, c) 0 z from rfl, addL_get hfin]) hlen hhas rfl rfl d
  · refine sim_run 3 [] hR508 (by kernel_rfl) trivial (fun ρ700 w700 hm700 hR700 => ?_)
    have hag := hag.moved hm700
    have hld := hld.moved hm700
    have hM := hM.moved hm700
    refine sim_know 44 (addC (getM s.l (a, c)) 0 z != 0) true (by kernel_rfl) (bne_iff_ne.2 hc0) ?_
    refine sim_run 6 [] (hR700.cast (by kernel_rfl)) (by kernel_rfl) trivial (fun ρ701 w701 hm701 hR701 => ?_)
    have hag := hag.moved (hm701.castL (by kernel_rfl))
    have hld := hld.moved (hm701.castL (by kernel_rfl))
    have hM := hM.moved (hm701.castL (by kernel_rfl))
    refine sim_ret (LI (addC (getM s.l (a, c)) 0 z)) hR701 (by kernel_rfl) (by kernel_rfl) ?_
    
    refine ⟨by rw [hiss]; rfl, _, hld.ld, ⟨fun k => ?_, hlen, fun q => ?_, rfl, rfl⟩, ((by assumption : Rel _ _ _ _ _)).toKept.mono (fun _ hx => .inl (issT_all hx)), hhas⟩
    · rw [if_neg (by rw [hiss]; exact hc0)]
      show getM (addL s.ck s.l (a, c) 0 z) k = _
      rw [no_add hc0]
    · rw [if_neg (fun h => hc0 (hiss ▸ h.1))]
      rfl
end

section
open Go Go.RowKit
attribute [local irreducible] run goO leaveK someK nextK nextT nextOT nextOD loopBody loopRest loopK fillJ tmplOf tmplJ mergeT At AtO drawOk ordOf gateOf callC callO topOp topO idxOf appOf storeOf clearOf sliceOf calleeOf calleeO topQ idxQ newRowOf resL stepOp seek
set_option maxRecDepth 100000 in
set_option maxHeartbeats 4000000 in
theorem issue_any (B gl : Nat) (s : LSt) (a c : ByteArray) (z : Int) (w : World) (h : LdV w B gl s) (hz : Is64 z) (ha : a.size ≤ 281474976710656) (hc : c.size ≤ 281474976710656) (hi : -4611686018427387904 ≤ (look c s.li).getD 0 ∧ (look c s.li).getD 0 ≤ 4611686018427387904) : Calls Try.prog 25 #[.pointer (some ⟨gl, 0, none⟩), .agg #[.string a, .string c], .int .i64 z] w (IssR w B gl s a c z) := by
  obtain ⟨ρ, e0, hR⟩ := h.open_ false (issT s gl) (fun h => by cases h)
  have hag := Rel.ag_ hR 1 (by kernel_rfl)
  unfold Is64 at hz
  refine sim_enter Try.func25 ρ [.ptr 0 0, .agg [LS a, LS c], LI z] [⟨s.cells.map .v, false⟩] (by kernel_rfl) (by simp only [denL, LV.den, Nm.at_, e0]) ?_
  have hld := h.in_ (cs := s.cells.map .v) e0
  have hM := h.overI (r := ⟨s.cells.map .v, false⟩) e0
  obtain ⟨v, hv⟩ : ∃ v, (look c s.li).getD 0 = v := ⟨_, rfl⟩
  rw [hv] at hi
  have hiss : issC s a c z = if okBy z = false then 1 else if z < 0 ∧ hasK (a, c) s.lb = true then 35 else if 1152921504606846976 < v + z then 12 else addC (getM s.l (a, c)) 0 z := by unfold issC; rw [hv]
  cases hob : okBy z with
  | false =>
    refine sim_run 10 [] (hR.cast (by kernel_rfl)) (by kernel_rfl) trivial (fun ρ100 w100 hm100 hR100 => ?_)
    have hag := hag.moved (hm100.castL (by kernel_rfl))
    have hld := hld.moved (hm100.castL (by kernel_rfl))
    have hM := hM.moved (hm100.castL (by kernel_rfl))
    refine sim_call 42 [.ptr 0 0] (by kernel_rfl) ?_
    have ez0_101 := (hag.at_ 0 (by omega)).trans e0
    simp only [denL, LV.den, Nm.at_, ez0_101, Nat.add_zero]
    refine Calls.mono (none_any _ _ _ _ hld.ld) ?_
    rintro e101 w101 ⟨rfl, hb101⟩
    have hR101 := hR100.below hb101
    have hld := hld.below hb101
    have hM := hM.below hb101
    refine Back.of (LB false) hR101 rfl ?_
    refine sim_run 2 [] (hR101.cast (by kernel_rfl)) (by kernel_rfl) trivial (fun ρ102 w102 hm102 hR102 => ?_)
    have hag := hag.moved (hm102.castL (by kernel_rfl))
    have hld := hld.moved (hm102.castL (by kernel_rfl))
    have hM := hM.moved (hm102.castL (by kernel_rfl))
    refine sim_call 43 [LI z] (by kernel_rfl) ?_
    refine Calls.mono (beyond_any _ _) ?_
    rw [hob]
    rintro e103 w103 ⟨rfl, hb103⟩
    have hR103 := hR102.below hb103
    have hld := hld.below hb103
    have hM := hM.below hb103
    refine Back.of (LB !false) hR103 rfl ?_
    refine sim_run 8 [] (hR103.cast (by kernel_rfl)) (by kernel_rfl) trivial (fun ρ104 w104 hm104 hR104 => ?_)
    have hag := hag.moved (hm104.castL (by kernel_rfl))
    have hld := hld.moved (hm104.castL (by kernel_rfl))
    have hM := hM.moved (hm104.castL (by kernel_rfl))
    refine sim_ret (LI 1) hR104 (by kernel_rfl) (by kernel_rfl) ?_
    
    exact iss_same (v := 1) hld.ld (by rw [hiss, if_pos hob]) (by decide) ((by assumption : Rel _ _ _ _ _)).toKept
  | true =>
    have hzb : -1152921504606846976 ≤ z ∧ z ≤ 1152921504606846976 := by
      unfold okBy at hob
      simp only [Bool.and_eq_true, decide_eq_true_eq] at hob
      exact hob
    by_cases hneg : z < 0 ∧ hasK (a, c) s.lb = true
    · have hbk := hneg.2
      refine sim_run 10 [] (hR.cast (by kernel_rfl)) (by kernel_rfl) trivial (fun ρ200 w200 hm200 hR200 => ?_)
      have hag := hag.moved (hm200.castL (by kernel_rfl))
      have hld := hld.moved (hm200.castL (by kernel_rfl))
      have hM := hM.moved (hm200.castL (by kernel_rfl))
      refine sim_call 42 [.ptr 0 0] (by kernel_rfl) ?_
      have ez0_201 := (hag.at_ 0 (by omega)).trans e0
      simp only [denL, LV.den, Nm.at_, ez0_201, Nat.add_zero]
      refine Calls.mono (none_any _ _ _ _ hld.ld) ?_
      rintro e201 w201 ⟨rfl, hb201⟩
      have hR201 := hR200.below hb201
      have hld := hld.below hb201
      have hM := hM.below hb201
      refine Back.of (LB false) hR201 rfl ?_
      refine sim_run 2 [] (hR201.cast (by kernel_rfl)) (by kernel_rfl) trivial (fun ρ202 w202 hm202 hR202 => ?_)
      have hag := hag.moved (hm202.castL (by kernel_rfl))
      have hld := hld.moved (hm202.castL (by kernel_rfl))
      have hM := hM.moved (hm202.castL (by kernel_rfl))
      refine sim_call 43 [LI z] (by kernel_rfl) ?_
      refine Calls.mono (beyond_any _ _) ?_
      rw [hob]
      rintro e203 w203 ⟨rfl, hb203⟩
      have hR203 := hR202.below hb203
      have hld := hld.below hb203
      have hM := hM.below hb203
      refine Back.of (LB !true) hR203 rfl ?_
      refine sim_run 9 [] (hR203.cast (by kernel_rfl)) (by kernel_rfl) trivial (fun ρ204 w204 hm204 hR204 => ?_)
      have hag := hag.moved (hm204.castL (by kernel_rfl))
      have hld := hld.moved (hm204.castL (by kernel_rfl))
      have hM := hM.moved (hm204.castL (by kernel_rfl))
      refine sim_know 18 (decide (z < 0)) true (by kernel_rfl) (decide_eq_true (by omega)) ?_
      refine sim_run 2 [] (hR204.cast (by kernel_rfl)) (by kernel_rfl) trivial (fun ρ205 w205 hm205 hR205 => ?_)
      have hag := hag.moved (hm205.castL (by kernel_rfl))
      have hld := hld.moved (hm205.castL (by kernel_rfl))
      have hM := hM.moved (hm205.castL (by kernel_rfl))
      refine sim_call 34 [.ptr 0 0, .agg [LS a, LS c]] (by kernel_rfl) ?_
      have ez0_206 := (hag.at_ 0 (by omega)).trans e0
      simp only [denL, LV.den, Nm.at_, ez0_206, Nat.add_zero]
      refine Calls.mono (blocked_any _ _ _ _ _ _ hld.ld) ?_
      rw [hbk]
      rintro e206 w206 ⟨rfl, hb206⟩
      have hR206 := hR205.below hb206
      have hld := hld.below hb206
      have hM := hM.below hb206
      refine Back.of (LB true) hR206 rfl ?_
      refine sim_run 8 [] (hR206.cast (by kernel_rfl)) (by kernel_rfl) trivial (fun ρ207 w207 hm207 hR207 => ?_)
      have hag := hag.moved (hm207.castL (by kernel_rfl))
      have hld := hld.moved (hm207.castL (by kernel_rfl))
      have hM := hM.moved (hm207.castL (by kernel_rfl))
      refine sim_ret (LI 35) hR207 (by kernel_rfl) (by kernel_rfl) ?_
      
      exact iss_same (v := 35) hld.ld (by rw [hiss, if_neg (by rw [hob]; simp), if_pos hneg]) (by decide) ((by assumption : Rel _ _ _ _ _)).toKept
    · by_cases hz0 : z < 0
      · have hbk : hasK (a, c) s.lb = false := by
          cases hh : hasK (a, c) s.lb with
          | false => rfl
          | true => exact absurd ⟨hz0, hh⟩ hneg
        by_cases h12 : 1152921504606846976 < v + z
        · refine sim_run 10 [] (hR.cast (by kernel_rfl)) (by kernel_rfl) trivial (fun ρ300 w300 hm300 hR300 => ?_)
          have hag := hag.moved (hm300.castL (by kernel_rfl))
          have hld := hld.moved (hm300.castL (by kernel_rfl))
          have hM := hM.moved (hm300.castL (by kernel_rfl))
          refine sim_call 42 [.ptr 0 0] (by kernel_rfl) ?_
          have ez0_301 := (hag.at_ 0 (by omega)).trans e0
          simp only [denL, LV.den, Nm.at_, ez0_301, Nat.add_zero]
          refine Calls.mono (none_any _ _ _ _ hld.ld) ?_
          rintro e301 w301 ⟨rfl, hb301⟩
          have hR301 := hR300.below hb301
          have hld := hld.below hb301
          have hM := hM.below hb301
          refine Back.of (LB false) hR301 rfl ?_
          refine sim_run 2 [] (hR301.cast (by kernel_rfl)) (by kernel_rfl) trivial (fun ρ302 w302 hm302 hR302 => ?_)
          have hag := hag.moved (hm302.castL (by kernel_rfl))
          have hld := hld.moved (hm302.castL (by kernel_rfl))
          have hM := hM.moved (hm302.castL (by kernel_rfl))
          refine sim_call 43 [LI z] (by kernel_rfl) ?_
          refine Calls.mono (beyond_any _ _) ?_
          rw [hob]
          rintro e303 w303 ⟨rfl, hb303⟩
          have hR303 := hR302.below hb303
          have hld := hld.below hb303
          have hM := hM.below hb303
          refine Back.of (LB !true) hR303 rfl ?_
          refine sim_run 9 [] (hR303.cast (by kernel_rfl)) (by kernel_rfl) trivial (fun ρ304 w304 hm304 hR304 => ?_)
          have hag := hag.moved (hm304.castL (by kernel_rfl))
          have hld := hld.moved (hm304.castL (by kernel_rfl))
          have hM := hM.moved (hm304.castL (by kernel_rfl))
          refine sim_know 18 (decide (z < 0)) true (by kernel_rfl) (decide_eq_true (by omega)) ?_
          refine sim_run 2 [] (hR304.cast (by kernel_rfl)) (by kernel_rfl) trivial (fun ρ305 w305 hm305 hR305 => ?_)
          have hag := hag.moved (hm305.castL (by kernel_rfl))
          have hld := hld.moved (hm305.castL (by kernel_rfl))
          have hM := hM.moved (hm305.castL (by kernel_rfl))
          refine sim_call 34 [.ptr 0 0, .agg [LS a, LS c]] (by kernel_rfl) ?_
          have ez0_306 := (hag.at_ 0 (by omega)).trans e0
          simp only [denL, LV.den, Nm.at_, ez0_306, Nat.add_zero]
          refine Calls.mono (blocked_any _ _ _ _ _ _ hld.ld) ?_
          rw [hbk]
          rintro e306 w306 ⟨rfl, hb306⟩
          have hR306 := hR305.below hb306
          have hld := hld.below hb306
          have hM := hM.below hb306
          refine Back.of (LB false) hR306 rfl ?_
          refine sim_run 5 [] (hR306.cast (by kernel_rfl)) (by kernel_rfl) trivial (fun ρ307 w307 hm307 hR307 => ?_)
          have hag := hag.moved (hm307.castL (by kernel_rfl))
          have hld := hld.moved (hm307.castL (by kernel_rfl))
          have hM := hM.moved (hm307.castL (by kernel_rfl))
          refine sim_draw [] (by kernel_rfl) (by kernel_rfl) hR307 (fun hR308 => ?_)
          have hld := hld.drew
          have hM := hM.drew
          refine sim_ordN 7 [] hR308 (by kernel_rfl) trivial (fun ρ309 w309 hm309 hR309 => ?_)
          have hag := hag.moved (hm309.castL (by kernel_rfl))
          have hld := hld.moved (hm309.castL (by kernel_rfl))
          have hM := hM.moved (hm309.castL (by kernel_rfl))
          refine sim_ord_look (enc := encS) (encV := encI) (mx := .v (Value.map s.mi)) (kx := LS c) (ok := false) c (LI v) (by kernel_rfl) mi_ty2 kt_str zero_int hM rfl rfl hR309 (by show _ = encI ((look c s.li).getD 0); rw [hv]; rfl) (fun hR310 => ?_)
          refine sim_ordN 3 [⟨5, 8, LI (IntKind.i64.wrap (v + z)), LI (v + z)⟩] hR310 (by kernel_rfl) ⟨eqi (IntWalk.i64_in _ (by omega)), trivial⟩ (fun ρ311 w311 hm311 hR311 => ?_)
          have hag := hag.moved (hm311.castL (by kernel_rfl))
          have hld := hld.moved (hm311.castL (by kernel_rfl))
          have hM := hM.moved (hm311.castL (by kernel_rfl))
          refine sim_ord_endR hR311 (by kernel_rfl) (fun hR312 => ?_)
          refine sim_know 23 (decide (v + z > 1152921504606846976)) true (by kernel_rfl) (decide_eq_true (by omega)) ?_
          refine sim_run 5 [] (hR312.cast (by kernel_rfl)) (by kernel_rfl) trivial (fun ρ313 w313 hm313 hR313 => ?_)
          have hag := hag.moved (hm313.castL (by kernel_rfl))
          have hld := hld.moved (hm313.castL (by kernel_rfl))
          have hM := hM.moved (hm313.castL (by kernel_rfl))
          refine sim_ret (LI 12) hR313 (by kernel_rfl) (by kernel_rfl) ?_
          
          exact iss_same (v := 12) hld.ld (by rw [hiss, if_neg (by rw [hob]; simp), if_neg hneg, if_pos h12]) (by decide) ((by assumption : Rel _ _ _ _ _)).toKept
        · have hiss2 : issC s a c z = addC (getM s.l (a, c)) 0 z := by rw [hiss, if_neg (by rw [hob]; simp), if_neg hneg, if_neg h12]
          refine sim_run 10 [] (hR.cast (by kernel_rfl)) (by kernel_rfl) trivial (fun ρ400 w400 hm400 hR400 => ?_)
          have hag := hag.moved (hm400.castL (by kernel_rfl))
          have hld := hld.moved (hm400.castL (by kernel_rfl))
          have hM := hM.moved (hm400.castL (by kernel_rfl))
          refine sim_call 42 [.ptr 0 0] (by kernel_rfl) ?_
          have ez0_401 := (hag.at_ 0 (by omega)).trans e0
          simp only [denL, LV.den, Nm.at_, ez0_401, Nat.add_zero]
          refine Calls.mono (none_any _ _ _ _ hld.ld) ?_
          rintro e401 w401 ⟨rfl, hb401⟩
          have hR401 := hR400.below hb401
          have hld := hld.below hb401
          have hM := hM.below hb401
          refine Back.of (LB false) hR401 rfl ?_
          refine sim_run 2 [] (hR401.cast (by kernel_rfl)) (by kernel_rfl) trivial (fun ρ402 w402 hm402 hR402 => ?_)
          have hag := hag.moved (hm402.castL (by kernel_rfl))
          have hld := hld.moved (hm402.castL (by kernel_rfl))
          have hM := hM.moved (hm402.castL (by kernel_rfl))
          refine sim_call 43 [LI z] (by kernel_rfl) ?_
          refine Calls.mono (beyond_any _ _) ?_
          rw [hob]
          rintro e403 w403 ⟨rfl, hb403⟩
          have hR403 := hR402.below hb403
          have hld := hld.below hb403
          have hM := hM.below hb403
          refine Back.of (LB !true) hR403 rfl ?_
          refine sim_run 9 [] (hR403.cast (by kernel_rfl)) (by kernel_rfl) trivial (fun ρ404 w404 hm404 hR404 => ?_)
          have hag := hag.moved (hm404.castL (by kernel_rfl))
          have hld := hld.moved (hm404.castL (by kernel_rfl))
          have hM := hM.moved (hm404.castL (by kernel_rfl))
          refine sim_know 18 (decide (z < 0)) true (by kernel_rfl) (decide_eq_true (by omega)) ?_
          refine sim_run 2 [] (hR404.cast (by kernel_rfl)) (by kernel_rfl) trivial (fun ρ405 w405 hm405 hR405 => ?_)
          have hag := hag.moved (hm405.castL (by kernel_rfl))
          have hld := hld.moved (hm405.castL (by kernel_rfl))
          have hM := hM.moved (hm405.castL (by kernel_rfl))
          refine sim_call 34 [.ptr 0 0, .agg [LS a, LS c]] (by kernel_rfl) ?_
          have ez0_406 := (hag.at_ 0 (by omega)).trans e0
          simp only [denL, LV.den, Nm.at_, ez0_406, Nat.add_zero]
          refine Calls.mono (blocked_any _ _ _ _ _ _ hld.ld) ?_
          rw [hbk]
          rintro e406 w406 ⟨rfl, hb406⟩
          have hR406 := hR405.below hb406
          have hld := hld.below hb406
          have hM := hM.below hb406
          refine Back.of (LB false) hR406 rfl ?_
          refine sim_run 5 [] (hR406.cast (by kernel_rfl)) (by kernel_rfl) trivial (fun ρ407 w407 hm407 hR407 => ?_)
          have hag := hag.moved (hm407.castL (by kernel_rfl))
          have hld := hld.moved (hm407.castL (by kernel_rfl))
          have hM := hM.moved (hm407.castL (by kernel_rfl))
          refine sim_draw [] (by kernel_rfl) (by kernel_rfl) hR407 (fun hR408 => ?_)
          have hld := hld.drew
          have hM := hM.drew
          refine sim_ordN 7 [] hR408 (by kernel_rfl) trivial (fun ρ409 w409 hm409 hR409 => ?_)
          have hag := hag.moved (hm409.castL (by kernel_rfl))
          have hld := hld.moved (hm409.castL (by kernel_rfl))
          have hM := hM.moved (hm409.castL (by kernel_rfl))
          refine sim_ord_look (enc := encS) (encV := encI) (mx := .v (Value.map s.mi)) (kx := LS c) (ok := false) c (LI v) (by kernel_rfl) mi_ty2 kt_str zero_int hM rfl rfl hR409 (by show _ = encI ((look c s.li).getD 0); rw [hv]; rfl) (fun hR410 => ?_)
          refine sim_ordN 3 [⟨5, 8, LI (IntKind.i64.wrap (v + z)), LI (v + z)⟩] hR410 (by kernel_rfl) ⟨eqi (IntWalk.i64_in _ (by omega)), trivial⟩ (fun ρ411 w411 hm411 hR411 => ?_)
          have hag := hag.moved (hm411.castL (by kernel_rfl))
          have hld := hld.moved (hm411.castL (by kernel_rfl))
          have hM := hM.moved (hm411.castL (by kernel_rfl))
          refine sim_ord_endR hR411 (by kernel_rfl) (fun hR412 => ?_)
          refine sim_know 23 (decide (v + z > 1152921504606846976)) false (by kernel_rfl) (decide_eq_false (by omega)) ?_
          refine sim_run 5 [] (hR412.cast (by kernel_rfl)) (by kernel_rfl) trivial (fun ρ413 w413 hm413 hR413 => ?_)
          have hag := hag.moved (hm413.castL (by kernel_rfl))
          have hld := hld.moved (hm413.castL (by kernel_rfl))
          have hM := hM.moved (hm413.castL (by kernel_rfl))
          
          refine sim_to (regK Try.f25 7) (tmplJ Try.f25.ntmps 0 [(0, .ptr 0 0), (2, LI z), (4, .ptr 1 0)]) [⟨s.cells.map .v, false⟩, ⟨[LS a, LS c], true⟩] (by kernel_rfl) (by kernel_rfl) (by kernel_rfl) (fun d => ?_)
          exact issue_tail ((by assumption : Rel _ _ _ _ _).cast (by kernel_rfl)) (hld.castR (by kernel_rfl)) (hM.castR (by kernel_rfl)) hzb ha hc hv hi hiss2 d
      · by_cases h12 : 1152921504606846976 < v + z
        · refine sim_run 10 [] (hR.cast (by kernel_rfl)) (by kernel_rfl) trivial (fun ρ600 w600 hm600 hR600 => ?_)
          have hag := hag.moved (hm600.castL (by kernel_rfl))
          have hld := hld.moved (hm600.castL (by kernel_rfl))
          have hM := hM.moved (hm600.castL (by kernel_rfl))
          refine sim_call 42 [.ptr 0 0] (by kernel_rfl) ?_
          have ez0_601 := (hag.at_ 0 (by omega)).trans e0
          simp only [denL, LV.den, Nm.at_, ez0_601, Nat.add_zero]
          refine Calls.mono (none_any _ _ _ _ hld.ld) ?_
          rintro e601 w601 ⟨rfl, hb601⟩
          have hR601 := hR600.below hb601
          have hld := hld.below hb601
          have hM := hM.below hb601
          refine Back.of (LB false) hR601 rfl ?_
          refine sim_run 2 [] (hR601.cast (by kernel_rfl)) (by kernel_rfl) trivial (fun ρ602 w602 hm602 hR602 => ?_)
          have hag := hag.moved (hm602.castL (by kernel_rfl))
          have hld := hld.moved (hm602.castL (by kernel_rfl))
          have hM := hM.moved (hm602.castL (by kernel_rfl))
          refine sim_call 43 [LI z] (by kernel_rfl) ?_
          refine Calls.mono (beyond_any _ _) ?_
          rw [hob]
          rintro e603 w603 ⟨rfl, hb603⟩
          have hR603 := hR602.below hb603
          have hld := hld.below hb603
          have hM := hM.below hb603
          refine Back.of (LB !true) hR603 rfl ?_
          refine sim_run 9 [] (hR603.cast (by kernel_rfl)) (by kernel_rfl) trivial (fun ρ604 w604 hm604 hR604 => ?_)
          have hag := hag.moved (hm604.castL (by kernel_rfl))
          have hld := hld.moved (hm604.castL (by kernel_rfl))
          have hM := hM.moved (hm604.castL (by kernel_rfl))
          refine sim_know 18 (decide (z < 0)) false (by kernel_rfl) (decide_eq_false (by omega)) ?_
          refine sim_run 8 [] (hR604.cast (by kernel_rfl)) (by kernel_rfl) trivial (fun ρ605 w605 hm605 hR605 => ?_)
          have hag := hag.moved (hm605.castL (by kernel_rfl))
          have hld := hld.moved (hm605.castL (by kernel_rfl))
          have hM := hM.moved (hm605.castL (by kernel_rfl))
          refine sim_draw [] (by kernel_rfl) (by kernel_rfl) hR605 (fun hR606 => ?_)
          have hld := hld.drew
          have hM := hM.drew
          refine sim_ordN 7 [] hR606 (by kernel_rfl) trivial (fun ρ607 w607 hm607 hR607 => ?_)
          have hag := hag.moved (hm607.castL (by kernel_rfl))
          have hld := hld.moved (hm607.castL (by kernel_rfl))
          have hM := hM.moved (hm607.castL (by kernel_rfl))
          refine sim_ord_look (enc := encS) (encV := encI) (mx := .v (Value.map s.mi)) (kx := LS c) (ok := false) c (LI v) (by kernel_rfl) mi_ty2 kt_str zero_int hM rfl rfl hR607 (by show _ = encI ((look c s.li).getD 0); rw [hv]; rfl) (fun hR608 => ?_)
          refine sim_ordN 3 [⟨5, 8, LI (IntKind.i64.wrap (v + z)), LI (v + z)⟩] hR608 (by kernel_rfl) ⟨eqi (IntWalk.i64_in _ (by omega)), trivial⟩ (fun ρ609 w609 hm609 hR609 => ?_)
          have hag := hag.moved (hm609.castL (by kernel_rfl))
          have hld := hld.moved (hm609.castL (by kernel_rfl))
          have hM := hM.moved (hm609.castL (by kernel_rfl))
          refine sim_ord_endR hR609 (by kernel_rfl) (fun hR610 => ?_)
          refine sim_know 23 (decide (v + z > 1152921504606846976)) true (by kernel_rfl) (decide_eq_true (by omega)) ?_
          refine sim_run 5 [] (hR610.cast (by kernel_rfl)) (by kernel_rfl) trivial (fun ρ611 w611 hm611 hR611 => ?_)
          have hag := hag.moved (hm611.castL (by kernel_rfl))
          have hld := hld.moved (hm611.castL (by kernel_rfl))
          have hM := hM.moved (hm611.castL (by kernel_rfl))
          refine sim_ret (LI 12) hR611 (by kernel_rfl) (by kernel_rfl) ?_
          
          exact iss_same (v := 12) hld.ld (by rw [hiss, if_neg (by rw [hob]; simp), if_neg hneg, if_pos h12]) (by decide) ((by assumption : Rel _ _ _ _ _)).toKept
        · have hiss2 : issC s a c z = addC (getM s.l (a, c)) 0 z := by rw [hiss, if_neg (by rw [hob]; simp), if_neg hneg, if_neg h12]
          refine sim_run 10 [] (hR.cast (by kernel_rfl)) (by kernel_rfl) trivial (fun ρ700 w700 hm700 hR700 => ?_)
          have hag := hag.moved (hm700.castL (by kernel_rfl))
          have hld := hld.moved (hm700.castL (by kernel_rfl))
          have hM := hM.moved (hm700.castL (by kernel_rfl))
          refine sim_call 42 [.ptr 0 0] (by kernel_rfl) ?_
          have ez0_701 := (hag.at_ 0 (by omega)).trans e0
          simp only [denL, LV.den, Nm.at_, ez0_701, Nat.add_zero]
          refine Calls.mono (none_any _ _ _ _ hld.ld) ?_
          rintro e701 w701 ⟨rfl, hb701⟩
          have hR701 := hR700.below hb701
          have hld := hld.below hb701
          have hM := hM.below hb701
          refine Back.of (LB false) hR701 rfl ?_
          refine sim_run 2 [] (hR701.cast (by kernel_rfl)) (by kernel_rfl) trivial (fun ρ702 w702 hm702 hR702 => ?_)
          have hag := hag.moved (hm702.castL (by kernel_rfl))
          have hld := hld.moved (hm702.castL (by kernel_rfl))
          have hM := hM.moved (hm702.castL (by kernel_rfl))
          refine sim_call 43 [LI z] (by kernel_rfl) ?_
          refine Calls.mono (beyond_any _ _) ?_
          rw [hob]
          rintro e703 w703 ⟨rfl, hb703⟩
          have hR703 := hR702.below hb703
          have hld := hld.below hb703
          have hM := hM.below hb703
          refine Back.of (LB !true) hR703 rfl ?_
          refine sim_run 9 [] (hR703.cast (by kernel_rfl)) (by kernel_rfl) trivial (fun ρ704 w704 hm704 hR704 => ?_)
          have hag := hag.moved (hm704.castL (by kernel_rfl))
          have hld := hld.moved (hm704.castL (by kernel_rfl))
          have hM := hM.moved (hm704.castL (by kernel_rfl))
          refine sim_know 18 (decide (z < 0)) false (by kernel_rfl) (decide_eq_false (by omega)) ?_
          refine sim_run 8 [] (hR704.cast (by kernel_rfl)) (by kernel_rfl) trivial (fun ρ705 w705 hm705 hR705 => ?_)
          have hag := hag.moved (hm705.castL (by kernel_rfl))
          have hld := hld.moved (hm705.castL (by kernel_rfl))
          have hM := hM.moved (hm705.castL (by kernel_rfl))
          refine sim_draw [] (by kernel_rfl) (by kernel_rfl) hR705 (fun hR706 => ?_)
          have hld := hld.drew
          have hM := hM.drew
          refine sim_ordN 7 [] hR706 (by kernel_rfl) trivial (fun ρ707 w707 hm707 hR707 => ?_)
          have hag := hag.moved (hm707.castL (by kernel_rfl))
          have hld := hld.moved (hm707.castL (by kernel_rfl))
          have hM := hM.moved (hm707.castL (by kernel_rfl))
          refine sim_ord_look (enc := encS) (encV := encI) (mx := .v (Value.map s.mi)) (kx := LS c) (ok := false) c (LI v) (by kernel_rfl) mi_ty2 kt_str zero_int hM rfl rfl hR707 (by show _ = encI ((look c s.li).getD 0); rw [hv]; rfl) (fun hR708 => ?_)
          refine sim_ordN 3 [⟨5, 8, LI (IntKind.i64.wrap (v + z)), LI (v + z)⟩] hR708 (by kernel_rfl) ⟨eqi (IntWalk.i64_in _ (by omega)), trivial⟩ (fun ρ709 w709 hm709 hR709 => ?_)
          have hag := hag.moved (hm709.castL (by kernel_rfl))
          have hld := hld.moved (hm709.castL (by kernel_rfl))
          have hM := hM.moved (hm709.castL (by kernel_rfl))
          refine sim_ord_endR hR709 (by kernel_rfl) (fun hR710 => ?_)
          refine sim_know 23 (decide (v + z > 1152921504606846976)) false (by kernel_rfl) (decide_eq_false (by omega)) ?_
          refine sim_run 5 [] (hR710.cast (by kernel_rfl)) (by kernel_rfl) trivial (fun ρ711 w711 hm711 hR711 => ?_)
          have hag := hag.moved (hm711.castL (by kernel_rfl))
          have hld := hld.moved (hm711.castL (by kernel_rfl))
          have hM := hM.moved (hm711.castL (by kernel_rfl))
          
          refine sim_to (regK Try.f25 7) (tmplJ Try.f25.ntmps 0 [(0, .ptr 0 0), (2, LI z), (4, .ptr 1 0)]) [⟨s.cells.map .v, false⟩, ⟨[LS a, LS c], true⟩] (by kernel_rfl) (by kernel_rfl) (by kernel_rfl) (fun d => ?_)
          exact issue_tail ((by assumption : Rel _ _ _ _ _).cast (by kernel_rfl)) (hld.castR (by kernel_rfl)) (hM.castR (by kernel_rfl)) hzb ha hc hv hi hiss2 d
end

section
open Go Go.RowKit

def ptrG (g : Nat) : List LV := [.v (.pointer (some ⟨g, 0, none⟩))]
theorem LdV.ge_all {w : World} {B gl : Nat} {s : LSt} (h : LdV w B gl s) {x : Nat} (hx : s.all gl x) : B ≤ x := by
  rcases hx with rfl | rfl | hx | hx | hx
  · exact h.ge
  · exact h.pos.ge
  · exact h.pos.geM x hx
  · exact h.geI x hx
  · exact h.geB x hx
/-- behind a method that changes it; il: the other places that are read alone -/
theorem LdO.afterL {T : List Nat} {w0 : World} {ρ : Nm} {rs : List Reg} {w w' : World} {B gl : Nat} {s s' : LSt} (h : LdO ρ rs w B gl s) (hR : Rel T w0 ρ rs w) (hw0 : w0.heap.size ≤ B) (hl : LdV w' B gl s') (hg : s'.g = s.g) (hk : Kept (s.all gl) w w') (hh : ∀ x, s'.has x → s.has x ∨ w.heap.size ≤ x)
    (reg : rs[0]? = some ⟨ptrG s.g, false⟩) (il : List Nat) (hro : roAll rs 0 = 0 :: il) (hidx : ∀ k ∈ il, (ρ k).1 < B) : LdO ρ rs w' B gl s' ∧ Rel T w0 ρ rs w' := by
  have hro2 : ∀ n r, rs[n]? = some r → n ≠ 0 → r.wr = false → ¬ s.all gl (ρ n).1 := fun n r hn h0 hw hx => by
    have h1 := roAll_mem rs 0 n r hn hw
    rw [hro, Nat.zero_add] at h1
    rcases List.mem_cons.1 h1 with e | h1
    · exact h0 e
    · have := hidx n h1
      have := h.ld.ge_all hx
      omega
  have hall : ∀ x, s'.all gl x → s.all gl x ∨ w.heap.size ≤ x := fun x hx => hx.elim (fun e => .inl (.inl e)) (fun e => (hh x e).imp (fun e => .inr e) id)
  have hsame : ∀ n r, rs[n]? = some r → n ≠ 0 ∨ r.wr = true → w'.heap[(ρ n).1]? = w.heap[(ρ n).1]? := fun n r hn hc => hk.block _ (hR.lt n r hn) (fun hx => by
    cases hw : r.wr with
    | true => exact h.far _ hx ⟨n, r, hn, hw, rfl⟩
    | false => exact hro2 n r hn (hc.resolve_right (by rw [hw]; simp)) hw hx)
  refine ⟨⟨hl, h.at_, h.lt, fun x hx hw => ?_⟩, ⟨(hR.none0 (ρ' := ρ) |>.kept hk (fun n r hn => by simp at hn) (fun x hx => .inr (Nat.le_trans hw0 (h.ld.ge_all hx)))).keeps, fun n r hn => Nat.lt_of_lt_of_le (hR.lt n r hn) hk.size, fun n r hn i v hv => ?_, fun n r hn hw => ⟨(hR.wr n r hn hw).1, fun i hi => ?_⟩, hR.apart⟩⟩
  · rcases hall x hx with h1 | h1
    · exact h.far x h1 hw
    · have := hR.wr_lt hw
      omega
  · by_cases h0 : n = 0
    · subst h0
      rw [reg] at hn
      injection hn with hn
      subst hn
      match i, hv with
      | 0, hv =>
        simp only [ptrG, List.getElem?_cons_zero, Option.some.injEq] at hv
        subst hv
        simp only [Nm.at_, h.at_, LV.den]
        rw [hl.cell.cell 0]
        simp [LSt.cells, hg]
      | i + 1, hv => simp [ptrG] at hv
    · have hc := hR.cell n r hn i v hv
      unfold World.cell? at hc ⊢
      rw [show (ρ.at_ n i).block = (ρ n).1 from rfl] at *
      rw [hsame n r hn (.inl h0)]
      exact hc
  · rw [frozen_of_block (hsame n r hn (.inr hw))]
    exact (hR.wr n r hn hw).2 i hi
/-- a ledger that was made comes into view -/
theorem LdV.view {T : List Nat} {w0 w : World} {ρ : Nm} {B gl : Nat} {s : LSt} (h : LdV w B gl s) (hR : Rel T w0 ρ [] w) : ∃ ρ' : Nm, ρ' 0 = (gl, 0) ∧ Rel T w0 ρ' [⟨ptrG s.g, false⟩] w ∧ LdO ρ' [⟨ptrG s.g, false⟩] w B gl s := by
  obtain ⟨ρ', _, e0, hR'⟩ := hR.open_ rfl gl 0 (ptrG s.g) rfl false h.cell.lt (fun j v hv => by
    match j, hv with
    | 0, hv =>
      simp only [ptrG, List.getElem?_cons_zero, Option.some.injEq] at hv
      subst hv
      rw [Nat.add_zero, h.cell.cell 0]
      simp [LSt.cells, LV.den]
    | j + 1, hv => simp [ptrG] at hv) (fun hb => by cases hb) (fun n r hn => by simp at hn)
  exact ⟨ρ', e0, hR', ⟨h, e0, Nat.zero_lt_one, fun _ _ => noW1⟩⟩
end
end Go.Proofs.Ytgbgedaedcofcaa
