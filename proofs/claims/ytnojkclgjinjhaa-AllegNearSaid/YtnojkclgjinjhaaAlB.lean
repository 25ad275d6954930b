/-
  alleg: For.
-/
import Derived.Test.YtnojkclgjinjhaaAlA
import Derived.Test.YtnojkclgjinjhaaMatchC
namespace Go.Proofs.Ytnojkclgjinjhaa
open Go Go.RowKit
attribute [local irreducible] run goO leaveK someK nextK nextT nextOT nextOD loopBody loopRest loopK fillJ tmplOf tmplJ mergeT At AtO drawOk ordOf gateOf callC callO topOp topO idxOf appOf storeOf clearOf sliceOf calleeOf calleeO topQ idxQ newRowOf resL stepOp seek

/-- an alleg, and what its list holds -/
structure Al where
  term : Tm
  id : Int
  near : Int
  what : Value
  ws : List ByteArray
def Al.cells (a : Al) : List Value := a.term.cells ++ [.int .i64 a.id, .int .i64 a.near, a.what]
def als (l : List Al) : List Value := l.flatMap Al.cells
theorem als_snoc (l : List Al) (a : Al) : als (l ++ [a]) = als l ++ a.cells := by simp [als]
theorem own_base {w : World} {b b' : Nat} {e : TypeId} {s : Nat} {v : Value} {n : Nat} {xs : List Value} (h : w.ownsRow b e s v n xs) (hb : b' ≤ b) : w.ownsRow b' e s v n xs := by
  refine ⟨h.1, h.2.imp id ?_⟩
  rintro ⟨g, cap, cur, e1, e2, r⟩
  exact ⟨g, cap, cur, e1, Nat.le_trans hb e2, r⟩
/-- each list is a row of its own -/
structure AlsO (ρ : Nm) (rs : List Reg) (w : World) (base : Nat) (l : List Al) : Prop where
  own : ∀ a ∈ l, Own ρ rs w base 9 1 a.what a.ws.length (txts a.ws)
theorem AlsO.moved {ρ ρ' : Nm} {rs rs' : List Reg} {w w' : World} {base : Nat} {l : List Al} (h : AlsO ρ rs w base l) (hm : Moved ρ rs w ρ' rs' w') : AlsO ρ' rs' w' base l := ⟨fun a ha => (h.own a ha).moved hm⟩
theorem AlsO.below {ρ : Nm} {rs : List Reg} {w w' : World} {base : Nat} {l : List Al} (h : AlsO ρ rs w base l) (hb : Below w.heap.size w w') : AlsO ρ rs w' base l := ⟨fun a ha => (h.own a ha).below hb⟩
theorem AlsO.grown {ρ : Nm} {rs : List Reg} {w w' : World} {base : Nat} {l : List Al} (h : AlsO ρ rs w base l) {row : Option Nat} (hg : w.grownBy w' row) (hne : ∀ a ∈ l, ∀ g, a.what.ownBlock = some g → row ≠ some g) : AlsO ρ rs w' base l := ⟨fun a ha => (h.own a ha).grown hg (hne a ha)⟩
theorem AlsO.cut {ρ ρ' : Nm} {rs rs' : List Reg} {w : World} {B N : Nat} {l : List Al} (h : AlsO ρ' rs' w B l) (hag : Ag N ρ ρ' rs') (hN : rs.length = N) (e0 : rs'.take N = rs) : AlsO ρ rs w B l := ⟨fun a ha => (h.own a ha).cut hag hN e0⟩
theorem Own.fresh {T : List Nat} {w0 w w' : World} {ρ : Nm} {rs : List Reg} (hR : Rel T w0 ρ rs w) {b : Nat} {e : TypeId} {s : Nat} {v : Value} {n : Nat} {xs : List Value} (h : w'.ownsRow w.heap.size e s v n xs) (hb : b ≤ w.heap.size) : Own ρ rs w' b e s v n xs :=
  ⟨own_base h hb, fun g hg hw => by
    have h1 := (h.lt g hg).1
    have h2 := hR.wr_lt hw
    omega⟩
theorem wrS_forget {ρ : Nm} {rs : List Reg} {f : Nat → Bool} {g : Nat} (h : wrS ρ (rs.mapIdx fun i r => if f i then ⟨[], false⟩ else r) g) : wrS ρ rs g := by
  obtain ⟨n, r, hn, hw, he⟩ := h
  rw [List.getElem?_mapIdx] at hn
  cases hr : rs[n]? with
  | none => rw [hr] at hn; cases hn
  | some q =>
    rw [hr] at hn
    simp only [Option.map_some, Option.some.injEq] at hn
    split at hn
    · rw [← hn] at hw; cases hw
    · exact ⟨n, q, hr, by rw [hn]; exact hw, he⟩
theorem Own.forget {ρ : Nm} {rs : List Reg} {w : World} {b : Nat} {e : TypeId} {s : Nat} {v : Value} {n : Nat} {xs : List Value} (h : Own ρ rs w b e s v n xs) (f : Nat → Bool) : Own ρ (rs.mapIdx fun i r => if f i then ⟨[], false⟩ else r) w b e s v n xs := ⟨h.own, fun g hg hw => h.far g hg (wrS_forget hw)⟩
theorem AlsO.forget {ρ : Nm} {rs : List Reg} {w : World} {b : Nat} {l : List Al} (h : AlsO ρ rs w b l) (f : Nat → Bool) : AlsO ρ (rs.mapIdx fun i r => if f i then ⟨[], false⟩ else r) w b l := ⟨fun a ha => (h.own a ha).forget f⟩
theorem AlsO.castR {ρ : Nm} {rs rs' : List Reg} {w : World} {b : Nat} {l : List Al} (h : AlsO ρ rs w b l) (e0 : rs = rs') : AlsO ρ rs' w b l := e0 ▸ h
theorem AlsO.drew {ρ : Nm} {rs : List Reg} {w : World} {base : Nat} {l : List Al} (h : AlsO ρ rs w base l) : AlsO ρ rs w.drew base l := ⟨fun a ha => (h.own a ha).drew⟩
theorem insts_flat2 (xs : List In) : insts xs = (xs.map In.cells).flatten := by
  unfold insts
  rw [List.flatMap_def]
theorem in_len2 (xs : List In) : ∀ y ∈ xs.map In.cells, y.length = 21 := fun y hy => by
  obtain ⟨x, _, rfl⟩ := List.mem_map.1 hy
  exact In.cells_length x
def wantOwn (party : ByteArray) (x : In) : Bool := x.term.party.toList == party.toList
def wantOth (party : ByteArray) (x : In) : Bool := (x.term.other.toList == party.toList) && !(x.term.party.toList == party.toList)
theorem for1_enters : Enters Try.prog 17 := ⟨_, Try.func17, by kernel_rfl, by kernel_rfl⟩
theorem for2_enters : Enters Try.prog 18 := ⟨_, Try.func18, by kernel_rfl, by kernel_rfl⟩
set_option maxRecDepth 100000 in
theorem for1_any (party : ByteArray) (B : Nat) (w : World) (g o : Nat) (hg : g < B) (hc : w.cell? ⟨g, o, none⟩ = some (.string party)) : PredOk B w 17 #[.pointer (some ⟨g, o + 0, none⟩)] (wantOwn party) := by
  intro x w1 hx hb
  have hc1 : w1.cell? ⟨g, o + 0, none⟩ = some (.string party) := (hb.cell (p := ⟨g, o, none⟩) hg).trans hc
  obtain ⟨ρ, _, hn0, hR⟩ := (Rel.start [] w1 ρ0).open_ rfl g o [LS party] rfl false (World.block_lt_of_cell? _ _ hc1) (fun j v hv => by
    match j, hv with
    | 0, hv => injection hv with hv; rw [← hv]; exact hc1) (fun h => by cases h) (fun n r hn => by simp at hn)
  have e0 : ρ 0 = (g, o) := hn0
  refine sim_enter Try.func17 ρ [.agg (x.cells.map .v), .ptr 0 0] [⟨[LS party], false⟩] (by kernel_rfl) (by simp only [denL, LV.den, Nm.at_, e0]; rfl) ?_
  have hR := hR.cast rfl
  refine sim_run 14 [] (hR.cast (by kernel_rfl)) (by kernel_rfl) trivial (fun ρ100 w100 hm100 hR100 => ?_)
  refine sim_ret (LB (x.term.party.toList == party.toList)) hR100 (by kernel_rfl) (by kernel_rfl) ?_
  exact ⟨rfl, hR100.toBelow⟩
  
set_option maxRecDepth 100000 in
theorem for2_any (party : ByteArray) (B : Nat) (w : World) (g o : Nat) (hg : g < B) (hc : w.cell? ⟨g, o, none⟩ = some (.string party)) : PredOk B w 18 #[.pointer (some ⟨g, o + 0, none⟩)] (wantOth party) := by
  intro x w1 hx hb
  have hc1 : w1.cell? ⟨g, o + 0, none⟩ = some (.string party) := (hb.cell (p := ⟨g, o, none⟩) hg).trans hc
  obtain ⟨ρ, _, hn0, hR⟩ := (Rel.start [] w1 ρ0).open_ rfl g o [LS party] rfl false (World.block_lt_of_cell? _ _ hc1) (fun j v hv => by
    match j, hv with
    | 0, hv => injection hv with hv; rw [← hv]; exact hc1) (fun h => by cases h) (fun n r hn => by simp at hn)
  have e0 : ρ 0 = (g, o) := hn0
  refine sim_enter Try.func18 ρ [.agg (x.cells.map .v), .ptr 0 0] [⟨[LS party], false⟩] (by kernel_rfl) (by simp only [denL, LV.den, Nm.at_, e0]; rfl) ?_
  have hR := hR.cast rfl
  refine sim_run 13 [] (hR.cast (by kernel_rfl)) (by kernel_rfl) trivial (fun ρ200 w200 hm200 hR200 => ?_)
  refine sim_fork 9 (x.term.other.toList == party.toList) (by kernel_rfl) (fun hq201 => ?_) (fun hq201 => ?_)
  have hq201 := ba_eq hq201
  refine sim_run 8 [] (hR200.cast (by kernel_rfl)) (by kernel_rfl) trivial (fun ρ202 w202 hm202 hR202 => ?_)
  refine sim_ret (LB (!x.term.party.toList == party.toList)) hR202 (by kernel_rfl) (by kernel_rfl) ?_
  rotate_left
  have hq201 := ba_ne hq201
  refine sim_run 8 [] (hR200.cast (by kernel_rfl)) (by kernel_rfl) trivial (fun ρ203 w203 hm203 hR203 => ?_)
  refine sim_ret (LB false) hR203 (by kernel_rfl) (by kernel_rfl) ?_
  rotate_left
  
  · rw [show wantOth party x = !(x.term.party.toList == party.toList) from by simp [wantOth, (by assumption : x.term.other = party)]]
    exact ⟨rfl, (by assumption : Rel _ _ _ _ _).toBelow⟩
  · rw [show wantOth party x = false from by
      have h := (by assumption : x.term.other ≠ party)
      have e : (x.term.other.toList == party.toList) = false := by
        cases hc : (x.term.other.toList == party.toList) with
        | false => rfl
        | true => exact absurd (ba_eq hc) h
      simp only [wantOth, e, Bool.false_and]]
    exact ⟨rfl, (by assumption : Rel _ _ _ _ _).toBelow⟩
def pickS (p : In → Bool) (l : List In) : List In := ssort (ltC cmpId) (l.filter (fun x => !PickB p x))
def nearS (x : In) (s : Int × List ByteArray) (y : In) : Int × List ByteArray := if (differ x y 0).length < s.2.length then (y.id, differ x y 0) else s
def nearM (x : In) : List In → Int × List ByteArray
  | [] => (0, [])
  | y :: ys => ys.foldl (nearS x) (y.id, differ x y 0)
theorem nearM_one (x y : In) (l : List In) (k : Nat) (hk : k = 0) (hy : l[k]? = some y) : nearM x (l.take (k + 1)) = (y.id, differ x y 0) := by
  subst hk
  cases l with
  | nil => cases hy
  | cons z zs =>
    injection hy with hy
    subst hy
    rfl
theorem nearM_step (x y : In) (l : List In) (k : Nat) (hk : 0 < k) (hy : l[k]? = some y) : nearM x (l.take (k + 1)) = nearS x (nearM x (l.take k)) y := by
  cases l with
  | nil => cases hy
  | cons z zs =>
    obtain ⟨m, rfl⟩ : ∃ m, k = m + 1 := ⟨k - 1, by omega⟩
    simp only [List.getElem?_cons_succ] at hy
    rw [List.take_succ_cons, List.take_succ_cons]
    simp only [nearM]
    rw [List.take_add_one, hy, List.foldl_append]
    rfl
theorem pick_any2 (f : FuncId) (hf : Enters Try.prog f) (caps : Array Value) (p : In → Bool) (A : Option Addr) (n cp B : Nat) (l : List In) (w : World) (hp : PredOk w.heap.size w f caps p) (h : Reads w B 21 A n (insts l)) (hB : B ≤ w.heap.size) (hok : ∀ x ∈ l, x.ok) (hn : n ≤ 100000) (hA : A = none → n = 0 ∧ cp = 0) :
    Calls Try.prog 16 #[.slice A n cp, .func (.func f) #[] caps] w (InstsN w (pickS p l)) := pick_any f hf caps p A n cp B l w hp h hB hok hn hA
def oneAl (own : List In) (x : In) : Tm × Int × Int × List ByteArray := (x.term, x.id, nearM x own)
def forM (party : ByteArray) (l : List In) : List (Tm × Int × Int × List ByteArray) := (pickS (wantOth party) l).map (oneAl (pickS (wantOwn party) l))
def Al.plain (a : Al) : Tm × Int × Int × List ByteArray := (a.term, a.id, a.near, a.ws)
/-- what For answers -/
def AllegsN (w : World) (m : List (Tm × Int × Int × List ByteArray)) (e : Ending) (w' : World) : Prop := ∃ A cap l, e = .returned (.slice A l.length cap) ∧ l.map Al.plain = m ∧ w'.ownsRow w.heap.size 32 15 (.slice A l.length cap) l.length (als l) ∧ (∀ a ∈ l, w'.ownsRow w.heap.size 9 1 a.what a.ws.length (txts a.ws)) ∧ Below w.heap.size w w'
theorem pickS_ok {p : In → Bool} {l : List In} (h : ∀ x ∈ l, x.ok) : ∀ x ∈ pickS p l, x.ok := fun x hx => h x (List.mem_filter.1 ((ssort_perm _ _ rfl).mem_iff.1 hx)).1
theorem pickS_len (p : In → Bool) (l : List In) : (pickS p l).length ≤ l.length := by unfold pickS; rw [ssort_len]; exact List.length_filter_le _ _
theorem alleg_ty : RowTy Try.prog 28 32 15 192 := .of Try.underlying28 (by kernel_rfl) rfl
theorem allegsN_of {w0 w' : World} {base : Nat} {v : Value} {l : List Al} {m : List (Tm × Int × Int × List ByteArray)} (h : w'.ownsRow base 32 15 v l.length (als l)) (hm : l.map Al.plain = m) (hs : ∀ a ∈ l, w'.ownsRow base 9 1 a.what a.ws.length (txts a.ws)) (hb : w0.heap.size ≤ base) (hw : Below w0.heap.size w0 w') : AllegsN w0 m (.returned v) w' := by
  have h' := own_base h hb
  rcases h.2 with ⟨rfl, hn⟩ | ⟨g, cap, cur, rfl, _⟩
  · refine ⟨none, 0, l, by rw [hn], hm, ?_, fun a ha => own_base (hs a ha) hb, hw⟩
    rw [hn] at h' ⊢
    exact h'
  · exact ⟨_, cap, l, rfl, hm, h', fun a ha => own_base (hs a ha) hb, hw⟩
def rgI (party : ByteArray) (x : In) (y : Nat × Int × Option Addr × Nat × List ByteArray) : List Reg := [⟨[LS party], true⟩, ⟨[], false⟩, ⟨x.cells.map .v, true⟩, ⟨x.term.cells.map .v ++ [LI x.id, LI y.2.1, .v (.slice y.2.2.1 y.2.2.2.2.length y.2.2.2.1)], true⟩]
set_option maxRecDepth 100000 in
set_option maxHeartbeats 4000000 in
theorem for_any (party : ByteArray) (A : Option Addr) (n cp B : Nat) (l : List In) (w : World) (h : Reads w B 21 A n (insts l)) (hB : B ≤ w.heap.size) (hok : ∀ x ∈ l, x.ok) (hn : n ≤ 100000) (hA : A = none → n = 0 ∧ cp = 0) :
    Calls Try.prog 7 #[.string party, .slice A n cp] w (AllegsN w (forM party l)) := by
  have hl := h.insts_len
  refine sim_enter Try.func7 ρ0 [LS party, .v (.slice A n cp)] [] (by kernel_rfl) rfl ?_
  have hR := Rel.start [] w ρ0
  refine sim_run 9 [] (hR.cast (by kernel_rfl)) (by kernel_rfl) trivial (fun ρ300 w300 hm300 hR300 => ?_)
  
  have hbox := hR300.at_cell 0 0 (LS party) (by kernel_rfl)
  have hold := hR300.old 1 (by kernel_rfl)
  have hb3 : Below w.heap.size w w300 := hR300.toBelow
  have hs3 := hb3.size
  refine sim_call 16 [.v (.slice A n cp), .fnv (.func 17) [] [.ptr 0 0]] (by kernel_rfl) ?_
  refine (pick_any2 17 for1_enters #[.pointer (some ⟨(ρ300 0).1, (ρ300 0).2 + 0, none⟩)] (wantOwn party) A n cp B l _ (for1_any party _ _ _ _ (hold.lt 0 (by omega)) hbox) (h.belowN hb3 hB) (by omega) hok hn hA).mono ?_
  rintro e w4 ⟨A1, c1, rfl, hown1, hb4⟩
  have hR4 := hR300.below hb4
  have hold := hold.below hb4
  have hown1 := Own.of_old hown1 hold (by kernel_rfl) (Nat.le_refl _)
  refine Back.of (.v (.slice A1 (pickS (wantOwn party) l).length c1)) hR4 rfl ?_
  refine sim_run 11 [] (hR4.cast (by kernel_rfl)) (by kernel_rfl) trivial (fun ρ500 w500 hm500 hR500 => ?_)
  have hold := hold.moved (hm500.castL (by kernel_rfl))
  have hown1 := hown1.moved (hm500.castL (by kernel_rfl))
  
  have hbox := hR500.at_cell 0 0 (LS party) (by kernel_rfl)
  have hb5 : Below w.heap.size w w500 := hR500.toBelow
  have hs5 := hb5.size
  have hold2 := hR500.old 1 (by kernel_rfl)
  refine sim_call 16 [.v (.slice A n cp), .fnv (.func 18) [] [.ptr 0 0]] (by kernel_rfl) ?_
  refine (pick_any2 18 for2_enters #[.pointer (some ⟨(ρ500 0).1, (ρ500 0).2 + 0, none⟩)] (wantOth party) A n cp B l _ (for2_any party _ _ _ _ (hold2.lt 0 (by omega)) hbox) (h.belowN hb5 hB) (by omega) hok hn hA).mono ?_
  rintro e w6 ⟨A2, c2, rfl, hown2, hb6⟩
  have hR6 := hR500.below hb6
  have hold := hold.below hb6
  have hold2 := hold2.below hb6
  have hown1 := hown1.below hb6
  have hown2 := Own.of_old hown2 hold2 (by kernel_rfl) (Nat.le_refl _)
  refine Back.of (.v (.slice A2 (pickS (wantOth party) l).length c2)) hR6 rfl ?_
  have hok1 := pickS_ok (p := wantOwn party) hok
  have hok2 := pickS_ok (p := wantOth party) hok
  have hl1 := pickS_len (wantOwn party) l
  have hl2 := pickS_len (wantOth party) l
  unfold forM
  generalize pickS (wantOwn party) l = own at *
  generalize pickS (wantOth party) l = oth at *
  refine sim_run 4 [] (hR6.cast (by kernel_rfl)) (by kernel_rfl) trivial (fun ρ700 w700 hm700 hR700 => ?_)
  have hold := hold.moved (hm700.castL (by kernel_rfl))
  have hold2 := hold2.moved (hm700.castL (by kernel_rfl))
  have hown1 := hown1.moved (hm700.castL (by kernel_rfl))
  have hown2 := hown2.moved (hm700.castL (by kernel_rfl))
  
  have hs0 : w.heap.size ≤ w300.heap.size := hs3
  have hk5 : w300.heap.size ≤ w500.heap.size := Nat.le_trans hb4.size hm500.kept.size
  generalize hB0 : w300.heap.size = B0 at *
  generalize hB4 : w500.heap.size = B4 at *
  have hvo0 : Own ρ700 [⟨[LS party], true⟩] w700 B0 32 15 (.slice none 0 0) 0 (als []) := ⟨World.ownsRow_nil _ _ _ _, fun g hg => by cases hg⟩
  refine sim_loop (ι := Nat × Value × List Al) (T := []) (w0 := w) (0, .slice none 0 0, []) [5, 18, 19] (fun x => [(6, .v x.2.1), (20, LI x.1)]) (fun _ => [⟨[LS party], true⟩])
    (fun x w1 => x.1 ≤ oth.length ∧ x.2.2.length = x.1 ∧ x.2.2.map Al.plain = (oth.take x.1).map (oneAl own) ∧ Own ρ700 [⟨[LS party], true⟩] w1 B0 32 15 x.2.1 x.1 (als x.2.2) ∧ AlsO ρ700 [⟨[LS party], true⟩] w1 B0 x.2.2 ∧ Own ρ700 [⟨[LS party], true⟩] w1 B0 27 21 (.slice A1 own.length c1) own.length (insts own) ∧ Own ρ700 [⟨[LS party], true⟩] w1 B4 27 21 (.slice A2 oth.length c2) oth.length (insts oth) ∧ B4 ≤ w1.heap.size)
    (fun x => oth.length - x.1) (by kernel_rfl) (by kernel_rfl) (hR700.cast (by kernel_rfl)) ⟨Nat.zero_le _, rfl, rfl, hvo0, ⟨fun a ha => by cases ha⟩, hown1.castR (by kernel_rfl), hown2.castR (by kernel_rfl), hold2.sz⟩ ?_
  iterate 6 (try clear hown1)
  iterate 6 (try clear hown2)
  iterate 6 (try clear hold2)
  iterate 6 (try clear hold)
  clear hR700 hR6 hR500 hR4 hbox hm700 hm500 hR300 hvo0
  rintro ⟨k, vo, ls⟩ d w8 hR8 ⟨hk, hal, hap, hvo, hws, hown1, hown2, hz8⟩
  dsimp only at hk hal hap hvo hws hown1 hown2
  have hag1 := hR8.ag_ 1 (by kernel_rfl)
  by_cases hlt : k < oth.length
  · obtain ⟨ga, oa, rfl, _, _⟩ := hown2.reads.spot (by omega) (by omega)
    have hx : oth[k]? = some oth[k] := List.getElem?_eq_getElem hlt
    generalize oth[k] = x at hx
    have hxok := hok2 x (List.mem_of_getElem? hx)
    have hxc : (oth.map In.cells)[k]? = some x.cells := by rw [List.getElem?_map, hx]; rfl
    rw [insts_flat2 oth] at hown2
    refine sim_run 5 [] (hR8.cast (by kernel_rfl)) (by kernel_rfl) trivial (fun ρ800 w800 hm800 hR800 => ?_)
    have hvo := hvo.moved (hm800.castL (by kernel_rfl))
    have hws := hws.moved (hm800.castL (by kernel_rfl))
    have hown1 := hown1.moved (hm800.castL (by kernel_rfl))
    have hag1 := hag1.moved (hm800.castL (by kernel_rfl))
    have hown2 := hown2.moved (hm800.castL (by kernel_rfl))
    refine sim_know 21 (decide ((↑(k, vo, ls).fst : Int) < (↑oth.length : Int))) true (by kernel_rfl) (decide_eq_true (by omega)) ?_
    refine sim_run 6 [] (hR800.cast (by kernel_rfl)) (by kernel_rfl) trivial (fun ρ801 w801 hm801 hR801 => ?_)
    have hvo := hvo.moved (hm801.castL (by kernel_rfl))
    have hws := hws.moved (hm801.castL (by kernel_rfl))
    have hown1 := hown1.moved (hm801.castL (by kernel_rfl))
    have hag1 := hag1.moved (hm801.castL (by kernel_rfl))
    have hown2 := hown2.moved (hm801.castL (by kernel_rfl))
    refine sim_elemO x.cells c2 k 1 (by kernel_rfl) (by kernel_rfl) hxc hown2 (in_len2 oth) (by omega) hlt hR801 (by kernel_rfl) (fun ρ802 hm802 hR802 => ?_)
    have hvo := hvo.moved hm802
    have hws := hws.moved hm802
    have hown1 := hown1.moved hm802
    have hag1 := hag1.moved hm802
    have hown2 := hown2.moved hm802
    refine sim_run 22 [] (hR802.cast (by kernel_rfl)) (by kernel_rfl) trivial (fun ρ803 w803 hm803 hR803 => ?_)
    have hvo := hvo.moved (hm803.castL (by kernel_rfl))
    have hws := hws.moved (hm803.castL (by kernel_rfl))
    have hown1 := hown1.moved (hm803.castL (by kernel_rfl))
    have hag1 := hag1.moved (hm803.castL (by kernel_rfl))
    have hown2 := hown2.moved (hm803.castL (by kernel_rfl))
    
    rw [← insts_flat2 oth] at hown2
    have hz9 : B4 ≤ w803.heap.size := Nat.le_trans hz8 (Nat.le_trans hm800.kept.size (Nat.le_trans hm801.kept.size hm803.kept.size))
    have hvo := (hvo.forget (fun i => Nat.beq i 1))
    have hws := (hws.forget (fun i => Nat.beq i 1))
    have hown1 := (hown1.forget (fun i => Nat.beq i 1))
    have hown2 := (hown2.forget (fun i => Nat.beq i 1))
    refine sim_loop (ι := Nat × Int × Option Addr × Nat × List ByteArray) (T := []) (w0 := w) (0, 0, none, 0, []) [5, 6, 8, 9, 18, 19, 20, 29, 30] (fun y => [(31, LI y.1)]) (rgI party x)
      (fun y w1 => y.1 ≤ own.length ∧ nearM x (own.take y.1) = (y.2.1, y.2.2.2.2) ∧ Own ρ803 (rgI party x y) w1 B0 9 1 (.slice y.2.2.1 y.2.2.2.2.length y.2.2.2.1) y.2.2.2.2.length (txts y.2.2.2.2) ∧ Own ρ803 (rgI party x y) w1 B0 32 15 vo k (als ls) ∧ AlsO ρ803 (rgI party x y) w1 B0 ls ∧ Own ρ803 (rgI party x y) w1 B0 27 21 (.slice A1 own.length c1) own.length (insts own) ∧ Own ρ803 (rgI party x y) w1 B4 27 21 (.slice (some ⟨ga, oa, none⟩) oth.length c2) oth.length (insts oth) ∧ B4 ≤ w1.heap.size)
      (fun y => own.length - y.1) (by kernel_rfl) (by kernel_rfl) ((hR803.forget (fun i => Nat.beq i 1)).cast (by kernel_rfl)) ⟨Nat.zero_le _, rfl, ⟨World.ownsRow_nil _ _ _ _, fun g hg => by cases hg⟩, hvo.castR (by kernel_rfl), hws.castR (by kernel_rfl), hown1.castR (by kernel_rfl), hown2.castR (by kernel_rfl), hz9⟩ ?_
    iterate 20 (try clear hvo)
    iterate 20 (try clear hws)
    iterate 20 (try clear hown1)
    iterate 20 (try clear hown2)
    clear hR803 hm803
    rintro ⟨j, near, Aw, cw, ws⟩ d9 w9 hR9 ⟨hj, hnear, hwhat, hvo, hws, hown1, hown2, hz10⟩
    dsimp only at hj hnear hwhat hvo hws hown1 hown2
    have hag4 := hR9.ag_ 4 (by kernel_rfl)
    have hold0 : OldR 0 B4 ρ803 _ w9 := ⟨fun n hn => by omega, Nat.zero_le (rgI party x (j, near, Aw, cw, ws)).length, hz10⟩
    by_cases hlt2 : j < own.length
    · obtain ⟨gb, ob, rfl, _, _⟩ := hown1.reads.spot (by omega) (by omega)
      have hy : own[j]? = some own[j] := List.getElem?_eq_getElem hlt2
      generalize own[j] = y at hy
      have hyok := hok1 y (List.mem_of_getElem? hy)
      have hyc : (own.map In.cells)[j]? = some y.cells := by rw [List.getElem?_map, hy]; rfl
      rw [insts_flat2 own] at hown1
      refine sim_run 5 [] (hR9.cast (by kernel_rfl)) (by kernel_rfl) trivial (fun ρ1000 w1000 hm1000 hR1000 => ?_)
      have hwhat := hwhat.moved (hm1000.castL (by kernel_rfl))
      have hvo := hvo.moved (hm1000.castL (by kernel_rfl))
      have hws := hws.moved (hm1000.castL (by kernel_rfl))
      have hown2 := hown2.moved (hm1000.castL (by kernel_rfl))
      have hag4 := hag4.moved (hm1000.castL (by kernel_rfl))
      have hold0 := hold0.moved (hm1000.castL (by kernel_rfl))
      have hown1 := hown1.moved (hm1000.castL (by kernel_rfl))
      refine sim_know 32 (decide ((↑(j, near, Aw, cw, ws).fst : Int) < (↑own.length : Int))) true (by kernel_rfl) (decide_eq_true (by omega)) ?_
      refine sim_run 7 [] (hR1000.cast (by kernel_rfl)) (by kernel_rfl) trivial (fun ρ1001 w1001 hm1001 hR1001 => ?_)
      have hwhat := hwhat.moved (hm1001.castL (by kernel_rfl))
      have hvo := hvo.moved (hm1001.castL (by kernel_rfl))
      have hws := hws.moved (hm1001.castL (by kernel_rfl))
      have hown2 := hown2.moved (hm1001.castL (by kernel_rfl))
      have hag4 := hag4.moved (hm1001.castL (by kernel_rfl))
      have hold0 := hold0.moved (hm1001.castL (by kernel_rfl))
      have hown1 := hown1.moved (hm1001.castL (by kernel_rfl))
      refine sim_elemO y.cells c1 j 4 (by kernel_rfl) (by kernel_rfl) hyc hown1 (in_len2 own) (by omega) hlt2 hR1001 (by kernel_rfl) (fun ρ1002 hm1002 hR1002 => ?_)
      have hwhat := hwhat.moved hm1002
      have hvo := hvo.moved hm1002
      have hws := hws.moved hm1002
      have hown2 := hown2.moved hm1002
      have hag4 := hag4.moved hm1002
      have hold0 := hold0.moved hm1002
      have hown1 := hown1.moved hm1002
      refine sim_run 9 [] (hR1002.cast (by kernel_rfl)) (by kernel_rfl) trivial (fun ρ1003 w1003 hm1003 hR1003 => ?_)
      have hwhat := hwhat.moved (hm1003.castL (by kernel_rfl))
      have hvo := hvo.moved (hm1003.castL (by kernel_rfl))
      have hws := hws.moved (hm1003.castL (by kernel_rfl))
      have hown2 := hown2.moved (hm1003.castL (by kernel_rfl))
      have hag4 := hag4.moved (hm1003.castL (by kernel_rfl))
      have hold0 := hold0.moved (hm1003.castL (by kernel_rfl))
      have hown1 := hown1.moved (hm1003.castL (by kernel_rfl))
      refine sim_call 8 [.agg [LI x.id, LS x.term.party, LS x.term.account, LS x.term.money, LS x.term.other, LB x.term.deliver, LS x.term.asset, LS x.term.ccy, LS x.term.ref, LI x.term.qty, LI x.term.amount, LI x.term.day, LI x.term.trade, LI x.prio, LB x.part, LB x.held, LB x.wish, LI x.state, LI x.mate, LI x.done, LI x.paid], .agg [LI y.id, LS y.term.party, LS y.term.account, LS y.term.money, LS y.term.other, LB y.term.deliver, LS y.term.asset, LS y.term.ccy, LS y.term.ref, LI y.term.qty, LI y.term.amount, LI y.term.day, LI y.term.trade, LI y.prio, LB y.part, LB y.held, LB y.wish, LI y.state, LI y.mate, LI y.done, LI y.paid], LI 0] (by kernel_rfl) ?_
      refine Calls.mono (differ_any (x) (y) (hxok) (hyok) (0) ((by decide)) _) ?_
      rintro e1004 w1004 ⟨Ad1004, cd1004, rfl, hownD, hb1004⟩
      have hR1004 := hR1003.below hb1004
      have hownD := Own.fresh hR1003 hownD (Nat.le_trans hk5 hold0.sz)
      have hwhat := hwhat.below hb1004
      have hvo := hvo.below hb1004
      have hws := hws.below hb1004
      have hown2 := hown2.below hb1004
      have hold0 := hold0.below hb1004
      have hown1 := hown1.below hb1004
      refine Back.of (.v (.slice Ad1004 (differ x y 0).length cd1004)) hR1004 rfl ?_
      refine sim_run 7 [] (hR1004.cast (by kernel_rfl)) (by kernel_rfl) trivial (fun ρ1005 w1005 hm1005 hR1005 => ?_)
      have hag4 := hag4.moved (hm1005.castL (by kernel_rfl))
      have hownD := hownD.moved (hm1005.castL (by kernel_rfl))
      have hwhat := hwhat.moved (hm1005.castL (by kernel_rfl))
      have hvo := hvo.moved (hm1005.castL (by kernel_rfl))
      have hws := hws.moved (hm1005.castL (by kernel_rfl))
      have hown2 := hown2.moved (hm1005.castL (by kernel_rfl))
      have hold0 := hold0.moved (hm1005.castL (by kernel_rfl))
      have hown1 := hown1.moved (hm1005.castL (by kernel_rfl))
      refine sim_fork 41 ((↑(j, near, Aw, cw, ws).fst : Int) == 0) (by kernel_rfl) (fun hq1006 => ?_) (fun hq1006 => ?_)
      have hq1006 := of_decide_eq_true hq1006
      refine sim_run 23 [⟨13, 0, LI (IntKind.i64.wrap ((↑(j, near, Aw, cw, ws).fst : Int) + 1)), LI ((↑(j, near, Aw, cw, ws).fst : Int) + 1)⟩] (hR1005.cast (by kernel_rfl)) (by kernel_rfl) ⟨eqi (IntWalk.i64_in _ (by omega)), trivial⟩ (fun ρ1007 w1007 hm1007 hR1007 => ?_)
      have hag4 := hag4.moved (hm1007.castL (by kernel_rfl))
      have hownD := hownD.moved (hm1007.castL (by kernel_rfl))
      have hwhat := hwhat.moved (hm1007.castL (by kernel_rfl))
      have hvo := hvo.moved (hm1007.castL (by kernel_rfl))
      have hws := hws.moved (hm1007.castL (by kernel_rfl))
      have hown2 := hown2.moved (hm1007.castL (by kernel_rfl))
      have hold0 := hold0.moved (hm1007.castL (by kernel_rfl))
      have hown1 := hown1.moved (hm1007.castL (by kernel_rfl))
      rotate_left
      have hq1006 := of_decide_eq_false hq1006
      refine sim_run 8 [] (hR1005.cast (by kernel_rfl)) (by kernel_rfl) trivial (fun ρ1008 w1008 hm1008 hR1008 => ?_)
      have hag4 := hag4.moved (hm1008.castL (by kernel_rfl))
      have hownD := hownD.moved (hm1008.castL (by kernel_rfl))
      have hwhat := hwhat.moved (hm1008.castL (by kernel_rfl))
      have hvo := hvo.moved (hm1008.castL (by kernel_rfl))
      have hws := hws.moved (hm1008.castL (by kernel_rfl))
      have hown2 := hown2.moved (hm1008.castL (by kernel_rfl))
      have hold0 := hold0.moved (hm1008.castL (by kernel_rfl))
      have hown1 := hown1.moved (hm1008.castL (by kernel_rfl))
      refine sim_fork 48 (decide ((↑(differ x y 0).length : Int) < (↑(j, near, Aw, cw, ws).snd.snd.snd.snd.length : Int))) (by kernel_rfl) (fun hq1009 => ?_) (fun hq1009 => ?_)
      have hq1009 := of_decide_eq_true hq1009
      refine sim_run 15 [⟨13, 0, LI (IntKind.i64.wrap ((↑(j, near, Aw, cw, ws).fst : Int) + 1)), LI ((↑(j, near, Aw, cw, ws).fst : Int) + 1)⟩] (hR1008.cast (by kernel_rfl)) (by kernel_rfl) ⟨eqi (IntWalk.i64_in _ (by omega)), trivial⟩ (fun ρ1010 w1010 hm1010 hR1010 => ?_)
      have hag4 := hag4.moved (hm1010.castL (by kernel_rfl))
      have hownD := hownD.moved (hm1010.castL (by kernel_rfl))
      have hwhat := hwhat.moved (hm1010.castL (by kernel_rfl))
      have hvo := hvo.moved (hm1010.castL (by kernel_rfl))
      have hws := hws.moved (hm1010.castL (by kernel_rfl))
      have hown2 := hown2.moved (hm1010.castL (by kernel_rfl))
      have hold0 := hold0.moved (hm1010.castL (by kernel_rfl))
      have hown1 := hown1.moved (hm1010.castL (by kernel_rfl))
      rotate_left
      have hq1009 := of_decide_eq_false hq1009
      refine sim_run 7 [⟨13, 0, LI (IntKind.i64.wrap ((↑(j, near, Aw, cw, ws).fst : Int) + 1)), LI ((↑(j, near, Aw, cw, ws).fst : Int) + 1)⟩] (hR1008.cast (by kernel_rfl)) (by kernel_rfl) ⟨eqi (IntWalk.i64_in _ (by omega)), trivial⟩ (fun ρ1011 w1011 hm1011 hR1011 => ?_)
      have hag4 := hag4.moved (hm1011.castL (by kernel_rfl))
      have hownD := hownD.moved (hm1011.castL (by kernel_rfl))
      have hwhat := hwhat.moved (hm1011.castL (by kernel_rfl))
      have hvo := hvo.moved (hm1011.castL (by kernel_rfl))
      have hws := hws.moved (hm1011.castL (by kernel_rfl))
      have hown2 := hown2.moved (hm1011.castL (by kernel_rfl))
      have hold0 := hold0.moved (hm1011.castL (by kernel_rfl))
      have hown1 := hown1.moved (hm1011.castL (by kernel_rfl))
      rotate_left
      
      all_goals rw [← insts_flat2 own] at hown1
      · refine sim_again (j + 1, y.id, _, _, differ x y 0) (by kernel_rfl) (by show own.length - (j + 1) < own.length - j; omega) (by kernel_rfl) (by kernel_rfl) (by kernel_rfl) hag4.ag (Rel.cast (by assumption) (by kernel_rfl)) (by kernel_rfl) (by kernel_rfl) ⟨hlt2, nearM_one x y own j (by omega) hy, hownD.cut hag4 (by kernel_rfl) (by kernel_rfl), hvo.cut hag4 (by kernel_rfl) (by kernel_rfl), hws.cut hag4 (by kernel_rfl) (by kernel_rfl), hown1.cut hag4 (by kernel_rfl) (by kernel_rfl), hown2.cut hag4 (by kernel_rfl) (by kernel_rfl), hold0.sz⟩
      · refine sim_again (j + 1, y.id, _, _, differ x y 0) (by kernel_rfl) (by show own.length - (j + 1) < own.length - j; omega) (by kernel_rfl) (by kernel_rfl) (by kernel_rfl) hag4.ag (Rel.cast (by assumption) (by kernel_rfl)) (by kernel_rfl) (by kernel_rfl) ⟨hlt2, by rw [nearM_step x y own j (by omega) hy, hnear]; exact if_pos (by show (differ x y 0).length < ws.length; have := (by assumption : ((differ x y 0).length : Int) < (ws.length : Int)); omega), hownD.cut hag4 (by kernel_rfl) (by kernel_rfl), hvo.cut hag4 (by kernel_rfl) (by kernel_rfl), hws.cut hag4 (by kernel_rfl) (by kernel_rfl), hown1.cut hag4 (by kernel_rfl) (by kernel_rfl), hown2.cut hag4 (by kernel_rfl) (by kernel_rfl), hold0.sz⟩
      · refine sim_again (j + 1, near, Aw, cw, ws) (by kernel_rfl) (by show own.length - (j + 1) < own.length - j; omega) (by kernel_rfl) (by kernel_rfl) (by kernel_rfl) hag4.ag (Rel.cast (by assumption) (by kernel_rfl)) (by kernel_rfl) (by kernel_rfl) ⟨hlt2, by rw [nearM_step x y own j (by omega) hy, hnear]; exact if_neg (by show ¬(differ x y 0).length < ws.length; have := (by assumption : ¬((differ x y 0).length : Int) < (ws.length : Int)); omega), hwhat.cut hag4 (by kernel_rfl) (by kernel_rfl), hvo.cut hag4 (by kernel_rfl) (by kernel_rfl), hws.cut hag4 (by kernel_rfl) (by kernel_rfl), hown1.cut hag4 (by kernel_rfl) (by kernel_rfl), hown2.cut hag4 (by kernel_rfl) (by kernel_rfl), hold0.sz⟩
    · refine sim_run 5 [] (hR9.cast (by kernel_rfl)) (by kernel_rfl) trivial (fun ρ1100 w1100 hm1100 hR1100 => ?_)
      have hwhat := hwhat.moved (hm1100.castL (by kernel_rfl))
      have hvo := hvo.moved (hm1100.castL (by kernel_rfl))
      have hws := hws.moved (hm1100.castL (by kernel_rfl))
      have hown1 := hown1.moved (hm1100.castL (by kernel_rfl))
      have hown2 := hown2.moved (hm1100.castL (by kernel_rfl))
      have hag4 := hag4.moved (hm1100.castL (by kernel_rfl))
      have hold0 := hold0.moved (hm1100.castL (by kernel_rfl))
      refine sim_know 32 (decide ((↑(j, near, Aw, cw, ws).fst : Int) < (↑own.length : Int))) false (by kernel_rfl) (decide_eq_false (by omega)) ?_
      refine sim_run 1 [] (hR1100.cast (by kernel_rfl)) (by kernel_rfl) trivial (fun ρ1101 w1101 hm1101 hR1101 => ?_)
      have hwhat := hwhat.moved (hm1101.castL (by kernel_rfl))
      have hvo := hvo.moved (hm1101.castL (by kernel_rfl))
      have hws := hws.moved (hm1101.castL (by kernel_rfl))
      have hown1 := hown1.moved (hm1101.castL (by kernel_rfl))
      have hown2 := hown2.moved (hm1101.castL (by kernel_rfl))
      have hag4 := hag4.moved (hm1101.castL (by kernel_rfl))
      have hold0 := hold0.moved (hm1101.castL (by kernel_rfl))
      refine sim_leave (by kernel_rfl) ?_
      refine sim_run 4 [] (hR1101.cast (by kernel_rfl)) (by kernel_rfl) trivial (fun ρ1102 w1102 hm1102 hR1102 => ?_)
      have hwhat := hwhat.moved (hm1102.castL (by kernel_rfl))
      have hvo := hvo.moved (hm1102.castL (by kernel_rfl))
      have hws := hws.moved (hm1102.castL (by kernel_rfl))
      have hown1 := hown1.moved (hm1102.castL (by kernel_rfl))
      have hown2 := hown2.moved (hm1102.castL (by kernel_rfl))
      have hag4 := hag4.moved (hm1102.castL (by kernel_rfl))
      have hold0 := hold0.moved (hm1102.castL (by kernel_rfl))
      
      have hjn : j = own.length := by omega
      rw [hjn, List.take_length] at hnear
      refine sim_appendO 28 vo (.slc 4 0 1 1) (by kernel_rfl) (Rel.cast (by assumption) (by kernel_rfl)) alleg_ty hvo 4 1 1 rfl (x.term.cells.map .v ++ [LI x.id, LI near, .v (.slice Aw ws.length cw)]) (by kernel_rfl) rfl (by kernel_rfl) (by unfold maxLen; omega) (by omega) (Nat.le_trans hk5 hold0.sz) (fun g hg => .inr (Nat.le_trans hs0 (hvo.own.lt g hg).1)) [] (by kernel_rfl) (by simp) (fun v' w12 hvo' hgr hR12 => ?_)
      have hws := hws.grown hgr (fun a ha g hg => own_ne (hws.own a ha).own hvo.own (by decide) g hg)
      have hwhat := hwhat.grown hgr (fun g hg => own_ne hwhat.own hvo.own (by decide) g hg)
      have hown1 := hown1.grown hgr (fun g hg => own_ne hown1.own hvo.own (by decide) g hg)
      have hown2 := hown2.grown hgr (fun g hg => own_ne hown2.own hvo.own (by decide) g hg)
      have hold0 : OldR 0 B4 _ _ w12 := ⟨hold0.lt, hold0.le, Nat.le_trans hold0.sz hgr.size⟩
      have hvo := hvo'
      clear hvo'
      refine sim_run 7 [⟨15, 0, LI (IntKind.i64.wrap ((↑(k, vo, ls).fst : Int) + 1)), LI ((↑(k, vo, ls).fst : Int) + 1)⟩] (hR12.cast (by kernel_rfl)) (by kernel_rfl) ⟨eqi (IntWalk.i64_in _ (by omega)), trivial⟩ (fun ρ1200 w1200 hm1200 hR1200 => ?_)
      have hag4 := hag4.moved (hm1200.castL (by kernel_rfl))
      have hws := hws.moved (hm1200.castL (by kernel_rfl))
      have hwhat := hwhat.moved (hm1200.castL (by kernel_rfl))
      have hown1 := hown1.moved (hm1200.castL (by kernel_rfl))
      have hown2 := hown2.moved (hm1200.castL (by kernel_rfl))
      have hold0 := hold0.moved (hm1200.castL (by kernel_rfl))
      have hvo := hvo.moved (hm1200.castL (by kernel_rfl))
      
      have hag : Ag 1 ρ700 _ _ := ⟨hag1.ag.tr (hag4.ag.mono (by omega)), Nat.le_trans (by omega) hag4.le⟩
      have hws2 : AlsO _ _ _ B0 (ls ++ [⟨x.term, x.id, near, .slice Aw ws.length cw, ws⟩]) := ⟨fun a ha => (List.mem_append.1 ha).elim (hws.own a) (fun ha => by rw [List.mem_singleton.1 ha]; exact hwhat)⟩
      refine sim_again (k + 1, v', ls ++ [⟨x.term, x.id, near, .slice Aw ws.length cw, ws⟩]) (by kernel_rfl) (by show oth.length - (k + 1) < oth.length - k; omega) (by kernel_rfl) (by kernel_rfl) (by kernel_rfl) hag.ag (Rel.cast (by assumption) (by kernel_rfl)) (by kernel_rfl) (by kernel_rfl) ⟨hlt, by show (ls ++ [_]).length = k + 1; rw [List.length_append, hal]; rfl, ?_, ?_, hws2.cut hag (by kernel_rfl) (by kernel_rfl), hown1.cut hag (by kernel_rfl) (by kernel_rfl), hown2.cut hag (by kernel_rfl) (by kernel_rfl), hold0.sz⟩
      · show (ls ++ [_]).map Al.plain = (oth.take (k + 1)).map (oneAl own)
        rw [List.map_append, hap, List.take_add_one, hx, List.map_append]
        simp only [Al.plain, oneAl, hnear, List.map_cons, List.map_nil, Option.toList]
      · show Own ρ700 [⟨[LS party], true⟩] _ B0 32 15 v' (k + 1) (als (ls ++ [_]))
        rw [als_snoc]
        exact hvo.cut hag (by kernel_rfl) (by kernel_rfl)
  · refine sim_run 5 [] (hR8.cast (by kernel_rfl)) (by kernel_rfl) trivial (fun ρ900 w900 hm900 hR900 => ?_)
    have hvo := hvo.moved (hm900.castL (by kernel_rfl))
    have hws := hws.moved (hm900.castL (by kernel_rfl))
    have hown1 := hown1.moved (hm900.castL (by kernel_rfl))
    have hown2 := hown2.moved (hm900.castL (by kernel_rfl))
    have hag1 := hag1.moved (hm900.castL (by kernel_rfl))
    refine sim_know 21 (decide ((↑(k, vo, ls).fst : Int) < (↑oth.length : Int))) false (by kernel_rfl) (decide_eq_false (by omega)) ?_
    refine sim_run 1 [] (hR900.cast (by kernel_rfl)) (by kernel_rfl) trivial (fun ρ901 w901 hm901 hR901 => ?_)
    have hvo := hvo.moved (hm901.castL (by kernel_rfl))
    have hws := hws.moved (hm901.castL (by kernel_rfl))
    have hown1 := hown1.moved (hm901.castL (by kernel_rfl))
    have hown2 := hown2.moved (hm901.castL (by kernel_rfl))
    have hag1 := hag1.moved (hm901.castL (by kernel_rfl))
    refine sim_leave (by kernel_rfl) ?_
    refine sim_run 5 [] (hR901.cast (by kernel_rfl)) (by kernel_rfl) trivial (fun ρ902 w902 hm902 hR902 => ?_)
    have hvo := hvo.moved (hm902.castL (by kernel_rfl))
    have hws := hws.moved (hm902.castL (by kernel_rfl))
    have hown1 := hown1.moved (hm902.castL (by kernel_rfl))
    have hown2 := hown2.moved (hm902.castL (by kernel_rfl))
    have hag1 := hag1.moved (hm902.castL (by kernel_rfl))
    refine sim_ret (.v ((k, vo, ls).snd.fst)) hR902 (by kernel_rfl) (by kernel_rfl) ?_
    
    have hkn : k = oth.length := by omega
    rw [hkn, List.take_length] at hap
    rw [← hal] at hvo
    exact allegsN_of hvo.own hap (fun a ha => (hws.own a ha).own) hs0 (by assumption : Rel _ _ _ _ _).toBelow
end Go.Proofs.Ytnojkclgjinjhaa
