/-
  alleg: byId, pick.
-/
import Derived.Test.YtnojkclgjinjhaaSortH
import Derived.Test.YtnojkclgjinjhaaMatchD
import Derived.Test.YtnojkclgjinjhaaMapAB
namespace Go.Proofs.Ytnojkclgjinjhaa
open Go Go.RowKit
attribute [local irreducible] run goO leaveK someK nextK nextT nextOT nextOD loopBody loopRest loopK fillJ tmplOf tmplJ mergeT At AtO drawOk ordOf gateOf callC callO topOp topO idxOf appOf storeOf clearOf sliceOf calleeOf calleeO topQ idxQ newRowOf resL stepOp seek

def cmpId (x y : In) : Int := cmpZ x.id y.id
theorem ltId (x y : In) : ltC cmpId x y = decide (x.id < y.id) := by
  unfold ltC cmpId cmpZ
  by_cases h1 : x.id < y.id
  · simp [h1]
  · by_cases h2 : y.id < x.id <;> simp [h1, h2]
theorem weakId : Weak (ltC cmpId) := ⟨fun a b h => by rw [ltId] at *; simp at *; omega, fun a b c h1 h2 => by rw [ltId] at *; simp at *; omega⟩
theorem byId1_enters : Enters Try.prog 72 := ⟨_, Try.func72, by kernel_rfl, by kernel_rfl⟩
set_option maxRecDepth 100000 in
theorem byId1_any : CmpAll 72 #[] cmpId := by
  intro x y w hx hy
  refine sim_enter Try.func72 ρ0 [.agg (x.cells.map .v), .agg (y.cells.map .v)] [] (by kernel_rfl) rfl ?_
  have hR := Rel.start [] w ρ0
  refine sim_run 12 [] (hR.cast (by kernel_rfl)) (by kernel_rfl) trivial (fun ρ100 w100 hm100 hR100 => ?_)
  refine sim_call 34 [LI x.id, LI y.id] (by kernel_rfl) ?_
  refine Calls.mono (compare_any _ _ _) ?_
  rintro e101 w101 ⟨rfl, hb101⟩
  have hR101 := hR100.below hb101
  refine Back.of (LI (cmpZ x.id y.id)) hR101 rfl ?_
  refine sim_run 2 [] (hR101.cast (by kernel_rfl)) (by kernel_rfl) trivial (fun ρ102 w102 hm102 hR102 => ?_)
  refine sim_ret (LI (cmpZ x.id y.id)) hR102 (by kernel_rfl) (by kernel_rfl) ?_
  exact ⟨rfl, hR102.toBelow⟩
  
set_option maxRecDepth 100000 in
theorem byId_any (A : Option Addr) (n cp base : Nat) (xs : List In) (w : World) (h : w.ownsRow base 27 21 (.slice A n cp) n (insts xs)) (hok : ∀ x ∈ xs, x.ok) (hn : n ≤ 1000000) :
    Calls Try.prog 44 #[.slice A n cp] w (SrtN base w A cp (ssort (ltC cmpId) xs)) := by
  refine sim_enter Try.func44 ρ0 [.v (.slice A n cp)] [] (by kernel_rfl) rfl ?_
  have hR := Rel.start (tA A) w ρ0
  have hown : Own ρ0 [] w base 27 21 (.slice A n cp) n (insts xs) := ⟨h, fun g _ hw => by obtain ⟨m, r, hm, _⟩ := hw; simp at hm⟩
  refine sim_run 2 [] (hR.cast (by kernel_rfl)) (by kernel_rfl) trivial (fun ρ200 w200 hm200 hR200 => ?_)
  have hown := hown.moved (hm200.castL (by kernel_rfl))
  refine sim_call 32 [.v (Value.slice A n cp), .v (Value.func (Fn.func 72) (Array.mk []) (Array.mk []))] (by kernel_rfl) ?_
  refine Calls.mono (sortStable_any _ (byId1_enters) _ _ (byId1_any) (weakId) _ _ _ (base) (xs) _ (hown.own) (hok) (hn)) ?_
  rintro e201 w201 ⟨rfl, hown201, hk201⟩
  have hR201 := hR200.kept hk201 (fun n r hn => (noReg (by kernel_rfl) hn).elim) (fun x hx => .inl (tA_of hx))
  have hown := Own.bare hR201 hown201 (by kernel_rfl)
  refine Back.of (.tup []) hR201 rfl ?_
  refine sim_run 1 [] (hR201.cast (by kernel_rfl)) (by kernel_rfl) trivial (fun ρ202 w202 hm202 hR202 => ?_)
  have hown := hown.moved (hm202.castL (by kernel_rfl))
  refine sim_end (.tup []) hR202 (by kernel_rfl) (by kernel_rfl) ?_
  
  exact ⟨rfl, hown.own, (by assumption : Rel _ _ _ _ _).keeps.kept.mono (fun x hx => .inl (tA_is hx))⟩
def PickB (p : In → Bool) (x : In) : Bool := (x.state != 0) || !p x
theorem pick1_enters : Enters Try.prog 43 := ⟨_, Try.func43, by kernel_rfl, by kernel_rfl⟩
set_option maxRecDepth 100000 in
theorem pick1_any (f : FuncId) (hf : Enters Try.prog f) (caps : Array Value) (p : In → Bool) (B : Nat) (w : World) (hB : B ≤ w.heap.size) (hp : PredOk B w f caps p) (g o : Nat) (hg : g < B) (hc : w.cell? ⟨g, o, none⟩ = some (.func (.func f) #[] caps)) : PredOk B w 43 #[.pointer (some ⟨g, o + 0, none⟩)] (PickB p) := by
  intro x w1 hx hb
  have hc1 : w1.cell? ⟨g, o + 0, none⟩ = some (.func (.func f) #[] caps) := (hb.cell (p := ⟨g, o, none⟩) hg).trans hc
  have hB1 := hb.size
  obtain ⟨ρ, _, hn0, hR⟩ := (Rel.start [] w1 ρ0).open_ rfl g o [.v (.func (.func f) #[] caps)] rfl false (World.block_lt_of_cell? _ _ hc1) (fun j v hv => by
    match j, hv with
    | 0, hv => injection hv with hv; rw [← hv]; exact hc1) (fun h => by cases h) (fun n r hn => by simp at hn)
  have e0 : ρ 0 = (g, o) := hn0
  refine sim_enter Try.func43 ρ [.agg (x.cells.map .v), .ptr 0 0] [⟨[.v (.func (.func f) #[] caps)], false⟩] (by kernel_rfl) (by simp only [denL, LV.den, Nm.at_, e0]; rfl) ?_
  have hR := hR.cast rfl
  refine sim_run 11 [] (hR.cast (by kernel_rfl)) (by kernel_rfl) trivial (fun ρ300 w300 hm300 hR300 => ?_)
  refine sim_fork 7 (x.state != 0) (by kernel_rfl) (fun hq301 => ?_) (fun hq301 => ?_)
  have hq301 := nb_t hq301
  have hq301 := of_decide_eq_false hq301
  refine sim_run 7 [] (hR300.cast (by kernel_rfl)) (by kernel_rfl) trivial (fun ρ302 w302 hm302 hR302 => ?_)
  refine sim_ret (LB true) hR302 (by kernel_rfl) (by kernel_rfl) ?_
  rotate_left
  have hq301 := nb_f hq301
  have hq301 := of_decide_eq_true hq301
  refine sim_run 2 [] (hR300.cast (by kernel_rfl)) (by kernel_rfl) trivial (fun ρ303 w303 hm303 hR303 => ?_)
  refine sim_callF f caps (.v (Value.func (Fn.func f) (Array.mk []) caps)) [.agg [LI x.id, LS x.term.party, LS x.term.account, LS x.term.money, LS x.term.other, LB x.term.deliver, LS x.term.asset, LS x.term.ccy, LS x.term.ref, LI x.term.qty, LI x.term.amount, LI x.term.day, LI x.term.trade, LI x.prio, LB x.part, LB x.held, LB x.wish, LI x.state, LI x.mate, LI x.done, LI x.paid]] (by kernel_rfl) rfl hf (Calls.mono (hp x _ hx (hb.trans (below_mono hR303.toBelow (by omega)))) ?_)
  rintro e304 w304 ⟨rfl, hb304⟩
  have hR304 := hR303.below hb304
  refine Back.of (LB (p x)) hR304 rfl ?_
  refine sim_run 4 [] (hR304.cast (by kernel_rfl)) (by kernel_rfl) trivial (fun ρ305 w305 hm305 hR305 => ?_)
  refine sim_ret (LB (!p x)) hR305 (by kernel_rfl) (by kernel_rfl) ?_
  rotate_left
  
  · rw [show PickB p x = true from by simp only [PickB, (bne_iff_ne.2 (by assumption : ¬x.state = 0) : (x.state != 0) = true), Bool.true_or]]
    exact ⟨rfl, (by assumption : Rel _ _ _ _ _).toBelow⟩
  · rw [show PickB p x = !p x from by simp only [PickB, (by assumption : x.state = 0)]; rfl]
    exact ⟨rfl, (by assumption : Rel _ _ _ _ _).toBelow⟩
theorem InstsN.of_own {w0 w' : World} {base : Nat} {A : Option Addr} {n cp : Nat} {xs : List In} (h : w'.ownsRow base 27 21 (.slice A n cp) n (insts xs)) (hn : xs.length = n) (hb : w0.heap.size ≤ base) (hw : Below w0.heap.size w0 w') : InstsN w0 xs (.returned (.slice A n cp)) w' := by
  subst hn
  exact instsN_of h hb hw
set_option maxRecDepth 100000 in
theorem pick_any (f : FuncId) (hf : Enters Try.prog f) (caps : Array Value) (p : In → Bool) (A : Option Addr) (n cp B : Nat) (l : List In) (w : World) (hp : PredOk w.heap.size w f caps p) (h : Reads w B 21 A n (insts l)) (hB : B ≤ w.heap.size) (hok : ∀ x ∈ l, x.ok) (hn : n ≤ 100000) (hA : A = none → n = 0 ∧ cp = 0) :
    Calls Try.prog 16 #[.slice A n cp, .func (.func f) #[] caps] w (InstsN w (ssort (ltC cmpId) (l.filter (fun x => !PickB p x)))) := by
  have hl := h.insts_len
  refine sim_enter Try.func16 ρ0 [.v (.slice A n cp), .v (.func (.func f) #[] caps)] [] (by kernel_rfl) rfl ?_
  have hR := Rel.start [] w ρ0
  refine sim_run 8 [] (hR.cast (by kernel_rfl)) (by kernel_rfl) trivial (fun ρ400 w400 hm400 hR400 => ?_)
  
  have hb4 : Below w.heap.size w w400 := hR400.toBelow
  have hbox := hR400.at_cell 0 0 (.v (.func (.func f) #[] caps)) (by kernel_rfl)
  have hold := hR400.old 1 (by kernel_rfl)
  have hs4 := hb4.size
  refine sim_call 31 [.v (.slice A n cp)] (by kernel_rfl) ?_
  refine (clone_any A n cp B l _ (h.belowN hb4 hB) (by omega) hn hA).mono ?_
  rintro e w5 ⟨A', cap, rfl, hown, hb5⟩
  have hR5 := hR400.below hb5
  have hold := hold.below hb5
  have hown := Own.of_old hown hold (by kernel_rfl) (Nat.le_refl _)
  refine Back.of (.v (.slice A' l.length cap)) hR5 rfl ?_
  refine sim_run 1 [] (hR5.cast (by kernel_rfl)) (by kernel_rfl) trivial (fun ρ600 w600 hm600 hR600 => ?_)
  have hold := hold.moved (hm600.castL (by kernel_rfl))
  have hown := hown.moved (hm600.castL (by kernel_rfl))
  
  refine sim_call 37 [.v (.slice A' l.length cap), .fnv (.func 43) [] [.ptr 0 0]] (by kernel_rfl) ?_
  have hp5 : PredOk w400.heap.size w600 f caps p := fun x w1 hx hb => hp x w1 hx (hR600.toBelow.trans (below_mono hb hs4))
  have hbox := hR600.at_cell 0 0 (.v (.func (.func f) #[] caps)) (by kernel_rfl)
  refine (delete_any 43 pick1_enters #[.pointer (some ⟨(ρ600 0).1, (ρ600 0).2 + 0, none⟩)] (PickB p) A' l.length cap w400.heap.size l w600 hown.own hok (by omega) (pick1_any f hf caps p _ w600 hold.sz hp5 _ _ (hold.lt 0 (by omega)) hbox) hold.sz).mono ?_
  rintro e w7 ⟨rfl, hown7, hk7⟩
  have hR7 := hR600.keptOwn hown.own hold (by kernel_rfl) (Nat.le_refl _) hs4 hk7
  have hold := hold.kept hk7
  generalize hys : (l.filter fun y => !PickB p y) = ys at hown7
  have hyok : ∀ y ∈ ys, y.ok := fun y hy => hok y (by rw [← hys] at hy; exact (List.mem_filter.1 hy).1)
  have hylen : ys.length ≤ n := by rw [← hys, ← hl]; exact List.length_filter_le _ _
  have hown := Own.of_old hown7 hold (by kernel_rfl) (Nat.le_refl _)
  refine Back.of (.v (.slice A' ys.length cap)) hR7 rfl ?_
  refine sim_run 5 [] (hR7.cast (by kernel_rfl)) (by kernel_rfl) trivial (fun ρ800 w800 hm800 hR800 => ?_)
  have hold := hold.moved (hm800.castL (by kernel_rfl))
  have hown := hown.moved (hm800.castL (by kernel_rfl))
  
  refine sim_call 44 [.v (.slice A' ys.length cap)] (by kernel_rfl) ?_
  refine (byId_any A' ys.length cap w400.heap.size ys _ hown.own hyok (by omega)).mono ?_
  rintro e w9 ⟨rfl, hown9, hk9⟩
  have hR9 := hR800.keptOwn hown.own hold (by kernel_rfl) (Nat.le_refl _) hs4 hk9
  have hold := hold.kept hk9
  rw [ssort_len] at hown9
  have hown := Own.of_old hown9 hold (by kernel_rfl) (Nat.le_refl _)
  refine Back.of (.tup []) hR9 rfl ?_
  refine sim_run 6 [] (hR9.cast (by kernel_rfl)) (by kernel_rfl) trivial (fun ρ1000 w1000 hm1000 hR1000 => ?_)
  have hold := hold.moved (hm1000.castL (by kernel_rfl))
  have hown := hown.moved (hm1000.castL (by kernel_rfl))
  refine sim_ret (.v (Value.slice A' ys.length cap)) hR1000 (by kernel_rfl) (by kernel_rfl) ?_
  
  exact InstsN.of_own hown.own (ssort_len _) hs4 (by assumption : Rel _ _ _ _ _).toBelow
end Go.Proofs.Ytnojkclgjinjhaa
