/-
  BookMates: the list of a book is told and looked through.
-/
import Derived.Test.YtodjhkmbgennaaaBookU
import Derived.Test.YtodjhkmbgennaaaBookM
namespace Go.Proofs.Ytodjhkmbgennaaa
open Go Go.RowKit
attribute [local irreducible] run goO goN ordGoN eqlOf eqlOper eqlOfO cellL leaveK someK nextK nextT nextOT nextOD loopBody loopRest loopK fillJ tmplOf tmplJ mergeT At AtO drawOk ordOf gateOf callC callO topOp topO idxOf appOf storeOf clearOf sliceOf calleeOf calleeO topQ idxQ newRowOf resL stepOp seek

theorem BkV.farOld {w w0 : World} {B N g n : Nat} {A : Option Addr} {v : Value} {xs : List In} {zs : List Value} (h : BkV w B g v xs) (hr : Reads w0 N 1 A n zs) (hN : N ≤ B) : 0 < n → ∀ a, A = some a → v.ownBlock ≠ some a.block := by
  intro hn a ha hv
  obtain ⟨g', o, e, hg, _⟩ := hr.spot hn (by omega)
  rw [e] at ha
  injection ha with ha
  have := own_ge h.row hv
  rw [← ha] at this
  have this : B ≤ g' := this
  omega
theorem light_all {os : List OpR} (h : lightB os = true) : os.length ≤ 200 ∧ ∀ u ∈ os, lightO u = true := by
  unfold lightB at h
  rw [Bool.and_eq_true] at h
  have h1 := of_decide_eq_true h.2
  refine ⟨by omega, ?_⟩
  have h2 := h.1
  rw [List.take_of_length_le (by omega)] at h2
  exact List.all_eq_true.1 h2
theorem Inv.qty64 {xs : List In} (h : Inv xs) (id : Int) : Is64 (atI xs id).term.qty := by
  unfold atI
  rw [List.getD_eq_getElem?_getD]
  cases e : xs[(id - 1).toNat]? with
  | none => exact ⟨by decide, by decide⟩
  | some x =>
    obtain ⟨hk, _⟩ := List.getElem?_eq_some_iff.1 e
    have hin : ¬outB xs (((id - 1).toNat : Int) + 1) := by unfold outB; omega
    have ex : atI xs (((id - 1).toNat : Int) + 1) = x := atI_of (by rw [show (((id - 1).toNat : Int) + 1 - 1).toNat = (id - 1).toNat by omega]; exact e)
    have l := (h.good _ hin).lone
    rw [ex] at l
    have := l.q0
    have := l.q1
    show Is64 x.term.qty
    unfold Is64
    omega
theorem look_bad {s d q m p a : Int} (l7 : s ≤ 5) (l8 : 0 ≤ s) (l5 : m ≠ 0 → 1 ≤ s ∧ p ≤ a ∧ (s = 3 → d = q) ∧ (s ≤ 2 → d < q ∨ q = 0)) (h1 : ¬m = 0) (h2 : ¬(s == 3) = bif true then d == q else false) (h3 : q > 0) (h4 : ¬s = 4) (h5 : ¬s = 5) : False := by
  have h2 : ¬(s == 3) = (d == q) := h2
  by_cases e3 : s = 3
  · have e4 : d = q := by omega
    exact h2 (by rw [e3, e4]; simp)
  · have e4 : d ≠ q := by omega
    exact h2 (by rw [beq_eq_false_iff_ne.2 e3, beq_eq_false_iff_ne.2 e4])
theorem look_bad2 {s d p : Int} (l4 : d = 0 ∧ p = 0 ∧ (s = 0 ∨ s = 4 ∨ s = 5)) (h2 : ¬(s == 3) = false) : False := by
  simp at h2
  omega
theorem own_slice {w : World} {base size n : Nat} {e : TypeId} {u : Value} {xs : List Value} (h : w.ownsRow base e size u n xs) : ∃ A cap, u = .slice A n cap := by
  rcases h.2 with ⟨rfl, rfl⟩ | ⟨g, cap, cur, rfl, _⟩
  · exact ⟨none, 0, rfl⟩
  · exact ⟨_, cap, rfl⟩
theorem light_o {u : OpR} (h : lightO u = true) : (u.l.n : Int) ≤ 60 ∧ u.c ≤ 36028797018963968 ∧ u.t.qty ≤ 36028797018963968 ∧ u.t.amount ≤ 36028797018963968 := by
  simp [lightO, within] at h
  omega
set_option maxRecDepth 100000 in
set_option maxHeartbeats 4000000 in
theorem mates_look {Q : Exit → Act → World → Prop} {R : Ending → World → Prop} [hB : Body Try.prog Q Try.f8 R] (w w3 : World) (ρ3 : Nm) (d3 : Nat → Value) (SL v' : Value) (g B k : Nat) (ys : List In) (hR3 : Rel [] w ρ3 [] w3) (hbk : BkO ρ3 [] w3 B g v' ys) (hys : Inv ys) (hk : k < 1000000)
    (hfin : ∀ (c' : Cfg) (ρ' : Nm) (w' : World), c'.k = [] → mergeT (tmplJ Try.f8.ntmps 0 [(0, .v SL), (2, LB false), (3, .v (.pointer (some ⟨g, 0, none⟩))), (4, LI ((k : Int) + 1))]) c'.tmps = c'.tmps → (tmplJ Try.f8.ntmps 0 [(0, .v SL), (2, LB false), (3, .v (.pointer (some ⟨g, 0, none⟩))), (4, LI ((k : Int) + 1))]).length = c'.tmps.length → Rel [] w ρ' [] w' → BkO ρ' [] w' B g v' ys → At Try.prog Q c' ρ' w') :
    At Try.prog Q ⟨regK Try.f8 27, fillJ (tmplJ Try.f8.ntmps 0 [(0, .v SL), (2, LB false), (3, .v (.pointer (some ⟨g, 0, none⟩))), (4, LI k)]) d3 0, []⟩ ρ3 w3 := by
  have hfew := hys.few
  refine sim_run 1 [] hR3 (by kernel_rfl) trivial (fun ρ200 w200 hm200 hR200 => ?_)
  have hbk := hbk.moved hm200
  refine sim_call 34 [.v (Value.pointer (some (Addr.mk g 0 none))), .v (Value.slice none 0 0)] (by kernel_rfl) ?_
  refine Calls.mono (list_bk _ _ _ _ _ hbk.bk (by omega)) ?_
  rintro e201 w201 ⟨u201, rfl, hown201, hb201⟩
  have hown := Own.start hR200 hown201
  have hR201 := hR200.below hb201
  have hbk := hbk.below hb201
  obtain ⟨A2, cap2, rfl⟩ := own_slice hown201
  refine Back.of (.v (.slice A2 ys.length cap2)) hR201 rfl ?_
  refine sim_run 7 [] hR201 (by kernel_rfl) trivial (fun ρ202 w202 hm202 hR202 => ?_)
  have hbk := hbk.moved hm202
  have hown := hown.moved hm202
  
  refine sim_loop (ι := Nat) (T := []) (w0 := w) 0 [0, 2, 3, 4, 6] (fun j => [(7, LI j)]) (fun _ => []) (fun j w1 => j ≤ ys.length ∧ BkO ρ202 [] w1 B g v' ys ∧ Own ρ202 [] w1 w200.heap.size 25 21 (.slice A2 ys.length cap2) ys.length (insts ys)) (fun j => ys.length - j) (by kernel_rfl) (by kernel_rfl) (hR202.cast (by kernel_rfl)) ⟨Nat.zero_le _, hbk.castR (by kernel_rfl), hown.castR (by kernel_rfl)⟩ ?_
  iterate 12 (try clear hbk)
  iterate 12 (try clear hown)
  skip
  rintro j d4 w4 hR4 ⟨hj, hbk, hown⟩
  by_cases hlt2 : j < ys.length
  · have hin : ¬outB ys ((j : Int) + 1) := by unfold outB; omega
    obtain ⟨x, hxj⟩ : ∃ x, ys[j]? = some x := ⟨_, List.getElem?_eq_getElem hlt2⟩
    have ex : atI ys ((j : Int) + 1) = x := atI_of (by rw [show ((j : Int) + 1 - 1).toNat = j by omega]; exact hxj)
    have G := hys.good _ hin
    have l := G.lone
    have P2 := G.pair
    rw [ex] at l P2
    obtain ⟨y, hy⟩ : ∃ y, atI ys x.mate = y := ⟨_, rfl⟩
    rw [hy] at P2
    have hget : x.mate ≠ 0 → getM ys x.mate = (y, 0) := fun hz => by rw [get_atI (P2 hz).1, hy]
    have hm64 : Is64 x.mate := by have := hys.okL.at_ ((j : Int) + 1); rw [ex] at this; exact this
    have hh : x.mate ≠ 0 → y.mate = x.id ∧ y.state = x.state ∧ y.done = x.done ∧ y.paid = x.paid ∧ y.term.amount = x.term.amount := fun hz => by
      have p := (P2 hz).2.2
      exact ⟨by rw [p.ym, l.idd], p.st, p.dn, p.pd, p.am⟩
    have hdl : x.mate ≠ 0 → (y.term.deliver == x.term.deliver) = false := fun hz => by
      have p := (P2 hz).2.2.dl
      simpa using p
    have l1 := l.d0
    have l2 := l.d1
    have l3 := l.p0
    have l4 := l.free
    have l5 := l.tied
    have l6 := l.q0
    have l7 := l.s5
    have l8 := l.s0
    have hxc : (ys.map In.cells)[j]? = some x.cells := by rw [List.getElem?_map, hxj]; rfl
    obtain ⟨g2, o2, rfl, _, _⟩ := (Reads.of_own hown.own).spot (by omega) (by omega)
    rw [insts_flat] at hown
    refine sim_meet (T := []) (w0 := w) (ι := Unit) (regK Try.f8 34) (fun _ => tmplJ Try.f8.ntmps 0 [(0, .v SL), (2, LB false), (3, .v (.pointer (some ⟨g, 0, none⟩))), (4, LI k), (6, .v (.slice (some ⟨g2, o2, none⟩) ys.length cap2)), (7, LI j), (8, .ptr 1 0)]) [⟨x.cells.map .v, false⟩, ⟨x.cells.map .v, true⟩] (fun _ ρ' w' => BkO ρ' [⟨x.cells.map .v, false⟩, ⟨x.cells.map .v, true⟩] w' B g v' ys ∧ Own ρ' [⟨x.cells.map .v, false⟩, ⟨x.cells.map .v, true⟩] w' w200.heap.size 25 21 (.slice (some ⟨g2, o2, none⟩) ys.length cap2) ys.length (ys.map In.cells).flatten) ?_ (fun hmeet2 => ?_)
    rotate_left
    · refine sim_run 8 [] hR4 (by kernel_rfl) trivial (fun ρ300 w300 hm300 hR300 => ?_)
      have hbk := hbk.moved hm300
      have hown := hown.moved hm300
      refine sim_know 110 (decide ((↑j : Int) < (↑ys.length : Int))) true (by kernel_rfl) (decide_eq_true (by omega)) ?_
      refine sim_run 8 [] hR300 (by kernel_rfl) trivial (fun ρ301 w301 hm301 hR301 => ?_)
      have hbk := hbk.moved hm301
      have hown := hown.moved hm301
      refine sim_elemO x.cells cap2 j 0 (by kernel_rfl) (by kernel_rfl) hxc hown (in_len ys) (by omega) hlt2 hR301 (by kernel_rfl) (fun ρ302 hm302 hR302 => ?_)
      have hbk := hbk.moved hm302
      have hown := hown.moved hm302
      refine sim_run 11 [] hR302 (by kernel_rfl) trivial (fun ρ303 w303 hm303 hR303 => ?_)
      have hbk := hbk.moved hm303
      have hown := hown.moved hm303
      refine sim_know 120 (decide (x.done < 0)) false (by kernel_rfl) (decide_eq_false (by omega)) ?_
      refine sim_run 8 [] hR303 (by kernel_rfl) trivial (fun ρ304 w304 hm304 hR304 => ?_)
      have hbk := hbk.moved hm304
      have hown := hown.moved hm304
      refine sim_know 128 (decide (x.done > x.term.qty)) false (by kernel_rfl) (decide_eq_false (by omega)) ?_
      refine sim_run 5 [] hR304 (by kernel_rfl) trivial (fun ρ305 w305 hm305 hR305 => ?_)
      have hbk := hbk.moved hm305
      have hown := hown.moved hm305
      refine sim_know 133 (decide (x.paid < 0)) false (by kernel_rfl) (decide_eq_false (by omega)) ?_
      refine sim_run 4 [] hR305 (by kernel_rfl) trivial (fun ρ306 w306 hm306 hR306 => ?_)
      have hbk := hbk.moved hm306
      have hown := hown.moved hm306
      refine sim_fork 137 (x.mate != 0) (by kernel_rfl) (fun hq307 => ?_) (fun hq307 => ?_)
      have hq307 := nb_t hq307
      have hq307 := of_decide_eq_false hq307
      refine sim_run 9 [] hR306 (by kernel_rfl) trivial (fun ρ308 w308 hm308 hR308 => ?_)
      have hbk := hbk.moved hm308
      have hown := hown.moved hm308
      refine sim_know 146 (decide (x.paid > x.term.amount)) false (by kernel_rfl) (decide_eq_false (by omega)) ?_
      refine sim_run 7 [] hR308 (by kernel_rfl) trivial (fun ρ309 w309 hm309 hR309 => ?_)
      have hbk := hbk.moved hm309
      have hown := hown.moved hm309
      refine sim_know 153 (x.mate != 0) true (by kernel_rfl) (by assumption) ?_
      refine sim_run 9 [] hR309 (by kernel_rfl) trivial (fun ρ310 w310 hm310 hR310 => ?_)
      have hbk := hbk.moved hm310
      have hown := hown.moved hm310
      refine sim_fork 162 (!(x.state == 3) == bif true then x.done == x.term.qty else false) (by kernel_rfl) (fun hq311 => ?_) (fun hq311 => ?_)
      have hq311 := nb_t hq311
      have hq311 := of_decide_eq_false hq311
      refine sim_run 6 [] hR310 (by kernel_rfl) trivial (fun ρ312 w312 hm312 hR312 => ?_)
      have hbk := hbk.moved hm312
      have hown := hown.moved hm312
      refine sim_fork 168 (decide (x.term.qty > 0)) (by kernel_rfl) (fun hq313 => ?_) (fun hq313 => ?_)
      have hq313 := of_decide_eq_true hq313
      refine sim_run 5 [] hR312 (by kernel_rfl) trivial (fun ρ314 w314 hm314 hR314 => ?_)
      have hbk := hbk.moved hm314
      have hown := hown.moved hm314
      refine sim_fork 173 (x.state != 4) (by kernel_rfl) (fun hq315 => ?_) (fun hq315 => ?_)
      have hq315 := nb_t hq315
      have hq315 := of_decide_eq_false hq315
      refine sim_run 6 [] hR314 (by kernel_rfl) trivial (fun ρ316 w316 hm316 hR316 => ?_)
      have hbk := hbk.moved hm316
      have hown := hown.moved hm316
      refine sim_fork 178 (x.state != 5) (by kernel_rfl) (fun hq317 => ?_) (fun hq317 => ?_)
      have hq317 := nb_t hq317
      have hq317 := of_decide_eq_false hq317
      refine sim_run 5 [] hR316 (by kernel_rfl) trivial (fun ρ318 w318 hm318 hR318 => ?_)
      have hbk := hbk.moved hm318
      have hown := hown.moved hm318
      rotate_left
      have hq317 := nb_f hq317
      have hq317 := of_decide_eq_true hq317
      refine sim_run 5 [] hR316 (by kernel_rfl) trivial (fun ρ319 w319 hm319 hR319 => ?_)
      have hbk := hbk.moved hm319
      have hown := hown.moved hm319
      rotate_left
      have hq315 := nb_f hq315
      have hq315 := of_decide_eq_true hq315
      refine sim_run 11 [] hR314 (by kernel_rfl) trivial (fun ρ320 w320 hm320 hR320 => ?_)
      have hbk := hbk.moved hm320
      have hown := hown.moved hm320
      rotate_left
      have hq313 := of_decide_eq_false hq313
      refine sim_run 16 [] hR312 (by kernel_rfl) trivial (fun ρ321 w321 hm321 hR321 => ?_)
      have hbk := hbk.moved hm321
      have hown := hown.moved hm321
      rotate_left
      have hq311 := nb_f hq311
      have hq311 := of_decide_eq_true hq311
      refine sim_run 22 [] hR310 (by kernel_rfl) trivial (fun ρ322 w322 hm322 hR322 => ?_)
      have hbk := hbk.moved hm322
      have hown := hown.moved hm322
      rotate_left
      have hq307 := nb_f hq307
      have hq307 := of_decide_eq_true hq307
      refine sim_run 16 [] hR306 (by kernel_rfl) trivial (fun ρ323 w323 hm323 hR323 => ?_)
      have hbk := hbk.moved hm323
      have hown := hown.moved hm323
      refine sim_know 153 (x.mate != 0) false (by kernel_rfl) (by assumption) ?_
      refine sim_run 9 [] hR323 (by kernel_rfl) trivial (fun ρ324 w324 hm324 hR324 => ?_)
      have hbk := hbk.moved hm324
      have hown := hown.moved hm324
      refine sim_fork 162 (!(x.state == 3) == false) (by kernel_rfl) (fun hq325 => ?_) (fun hq325 => ?_)
      have hq325 := nb_t hq325
      have hq325 := of_decide_eq_false hq325
      refine sim_run 6 [] hR324 (by kernel_rfl) trivial (fun ρ326 w326 hm326 hR326 => ?_)
      have hbk := hbk.moved hm326
      have hown := hown.moved hm326
      refine sim_fork 168 (decide (x.term.qty > 0)) (by kernel_rfl) (fun hq327 => ?_) (fun hq327 => ?_)
      have hq327 := of_decide_eq_true hq327
      refine sim_run 5 [] hR326 (by kernel_rfl) trivial (fun ρ328 w328 hm328 hR328 => ?_)
      have hbk := hbk.moved hm328
      have hown := hown.moved hm328
      refine sim_fork 173 (x.state != 4) (by kernel_rfl) (fun hq329 => ?_) (fun hq329 => ?_)
      have hq329 := nb_t hq329
      have hq329 := of_decide_eq_false hq329
      refine sim_run 6 [] hR328 (by kernel_rfl) trivial (fun ρ330 w330 hm330 hR330 => ?_)
      have hbk := hbk.moved hm330
      have hown := hown.moved hm330
      refine sim_fork 178 (x.state != 5) (by kernel_rfl) (fun hq331 => ?_) (fun hq331 => ?_)
      have hq331 := nb_t hq331
      have hq331 := of_decide_eq_false hq331
      refine sim_run 5 [] hR330 (by kernel_rfl) trivial (fun ρ332 w332 hm332 hR332 => ?_)
      have hbk := hbk.moved hm332
      have hown := hown.moved hm332
      rotate_left
      have hq331 := nb_f hq331
      have hq331 := of_decide_eq_true hq331
      refine sim_run 5 [] hR330 (by kernel_rfl) trivial (fun ρ333 w333 hm333 hR333 => ?_)
      have hbk := hbk.moved hm333
      have hown := hown.moved hm333
      rotate_left
      have hq329 := nb_f hq329
      have hq329 := of_decide_eq_true hq329
      refine sim_run 11 [] hR328 (by kernel_rfl) trivial (fun ρ334 w334 hm334 hR334 => ?_)
      have hbk := hbk.moved hm334
      have hown := hown.moved hm334
      rotate_left
      have hq327 := of_decide_eq_false hq327
      refine sim_run 16 [] hR326 (by kernel_rfl) trivial (fun ρ335 w335 hm335 hR335 => ?_)
      have hbk := hbk.moved hm335
      have hown := hown.moved hm335
      rotate_left
      have hq325 := nb_f hq325
      have hq325 := of_decide_eq_true hq325
      have hq325 := of_decide_eq_false hq325
      refine sim_run 22 [] hR324 (by kernel_rfl) trivial (fun ρ336 w336 hm336 hR336 => ?_)
      have hbk := hbk.moved hm336
      have hown := hown.moved hm336
      rotate_left
      
      all_goals first
        | exact (look_bad l7 l8 l5 hq307 hq311 hq313 hq315 hq317).elim
        | exact (look_bad2 (l4 hq307) hq325).elim
        | exact hmeet2 _ () _ _ (by kernel_rfl) (by kernel_rfl) (by kernel_rfl) (Rel.cast ‹_› (by kernel_rfl)) ⟨BkO.castR ‹_› (by kernel_rfl), Own.castR ‹_› (by kernel_rfl)⟩
    · iterate 12 (try clear hbk)
      iterate 12 (try clear hown)
      clear hR4
      rintro ⟨⟩ ρ5 w5 d5 hR5 ⟨hbk, hown⟩
      by_cases hz : x.mate = 0
      · refine sim_run 4 [] hR5 (by kernel_rfl) trivial (fun ρ400 w400 hm400 hR400 => ?_)
        have hbk := hbk.moved hm400
        have hown := hown.moved hm400
        refine sim_know 181 (x.mate == 0) true (by kernel_rfl) (decide_eq_true (by omega)) ?_
        refine sim_run 7 [⟨30, 1, LI (IntKind.i64.wrap ((↑j : Int) + 1)), LI ((↑j : Int) + 1)⟩] hR400 (by kernel_rfl) ⟨eqi (IntWalk.i64_in _ (by omega)), trivial⟩ (fun ρ401 w401 hm401 hR401 => ?_)
        have hbk := hbk.moved hm401
        have hown := hown.moved hm401
        
        refine sim_again (j + 1) (by kernel_rfl) (by show ys.length - (j + 1) < ys.length - j; omega) (by kernel_rfl) (by kernel_rfl) (by kernel_rfl) (fun m hm => by simp at hm) ‹_› (by kernel_rfl) (by kernel_rfl) ⟨hlt2, hbk.cut (N := 0) ⟨fun j hj => absurd hj (Nat.not_lt_zero j), Nat.zero_le _⟩ rfl (by kernel_rfl), ?_⟩
        have hown0 := hown.cut (rs := []) (ρ := ρ202) (N := 0) ⟨fun j hj => absurd hj (Nat.not_lt_zero j), Nat.zero_le _⟩ rfl (by kernel_rfl)
        rw [← insts_flat] at hown0
        exact hown0
      · refine sim_run 4 [] hR5 (by kernel_rfl) trivial (fun ρ600 w600 hm600 hR600 => ?_)
        have hbk := hbk.moved hm600
        have hown := hown.moved hm600
        refine sim_know 181 (x.mate == 0) false (by kernel_rfl) (decide_eq_false (by omega)) ?_
        refine sim_run 7 [] hR600 (by kernel_rfl) trivial (fun ρ601 w601 hm601 hR601 => ?_)
        have hbk := hbk.moved hm601
        have hown := hown.moved hm601
        refine sim_call 22 [.v (Value.pointer (some (Addr.mk g 0 none))), LI x.mate] (by kernel_rfl) ?_
        refine Calls.mono (get_bk _ _ _ _ _ _ hbk.bk (by assumption)) ?_
        rw [hget (by omega)]
        rintro e602 w602 ⟨rfl, hb602⟩
        have hR602 := hR601.below hb602
        have hbk := hbk.below hb602
        have hown := hown.below hb602
        refine Back.of (.tup [.agg (((y, 0).fst).cells.map .v), LI ((y, 0).snd)]) hR602 rfl ?_
        refine sim_run 19 [] hR602 (by kernel_rfl) trivial (fun ρ603 w603 hm603 hR603 => ?_)
        have hbk := hbk.moved hm603
        have hown := hown.moved hm603
        refine sim_know 198 ((y, 0).fst.mate != x.id) false (by kernel_rfl) (by simp; omega) ?_
        refine sim_run 7 [] hR603 (by kernel_rfl) trivial (fun ρ604 w604 hm604 hR604 => ?_)
        have hbk := hbk.moved hm604
        have hown := hown.moved hm604
        refine sim_know 205 ((y, 0).fst.state != x.state) false (by kernel_rfl) (by simp; omega) ?_
        refine sim_run 7 [] hR604 (by kernel_rfl) trivial (fun ρ605 w605 hm605 hR605 => ?_)
        have hbk := hbk.moved hm605
        have hown := hown.moved hm605
        refine sim_know 212 ((y, 0).fst.done != x.done) false (by kernel_rfl) (by simp; omega) ?_
        refine sim_run 7 [] hR605 (by kernel_rfl) trivial (fun ρ606 w606 hm606 hR606 => ?_)
        have hbk := hbk.moved hm606
        have hown := hown.moved hm606
        refine sim_know 219 ((y, 0).fst.paid != x.paid) false (by kernel_rfl) (by simp; omega) ?_
        refine sim_run 9 [] hR606 (by kernel_rfl) trivial (fun ρ607 w607 hm607 hR607 => ?_)
        have hbk := hbk.moved hm607
        have hown := hown.moved hm607
        refine sim_know 228 ((y, 0).fst.term.deliver == x.term.deliver) false (by kernel_rfl) (hdl (by omega)) ?_
        refine sim_run 9 [] hR607 (by kernel_rfl) trivial (fun ρ608 w608 hm608 hR608 => ?_)
        have hbk := hbk.moved hm608
        have hown := hown.moved hm608
        refine sim_know 236 ((y, 0).fst.term.amount != x.term.amount) false (by kernel_rfl) (by simp; omega) ?_
        refine sim_run 8 [⟨30, 1, LI (IntKind.i64.wrap ((↑j : Int) + 1)), LI ((↑j : Int) + 1)⟩] hR608 (by kernel_rfl) ⟨eqi (IntWalk.i64_in _ (by omega)), trivial⟩ (fun ρ609 w609 hm609 hR609 => ?_)
        have hbk := hbk.moved hm609
        have hown := hown.moved hm609
        
        refine sim_again (j + 1) (by kernel_rfl) (by show ys.length - (j + 1) < ys.length - j; omega) (by kernel_rfl) (by kernel_rfl) (by kernel_rfl) (fun m hm => by simp at hm) ‹_› (by kernel_rfl) (by kernel_rfl) ⟨hlt2, hbk.cut (N := 0) ⟨fun j hj => absurd hj (Nat.not_lt_zero j), Nat.zero_le _⟩ rfl (by kernel_rfl), ?_⟩
        have hown0 := hown.cut (rs := []) (ρ := ρ202) (N := 0) ⟨fun j hj => absurd hj (Nat.not_lt_zero j), Nat.zero_le _⟩ rfl (by kernel_rfl)
        rw [← insts_flat] at hown0
        exact hown0
  · refine sim_run 8 [] hR4 (by kernel_rfl) trivial (fun ρ700 w700 hm700 hR700 => ?_)
    have hbk := hbk.moved hm700
    have hown := hown.moved hm700
    refine sim_know 110 (decide ((↑j : Int) < (↑ys.length : Int))) false (by kernel_rfl) (decide_eq_false (by omega)) ?_
    refine sim_run 1 [] hR700 (by kernel_rfl) trivial (fun ρ701 w701 hm701 hR701 => ?_)
    have hbk := hbk.moved hm701
    have hown := hown.moved hm701
    refine sim_leave (by kernel_rfl) ?_
    refine sim_run 6 [⟨8, 1, LI (IntKind.i64.wrap ((↑k : Int) + 1)), LI ((↑k : Int) + 1)⟩] hR701 (by kernel_rfl) ⟨eqi (IntWalk.i64_in _ (by omega)), trivial⟩ (fun ρ702 w702 hm702 hR702 => ?_)
    have hbk := hbk.moved hm702
    have hown := hown.moved hm702
    
    exact hfin _ _ _ (by kernel_rfl) (by kernel_rfl) (by kernel_rfl) (Rel.cast ‹_› (by kernel_rfl)) (BkO.castR ‹_› (by kernel_rfl))
end Go.Proofs.Ytodjhkmbgennaaa
