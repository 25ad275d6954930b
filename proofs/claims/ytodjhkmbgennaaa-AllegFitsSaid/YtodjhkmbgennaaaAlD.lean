/-
  AllegFits: what is entered by the turned term of an alleg fits the instruction it tells of; turned twice a term is as it was.
-/
import Derived.Test.YtodjhkmbgennaaaAlC
import Derived.Test.YtodjhkmbgennaaaFork
namespace Go.Proofs.Ytodjhkmbgennaaa
open Go Go.RowKit
attribute [local irreducible] run goO leaveK someK nextK nextT nextOT nextOD loopBody loopRest loopK fillJ tmplOf tmplJ mergeT At AtO drawOk ordOf gateOf callC callO topOp topO idxOf appOf storeOf clearOf sliceOf calleeOf calleeO topQ idxQ newRowOf resL stepOp seek

def flipM (t : Tm) (a m : ByteArray) : Tm := { t with party := t.other, other := t.party, account := a, money := m, deliver := !t.deliver }
set_option maxRecDepth 100000 in
theorem flip_any (t : Tm) (a m : ByteArray) (w : World) : Calls Try.prog 37 #[t.val, .string a, .string m] w fun e w' => e = .returned (flipM t a m).val ∧ Below w.heap.size w w' := by
  refine sim_enter Try.func37 ρ0 [.agg (t.cells.map .v), LS a, LS m] [] (by kernel_rfl) rfl ?_
  have hR := Rel.start [] w ρ0
  refine sim_run 35 [] (hR.cast (by kernel_rfl)) (by kernel_rfl) trivial (fun ρ100 w100 hm100 hR100 => ?_)
  refine sim_ret (.agg [LS t.other, LS a, LS m, LS t.party, LB !t.deliver, LS t.asset, LS t.ccy, LS t.ref, LI t.qty, LI t.amount, LI t.day, LI t.trade]) hR100 (by kernel_rfl) (by kernel_rfl) ?_
  exact ⟨rfl, hR100.toBelow⟩
  
theorem flip_any2 (t : Tm) (a m : ByteArray) (w : World) : Calls Try.prog 37 #[t.val, .string a, .string m] w fun e w' => e = .returned (flipM t a m).val ∧ Below w.heap.size w w' := flip_any t a m w
theorem ba_self (a : ByteArray) : (a == a) = true := by
  obtain ⟨d⟩ := a
  show (d == d) = true
  simp
theorem pick_self (x : In) (hs : x.state = 0) (hp : x.term.party ≠ x.term.other) : forM x.term.other [x] = [(x.term, x.id, 0, [])] := by
  have e1 : (x.term.party.toList == x.term.other.toList) = false := by
    cases hc : (x.term.party.toList == x.term.other.toList) with
    | false => rfl
    | true => exact absurd (ba_eq hc) hp
  have h1 : [x].filter (fun y => !PickB (wantOth x.term.other) y) = [x] := by simp [PickB, wantOth, hs, e1]
  have h2 : [x].filter (fun y => !PickB (wantOwn x.term.other) y) = [] := by simp [PickB, wantOwn, hs, e1]
  unfold forM pickS
  rw [h1, h2, ssort_one]
  rfl
theorem sne_self (a : ByteArray) : sne a a = false := by simp [sne]
theorem fits_flip (x : In) (hs : x.state = 0) (a m : ByteArray) (y : In) (hy : y.term = flipM x.term a m) (hys : y.state = 0) : fitsB x y 0 = true := by
  have h : differ x y 0 = [] := by
    unfold differ bsD
    rw [hs, hys, hy]
    simp only [flipM, sne_self]
    have e1 : (x.term.deliver == !x.term.deliver) = false := by cases x.term.deliver <;> rfl
    rw [e1]
    simp [farI, pickN, nmsD]
  unfold fitsB
  rw [h]
  rfl
set_option maxRecDepth 100000 in
set_option maxHeartbeats 4000000 in
theorem allegFits_walk (w : World) (x : In) (hx : x.ok) (a : ByteArray) (ha : a.size ≤ maxLen) (m : ByteArray) (hm : m.size ≤ maxLen) :
    Calls Try.prog 10 #[x.val, .string a, .string m] w fun e w' => e = .returned (.bool true) ∧ Below w.heap.size w w' := by
  refine sim_enter Try.func10 ρ0 [.agg (x.cells.map .v), LS a, LS m] [] (by kernel_rfl) rfl ?_
  have hR := Rel.start [] w ρ0
  refine sim_run 21 [] (hR.cast (by kernel_rfl)) (by kernel_rfl) trivial (fun ρ200 w200 hm200 hR200 => ?_)
  refine sim_fork 16 (x.term.party.toList == x.term.other.toList) (by kernel_rfl) (fun hq201 => ?_) (fun hq201 => ?_)
  have hq201 := ba_eq hq201
  refine sim_run 3 [] (hR200.cast (by kernel_rfl)) (by kernel_rfl) trivial (fun ρ202 w202 hm202 hR202 => ?_)
  refine sim_call 35 [] (by kernel_rfl) ?_
  refine Calls.mono (alive16_any _) ?_
  rintro e203 w203 ⟨rfl, hb203⟩
  have hR203 := hR202.below hb203
  refine Back.of (LB true) hR203 rfl ?_
  refine sim_run 2 [] (hR203.cast (by kernel_rfl)) (by kernel_rfl) trivial (fun ρ204 w204 hm204 hR204 => ?_)
  refine sim_ret (LB true) hR204 (by kernel_rfl) (by kernel_rfl) ?_
  exact ⟨rfl, hR204.toBelow⟩
  have hq201 := ba_ne hq201
  refine sim_run 9 [] (hR200.cast (by kernel_rfl)) (by kernel_rfl) trivial (fun ρ205 w205 hm205 hR205 => ?_)
  
  have hp := (by assumption : x.term.party ≠ x.term.other)
  obtain ⟨x0, hx0⟩ : ∃ x0 : In, x0 = { x with state := 0 } := ⟨_, rfl⟩
  have hx0ok : x0.ok := by rw [hx0]; exact ⟨hx.id, hx.term, hx.prio, by show Is64 0; decide, hx.mate, hx.done, hx.paid⟩
  have hx0t : x0.term = x.term := by rw [hx0]
  have hx0s : x0.state = 0 := by rw [hx0]
  have hx0i : x0.id = x.id := by rw [hx0]
  have hrd := hR205.reads (n := 1) (size := 21) (m := 1) (vs := insts [x0]) (b := true) (by rw [hx0]; kernel_rfl) rfl
  refine sim_call 36 [LS x.term.other, .slc 1 0 1 1] (by kernel_rfl) ?_
  refine (for_any x.term.other _ 1 1 _ [x0] _ hrd (Nat.le_refl _) (fun y hy => by rw [List.mem_singleton.1 hy]; exact hx0ok) (by decide) (fun h => by cases h)).mono ?_
  have hforM : forM x.term.other [x0] = [(x.term, x.id, 0, [])] := by
    have := pick_self x0 hx0s (by rw [hx0t]; exact hp)
    rw [hx0t, hx0i] at this
    exact this
  rw [hforM]
  rintro e w2 ⟨A, cap, l, rfl, hl, hown, hws, hb2⟩
  obtain ⟨v, rfl⟩ := one_al hl
  have hwhat : w2.ownsRow w205.heap.size 9 1 v 0 [] := hws ⟨x.term, x.id, 0, v, []⟩ (by simp)
  have hR2 := hR205.below hb2
  have hown := Own.fresh hR205 hown (Nat.le_refl _)
  obtain ⟨Aw, cw, hv⟩ : ∃ Aw cw, v = .slice Aw 0 cw := by
    rcases hwhat.2 with ⟨e, _⟩ | ⟨gw, cw, _, e, _⟩
    · exact ⟨_, _, e⟩
    · exact ⟨_, _, e⟩
  subst hv
  obtain ⟨ga, oa, rfl, _, _⟩ := hown.reads.spot (by show 0 < 1; omega) (by omega)
  refine Back.of (.v (.slice (some ⟨ga, oa, none⟩) 1 cap)) hR2 rfl ?_
  have hown : Own _ _ w2 _ 68 15 (.slice (some ⟨ga, oa, none⟩) 1 cap) 1 [Al.cells ⟨x.term, x.id, 0, .slice Aw 0 cw, []⟩].flatten := hown
  refine sim_run 10 [] (hR2.cast (by kernel_rfl)) (by kernel_rfl) trivial (fun ρ300 w300 hm300 hR300 => ?_)
  have hown := hown.moved (hm300.castL (by kernel_rfl))
  refine sim_elemO (Al.cells ⟨x.term, x.id, 0, .slice Aw 0 cw, []⟩) cap 0 2 (by kernel_rfl) (by kernel_rfl) rfl hown (by intro y hy; rw [List.mem_singleton.1 hy]; rfl) (by omega) (by omega) hR300 (by kernel_rfl) (fun ρ301 hm301 hR301 => ?_)
  have hown := hown.moved hm301
  refine sim_run 6 [] (hR301.cast (by kernel_rfl)) (by kernel_rfl) trivial (fun ρ302 w302 hm302 hR302 => ?_)
  have hown := hown.moved (hm302.castL (by kernel_rfl))
  refine sim_elemO (Al.cells ⟨x.term, x.id, 0, .slice Aw 0 cw, []⟩) cap 0 3 (by kernel_rfl) (by kernel_rfl) rfl hown (by intro y hy; rw [List.mem_singleton.1 hy]; rfl) (by omega) (by omega) hR302 (by kernel_rfl) (fun ρ303 hm303 hR303 => ?_)
  have hown := hown.moved hm303
  refine sim_run 9 [] (hR303.cast (by kernel_rfl)) (by kernel_rfl) trivial (fun ρ304 w304 hm304 hR304 => ?_)
  have hown := hown.moved (hm304.castL (by kernel_rfl))
  
  refine sim_seeO (Al.cells ⟨x.term, x.id, 0, .slice Aw 0 cw, []⟩) 0 4 (by kernel_rfl) rfl hown (by intro y hy; rw [List.mem_singleton.1 hy]; rfl) (by omega) (by omega) (by assumption : Rel _ _ _ _ _) (by kernel_rfl) (fun ρ4 hm4 e4 hR4 => ?_)
  have hag := hR4.ag_ 5 (by kernel_rfl)
  have hyok : In.ok ⟨x.id, flipM x.term a m, 0, false, false, false, 0, 0, 0, 0⟩ := ⟨hx.id, ⟨hx.term.other, ha, hm, hx.term.party, hx.term.asset, hx.term.ccy, hx.term.ref, hx.term.qty, hx.term.amount, hx.term.day, hx.term.trade⟩, (by show Is64 0; decide), (by show Is64 0; decide), (by show Is64 0; decide), (by show Is64 0; decide), (by show Is64 0; decide)⟩
  have hxok : In.ok ⟨x.id, x.term, x.prio, x.part, x.held, x.wish, 0, x.mate, x.done, x.paid⟩ := by rw [← hx0]; exact hx0ok
  have hfit : fitsB ⟨x.id, x.term, x.prio, x.part, x.held, x.wish, 0, x.mate, x.done, x.paid⟩ ⟨x.id, flipM x.term a m, 0, false, false, false, 0, 0, 0, 0⟩ 0 = true := fits_flip _ rfl a m _ rfl rfl
  refine sim_drawF2 [(0, false), (1, false), (2, false), (3, false), (4, false), (5, false), (6, false), (7, false)] (8, [(9, false), (10, true), (11, true)]) (10, [(8, true), (9, false), (11, true)]) (some 11) (by kernel_rfl) (by kernel_rfl) hR4 (fun hR500 => ?_) (fun hR500 => ?_)
  have hown := hown.drew
  refine sim_ordN 3 [] hR500 (by kernel_rfl) trivial (fun ρ501 w501 hm501 hR501 => ?_)
  have hag := hag.moved (hm501.castL (by kernel_rfl))
  refine sim_ord_index (.v (.slice (some ⟨ga, oa, none⟩) 1 cap)) 1 15 0 4 0 (by kernel_rfl) (by omega) (by omega) rfl hR501 (by simp only [Nm.at_, hag.at_ 4 (by omega), e4]; rfl) (fun hR502 => ?_)
  refine sim_ordN 4 [] hR502 (by kernel_rfl) trivial (fun ρ503 w503 hm503 hR503 => ?_)
  have hag := hag.moved (hm503.castL (by kernel_rfl))
  refine sim_ord_call (T := []) (w0 := w) 37 [.agg [LS ((Al.mk x.term x.id 0 (Value.slice Aw 0 cw) []).term.party), LS ((Al.mk x.term x.id 0 (Value.slice Aw 0 cw) []).term.account), LS ((Al.mk x.term x.id 0 (Value.slice Aw 0 cw) []).term.money), LS ((Al.mk x.term x.id 0 (Value.slice Aw 0 cw) []).term.other), LB ((Al.mk x.term x.id 0 (Value.slice Aw 0 cw) []).term.deliver), LS ((Al.mk x.term x.id 0 (Value.slice Aw 0 cw) []).term.asset), LS ((Al.mk x.term x.id 0 (Value.slice Aw 0 cw) []).term.ccy), LS ((Al.mk x.term x.id 0 (Value.slice Aw 0 cw) []).term.ref), LI ((Al.mk x.term x.id 0 (Value.slice Aw 0 cw) []).term.qty), LI ((Al.mk x.term x.id 0 (Value.slice Aw 0 cw) []).term.amount), LI ((Al.mk x.term x.id 0 (Value.slice Aw 0 cw) []).term.day), LI ((Al.mk x.term x.id 0 (Value.slice Aw 0 cw) []).term.trade)], LS a, LS m] (by kernel_rfl) ?_
  refine Calls.mono (flip_any (x.term) (a) (m) _) ?_
  rintro e504 w504 ⟨rfl, hb504⟩
  have hR504 := hR503.call hb504 (.agg ((flipM x.term a m).cells.map .v))
  refine BackO.of (.agg ((flipM x.term a m).cells.map .v)) hR504 rfl ?_
  refine sim_ordN 3 [] hR504 (by kernel_rfl) trivial (fun ρ505 w505 hm505 hR505 => ?_)
  have hag := hag.moved (hm505.castL (by kernel_rfl))
  refine sim_ord_endR hR505 (by kernel_rfl) (fun hR506 => ?_)
  refine sim_run 1 [] hR506 (by kernel_rfl) trivial (fun ρ507 w507 hm507 hR507 => ?_)
  have hag := hag.moved (hm507.castL (by kernel_rfl))
  refine sim_draw [] (by kernel_rfl) (by kernel_rfl) hR507 (fun hR508 => ?_)
  refine sim_ord_call (T := []) (w0 := w) 35 [] (by kernel_rfl) ?_
  refine Calls.mono (alive16_any _) ?_
  rintro e509 w509 ⟨rfl, hb509⟩
  have hR509 := hR508.call hb509 (LB true)
  refine BackO.of (LB true) hR509 rfl ?_
  refine sim_ordN 3 [] hR509 (by kernel_rfl) trivial (fun ρ510 w510 hm510 hR510 => ?_)
  have hag := hag.moved (hm510.castL (by kernel_rfl))
  refine sim_ord_call (T := []) (w0 := w) 13 [.agg [LI x.id, LS x.term.party, LS x.term.account, LS x.term.money, LS x.term.other, LB x.term.deliver, LS x.term.asset, LS x.term.ccy, LS x.term.ref, LI x.term.qty, LI x.term.amount, LI x.term.day, LI x.term.trade, LI x.prio, LB x.part, LB x.held, LB x.wish, LI 0, LI x.mate, LI x.done, LI x.paid], .agg [LI x.id, LS ((flipM x.term a m).party), LS ((flipM x.term a m).account), LS ((flipM x.term a m).money), LS ((flipM x.term a m).other), LB ((flipM x.term a m).deliver), LS ((flipM x.term a m).asset), LS ((flipM x.term a m).ccy), LS ((flipM x.term a m).ref), LI ((flipM x.term a m).qty), LI ((flipM x.term a m).amount), LI ((flipM x.term a m).day), LI ((flipM x.term a m).trade), LI 0, LB false, LB false, LB false, LI 0, LI 0, LI 0, LI 0], LI 0] (by kernel_rfl) ?_
  refine Calls.mono (fits_any (⟨x.id, x.term, x.prio, x.part, x.held, x.wish, 0, x.mate, x.done, x.paid⟩) (⟨x.id, flipM x.term a m, 0, false, false, false, 0, 0, 0, 0⟩) (hxok) (hyok) (0) ((by decide)) _) ?_
  rintro e511 w511 ⟨rfl, hb511⟩
  have hR511 := hR510.call hb511 (LB (fitsB (In.mk x.id x.term x.prio x.part x.held x.wish 0 x.mate x.done x.paid) (In.mk x.id (flipM x.term a m) 0 false false false 0 0 0 0) 0))
  refine BackO.of (LB (fitsB (In.mk x.id x.term x.prio x.part x.held x.wish 0 x.mate x.done x.paid) (In.mk x.id (flipM x.term a m) 0 false false false 0 0 0 0) 0)) hR511 rfl ?_
  refine sim_ordN 2 [] hR511 (by kernel_rfl) trivial (fun ρ512 w512 hm512 hR512 => ?_)
  have hag := hag.moved (hm512.castL (by kernel_rfl))
  refine sim_knowO hR512 58 (fitsB (In.mk x.id x.term x.prio x.part x.held x.wish 0 x.mate x.done x.paid) (In.mk x.id (flipM x.term a m) 0 false false false 0 0 0 0) 0) true (by kernel_rfl) (by assumption) (fun hR513 => ?_)
  refine sim_ordN 10 [] hR513 (by kernel_rfl) trivial (fun ρ514 w514 hm514 hR514 => ?_)
  have hag := hag.moved (hm514.castL (by kernel_rfl))
  refine sim_ord_call (T := []) (w0 := w) 37 [.agg [LS ((flipM x.term a m).party), LS ((flipM x.term a m).account), LS ((flipM x.term a m).money), LS ((flipM x.term a m).other), LB ((flipM x.term a m).deliver), LS ((flipM x.term a m).asset), LS ((flipM x.term a m).ccy), LS ((flipM x.term a m).ref), LI ((flipM x.term a m).qty), LI ((flipM x.term a m).amount), LI ((flipM x.term a m).day), LI ((flipM x.term a m).trade)], LS x.term.account, LS x.term.money] (by kernel_rfl) ?_
  refine Calls.mono (flip_any2 (flipM x.term a m) (x.term.account) (x.term.money) _) ?_
  rintro e515 w515 ⟨rfl, hb515⟩
  have hR515 := hR514.call hb515 (.agg ((flipM (flipM x.term a m) x.term.account x.term.money).cells.map .v))
  refine BackO.of (.agg ((flipM (flipM x.term a m) x.term.account x.term.money).cells.map .v)) hR515 rfl ?_
  refine sim_ordN 3 [] hR515 (by kernel_rfl) trivial (fun ρ516 w516 hm516 hR516 => ?_)
  have hag := hag.moved (hm516.castL (by kernel_rfl))
  refine sim_ord_endR hR516 (by kernel_rfl) (fun hR517 => ?_)
  refine sim_ret (LB ((flipM (flipM x.term a m) x.term.account x.term.money).party == x.term.party && ((flipM (flipM x.term a m) x.term.account x.term.money).account == x.term.account && ((flipM (flipM x.term a m) x.term.account x.term.money).money == x.term.money && ((flipM (flipM x.term a m) x.term.account x.term.money).other == x.term.other && ((flipM (flipM x.term a m) x.term.account x.term.money).deliver == x.term.deliver && ((flipM (flipM x.term a m) x.term.account x.term.money).asset == x.term.asset && ((flipM (flipM x.term a m) x.term.account x.term.money).ccy == x.term.ccy && ((flipM (flipM x.term a m) x.term.account x.term.money).ref == x.term.ref && ((flipM (flipM x.term a m) x.term.account x.term.money).qty == x.term.qty && ((flipM (flipM x.term a m) x.term.account x.term.money).amount == x.term.amount && ((flipM (flipM x.term a m) x.term.account x.term.money).day == x.term.day && ((flipM (flipM x.term a m) x.term.account x.term.money).trade == x.term.trade && true))))))))))))) hR517 (by kernel_rfl) (by kernel_rfl) ?_
  rotate_left
  have hown := hown.drew
  refine sim_ordN 3 [] hR500 (by kernel_rfl) trivial (fun ρ518 w518 hm518 hR518 => ?_)
  have hag := hag.moved (hm518.castL (by kernel_rfl))
  refine sim_ord_index (.v (.slice (some ⟨ga, oa, none⟩) 1 cap)) 1 15 0 4 0 (by kernel_rfl) (by omega) (by omega) rfl hR518 (by simp only [Nm.at_, hag.at_ 4 (by omega), e4]; rfl) (fun hR519 => ?_)
  refine sim_ordN 5 [] hR519 (by kernel_rfl) trivial (fun ρ520 w520 hm520 hR520 => ?_)
  have hag := hag.moved (hm520.castL (by kernel_rfl))
  refine sim_ord_call (T := []) (w0 := w) 37 [.agg [LS ((Al.mk x.term x.id 0 (Value.slice Aw 0 cw) []).term.party), LS ((Al.mk x.term x.id 0 (Value.slice Aw 0 cw) []).term.account), LS ((Al.mk x.term x.id 0 (Value.slice Aw 0 cw) []).term.money), LS ((Al.mk x.term x.id 0 (Value.slice Aw 0 cw) []).term.other), LB ((Al.mk x.term x.id 0 (Value.slice Aw 0 cw) []).term.deliver), LS ((Al.mk x.term x.id 0 (Value.slice Aw 0 cw) []).term.asset), LS ((Al.mk x.term x.id 0 (Value.slice Aw 0 cw) []).term.ccy), LS ((Al.mk x.term x.id 0 (Value.slice Aw 0 cw) []).term.ref), LI ((Al.mk x.term x.id 0 (Value.slice Aw 0 cw) []).term.qty), LI ((Al.mk x.term x.id 0 (Value.slice Aw 0 cw) []).term.amount), LI ((Al.mk x.term x.id 0 (Value.slice Aw 0 cw) []).term.day), LI ((Al.mk x.term x.id 0 (Value.slice Aw 0 cw) []).term.trade)], LS a, LS m] (by kernel_rfl) ?_
  refine Calls.mono (flip_any (x.term) (a) (m) _) ?_
  rintro e521 w521 ⟨rfl, hb521⟩
  have hR521 := hR520.call hb521 (.agg ((flipM x.term a m).cells.map .v))
  refine BackO.of (.agg ((flipM x.term a m).cells.map .v)) hR521 rfl ?_
  refine sim_ordN 2 [] hR521 (by kernel_rfl) trivial (fun ρ522 w522 hm522 hR522 => ?_)
  have hag := hag.moved (hm522.castL (by kernel_rfl))
  refine sim_ord_endR hR522 (by kernel_rfl) (fun hR523 => ?_)
  refine sim_run 1 [] hR523 (by kernel_rfl) trivial (fun ρ524 w524 hm524 hR524 => ?_)
  have hag := hag.moved (hm524.castL (by kernel_rfl))
  refine sim_draw [] (by kernel_rfl) (by kernel_rfl) hR524 (fun hR525 => ?_)
  refine sim_ord_call (T := []) (w0 := w) 35 [] (by kernel_rfl) ?_
  refine Calls.mono (alive16_any _) ?_
  rintro e526 w526 ⟨rfl, hb526⟩
  have hR526 := hR525.call hb526 (LB true)
  refine BackO.of (LB true) hR526 rfl ?_
  refine sim_ordN 3 [] hR526 (by kernel_rfl) trivial (fun ρ527 w527 hm527 hR527 => ?_)
  have hag := hag.moved (hm527.castL (by kernel_rfl))
  refine sim_ord_call (T := []) (w0 := w) 13 [.agg [LI x.id, LS x.term.party, LS x.term.account, LS x.term.money, LS x.term.other, LB x.term.deliver, LS x.term.asset, LS x.term.ccy, LS x.term.ref, LI x.term.qty, LI x.term.amount, LI x.term.day, LI x.term.trade, LI x.prio, LB x.part, LB x.held, LB x.wish, LI 0, LI x.mate, LI x.done, LI x.paid], .agg [LI x.id, LS ((flipM x.term a m).party), LS ((flipM x.term a m).account), LS ((flipM x.term a m).money), LS ((flipM x.term a m).other), LB ((flipM x.term a m).deliver), LS ((flipM x.term a m).asset), LS ((flipM x.term a m).ccy), LS ((flipM x.term a m).ref), LI ((flipM x.term a m).qty), LI ((flipM x.term a m).amount), LI ((flipM x.term a m).day), LI ((flipM x.term a m).trade), LI 0, LB false, LB false, LB false, LI 0, LI 0, LI 0, LI 0], LI 0] (by kernel_rfl) ?_
  refine Calls.mono (fits_any (⟨x.id, x.term, x.prio, x.part, x.held, x.wish, 0, x.mate, x.done, x.paid⟩) (⟨x.id, flipM x.term a m, 0, false, false, false, 0, 0, 0, 0⟩) (hxok) (hyok) (0) ((by decide)) _) ?_
  rintro e528 w528 ⟨rfl, hb528⟩
  have hR528 := hR527.call hb528 (LB (fitsB (In.mk x.id x.term x.prio x.part x.held x.wish 0 x.mate x.done x.paid) (In.mk x.id (flipM x.term a m) 0 false false false 0 0 0 0) 0))
  refine BackO.of (LB (fitsB (In.mk x.id x.term x.prio x.part x.held x.wish 0 x.mate x.done x.paid) (In.mk x.id (flipM x.term a m) 0 false false false 0 0 0 0) 0)) hR528 rfl ?_
  refine sim_ordN 2 [] hR528 (by kernel_rfl) trivial (fun ρ529 w529 hm529 hR529 => ?_)
  have hag := hag.moved (hm529.castL (by kernel_rfl))
  refine sim_knowO hR529 58 (fitsB (In.mk x.id x.term x.prio x.part x.held x.wish 0 x.mate x.done x.paid) (In.mk x.id (flipM x.term a m) 0 false false false 0 0 0 0) 0) true (by kernel_rfl) (by assumption) (fun hR530 => ?_)
  refine sim_ordN 10 [] hR530 (by kernel_rfl) trivial (fun ρ531 w531 hm531 hR531 => ?_)
  have hag := hag.moved (hm531.castL (by kernel_rfl))
  refine sim_ord_call (T := []) (w0 := w) 37 [.agg [LS ((flipM x.term a m).party), LS ((flipM x.term a m).account), LS ((flipM x.term a m).money), LS ((flipM x.term a m).other), LB ((flipM x.term a m).deliver), LS ((flipM x.term a m).asset), LS ((flipM x.term a m).ccy), LS ((flipM x.term a m).ref), LI ((flipM x.term a m).qty), LI ((flipM x.term a m).amount), LI ((flipM x.term a m).day), LI ((flipM x.term a m).trade)], LS x.term.account, LS x.term.money] (by kernel_rfl) ?_
  refine Calls.mono (flip_any2 (flipM x.term a m) (x.term.account) (x.term.money) _) ?_
  rintro e532 w532 ⟨rfl, hb532⟩
  have hR532 := hR531.call hb532 (.agg ((flipM (flipM x.term a m) x.term.account x.term.money).cells.map .v))
  refine BackO.of (.agg ((flipM (flipM x.term a m) x.term.account x.term.money).cells.map .v)) hR532 rfl ?_
  refine sim_ordN 3 [] hR532 (by kernel_rfl) trivial (fun ρ533 w533 hm533 hR533 => ?_)
  have hag := hag.moved (hm533.castL (by kernel_rfl))
  refine sim_ord_endR hR533 (by kernel_rfl) (fun hR534 => ?_)
  refine sim_ret (LB ((flipM (flipM x.term a m) x.term.account x.term.money).party == x.term.party && ((flipM (flipM x.term a m) x.term.account x.term.money).account == x.term.account && ((flipM (flipM x.term a m) x.term.account x.term.money).money == x.term.money && ((flipM (flipM x.term a m) x.term.account x.term.money).other == x.term.other && ((flipM (flipM x.term a m) x.term.account x.term.money).deliver == x.term.deliver && ((flipM (flipM x.term a m) x.term.account x.term.money).asset == x.term.asset && ((flipM (flipM x.term a m) x.term.account x.term.money).ccy == x.term.ccy && ((flipM (flipM x.term a m) x.term.account x.term.money).ref == x.term.ref && ((flipM (flipM x.term a m) x.term.account x.term.money).qty == x.term.qty && ((flipM (flipM x.term a m) x.term.account x.term.money).amount == x.term.amount && ((flipM (flipM x.term a m) x.term.account x.term.money).day == x.term.day && ((flipM (flipM x.term a m) x.term.account x.term.money).trade == x.term.trade && true))))))))))))) hR534 (by kernel_rfl) (by kernel_rfl) ?_
  rotate_left
  
  all_goals
    refine ⟨retv_bool ?_, (by assumption : Rel _ _ _ _ _).toBelow⟩
    simp [flipM, ba_self]
end Go.Proofs.Ytodjhkmbgennaaa