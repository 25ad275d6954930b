/-
  Ids rise by one; what was added is got as it was entered; there is room for just so many: for every list of terms and every number.
-/
import Derived.Test.YtodjhkmbgennaaaBookR
import Derived.Test.YtodjhkmbgennaaaSimO
namespace Go.Proofs.Ytodjhkmbgennaaa
open Go Go.RowKit
attribute [local irreducible] run goO goN ordGoN eqlOf eqlOper eqlOfO cellL leaveK someK nextK nextT nextOT nextOD loopBody loopRest loopK fillJ tmplOf tmplJ mergeT At AtO drawOk ordOf gateOf callC callO topOp topO idxOf appOf storeOf clearOf sliceOf calleeOf calleeO topQ idxQ newRowOf resL stepOp seek

theorem tm_len (ts : List Tm) : ∀ y ∈ ts.map Tm.cells, y.length = 12 := by
  intro y hy
  obtain ⟨o, _, rfl⟩ := List.mem_map.1 hy
  rfl
/-- a list of terms -/
structure Tms (w : World) (A : Option Addr) (n M : Nat) (ts : List Tm) : Prop where
  rd : Reads w w.heap.size 12 A n (ts.map Tm.cells).flatten
  len : ts.length = n
  ok : ∀ t ∈ ts, t.okM M
  max : n ≤ maxLen
theorem tms_of {w : World} {M : Nat} : ∀ (xss : List (List Value)), (∀ x ∈ xss, Sh.all w M termSh x) → ∃ os : List Tm, xss = os.map Tm.cells ∧ ∀ o ∈ os, o.okM M
  | [], _ => ⟨[], rfl, by simp⟩
  | x :: xss, h => by
    obtain ⟨os, rfl, h2⟩ := tms_of xss (fun y hy => h y (by simp [hy]))
    obtain ⟨o, rfl, ho⟩ := tm_ofW (h x (by simp))
    refine ⟨o :: os, rfl, fun y hy => ?_⟩
    rcases List.mem_cons.1 hy with rfl | hy
    · exact ho
    · exact h2 y hy
set_option maxRecDepth 100000 in
theorem open_tms {H : Type} {enc : TypeId × Value → H} {w : World} {r : Reach} {b0 M : Nat} {v : Value} {d : DataW H} {p : List MemPlace} (hv : Value.okWide Try.prog w r b0 39 v) (h : DataW.Trod enc Try.prog w 0 (fun _ => true) true 39 v d p) (hw : maxLen ≤ M ∨ ∀ m ∈ d.weights Try.prog 39, m ≤ M) :
    ∃ A n c os, v = .slice A n c ∧ Tms w A n M os := by
  obtain ⟨A, n, c, xss, rfl, h1, h2, h3, h4, h5, h6⟩ := open_rowsW (n0 := 6) Try.underlying39 (by kernel_rfl) hv h hw
  obtain ⟨os, rfl, hos⟩ := tms_of xss h5
  exact ⟨A, n, c, os, rfl, h1, by simpa using h4, hos, by omega⟩
set_option maxRecDepth 100000 in
theorem count_slc (A : Option Addr) (len cap : Nat) (w : World) (g : Nat) (hg : w.cell? ⟨g, 0, none⟩ = some (.slice A len cap)) :
    Calls Try.prog 23 #[.pointer (some ⟨g, 0, none⟩)] w fun e w' => e = .returned (.int .i64 len) ∧ Below w.heap.size w w' := by
  obtain ⟨ρ, _, hn0, hR⟩ := (Rel.start [] w ρ0).open_ rfl g 0 [.v (.slice A len cap)] rfl false (World.block_lt_of_cell? _ _ hg) (fun j v hv => by
    match j, hv with
    | 0, hv => injection hv with hv; rw [← hv]; exact hg) (fun h => by cases h) (fun n r hn => by simp at hn)
  have e0 : ρ 0 = (g, 0) := hn0
  have hR := hR.cast (rs' := [⟨[.v (.slice A len cap)], false⟩]) rfl
  refine sim_enter Try.func23 ρ [.ptr 0 0] [⟨[.v (.slice A len cap)], false⟩] (by kernel_rfl) (by simp only [denL, LV.den, Nm.at_, e0, Nat.add_zero]) ?_
  refine sim_run 21 [] hR (by kernel_rfl) trivial (fun ρ900 w900 hm900 hR900 => ?_)
  refine sim_ret (LI ((↑len : Int))) hR900 (by kernel_rfl) (by kernel_rfl) ?_
  exact ⟨rfl, hR900.toBelow⟩
  
theorem count_bk (B g : Nat) (v : Value) (xs : List In) (w : World) (h : BkV w B g v xs) :
    Calls Try.prog 23 #[.pointer (some ⟨g, 0, none⟩)] w fun e w' => e = .returned (.int .i64 xs.length) ∧ Below w.heap.size w w' := by
  obtain ⟨A, cap, rfl⟩ : ∃ A cap, v = .slice A xs.length cap := by
    rcases h.form with ⟨rfl, rfl⟩ | ⟨hb, cap, rest, rfl, _⟩
    · exact ⟨none, 0, rfl⟩
    · exact ⟨_, cap, rfl⟩
  exact count_slc A xs.length cap w g (h.cell.cell 0)
/-- what was added, k times -/
def idI (ts : List Tm) (i : Nat) : In := newI i ((ts[i % ts.length]?).getD zeroIn.term) (1 + (i % 4 : Nat)) (decide (i % 2 = 0)) (decide (i % 3 = 0))
def idsL (ts : List Tm) (k : Nat) : List In := (List.range (min k 120)).map (idI ts)
theorem ids_len (ts : List Tm) (k : Nat) : (idsL ts k).length = min k 120 := by unfold idsL; simp
theorem ids_add {ts : List Tm} {k : Nat} {t : Tm} (ht : ts[k % ts.length]? = some t) : addM (idsL ts k) t (1 + (k % 4 : Nat)) (decide (k % 2 = 0)) (decide (k % 3 = 0)) = (idsL ts (k + 1), if 120 ≤ k then (0, 10) else ((k : Int) + 1, 0)) := by
  unfold addM
  have hp : isPrioB (1 + (k % 4 : Nat)) = true := by unfold isPrioB; simp; omega
  rw [if_neg (by rw [hp]; decide), ids_len]
  by_cases h : 120 ≤ k
  · rw [if_pos (by omega), if_pos h]
    congr 1
    unfold idsL
    rw [Nat.min_eq_right h, Nat.min_eq_right (by omega)]
  · rw [if_neg (by omega), if_neg h, Nat.min_eq_left (by omega)]
    congr 1
    unfold idsL
    rw [Nat.min_eq_left (by omega), Nat.min_eq_left (by omega), List.range_succ, List.map_append]
    congr 1
    simp only [List.map_cons, List.map_nil, idI, ht, Option.getD_some]
theorem ids_get {ts : List Tm} {k : Nat} (h : k < 120) : getM (idsL ts (k + 1)) ((k : Int) + 1) = (idI ts k, 0) := by
  unfold getM
  rw [ids_len, if_neg (by omega), List.getD_eq_getElem?_getD]
  congr 1
  unfold idsL
  rw [List.getElem?_map, List.getElem?_range (by omega)]
  simp
set_option maxRecDepth 100000 in
set_option maxHeartbeats 4000000 in
theorem bookIds_walk (w : World) (A : Option Addr) (n cp M : Nat) (ts : List Tm) (m : Int) (hM : M ≤ 140737488355328) (h : Tms w A n M ts) (hm : Is64 m) : Calls Try.prog 5 #[.slice A n cp, .int .i64 m] w fun e w' => e = .returned (.bool true) ∧ Below w.heap.size w w' := by
  have hmax := h.max
  refine sim_enter Try.func5 ρ0 [.v (.slice A n cp), LI m] [] (by kernel_rfl) rfl ?_
  have hR := Rel.start [] w ρ0
  refine sim_run 6 [] hR (by kernel_rfl) trivial (fun ρ100 w100 hm100 hR100 => ?_)
  refine sim_call 19 [] (by kernel_rfl) ?_
  refine Calls.mono (new_any _) ?_
  rintro e101 w101 ⟨g, rfl, hg101, hb101, hbel101⟩
  have hBw := hR100.keeps.size
  have hbk := BkO.new hR100 hg101 hb101
  have hR101 := hR100.below hbel101
  refine Back.of (.v (Value.pointer (some (Addr.mk g 0 none)))) hR101 rfl ?_
  refine sim_run 13 [] hR101 (by kernel_rfl) trivial (fun ρ102 w102 hm102 hR102 => ?_)
  have hbk := hbk.moved hm102
  refine sim_fork 22 (decide ((↑n : Int) > 30)) (by kernel_rfl) (fun hq103 => ?_) (fun hq103 => ?_)
  have hq103 := of_decide_eq_true hq103
  refine sim_run 19 [] hR102 (by kernel_rfl) trivial (fun ρ104 w104 hm104 hR104 => ?_)
  have hbk := hbk.moved hm104
  refine sim_call 20 [] (by kernel_rfl) ?_
  refine Calls.mono (alive14_any _) ?_
  rintro e105 w105 ⟨rfl, hb105⟩
  have hR105 := hR104.below hb105
  have hbk := hbk.below hb105
  refine Back.of (LB true) hR105 rfl ?_
  refine sim_run 3 [] hR105 (by kernel_rfl) trivial (fun ρ106 w106 hm106 hR106 => ?_)
  have hbk := hbk.moved hm106
  refine sim_ret (LB true) hR106 (by kernel_rfl) (by kernel_rfl) ?_
  exact ⟨rfl, hR106.toBelow⟩
  have hq103 := of_decide_eq_false hq103
  refine sim_run 5 [] hR102 (by kernel_rfl) trivial (fun ρ107 w107 hm107 hR107 => ?_)
  have hbk := hbk.moved hm107
  refine sim_fork 27 ((↑n : Int) == 0) (by kernel_rfl) (fun hq108 => ?_) (fun hq108 => ?_)
  have hq108 := of_decide_eq_true hq108
  refine sim_run 14 [] hR107 (by kernel_rfl) trivial (fun ρ109 w109 hm109 hR109 => ?_)
  have hbk := hbk.moved hm109
  refine sim_call 20 [] (by kernel_rfl) ?_
  refine Calls.mono (alive14_any _) ?_
  rintro e110 w110 ⟨rfl, hb110⟩
  have hR110 := hR109.below hb110
  have hbk := hbk.below hb110
  refine Back.of (LB true) hR110 rfl ?_
  refine sim_run 3 [] hR110 (by kernel_rfl) trivial (fun ρ111 w111 hm111 hR111 => ?_)
  have hbk := hbk.moved hm111
  refine sim_ret (LB true) hR111 (by kernel_rfl) (by kernel_rfl) ?_
  exact ⟨rfl, hR111.toBelow⟩
  have hq108 := of_decide_eq_false hq108
  refine sim_run 4 [] hR107 (by kernel_rfl) trivial (fun ρ112 w112 hm112 hR112 => ?_)
  have hbk := hbk.moved hm112
  refine sim_fork 31 (decide (m < 0)) (by kernel_rfl) (fun hq113 => ?_) (fun hq113 => ?_)
  have hq113 := of_decide_eq_true hq113
  refine sim_run 10 [] hR112 (by kernel_rfl) trivial (fun ρ114 w114 hm114 hR114 => ?_)
  have hbk := hbk.moved hm114
  refine sim_call 20 [] (by kernel_rfl) ?_
  refine Calls.mono (alive14_any _) ?_
  rintro e115 w115 ⟨rfl, hb115⟩
  have hR115 := hR114.below hb115
  have hbk := hbk.below hb115
  refine Back.of (LB true) hR115 rfl ?_
  refine sim_run 3 [] hR115 (by kernel_rfl) trivial (fun ρ116 w116 hm116 hR116 => ?_)
  have hbk := hbk.moved hm116
  refine sim_ret (LB true) hR116 (by kernel_rfl) (by kernel_rfl) ?_
  exact ⟨rfl, hR116.toBelow⟩
  have hq113 := of_decide_eq_false hq113
  refine sim_run 4 [] hR112 (by kernel_rfl) trivial (fun ρ117 w117 hm117 hR117 => ?_)
  have hbk := hbk.moved hm117
  refine sim_fork 34 (decide (m > 130)) (by kernel_rfl) (fun hq118 => ?_) (fun hq118 => ?_)
  have hq118 := of_decide_eq_true hq118
  refine sim_run 6 [] hR117 (by kernel_rfl) trivial (fun ρ119 w119 hm119 hR119 => ?_)
  have hbk := hbk.moved hm119
  refine sim_call 20 [] (by kernel_rfl) ?_
  refine Calls.mono (alive14_any _) ?_
  rintro e120 w120 ⟨rfl, hb120⟩
  have hR120 := hR119.below hb120
  have hbk := hbk.below hb120
  refine Back.of (LB true) hR120 rfl ?_
  refine sim_run 3 [] hR120 (by kernel_rfl) trivial (fun ρ121 w121 hm121 hR121 => ?_)
  have hbk := hbk.moved hm121
  refine sim_ret (LB true) hR121 (by kernel_rfl) (by kernel_rfl) ?_
  exact ⟨rfl, hR121.toBelow⟩
  have hq118 := of_decide_eq_false hq118
  refine sim_run 8 [] hR117 (by kernel_rfl) trivial (fun ρ122 w122 hm122 hR122 => ?_)
  have hbk := hbk.moved hm122
  
  have hlen := h.len
  have hpos : 0 < n := by omega
  obtain ⟨ga, oa, rfl, hgl, _⟩ := h.rd.spot hpos (by omega)
  refine sim_loop (ι := Nat) (T := []) (w0 := w) 0 [0, 1, 4, 5] (fun k => [(6, LI k)]) (fun _ => []) (fun k w1 => (k : Int) ≤ m ∧ ∃ v, BkO ρ122 [] w1 w100.heap.size g v (idsL ts k)) (fun k => (m - k).toNat) (by kernel_rfl) (by kernel_rfl) (hR122.cast (by kernel_rfl)) ⟨by omega, .slice none 0 0, hbk.castR (by kernel_rfl)⟩ ?_
  iterate 12 (try clear hbk)
  clear hR122 hm122
  rintro k d w2 hR2 ⟨hk, v, hbk⟩
  by_cases hlt : (k : Int) < m
  · have hkn : k % n < n := Nat.mod_lt _ hpos
    obtain ⟨t, ht⟩ : ∃ t, ts[k % n]? = some t := ⟨_, List.getElem?_eq_getElem (by omega)⟩
    have htm : Int.tmod (k : Int) (n : Int) = ((k % n : Nat) : Int) := (Int.ofNat_tmod k n).symm
    have h4 : Int.tmod (k : Int) 4 = ((k % 4 : Nat) : Int) := (Int.ofNat_tmod k 4).symm
    have h2 : Int.tmod (k : Int) 2 = ((k % 2 : Nat) : Int) := (Int.ofNat_tmod k 2).symm
    have h3 : Int.tmod (k : Int) 3 = ((k % 3 : Nat) : Int) := (Int.ofNat_tmod k 3).symm
    have hx : (ts.map Tm.cells)[k % n]? = some t.cells := by rw [List.getElem?_map, ht]; rfl
    have hts : t.okM M := h.ok t (List.mem_of_getElem? ht)
    have b2 : (Int.tmod (k : Int) 2 == 0) = decide (k % 2 = 0) := by rw [h2]; by_cases e : k % 2 = 0 <;> simp [e] <;> omega
    have b3 : (Int.tmod (k : Int) 3 == 0) = decide (k % 3 = 0) := by rw [h3]; by_cases e : k % 3 = 0 <;> simp [e] <;> omega
    have hadd : addM (idsL ts k) t (1 + Int.tmod (k : Int) 4) (Int.tmod (k : Int) 2 == 0) (Int.tmod (k : Int) 3 == 0) = (idsL ts (k + 1), if 120 ≤ k then (0, 10) else ((k : Int) + 1, 0)) := by rw [h4, b2, b3]; exact ids_add (by rw [hlen]; exact ht)
    refine sim_run 7 [] hR2 (by kernel_rfl) trivial (fun ρ200 w200 hm200 hR200 => ?_)
    have hbk := hbk.moved hm200
    refine sim_know 42 (decide ((↑k : Int) < m)) true (by kernel_rfl) (decide_eq_true (by omega)) ?_
    refine sim_run 10 [] hR200 (by kernel_rfl) trivial (fun ρ201 w201 hm201 hR201 => ?_)
    have hbk := hbk.moved hm201
    
    refine sim_rem k n (by kernel_rfl) (by omega) ((k % n : Nat) : Int) htm ?_
    by_cases hfull : 120 ≤ k
    · have hadd : addM (idsL ts k) ⟨t.party, t.account, t.money, t.other, t.deliver, t.asset, t.ccy, t.ref, t.qty, t.amount, t.day, t.trade⟩ (1 + Int.tmod (k : Int) 4) (Int.tmod (k : Int) 2 == 0) (Int.tmod (k : Int) 3 == 0) = (idsL ts (k + 1), 0, 10) := by rw [if_pos hfull] at hadd; exact hadd
      refine sim_elem t.cells cp (k % n) 0 (by kernel_rfl) (by kernel_rfl) hx h.rd (tm_len ts) (by omega) hkn (Nat.le_refl _) (by simp) hR201 (by kernel_rfl) (fun ρ300 hm300 hf300 eG hR300 => ?_)
      have hbk := hbk.moved hm300
      have hag := hR300.ag_ 1 (by kernel_rfl)
      refine sim_run 17 [⟨8, 4, LI (IntKind.i64.wrap (1 + (↑k : Int).tmod 4)), LI (1 + (↑k : Int).tmod 4)⟩] hR300 (by kernel_rfl) ⟨eqi (IntWalk.i64_in _ (by omega)), trivial⟩ (fun ρ301 w301 hm301 hR301 => ?_)
      have hbk := hbk.moved hm301
      have hag := hag.moved hm301
      refine sim_call 21 [.v (Value.pointer (some (Addr.mk g 0 none))), .agg [LS t.party, LS t.account, LS t.money, LS t.other, LB t.deliver, LS t.asset, LS t.ccy, LS t.ref, LI t.qty, LI t.amount, LI t.day, LI t.trade], LI (1 + (↑k : Int).tmod 4), LB ((↑k : Int).tmod 2 == 0), LB ((↑k : Int).tmod 3 == 0)] (by kernel_rfl) ?_
      refine Calls.mono (add_bk _ _ _ _ _ _ _ _ _ _ _ _ _ _ _ _ _ _ _ _ hbk.bk (hts.short hM)) ?_
      rw [hadd]
      rintro e302 w302 ⟨v302, rfl, hbv302, hk302, hv302⟩
      obtain ⟨hbk, hR302⟩ := hbk.after hR301 hBw hbv302 hk302 hv302 [0] (by kernel_rfl) (by intro q hq; simp only [List.mem_singleton] at hq; subst hq; rw [hag.at_ 0 (by omega)]; exact eG)
      refine Back.of (.tup [LI ((idsL ts (k + 1), 0, 10).snd.fst), LI ((idsL ts (k + 1), 0, 10).snd.snd)]) hR302 rfl ?_
      refine sim_run 12 [] hR302 (by kernel_rfl) trivial (fun ρ303 w303 hm303 hR303 => ?_)
      have hag := hag.moved hm303
      have hbk := hbk.moved hm303
      refine sim_know 68 (decide ((↑k : Int) ≥ 120)) true (by kernel_rfl) (decide_eq_true (by omega)) ?_
      refine sim_run 19 [⟨6, 1, LI (IntKind.i64.wrap ((↑k : Int) + 1)), LI ((↑k : Int) + 1)⟩] hR303 (by kernel_rfl) ⟨eqi (IntWalk.i64_in _ (by omega)), trivial⟩ (fun ρ304 w304 hm304 hR304 => ?_)
      have hag := hag.moved hm304
      have hbk := hbk.moved hm304
      
      refine sim_again (k + 1) (by kernel_rfl) (by show (m - ((k + 1 : Nat) : Int)).toNat < (m - (k : Int)).toNat; omega) (by kernel_rfl) (by kernel_rfl) (by kernel_rfl) (fun j hj => by simp at hj) hR304 (by kernel_rfl) (by kernel_rfl) ⟨by omega, _, hbk.cut (N := 0) ⟨fun j hj => absurd hj (Nat.not_lt_zero j), Nat.zero_le _⟩ rfl (by kernel_rfl)⟩
    · have hadd : addM (idsL ts k) ⟨t.party, t.account, t.money, t.other, t.deliver, t.asset, t.ccy, t.ref, t.qty, t.amount, t.day, t.trade⟩ (1 + Int.tmod (k : Int) 4) (Int.tmod (k : Int) 2 == 0) (Int.tmod (k : Int) 3 == 0) = (idsL ts (k + 1), (k : Int) + 1, 0) := by rw [if_neg hfull] at hadd; exact hadd
      have hget : getM (idsL ts (k + 1)) ((k : Int) + 1) = (idI ts k, 0) := ids_get (by omega)
      have hI : idI ts k = newI k t (1 + Int.tmod (k : Int) 4) (Int.tmod (k : Int) 2 == 0) (Int.tmod (k : Int) 3 == 0) := by rw [h4, b2, b3]; unfold idI; rw [hlen, ht]; rfl
      refine sim_elem t.cells cp (k % n) 0 (by kernel_rfl) (by kernel_rfl) hx h.rd (tm_len ts) (by omega) hkn (Nat.le_refl _) (by simp) hR201 (by kernel_rfl) (fun ρ400 hm400 hf400 eG hR400 => ?_)
      have hbk := hbk.moved hm400
      have hag := hR400.ag_ 1 (by kernel_rfl)
      refine sim_run 17 [⟨8, 4, LI (IntKind.i64.wrap (1 + (↑k : Int).tmod 4)), LI (1 + (↑k : Int).tmod 4)⟩] hR400 (by kernel_rfl) ⟨eqi (IntWalk.i64_in _ (by omega)), trivial⟩ (fun ρ401 w401 hm401 hR401 => ?_)
      have hbk := hbk.moved hm401
      have hag := hag.moved hm401
      refine sim_call 21 [.v (Value.pointer (some (Addr.mk g 0 none))), .agg [LS t.party, LS t.account, LS t.money, LS t.other, LB t.deliver, LS t.asset, LS t.ccy, LS t.ref, LI t.qty, LI t.amount, LI t.day, LI t.trade], LI (1 + (↑k : Int).tmod 4), LB ((↑k : Int).tmod 2 == 0), LB ((↑k : Int).tmod 3 == 0)] (by kernel_rfl) ?_
      refine Calls.mono (add_bk _ _ _ _ _ _ _ _ _ _ _ _ _ _ _ _ _ _ _ _ hbk.bk (hts.short hM)) ?_
      rw [hadd]
      rintro e402 w402 ⟨v402, rfl, hbv402, hk402, hv402⟩
      obtain ⟨hbk, hR402⟩ := hbk.after hR401 hBw hbv402 hk402 hv402 [0] (by kernel_rfl) (by intro q hq; simp only [List.mem_singleton] at hq; subst hq; rw [hag.at_ 0 (by omega)]; exact eG)
      refine Back.of (.tup [LI ((idsL ts (k + 1), (↑k : Int) + 1, 0).snd.fst), LI ((idsL ts (k + 1), (↑k : Int) + 1, 0).snd.snd)]) hR402 rfl ?_
      refine sim_run 12 [] hR402 (by kernel_rfl) trivial (fun ρ403 w403 hm403 hR403 => ?_)
      have hag := hag.moved hm403
      have hbk := hbk.moved hm403
      refine sim_know 68 (decide ((↑k : Int) ≥ 120)) false (by kernel_rfl) (decide_eq_false (by omega)) ?_
      refine sim_run 6 [] hR403 (by kernel_rfl) trivial (fun ρ404 w404 hm404 hR404 => ?_)
      have hag := hag.moved hm404
      have hbk := hbk.moved hm404
      refine sim_call 22 [.v (Value.pointer (some (Addr.mk g 0 none))), LI ((idsL ts (k + 1), (↑k : Int) + 1, 0).snd.fst)] (by kernel_rfl) ?_
      refine Calls.mono (get_bk _ _ _ _ _ _ hbk.bk (by show Is64 ((k : Int) + 1); unfold Is64; omega)) ?_
      rw [hget]
      rintro e405 w405 ⟨rfl, hb405⟩
      have hR405 := hR404.below hb405
      have hbk := hbk.below hb405
      refine Back.of (.tup [.agg (((idI ts k, 0).fst).cells.map .v), LI ((idI ts k, 0).snd)]) hR405 rfl ?_
      refine sim_run 18 [⟨13, 5, LI (IntKind.i64.wrap ((↑k : Int) + 1)), LI ((↑k : Int) + 1)⟩] hR405 (by kernel_rfl) ⟨eqi (IntWalk.i64_in _ (by omega)), trivial⟩ (fun ρ406 w406 hm406 hR406 => ?_)
      have hag := hag.moved hm406
      have hbk := hbk.moved hm406
      refine sim_fork 89 ((idsL ts (k + 1), (↑k : Int) + 1, 0).snd.fst != (↑k : Int) + 1) (by kernel_rfl) (fun hq407 => ?_) (fun hq407 => ?_)
      have hq407 := nb_t hq407
      have hq407 := of_decide_eq_false hq407
      refine sim_run 59 [] hR406 (by kernel_rfl) trivial (fun ρ408 w408 hm408 hR408 => ?_)
      have hag := hag.moved hm408
      have hbk := hbk.moved hm408
      refine sim_ret (LB false) hR408 (by kernel_rfl) (by kernel_rfl) ?_
      exact ⟨retv_bool (by clear hR408 hm408 hR406 hm406 hR405 hb405 hR404 hm404 hR403 hm403 hR402 hR401 hm401 hag hR400 hm400 hR201 hm201 hR200 hm200 hR2 hR117 hm117 hR112 hm112 hR107 hm107 hR102 hm102 hR101 hR100 hm100 hbel101 hR; grind []), hR408.toBelow⟩
      have hq407 := nb_f hq407
      have hq407 := of_decide_eq_true hq407
      refine sim_run 10 [] hR406 (by kernel_rfl) trivial (fun ρ409 w409 hm409 hR409 => ?_)
      have hag := hag.moved hm409
      have hbk := hbk.moved hm409
      refine sim_know 99 (!((idI ts k, 0).fst.term.party == t.party && ((idI ts k, 0).fst.term.account == t.account && ((idI ts k, 0).fst.term.money == t.money && ((idI ts k, 0).fst.term.other == t.other && ((idI ts k, 0).fst.term.deliver == t.deliver && ((idI ts k, 0).fst.term.asset == t.asset && ((idI ts k, 0).fst.term.ccy == t.ccy && ((idI ts k, 0).fst.term.ref == t.ref && ((idI ts k, 0).fst.term.qty == t.qty && ((idI ts k, 0).fst.term.amount == t.amount && ((idI ts k, 0).fst.term.day == t.day && ((idI ts k, 0).fst.term.trade == t.trade && true))))))))))))) false (by kernel_rfl) (by rw [hI]; simp [newI, ba_beq]) ?_
      refine sim_run 8 [⟨13, 23, LI (IntKind.i64.wrap (1 + (↑k : Int).tmod 4)), LI (1 + (↑k : Int).tmod 4)⟩] hR409 (by kernel_rfl) ⟨eqi (IntWalk.i64_in _ (by omega)), trivial⟩ (fun ρ410 w410 hm410 hR410 => ?_)
      have hag := hag.moved hm410
      have hbk := hbk.moved hm410
      refine sim_know 107 ((idI ts k, 0).fst.prio != 1 + (↑k : Int).tmod 4) false (by kernel_rfl) (by rw [hI]; simp [newI, ba_beq]) ?_
      refine sim_run 8 [] hR410 (by kernel_rfl) trivial (fun ρ411 w411 hm411 hR411 => ?_)
      have hag := hag.moved hm411
      have hbk := hbk.moved hm411
      refine sim_know 115 (!(idI ts k, 0).fst.part == ((↑k : Int).tmod 2 == 0)) false (by kernel_rfl) (by rw [hI]; simp [newI, ba_beq]) ?_
      refine sim_run 8 [] hR411 (by kernel_rfl) trivial (fun ρ412 w412 hm412 hR412 => ?_)
      have hag := hag.moved hm412
      have hbk := hbk.moved hm412
      refine sim_know 123 (!(idI ts k, 0).fst.held == ((↑k : Int).tmod 3 == 0)) false (by kernel_rfl) (by rw [hI]; simp [newI, ba_beq]) ?_
      refine sim_run 28 [⟨6, 1, LI (IntKind.i64.wrap ((↑k : Int) + 1)), LI ((↑k : Int) + 1)⟩] hR412 (by kernel_rfl) ⟨eqi (IntWalk.i64_in _ (by omega)), trivial⟩ (fun ρ413 w413 hm413 hR413 => ?_)
      have hag := hag.moved hm413
      have hbk := hbk.moved hm413
      
      refine sim_again (k + 1) (by kernel_rfl) (by show (m - ((k + 1 : Nat) : Int)).toNat < (m - (k : Int)).toNat; omega) (by kernel_rfl) (by kernel_rfl) (by kernel_rfl) (fun j hj => by simp at hj) hR413 (by kernel_rfl) (by kernel_rfl) ⟨by omega, _, hbk.cut (N := 0) ⟨fun j hj => absurd hj (Nat.not_lt_zero j), Nat.zero_le _⟩ rfl (by kernel_rfl)⟩
  · have hget : getM (idsL ts k) (m + 1) = (zeroIn, 3) := by
      unfold getM
      rw [ids_len, if_pos (by omega)]
    have hl := ids_len ts k
    refine sim_run 7 [] hR2 (by kernel_rfl) trivial (fun ρ500 w500 hm500 hR500 => ?_)
    have hbk := hbk.moved hm500
    refine sim_know 42 (decide ((↑k : Int) < m)) false (by kernel_rfl) (decide_eq_false (by omega)) ?_
    refine sim_run 1 [] hR500 (by kernel_rfl) trivial (fun ρ501 w501 hm501 hR501 => ?_)
    have hbk := hbk.moved hm501
    refine sim_leave (by kernel_rfl) ?_
    refine sim_run 5 [⟨15, 2, LI (IntKind.i64.wrap (m + 1)), LI (m + 1)⟩] hR501 (by kernel_rfl) ⟨eqi (IntWalk.i64_in _ (by omega)), trivial⟩ (fun ρ502 w502 hm502 hR502 => ?_)
    have hbk := hbk.moved hm502
    refine sim_call 22 [.v (Value.pointer (some (Addr.mk g 0 none))), LI (m + 1)] (by kernel_rfl) ?_
    refine Calls.mono (get_bk _ _ _ _ _ _ hbk.bk (by unfold Is64 at *; omega)) ?_
    rw [hget]
    rintro e503 w503 ⟨rfl, hb503⟩
    have hR503 := hR502.below hb503
    have hbk := hbk.below hb503
    refine Back.of (.tup [.agg (((zeroIn, 3).fst).cells.map .v), LI ((zeroIn, 3).snd)]) hR503 rfl ?_
    refine sim_run 9 [] hR503 (by kernel_rfl) trivial (fun ρ504 w504 hm504 hR504 => ?_)
    have hbk := hbk.moved hm504
    refine sim_call 20 [] (by kernel_rfl) ?_
    refine Calls.mono (alive14_any _) ?_
    rintro e505 w505 ⟨rfl, hb505⟩
    have hR505 := hR504.below hb505
    have hbk := hbk.below hb505
    refine Back.of (LB true) hR505 rfl ?_
    refine sim_run 2 [] hR505 (by kernel_rfl) trivial (fun ρ506 w506 hm506 hR506 => ?_)
    have hbk := hbk.moved hm506
    refine sim_call 23 [.v (Value.pointer (some (Addr.mk g 0 none)))] (by kernel_rfl) ?_
    refine Calls.mono (count_bk _ _ _ _ _ hbk.bk) ?_
    rintro e507 w507 ⟨rfl, hb507⟩
    have hR507 := hR506.below hb507
    have hbk := hbk.below hb507
    refine Back.of (LI ((↑(idsL ts k).length : Int))) hR507 rfl ?_
    refine sim_run 5 [] hR507 (by kernel_rfl) trivial (fun ρ508 w508 hm508 hR508 => ?_)
    have hbk := hbk.moved hm508
    refine sim_know 158 ((↑(idsL ts k).length : Int) == if 120 < m then 120 else m) true (by kernel_rfl) (decide_eq_true (by omega)) ?_
    refine sim_run 5 [] hR508 (by kernel_rfl) trivial (fun ρ509 w509 hm509 hR509 => ?_)
    have hbk := hbk.moved hm509
    refine sim_ret (LB true) hR509 (by kernel_rfl) (by kernel_rfl) ?_
    exact ⟨rfl, hR509.toBelow⟩
    
end Go.Proofs.Ytodjhkmbgennaaa
