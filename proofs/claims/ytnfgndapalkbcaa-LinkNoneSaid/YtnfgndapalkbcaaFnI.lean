/-
  slices.IndexFunc, slices.ContainsFunc at int, and IndexFunc at rows of ints.
-/
import Derived.Test.YtnfgndapalkbcaaGrB
namespace Go.Proofs.Ytnfgndapalkbcaa
open Go Go.RowKit
theorem ints_get {l : List Int} {k : Nat} {x : Int} (h : l[k]? = some x) : (ints l)[k]? = some (.int .i64 x) := by unfold ints; rw [List.getElem?_map, h]; rfl
/-- where p holds first, or -1 -/
def idxF {α : Type} (p : α → Bool) : List α → Nat → Int
  | [], _ => -1
  | a :: l, i => if p a = true then (i : Int) else idxF p l (i + 1)
theorem idxF_ge {α : Type} (p : α → Bool) : ∀ (l : List α) (i : Nat), decide (0 ≤ idxF p l i) = l.any p
  | [], _ => rfl
  | a :: l, i => by
    rw [Bool.eq_iff_iff, decide_eq_true_iff, List.any_cons, Bool.or_eq_true, ← idxF_ge p l (i + 1), decide_eq_true_iff]
    show (0 ≤ if p a = true then (i : Int) else idxF p l (i + 1)) ↔ _
    by_cases h : p a = true
    · rw [if_pos h]
      exact ⟨fun _ => .inl h, fun _ => by omega⟩
    · rw [if_neg h]
      exact ⟨.inr, fun h' => h'.resolve_left h⟩
theorem idxF_here {α : Type} {p : α → Bool} {l : List α} {k : Nat} {a : α} (h : l[k]? = some a) : idxF p (l.drop k) k = if p a = true then (k : Int) else idxF p (l.drop (k + 1)) (k + 1) := by
  have hk := (List.getElem?_eq_some_iff.1 h)
  obtain ⟨hlt, he⟩ := hk
  rw [← List.getElem_cons_drop hlt, he]
  rfl
theorem below_mono {B B' : Nat} {w w' : World} (h : Below B w w') (hB : B' ≤ B) : Below B' w w' := ⟨h.os, h.tape, h.output, h.size, fun k hk => h.block k (by omega)⟩
/-- a function value that answers p at each number of l, as long as what was there stands -/
def PredZ (w : World) (f : FuncId) (caps : Array Value) (p : Int → Bool) (l : List Int) : Prop :=
  ∀ (x : Int) (w1 : World), x ∈ l → Below w.heap.size w w1 → Calls Try.prog f (#[.int .i64 x] ++ caps) w1 fun e w2 => e = .returned (.bool (p x)) ∧ Below w1.heap.size w1 w2
attribute [local irreducible] run goO leaveK someK nextK nextT nextOT nextOD loopBody loopRest loopK fillJ tmplOf tmplJ mergeT At AtO drawOk ordOf gateOf callC callO topOp topO idxOf appOf storeOf clearOf sliceOf calleeOf calleeO topQ idxQ newRowOf resL stepOp seek
set_option maxRecDepth 100000 in
set_option maxHeartbeats 4000000 in
theorem indexFI_any (f : FuncId) (hf : Enters Try.prog f) (caps : Array Value) (p : Int → Bool) (A : Option Addr) (n cp B : Nat) (l : List Int) (w : World) (h : Reads w B 1 A n (ints l)) (hB : B ≤ w.heap.size) (hn : n ≤ 100000) (hp : PredZ w f caps p l) :
    Calls Try.prog 70 #[.slice A n cp, .func (.func f) #[] caps] w fun e w' => e = .returned (.int .i64 (idxF p l 0)) ∧ Below w.heap.size w w' := by
  have hl : l.length = n := h.int_len
  refine sim_enter Try.func70 ρ0 [.v (.slice A n cp), .v (.func (.func f) #[] caps)] [] (by kernel_rfl) rfl ?_
  have hR := Rel.start [] w ρ0
  refine sim_run 12 [] (hR.cast (by kernel_rfl)) (by kernel_rfl) trivial (fun ρ100 w100 hm100 hR100 => ?_)
  
  refine sim_loop (ι := Nat) (T := []) (w0 := w) 0 [0, 1, 7] (fun k => [(8, LI k)]) (fun _ => []) (fun k _ => k ≤ n ∧ idxF p l 0 = idxF p (l.drop k) k) (fun k => n - k) (by kernel_rfl) (by kernel_rfl) (hR100.cast (by kernel_rfl)) ⟨Nat.zero_le _, rfl⟩ ?_
  clear hR hm100 hR100
  rintro k d w2 hR2 ⟨hk, hs⟩
  by_cases hlt : k < n
  · obtain ⟨ga, oa, rfl, _, _⟩ := h.spot (by omega) (by omega)
    obtain ⟨a, ha⟩ : ∃ a, l[k]? = some a := ⟨_, List.getElem?_eq_getElem (by omega)⟩
    have ham := List.mem_of_getElem? ha
    rw [idxF_here ha] at hs
    by_cases he : p a = true
    · rw [if_pos he] at hs
      refine sim_run 5 [] (hR2.cast (by kernel_rfl)) (by kernel_rfl) trivial (fun ρ200 w200 hm200 hR200 => ?_)
      refine sim_know 9 (decide ((↑k : Int) < (↑n : Int))) true (by kernel_rfl) (decide_eq_true (by omega)) ?_
      refine sim_run 14 [] (hR200.cast (by kernel_rfl)) (by kernel_rfl) trivial (fun ρ201 w201 hm201 hR201 => ?_)
      refine sim_cell cp k 0 (.int .i64 a) (by kernel_rfl) (by kernel_rfl) hlt h (ints_get ha) hB (by simp) hR201 (by kernel_rfl) (fun ρ202 hm202 hf202 hR202 => ?_)
      refine sim_run 1 [] (hR202.cast (by kernel_rfl)) (by kernel_rfl) trivial (fun ρ203 w203 hm203 hR203 => ?_)
      refine sim_callF f caps (.v (Value.func (Fn.func f) (Array.mk []) caps)) [LI a] (by kernel_rfl) rfl hf (Calls.mono (hp a _ ham (hR203).toBelow) ?_)
      rw [he]
      rintro e204 w204 ⟨rfl, hb204⟩
      have hR204 := (hR203).below hb204
      refine Back.of (LB true) hR204 rfl ?_
      refine sim_run 7 [] (hR204.cast (by kernel_rfl)) (by kernel_rfl) trivial (fun ρ205 w205 hm205 hR205 => ?_)
      refine sim_ret (LI ((↑k : Int))) hR205 (by kernel_rfl) (by kernel_rfl) ?_
      exact ⟨retv_int (by clear hR205 hm205 hR204 hb204 hR203 hm203 hR202 hm202 hR201 hm201 hR200 hm200 hR2; grind []), hR205.toBelow⟩
      
    · rw [if_neg he] at hs
      have he2 : p a = false := by simpa using he
      refine sim_run 5 [] (hR2.cast (by kernel_rfl)) (by kernel_rfl) trivial (fun ρ300 w300 hm300 hR300 => ?_)
      refine sim_know 9 (decide ((↑k : Int) < (↑n : Int))) true (by kernel_rfl) (decide_eq_true (by omega)) ?_
      refine sim_run 14 [] (hR300.cast (by kernel_rfl)) (by kernel_rfl) trivial (fun ρ301 w301 hm301 hR301 => ?_)
      refine sim_cell cp k 0 (.int .i64 a) (by kernel_rfl) (by kernel_rfl) hlt h (ints_get ha) hB (by simp) hR301 (by kernel_rfl) (fun ρ302 hm302 hf302 hR302 => ?_)
      refine sim_run 1 [] (hR302.cast (by kernel_rfl)) (by kernel_rfl) trivial (fun ρ303 w303 hm303 hR303 => ?_)
      refine sim_callF f caps (.v (Value.func (Fn.func f) (Array.mk []) caps)) [LI a] (by kernel_rfl) rfl hf (Calls.mono (hp a _ ham (hR303).toBelow) ?_)
      rw [he2]
      rintro e304 w304 ⟨rfl, hb304⟩
      have hR304 := (hR303).below hb304
      refine Back.of (LB false) hR304 rfl ?_
      refine sim_run 8 [⟨6, 0, LI (IntKind.i64.wrap ((↑k : Int) + 1)), LI ((↑k : Int) + 1)⟩] (hR304.cast (by kernel_rfl)) (by kernel_rfl) ⟨eqi (IntWalk.i64_in _ (by omega)), trivial⟩ (fun ρ305 w305 hm305 hR305 => ?_)
      
      exact sim_again (k + 1) (by kernel_rfl) (by show n - (k + 1) < n - k; omega) (by kernel_rfl) (by kernel_rfl) (by kernel_rfl) (fun m hm => by simp at hm) (by assumption : Rel _ _ _ _ _) (by kernel_rfl) (by kernel_rfl) ⟨hlt, hs⟩
  · refine sim_run 5 [] (hR2.cast (by kernel_rfl)) (by kernel_rfl) trivial (fun ρ400 w400 hm400 hR400 => ?_)
    refine sim_know 9 (decide ((↑k : Int) < (↑n : Int))) false (by kernel_rfl) (decide_eq_false (by omega)) ?_
    refine sim_run 1 [] (hR400.cast (by kernel_rfl)) (by kernel_rfl) trivial (fun ρ401 w401 hm401 hR401 => ?_)
    refine sim_leave (by kernel_rfl) ?_
    refine sim_run 4 [] (hR401.cast (by kernel_rfl)) (by kernel_rfl) trivial (fun ρ402 w402 hm402 hR402 => ?_)
    refine sim_ret (LI (-1)) hR402 (by kernel_rfl) (by kernel_rfl) ?_
    
    have hkn : k = n := by omega
    rw [hkn, ← hl, List.drop_length] at hs
    exact ⟨retv_int (hs.trans rfl).symm, ((by assumption : Rel _ _ _ _ _)).toBelow⟩
set_option maxRecDepth 100000 in
set_option maxHeartbeats 4000000 in
theorem containsFI_any (f : FuncId) (hf : Enters Try.prog f) (caps : Array Value) (p : Int → Bool) (A : Option Addr) (n cp B : Nat) (l : List Int) (w : World) (h : Reads w B 1 A n (ints l)) (hB : B ≤ w.heap.size) (hn : n ≤ 100000) (hp : PredZ w f caps p l) :
    Calls Try.prog 52 #[.slice A n cp, .func (.func f) #[] caps] w fun e w' => e = .returned (.bool (l.any p)) ∧ Below w.heap.size w w' := by
  refine sim_enter Try.func52 ρ0 [.v (.slice A n cp), .v (.func (.func f) #[] caps)] [] (by kernel_rfl) rfl ?_
  have hR := Rel.start [] w ρ0
  refine sim_run 8 [] (hR.cast (by kernel_rfl)) (by kernel_rfl) trivial (fun ρ500 w500 hm500 hR500 => ?_)
  
  refine sim_call 70 [.v (.slice A n cp), .v (.func (.func f) #[] caps)] (by kernel_rfl) ?_
  refine (indexFI_any f hf caps p A n cp B l _ (h.belowW hR500.toBelow hB) (Nat.le_trans hB hR500.keeps.size) hn (fun x w1 hx hb => hp x w1 hx (hR500.toBelow.trans (below_mono hb hR500.keeps.size)))).mono ?_
  rw [← idxF_ge p l 0]
  rintro e w5 ⟨rfl, hb5⟩
  have hR5 := hR500.below hb5
  refine Back.of (LI (idxF p l 0)) hR5 rfl ?_
  refine sim_run 3 [] (hR5.cast (by kernel_rfl)) (by kernel_rfl) trivial (fun ρ600 w600 hm600 hR600 => ?_)
  refine sim_ret (LB (decide (idxF p l 0 ≥ 0))) hR600 (by kernel_rfl) (by kernel_rfl) ?_
  exact ⟨rfl, hR600.toBelow⟩
  
/-- a function value that answers p at each row of a list -/
def PredR (w : World) (f : FuncId) (caps : Array Value) (p : List Nat → Bool) (base B : Nat) (xss : List (List Nat)) : Prop :=
  ∀ (xs : List Nat) (A : Option Addr) (cap : Nat) (w1 : World), xs ∈ xss → Below w.heap.size w w1 → Reads w1 B 1 A xs.length (nats xs) → (∀ ad, A = some ad → base ≤ ad.block) → Calls Try.prog f (#[.slice A xs.length cap] ++ caps) w1 fun e w2 => e = .returned (.bool (p xs)) ∧ Below w1.heap.size w1 w2
set_option maxRecDepth 100000 in
set_option maxHeartbeats 4000000 in
theorem indexFR_any (f : FuncId) (hf : Enters Try.prog f) (caps : Array Value) (p : List Nat → Bool) (L : Option Addr) (cp base B : Nat) (xss : List (List Nat)) (w : World) (h : RowsR w B base L xss) (hB : B ≤ w.heap.size) (hn : xss.length ≤ 100000) (hp : PredR w f caps p base B xss) :
    Calls Try.prog 59 #[.slice L xss.length cp, .func (.func f) #[] caps] w fun e w' => e = .returned (.int .i64 (idxF p xss 0)) ∧ Below w.heap.size w w' := by
  have hR := Rel.start [] w ρ0
  have hrow : Sta (btw base B) (RowW B base L xss) ρ0 [] w := Sta.ro_ h (by kernel_rfl) (fun x hx => by have := hx.2; omega) RowW.same
  refine sim_enter Try.func59 ρ0 [.v (.slice L xss.length cp), .v (.func (.func f) #[] caps)] [] (by kernel_rfl) rfl ?_
  refine sim_run 12 [] (hR.cast (by kernel_rfl)) (by kernel_rfl) trivial (fun ρ700 w700 hm700 hR700 => ?_)
  have hrow := hrow.moved (hm700.castL (by kernel_rfl))
  
  refine sim_loop (ι := Nat) (T := []) (w0 := w) 0 [0, 1, 7] (fun k => [(8, LI k)]) (fun _ => []) (fun k w1 => k ≤ xss.length ∧ idxF p xss 0 = idxF p (xss.drop k) k ∧ Sta (btw base B) (RowW B base L xss) ρ700 [] w1) (fun k => xss.length - k) (by kernel_rfl) (by kernel_rfl) (hR700.cast (by kernel_rfl)) ⟨Nat.zero_le _, rfl, hrow.castR (by kernel_rfl)⟩ ?_
  iterate 4 (try clear hrow)
  clear hR hm700 hR700
  rintro k d w2 hR2 ⟨hk, hs, hrow⟩
  have hag0 := hR2.ag_ 0 (by kernel_rfl)
  by_cases hlt : k < xss.length
  · obtain ⟨xs, hx⟩ : ∃ xs, xss[k]? = some xs := ⟨_, List.getElem?_eq_getElem hlt⟩
    have hxm := List.mem_of_getElem? hx
    rw [idxF_here hx] at hs
    refine sim_seeRow k 0 (by kernel_rfl) hx hrow hR2 (by kernel_rfl) (fun ga oa Ac cc ρE eA hgb hrd hcc hcm hAc hmE eE hRE => ?_)
    subst eA
    have hrow := hrow.moved hmE
    have hrd := hrd.moved hmE
    have hag0 := hag0.moved hmE
    have hag := hRE.ag_ 1 (by kernel_rfl)
    by_cases he : p xs = true
    · rw [if_pos he] at hs
      refine sim_run 5 [] (hRE.cast (by kernel_rfl)) (by kernel_rfl) trivial (fun ρ800 w800 hm800 hR800 => ?_)
      have hrow := hrow.moved (hm800.castL (by kernel_rfl))
      have hrd := hrd.moved (hm800.castL (by kernel_rfl))
      have hag0 := hag0.moved (hm800.castL (by kernel_rfl))
      have hag := hag.moved (hm800.castL (by kernel_rfl))
      refine sim_know 9 (decide ((↑k : Int) < (↑xss.length : Int))) true (by kernel_rfl) (decide_eq_true (by omega)) ?_
      refine sim_run 14 [] (hR800.cast (by kernel_rfl)) (by kernel_rfl) trivial (fun ρ801 w801 hm801 hR801 => ?_)
      have hrow := hrow.moved (hm801.castL (by kernel_rfl))
      have hrd := hrd.moved (hm801.castL (by kernel_rfl))
      have hag0 := hag0.moved (hm801.castL (by kernel_rfl))
      have hag := hag.moved (hm801.castL (by kernel_rfl))
      refine sim_place (.v (.slice (some ⟨ga, oa, none⟩) xss.length cp)) xss.length 1 k 0 0 (by kernel_rfl) (by omega) (by omega) rfl (by simp only [Nm.at_, hag.at_ 0 (by omega), eE, Nat.add_zero, Int.toNat_natCast, Nat.mul_one]) ?_
      refine sim_run 1 [] (hR801.cast (by kernel_rfl)) (by kernel_rfl) trivial (fun ρ803 w803 hm803 hR803 => ?_)
      have hrow := hrow.moved (hm803.castL (by kernel_rfl))
      have hrd := hrd.moved (hm803.castL (by kernel_rfl))
      have hag0 := hag0.moved (hm803.castL (by kernel_rfl))
      have hag := hag.moved (hm803.castL (by kernel_rfl))
      refine sim_callF f caps (.v (Value.func (Fn.func f) (Array.mk []) caps)) [.v (Value.slice Ac xs.length cc)] (by kernel_rfl) rfl hf (Calls.mono (hp xs Ac cc _ hxm (hR803).toBelow hrd.is hAc) ?_)
      rw [he]
      rintro e804 w804 ⟨rfl, hb804⟩
      have hR804 := (hR803).below hb804
      refine Back.of (LB true) hR804 rfl ?_
      refine sim_run 7 [] (hR804.cast (by kernel_rfl)) (by kernel_rfl) trivial (fun ρ805 w805 hm805 hR805 => ?_)
      have hag0 := hag0.moved (hm805.castL (by kernel_rfl))
      have hag := hag.moved (hm805.castL (by kernel_rfl))
      refine sim_ret (LI ((↑k : Int))) hR805 (by kernel_rfl) (by kernel_rfl) ?_
      exact ⟨retv_int (by clear hR805 hm805 hR804 hb804 hR803 hm803 hR801 hm801 hR800 hm800 hag hRE hmE eE hag0 hR2; grind []), hR805.toBelow⟩
      
    · rw [if_neg he] at hs
      have he2 : p xs = false := by simpa using he
      refine sim_run 5 [] (hRE.cast (by kernel_rfl)) (by kernel_rfl) trivial (fun ρ900 w900 hm900 hR900 => ?_)
      have hrow := hrow.moved (hm900.castL (by kernel_rfl))
      have hrd := hrd.moved (hm900.castL (by kernel_rfl))
      have hag0 := hag0.moved (hm900.castL (by kernel_rfl))
      have hag := hag.moved (hm900.castL (by kernel_rfl))
      refine sim_know 9 (decide ((↑k : Int) < (↑xss.length : Int))) true (by kernel_rfl) (decide_eq_true (by omega)) ?_
      refine sim_run 14 [] (hR900.cast (by kernel_rfl)) (by kernel_rfl) trivial (fun ρ901 w901 hm901 hR901 => ?_)
      have hrow := hrow.moved (hm901.castL (by kernel_rfl))
      have hrd := hrd.moved (hm901.castL (by kernel_rfl))
      have hag0 := hag0.moved (hm901.castL (by kernel_rfl))
      have hag := hag.moved (hm901.castL (by kernel_rfl))
      refine sim_place (.v (.slice (some ⟨ga, oa, none⟩) xss.length cp)) xss.length 1 k 0 0 (by kernel_rfl) (by omega) (by omega) rfl (by simp only [Nm.at_, hag.at_ 0 (by omega), eE, Nat.add_zero, Int.toNat_natCast, Nat.mul_one]) ?_
      refine sim_run 1 [] (hR901.cast (by kernel_rfl)) (by kernel_rfl) trivial (fun ρ903 w903 hm903 hR903 => ?_)
      have hrow := hrow.moved (hm903.castL (by kernel_rfl))
      have hrd := hrd.moved (hm903.castL (by kernel_rfl))
      have hag0 := hag0.moved (hm903.castL (by kernel_rfl))
      have hag := hag.moved (hm903.castL (by kernel_rfl))
      refine sim_callF f caps (.v (Value.func (Fn.func f) (Array.mk []) caps)) [.v (Value.slice Ac xs.length cc)] (by kernel_rfl) rfl hf (Calls.mono (hp xs Ac cc _ hxm (hR903).toBelow hrd.is hAc) ?_)
      rw [he2]
      rintro e904 w904 ⟨rfl, hb904⟩
      have hR904 := (hR903).below hb904
      have hrow := hrow.below hb904
      have hrd := hrd.below hb904
      refine Back.of (LB false) hR904 rfl ?_
      refine sim_run 8 [⟨6, 0, LI (IntKind.i64.wrap ((↑k : Int) + 1)), LI ((↑k : Int) + 1)⟩] (hR904.cast (by kernel_rfl)) (by kernel_rfl) ⟨eqi (IntWalk.i64_in _ (by omega)), trivial⟩ (fun ρ905 w905 hm905 hR905 => ?_)
      have hag0 := hag0.moved (hm905.castL (by kernel_rfl))
      have hag := hag.moved (hm905.castL (by kernel_rfl))
      have hrow := hrow.moved (hm905.castL (by kernel_rfl))
      have hrd := hrd.moved (hm905.castL (by kernel_rfl))
      
      exact sim_again (k + 1) (by kernel_rfl) (by show xss.length - (k + 1) < xss.length - k; omega) (by kernel_rfl) (by kernel_rfl) (by kernel_rfl) (fun m hm => by simp at hm) (Rel.cast (by assumption) (by kernel_rfl)) (by kernel_rfl) (by kernel_rfl) ⟨hlt, hs, hrow.cut hag0 rfl (by kernel_rfl)⟩
  · refine sim_run 5 [] (hR2.cast (by kernel_rfl)) (by kernel_rfl) trivial (fun ρ1000 w1000 hm1000 hR1000 => ?_)
    have hrow := hrow.moved (hm1000.castL (by kernel_rfl))
    have hag0 := hag0.moved (hm1000.castL (by kernel_rfl))
    refine sim_know 9 (decide ((↑k : Int) < (↑xss.length : Int))) false (by kernel_rfl) (decide_eq_false (by omega)) ?_
    refine sim_run 1 [] (hR1000.cast (by kernel_rfl)) (by kernel_rfl) trivial (fun ρ1001 w1001 hm1001 hR1001 => ?_)
    have hrow := hrow.moved (hm1001.castL (by kernel_rfl))
    have hag0 := hag0.moved (hm1001.castL (by kernel_rfl))
    refine sim_leave (by kernel_rfl) ?_
    refine sim_run 4 [] (hR1001.cast (by kernel_rfl)) (by kernel_rfl) trivial (fun ρ1002 w1002 hm1002 hR1002 => ?_)
    have hrow := hrow.moved (hm1002.castL (by kernel_rfl))
    have hag0 := hag0.moved (hm1002.castL (by kernel_rfl))
    refine sim_ret (LI (-1)) hR1002 (by kernel_rfl) (by kernel_rfl) ?_
    
    have hkn : k = xss.length := by omega
    rw [hkn, List.drop_length] at hs
    exact ⟨retv_int (hs.trans rfl).symm, ((by assumption : Rel _ _ _ _ _)).toBelow⟩
end Go.Proofs.Ytnfgndapalkbcaa
