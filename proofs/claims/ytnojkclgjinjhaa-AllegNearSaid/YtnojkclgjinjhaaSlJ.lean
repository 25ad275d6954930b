/-
  A row of instructions that a caller handed in: an element's place comes into view; complinelaw15.one.
-/
import Derived.Test.YtnojkclgjinjhaaMatchE
import Derived.Test.YtnojkclgjinjhaaSimHN
namespace Go.Proofs.Ytnojkclgjinjhaa
open Go Go.RowKit
attribute [local irreducible] run goO goN ordGoN eqlOf eqlOper eqlOfO cellL leaveK someK nextK nextT nextOT nextOD loopBody loopRest loopK fillJ tmplOf tmplJ mergeT At AtO drawOk ordOf gateOf callC callO topOp topO idxOf appOf storeOf clearOf sliceOf calleeOf calleeO topQ idxQ newRowOf resL stepOp seek

section
variable {Q : Exit → Act → World → Prop} {c : Cfg} {ρ : Nm} {w0 w : World}
theorem old_not {w0 w : World} {ρ : Nm} {rs : List Reg} (hR : Rel [] w0 ρ rs w) {g : Nat} (hg : g < w0.heap.size) : ∀ (n : Nat) (r : Reg), rs[n]? = some r → r.wr = true → (ρ n).1 = g → False := fun n r hn hw e => by
  rcases (hR.wr n r hn hw).1 with h | h
  · simp at h
  · omega
/-- an element of a given row of instructions is met -/
theorem sim_inst {A : Option Addr} {n B : Nat} {l : List In} (cp k N : Nat) (h : idxOf Try.prog c = some (.v (.slice A n cp), n, (k : Int), 21)) (hN : c.rs.length = N) (hk : k < n) (hrd : Reads w0 B 21 A n (insts l)) (hB : B ≤ w0.heap.size) (hR : Rel [] w0 ρ c.rs w) (hu : (undR N c.rs && undL N c.tmps) = true)
    (next : ∀ x ρ', l[k]? = some x → Agree N ρ ρ' → Rel [] w0 ρ' (c.rs ++ [⟨x.cells.map .v, false⟩]) w → At Try.prog Q (nextC c (.ptr N 0) (c.rs ++ [⟨x.cells.map .v, false⟩])) ρ' w) : At Try.prog Q c ρ w := by
  have hb : Below w0.heap.size w0 w := hR.toBelow
  obtain ⟨g, o, x, rfl, hg, hx, hc⟩ := (hrd.belowN hb hB).inst hk
  simp only [Bool.and_eq_true] at hu
  refine sim_index (.v (.slice (some ⟨g, o, none⟩) n cp)) n 21 k N h hN (by omega) (by omega) rfl hR (x.cells.map .v) (by rw [hu.1, hu.2, denV_und]; rfl) (by have := hb.size; omega) (fun j v hv => InAt.lv (fun j v hv => by rw [Int.toNat_natCast]; exact hc j v hv) ρ j v hv) (old_not hR (by omega)) (fun ρ' ha hn hR' => next x ρ' hx ha hR')
/-- an element of a given row of instructions comes into view -/
theorem sim_view {A : Option Addr} {n B : Nat} {l : List In} (k N : Nat) (hN : c.rs.length = N) (hk : k < n) (hrd : Reads w0 B 21 A n (insts l)) (hB : B ≤ w0.heap.size) (hR : Rel [] w0 ρ c.rs w) (hu : (undR N c.rs && undL N c.tmps) = true)
    (next : ∀ g o x ρ', A = some ⟨g, o, none⟩ → l[k]? = some x → Agree N ρ ρ' → ρ' N = (g, o + k * 21) → Rel [] w0 ρ' (c.rs ++ [⟨x.cells.map .v, false⟩]) w → At Try.prog Q ⟨c.k, c.tmps, c.rs ++ [⟨x.cells.map .v, false⟩]⟩ ρ' w) : At Try.prog Q c ρ w := by
  have hb : Below w0.heap.size w0 w := hR.toBelow
  obtain ⟨g, o, x, rfl, hg, hx, hc⟩ := (hrd.belowN hb hB).inst hk
  simp only [Bool.and_eq_true] at hu
  exact sim_open N hN hR g (o + k * 21) (x.cells.map .v) (by rw [hu.1, hu.2, denV_und]; rfl) (by have := hb.size; omega) (fun j v hv => InAt.lv hc ρ j v hv) (old_not hR (by omega)) (fun ρ' ha hn hR' => next g o x ρ' rfl hx ha hn hR')
end

/-! ### one -/
def zeroIn : In := ⟨0, ⟨noText, noText, noText, noText, false, noText, noText, noText, 0, 0, 0, 0⟩, 0, false, false, false, 0, 0, 0, 0⟩
def oneM (l : List In) (id : Int) : In × Bool := match l.find? (·.id == id) with
  | some x => (x, true)
  | none => (zeroIn, false)
theorem find_here {p : In → Bool} {l : List In} {k : Nat} {x : In} (hx : l[k]? = some x) (h : (l.take k).find? p = none) : l.find? p = if p x then some x else (l.drop (k + 1)).find? p := by
  obtain ⟨hk, rfl⟩ := List.getElem?_eq_some_iff.1 hx
  conv => lhs; rw [← List.take_append_drop k l, List.find?_append, h, ← List.getElem_cons_drop (h := hk)]
  simp only [Option.none_or, List.find?_cons]
  cases p l[k] <;> simp
theorem find_on {p : In → Bool} {l : List In} {k : Nat} {x : In} (hx : l[k]? = some x) (h : (l.take k).find? p = none) (hp : p x = false) : (l.take (k + 1)).find? p = none := by
  rw [List.take_add_one, hx, List.find?_append, h]
  simp [hp]
set_option maxRecDepth 100000 in
theorem one_any (A : Option Addr) (n cp B : Nat) (l : List In) (id : Int) (w : World) (h : Reads w B 21 A n (insts l)) (hB : B ≤ w.heap.size) (hn : n ≤ 100000) :
    Calls Try.prog 12 #[.slice A n cp, .int .i64 id] w fun e w' => e = .returned (.tuple #[(oneM l id).1.val, .bool (oneM l id).2]) ∧ Below w.heap.size w w' := by
  have hl := h.insts_len
  refine sim_enter Try.func12 ρ0 [.v (.slice A n cp), LI id] [] (by kernel_rfl) rfl ?_
  refine sim_run 1000 [] (Rel.start [] w ρ0) (by kernel_rfl) trivial (fun ρ1 w1 hm1 hR1 => ?_)
  refine sim_loop (ι := Nat) (T := []) (w0 := w) 0 [0, 1, 4, 5] (fun k => [(6, LI k)]) (fun _ => [⟨zeroI, true⟩]) (fun k _ => k ≤ n ∧ (l.take k).find? (·.id == id) = none) (fun k => n - k) (by kernel_rfl) (by kernel_rfl) (hR1.cast (by kernel_rfl)) ⟨Nat.zero_le _, rfl⟩ ?_
  rintro k d w2 hR2 ⟨hk, hno⟩
  by_cases hlt : k < n
  · refine sim_run 1000 [⟨2, 3, LB (decide ((k : Int) < (n : Int))), LB true⟩] hR2 (by kernel_rfl) ⟨eqb (by simp; omega), trivial⟩ (fun ρ3 w3 hm3 hR3 => ?_)
    obtain ⟨g, o, _, rfl, _, _, _⟩ := h.inst hlt
    refine sim_inst cp k 1 (by kernel_rfl) (by kernel_rfl) hlt h hB hR3 (by kernel_rfl) (fun x ρ4 hx ha4 hR4 => ?_)
    cases hid : x.id == id with
    | true =>
      refine sim_run 1000 [⟨4, 6, LB (x.id == id), LB true⟩] hR4 (by kernel_rfl) ⟨eqb hid, trivial⟩ (fun ρ5 w5 hm5 hR5 => ?_)
      refine sim_inst cp k 2 (by kernel_rfl) (by kernel_rfl) hlt h hB hR5 (by kernel_rfl) (fun x' ρ6 hx' ha6 hR6 => ?_)
      obtain rfl : x = x' := by rw [hx] at hx'; exact Option.some.inj hx'
      refine sim_run 1000 [] hR6 (by kernel_rfl) trivial (fun ρ7 w7 hm7 hR7 => ?_)
      refine sim_ret (.tup [.agg (x.cells.map .v), LB true]) hR7 (by kernel_rfl) (by kernel_rfl) ⟨?_, hR7.toBelow⟩
      unfold oneM
      rw [find_here hx hno, if_pos hid]
      rfl
    | false =>
      refine sim_run 1000 [⟨4, 6, LB (x.id == id), LB false⟩, ⟨3, 1, LI (IntKind.i64.wrap ((k : Int) + 1)), LI ((k + 1 : Nat) : Int)⟩] hR4 (by kernel_rfl) ⟨eqb hid, eqi (by rw [IntWalk.i64_in _ (by omega)]; omega), trivial⟩ (fun ρ5 w5 hm5 hR5 => ?_)
      refine sim_again (k + 1) (by kernel_rfl) (show n - (k + 1) < n - k by omega) (by kernel_rfl) (by kernel_rfl) (by kernel_rfl) (((hm3.agN 1 (by kernel_rfl)).tr ha4).tr (hm5.agN 1 (by kernel_rfl))) hR5 (by kernel_rfl) (by kernel_rfl) ⟨hlt, find_on hx hno hid⟩
  · refine sim_run 1000 [⟨2, 3, LB (decide ((k : Int) < (n : Int))), LB false⟩] hR2 (by kernel_rfl) ⟨eqb (by simp; omega), trivial⟩ (fun ρ3 w3 hm3 hR3 => ?_)
    refine sim_leave (by kernel_rfl) ?_
    refine sim_run 1000 [] hR3 (by kernel_rfl) trivial (fun ρ4 w4 hm4 hR4 => ?_)
    refine sim_ret (.tup [.agg (zeroIn.cells.map .v), LB false]) hR4 (by kernel_rfl) (by kernel_rfl) ⟨?_, hR4.toBelow⟩
    rw [List.take_of_length_le (by omega)] at hno
    unfold oneM
    rw [hno]
    rfl
end Go.Proofs.Ytnojkclgjinjhaa
