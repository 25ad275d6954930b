/-
  credit: purses and texts as keys of a map; what a loan is.
  Pledges: a row of them; indexes.
-/
import Derived.Test.YtioehmngkoffaaaMapL
import Derived.Test.YtioehmngkoffaaaFork
import Derived.Test.YtioehmngkoffaaaProg
import Derived.Test.YtioehmngkoffaaaShape
import Derived.Test.YtioehmngkoffaaaContS
import Derived.Test.YtioehmngkoffaaaSimO
import Derived.Test.YtioehmngkoffaaaMoneyAdd
namespace Go.Proofs.Ytioehmngkoffaaa
section
open Go Go.RowKit
attribute [local irreducible] run goO goN ordGoN eqlOf eqlOper eqlOfO cellL leaveK someK nextK nextT nextOT nextOD loopBody loopRest loopK fillJ tmplOf tmplJ mergeT At AtO drawOk ordOf gateOf callC callO topOp topO idxOf appOf storeOf clearOf sliceOf calleeOf calleeO topQ idxQ newRowOf resL stepOp seek

abbrev Key := ByteArray × ByteArray
def encK (k : Key) : Value := .agg #[.string k.1, .string k.2]
theorem ba_dec (a b : ByteArray) : (a == b) = decide (a = b) := by
  cases h : (a == b) with
  | true =>
    symm
    rw [decide_eq_true_iff]
    have h2 : (a.data == b.data) = true := h
    have h3 := eq_of_beq h2
    cases a; cases b; simp_all
  | false =>
    symm
    rw [decide_eq_false_iff_not]
    rintro rfl
    have : (a == a) = true := by
      obtain ⟨d⟩ := a
      show (d == d) = true
      simp
    rw [this] at h
    cases h
theorem key_eqIn (a b : Key) : eqIn Try.prog Op.maxDepth 57 (encK a) (encK b) = some (a.1 == b.1 && (a.2 == b.2 && true)) := by kernel_rfl
theorem kt_key : KT Try.prog 57 encK := by
  refine ⟨fun a b w => ?_, fun d hd a b x h => ?_, ⟨_, Try.underlying57⟩, fun b a w => by kernel_rfl, fun a => ?_⟩
  · have h := eqIn_run _ _ _ _ _ w (key_eqIn a b)
    have e : (a.1 == b.1 && (a.2 == b.2 && true)) = decide (a = b) := by
      rw [ba_dec, ba_dec, Bool.and_true]
      obtain ⟨a1, a2⟩ := a
      obtain ⟨b1, b2⟩ := b
      simp only [Prod.mk.injEq, Bool.decide_and]
    rw [e] at h
    exact h
  · simp [Instr.sameNow, encK] at h
  · unfold encK
    simp [Instr.sameBits, ba_dec]
def encL (k : Key) : List Value := [.string k.1, .string k.2]
def encS (a : ByteArray) : Value := .string a
theorem kt_str : KT Try.prog 9 encS := by
  refine ⟨fun a b w => ?_, fun d hd a b x h => ?_, ⟨_, Try.underlying9⟩, fun b a w => by kernel_rfl, fun a => ?_⟩
  · have h : (Op.equal 9 (encS a) (encS b)).run Try.prog w = .ok (a == b) w := by kernel_rfl
    rw [h, ba_dec]
  · rw [Try.underlying9] at hd
    injection hd with hd
    subst hd
    simp [Instr.sameNow, encS, ba_dec] at h
    rw [← h]
  · unfold encS
    simp [Instr.sameBits, ba_dec]
/-- a loan as it lies in the map: whose, where, how much, and where its pledges lie -/
structure LoC where
  party : ByteArray
  acc : ByteArray
  ccy : ByteArray
  amt : Int
  pv : Value
def LoC.cells (x : LoC) : List Value := [.string x.party, .string x.acc, .string x.ccy, .int .i64 x.amt, x.pv]
def encLo (x : LoC) : Value := .agg #[.string x.party, .string x.acc, .string x.ccy, .int .i64 x.amt, x.pv]
def noLo : LoC := ⟨ByteArray.empty, ByteArray.empty, ByteArray.empty, 0, .slice none 0 0⟩
theorem ml_ty : Try.prog.underlying 50 = some (.map 57 40) := Try.underlying50
theorem zero_lo (w : World) : (zeroValue 40).run Try.prog w = .ok (encLo noLo) w := by kernel_rfl
theorem mi_ty : Try.prog.underlying 92 = some (.map 9 84) := Try.underlying92
theorem ms_ty : Try.prog.underlying 91 = some (.map 9 3) := Try.underlying91
theorem ma_ty : Try.prog.underlying 90 = some (.map 9 83) := Try.underlying90
end

section
open Go Go.RowKit
/-- what is pledged: how much of what -/
structure Pl where
  asset : ByteArray
  qty : Int
def Pl.cells (x : Pl) : List Value := [.string x.asset, .int .i64 x.qty]
/-- a row of pledges -/
def plV (l : List Pl) : List Value := (l.map Pl.cells).flatten
theorem plV_len (l : List Pl) : (plV l).length = l.length * 2 := by
  unfold plV
  induction l with
  | nil => rfl
  | cons x l ih =>
    rw [List.map_cons, List.flatten_cons, List.length_append, ih]
    show 2 + _ = _
    rw [List.length_cons]
    omega
theorem plV_append (a b : List Pl) : plV (a ++ b) = plV a ++ plV b := by unfold plV; rw [List.map_append, List.flatten_append]
theorem plV_one (x : Pl) : plV [x] = x.cells := by simp [plV]
theorem pl_in (l : List Pl) : ∀ x ∈ l.map Pl.cells, x.length = 2 := fun x hx => by
  obtain ⟨c, _, rfl⟩ := List.mem_map.1 hx
  rfl
theorem plV_oneC (l : List Pl) : ∀ v ∈ plV l, v.oneCell' = true := fun v hv => by
  unfold plV at hv
  obtain ⟨c, hc, hv⟩ := List.mem_flatten.1 hv
  obtain ⟨x, _, rfl⟩ := List.mem_map.1 hc
  unfold Pl.cells at hv
  simp only [List.mem_cons, List.not_mem_nil, or_false] at hv
  rcases hv with rfl | rfl <;> rfl
def idxF {α : Type} (p : α → Bool) : List α → Nat → Int
  | [], _ => -1
  | a :: l, i => if p a = true then (i : Int) else idxF p l (i + 1)
theorem idxF_ge {α : Type} (p : α → Bool) : ∀ (l : List α) (i : Nat), decide (0 ≤ idxF p l i) = l.any p
  | [], _ => rfl
  | a :: l, i => by
    rw [Bool.eq_iff_iff, decide_eq_true_iff, List.any_cons, Bool.or_eq_true, ← idxF_ge p l (i + 1), decide_eq_true_iff]
    show (0 ≤ if p a = true then (i : Int) else idxF p l (i + 1)) ↔ _
    by_cases h : p a = true
    · rw [if_pos h]
      exact ⟨fun _ => .inl h, fun _ => by omega⟩
    · rw [if_neg h]
      exact ⟨.inr, fun h' => h'.resolve_left h⟩
theorem idxF_here {α : Type} {p : α → Bool} {l : List α} {k : Nat} {a : α} (h : l[k]? = some a) : idxF p (l.drop k) k = if p a = true then (k : Int) else idxF p (l.drop (k + 1)) (k + 1) := by
  have hk := (List.getElem?_eq_some_iff.1 h)
  obtain ⟨hlt, he⟩ := hk
  rw [← List.getElem_cons_drop hlt, he]
  rfl
theorem below_mono {B B' : Nat} {w w' : World} (h : Below B w w') (hB : B' ≤ B) : Below B' w w' := ⟨h.os, h.tape, h.output, h.size, fun k hk => h.block k (by omega)⟩
theorem own_base {w : World} {base base' : Nat} {e : TypeId} {size n : Nat} {v : Value} {xs : List Value} (h : w.ownsRow base e size v n xs) (hb : base' ≤ base) : w.ownsRow base' e size v n xs := by
  refine ⟨h.1, ?_⟩
  rcases h.2 with h2 | ⟨g, cap, cur, rfl, hb2, r⟩
  · exact .inl h2
  · exact .inr ⟨g, cap, cur, rfl, Nat.le_trans hb hb2, r⟩
end
end Go.Proofs.Ytioehmngkoffaaa
