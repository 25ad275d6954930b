/-
  The plain law of the closest mate.
-/
import Derived.Test.YtodjhkmbgennaaaSlJ
namespace Go.Proofs.Ytodjhkmbgennaaa
open Go Go.RowKit

/-- y is at least as near as z, or as near with an Id that is not greater -/
def Near (x y z : In) : Prop := farI x.term.amount y.term.amount < farI x.term.amount z.term.amount ∨ (farI x.term.amount y.term.amount = farI x.term.amount z.term.amount ∧ y.id ≤ z.id)
theorem cmpM_lt (x y z : In) : cmpM x y z < 0 ↔ farI x.term.amount y.term.amount < farI x.term.amount z.term.amount ∨ (farI x.term.amount y.term.amount = farI x.term.amount z.term.amount ∧ y.id < z.id) := by
  unfold cmpM orZ cmpZ
  repeat' split
  all_goals omega
theorem Near.refl (x y : In) : Near x y y := .inr ⟨rfl, Int.le_refl _⟩
theorem Near.trans {x a b c : In} (h : Near x a b) (h' : Near x b c) : Near x a c := by unfold Near at *; omega
theorem near_of_lt {x y z : In} (h : cmpM x y z < 0) : Near x y z := by rw [cmpM_lt] at h; unfold Near; omega
theorem near_of_not {x y z : In} (h : ¬ cmpM x y z < 0) : Near x z y := by rw [cmpM_lt] at h; unfold Near; omega
theorem minF_near (x : In) : ∀ (xs : List In) (m : In), Near x (minF (cmpM x) xs m) m ∧ ∀ y ∈ xs, Near x (minF (cmpM x) xs m) y
  | [], m => ⟨Near.refl x m, fun y hy => by cases hy⟩
  | z :: zs, m => by
    show Near x (minF (cmpM x) zs (if cmpM x z m < 0 then z else m)) m ∧ ∀ y ∈ z :: zs, Near x (minF (cmpM x) zs (if cmpM x z m < 0 then z else m)) y
    split
    · rename_i hc
      obtain ⟨h1, h2⟩ := minF_near x zs z
      refine ⟨h1.trans (near_of_lt hc), fun y hy => ?_⟩
      rcases List.mem_cons.1 hy with rfl | hy
      · exact h1
      · exact h2 y hy
    · rename_i hc
      obtain ⟨h1, h2⟩ := minF_near x zs m
      refine ⟨h1, fun y hy => ?_⟩
      rcases List.mem_cons.1 hy with rfl | hy
      · exact h1.trans (near_of_not hc)
      · exact h2 y hy
/-- what may be the mate -/
def mayB (x : In) (c : Int) (y : In) : Bool := !mateB x c y
theorem mayB_iff (x : In) (c : Int) (y : In) : mayB x c y = true ↔ (y.id == x.id) = false ∧ fitsB x y c = true := by
  unfold mayB mateB
  simp
theorem mateR_any (x : In) (c : Int) (l : List In) : (mateR x c l).2 = l.any (mayB x c) := by
  unfold mateR
  cases h : l.filter (fun y => !mateB x c y) with
  | nil =>
    symm
    rw [List.any_eq_false]
    intro y hy hc
    have : y ∈ l.filter (fun y => !mateB x c y) := List.mem_filter.2 ⟨hy, hc⟩
    rw [h] at this
    cases this
  | cons y ys =>
    symm
    rw [List.any_eq_true]
    have : y ∈ l.filter (fun y => !mateB x c y) := by rw [h]; simp
    exact ⟨y, (List.mem_filter.1 this).1, (List.mem_filter.1 this).2⟩
theorem mateR_best (x : In) (c : Int) (l : List In) (y : In) (hy : y ∈ l) (hp : mayB x c y = true) : (mateR x c l).2 = true ∧ ∃ z, z ∈ l ∧ z.id = (mateR x c l).1 ∧ fitsB x z c = true ∧ Near x z y := by
  refine ⟨by rw [mateR_any, List.any_eq_true]; exact ⟨y, hy, hp⟩, ?_⟩
  have hm : y ∈ l.filter (fun y => !mateB x c y) := List.mem_filter.2 ⟨hy, hp⟩
  unfold mateR
  cases h : l.filter (fun y => !mateB x c y) with
  | nil => rw [h] at hm; cases hm
  | cons u us =>
    rw [h] at hm
    obtain ⟨h1, h2⟩ := minF_near x us u
    have hin : minF (cmpM x) us u ∈ l.filter (fun y => !mateB x c y) := by
      rw [h]
      rcases minF_mem (cmpM x) us u with e | e
      · rw [e]; simp
      · exact List.mem_cons_of_mem _ e
    obtain ⟨h3, h4⟩ := List.mem_filter.1 hin
    refine ⟨_, h3, rfl, ((mayB_iff x c _).1 h4).2, ?_⟩
    rcases List.mem_cons.1 hm with rfl | hm
    · exact h1
    · exact h2 y hm
theorem pickN_none' : ∀ {ns : List ByteArray} {bs : List Bool}, bs.length ≤ ns.length → ((pickN ns bs).length = 0 ↔ ∀ b ∈ bs, b = false)
  | _, [], _ => by simp [pickN]
  | [], _ :: _, h => by simp at h
  | n :: ns, b :: bs, h => by
    have ih := pickN_none' (ns := ns) (bs := bs) (by simpa using h)
    cases b with
    | true => simp [pickN]
    | false => simpa [pickN] using ih
theorem fitsB_iff' (x y : In) (c : Int) (h : fitsB x y c = true) : 0 ≤ c ∧ farI x.term.amount y.term.amount ≤ c := by
  unfold fitsB differ at h
  have h2 := (pickN_none' (ns := nmsD) (bs := bsD x y c) (Nat.le_refl _)).1 (by simpa using h)
  have := h2 (decide (c < 0) || decide (farI x.term.amount y.term.amount > max c 0)) (by simp [bsD])
  simp only [Bool.or_eq_false_iff, decide_eq_false_iff_not] at this
  omega
theorem fitsB_far {x y : In} {c : Int} (hc : Is64 c) (h : fitsB x y c = true) : farM x.term.amount y.term.amount = farI x.term.amount y.term.amount := by
  have := fitsB_iff' x y c h
  unfold farM
  rw [if_neg]
  unfold Is64 at hc
  omega
/-- the law's own test -/
def bestB (x : In) (c m : Int) (y z : In) : Bool := (z.id == m) && (fitsB x z c && (decide (farM x.term.amount z.term.amount ≤ farM x.term.amount y.term.amount) && (decide (farM x.term.amount z.term.amount < farM x.term.amount y.term.amount) || decide (m ≤ y.id))))
theorem best_is (x : In) (c : Int) (hc : Is64 c) (l : List In) (y : In) (hy : y ∈ l) (hp : mayB x c y = true) : l.any (bestB x c (mateR x c l).1 y) = true := by
  obtain ⟨_, z, hz, hid, hf, hn⟩ := mateR_best x c l y hy hp
  rw [List.any_eq_true]
  refine ⟨z, hz, ?_⟩
  unfold bestB
  rw [fitsB_far hc hf, fitsB_far hc ((mayB_iff x c y).1 hp).2, hf]
  rw [← hid]
  unfold Near at hn
  generalize farI x.term.amount z.term.amount = a at *
  generalize farI x.term.amount y.term.amount = b at *
  simp only [Bool.and_eq_true, beq_self_eq_true, Bool.or_eq_true, decide_eq_true_eq, true_and]
  omega
theorem oneM_is (l : List In) (id : Int) (h : ∃ z, z ∈ l ∧ z.id = id) : (oneM l id).2 = true ∧ (oneM l id).1.id = id := by
  unfold oneM
  cases hf : l.find? (·.id == id) with
  | none =>
    obtain ⟨z, hz, e⟩ := h
    have := List.find?_eq_none.1 hf z hz
    simp [e] at this
  | some t =>
    have := List.find?_some hf
    exact ⟨rfl, by simpa using this⟩
end Go.Proofs.Ytodjhkmbgennaaa
