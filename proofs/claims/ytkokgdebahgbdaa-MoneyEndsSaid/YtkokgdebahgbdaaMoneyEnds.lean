/-
  The least and the greatest are of the list, in whatever order it stands, and nothing lies beyond them: the statement MoneyEnds. No condition.
-/
import Derived.Test.YtkokgdebahgbdaaMoneyC
import Derived.Test.YtkokgdebahgbdaaOpen
import Derived.Test.YtkokgdebahgbdaaRows
import Derived.Deep.QuietTactic
import Derived.BigQuiet
namespace Go.Proofs.Ytkokgdebahgbdaa
open Go.ChangeShapes Go.WideShapes Go.ChangeAt Go.RowKit

theorem foldl_min_spec (l : List Int) : ∀ a : Int, l.foldl min a ≤ a ∧ (∀ x ∈ l, l.foldl min a ≤ x) ∧ (l.foldl min a = a ∨ l.foldl min a ∈ l) := by
  induction l with
  | nil => intro a; simp
  | cons x l ih =>
    intro a
    obtain ⟨h1, h2, h3⟩ := ih (min a x)
    simp only [List.foldl_cons]
    refine ⟨by omega, ?_, ?_⟩
    · intro y hy
      rcases List.mem_cons.1 hy with rfl | hy
      · omega
      · exact h2 y hy
    · rcases h3 with h3 | h3
      · rcases Int.le_total a x with h | h
        · left; rw [h3]; omega
        · right; rw [h3]; have : min a x = x := by omega
          rw [this]; simp
      · right; simp [h3]
theorem foldl_max_spec (l : List Int) : ∀ a : Int, a ≤ l.foldl max a ∧ (∀ x ∈ l, x ≤ l.foldl max a) ∧ (l.foldl max a = a ∨ l.foldl max a ∈ l) := by
  induction l with
  | nil => intro a; simp
  | cons x l ih =>
    intro a
    obtain ⟨h1, h2, h3⟩ := ih (max a x)
    simp only [List.foldl_cons]
    refine ⟨by omega, ?_, ?_⟩
    · intro y hy
      rcases List.mem_cons.1 hy with rfl | hy
      · omega
      · exact h2 y hy
    · rcases h3 with h3 | h3
      · rcases Int.le_total a x with h | h
        · right; rw [h3]; have : max a x = x := by omega
          rw [this]; simp
        · left; rw [h3]; omega
      · right; simp [h3]
theorem leastF_spec {xs : List Int} (h : 0 < xs.length) : leastF xs ∈ xs ∧ ∀ x ∈ xs, leastF xs ≤ x := by
  cases xs with
  | nil => simp at h
  | cons a l =>
    have e : leastF (a :: l) = (a :: l).foldl min a := by simp [leastF, Lib.minOf]
    rw [e]
    obtain ⟨h1, h2, h3⟩ := foldl_min_spec (a :: l) a
    refine ⟨?_, h2⟩
    rcases h3 with h3 | h3
    · rw [h3]; simp
    · exact h3
theorem mostF_spec {xs : List Int} (h : 0 < xs.length) : mostF xs ∈ xs ∧ ∀ x ∈ xs, x ≤ mostF xs := by
  cases xs with
  | nil => simp at h
  | cons a l =>
    have e : mostF (a :: l) = (a :: l).foldl max a := by simp [mostF, Lib.maxOf]
    rw [e]
    obtain ⟨h1, h2, h3⟩ := foldl_max_spec (a :: l) a
    refine ⟨?_, h2⟩
    rcases h3 with h3 | h3
    · rw [h3]; simp
    · exact h3

theorem moneyEnds_walk (w : World) (A : Option Addr) (n c : Nat) (xs : List Int) (h : Reads w w.heap.size 1 A n (ints xs)) (hl : n ≤ c) (hm : c ≤ maxLen) (_ : ∀ x ∈ xs, -9223372036854775808 ≤ x ∧ x ≤ 9223372036854775807) :
    Calls Try.prog 10 #[.slice A n c] w fun e w' => e = .returned (.bool true) ∧ Below w.heap.size w w' := by
  have hn : n ≤ 9223372036854775807 := by unfold maxLen at hm; omega
  clear hm
  by_cases hout : n = 0 ∨ 300 < n
  · have key : ((n : Int) == 0) = true ∨ (((n : Int) == 0) = false ∧ 300 < n) := by
      rcases hout with h0 | h0
      · left; simp; omega
      · right; exact ⟨by simp; omega, h0⟩
    clear hout
    rcases key with q | ⟨q, q1⟩
    all_goals
      go_enter Try.func10, Try.ntmps10
      go_wp2_with fail
      refine (alive_any w).mono ?_
      rintro en w3 ⟨rfl, hb3⟩
      go_wp2_with fail
      refine (least_any none 0 0 [] w3 0 Reads.none_ (by omega)).mono ?_
      rintro en w4 ⟨rfl, rfl⟩
      rw [show leastF [] = 0 from rfl]
      go_wp2_with fail
      refine (most_any none 0 0 [] w3 0 Reads.none_ (by omega)).mono ?_
      rintro en w4 ⟨rfl, rfl⟩
      rw [show mostF [] = 0 from rfl]
      go_wp2_with fail
      go_ret
      exact ⟨rfl, hb3⟩
  · have hlen := h.int_len
    have hp : 0 < xs.length := by omega
    obtain ⟨l1, l2⟩ := leastF_spec hp
    obtain ⟨m1, m2⟩ := mostF_spec hp
    have q : ((n : Int) == 0) = false := by simp; omega
    have q1 : n ≤ 300 := by omega
    obtain ⟨lo, hlo⟩ : ∃ lo, leastF xs = lo := ⟨_, rfl⟩
    obtain ⟨hi, hhi⟩ : ∃ hi, mostF xs = hi := ⟨_, rfl⟩
    rw [hlo] at l1 l2
    rw [hhi] at m1 m2
    have HLO := Lib.hid hlo
    have HHI := Lib.hid hhi
    have HL1 := Lib.hid l1
    have HL2 := Lib.hid l2
    have HM1 := Lib.hid m1
    have HM2 := Lib.hid m2
    have HL := Lib.hid hlen
    clear hlo hhi l1 l2 m1 m2 hlen hp hout
    go_enter Try.func10, Try.ntmps10
    go_wp2_with fail
    refine (least_any A n c xs w _ h hn).mono ?_
    rintro en w4 ⟨rfl, rfl⟩
    rw [HLO.out]
    go_wp2_with fail
    refine (most_any A n c xs w _ h hn).mono ?_
    rintro en w4 ⟨rfl, rfl⟩
    rw [HHI.out]
    go_wp2_with fail
    go_loopw [5, 6, 7] (fun a b i wr => ∃ k : Nat, k ≤ n ∧ i = .int .i64 k ∧ a = .bool ((xs.take k).any (· == lo)) ∧ b = .bool ((xs.take k).any (· == hi)) ∧ Below w.heap.size w wr) (fun _ _ i _ => n - (intOf i).toNat)
    case atStart => exact ⟨0, Nat.zero_le _, rfl, rfl, rfl, Below.refl _ _⟩
    case round =>
      obtain ⟨k, hk, rfl, rfl, rfl, hb⟩ := hrel
      by_cases hlt : k < n
      · obtain ⟨ad, x, rfl, had, hx, hc⟩ := (h.below hb).int hlt
        have htk : xs.take (k + 1) = xs.take k ++ [x] := by rw [List.take_add_one, hx]; rfl
        have ha : (xs.take (k + 1)).any (· == lo) = ((xs.take k).any (· == lo) || (x == lo)) := by rw [htk, List.any_append]; simp
        have hbb : (xs.take (k + 1)).any (· == hi) = ((xs.take k).any (· == hi) || (x == hi)) := by rw [htk, List.any_append]; simp
        have b1 := HL2.out x (List.mem_of_getElem? hx)
        have b2 := HM2.out x (List.mem_of_getElem? hx)
        have b1' : ¬ x < lo := by omega
        have b2' : ¬ hi < x := by omega
        have HA := Lib.hid ha
        have HBB := Lib.hid hbb
        clear htk ha hbb hx b1 b2
        generalize (xs.take k).any (· == lo) = p at *
        generalize (xs.take k).any (· == hi) = r at *
        cases p <;> cases r
        all_goals
          go_wp2_with fail
          go_quiet (fail)
          go_wp2_with fail
          go_roundw
          case rel => exact ⟨k + 1, by omega, by go_num, by rw [HA.out]; simp, by rw [HBB.out]; simp, below_drewN hb _⟩
          case measure => simp [intOf]; omega
      · have e' : xs.take k = xs := by rw [show k = n by omega, ← HL.out, List.take_length]
        rw [e']
        have hx1 : xs.any (· == lo) = true := by rw [List.any_eq_true]; exact ⟨lo, HL1.out, by simp⟩
        have hx2 : xs.any (· == hi) = true := by rw [List.any_eq_true]; exact ⟨hi, HM1.out, by simp⟩
        rw [hx1, hx2]
        clear e' hx1 hx2
        go_wp2_with fail
        refine (alive_any wr).mono ?_
        rintro en w3 ⟨rfl, hb3⟩
        go_wp2_with fail
        go_ret
        exact ⟨rfl, hb.trans (hb3.mono hb.size)⟩

/-! ### THE ROW's STEP -/
theorem moneyEnds_own : ownKnob Try.prog.godebug = none := by kernel_rfl
theorem moneyEnds_laidOut : laidOutB Try.prog = true := by kernel_rfl
set_option maxRecDepth 100000 in
theorem moneyEnds_lifted (os : Os) (started : os.Started) (H : Type) (enc : TypeId × Value → H) :
    ReturnsInHanded {} Try.checked os 10 .any (Rows.moneyEndsSpec.pre6 enc Try.prog Try.f10 Rows.moneyEndsRow.domain false) (Rows.moneyEndsSpec.post enc Try.prog Try.f10 false true false false) := by
  refine returnsInHanded_of_change (C := Try.checked) moneyEnds_own started (by kernel_rfl) Try.func10
    (ChangeSpec.witness6 (enc := enc) (C := Try.checked) false ⟨#[], #[.slice none 0 0], []⟩ 8 (by kernel_rfl) (by kernel_rfl) (by kernel_rfl) (by kernel_rfl)) ?_
  intro W base args ds gs before hval0 hW hcnd _
  have hval : ∀ (j : Nat) t v, Try.f10.params[j]? = some t → args[j]? = some v → Value.okWide Try.prog W .any base t v := hval0
  have hW' := hW
  obtain ⟨p, q, hA0, hV, rfl, hfz, hnd⟩ := hW
  have hA : DataW.TrodAll enc Try.prog W 0 (fun _ => true) true Try.f10.params.toList args.toList ds p := hA0
  rw [Try.params10] at hA hval
  obtain ⟨v0, vs0, d0, ds0, p0, q0, hargs, rfl, rfl, h0, r_0⟩ := trodAll_cons hA
  obtain ⟨rfl, rfl, rfl⟩ := trodAll_nil r_0
  obtain rfl : args = #[v0] := by cases args; simp_all
  obtain ⟨A0, n0, c0, x0, rfl, r0, l0, m0, z0⟩ := open_slice_ints Try.underlying22 Try.underlying3 (by kernel_rfl) (hval 0 22 v0 rfl rfl) h0
  clear hA0 hval0
  refine (moneyEnds_walk W A0 n0 c0 x0 r0 l0 m0 z0).mono fun e W' ⟨he, bel⟩ => ?_
  subst he
  exact ⟨_, rfl, post_true moneyEnds_laidOut (by kernel_rfl) rfl Try.underlying4 rfl hW' (by
    intro es he
    match es, he with
    | [e0], _ => rfl) bel⟩

theorem moneyEnds_over : Rows.moneyEndsRow.holds Try.pinned (OpenSpec.ofChange Rows.moneyEndsSpec) :=
  OpenClaim.holds_of_wide 10 Try.f10 rfl rfl rfl rfl rfl rfl rfl ⟨rfl, rfl, rfl, rfl, rfl⟩ rfl rfl rfl rfl rfl (by kernel_rfl) Try.func10 (by kernel_rfl)
    (of_decide_eq_true (by kernel_rfl)) (by unfold Func.isWrapper; first | (rw [if_pos (by decide +kernel)]; kernel_rfl) | (rw [if_neg (by decide +kernel)]; exact ⟨rfl, rfl⟩))
    (fun os started H enc _ => moneyEnds_lifted os started H enc)

theorem moneyEnds_holds : Rows.MoneyEndsSaid := moneyEnds_over
end Go.Proofs.Ytkokgdebahgbdaa
