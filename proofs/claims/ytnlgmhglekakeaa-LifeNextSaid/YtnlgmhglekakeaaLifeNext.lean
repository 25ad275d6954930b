/-
  life.Next, Name, Open and Over answer as the reference does, at every state, event and list of states: the statement LifeNext. No condition.
-/
import Derived.Test.YtnlgmhglekakeaaLifeF
import Derived.Test.YtnlgmhglekakeaaOpen
import Derived.Test.YtnlgmhglekakeaaRows
namespace Go.Proofs.Ytnlgmhglekakeaa
open Go.ChangeShapes Go.WideShapes Go.ChangeAt Go.RowKit

theorem allB_append (xs ys : List Int) (lo hi : Int) : allB (xs ++ ys) lo hi = (allB xs lo hi && allB ys lo hi) := by simp [allB]
theorem allB_one (x lo hi : Int) : allB [x] lo hi = inB lo hi x := by simp [allB]

theorem lifeNext_walk (w : World) (s : Int) (_ : -9223372036854775808 ≤ s ∧ s ≤ 9223372036854775807) (v : Int) (_ : -9223372036854775808 ≤ v ∧ v ≤ 9223372036854775807)
    (A : Option Addr) (n c : Nat) (xs : List Int) (h : Reads w w.heap.size 1 A n (ints xs)) (hl : n ≤ c) (hm : c ≤ maxLen) (_ : ∀ x ∈ xs, -9223372036854775808 ≤ x ∧ x ≤ 9223372036854775807) :
    Calls Try.prog 3 #[.int .i64 s, .int .i64 v, .slice A n c] w fun e w' => e = .returned (.bool true) ∧ Below w.heap.size w w' := by
  have hn : n ≤ 9223372036854775807 := by unfold maxLen at hm; omega
  clear hm
  go_enter Try.func3, Try.ntmps3
  go_wp2_with fail
  refine (next_any s v w).mono ?_
  rintro en w1 ⟨rfl, hb1⟩
  go_wp2_with fail
  refine (refNext_any s v w1).mono ?_
  rintro en w2 ⟨rfl, rfl⟩
  go_wp2_with fail
  have h1 := h.below hb1
  go_loop [11, 12, 13] (fun a b i => ∃ k : Nat, k ≤ n ∧ i = .int .i64 k ∧ a = .bool (allB (xs.take k) 0 2) ∧ b = .bool (allB (xs.take k) 3 5)) (fun _ _ i => n - (intOf i).toNat)
  case atStart => exact ⟨0, Nat.zero_le _, rfl, rfl, rfl⟩
  case round =>
    obtain ⟨k, hk, rfl, rfl, rfl⟩ := hrel
    by_cases hlt : k < n
    · obtain ⟨ad, x, rfl, _, hx, hc⟩ := h1.int hlt
      have e1 := take_snoc hx
      have ha : allB (xs.take (k + 1)) 0 2 = (allB (xs.take k) 0 2 && inB 0 2 x) := by rw [e1, allB_append, allB_one]
      have hb : allB (xs.take (k + 1)) 3 5 = (allB (xs.take k) 3 5 && inB 3 5 x) := by rw [e1, allB_append, allB_one]
      have HA := Lib.hid ha
      have HB := Lib.hid hb
      clear ha hb e1 hx
      generalize allB (xs.take k) 0 2 = p at *
      generalize allB (xs.take k) 3 5 = q at *
      cases p <;> cases q
      all_goals
        go_wp2_with (first | (go_at_call 9; refine (refOpen_any _ _).mono ?_; rintro en w1 ⟨rfl, rfl⟩) | (go_at_call 10; refine (refOver_any _ _).mono ?_; rintro en w1 ⟨rfl, rfl⟩))
        go_round
        case rel => exact ⟨k + 1, by omega, by go_num, by rw [HA.out]; simp, by rw [HB.out]; simp⟩
        case measure => simp [intOf]; omega
    · have e' : xs.take k = xs := by rw [show k = n by omega, ← h.int_len, List.take_length]
      rw [e']
      clear e'
      go_wp2_with fail
      refine (alive_any w1).mono ?_
      rintro en w3 ⟨rfl, hb3⟩
      go_wp2_with fail
      refine (name_any s w3).mono ?_
      rintro en w4 ⟨rfl, hb4⟩
      go_wp2_with fail
      refine (refName_any s w4).mono ?_
      rintro en w5 ⟨rfl, hb5⟩
      have hb35 : Below w3.heap.size w3 w5 := hb4.trans (hb5.mono hb4.size)
      have hb15 : Below w1.heap.size w1 w5 := hb3.trans (hb35.mono hb3.size)
      have h5 := h1.below (hb15.mono hb1.size)
      go_wp2_with fail
      refine (open_any A n c xs w5 _ h5 hn).mono ?_
      rintro en w6 ⟨rfl, rfl⟩
      go_wp2_with fail
      refine (over_any A n c xs w5 _ h5 hn).mono ?_
      rintro en w6 ⟨rfl, rfl⟩
      go_wp2_with fail
      go_ret
      exact ⟨by simp, hb1.trans (hb15.mono hb1.size)⟩

/-! ### THE ROW's STEP -/
theorem lifeNext_own : ownKnob Try.prog.godebug = none := by kernel_rfl
theorem lifeNext_laidOut : laidOutB Try.prog = true := by kernel_rfl
set_option maxRecDepth 100000 in
theorem lifeNext_lifted (os : Os) (started : os.Started) (H : Type) (enc : TypeId × Value → H) :
    ReturnsInHanded {} Try.checked os 3 .any (Rows.lifeNextSpec.pre6 enc Try.prog Try.f3 Rows.lifeNextRow.domain false) (Rows.lifeNextSpec.post enc Try.prog Try.f3 false true false false) := by
  refine returnsInHanded_of_change (C := Try.checked) lifeNext_own started (by kernel_rfl) Try.func3
    (ChangeSpec.witness6 (enc := enc) (C := Try.checked) false ⟨#[], #[.int .i64 0, .int .i64 0, .slice none 0 0], []⟩ 8 (by kernel_rfl) (by kernel_rfl) (by kernel_rfl) (by kernel_rfl)) ?_
  intro W base args ds gs before hval0 hW hcnd _
  have hval : ∀ (j : Nat) t v, Try.f3.params[j]? = some t → args[j]? = some v → Value.okWide Try.prog W .any base t v := hval0
  have hW' := hW
  obtain ⟨p, q, hA0, hV, rfl, hfz, hnd⟩ := hW
  have hA : DataW.TrodAll enc Try.prog W 0 (fun _ => true) true Try.f3.params.toList args.toList ds p := hA0
  rw [Try.params3] at hA hval
  obtain ⟨v0, vs0, d0, ds0, p0, q0, hargs, rfl, rfl, h0, r_0⟩ := trodAll_cons hA
  obtain ⟨v1, vs1, d1, ds1, p1, q1, rfl, rfl, rfl, h1, r_1⟩ := trodAll_cons r_0
  obtain ⟨v2, vs2, d2, ds2, p2, q2, rfl, rfl, rfl, h2, r_2⟩ := trodAll_cons r_1
  obtain ⟨rfl, rfl, rfl⟩ := trodAll_nil r_2
  obtain rfl : args = #[v0, v1, v2] := by cases args; simp_all
  obtain ⟨a0, rfl, rfl, rfl, w0⟩ := open_int Try.underlying3 (hval 0 3 v0 rfl rfl) h0
  have b0 := bounds_of_wf w0
  obtain ⟨a1, rfl, rfl, rfl, w1⟩ := open_int Try.underlying3 (hval 1 3 v1 rfl rfl) h1
  have b1 := bounds_of_wf w1
  obtain ⟨A2, n2, c2, x2, rfl, r2, l2, m2, z2⟩ := open_slice_ints Try.underlying22 Try.underlying3 (by kernel_rfl) (hval 2 22 v2 rfl rfl) h2
  clear hA0 hval0
  refine (lifeNext_walk W a0 b0 a1 b1 A2 n2 c2 x2 r2 l2 m2 z2).mono fun e W' ⟨he, bel⟩ => ?_
  subst he
  exact ⟨_, rfl, post_true lifeNext_laidOut (by kernel_rfl) rfl Try.underlying4 rfl hW' (by
    intro es he
    match es, he with
    | [e0, e1, e2], _ => rfl) bel⟩

theorem lifeNext_over : Rows.lifeNextRow.holds Try.pinned (OpenSpec.ofChange Rows.lifeNextSpec) :=
  OpenClaim.holds_of_wide 3 Try.f3 rfl rfl rfl rfl rfl rfl rfl ⟨rfl, rfl, rfl, rfl, rfl⟩ rfl rfl rfl rfl rfl (by kernel_rfl) Try.func3 (by kernel_rfl)
    (of_decide_eq_true (by kernel_rfl)) (by unfold Func.isWrapper; first | (rw [if_pos (by decide +kernel)]; kernel_rfl) | (rw [if_neg (by decide +kernel)]; exact ⟨rfl, rfl⟩))
    (fun os started H enc _ => lifeNext_lifted os started H enc)

theorem lifeNext_holds : Rows.LifeNextSaid := lifeNext_over
end Go.Proofs.Ytnlgmhglekakeaa
