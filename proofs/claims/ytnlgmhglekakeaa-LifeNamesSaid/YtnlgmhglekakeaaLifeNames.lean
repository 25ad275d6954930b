/-
  Each state of a life has a name of its own, what is none has none; each state is open or over and no other number is: the statement LifeNames. No condition.
-/
import Derived.Test.YtnlgmhglekakeaaLifeF
import Derived.Test.YtnlgmhglekakeaaOpen
import Derived.Test.YtnlgmhglekakeaaRows
namespace Go.Proofs.Ytnlgmhglekakeaa
open Go.ChangeShapes Go.WideShapes Go.ChangeAt Go.RowKit

theorem nameF_no {a : Int} (h : ¬ (0 ≤ a ∧ a ≤ 5)) : nameF a = ⟨#[]⟩ := by
  unfold nameF; repeat rw [if_neg (by omega)]
theorem nameF_some {a : Int} (h : 0 ≤ a ∧ a ≤ 5) : (nameF a).toList.isEmpty = false := by
  have : a = 0 ∨ a = 1 ∨ a = 2 ∨ a = 3 ∨ a = 4 ∨ a = 5 := by omega
  rw [ByteArray.toList_eq]
  rcases this with rfl | rfl | rfl | rfl | rfl | rfl <;> rfl
theorem nameF_eq {a : Int} (b : Int) (h : 0 ≤ a ∧ a ≤ 5) : ((nameF a).toList == (nameF b).toList) = (a == b) := by
  have ha : a = 0 ∨ a = 1 ∨ a = 2 ∨ a = 3 ∨ a = 4 ∨ a = 5 := by omega
  rw [ByteArray.toList_eq, ByteArray.toList_eq]
  by_cases hb : 0 ≤ b ∧ b ≤ 5
  · have hb : b = 0 ∨ b = 1 ∨ b = 2 ∨ b = 3 ∨ b = 4 ∨ b = 5 := by omega
    rcases ha with rfl | rfl | rfl | rfl | rfl | rfl <;> rcases hb with rfl | rfl | rfl | rfl | rfl | rfl <;> decide
  · rw [nameF_no hb]
    have : (a == b) = false := by rw [beq_eq_false_iff_ne]; rintro rfl; exact hb h
    rw [this]
    rcases ha with rfl | rfl | rfl | rfl | rfl | rfl <;> decide

theorem lifeNames_walk (w : World) (a : Int) (_ : -9223372036854775808 ≤ a ∧ a ≤ 9223372036854775807) (b : Int) (_ : -9223372036854775808 ≤ b ∧ b ≤ 9223372036854775807) :
    Calls Try.prog 5 #[.int .i64 a, .int .i64 b] w fun e w' => e = .returned (.bool true) ∧ Below w.heap.size w w' := by
  by_cases ha : 0 ≤ a ∧ a ≤ 5
  · have hn := nameF_some ha
    have hab := nameF_eq b ha
    obtain ⟨h0, h5⟩ := ha
    have ho : allB [a] 0 2 = !allB [a] 3 5 := by
      rw [Bool.eq_iff_iff]; simp [allB, inB]; omega
    generalize hx : nameF a = x at *
    generalize hy : nameF b = y at *
    have HX := Lib.hid hx
    have HY := Lib.hid hy
    have HO := Lib.hid ho
    clear hx hy ho
    go_enter Try.func5, Try.ntmps5
    go_wp2_with fail
    refine (name_any a w).mono ?_
    rintro en w1 ⟨rfl, hb1⟩
    rw [HX.out]
    go_wp2_with fail
    refine (name_any b w1).mono ?_
    rintro en w2 ⟨rfl, hb2⟩
    rw [HY.out]
    go_wp2_with fail
    refine (alive_any w2).mono ?_
    rintro en w3 ⟨rfl, hb3⟩
    have hb : Below w.heap.size w w3 := hb1.trans ((hb2.trans (hb3.mono hb2.size)).mono hb1.size)
    clear hb1 hb2 hb3
    go_wp2_with fail
    refine (open_any _ 1 1 [a] _ _ (open1 a w3) (by omega)).mono ?_
    rintro en w4 ⟨rfl, rfl⟩
    rw [HO.out]
    generalize hz : allB [a] 3 5 = z
    have HZ := Lib.hid hz
    clear hz
    go_wp2_with fail
    refine (over_any _ 1 1 [a] _ (w3.heap.size + 2) ?_ (by omega)).mono ?_
    · simpa using open1 a (w3.alloc (.cells #[.int .i64 a] 3))
    rintro en w4 ⟨rfl, rfl⟩
    rw [HZ.out]
    cases z
    all_goals
      go_wp2_with fail
      refine (open_any none 0 0 [] _ 0 Reads.none_ (by omega)).mono ?_
      rintro en w4 ⟨rfl, rfl⟩
      rw [show allB [] 0 2 = true from rfl]
      go_wp2_with fail
      refine (over_any none 0 0 [] _ 0 Reads.none_ (by omega)).mono ?_
      rintro en w4 ⟨rfl, rfl⟩
      rw [show allB [] 3 5 = true from rfl]
      go_wp2_with fail
      go_ret
      exact ⟨rfl, (hb.alloc hb.size _).alloc (by simp; have := hb.size; omega) _⟩
  · have hn := nameF_no ha
    have ho : allB [a] 0 2 = false := by simp [allB, inB]; omega
    have hv : allB [a] 3 5 = false := by simp [allB, inB]; omega
    have HX := Lib.hid hn
    have HO := Lib.hid ho
    have HV := Lib.hid hv
    have e1 : (ByteArray.mk #[]).toList.isEmpty = true := by rw [ByteArray.toList_eq]; rfl
    clear hn ho hv
    by_cases h0 : 0 ≤ a
    all_goals
      go_enter Try.func5, Try.ntmps5
      go_wp2_with fail
      refine (name_any a w).mono ?_
      rintro en w1 ⟨rfl, hb1⟩
      rw [HX.out]
      go_wp2_with fail
      refine (name_any b w1).mono ?_
      rintro en w2 ⟨rfl, hb2⟩
      go_wp2_with fail
      refine (alive_any w2).mono ?_
      rintro en w3 ⟨rfl, hb3⟩
      have hb : Below w.heap.size w w3 := hb1.trans ((hb2.trans (hb3.mono hb2.size)).mono hb1.size)
      clear hb1 hb2 hb3
      go_wp2_with fail
      refine (open_any _ 1 1 [a] _ _ (open1 a w3) (by omega)).mono ?_
      rintro en w4 ⟨rfl, rfl⟩
      rw [HO.out]
      go_wp2_with fail
      refine (over_any _ 1 1 [a] _ (w3.heap.size + 2) ?_ (by omega)).mono ?_
      · simpa using open1 a (w3.alloc (.cells #[.int .i64 a] 3))
      rintro en w4 ⟨rfl, rfl⟩
      rw [HV.out]
      go_wp2_with fail
      refine (open_any _ 1 1 [a] _ (w3.heap.size + 3) ?_ (by omega)).mono ?_
      · simpa using open1 a ((w3.alloc (.cells #[.int .i64 a] 3)).alloc (.cells #[.int .i64 a] 3))
      rintro en w4 ⟨rfl, rfl⟩
      rw [HO.out]
      go_wp2_with fail
      refine (over_any _ 1 1 [a] _ (w3.heap.size + 4) ?_ (by omega)).mono ?_
      · simpa using open1 a (((w3.alloc (.cells #[.int .i64 a] 3)).alloc (.cells #[.int .i64 a] 3)).alloc (.cells #[.int .i64 a] 3))
      rintro en w4 ⟨rfl, rfl⟩
      rw [HV.out]
      go_wp2_with fail
      refine (open_any none 0 0 [] _ 0 Reads.none_ (by omega)).mono ?_
      rintro en w4 ⟨rfl, rfl⟩
      rw [show allB [] 0 2 = true from rfl]
      go_wp2_with fail
      refine (over_any none 0 0 [] _ 0 Reads.none_ (by omega)).mono ?_
      rintro en w4 ⟨rfl, rfl⟩
      rw [show allB [] 3 5 = true from rfl]
      go_wp2_with fail
      go_ret
      have hs := hb.size
      exact ⟨rfl, (((hb.alloc hb.size _).alloc (by simp; omega) _).alloc (by simp; omega) _).alloc (by simp; omega) _⟩

/-! ### THE ROW's STEP -/
theorem lifeNames_own : ownKnob Try.prog.godebug = none := by kernel_rfl
theorem lifeNames_laidOut : laidOutB Try.prog = true := by kernel_rfl
set_option maxRecDepth 100000 in
theorem lifeNames_lifted (os : Os) (started : os.Started) (H : Type) (enc : TypeId × Value → H) :
    ReturnsInHanded {} Try.checked os 5 .any (Rows.lifeNamesSpec.pre6 enc Try.prog Try.f5 Rows.lifeNamesRow.domain false) (Rows.lifeNamesSpec.post enc Try.prog Try.f5 false true false false) := by
  refine returnsInHanded_of_change (C := Try.checked) lifeNames_own started (by kernel_rfl) Try.func5
    (ChangeSpec.witness6 (enc := enc) (C := Try.checked) false ⟨#[], #[.int .i64 0, .int .i64 0], []⟩ 8 (by kernel_rfl) (by kernel_rfl) (by kernel_rfl) (by kernel_rfl)) ?_
  intro W base args ds gs before hval0 hW hcnd _
  have hval : ∀ (j : Nat) t v, Try.f5.params[j]? = some t → args[j]? = some v → Value.okWide Try.prog W .any base t v := hval0
  have hW' := hW
  obtain ⟨p, q, hA0, hV, rfl, hfz, hnd⟩ := hW
  have hA : DataW.TrodAll enc Try.prog W 0 (fun _ => true) true Try.f5.params.toList args.toList ds p := hA0
  rw [Try.params5] at hA hval
  obtain ⟨v0, vs0, d0, ds0, p0, q0, hargs, rfl, rfl, h0, r_0⟩ := trodAll_cons hA
  obtain ⟨v1, vs1, d1, ds1, p1, q1, rfl, rfl, rfl, h1, r_1⟩ := trodAll_cons r_0
  obtain ⟨rfl, rfl, rfl⟩ := trodAll_nil r_1
  obtain rfl : args = #[v0, v1] := by cases args; simp_all
  obtain ⟨a0, rfl, rfl, rfl, w0⟩ := open_int Try.underlying3 (hval 0 3 v0 rfl rfl) h0
  have b0 := bounds_of_wf w0
  obtain ⟨a1, rfl, rfl, rfl, w1⟩ := open_int Try.underlying3 (hval 1 3 v1 rfl rfl) h1
  have b1 := bounds_of_wf w1
  clear hA0 hval0
  refine (lifeNames_walk W a0 b0 a1 b1).mono fun e W' ⟨he, bel⟩ => ?_
  subst he
  exact ⟨_, rfl, post_true lifeNames_laidOut (by kernel_rfl) rfl Try.underlying4 rfl hW' (by
    intro es he
    match es, he with
    | [e0, e1], _ => rfl) bel⟩

theorem lifeNames_over : Rows.lifeNamesRow.holds Try.pinned (OpenSpec.ofChange Rows.lifeNamesSpec) :=
  OpenClaim.holds_of_wide 5 Try.f5 rfl rfl rfl rfl rfl rfl rfl ⟨rfl, rfl, rfl, rfl, rfl⟩ rfl rfl rfl rfl rfl (by kernel_rfl) Try.func5 (by kernel_rfl)
    (of_decide_eq_true (by kernel_rfl)) (by unfold Func.isWrapper; first | (rw [if_pos (by decide +kernel)]; kernel_rfl) | (rw [if_neg (by decide +kernel)]; exact ⟨rfl, rfl⟩))
    (fun os started H enc _ => lifeNames_lifted os started H enc)

theorem lifeNames_holds : Rows.LifeNamesSaid := lifeNames_over
end Go.Proofs.Ytnlgmhglekakeaa
