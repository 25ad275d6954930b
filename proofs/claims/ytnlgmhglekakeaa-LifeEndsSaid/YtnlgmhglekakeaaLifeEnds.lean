/-
  What is over stays so; matched and settled are come to once at most: the statement LifeEnds. No condition.
-/
import Derived.Test.YtnlgmhglekakeaaLifeF
import Derived.Test.YtnlgmhglekakeaaOpen
import Derived.Test.YtnlgmhglekakeaaRows
namespace Go.Proofs.Ytnlgmhglekakeaa
open Go.ChangeShapes Go.WideShapes Go.ChangeAt Go.RowKit

def Ends (s m t : Int) : Prop := 0 ≤ s ∧ s ≤ 5 ∧ 0 ≤ t ∧ t ≤ m ∧ m ≤ 1 ∧ (s = 0 → m = 0) ∧ (1 ≤ s → s ≤ 3 → m = 1) ∧ (s ≤ 2 → t = 0)

theorem nextF_yes {s x : Int} (h : (nextF s x).2 = true) : (x = 0 ∧ s = 0 ∧ (nextF s x).1 = 1) ∨ (x = 1 ∧ (s = 1 ∨ s = 2) ∧ (nextF s x).1 = 2) ∨ (x = 2 ∧ (s = 1 ∨ s = 2) ∧ (nextF s x).1 = 3) ∨
    (x = 3 ∧ 0 ≤ s ∧ s ≤ 2 ∧ (nextF s x).1 = 4) ∨ (x = 4 ∧ 0 ≤ s ∧ s ≤ 2 ∧ (nextF s x).1 = 5) := by
  unfold nextF at h ⊢
  by_cases c1 : x = 0 ∧ s = 0
  · rw [if_pos c1]; exact .inl ⟨c1.1, c1.2, rfl⟩
  rw [if_neg c1] at h ⊢
  by_cases c2 : x = 1 ∧ (s = 1 ∨ s = 2)
  · rw [if_pos c2]; exact .inr (.inl ⟨c2.1, c2.2, rfl⟩)
  rw [if_neg c2] at h ⊢
  by_cases c3 : x = 2 ∧ (s = 1 ∨ s = 2)
  · rw [if_pos c3]; exact .inr (.inr (.inl ⟨c3.1, c3.2, rfl⟩))
  rw [if_neg c3] at h ⊢
  by_cases c4 : x = 3 ∧ 0 ≤ s ∧ s ≤ 2
  · rw [if_pos c4]; exact .inr (.inr (.inr (.inl ⟨c4.1, c4.2.1, c4.2.2, rfl⟩)))
  rw [if_neg c4] at h ⊢
  by_cases c5 : x = 4 ∧ 0 ≤ s ∧ s ≤ 2
  · rw [if_pos c5]; exact .inr (.inr (.inr (.inr ⟨c5.1, c5.2.1, c5.2.2, rfl⟩)))
  rw [if_neg c5] at h
  cases h

/-- Do with a list of one, made by the caller. -/
theorem do_one (b : Nat) (s d x : Int) (w : World) (h : Blk w b 38 #[.int .i64 s, .int .i64 d]) (hd : 0 ≤ d) (hdn : d + 1 ≤ 1000000000000) :
    Calls Try.prog 17 #[.pointer (some ⟨b, 0, none⟩), .slice (some ⟨w.heap.size, 0, none⟩) 1 1] (w.alloc (.cells #[.int .i64 x] 3)) fun e w' =>
      ∃ s' : Int, ∃ n : Nat, e = .returned (.int .i64 n) ∧ Blk w' b 38 #[.int .i64 s', .int .i64 (d + n)] ∧ w.grownBy w' (some b) ∧
        s' = (nextF s x).1 ∧ n = (if (nextF s x).2 then 1 else 0) := by
  refine (do_any b s d _ 1 1 (w.heap.size + 1) [x] _ (h.alloc _) (open1 x w) (by simp) ?_ hd (by omega)).mono ?_
  · rintro _ ad ⟨⟩; have := h.lt; simp; omega
  · rintro e w' ⟨rfl, h1, h2⟩
    refine ⟨doS s [x], doN s [x], rfl, h1, ?_, rfl, by simp [doN]⟩
    exact only_trans (only_alloc (World.grownBy.refl w _) _) h2

theorem allB_one' (x lo hi : Int) : allB [x] lo hi = inB lo hi x := by simp [allB]

set_option maxHeartbeats 4000000 in
theorem lifeEnds_walk (w : World) (A : Option Addr) (n c : Nat) (xs : List Int) (h : Reads w w.heap.size 1 A n (ints xs)) (hl : n ≤ c) (hm : c ≤ maxLen) (_ : ∀ x ∈ xs, -9223372036854775808 ≤ x ∧ x ≤ 9223372036854775807) :
    Calls Try.prog 4 #[.slice A n c] w fun e w' => e = .returned (.bool true) ∧ Below w.heap.size w w' := by
  have hn : n ≤ 9223372036854775807 := by unfold maxLen at hm; omega
  clear hm
  by_cases hbig : 300 < n
  · go_enter Try.func4, Try.ntmps4
    go_wp2_with fail
    refine (alive_any w).mono ?_
    rintro en w3 ⟨rfl, hb3⟩
    go_wp2_with fail
    go_ret
    exact ⟨rfl, hb3⟩
  · go_enter Try.func4, Try.ntmps4
    go_wp2_with fail
    refine (new_any w).mono ?_
    rintro en w2 ⟨rfl, hw2⟩
    have hB := hw2 ▸ Blk.new w 38 #[.int .i64 0, .int .i64 0]
    have hb2 : Below w.heap.size w w2 := hw2 ▸ (Below.refl _ w).alloc (Nat.le_refl _) _
    have HB := Lib.hid hB
    clear hB hw2
    go_wp2_with fail
    go_loopw [4, 5, 6, 7, 8] (fun m t o i _ wr => ∃ (k : Nat) (s d m' t' : Int), k ≤ n ∧ i = .int .i64 k ∧ m = .int .i64 m' ∧ t = .int .i64 t' ∧ o = .bool (inB 3 5 s) ∧ Ends s m' t' ∧ Blk wr w.heap.size 38 #[.int .i64 s, .int .i64 d] ∧ 0 ≤ d ∧ d ≤ k ∧ Below w.heap.size w wr)
      (fun _ _ _ i _ _ => n - (intOf i).toNat)
    case atStart => exact ⟨0, 0, 0, 0, 0, Nat.zero_le _, rfl, rfl, rfl, rfl, by unfold Ends; omega, HB.out, by omega, by omega, hb2⟩
    case round =>
      obtain ⟨k, s, d, m, t, hk, rfl, rfl, rfl, rfl, he, hb, hd0, hdk, hbl⟩ := hrel
      by_cases hlt : k < n
      · obtain ⟨ad, x, rfl, had, _, hc⟩ := (h.below hbl).int hlt
        have HE := Lib.hid he
        have HB1 := Lib.hid hb
        clear he hb HB
        go_wp2_with fail
        refine (do_one w.heap.size s d x wr HB1.out hd0 (by omega)).mono ?_
        rintro en w3 ⟨s', nn, rfl, hb3, hg3, hs', hnn⟩
        have hbl3 := below_only hbl hbl.size hg3 (Nat.le_refl _)
        have hc3 := (hbl3.cell (p := ad.add k) (by rw [block_of_add]; exact had)).trans ((hbl.cell (p := ad.add k) (by rw [block_of_add]; exact had)).symm.trans hc)
        have HB3 := Lib.hid hb3
        have hzz : inB 0 2 s' = !inB 3 5 s' ∧ Ends s' (m + if nn = 1 ∧ x = 0 then 1 else 0) (t + if nn = 1 ∧ x = 2 then 1 else 0) ∧ (inB 3 5 s = true → nn = 0) ∧ nn ≤ 1 := by
          have he := HE.out
          unfold Ends at he
          by_cases hy : (nextF s x).2 = true
          · rw [if_pos hy] at hnn
            subst hnn
            rw [hs']
            rcases nextF_yes hy with ⟨hx, hs, e⟩ | ⟨hx, hs, e⟩ | ⟨hx, hs, e⟩ | ⟨hx, hs, hs2, e⟩ | ⟨hx, hs, hs2, e⟩ <;> rw [e] <;> subst hx <;>
              refine ⟨by decide, ?_, by simp [inB]; omega, by omega⟩ <;> simp [Ends] <;> omega
          · rw [if_neg hy] at hnn
            subst hnn
            rw [hs', nextF_no (by simpa using hy)]
            refine ⟨?_, by simp [Ends]; omega, fun _ => rfl, by omega⟩
            rw [Bool.eq_iff_iff]; simp [inB]; omega
        clear hs' hnn hc hbl hg3
        obtain ⟨hz, he', ho, hn1⟩ := hzz
        have HZ := Lib.hid hz
        have HE' := Lib.hid he'
        clear hz he' HE HB1
        by_cases hnn : nn = 0
        · subst hnn
          have hE : 0 ≤ t ∧ t ≤ m ∧ m ≤ 1 := by have := HE'.out; simp [Ends] at this; omega
          obtain ⟨g1, g2, g3⟩ := hE
          generalize hz0 : inB 3 5 s = z0
          clear hz0
          cases z0
          all_goals
            go_wp2_with fail
            refine (state_any w.heap.size s' _ w3 HB3.out).mono ?_
            rintro en w4 ⟨rfl, rfl⟩
            go_wp2_with fail
            refine (over_any _ 1 1 [s'] _ _ (open1 s' w3) (by omega)).mono ?_
            rintro en w4 ⟨rfl, rfl⟩
            rw [allB_one']
            go_wp2_with fail
            refine (state_any w.heap.size s' _ _ (HB3.out.alloc _)).mono ?_
            rintro en w4 ⟨rfl, rfl⟩
            go_wp2_with fail
            refine (open_any _ 1 1 [s'] _ (w3.heap.size + 2) ?_ (by omega)).mono ?_
            · simpa using open1 s' (w3.alloc (.cells #[.int .i64 s'] 3))
            rintro en w4 ⟨rfl, rfl⟩
            rw [allB_one', HZ.out]
            generalize hzz : inB 3 5 s' = z
            have HZZ := Lib.hid hzz
            clear hzz
            have hbl4 := (hbl3.alloc hbl3.size (.cells #[.int .i64 s'] 3)).alloc (by simp; have := hbl3.size; omega) (.cells #[.int .i64 s'] 3)
            cases z
            all_goals
              go_wp2_with fail
              go_roundw
              case rel => exact ⟨k + 1, s', _, _, _, by omega, by go_num, rfl, rfl, by rw [HZZ.out], by have := HE'.out; simpa using this, (HB3.out.alloc _).alloc _, by omega, by omega, hbl4⟩
              case measure => simp [intOf]; omega
        · obtain rfl : nn = 1 := by omega
          have hz0 : inB 3 5 s = false := by
            cases hh : inB 3 5 s
            · rfl
            · exact absurd (ho hh) (by omega)
          rw [hz0]
          clear hz0 ho hnn
          by_cases hx0 : x = 0
          · subst hx0
            have hE : 0 ≤ t ∧ t ≤ m + 1 ∧ m + 1 ≤ 1 ∧ -1 ≤ m := by have := HE'.out; simp [Ends] at this; omega
            obtain ⟨g1, g2, g3, g4⟩ := hE
            go_wp2_with fail
            refine (state_any w.heap.size s' _ w3 HB3.out).mono ?_
            rintro en w4 ⟨rfl, rfl⟩
            go_wp2_with fail
            refine (over_any _ 1 1 [s'] _ _ (open1 s' w3) (by omega)).mono ?_
            rintro en w4 ⟨rfl, rfl⟩
            rw [allB_one']
            go_wp2_with fail
            refine (state_any w.heap.size s' _ _ (HB3.out.alloc _)).mono ?_
            rintro en w4 ⟨rfl, rfl⟩
            go_wp2_with fail
            refine (open_any _ 1 1 [s'] _ (w3.heap.size + 2) ?_ (by omega)).mono ?_
            · simpa using open1 s' (w3.alloc (.cells #[.int .i64 s'] 3))
            rintro en w4 ⟨rfl, rfl⟩
            rw [allB_one', HZ.out]
            generalize hzz : inB 3 5 s' = z
            have HZZ := Lib.hid hzz
            clear hzz
            have hbl4 := (hbl3.alloc hbl3.size (.cells #[.int .i64 s'] 3)).alloc (by simp; have := hbl3.size; omega) (.cells #[.int .i64 s'] 3)
            cases z
            all_goals
              go_wp2_with fail
              go_roundw
              case rel => exact ⟨k + 1, s', _, _, _, by omega, by go_num, rfl, rfl, by rw [HZZ.out], by have := HE'.out; simpa using this, (HB3.out.alloc _).alloc _, by omega, by omega, hbl4⟩
              case measure => simp [intOf]; omega
          · by_cases hx2 : x = 2
            · subst hx2
              have hE : 0 ≤ t + 1 ∧ t + 1 ≤ m ∧ m ≤ 1 := by have := HE'.out; simp [Ends] at this; omega
              obtain ⟨g1, g2, g3⟩ := hE
              go_wp2_with fail
              refine (state_any w.heap.size s' _ w3 HB3.out).mono ?_
              rintro en w4 ⟨rfl, rfl⟩
              go_wp2_with fail
              refine (over_any _ 1 1 [s'] _ _ (open1 s' w3) (by omega)).mono ?_
              rintro en w4 ⟨rfl, rfl⟩
              rw [allB_one']
              go_wp2_with fail
              refine (state_any w.heap.size s' _ _ (HB3.out.alloc _)).mono ?_
              rintro en w4 ⟨rfl, rfl⟩
              go_wp2_with fail
              refine (open_any _ 1 1 [s'] _ (w3.heap.size + 2) ?_ (by omega)).mono ?_
              · simpa using open1 s' (w3.alloc (.cells #[.int .i64 s'] 3))
              rintro en w4 ⟨rfl, rfl⟩
              rw [allB_one', HZ.out]
              generalize hzz : inB 3 5 s' = z
              have HZZ := Lib.hid hzz
              clear hzz
              have hbl4 := (hbl3.alloc hbl3.size (.cells #[.int .i64 s'] 3)).alloc (by simp; have := hbl3.size; omega) (.cells #[.int .i64 s'] 3)
              cases z
              all_goals
                go_wp2_with fail
                go_roundw
                case rel => exact ⟨k + 1, s', _, _, _, by omega, by go_num, rfl, rfl, by rw [HZZ.out], by have := HE'.out; simpa using this, (HB3.out.alloc _).alloc _, by omega, by omega, hbl4⟩
                case measure => simp [intOf]; omega
            · have hE : 0 ≤ t ∧ t ≤ m ∧ m ≤ 1 := by have := HE'.out; rw [if_neg (by omega), if_neg (by omega)] at this; simp [Ends] at this; omega
              obtain ⟨g1, g2, g3⟩ := hE
              have q0 : (x == 0) = false := by simpa using hx0
              have q2 : (x == 2) = false := by simpa using hx2
              have he2 : Ends s' m t := by have := HE'.out; rw [if_neg (by omega), if_neg (by omega)] at this; simpa using this
              clear HE'
              have HE' := Lib.hid he2
              clear he2
              go_wp2_with fail
              refine (state_any w.heap.size s' _ w3 HB3.out).mono ?_
              rintro en w4 ⟨rfl, rfl⟩
              go_wp2_with fail
              refine (over_any _ 1 1 [s'] _ _ (open1 s' w3) (by omega)).mono ?_
              rintro en w4 ⟨rfl, rfl⟩
              rw [allB_one']
              go_wp2_with fail
              refine (state_any w.heap.size s' _ _ (HB3.out.alloc _)).mono ?_
              rintro en w4 ⟨rfl, rfl⟩
              go_wp2_with fail
              refine (open_any _ 1 1 [s'] _ (w3.heap.size + 2) ?_ (by omega)).mono ?_
              · simpa using open1 s' (w3.alloc (.cells #[.int .i64 s'] 3))
              rintro en w4 ⟨rfl, rfl⟩
              rw [allB_one', HZ.out]
              generalize hzz : inB 3 5 s' = z
              have HZZ := Lib.hid hzz
              clear hzz
              have hbl4 := (hbl3.alloc hbl3.size (.cells #[.int .i64 s'] 3)).alloc (by simp; have := hbl3.size; omega) (.cells #[.int .i64 s'] 3)
              cases z
              all_goals
                go_wp2_with fail
                go_roundw
                case rel => exact ⟨k + 1, s', _, _, _, by omega, by go_num, rfl, rfl, by rw [HZZ.out], by have := HE'.out; simpa using this, (HB3.out.alloc _).alloc _, by omega, by omega, hbl4⟩
                case measure => simp [intOf]; omega
      · go_wp2_with fail
        refine (alive_any wr).mono ?_
        rintro en w3 ⟨rfl, hb3⟩
        go_wp2_with fail
        go_ret
        exact ⟨rfl, hbl.trans (hb3.mono hbl.size)⟩

/-! ### THE ROW's STEP -/
theorem lifeEnds_own : ownKnob Try.prog.godebug = none := by kernel_rfl
theorem lifeEnds_laidOut : laidOutB Try.prog = true := by kernel_rfl
set_option maxRecDepth 100000 in
theorem lifeEnds_lifted (os : Os) (started : os.Started) (H : Type) (enc : TypeId × Value → H) :
    ReturnsInHanded {} Try.checked os 4 .any (Rows.lifeEndsSpec.pre6 enc Try.prog Try.f4 Rows.lifeEndsRow.domain false) (Rows.lifeEndsSpec.post enc Try.prog Try.f4 false true false false) := by
  refine returnsInHanded_of_change (C := Try.checked) lifeEnds_own started (by kernel_rfl) Try.func4
    (ChangeSpec.witness6 (enc := enc) (C := Try.checked) false ⟨#[], #[.slice none 0 0], []⟩ 8 (by kernel_rfl) (by kernel_rfl) (by kernel_rfl) (by kernel_rfl)) ?_
  intro W base args ds gs before hval0 hW hcnd _
  have hval : ∀ (j : Nat) t v, Try.f4.params[j]? = some t → args[j]? = some v → Value.okWide Try.prog W .any base t v := hval0
  have hW' := hW
  obtain ⟨p, q, hA0, hV, rfl, hfz, hnd⟩ := hW
  have hA : DataW.TrodAll enc Try.prog W 0 (fun _ => true) true Try.f4.params.toList args.toList ds p := hA0
  rw [Try.params4] at hA hval
  obtain ⟨v0, vs0, d0, ds0, p0, q0, hargs, rfl, rfl, h0, r_0⟩ := trodAll_cons hA
  obtain ⟨rfl, rfl, rfl⟩ := trodAll_nil r_0
  obtain rfl : args = #[v0] := by cases args; simp_all
  obtain ⟨A0, n0, c0, x0, rfl, r0, l0, m0, z0⟩ := open_slice_ints Try.underlying22 Try.underlying3 (by kernel_rfl) (hval 0 22 v0 rfl rfl) h0
  clear hA0 hval0
  refine (lifeEnds_walk W A0 n0 c0 x0 r0 l0 m0 z0).mono fun e W' ⟨he, bel⟩ => ?_
  subst he
  exact ⟨_, rfl, post_true lifeEnds_laidOut (by kernel_rfl) rfl Try.underlying4 rfl hW' (by
    intro es he
    match es, he with
    | [e0], _ => rfl) bel⟩

theorem lifeEnds_over : Rows.lifeEndsRow.holds Try.pinned (OpenSpec.ofChange Rows.lifeEndsSpec) :=
  OpenClaim.holds_of_wide 4 Try.f4 rfl rfl rfl rfl rfl rfl rfl ⟨rfl, rfl, rfl, rfl, rfl⟩ rfl rfl rfl rfl rfl (by kernel_rfl) Try.func4 (by kernel_rfl)
    (of_decide_eq_true (by kernel_rfl)) (by unfold Func.isWrapper; first | (rw [if_pos (by decide +kernel)]; kernel_rfl) | (rw [if_neg (by decide +kernel)]; exact ⟨rfl, rfl⟩))
    (fun os started H enc _ => lifeEnds_lifted os started H enc)

theorem lifeEnds_holds : Rows.LifeEndsSaid := lifeEnds_over
end Go.Proofs.Ytnlgmhglekakeaa
