/-
  New numbers are classes of their own, and the others stay: the statement UfGrows. No condition.
-/
import Derived.Test.YtnekdddcpiiogaaUfH
import Derived.Test.YtnekdddcpiiogaaOpen
import Derived.Test.YtnekdddcpiiogaaRows
namespace Go.Proofs.Ytnekdddcpiiogaa
open Go.ChangeShapes Go.WideShapes Go.ChangeAt Go.RowKit

set_option maxHeartbeats 2000000 in
theorem ufGrows_walk (w : World) (n : Int) (_ : -9223372036854775808 ≤ n ∧ n ≤ 9223372036854775807) (m : Int) (_ : -9223372036854775808 ≤ m ∧ m ≤ 9223372036854775807)
    (L : Option Addr) (k cl : Nat) (xs : List Int) (h : Reads w w.heap.size 1 L k (ints xs)) (hl : k ≤ cl) (hm : cl ≤ maxLen) (_ : ∀ x ∈ xs, -9223372036854775808 ≤ x ∧ x ≤ 9223372036854775807) :
    Calls Try.prog 6 #[.int .i64 n, .int .i64 m, .slice L k cl] w fun e w' => e = .returned (.bool true) ∧ Below w.heap.size w w' := by
  have hn : k ≤ 9223372036854775807 := by unfold maxLen at hm; omega
  clear hm
  by_cases hg : n < 0 ∨ 30 < n ∨ m < n ∨ 60 < m ∨ 20 < k
  · by_cases g0 : n < 0
    · go_enter Try.func6, Try.ntmps6
      go_wp2_with fail
      refine (alive_any w).mono ?_
      rintro en w2 ⟨rfl, hb2⟩
      go_wp2_with fail
      go_ret
      exact ⟨rfl, hb2⟩
    · by_cases g1 : 30 < n
      · go_enter Try.func6, Try.ntmps6
        go_wp2_with fail
        refine (alive_any w).mono ?_
        rintro en w2 ⟨rfl, hb2⟩
        go_wp2_with fail
        go_ret
        exact ⟨rfl, hb2⟩
      · by_cases g2 : m < n
        · go_enter Try.func6, Try.ntmps6
          go_wp2_with fail
          refine (alive_any w).mono ?_
          rintro en w2 ⟨rfl, hb2⟩
          go_wp2_with fail
          go_ret
          exact ⟨rfl, hb2⟩
        · by_cases g3 : 60 < m
          · go_enter Try.func6, Try.ntmps6
            go_wp2_with fail
            refine (alive_any w).mono ?_
            rintro en w2 ⟨rfl, hb2⟩
            go_wp2_with fail
            go_ret
            exact ⟨rfl, hb2⟩
          · have g4 : 20 < k := by omega
            clear hg
            go_enter Try.func6, Try.ntmps6
            go_wp2_with fail
            refine (alive_any w).mono ?_
            rintro en w2 ⟨rfl, hb2⟩
            go_wp2_with fail
            go_ret
            exact ⟨rfl, hb2⟩
  · obtain ⟨n, rfl⟩ := Int.eq_ofNat_of_zero_le (show 0 ≤ n by omega)
    obtain ⟨m, rfl⟩ := Int.eq_ofNat_of_zero_le (show 0 ≤ m by omega)
    have n1 : n ≤ 30 := by omega
    have m0 : n ≤ m := by omega
    have m1 : m ≤ 60 := by omega
    have k1 : k ≤ 20 := by omega
    clear hg
    go_enter Try.func6, Try.ntmps6
    go_wp2_with fail
    refine (new_in n (by omega) w).mono ?_
    rintro en w1 ⟨rfl, g, A, c, hu, hb, hg⟩
    have HU := Lib.hid hu
    have HB := Lib.hid hb
    have HG := Lib.hid hg
    clear hu hb hg
    generalize hb0 : w.heap.size = b at *
    have HB0 := Lib.hid hb0
    clear hb0
    go_wp2_with fail
    have hfr := Lib.hid (Uf.fresh_length n)
    refine (join_any b g (Uf.fresh n) A c L k cl b xs w1 HU.out (Uf.fresh_good n) (by rw [hfr.out]; omega) (h.below HB.out) (by have := HB.out.size; have := HB0.out; omega) (by intro ad _ hlb; have := HG.out; omega) (by omega)).mono ?_
    rintro en w2 ⟨jc, je, v, rfl, hgood, hvl, hu2, hk2⟩
    rw [hfr.out] at hvl
    have HU2 := Lib.hid hu2
    have HK2 := Lib.hid hk2
    have HGV := Lib.hid hgood
    have HVL := Lib.hid hvl
    clear hu2 hk2 hgood hvl h
    go_wp2_with fail
    refine (classes_in b A c v w2 HU2.out.rd HU2.out.lt.1 HGV.out (by rw [HVL.out]; omega)).mono ?_
    rintro en w3 ⟨LA, ca, rfl, hrows, hb3⟩
    have HR3 := Lib.hid hrows
    have HB3 := Lib.hid hb3
    have HU3 := Lib.hid (HU2.out.below hb3)
    clear hrows hb3
    go_wp2_with fail
    refine (grow_in b g v A c m w3 HU3.out (by rw [HVL.out]; exact m0) (by omega)).mono ?_
    rintro en w4 ⟨rfl, g', A', c', hu4, hk4, hg4⟩
    rw [HVL.out] at hu4
    have HU4 := Lib.hid hu4
    have HK4 := Lib.hid hk4
    have HG4 := Lib.hid hg4
    clear hu4 hk4 hg4
    have hgg := growF_good HGV.out (m - n)
    have hgl := growF_length v (m - n)
    obtain ⟨l, hcl, hll⟩ := growF_classes HGV.out (m - n)
    have hnew := growF_new HGV.out (m - n)
    rw [HVL.out] at hgl hnew
    have HGG := Lib.hid hgg
    have HGL := Lib.hid hgl
    have HCL := Lib.hid hcl
    have HLL := Lib.hid hll
    have HNEW := Lib.hid hnew
    clear hgg hgl hcl hll hnew
    generalize growF v (m - n) = v' at *
    go_wp2_with fail
    refine (classes_in b A' c' v' w4 HU4.out.rd HU4.out.lt.1 HGG.out (by rw [HGL.out]; omega)).mono ?_
    rintro en w5 ⟨LB, cb, rfl, hrows, hb5⟩
    have HR5 := Lib.hid hrows
    have HB5 := Lib.hid hb5
    have HU5 := Lib.hid (HU4.out.below hb5)
    clear hrows hb5
    go_wp2_with fail
    have hkA : RowsR w5 w3.heap.size w2.heap.size LA (Uf.classes v) := by
      have hlt := HU2.out.lt
      have h4 := HR3.out.keeps HK4.out (Nat.le_refl _) (by intro x hx; simp at hx; omega)
      exact h4.keeps (Keeps.of_below HB5.out []) HK4.out.size (by simp)
    have HRA := Lib.hid hkA
    clear hkA
    have hlenA : (Uf.classes v).length ≤ n := by
      unfold Uf.classes Uf.heads
      rw [List.length_map, HVL.out]
      refine Nat.le_trans (List.length_filter_le _ _) ?_
      simp
    have hlenB : (Uf.classes v').length = (Uf.classes v).length + (m - n) := by rw [HCL.out, List.length_append, HLL.out]
    generalize hca : (Uf.classes v).length = na at *
    generalize hcb : (Uf.classes v').length = nb at *
    have HCA := Lib.hid hca
    have HCB := Lib.hid hcb
    clear hca hcb
    have hb1 : ((nb : Int) != (na : Int) + m - n) = false := by simp; omega
    have HLB := Lib.hid hlenB
    have hnb : nb ≤ 100 := by omega
    have hnab : na ≤ nb := by omega
    clear hlenB
    go_wp2_with fail
    refine (len_any b A' c' v' _ HU5.out.rd).mono ?_
    rw [HGL.out]
    rintro en w6 ⟨rfl, rfl⟩
    have hnm : ((n + (m - n) : Nat) : Int) = m := by omega
    rw [hnm]
    go_wp2_with fail
    go_loopw [11] (fun iv wr => ∃ k2 m2 : Nat, k2 ≤ na ∧ iv = .int .i64 k2 ∧ wr = w5.drewN m2) (fun iv _ => na - (intOf iv).toNat)
    case atStart => exact ⟨0, 0, Nat.zero_le _, rfl, rfl⟩
    case round =>
      obtain ⟨k2, m2, hk2, rfl, rfl⟩ := hrel
      by_cases hlt : k2 < na
      · obtain ⟨a1, B1, c1, e1, hc1, hr1, _, _⟩ := (HRA.out.drewN m2).row (k := k2) (by rw [HCA.out]; exact hlt)
        obtain ⟨a2, B2, c2, e2, hc2, hr2, _, _⟩ := (HR5.out.drewN m2).row (k := k2) (by rw [HCB.out, HLB.out]; omega)
        have hsame : (Uf.classes v').getD k2 [] = (Uf.classes v).getD k2 [] := by
          rw [HCL.out, List.getD_eq_getElem?_getD, List.getElem?_append_left (by rw [HCA.out]; exact hlt), ← List.getD_eq_getElem?_getD]
        have hll : ((Uf.classes v).getD k2 []).length ≤ n := by
          have := Uf.classes_row_len (u := v) (k := k2) (by rw [HCA.out]; exact hlt)
          rw [HVL.out] at this
          exact this
        rw [hsame] at hc2 hr2
        clear hsame
        subst e1 e2
        generalize (Uf.classes v).getD k2 [] = xs1 at *
        rw [nats_ints] at hr1 hr2
        generalize hx1 : xs1.length = n2 at *
        clear hx1
        have HW : Hid (∃ m', w5.drewN m2 = w5.drewN m') := Lib.hid ⟨m2, rfl⟩
        generalize w5.drewN m2 = wr at *
        have QS := Lib.hid (quiet_sameInts hr2 hr1 (show n2 ≤ 1000000000000 by omega) (decide_eq_true rfl))
        clear hr1 hr2
        go_wp2_with fail
        go_quiet (first | exact QS.out _ _ _)
        go_wp2_with fail
        go_roundw
        case rel =>
          obtain ⟨m', hm'⟩ := HW.out
          exact ⟨k2 + 1, m' + nq, by omega, by go_num, by rw [hm', World.drewN_drewN]⟩
        case measure => simp [intOf]; omega
      · go_wp2_with fail
        have HBD : Hid (Below w5.heap.size w5 (w5.drewN m2)) := Lib.hid (below_drewN (Below.refl _ _) m2)
        have HU6 : Hid (UfAt (w5.drewN m2) b g' v' A' c') := Lib.hid (HU5.out.below HBD.out)
        generalize w5.drewN m2 = w6 at *
        go_loopw [12] (fun iv wr => ∃ i : Nat, n < i ∧ i ≤ m + 1 ∧ iv = .int .i64 i ∧ UfAt wr b g' v' A' c' ∧ Below w5.heap.size w5 wr) (fun iv _ => m + 1 - (intOf iv).toNat)
        case atStart => exact ⟨n + 1, by omega, by omega, by go_num, HU6.out, HBD.out⟩
        case round =>
          obtain ⟨i, i1, i2, rfl, hu, hb⟩ := hrel
          have HUR := Lib.hid hu
          have HBR := Lib.hid hb
          clear hu hb
          by_cases hle : i ≤ m
          · obtain ⟨q1, q2⟩ := HNEW.out i i1 (by omega)
            have hin : 1 ≤ i ∧ i ≤ v'.length := by rw [HGL.out]; omega
            have HIN := Lib.hid hin
            have HHD := Lib.hid (headI_nat hin)
            have HQ1 := Lib.hid q1
            have HQ2 := Lib.hid q2
            have hb1 : ((i : Int) != (i : Int)) = false := by simp
            clear hin q1 q2
            go_wp2_with fail
            refine (head_any b A' c' v' _ _ HUR.out.rd HGG.out (by rw [HGL.out]; omega)).mono ?_
            rw [HHD.out, HQ1.out]
            rintro en w7 ⟨rfl, rfl⟩
            go_wp2_with fail
            refine (class_in b A' c' v' i _ HUR.out.rd HUR.out.lt.1 HGG.out (by rw [HGL.out]; omega) HIN.out).mono ?_
            rw [HQ1.out, HQ2.out]
            rintro en w7 ⟨L7, cp7, rfl, _, hb7⟩
            have HB7 := Lib.hid hb7
            clear hb7
            go_wp2_with fail
            go_roundw
            case rel => exact ⟨i + 1, by omega, by omega, by go_num, HUR.out.below HB7.out, HBR.out.trans (HB7.out.mono HBR.out.size)⟩
            case measure => simp [intOf]; omega
          · go_wp2_with fail
            refine (alive_any _).mono ?_
            rintro en w7 ⟨rfl, hb7⟩
            have HB7 := Lib.hid hb7
            clear hb7
            go_wp2_with fail
            go_ret
            refine ⟨rfl, ?_⟩
            have s0 := HB0.out
            have hlt := HU2.out.lt
            have a0 : Keeps [] w w1 := Keeps.of_below (by rw [s0]; exact HB.out) []
            have hsz1 := HB.out.size
            have := HG.out
            have a1 : Keeps [b, g] w w2 := a0.trans HK2.out (by intro x hx; simp at hx; right; omega) |>.mono (by simp)
            have a2 : Keeps [b, g] w w3 := a1.trans (Keeps.of_below HB3.out []) (by simp)
            have a3 : Keeps [b, g] w w4 := a2.trans HK4.out (by intro x hx; exact .inl hx)
            have a4 : Keeps [b, g] w w5 := a3.trans (Keeps.of_below HB5.out []) (by simp)
            have a5 := a4.trans (Keeps.of_below HBR.out []) (by simp)
            have a6 := a5.trans (Keeps.of_below HB7.out []) (by simp)
            exact a6.below (by intro x hx; simp at hx; omega) (Nat.le_refl _)

/-! ### THE ROW's STEP -/
theorem ufGrows_own : ownKnob Try.prog.godebug = none := by kernel_rfl
theorem ufGrows_laidOut : laidOutB Try.prog = true := by kernel_rfl
set_option maxRecDepth 100000 in
theorem ufGrows_lifted (os : Os) (started : os.Started) (H : Type) (enc : TypeId × Value → H) :
    ReturnsInHanded {} Try.checked os 6 .any (Rows.ufGrowsSpec.pre6 enc Try.prog Try.f6 Rows.ufGrowsRow.domain false) (Rows.ufGrowsSpec.post enc Try.prog Try.f6 false true false false) := by
  refine returnsInHanded_of_change (C := Try.checked) ufGrows_own started (by kernel_rfl) Try.func6
    (ChangeSpec.witness6 (enc := enc) (C := Try.checked) false ⟨#[], #[.int .i64 0, .int .i64 0, .slice none 0 0], []⟩ 8 (by kernel_rfl) (by kernel_rfl) (by kernel_rfl) (by kernel_rfl)) ?_
  intro W base args ds gs before hval0 hW hcnd _
  have hval : ∀ (j : Nat) t v, Try.f6.params[j]? = some t → args[j]? = some v → Value.okWide Try.prog W .any base t v := hval0
  have hW' := hW
  obtain ⟨p, q, hA0, hV, rfl, hfz, hnd⟩ := hW
  have hA : DataW.TrodAll enc Try.prog W 0 (fun _ => true) true Try.f6.params.toList args.toList ds p := hA0
  rw [Try.params6] at hA hval
  obtain ⟨v0, vs0, d0, ds0, p0, q0, hargs, rfl, rfl, h0, r_0⟩ := trodAll_cons hA
  obtain ⟨v1, vs1, d1, ds1, p1, q1, rfl, rfl, rfl, h1, r_1⟩ := trodAll_cons r_0
  obtain ⟨v2, vs2, d2, ds2, p2, q2, rfl, rfl, rfl, h2, r_2⟩ := trodAll_cons r_1
  obtain ⟨rfl, rfl, rfl⟩ := trodAll_nil r_2
  obtain rfl : args = #[v0, v1, v2] := by cases args; simp_all
  obtain ⟨a0, rfl, rfl, rfl, w0⟩ := open_int Try.underlying3 (hval 0 3 v0 rfl rfl) h0
  have b0 := bounds_of_wf w0
  obtain ⟨a1, rfl, rfl, rfl, w1⟩ := open_int Try.underlying3 (hval 1 3 v1 rfl rfl) h1
  have b1 := bounds_of_wf w1
  obtain ⟨A2, n2, c2, x2, rfl, r2, l2, m2, z2⟩ := open_slice_ints Try.underlying22 Try.underlying3 (by kernel_rfl) (hval 2 22 v2 rfl rfl) h2
  clear hA0 hval0
  refine (ufGrows_walk W a0 b0 a1 b1 A2 n2 c2 x2 r2 l2 m2 z2).mono fun e W' ⟨he, bel⟩ => ?_
  subst he
  exact ⟨_, rfl, post_true ufGrows_laidOut (by kernel_rfl) rfl Try.underlying4 rfl hW' (by
    intro es he
    match es, he with
    | [e0, e1, e2], _ => rfl) bel⟩

theorem ufGrows_over : Rows.ufGrowsRow.holds Try.pinned (OpenSpec.ofChange Rows.ufGrowsSpec) :=
  OpenClaim.holds_of_wide 6 Try.f6 rfl rfl rfl rfl rfl rfl rfl ⟨rfl, rfl, rfl, rfl, rfl⟩ rfl rfl rfl rfl rfl (by kernel_rfl) Try.func6 (by kernel_rfl)
    (of_decide_eq_true (by kernel_rfl)) (by unfold Func.isWrapper; first | (rw [if_pos (by decide +kernel)]; kernel_rfl) | (rw [if_neg (by decide +kernel)]; exact ⟨rfl, rfl⟩))
    (fun os started H enc _ => ufGrows_lifted os started H enc)

theorem ufGrows_holds : Rows.UfGrowsSaid := ufGrows_over
end Go.Proofs.Ytnekdddcpiiogaa
