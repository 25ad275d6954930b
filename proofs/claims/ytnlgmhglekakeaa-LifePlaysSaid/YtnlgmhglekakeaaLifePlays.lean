/-
  Every life, made by New or zero, and every event, in every order: it answers as the reference's table says; a nil one does nothing: the statement LifePlays. No condition.
-/
import Derived.Test.YtnlgmhglekakeaaLifeF
import Derived.Test.YtnlgmhglekakeaaOpenB
import Derived.Test.YtnlgmhglekakeaaRows
namespace Go.Proofs.Ytnlgmhglekakeaa
open Go.ChangeShapes Go.WideShapes Go.ChangeAt Go.RowKit

theorem do_nil (A : Option Addr) (n c : Nat) (w : World) : Calls Try.prog 17 #[.pointer none, .slice A n c] w fun e w' => e = .returned (.int .i64 0) ∧ w = w' := by
  go_enter Try.func17, Try.ntmps17
  go_wp2
  go_ret
  exact ⟨rfl, rfl⟩

/-- What stands behind the loop over the rows, and the loop itself, from a life in block b. -/
def PlaysAt (wr : World) (w : World) (b : Nat) (k : Nat) (s d : Int) : Prop := Blk wr b 38 #[.int .i64 s, .int .i64 d] ∧ 0 ≤ d ∧ d ≤ 100 * k ∧ Below w.heap.size w wr

set_option maxHeartbeats 4000000 in
set_option maxRecDepth 100000 in
theorem lifePlays_walk (w : World) (zero : Bool) (A : Option Addr) (n c : Nat) (rows : List IRow) (h : Reads w w.heap.size 1 A n (rows.map IRow.val)) (hl : n ≤ c) (hm : c ≤ maxLen) (hr : ∀ r ∈ rows, r.ok w w.heap.size) :
    Calls Try.prog 6 #[.bool zero, .slice A n c] w fun e w' => e = .returned (.bool true) ∧ Below w.heap.size w w' := by
  have hn : n ≤ 9223372036854775807 := by unfold maxLen at hm; omega
  clear hm
  by_cases hbig : 100 < n
  · go_enter Try.func6, Try.ntmps6
    go_wp2_with fail
    refine (alive_any w).mono ?_
    rintro en w3 ⟨rfl, hb3⟩
    go_wp2_with fail
    go_ret
    exact ⟨rfl, hb3⟩
  · have HR := Lib.hid hr
    clear hr
    cases zero
    · go_enter Try.func6, Try.ntmps6
      go_wp2_with fail
      refine (new_any w).mono ?_
      rintro en w2 ⟨rfl, hw2⟩
      have hB := hw2 ▸ Blk.new w 38 #[.int .i64 0, .int .i64 0]
      have hb2 : Below w.heap.size w w2 := hw2 ▸ (Below.refl _ w).alloc (Nat.le_refl _) _
      clear hw2
      obtain ⟨b, hbb⟩ : ∃ b, b = w.heap.size := ⟨_, rfl⟩
      rw [← hbb] at hB ⊢
      have hb0 : w.heap.size ≤ b := by omega
      have HB := Lib.hid hB
      clear hB hbb
      go_wp2_with fail
      go_loopw [6, 7, 8, 9, 10, 11, 12] (fun s d i _ _ _ _ wr => ∃ (k : Nat) (s' d' : Int), k ≤ n ∧ i = .int .i64 k ∧ s = .int .i64 s' ∧ d = .int .i64 d' ∧ PlaysAt wr w b k s' d')
        (fun _ _ i _ _ _ _ _ => n - (intOf i).toNat)
      case atStart => exact ⟨0, 0, 0, Nat.zero_le _, rfl, rfl, rfl, HB.out, by omega, by omega, hb2⟩
      case round =>
        obtain ⟨k, s, d, hk, rfl, rfl, rfl, hb, hd0, hdk, hbl⟩ := hrel
        by_cases hlt : k < n
        · obtain ⟨ad, r, rfl, had, hrk, hc⟩ := (h.below hbl).row hlt
          obtain ⟨hrd, hrc, hrm, _⟩ := (HR.out r (List.mem_of_getElem? hrk)).below hbl
          have hrn : r.n ≤ 9223372036854775807 := by unfold maxLen at hrm; omega
          obtain ⟨A', n', c', xs⟩ := r
          simp only at hrd hrc hrm hrn hc
          clear hrm hrk
          by_cases hbig2 : 100 < n'
          · go_wp2_with fail
            go_ret
            exact ⟨rfl, hbl⟩
          · have HB1 := Lib.hid hb
            clear hb HB
            have hlen := hrd.int_len
            go_wp2_with fail
            obtain ⟨wo, hwo⟩ : ∃ wo : World, wo = wr := ⟨_, rfl⟩
            go_loop [6, 9, 10, 11, 12] (fun s1 n1 j _ _ => ∃ (q : Nat), q ≤ n' ∧ j = .int .i64 q ∧ s1 = .int .i64 (doS s (xs.take q)) ∧ n1 = .int .i64 (doN s (xs.take q))) (fun _ _ j _ _ => n' - (intOf j).toNat)
            case atStart => exact ⟨0, Nat.zero_le _, rfl, rfl, rfl⟩
            case round =>
              obtain ⟨q, hq, rfl, rfl, rfl⟩ := hrel
              by_cases hqn : q < n'
              · obtain ⟨ad2, x, rfl, had2, hx, hcx⟩ := hrd.int hqn
                have hn1 : doN s (xs.take (q + 1)) = doN s (xs.take q) + (if (nextF (doS s (xs.take q)) x).2 then 1 else 0) := by rw [take_snoc hx, doN_append]; simp [doN]
                have hs1 : doS s (xs.take (q + 1)) = (nextF (doS s (xs.take q)) x).1 := by rw [take_snoc hx, doS_append]; simp [doS]
                have hnq := doN_le s (xs.take q)
                rw [List.length_take] at hnq
                have HN := Lib.hid hn1
                have HS := Lib.hid hs1
                have HL := Lib.hid hlen
                clear hn1 hs1 hx hlen hwo
                generalize doS s (xs.take q) = sq at *
                generalize doN s (xs.take q) = nq at *
                by_cases hy : (nextF sq x).2 = true
                · go_wp2_with (go_at_call 8; refine (refNext_any _ _ _).mono ?_; rintro en w1 ⟨rfl, rfl⟩)
                  go_round
                  case rel =>
                    have := HN.out
                    rw [if_pos hy] at this
                    exact ⟨q + 1, by omega, by go_num, by rw [HS.out], by rw [this]; go_num⟩
                  case measure => simp [intOf]; omega
                · have hy' : (nextF sq x).2 = false := by simpa using hy
                  clear hy
                  go_wp2_with (go_at_call 8; refine (refNext_any _ _ _).mono ?_; rintro en w1 ⟨rfl, rfl⟩)
                  go_round
                  case rel =>
                    have := HN.out
                    rw [if_neg (by simp [hy'])] at this
                    exact ⟨q + 1, by omega, by go_num, by rw [HS.out], by rw [this]; rfl⟩
                  case measure => simp [intOf]; omega
              · have e' : xs.take q = xs := by rw [show q = n' by omega, ← hlen, List.take_length]
                rw [e']
                have hnn := doN_le s xs
                clear e' hwo
                have HL := Lib.hid hlen
                have hnn2 : doN s xs ≤ n' := by omega
                clear hlen hnn
                go_wp2_with fail
                refine (do_any b s d A' n' c' w.heap.size xs wr HB1.out hrd hbl.size ?_ hd0 (by omega)).mono ?_
                · intro h0 ad2 he
                  obtain ⟨ad3, e3, h3, _⟩ := hrd.2 h0
                  rw [he] at e3
                  injection e3 with e3
                  subst e3
                  omega
                rintro en w5 ⟨rfl, hb5, hg5⟩
                have hbl5 := below_only hbl hbl.size hg5 hb0
                clear hg5
                have HB5 := Lib.hid hb5
                clear hb5
                generalize doN s xs = nn at *
                generalize doS s xs = ss at *
                go_wp2_with fail
                refine (state_any b _ _ w5 HB5.out).mono ?_
                rintro en w6 ⟨rfl, rfl⟩
                go_wp2_with fail
                refine (done_any b _ _ w5 HB5.out).mono ?_
                rintro en w6 ⟨rfl, rfl⟩
                go_wp2_with fail
                go_roundw
                case rel => exact ⟨k + 1, ss, d + nn, by omega, by go_num, rfl, rfl, HB5.out, by omega, by omega, hbl5⟩
                case measure => simp [intOf]; omega
        · clear HB
          go_wp2_with fail
          refine (alive_any wr).mono ?_
          rintro en w3 ⟨rfl, hb3⟩
          have hbl3 := hbl.trans (hb3.mono hbl.size)
          go_wp2_with fail
          refine (do_nil _ _ _ _).mono ?_
          rintro en w4 ⟨rfl, rfl⟩
          go_wp2_with fail
          refine (state_nil _).mono ?_
          rintro en w4 ⟨rfl, rfl⟩
          go_wp2_with fail
          refine (done_nil _).mono ?_
          rintro en w4 ⟨rfl, rfl⟩
          go_wp2_with fail
          go_ret
          exact ⟨rfl, hbl3.alloc hbl3.size _⟩
    · go_enter Try.func6, Try.ntmps6
      go_wp2_with fail
      refine (new_any w).mono ?_
      rintro en w2 ⟨rfl, hw2⟩
      have hb2 : Below w.heap.size w w2 := hw2 ▸ (Below.refl _ w).alloc (Nat.le_refl _) _
      clear hw2
      go_wp2_with fail
      have hB := Blk.new w2 38 #[.int .i64 0, .int .i64 0]
      have hb2 := hb2.alloc hb2.size (.cells #[.int .i64 0, .int .i64 0] 38)
      generalize w2.alloc (.cells #[.int .i64 0, .int .i64 0] 38) = w4 at hB hb2 ⊢
      have hb0 : w.heap.size ≤ w2.heap.size := by have := ‹Below w.heap.size w w2›.size; omega
      obtain ⟨b, hbb⟩ : ∃ b, b = w2.heap.size := ⟨_, rfl⟩
      rw [← hbb] at hB hb0 ⊢
      have HB := Lib.hid hB
      clear hB hbb
      go_loopw [6, 7, 8, 9, 10, 11, 12] (fun s d i _ _ _ _ wr => ∃ (k : Nat) (s' d' : Int), k ≤ n ∧ i = .int .i64 k ∧ s = .int .i64 s' ∧ d = .int .i64 d' ∧ PlaysAt wr w b k s' d')
        (fun _ _ i _ _ _ _ _ => n - (intOf i).toNat)
      case atStart => exact ⟨0, 0, 0, Nat.zero_le _, rfl, rfl, rfl, HB.out, by omega, by omega, hb2⟩
      case round =>
        obtain ⟨k, s, d, hk, rfl, rfl, rfl, hb, hd0, hdk, hbl⟩ := hrel
        by_cases hlt : k < n
        · obtain ⟨ad, r, rfl, had, hrk, hc⟩ := (h.below hbl).row hlt
          obtain ⟨hrd, hrc, hrm, _⟩ := (HR.out r (List.mem_of_getElem? hrk)).below hbl
          have hrn : r.n ≤ 9223372036854775807 := by unfold maxLen at hrm; omega
          obtain ⟨A', n', c', xs⟩ := r
          simp only at hrd hrc hrm hrn hc
          clear hrm hrk
          by_cases hbig2 : 100 < n'
          · go_wp2_with fail
            go_ret
            exact ⟨rfl, hbl⟩
          · have HB1 := Lib.hid hb
            clear hb HB
            have hlen := hrd.int_len
            go_wp2_with fail
            obtain ⟨wo, hwo⟩ : ∃ wo : World, wo = wr := ⟨_, rfl⟩
            go_loop [6, 9, 10, 11, 12] (fun s1 n1 j _ _ => ∃ (q : Nat), q ≤ n' ∧ j = .int .i64 q ∧ s1 = .int .i64 (doS s (xs.take q)) ∧ n1 = .int .i64 (doN s (xs.take q))) (fun _ _ j _ _ => n' - (intOf j).toNat)
            case atStart => exact ⟨0, Nat.zero_le _, rfl, rfl, rfl⟩
            case round =>
              obtain ⟨q, hq, rfl, rfl, rfl⟩ := hrel
              by_cases hqn : q < n'
              · obtain ⟨ad2, x, rfl, had2, hx, hcx⟩ := hrd.int hqn
                have hn1 : doN s (xs.take (q + 1)) = doN s (xs.take q) + (if (nextF (doS s (xs.take q)) x).2 then 1 else 0) := by rw [take_snoc hx, doN_append]; simp [doN]
                have hs1 : doS s (xs.take (q + 1)) = (nextF (doS s (xs.take q)) x).1 := by rw [take_snoc hx, doS_append]; simp [doS]
                have hnq := doN_le s (xs.take q)
                rw [List.length_take] at hnq
                have HN := Lib.hid hn1
                have HS := Lib.hid hs1
                have HL := Lib.hid hlen
                clear hn1 hs1 hx hlen hwo
                generalize doS s (xs.take q) = sq at *
                generalize doN s (xs.take q) = nq at *
                by_cases hy : (nextF sq x).2 = true
                · go_wp2_with (go_at_call 8; refine (refNext_any _ _ _).mono ?_; rintro en w1 ⟨rfl, rfl⟩)
                  go_round
                  case rel =>
                    have := HN.out
                    rw [if_pos hy] at this
                    exact ⟨q + 1, by omega, by go_num, by rw [HS.out], by rw [this]; go_num⟩
                  case measure => simp [intOf]; omega
                · have hy' : (nextF sq x).2 = false := by simpa using hy
                  clear hy
                  go_wp2_with (go_at_call 8; refine (refNext_any _ _ _).mono ?_; rintro en w1 ⟨rfl, rfl⟩)
                  go_round
                  case rel =>
                    have := HN.out
                    rw [if_neg (by simp [hy'])] at this
                    exact ⟨q + 1, by omega, by go_num, by rw [HS.out], by rw [this]; rfl⟩
                  case measure => simp [intOf]; omega
              · have e' : xs.take q = xs := by rw [show q = n' by omega, ← hlen, List.take_length]
                rw [e']
                have hnn := doN_le s xs
                clear e' hwo
                have HL := Lib.hid hlen
                have hnn2 : doN s xs ≤ n' := by omega
                clear hlen hnn
                go_wp2_with fail
                refine (do_any b s d A' n' c' w.heap.size xs wr HB1.out hrd hbl.size ?_ hd0 (by omega)).mono ?_
                · intro h0 ad2 he
                  obtain ⟨ad3, e3, h3, _⟩ := hrd.2 h0
                  rw [he] at e3
                  injection e3 with e3
                  subst e3
                  omega
                rintro en w5 ⟨rfl, hb5, hg5⟩
                have hbl5 := below_only hbl hbl.size hg5 hb0
                clear hg5
                have HB5 := Lib.hid hb5
                clear hb5
                generalize doN s xs = nn at *
                generalize doS s xs = ss at *
                go_wp2_with fail
                refine (state_any b _ _ w5 HB5.out).mono ?_
                rintro en w6 ⟨rfl, rfl⟩
                go_wp2_with fail
                refine (done_any b _ _ w5 HB5.out).mono ?_
                rintro en w6 ⟨rfl, rfl⟩
                go_wp2_with fail
                go_roundw
                case rel => exact ⟨k + 1, ss, d + nn, by omega, by go_num, rfl, rfl, HB5.out, by omega, by omega, hbl5⟩
                case measure => simp [intOf]; omega
        · clear HB
          go_wp2_with fail
          refine (alive_any wr).mono ?_
          rintro en w3 ⟨rfl, hb3⟩
          have hbl3 := hbl.trans (hb3.mono hbl.size)
          go_wp2_with fail
          refine (do_nil _ _ _ _).mono ?_
          rintro en w4 ⟨rfl, rfl⟩
          go_wp2_with fail
          refine (state_nil _).mono ?_
          rintro en w4 ⟨rfl, rfl⟩
          go_wp2_with fail
          refine (done_nil _).mono ?_
          rintro en w4 ⟨rfl, rfl⟩
          go_wp2_with fail
          go_ret
          exact ⟨rfl, hbl3.alloc hbl3.size _⟩

/-! ### THE ROW's STEP -/
theorem lifePlays_own : ownKnob Try.prog.godebug = none := by kernel_rfl
theorem lifePlays_laidOut : laidOutB Try.prog = true := by kernel_rfl
set_option maxRecDepth 100000 in
theorem lifePlays_lifted (os : Os) (started : os.Started) (H : Type) (enc : TypeId × Value → H) :
    ReturnsInHanded {} Try.checked os 6 .any (Rows.lifePlaysSpec.pre6 enc Try.prog Try.f6 Rows.lifePlaysRow.domain false) (Rows.lifePlaysSpec.post enc Try.prog Try.f6 false true false false) := by
  refine returnsInHanded_of_change (C := Try.checked) lifePlays_own started (by kernel_rfl) Try.func6
    (ChangeSpec.witness6 (enc := enc) (C := Try.checked) false ⟨#[], #[.bool false, .slice none 0 0], []⟩ 8 (by kernel_rfl) (by kernel_rfl) (by kernel_rfl) (by kernel_rfl)) ?_
  intro W base args ds gs before hval0 hW hcnd _
  have hval : ∀ (j : Nat) t v, Try.f6.params[j]? = some t → args[j]? = some v → Value.okWide Try.prog W .any base t v := hval0
  have hW' := hW
  obtain ⟨p, q, hA0, hV, rfl, hfz, hnd⟩ := hW
  have hA : DataW.TrodAll enc Try.prog W 0 (fun _ => true) true Try.f6.params.toList args.toList ds p := hA0
  rw [Try.params6] at hA hval
  obtain ⟨v0, vs0, d0, ds0, p0, q0, hargs, rfl, rfl, h0, r_0⟩ := trodAll_cons hA
  obtain ⟨v1, vs1, d1, ds1, p1, q1, rfl, rfl, rfl, h1, r_1⟩ := trodAll_cons r_0
  obtain ⟨rfl, rfl, rfl⟩ := trodAll_nil r_1
  obtain rfl : args = #[v0, v1] := by cases args; simp_all
  obtain ⟨a0, rfl, rfl, rfl⟩ := open_bool Try.underlying4 (hval 0 4 v0 rfl rfl) h0
  obtain ⟨A1, n1, c1, x1, rfl, r1, l1, m1, z1⟩ := open_slice_rows Try.underlying36 Try.underlying22 Try.underlying3 (by kernel_rfl) (by kernel_rfl) (hval 1 36 v1 rfl rfl) h1
  clear hA0 hval0
  refine (lifePlays_walk W a0 A1 n1 c1 x1 r1 l1 m1 z1).mono fun e W' ⟨he, bel⟩ => ?_
  subst he
  exact ⟨_, rfl, post_true lifePlays_laidOut (by kernel_rfl) rfl Try.underlying4 rfl hW' (by
    intro es he
    match es, he with
    | [e0, e1], _ => rfl) bel⟩

theorem lifePlays_over : Rows.lifePlaysRow.holds Try.pinned (OpenSpec.ofChange Rows.lifePlaysSpec) :=
  OpenClaim.holds_of_wide 6 Try.f6 rfl rfl rfl rfl rfl rfl rfl ⟨rfl, rfl, rfl, rfl, rfl⟩ rfl rfl rfl rfl rfl (by kernel_rfl) Try.func6 (by kernel_rfl)
    (of_decide_eq_true (by kernel_rfl)) (by unfold Func.isWrapper; first | (rw [if_pos (by decide +kernel)]; kernel_rfl) | (rw [if_neg (by decide +kernel)]; exact ⟨rfl, rfl⟩))
    (fun os started H enc _ => lifePlays_lifted os started H enc)

theorem lifePlays_holds : Rows.LifePlaysSaid := lifePlays_over
end Go.Proofs.Ytnlgmhglekakeaa
