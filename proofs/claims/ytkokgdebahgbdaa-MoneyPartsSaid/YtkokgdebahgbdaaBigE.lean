/-
  The contract of the reference's Need; what is needed is one number.
-/
import Derived.Test.YtkokgdebahgbdaaBigD
namespace Go.Proofs.Ytkokgdebahgbdaa
open Go.RowKit

theorem need_one {v p c : Int} {r r' : Int × Int} (h : IsNeed v p c r) (h' : IsNeed v p c r') : r = r' := by
  rcases h with ⟨h1, h2⟩ | ⟨h1, h2⟩
  · rcases h' with ⟨k1, k2⟩ | ⟨k1, k2⟩
    · rw [h2, k2]
    · rw [h1] at k1; cases k1
  · rcases h' with ⟨k1, k2⟩ | ⟨k1, k2⟩
    · rw [h1] at k1; cases k1
    · rcases h2 with ⟨a1, a2, a3, a4, a5⟩ | ⟨rfl, a⟩
      · rcases k2 with ⟨b1, b2, b3, b4, b5⟩ | ⟨rfl, b⟩
        · obtain ⟨x, y⟩ := r
          obtain ⟨x', y'⟩ := r'
          simp only at a1 a2 a3 a4 a5 b1 b2 b3 b4 b5
          have : x = x' := by
            rcases Int.lt_trichotomy x x' with g | g | g
            · have := b5 x a2 g; omega
            · exact g
            · have := a5 x' b2 g; omega
          rw [a1, b1, this]
        · have := b r.1 a2 a3; omega
      · rcases k2 with ⟨b1, b2, b3, b4, b5⟩ | ⟨rfl, b⟩
        · have := a r'.1 b2 b3; omega
        · rfl

set_option maxHeartbeats 2000000 in
theorem r_need_any (v p c : Int) (hv : IsI64 v) (hp : IsI64 p) (hc : IsI64 c) (w : World) :
    Calls Try.prog 33 #[.int .i64 v, .int .i64 p, .int .i64 c] w (SomeNeed v p c w) := by
  by_cases hw : wrongF v p c = true
  · have HW := Lib.hid hw
    by_cases h1 : v < 0
    · clear hw
      go_enter Try.func33, Try.ntmps33
      go_wp2_with fail
      go_ret2
      exact some_need (.inl ⟨HW.out, rfl⟩) (Below.refl _ _)
    · by_cases h2 : p < 0
      · clear hw
        go_enter Try.func33, Try.ntmps33
        go_wp2_with fail
        go_ret2
        exact some_need (.inl ⟨HW.out, rfl⟩) (Below.refl _ _)
      · by_cases h3 : c < 0
        · clear hw
          go_enter Try.func33, Try.ntmps33
          go_wp2_with fail
          go_ret2
          exact some_need (.inl ⟨HW.out, rfl⟩) (Below.refl _ _)
        · have h4 : 10000 < c := by simp [wrongF] at hw; omega
          clear hw
          go_enter Try.func33, Try.ntmps33
          go_wp2_with fail
          go_ret2
          exact some_need (.inl ⟨HW.out, rfl⟩) (Below.refl _ _)
  · have hw' : wrongF v p c = false := by simpa using hw
    have hr : 0 ≤ v ∧ 0 ≤ p ∧ 0 ≤ c ∧ c ≤ 10000 := by simp [wrongF] at hw'; omega
    obtain ⟨r1, r2, r3, r4⟩ := hr
    obtain ⟨t0, t1, t2⟩ := topQ_bound r2
    have HW := Lib.hid hw'
    have HT2 := Lib.hid t2
    have HP := Lib.hid hp
    have HC := Lib.hid hc
    have hT' : topQ p = if 1 < p then 1152921504606846976 / p else 1152921504606846976 := by
      unfold topQ
      by_cases e1 : 1 < p
      · rw [if_pos (by omega), if_pos e1]
      · by_cases e2 : 0 < p
        · have : p = 1 := by omega
          subst this
          rw [if_pos (by omega), if_neg (by omega)]; rfl
        · rw [if_neg e2, if_neg e1]
    have HT := Lib.hid hT'
    obtain ⟨T, hT⟩ : ∃ T, topQ p = T := ⟨_, rfl⟩
    rw [hT] at t0 t1 HT2 HT
    have HTT := Lib.hid hT
    obtain ⟨v0, v1⟩ := hv
    obtain ⟨k1, k2, k3⟩ := worthF_in (q := T) (p := p) (c := c) t0 r2 r3 r4 (HT2.out T t0 (Int.le_refl _))
    have hmono := fun q (h : q ≤ T) => worthQ_mono (q := q) (q' := T) (p := p) (c := c) h r2 r4
    generalize hwt : worthQ T p c = wt at *
    have HWT := Lib.hid hwt
    have HK := Lib.hid k1
    have HMT := Lib.hid hmono
    have HTI : Hid (IsI64 T) := Lib.hid (by unfold IsI64; omega)
    clear hw hw' t2 hT hp hc hT' hwt k1 hmono
    by_cases hp0 : 1 < p
    all_goals
      have HDV := HT.out
      first
        | (rw [if_pos hp0] at HDV)
        | (rw [if_neg hp0] at HDV)
      have HD := Lib.hid HDV.symm
      clear HDV
      go_enter Try.func33, Try.ntmps33
      go_wp2_with (first | rw [HD.out])
      try rw [HD.out]
      (refine (r_worth_any T p c HTI.out HP.out HC.out _).mono ?_)
      rw [HK.out]
      rintro en w1 ⟨rfl, hb1⟩
      by_cases hlow : wt < v
      · go_wp2_with fail
        go_ret2
        exact some_need (.inr ⟨HW.out, .inr ⟨rfl, fun q h0 h1 => by have := HMT.out q (by rw [HTT.out] at h1; exact h1); omega⟩⟩) hb1
      · go_wp2_with fail
        go_loopw [11, 12, 13, 14, 15] (fun l h _ _ _ wr => ∃ lo hi : Int, l = .int .i64 lo ∧ h = .int .i64 hi ∧ 0 ≤ lo ∧ lo ≤ hi ∧ hi ≤ T ∧ (∀ q, 0 ≤ q → q < lo → worthQ q p c < v) ∧ v ≤ worthQ hi p c ∧ Below w.heap.size w wr)
          (fun l h _ _ _ _ => (intOf h - intOf l).toNat)
        case atStart => exact ⟨0, T, rfl, rfl, by omega, by omega, by omega, fun q h0 h1 => by omega, by rw [HWT.out]; omega, hb1⟩
        case round =>
          obtain ⟨lo, hi, rfl, rfl, l0, l1, l2, hlo, hhi, hb⟩ := hrel
          have HLO := Lib.hid hlo
          have HHI := Lib.hid hhi
          clear hlo hhi
          by_cases hlt : lo < hi
          · have hmid : ∃ mid, lo + (hi - lo) / 2 = mid ∧ lo ≤ mid ∧ mid < hi := ⟨_, rfl, by omega, by omega⟩
            obtain ⟨mid, hm, m1, m2⟩ := hmid
            have HM := Lib.hid hm
            clear hm
            have hmi : IsI64 mid := by unfold IsI64; omega
            obtain ⟨k1, k2', k3'⟩ := worthF_in (q := mid) (p := p) (c := c) (by omega) r2 r3 r4 (HT2.out mid (by omega) (by omega))
            have hmono1 := fun q (h : q ≤ mid) => worthQ_mono (q := q) (q' := mid) (p := p) (c := c) h r2 r4
            generalize hwq : worthQ mid p c = wq at *
            have HWQ := Lib.hid hwq
            have HK1 := Lib.hid k1
            have HMONO := Lib.hid hmono1
            have HMI := Lib.hid hmi
            clear hwq k1 hmono1 hmi
            by_cases hge : v ≤ wq
            · go_wp2_with (first | rw [HM.out] | (go_at_call 32; refine (r_worth_any _ p c HMI.out HP.out HC.out _).mono ?_; rw [HK1.out]; rintro en w2 ⟨rfl, hb2⟩))
              go_roundw
              case rel => exact ⟨lo, mid, rfl, rfl, l0, m1, by omega, HLO.out, by rw [HWQ.out]; exact hge, hb.trans (hb2.mono hb.size)⟩
              case measure => simp [intOf]; omega
            · go_wp2_with (first | rw [HM.out] | (go_at_call 32; refine (r_worth_any _ p c HMI.out HP.out HC.out _).mono ?_; rw [HK1.out]; rintro en w2 ⟨rfl, hb2⟩))
              go_roundw
              case rel => exact ⟨mid + 1, hi, rfl, rfl, by omega, by omega, l2, fun q h0 h1 => by have := HMONO.out q (by omega); omega, HHI.out, hb.trans (hb2.mono hb.size)⟩
              case measure => simp [intOf]; omega
          · have heq : hi = lo := by omega
            subst heq
            go_wp2_with fail
            go_ret2
            exact some_need (.inr ⟨HW.out, .inl ⟨rfl, l0, by rw [HTT.out]; exact l2, HHI.out, HLO.out⟩⟩) hb
end Go.Proofs.Ytkokgdebahgbdaa
