/-
  The contract of money's Need: the least quantity that is worth so much.
-/
import Derived.Test.YtkokgdebahgbdaaMoneyB
namespace Go.Proofs.Ytkokgdebahgbdaa
open Go.RowKit

/-- the greatest quantity whose worth is reckoned, and a worth within it -/
def topQ (p : Int) : Int := if 0 < p then 1152921504606846976 / p else 1152921504606846976
def worthQ (q p c : Int) : Int := q * p * (10000 - c) / 10000
theorem topQ_bound {p : Int} (hp : 0 ≤ p) : 0 ≤ topQ p ∧ topQ p ≤ 1152921504606846976 ∧ ∀ q, 0 ≤ q → q ≤ topQ p → q * p ≤ 1152921504606846976 := by
  unfold topQ
  by_cases h : 0 < p
  · rw [if_pos h]
    refine ⟨Int.ediv_nonneg (by omega) (by omega), ?_, fun q h0 h1 => ?_⟩
    · exact Int.ediv_le_self _ (by omega)
    · exact Int.le_trans (Int.mul_le_mul_of_nonneg_right h1 (by omega)) (Int.ediv_mul_le _ (by omega))
  · have : p = 0 := by omega
    subst this
    rw [if_neg (by omega)]
    exact ⟨by omega, by omega, fun q _ _ => by omega⟩
theorem worthF_in {q p c : Int} (h0 : 0 ≤ q) (hp : 0 ≤ p) (hc : 0 ≤ c) (hc2 : c ≤ 10000) (h1 : q * p ≤ 1152921504606846976) : worthF q p c = (worthQ q p c, 0) ∧ 0 ≤ worthQ q p c ∧ worthQ q p c ≤ 1152921504606846976 := by
  have hw : ¬ wrongF q p c = true := by simp [wrongF]; omega
  have hn : 0 ≤ q * p := Int.mul_nonneg h0 hp
  have hle : worthQ q p c ≤ q * p := by
    unfold worthQ
    apply Int.le_of_lt_add_one
    rw [Int.ediv_lt_iff_lt_mul (by omega)]
    have : q * p * (10000 - c) ≤ q * p * 10000 := Int.mul_le_mul_of_nonneg_left (by omega) hn
    omega
  have hge : 0 ≤ worthQ q p c := Int.ediv_nonneg (Int.mul_nonneg hn (by omega)) (by omega)
  refine ⟨?_, hge, by omega⟩
  unfold worthF
  rw [if_neg hw, if_neg (by omega)]
  unfold mdF
  rw [if_neg (by omega)]
  have e : q * p * (10000 - c) / 10000 = worthQ q p c := rfl
  rw [e, if_neg (by omega)]
theorem worthQ_mono {q q' p c : Int} (hq : q ≤ q') (hp : 0 ≤ p) (hc2 : c ≤ 10000) : worthQ q p c ≤ worthQ q' p c := by
  unfold worthQ
  apply Int.ediv_le_ediv (by omega)
  exact Int.mul_le_mul_of_nonneg_right (Int.mul_le_mul_of_nonneg_right hq hp) (by omega)

def IsNeed (v p c : Int) (r : Int × Int) : Prop :=
  (wrongF v p c = true ∧ r = (0, 1)) ∨
  (wrongF v p c = false ∧ ((r.2 = 0 ∧ 0 ≤ r.1 ∧ r.1 ≤ topQ p ∧ v ≤ worthQ r.1 p c ∧ ∀ q, 0 ≤ q → q < r.1 → worthQ q p c < v) ∨ (r = (0, 32) ∧ ∀ q, 0 ≤ q → q ≤ topQ p → worthQ q p c < v)))

def SomeNeed (v p c : Int) (w : World) (e : Ending) (w' : World) : Prop := ∃ r, IsNeed v p c r ∧ TwoRes r w e w'
theorem some_need {v p c a b : Int} {w w' : World} (h : IsNeed v p c (a, b)) (hb : Below w.heap.size w w') : SomeNeed v p c w (.returned (.tuple #[.int .i64 a, .int .i64 b])) w' := ⟨_, h, rfl, hb⟩

set_option maxHeartbeats 1000000 in
theorem need_any (v p c : Int) (hv : IsI64 v) (hp : IsI64 p) (hc : IsI64 c) (w : World) :
    Calls Try.prog 29 #[.int .i64 v, .int .i64 p, .int .i64 c] w (SomeNeed v p c w) := by
  by_cases hw : wrongF v p c = true
  · have HW := Lib.hid hw
    go_enter Try.func29, Try.ntmps29
    go_wp2_with fail
    refine (wrong_any v p c w).mono ?_
    rintro en w1 ⟨rfl, rfl⟩
    rw [HW.out]
    go_wp2_with fail
    go_ret2
    exact some_need (.inl ⟨HW.out, rfl⟩) (Below.refl _ _)
  · have hw' : wrongF v p c = false := by simpa using hw
    have hr : 0 ≤ v ∧ 0 ≤ p ∧ 0 ≤ c ∧ c ≤ 10000 := by simp [wrongF] at hw'; omega
    obtain ⟨r1, r2, r3, r4⟩ := hr
    obtain ⟨t0, t1, t2⟩ := topQ_bound r2
    have HW := Lib.hid hw'
    have HT2 := Lib.hid t2
    have HP := Lib.hid hp
    have HC := Lib.hid hc
    have HT : Hid (topQ p = if 0 < p then 1152921504606846976 / p else 1152921504606846976) := rfl
    obtain ⟨T, hT⟩ : ∃ T, topQ p = T := ⟨_, rfl⟩
    rw [hT] at t0 t1 HT2 HT
    have HTT := Lib.hid hT
    obtain ⟨v0, v1⟩ := hv
    clear hw hw' t2 hT hp hc
    by_cases hp0 : 0 < p
    all_goals
      have HDV := HT.out
      first
        | (rw [if_pos hp0] at HDV)
        | (rw [if_neg hp0] at HDV)
      have HD := Lib.hid HDV.symm
      clear HDV
      go_enter Try.func29, Try.ntmps29
      go_wp2_with fail
      refine (wrong_any v p c w).mono ?_
      rintro en w1 ⟨rfl, rfl⟩
      rw [HW.out]
      go_wp2_with (first | rw [HD.out])
      try rw [HD.out]
      go_loopw [9, 10, 11, 12, 13] (fun l h _ _ _ wr => ∃ lo hi : Int, l = .int .i64 lo ∧ h = .int .i64 hi ∧ 0 ≤ lo ∧ lo ≤ hi ∧ hi ≤ T + 1 ∧ (∀ q, 0 ≤ q → q < lo → worthQ q p c < v) ∧ (hi ≤ T → v ≤ worthQ hi p c) ∧ Below w.heap.size w wr)
        (fun l h _ _ _ _ => (intOf h - intOf l).toNat)
      case atStart => exact ⟨0, T + 1, rfl, rfl, by omega, by omega, by omega, fun q h0 h1 => by omega, fun h => by omega, Below.refl _ _⟩
      case round =>
        obtain ⟨lo, hi, rfl, rfl, l0, l1, l2, hlo, hhi, hb⟩ := hrel
        have HLO := Lib.hid hlo
        have HHI := Lib.hid hhi
        clear hlo hhi
        by_cases hlt : lo < hi
        · have hmid : ∃ mid, lo + (hi - lo) / 2 = mid ∧ lo ≤ mid ∧ mid < hi := ⟨_, rfl, by omega, by omega⟩
          obtain ⟨mid, hm, m1, m2⟩ := hmid
          have HM := Lib.hid hm
          clear hm
          have hmi : IsI64 mid := by unfold IsI64; omega
          obtain ⟨k1, k2, k3⟩ := worthF_in (q := mid) (p := p) (c := c) (by omega) r2 r3 r4 (HT2.out mid (by omega) (by omega))
          have hmono1 := fun q (h : q ≤ mid) => worthQ_mono (q := q) (q' := mid) (p := p) (c := c) h r2 r4
          generalize hwq : worthQ mid p c = wq at *
          have HWQ := Lib.hid hwq
          have HK1 := Lib.hid k1
          have HMONO := Lib.hid hmono1
          have HMI := Lib.hid hmi
          clear hwq k1 hmono1 hmi
          by_cases hge : v ≤ wq
          · go_wp2_with (first | rw [HM.out] | (go_at_call 23; refine (worth_any _ p c HMI.out HP.out HC.out _).mono ?_; rw [HK1.out]; rintro en w2 ⟨rfl, hb2⟩))
            go_roundw
            case rel => exact ⟨lo, mid, rfl, rfl, l0, m1, by omega, HLO.out, fun _ => by rw [HWQ.out]; exact hge, hb.trans (hb2.mono hb.size)⟩
            case measure => simp [intOf]; omega
          · go_wp2_with (first | rw [HM.out] | (go_at_call 23; refine (worth_any _ p c HMI.out HP.out HC.out _).mono ?_; rw [HK1.out]; rintro en w2 ⟨rfl, hb2⟩))
            go_roundw
            case rel => exact ⟨mid + 1, hi, rfl, rfl, by omega, by omega, l2, fun q h0 h1 => by have := HMONO.out q (by omega); omega, HHI.out, hb.trans (hb2.mono hb.size)⟩
            case measure => simp [intOf]; omega
        · have heq : hi = lo := by omega
          subst heq
          by_cases htop : T < hi
          · go_wp2_with fail
            go_ret2
            exact some_need (.inr ⟨HW.out, .inr ⟨rfl, fun q h0 h1 => HLO.out q h0 (by rw [HTT.out] at h1; omega)⟩⟩) hb
          · go_wp2_with fail
            go_ret2
            exact some_need (.inr ⟨HW.out, .inl ⟨rfl, l0, by rw [HTT.out]; show hi ≤ T; omega, HHI.out (by omega), HLO.out⟩⟩) hb
end Go.Proofs.Ytkokgdebahgbdaa
