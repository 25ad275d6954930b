/-
  The contract of money's Acc.Add: the exact sum, or the end beyond which it lies.
-/
import Derived.Test.YtioehmngkoffaaaMoneyO
import Derived.Shelf.Bits.Mul64
import Derived.Shelf.Spec.BitsCarry
namespace Go.Proofs
open Go.Shelf
def Ytioehmngkoffaaa.lays25_ren : Go.Shelf.Ren := ⟨fun | 25 => 40 | n => n, fun | 22 => 85 | n => n, fun | n => n⟩
theorem Ytioehmngkoffaaa.lays25 : Go.Proofs.Lays7.n25 Try.prog Ytioehmngkoffaaa.lays25_ren := {
  mixed := by kernel_rfl
  f25 := Try.func40.trans (congrArg some (by kernel_rfl))
  t22 := Try.underlying85
  a22 := Try.isAgg85
  z22 := Try.sizeOf85
  v22 := Try.zeroValue85
  i22 := by kernel_rfl }
namespace Ytioehmngkoffaaa
open Go.RowKit

theorem add64_run (x y c : Nat) (hc : c ≤ 1) (w : World) : (callFunc 40 #[.int .u64 x, .int .u64 y, .int .u64 c]).run Try.prog w =
    .ok (.value (.tuple #[.int .u64 (((x + y + c) % 18446744073709551616 : Nat) : Int), .int .u64 (((x + y + c) / 18446744073709551616 : Nat) : Int)])) w :=
  Any7.bits_Add64 Ytioehmngkoffaaa.lays25 x y c hc w
/-- the same, what comes out under names -/
theorem add64_ex (x y c : Nat) (hc : c ≤ 1) (hx : x < 18446744073709551616) (hy : y < 18446744073709551616) : ∃ s o : Nat, s + o * 18446744073709551616 = x + y + c ∧ s < 18446744073709551616 ∧ o ≤ 1 ∧
    ∀ w, (callFunc 40 #[.int .u64 x, .int .u64 y, .int .u64 c]).run Try.prog w = .ok (.value (.tuple #[.int .u64 s, .int .u64 o])) w :=
  ⟨_, _, by omega, by omega, by omega, fun w => add64_run x y c hc w⟩

theorem add64_ex0 (x y : Nat) (hx : x < 18446744073709551616) (hy : y < 18446744073709551616) : ∃ s o : Nat, s + o * 18446744073709551616 = x + y ∧ s < 18446744073709551616 ∧ o ≤ 1 ∧
    ∀ w, (callFunc 40 #[.int .u64 x, .int .u64 y, .int .u64 0]).run Try.prog w = .ok (.value (.tuple #[.int .u64 s, .int .u64 o])) w :=
  ⟨_, _, by omega, by omega, by omega, fun w => add64_run x y 0 (by omega) w⟩
theorem u64_of (x : Int) (h : IsI64 x) : ∃ xu sg : Nat, IntKind.u64.wrap x = (xu : Int) ∧ xu < 18446744073709551616 ∧ IntKind.u64.wrap (x / 9223372036854775808) = (sg : Int) ∧ sg < 18446744073709551616 ∧
    ((0 ≤ x ∧ (xu : Int) = x ∧ sg = 0) ∨ (x < 0 ∧ (xu : Int) = x + 18446744073709551616 ∧ sg = 18446744073709551615)) := by
  obtain ⟨h0, h1⟩ := h
  by_cases sx : x < 0
  · have e : x / 9223372036854775808 = -1 := by omega
    refine ⟨(x + 18446744073709551616).toNat, 18446744073709551615, by rw [IntKind.wrap_u64]; omega, by omega, by rw [e, IntKind.wrap_u64]; rfl, by omega, .inr ⟨sx, by omega, rfl⟩⟩
  · have e : x / 9223372036854775808 = 0 := by omega
    refine ⟨x.toNat, 0, by rw [IntKind.wrap_u64]; omega, by omega, by rw [e, IntKind.wrap_u64]; rfl, by omega, .inl ⟨by omega, by omega, rfl⟩⟩
theorem add_step {S x : Int} {hi lo xu sg s1 o1 s2 o2 : Nat} (hs : S % 340282366920938463463374607431768211456 = hi * 18446744073709551616 + lo)
    (hx : (0 ≤ x ∧ (xu : Int) = x ∧ sg = 0) ∨ (x < 0 ∧ (xu : Int) = x + 18446744073709551616 ∧ sg = 18446744073709551615))
    (e1 : s1 + o1 * 18446744073709551616 = lo + xu) (e2 : s2 + o2 * 18446744073709551616 = hi + sg + o1) (b1 : s1 < 18446744073709551616) (b2 : s2 < 18446744073709551616) :
    (S + x) % 340282366920938463463374607431768211456 = s2 * 18446744073709551616 + s1 := by
  have hq := Int.emod_add_mul_ediv S 340282366920938463463374607431768211456
  rw [hs] at hq
  generalize S / 340282366920938463463374607431768211456 = q at hq
  rcases hx with ⟨h0, h1, h2⟩ | ⟨h0, h1, h2⟩
  · have : S + x = (s2 * 18446744073709551616 + s1 : Int) + 340282366920938463463374607431768211456 * (q + o2) := by omega
    rw [this, Int.add_mul_emod_self_left]
    exact Int.emod_eq_of_lt (by omega) (by omega)
  · have : S + x = (s2 * 18446744073709551616 + s1 : Int) + 340282366920938463463374607431768211456 * (q + o2 - 1) := by omega
    rw [this, Int.add_mul_emod_self_left]
    exact Int.emod_eq_of_lt (by omega) (by omega)
def sumI : List Int → Int
  | [] => 0
  | x :: r => x + sumI r
theorem sumI_append (l m : List Int) : sumI (l ++ m) = sumI l + sumI m := by
  induction l with
  | nil => simp [sumI]
  | cons x l ih => simp [sumI, ih]; omega
def W128 : Int := 340282366920938463463374607431768211456

theorem sumI_bound (xs : List Int) (hb : ∀ x ∈ xs, IsI64 x) : -(9223372036854775808 * (xs.length : Int)) ≤ sumI xs ∧ sumI xs ≤ 9223372036854775808 * (xs.length : Int) := by
  induction xs with
  | nil => simp [sumI]
  | cons x xs ih =>
    obtain ⟨h0, h1⟩ := hb x (by simp)
    have := ih fun y hy => hb y (by simp [hy])
    simp only [sumI, List.length_cons]
    omega
theorem add_end {S : Int} {hi lo : Nat} (hs : S % 340282366920938463463374607431768211456 = hi * 18446744073709551616 + lo) (h1 : hi < 18446744073709551616) (h2 : lo < 18446744073709551616)
    (b0 : -1298074214633706907132624082305024 ≤ S) (b1 : S ≤ 1298074214633706907132624082305024) :
    ∃ (s : Int) (t v : Nat), wrap64 (lo : Int) = s ∧ IntKind.u64.wrap (s / 9223372036854775808) = (t : Int) ∧ (hi : Int) / 9223372036854775808 = (v : Int) ∧ (v == 1) = decide (S < 0) ∧ IsI64 s ∧
      (((-1152921504606846976 ≤ S ∧ S ≤ 1152921504606846976) ∧ hi = t ∧ s = S) ∨ ((S < -1152921504606846976 ∨ 1152921504606846976 < S) ∧ (hi ≠ t ∨ hi = t ∧ (s < -1152921504606846976 ∨ -1152921504606846976 ≤ s ∧ 1152921504606846976 < s)))) := by
  have hw : wrap64 (lo : Int) = if lo < 9223372036854775808 then (lo : Int) else lo - 18446744073709551616 := by
    unfold wrap64; split <;> omega
  have hS : (0 ≤ S ∧ S = hi * 18446744073709551616 + lo) ∨ (S < 0 ∧ S + 340282366920938463463374607431768211456 = hi * 18446744073709551616 + lo) := by
    by_cases hn : S < 0
    · exact .inr ⟨hn, by omega⟩
    · exact .inl ⟨by omega, by omega⟩
  clear hs
  refine ⟨_, if lo < 9223372036854775808 then 0 else 18446744073709551615, hi / 9223372036854775808, rfl, ?_, by omega, ?_, ?_, ?_⟩
  · rw [hw, IntKind.wrap_u64]
    by_cases hl : lo < 9223372036854775808
    · rw [if_pos hl, if_pos hl]; omega
    · rw [if_neg hl, if_neg hl]; omega
  · by_cases hn : S < 0
    · have : hi / 9223372036854775808 = 1 := by omega
      simp [this, hn]
    · have : hi / 9223372036854775808 = 0 := by omega
      simp [this]; omega
  · rw [hw]; unfold IsI64; split <;> omega
  · rw [hw]
    by_cases hl : lo < 9223372036854775808
    · rw [if_pos hl, if_pos hl]
      by_cases hin : -1152921504606846976 ≤ S ∧ S ≤ 1152921504606846976
      · exact .inl ⟨hin, by omega, by omega⟩
      · exact .inr ⟨by omega, by omega⟩
    · rw [if_neg hl, if_neg hl]
      by_cases hin : -1152921504606846976 ≤ S ∧ S ≤ 1152921504606846976
      · exact .inl ⟨hin, by omega, by omega⟩
      · exact .inr ⟨by omega, by omega⟩

/-- A sum's value within the ends, and whether it lay beyond one. -/
def clampV (S : Int) : Int := if 1152921504606846976 < S then 1152921504606846976 else if S < -1152921504606846976 then -1152921504606846976 else S
def clampO (S : Int) : Bool := decide (1152921504606846976 < S) || decide (S < -1152921504606846976)

set_option maxRecDepth 100000 in
/-- what over makes of the world is the callee's own contract -/
theorem add_walk (p : Option Addr) (A : Option Addr) (n c : Nat) (xs : List Int) (w : World) (B : Nat) (h : Reads w B 1 A n (ints xs)) (hb : ∀ x ∈ xs, IsI64 x) (hn : n ≤ 140737488355328) (R : World → Prop)
    (hR : clampO (sumI xs) = false → R w)
    (ho : ∀ below, clampO (sumI xs) = true → Calls Try.prog 41 #[.pointer p, .bool below] w fun e w' => e = .returned (.int .i64 (if below then -1152921504606846976 else 1152921504606846976)) ∧ R w') :
    Calls Try.prog 25 #[.pointer p, .slice A n c] w fun e w' => e = .returned (.int .i64 (clampV (sumI xs))) ∧ R w' := by
  have hlen := h.int_len
  have HB := Lib.hid hb
  clear hb
  go_enter Try.func25, Try.ntmps25
  go_wp2_with fail
  go_loop [5, 6, 8, 9, 10, 15] (fun a b _ _ _ i => ∃ k hi lo : Nat, k ≤ n ∧ i = .int .i64 k ∧ a = .int .u64 hi ∧ b = .int .u64 lo ∧ hi < 18446744073709551616 ∧ lo < 18446744073709551616 ∧ sumI (xs.take k) % W128 = hi * 18446744073709551616 + lo) (fun _ _ _ _ _ i => n - (intOf i).toNat)
  case atStart => exact ⟨0, 0, 0, Nat.zero_le _, rfl, rfl, rfl, by omega, by omega, by simp [sumI]⟩
  case round =>
    obtain ⟨k, hi, lo, hk, rfl, rfl, rfl, h1, h2, hs⟩ := hrel
    have HS := Lib.hid hs
    have HL := Lib.hid hlen
    clear hs hlen
    by_cases hlt : k < n
    · obtain ⟨ad, x, rfl, _, hx, hc⟩ := h.int hlt
      have HX := Lib.hid hx
      clear hx
      have hxb := HB.out x (List.mem_of_getElem? HX.out)
      obtain ⟨xu, sg, hxu, hxl, hsg, hsl, hcase⟩ := u64_of x hxb
      obtain ⟨s1, o1, e1, b1, b1', r1⟩ := add64_ex0 lo xu h2 hxl
      obtain ⟨s2, o2, e2, b2, b2', r2⟩ := add64_ex hi sg o1 b1' h1 hsl
      have hx2 : sumI (xs.take (k + 1)) = sumI (xs.take k) + x := by
        have e : xs.take (k + 1) = xs.take k ++ [x] := by rw [List.take_add_one, HX.out]; rfl
        rw [e, sumI_append]; simp [sumI]
      have HN : Hid (sumI (xs.take (k + 1)) % W128 = s2 * 18446744073709551616 + s1) := by
        show sumI (xs.take (k + 1)) % W128 = s2 * 18446744073709551616 + s1
        rw [hx2]
        exact add_step HS.out hcase e1 e2 b1 b2
      have HXU := Lib.hid hxu
      have HSG := Lib.hid hsg
      have R1 := Lib.hid r1
      have R2 := Lib.hid r2
      clear hxu hsg r1 r2 e1 e2 hx2 hxl hsl hcase hxb h1 h2
      go_wp2_with fail
      rw [HXU.out, HSG.out, R1.out]
      go_wp2_with fail
      rw [R2.out]
      go_wp2_with fail
      go_round
      case rel => exact ⟨k + 1, s2, s1, by omega, by go_num, rfl, rfl, b2, b1, HN.out⟩
      case measure => simp [intOf]; omega
    · have e' : xs.take k = xs := by rw [show k = n by omega, ← HL.out, List.take_length]
      have hs := HS.out
      rw [e'] at hs
      have hbd := sumI_bound xs HB.out
      have hl2 := HL.out
      obtain ⟨s, t, v, hs1, ht, hv, hv1, hsb, hcase⟩ := add_end hs h1 h2 (by omega) (by omega)
      have HS1 := Lib.hid hs1
      have HT := Lib.hid ht
      have HV := Lib.hid hv
      have HO := Lib.hid ho
      clear hs1 ht hv hs hbd hl2 e' HS ho
      rcases hcase with ⟨hin, rfl, rfl⟩ | ⟨hout, hne | ⟨rfl, hs | ⟨hs, hs'⟩⟩⟩
      · obtain ⟨i1, i2⟩ := hin
        have HK : Hid (clampV (sumI xs) = sumI xs ∧ clampO (sumI xs) = false) := by
          refine ⟨by unfold clampV; rw [if_neg (by omega), if_neg (by omega)], by simp [clampO]; omega⟩
        go_wp2_with (first | rw [HS1.out] | rw [HT.out] | rw [HV.out])
        go_ret
        exact ⟨ret_int HK.out.1.symm, hR HK.out.2⟩
      all_goals
        have HK : Hid (clampO (sumI xs) = true ∧ ((if decide (sumI xs < 0) = true then (-1152921504606846976 : Int) else 1152921504606846976) = clampV (sumI xs)) ∧ (((v : Int) == 1) = decide (sumI xs < 0))) := by
          refine ⟨by simp [clampO]; omega, ?_, ?_⟩
          · unfold clampV
            simp only [decide_eq_true_eq]
            repeat' split
            all_goals omega
          · rw [← hv1, Bool.eq_iff_iff]; simp; omega
        clear hout hv1
        first | (have hne' : ((hi : Int) == (t : Int)) = false := by (simp; omega)) | skip
        go_wp2_with (first | rw [HS1.out] | rw [HT.out] | rw [HV.out])
        rw [HK.out.2.2]
        refine (HO.out _ HK.out.1).mono ?_
        rintro en w2 ⟨rfl, hR2⟩
        rw [HK.out.2.1]
        have HR2 := Lib.hid hR2
        clear hR2
        go_wp2_with fail
        go_ret
        exact ⟨rfl, HR2.out⟩

theorem add_in (p : Option Addr) (A : Option Addr) (n c : Nat) (xs : List Int) (w : World) (B : Nat) (h : Reads w B 1 A n (ints xs)) (hb : ∀ x ∈ xs, IsI64 x) (hn : n ≤ 140737488355328)
    (hin : clampO (sumI xs) = false) : Calls Try.prog 25 #[.pointer p, .slice A n c] w fun e w' => e = .returned (.int .i64 (clampV (sumI xs))) ∧ w = w' :=
  add_walk p A n c xs w B h hb hn (fun w' => w = w') (fun _ => rfl) (fun _ h => by rw [hin] at h; cases h)
theorem add_nil (A : Option Addr) (n c : Nat) (xs : List Int) (w : World) (B : Nat) (h : Reads w B 1 A n (ints xs)) (hb : ∀ x ∈ xs, IsI64 x) (hn : n ≤ 140737488355328) :
    Calls Try.prog 25 #[.pointer none, .slice A n c] w fun e w' => e = .returned (.int .i64 (clampV (sumI xs))) ∧ w = w' :=
  add_walk none A n c xs w B h hb hn (fun w' => w = w') (fun _ => rfl) (fun b _ => over_nil b w)

/-- Over, behind what may set it. -/
def orSet (b : Nat) (w : World) (o : Bool) (w' : World) : Prop := (o = false ∧ w = w') ∨ (o = true ∧ w.setCell ⟨b, 0, none⟩ (.bool true) = w')
theorem add_any (b : Nat) (o : Bool) (A : Option Addr) (n c : Nat) (xs : List Int) (w : World) (hk : Blk w b 67 #[.bool o]) (B : Nat) (h : Reads w B 1 A n (ints xs)) (hb : ∀ x ∈ xs, IsI64 x) (hn : n ≤ 140737488355328) :
    Calls Try.prog 25 #[.pointer (some ⟨b, 0, none⟩), .slice A n c] w fun e w' => e = .returned (.int .i64 (clampV (sumI xs))) ∧ orSet b w (clampO (sumI xs)) w' :=
  add_walk _ A n c xs w B h hb hn (orSet b w (clampO (sumI xs))) (fun h => .inl ⟨h, rfl⟩) (fun bl hc => (over_set b o bl w hk).mono fun _ _ h => ⟨h.1, .inr ⟨hc, h.2⟩⟩)
theorem orSet.blk {b : Nat} {w w' : World} {o o1 : Bool} (h : orSet b w o w') (hk : Blk w b 67 #[.bool o1]) : Blk w' b 67 #[.bool (o1 || o)] := by
  rcases h with ⟨rfl, rfl⟩ | ⟨rfl, rfl⟩
  · simpa using hk
  · have := hk.set_ 0 (.bool true)
    simpa using this
theorem orSet.grown {b : Nat} {w w' : World} {o : Bool} (h : orSet b w o w') : w.grownBy w' (some b) := by
  rcases h with ⟨_, rfl⟩ | ⟨_, rfl⟩
  · exact World.grownBy.refl w _
  · exact only_setCell (World.grownBy.refl w _) (.inl rfl) _
end Ytioehmngkoffaaa
end Go.Proofs
