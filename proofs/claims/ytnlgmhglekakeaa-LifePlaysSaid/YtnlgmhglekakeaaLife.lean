/-
  Contracts of package life and of the reference's functions of the same kind: what each returns, and that nothing that was there has turned.
-/
import Derived.Test.YtnlgmhglekakeaaWords
import Derived.Test.YtnlgmhglekakeaaChecked
namespace Go.Proofs.Ytnlgmhglekakeaa
open Go.RowKit

def inB (lo hi s : Int) : Bool := decide (lo ≤ s) && decide (s ≤ hi)
def allB (xs : List Int) (lo hi : Int) : Bool := xs.all (inB lo hi)

theorem allB_take_no (xs : List Int) (lo hi x : Int) (k : Nat) (hx : xs[k]? = some x) (h : inB lo hi x = false) : allB xs lo hi = false := by
  unfold allB
  rw [List.all_eq_false]
  exact ⟨x, List.mem_of_getElem? hx, by simp [h]⟩

theorem all_any (A : Option Addr) (n c : Nat) (xs : List Int) (lo hi : Int) (w : World) (B : Nat) (h : Reads w B 1 A n (ints xs)) (hn : n ≤ 9223372036854775807) :
    Calls Try.prog 20 #[.slice A n c, .int .i64 lo, .int .i64 hi] w fun e w' => e = .returned (.bool (allB xs lo hi)) ∧ w = w' := by
  have hlen := h.int_len
  go_enter Try.func20, Try.ntmps20
  go_wp2
  go_loop [8, 11] (fun _ i => ∃ k : Nat, k ≤ n ∧ i = .int .i64 k ∧ allB (xs.take k) lo hi = true) (fun _ i => n - (intOf i).toNat)
  case atStart => exact ⟨0, Nat.zero_le _, rfl, rfl⟩
  case round =>
    obtain ⟨k, hk, rfl, ha⟩ := hrel
    have HA := Lib.hid ha
    clear ha
    by_cases hlt : k < n
    · obtain ⟨ad, x, rfl, _, hx, hc⟩ := h.int hlt
      have HX := Lib.hid hx
      have HL := Lib.hid hlen
      clear hx hlen
      by_cases hb : lo ≤ x
      · by_cases hb2 : x ≤ hi
        · go_wp2
          go_round
          case rel =>
            refine ⟨k + 1, by omega, by go_num, ?_⟩
            have e : xs.take (k + 1) = xs.take k ++ [x] := by rw [List.take_add_one, HX.out]; rfl
            rw [e]
            have := HA.out
            unfold allB at this ⊢
            rw [List.all_append, this]
            simp [inB]; omega
          case measure => simp [intOf]; omega
        · go_wp2
          go_ret
          exact ⟨ret_bool (allB_take_no xs lo hi x k HX.out (by simp [inB]; omega)).symm, rfl⟩
      · go_wp2
        go_ret
        exact ⟨ret_bool (allB_take_no xs lo hi x k HX.out (by simp [inB]; omega)).symm, rfl⟩
    · have e : k = n := by omega
      go_wp2
      go_ret
      have := HA.out
      rw [e, ← hlen, List.take_length] at this
      exact ⟨ret_bool this.symm, rfl⟩

theorem open_any (A : Option Addr) (n c : Nat) (xs : List Int) (w : World) (B : Nat) (h : Reads w B 1 A n (ints xs)) (hn : n ≤ 9223372036854775807) :
    Calls Try.prog 14 #[.slice A n c] w fun e w' => e = .returned (.bool (allB xs 0 2)) ∧ w = w' := by
  go_enter Try.func14, Try.ntmps14
  go_wp2_with fail
  refine (all_any A n c xs 0 2 w B h hn).mono ?_
  rintro e w' ⟨rfl, rfl⟩
  go_wp2_with fail
  go_ret
  exact ⟨rfl, rfl⟩

theorem over_any (A : Option Addr) (n c : Nat) (xs : List Int) (w : World) (B : Nat) (h : Reads w B 1 A n (ints xs)) (hn : n ≤ 9223372036854775807) :
    Calls Try.prog 15 #[.slice A n c] w fun e w' => e = .returned (.bool (allB xs 3 5)) ∧ w = w' := by
  go_enter Try.func15, Try.ntmps15
  go_wp2_with fail
  refine (all_any A n c xs 3 5 w B h hn).mono ?_
  rintro e w' ⟨rfl, rfl⟩
  go_wp2_with fail
  go_ret
  exact ⟨rfl, rfl⟩
end Go.Proofs.Ytnlgmhglekakeaa
