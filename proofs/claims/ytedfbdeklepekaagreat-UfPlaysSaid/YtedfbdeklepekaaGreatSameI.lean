/-
  The contract of complinebook.SameInts.
-/
import Derived.Test.YtedfbdeklepekaaGreatWords
import Derived.Test.YtedfbdeklepekaaGreatProg
import Derived.Deep.QuietTactic
import Derived.BigQuiet
namespace Go.Proofs.YtedfbdeklepekaaGreat
open Go.RowKit

theorem sameInts_any (A A' : Option Addr) (n c n' c' B B' : Nat) (xs ys : List Int) (w : World) (h : Reads w B 1 A n (ints xs)) (h' : Reads w B' 1 A' n' (ints ys)) (hn : n ≤ 1000000000000) :
    Calls Tryz.prog 24 #[.slice A n c, .slice A' n' c'] w fun e w' => e = .returned (.bool (decide (xs = ys))) ∧ ∃ m, w.drewN m = w' := by
  have HL := Lib.hid h.int_len
  have HL' := Lib.hid h'.int_len
  by_cases hne : n = n'
  · subst hne
    go_enter Tryz.func24, Tryz.ntmps24
    go_wp2_with fail
    go_loopw [5] (fun i wr => ∃ k m : Nat, k ≤ n ∧ i = .int .i64 k ∧ wr = w.drewN m ∧ xs.take k = ys.take k) (fun i _ => n - (intOf i).toNat)
    case atStart => exact ⟨0, 0, Nat.zero_le _, rfl, rfl, rfl⟩
    case round =>
      obtain ⟨k, m, hk, rfl, rfl, hall⟩ := hrel
      have HALL := Lib.hid hall
      clear hall
      by_cases hlt : k < n
      · obtain ⟨ad, x, rfl, _, hx, hc⟩ := h.int hlt
        obtain ⟨ad', y, rfl, _, hy, hc'⟩ := h'.int hlt
        have HX := Lib.hid hx
        have HY := Lib.hid hy
        have HTX := Lib.hid (show xs.take (k + 1) = xs.take k ++ [x] from by rw [List.take_add_one, hx]; rfl)
        have HTY := Lib.hid (show ys.take (k + 1) = ys.take k ++ [y] from by rw [List.take_add_one, hy]; rfl)
        clear hx hy
        replace hc : (w.drewN m).cell? (ad.add k) = some (.int .i64 x) := hc
        replace hc' : (w.drewN m).cell? (ad'.add k) = some (.int .i64 y) := hc'
        have HW : Hid (∃ m', w.drewN m = w.drewN m') := Lib.hid ⟨m, rfl⟩
        clear h h'
        generalize w.drewN m = wr at *
        by_cases he : x = y
        · have HE := Lib.hid he
          have hb1 : (x == y) = true := by simp [he]
          clear he
          go_wp2_with fail
          go_quiet (fail)
          go_wp2_with fail
          go_roundw
          case rel =>
            obtain ⟨m', hm'⟩ := HW.out
            exact ⟨k + 1, m' + nq, by omega, by go_num, by rw [hm', World.drewN_drewN], by rw [HTX.out, HTY.out, HALL.out, HE.out]⟩
          case measure => simp [intOf]; omega
        · have HE := Lib.hid he
          have hb1 : (x == y) = false := by simp [he]
          clear he
          go_wp2_with fail
          go_quiet (fail)
          go_wp2_with fail
          go_ret
          obtain ⟨m', hm'⟩ := HW.out
          refine ⟨ret_bool ?_, m' + nq, by rw [hm', World.drewN_drewN]⟩
          symm
          rw [decide_eq_false_iff_not]
          intro e
          subst e
          have := HX.out.symm.trans HY.out
          injection this with this
          exact HE.out this
      · go_wp2_with fail
        go_ret
        refine ⟨ret_bool ?_, m, rfl⟩
        symm
        rw [decide_eq_true_iff]
        have := HALL.out
        rw [List.take_of_length_le (by have := HL.out; omega), List.take_of_length_le (by have := HL'.out; omega)] at this
        exact this
  · have hb1 : ((n : Int) != (n' : Int)) = true := by simp; omega
    have HF := Lib.hid (show decide (xs = ys) = false from by
      rw [decide_eq_false_iff_not]
      intro e
      have := HL.out
      have := HL'.out
      subst e
      omega)
    go_enter Tryz.func24, Tryz.ntmps24
    go_wp2_with fail
    go_ret
    exact ⟨ret_bool HF.out.symm, 0, rfl⟩
theorem quiet_draws {P : Program} {f : FuncId} {args : Array Value} {w : World} {n : Nat} {v : Value}
    (h : Calls P f args (w.drewN n) fun e w' => e = .returned v ∧ ∃ m, (w.drewN n).drewN m = w') : Calls P f args (w.drewN n) fun e w' => e = .returned v ∧ ∃ m, w' = w.drewN m :=
  h.mono fun _ _ ⟨he, m, hm⟩ => ⟨he, n + m, by rw [← hm, World.drewN_drewN]⟩
theorem quiet_sameInts {A A' : Option Addr} {n n' B B' : Nat} {xs ys : List Int} {w : World} {v : Bool} (h : Reads w B 1 A n (ints xs)) (h' : Reads w B' 1 A' n' (ints ys)) (hn : n ≤ 1000000000000) (hv : decide (xs = ys) = v) (c c' q : Nat) :
    Calls Tryz.prog 24 #[.slice A n c, .slice A' n' c'] (w.drewN q) fun e w' => e = .returned (.bool v) ∧ ∃ m, w' = w.drewN m := by
  subst hv
  exact quiet_draws (sameInts_any A A' n c n' c' B B' xs ys (w.drewN q) (h.drewN q) (h'.drewN q) hn)
end Go.Proofs.YtedfbdeklepekaaGreat
