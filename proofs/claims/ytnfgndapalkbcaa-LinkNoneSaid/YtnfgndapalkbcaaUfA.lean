/-
  Contracts of package uf's functions that only read: is, Head, Len, Same.
-/
import Derived.Test.YtnfgndapalkbcaaWords
import Derived.Test.YtnfgndapalkbcaaUfPlain
import Derived.Test.YtnfgndapalkbcaaProg
namespace Go.Proofs.Ytnfgndapalkbcaa
open Go.RowKit

def nats (u : List Nat) : List Value := u.map fun (x : Nat) => Value.int .i64 (x : Int)
theorem nats_length (u : List Nat) : (nats u).length = u.length := by simp [nats]
theorem nats_ints (u : List Nat) : nats u = ints (u.map Int.ofNat) := by simp [nats, ints, List.map_map]
theorem nats_append (u v : List Nat) : nats (u ++ v) = nats u ++ nats v := by simp [nats]

/-- What is read of a Uf: its row is the numbers u. -/
structure UfR (w : World) (b : Nat) (A : Option Addr) (c : Nat) (u : List Nat) : Prop where
  cell : w.cell? ⟨b, 0, none⟩ = some (.slice A u.length c)
  reads : Reads w w.heap.size 1 A u.length (nats u)

theorem Reads.nat {w : World} {B n k : Nat} {A : Option Addr} {u : List Nat} (h : Reads w B 1 A n (nats u)) (hk : k < n) :
    ∃ ad, A = some ad ∧ ad.block < B ∧ w.cell? (ad.add k) = some (.int .i64 (u.getD k 0 : Int)) := by
  obtain ⟨ad, x, e, hb, hx, hc⟩ := h.at_ hk
  refine ⟨ad, e, hb, ?_⟩
  rw [hc]
  simp only [nats, List.getElem?_map, Option.map_eq_some_iff] at hx
  obtain ⟨y, hy, rfl⟩ := hx
  rw [List.getD_eq_getElem?_getD, hy]
  rfl

def inU (u : List Nat) (i : Int) : Bool := decide (1 ≤ i) && decide (i ≤ (u.length : Int))

theorem is_any (b : Nat) (A : Option Addr) (c : Nat) (u : List Nat) (i : Int) (w : World) (h : UfR w b A c u) :
    Calls Try.prog 34 #[.pointer (some ⟨b, 0, none⟩), .int .i64 i] w fun e w' => e = .returned (.bool (inU u i)) ∧ w = w' := by
  have hc := h.cell
  generalize hn : u.length = n at *
  by_cases h1 : 1 ≤ i
  · by_cases h2 : i ≤ (n : Int)
    · have HF := Lib.hid (show inU u i = true from by simp [inU, hn]; omega)
      clear hn h
      go_enter Try.func34, Try.ntmps34
      go_wp2
      go_ret
      exact ⟨ret_bool HF.out.symm, rfl⟩
    · have HF := Lib.hid (show inU u i = false from by simp [inU, hn]; omega)
      clear hn h
      go_enter Try.func34, Try.ntmps34
      go_wp2
      go_ret
      exact ⟨ret_bool HF.out.symm, rfl⟩
  · have HF := Lib.hid (show inU u i = false from by simp [inU]; omega)
    clear hn h
    go_enter Try.func34, Try.ntmps34
    go_wp2
    go_ret
    exact ⟨ret_bool HF.out.symm, rfl⟩
theorem is_nil (i : Int) (w : World) :
    Calls Try.prog 34 #[.pointer none, .int .i64 i] w fun e w' => e = .returned (.bool false) ∧ w = w' := by
  go_enter Try.func34, Try.ntmps34
  go_wp2
  go_ret
  exact ⟨rfl, rfl⟩

def headI (u : List Nat) (i : Int) : Int := if inU u i = true then (Uf.hd u i.toNat : Int) else 0

theorem head_in (b : Nat) (A : Option Addr) (c : Nat) (u : List Nat) (i : Nat) (w : World) (h : UfR w b A c u) (g : Uf.Good u) (h1 : 1 ≤ i) (h2 : i ≤ u.length) (hbig : u.length ≤ 1000000000000) :
    Calls Try.prog 30 #[.pointer (some ⟨b, 0, none⟩), .int .i64 i] w fun e w' => e = .returned (.int .i64 (Uf.hd u i : Int)) ∧ w = w' := by
  have hin := Lib.hid (show inU u (i : Int) = true from by simp [inU]; omega)
  have hc := h.cell
  have HR := Lib.hid h.reads
  have HG := Lib.hid g
  generalize hn : u.length = n at *
  have HN := Lib.hid hn
  clear g
  go_enter Try.func30, Try.ntmps30
  go_wp2_with fail
  refine (is_any b A c u i w h).mono ?_
  rintro en w1 ⟨rfl, rfl⟩
  rw [hin.out]
  clear h hn
  go_wp2_with fail
  go_loop [1] (fun iv => ∃ j : Nat, iv = .int .i64 j ∧ 1 ≤ j ∧ j ≤ n ∧ Uf.hd u j = Uf.hd u i) (fun iv => (intOf iv).toNat)
  case atStart => exact ⟨i, rfl, h1, h2, rfl⟩
  case round =>
    obtain ⟨j, rfl, j1, j2, hj⟩ := hrel
    obtain ⟨k, rfl⟩ : ∃ k, j = k + 1 := ⟨j - 1, by omega⟩
    obtain ⟨ad, rfl, _, hcell⟩ := HR.out.nat (k := k) (by omega)
    have hup := Uf.hd_up HG.out (i := k + 1) (by omega) (by have := HN.out; omega)
    obtain ⟨g1, g2⟩ := HG.out (k + 1) (by omega) (by have := HN.out; omega)
    have hself := Uf.hd_self (ups := u) (i := k + 1) (by omega)
    rw [Nat.add_sub_cancel] at hup g1 g2 hself
    generalize u.getD k 0 = x at *
    by_cases hx : x = k + 1
    · have e := hself hx
      have HE := Lib.hid (e.symm.trans hj)
      have hxb : ((x : Int) == (k : Int) + 1) = true := by simp; omega
      have hxc : ((x : Int) != (k : Int) + 1) = false := by simp; omega
      clear hself hup e hj
      subst hx
      go_wp2_with fail
      go_ret
      exact ⟨ret_int (by rw [← HE.out]; omega), rfl⟩
    · have HE := Lib.hid (hup.symm.trans hj)
      have hxc : ((x : Int) != (k : Int) + 1) = true := by simp; omega
      clear hself hup hj
      go_wp2_with fail
      go_round
      case rel => exact ⟨x, rfl, g1, by omega, HE.out⟩
      case measure => simp [intOf]; omega

theorem head_any (b : Nat) (A : Option Addr) (c : Nat) (u : List Nat) (i : Int) (w : World) (h : UfR w b A c u) (g : Uf.Good u) (hbig : u.length ≤ 1000000000000) :
    Calls Try.prog 30 #[.pointer (some ⟨b, 0, none⟩), .int .i64 i] w fun e w' => e = .returned (.int .i64 (headI u i)) ∧ w = w' := by
  by_cases hi : inU u i = true
  · have hr : 1 ≤ i ∧ i ≤ (u.length : Int) := by simpa [inU] using hi
    obtain ⟨k, rfl⟩ := Int.eq_ofNat_of_zero_le (show 0 ≤ i by omega)
    unfold headI
    rw [if_pos hi]
    exact head_in b A c u k w h g (by omega) (by omega) hbig
  · have hno : inU u i = false := by simpa using hi
    have HF := Lib.hid (show headI u i = 0 from by unfold headI; rw [if_neg hi])
    have HN := Lib.hid hno
    clear hi hno
    go_enter Try.func30, Try.ntmps30
    go_wp2_with fail
    refine (is_any b A c u i w h).mono ?_
    rintro en w1 ⟨rfl, rfl⟩
    rw [HN.out]
    go_wp2_with fail
    go_ret
    exact ⟨ret_int HF.out.symm, rfl⟩
theorem head_nil (i : Int) (w : World) :
    Calls Try.prog 30 #[.pointer none, .int .i64 i] w fun e w' => e = .returned (.int .i64 0) ∧ w = w' := by
  go_enter Try.func30, Try.ntmps30
  go_wp2_with fail
  refine (is_nil i w).mono ?_
  rintro en w1 ⟨rfl, rfl⟩
  go_wp2_with fail
  go_ret
  exact ⟨rfl, rfl⟩
theorem len_any (b : Nat) (A : Option Addr) (c : Nat) (u : List Nat) (w : World) (h : UfR w b A c u) :
    Calls Try.prog 38 #[.pointer (some ⟨b, 0, none⟩)] w fun e w' => e = .returned (.int .i64 (u.length : Int)) ∧ w = w' := by
  have hc := h.cell
  clear h
  go_enter Try.func38, Try.ntmps38
  go_wp2
  go_ret
  exact ⟨rfl, rfl⟩
theorem len_nil (w : World) :
    Calls Try.prog 38 #[.pointer none] w fun e w' => e = .returned (.int .i64 0) ∧ w = w' := by
  go_enter Try.func38, Try.ntmps38
  go_wp2
  go_ret
  exact ⟨rfl, rfl⟩
end Go.Proofs.Ytnfgndapalkbcaa
