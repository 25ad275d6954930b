/-
  Contracts of package uf's functions that only read: is, Head, Len, Same.
  Contracts of uf.Grow and uf.New: a Uf that the call owns.
  Contracts of uf.New and uf.Join.
  The contract of uf.Join, and of Same.
  The contracts of uf.Class and Classes.
  The contract of uf.Classes; complinebook.SameInts.
-/
import Derived.Test.YtedfbdeklepekaaGreatWords
import Derived.Test.YtedfbdeklepekaaGreatUfPlain
import Derived.Test.YtedfbdeklepekaaGreatProg
import Derived.Test.YtedfbdeklepekaaGreatKeeps
import Derived.Deep.RegionLaw
import Derived.Deep.QuietTactic
import Derived.BigQuiet
namespace Go.Proofs.YtedfbdeklepekaaGreat
section
open Go.RowKit

def nats (u : List Nat) : List Value := u.map fun (x : Nat) => Value.int .i64 (x : Int)
theorem nats_length (u : List Nat) : (nats u).length = u.length := by simp [nats]
theorem nats_ints (u : List Nat) : nats u = ints (u.map Int.ofNat) := by simp [nats, ints, List.map_map]
theorem nats_append (u v : List Nat) : nats (u ++ v) = nats u ++ nats v := by simp [nats]

/-- What is read of a Uf: its row is the numbers u. -/
structure UfR (w : World) (b : Nat) (A : Option Addr) (c : Nat) (u : List Nat) : Prop where
  cell : w.cell? ⟨b, 0, none⟩ = some (.slice A u.length c)
  reads : Reads w w.heap.size 1 A u.length (nats u)

theorem Reads.nat {w : World} {B n k : Nat} {A : Option Addr} {u : List Nat} (h : Reads w B 1 A n (nats u)) (hk : k < n) :
    ∃ ad, A = some ad ∧ ad.block < B ∧ w.cell? (ad.add k) = some (.int .i64 (u.getD k 0 : Int)) := by
  obtain ⟨ad, x, e, hb, hx, hc⟩ := h.at_ hk
  refine ⟨ad, e, hb, ?_⟩
  rw [hc]
  simp only [nats, List.getElem?_map, Option.map_eq_some_iff] at hx
  obtain ⟨y, hy, rfl⟩ := hx
  rw [List.getD_eq_getElem?_getD, hy]
  rfl

def inU (u : List Nat) (i : Int) : Bool := decide (1 ≤ i) && decide (i ≤ (u.length : Int))

theorem is_any (b : Nat) (A : Option Addr) (c : Nat) (u : List Nat) (i : Int) (w : World) (h : UfR w b A c u) :
    Calls Tryz.prog 61 #[.pointer (some ⟨b, 0, none⟩), .int .i64 i] w fun e w' => e = .returned (.bool (inU u i)) ∧ w = w' := by
  have hc := h.cell
  generalize hn : u.length = n at *
  by_cases h1 : 1 ≤ i
  · by_cases h2 : i ≤ (n : Int)
    · have HF := Lib.hid (show inU u i = true from by simp [inU, hn]; omega)
      clear hn h
      go_enter Tryz.func61, Tryz.ntmps61
      go_wp2
      go_ret
      exact ⟨ret_bool HF.out.symm, rfl⟩
    · have HF := Lib.hid (show inU u i = false from by simp [inU, hn]; omega)
      clear hn h
      go_enter Tryz.func61, Tryz.ntmps61
      go_wp2
      go_ret
      exact ⟨ret_bool HF.out.symm, rfl⟩
  · have HF := Lib.hid (show inU u i = false from by simp [inU]; omega)
    clear hn h
    go_enter Tryz.func61, Tryz.ntmps61
    go_wp2
    go_ret
    exact ⟨ret_bool HF.out.symm, rfl⟩
theorem is_nil (i : Int) (w : World) :
    Calls Tryz.prog 61 #[.pointer none, .int .i64 i] w fun e w' => e = .returned (.bool false) ∧ w = w' := by
  go_enter Tryz.func61, Tryz.ntmps61
  go_wp2
  go_ret
  exact ⟨rfl, rfl⟩

def headI (u : List Nat) (i : Int) : Int := if inU u i = true then (Uf.hd u i.toNat : Int) else 0

theorem head_in (b : Nat) (A : Option Addr) (c : Nat) (u : List Nat) (i : Nat) (w : World) (h : UfR w b A c u) (g : Uf.Good u) (h1 : 1 ≤ i) (h2 : i ≤ u.length) (hbig : u.length ≤ 1000000000000) :
    Calls Tryz.prog 19 #[.pointer (some ⟨b, 0, none⟩), .int .i64 i] w fun e w' => e = .returned (.int .i64 (Uf.hd u i : Int)) ∧ w = w' := by
  have hin := Lib.hid (show inU u (i : Int) = true from by simp [inU]; omega)
  have hc := h.cell
  have HR := Lib.hid h.reads
  have HG := Lib.hid g
  generalize hn : u.length = n at *
  have HN := Lib.hid hn
  clear g
  go_enter Tryz.func19, Tryz.ntmps19
  go_wp2_with fail
  refine (is_any b A c u i w h).mono ?_
  rintro en w1 ⟨rfl, rfl⟩
  rw [hin.out]
  clear h hn
  go_wp2_with fail
  go_loop [1] (fun iv => ∃ j : Nat, iv = .int .i64 j ∧ 1 ≤ j ∧ j ≤ n ∧ Uf.hd u j = Uf.hd u i) (fun iv => (intOf iv).toNat)
  case atStart => exact ⟨i, rfl, h1, h2, rfl⟩
  case round =>
    obtain ⟨j, rfl, j1, j2, hj⟩ := hrel
    obtain ⟨k, rfl⟩ : ∃ k, j = k + 1 := ⟨j - 1, by omega⟩
    obtain ⟨ad, rfl, _, hcell⟩ := HR.out.nat (k := k) (by omega)
    have hup := Uf.hd_up HG.out (i := k + 1) (by omega) (by have := HN.out; omega)
    obtain ⟨g1, g2⟩ := HG.out (k + 1) (by omega) (by have := HN.out; omega)
    have hself := Uf.hd_self (ups := u) (i := k + 1) (by omega)
    rw [Nat.add_sub_cancel] at hup g1 g2 hself
    generalize u.getD k 0 = x at *
    by_cases hx : x = k + 1
    · have e := hself hx
      have HE := Lib.hid (e.symm.trans hj)
      have hxb : ((x : Int) == (k : Int) + 1) = true := by simp; omega
      have hxc : ((x : Int) != (k : Int) + 1) = false := by simp; omega
      clear hself hup e hj
      subst hx
      go_wp2_with fail
      go_ret
      exact ⟨ret_int (by rw [← HE.out]; omega), rfl⟩
    · have HE := Lib.hid (hup.symm.trans hj)
      have hxc : ((x : Int) != (k : Int) + 1) = true := by simp; omega
      clear hself hup hj
      go_wp2_with fail
      go_round
      case rel => exact ⟨x, rfl, g1, by omega, HE.out⟩
      case measure => simp [intOf]; omega

theorem head_any (b : Nat) (A : Option Addr) (c : Nat) (u : List Nat) (i : Int) (w : World) (h : UfR w b A c u) (g : Uf.Good u) (hbig : u.length ≤ 1000000000000) :
    Calls Tryz.prog 19 #[.pointer (some ⟨b, 0, none⟩), .int .i64 i] w fun e w' => e = .returned (.int .i64 (headI u i)) ∧ w = w' := by
  by_cases hi : inU u i = true
  · have hr : 1 ≤ i ∧ i ≤ (u.length : Int) := by simpa [inU] using hi
    obtain ⟨k, rfl⟩ := Int.eq_ofNat_of_zero_le (show 0 ≤ i by omega)
    unfold headI
    rw [if_pos hi]
    exact head_in b A c u k w h g (by omega) (by omega) hbig
  · have hno : inU u i = false := by simpa using hi
    have HF := Lib.hid (show headI u i = 0 from by unfold headI; rw [if_neg hi])
    have HN := Lib.hid hno
    clear hi hno
    go_enter Tryz.func19, Tryz.ntmps19
    go_wp2_with fail
    refine (is_any b A c u i w h).mono ?_
    rintro en w1 ⟨rfl, rfl⟩
    rw [HN.out]
    go_wp2_with fail
    go_ret
    exact ⟨ret_int HF.out.symm, rfl⟩
theorem head_nil (i : Int) (w : World) :
    Calls Tryz.prog 19 #[.pointer none, .int .i64 i] w fun e w' => e = .returned (.int .i64 0) ∧ w = w' := by
  go_enter Tryz.func19, Tryz.ntmps19
  go_wp2_with fail
  refine (is_nil i w).mono ?_
  rintro en w1 ⟨rfl, rfl⟩
  go_wp2_with fail
  go_ret
  exact ⟨rfl, rfl⟩
theorem len_any (b : Nat) (A : Option Addr) (c : Nat) (u : List Nat) (w : World) (h : UfR w b A c u) :
    Calls Tryz.prog 23 #[.pointer (some ⟨b, 0, none⟩)] w fun e w' => e = .returned (.int .i64 (u.length : Int)) ∧ w = w' := by
  have hc := h.cell
  clear h
  go_enter Tryz.func23, Tryz.ntmps23
  go_wp2
  go_ret
  exact ⟨rfl, rfl⟩
theorem len_nil (w : World) :
    Calls Tryz.prog 23 #[.pointer none] w fun e w' => e = .returned (.int .i64 0) ∧ w = w' := by
  go_enter Tryz.func23, Tryz.ntmps23
  go_wp2
  go_ret
  exact ⟨rfl, rfl⟩
end

section
set_option maxRecDepth 100000
open Go.RowKit

theorem int_info : (Tryz.prog.info? 3).map (fun i => (i.zero, i.size, i.bytes)) = some (some (.int .i64 0), 1, 8) := by kernel_rfl

/-- A Uf in block b, its row in block g (b, where there is none). -/
structure UfAt (w : World) (b g : Nat) (u : List Nat) (A : Option Addr) (c : Nat) : Prop where
  blk : Blk w b 33 #[.slice A u.length c]
  own : w.ownsRow 0 3 1 (.slice A u.length c) u.length (nats u)
  at_ : (A = none ∧ g = b) ∨ (A = some ⟨g, 0, none⟩ ∧ g ≠ b)
theorem UfAt.rd {w : World} {b g : Nat} {u : List Nat} {A : Option Addr} {c : Nat} (h : UfAt w b g u A c) : UfR w b A c u :=
  ⟨by have := h.blk.cell 0; simpa using this, Reads.of_own h.own⟩
theorem UfAt.keeps {w w' : World} {b g : Nat} {u : List Nat} {A : Option Addr} {c : Nat} {T : List Nat} (h : UfAt w b g u A c) (hk : Keeps T w w') (hb : b ∉ T) (hg : g ∉ T) : UfAt w' b g u A c := by
  refine ⟨h.blk.keeps hk hb, own_keeps h.own hk ?_, h.at_⟩
  intro g' e
  rcases h.at_ with ⟨rfl, rfl⟩ | ⟨rfl, _⟩
  · simp [Value.ownBlock] at e
  · simp [Value.ownBlock] at e; subst e; exact hg
theorem UfAt.lt {w : World} {b g : Nat} {u : List Nat} {A : Option Addr} {c : Nat} (h : UfAt w b g u A c) : b < w.heap.size ∧ g < w.heap.size := by
  refine ⟨h.blk.lt, ?_⟩
  rcases h.at_ with ⟨rfl, rfl⟩ | ⟨rfl, _⟩
  · exact h.blk.lt
  · exact (h.own.lt g (by simp [Value.ownBlock])).2

def growF (u : List Nat) : Nat → List Nat
  | 0 => u
  | k + 1 => growF u k ++ [(growF u k).length + 1]
theorem growF_length (u : List Nat) (k : Nat) : (growF u k).length = u.length + k := by
  induction k with
  | zero => rfl
  | succ k ih => simp [growF, ih]; omega

def lenAt (w : World) (b : Nat) : Nat := match w.cell? ⟨b, 0, none⟩ with | some (.slice _ l _) => l | _ => 0
theorem UfR.lenAt {w : World} {b c : Nat} {A : Option Addr} {u : List Nat} (h : UfR w b A c u) : lenAt w b = u.length := by unfold Proofs.YtedfbdeklepekaaGreat.lenAt; rw [h.cell]
def GrowN (w : World) (b g : Nat) (u : List Nat) (e : Ending) (w' : World) : Prop :=
  e = .returned (.int .i64 0) ∧ ∃ g' A c, UfAt w' b g' u A c ∧ Keeps [b, g] w w' ∧ (g' = g ∨ w.heap.size ≤ g')

theorem grow_in (b g : Nat) (u : List Nat) (A : Option Addr) (c : Nat) (n : Nat) (w : World) (h : UfAt w b g u A c) (h1 : u.length ≤ n) (h2 : n ≤ 1000) :
    Calls Tryz.prog 13 #[.pointer (some ⟨b, 0, none⟩), .int .i64 n] w (GrowN w b g (growF u (n - u.length))) := by
  obtain ⟨i0, hi0, hz0, hz1, hz2⟩ := info_parts int_info
  have hc := h.rd.cell
  have H := Lib.hid h
  have h3 : ¬ n < u.length := by omega
  generalize hul : u.length = m at *
  have HUL := Lib.hid hul
  clear h hul
  go_enter Tryz.func13, Tryz.ntmps13
  go_wp2_with fail
  go_loopw [20] (fun _ wr => ∃ (k g' : Nat) (A' : Option Addr) (c' : Nat), m + k ≤ n ∧ UfAt wr b g' (growF u k) A' c' ∧ Keeps [b, g] w wr ∧ (g' = g ∨ w.heap.size ≤ g')) (fun _ wr => n - lenAt wr b)
  case atStart => exact ⟨0, g, A, c, by omega, H.out, Keeps.refl _ _, .inl rfl⟩
  case round =>
    obtain ⟨k, g', A', c', hk, hu, hkp, hg⟩ := hrel
    have hc' := hu.rd.cell
    rw [growF_length, HUL.out] at hc'
    have HU := Lib.hid hu
    have hf' := hu.blk.frozen 0
    have HK := Lib.hid hkp
    clear hkp hu
    by_cases hlt : m + k < n
    · have hown := HU.out.own
      rw [growF_length, HUL.out] at hown
      have HOWN := Lib.hid hown
      clear hown
      have hb := HU.out.lt
      have HNE : Hid (some b ≠ (Value.slice A' (m + k) c').ownBlock) := by
        have := own_blk_ne HU.out.own HU.out.blk (by decide)
        rw [growF_length, HUL.out] at this
        exact fun e => this e.symm
      have hwr : IntKind.i64.wrap ((m : Int) + k + 1) = (m : Int) + k + 1 := IntWalk.i64_in _ (by omega)
      go_wp2_with fail
      go_region_law (refine step_append_lies _ rfl (.tmp 31) (.tmp 38) 31 rfl 0 3 i0 (.int .i64 0) 1 8 Tryz.underlying31 hi0 hz0 hz1 hz2 rfl (by omega) (.slice A' (m + k) c') (m + k) (nats (growF u k)) (by first | simp [Act.eval] | simp [Act.eval, Act.put]) (by exact HOWN.out.alloc _) ⟨wr.heap.size, 0, none⟩ 1 1 [.int .i64 ((m : Int) + k + 1)] (by first | simp [Act.eval] | simp [Act.eval, Act.put]) rfl (by exact cell_one_new _ _ _) (by simp [Value.oneCell']) (by omega) (by unfold maxLen; omega) (by omega) (by omega) (wr.heap.size + 1) (by simp) ?_; intro g2 c2 w2 hown2 hg2 hat2 hlt2; have hB2 := Blk.grown (Blk.drew (HU.out.blk.alloc (.cells #[.int .i64 ((m : Int) + k + 1)] 3))) hg2 (HNE.out); have q0 := hB2.cell 0; have q1 := hB2.frozen 0; simp at q0; have HB2 := Lib.hid hB2; have HO2 := Lib.hid hown2; have HG2 := Lib.hid hg2; have HA2 := Lib.hid hat2; clear hB2 hown2 hg2 hat2)
      all_goals
        go_wp2_with fail
        refine ⟨?rel, ?measure⟩
        case rel =>
          have hl := growF_length u k
          rw [HUL.out] at hl
          have hrow : ∀ x, (Value.slice A' (m + k) c').ownBlock = some x → x = g' ∧ g' ≠ b := by
            intro x hx
            rcases HU.out.at_ with ⟨rfl, rfl⟩ | ⟨rfl, hne⟩
            · simp [Value.ownBlock] at hx
            · simp [Value.ownBlock] at hx; exact ⟨hx.symm, hne⟩
          have hg2b : g2 ≠ b ∧ (g2 = g' ∨ g2 = wr.heap.size + 1) := by
            rcases HA2.out with h | h
            · obtain ⟨e1, e2⟩ := hrow g2 h
              exact ⟨by omega, .inl e1⟩
            · exact ⟨by omega, .inr h⟩
          have hsz := HK.out.size
          refine ⟨k + 1, g2, some ⟨g2, 0, none⟩, c2, by omega, ⟨?_, ?_, .inr ⟨rfl, hg2b.1⟩⟩, ?_, ?_⟩
          · have := HB2.out.set_ 0 (.slice (some ⟨g2, 0, none⟩) (m + k + 1) c2)
            have e : (growF u (k + 1)).length = m + k + 1 := by simp [growF, hl]
            rw [e]
            simpa using this
          · have e : (growF u (k + 1)).length = m + k + 1 := by simp [growF, hl]
            have e2 : nats (growF u (k + 1)) = nats (growF u k) ++ [.int .i64 ((m : Int) + k + 1)] := by
              simp [growF, nats, hl]
            rw [e, e2]
            exact own_keeps HO2.out ((Keeps.refl [b] w2).setCell (p := ⟨b, 0, none⟩) (.inl (by simp)) _) (fun x hx => by simp [Value.ownBlock] at hx; subst hx; simp; exact hg2b.1)
          · refine (((HK.out.alloc (.cells #[.int .i64 ((m : Int) + k + 1)] 3)).drew).grown HG2.out ?_).setCell (p := ⟨b, 0, none⟩) (.inl (by simp)) _
            intro x hx
            obtain ⟨rfl, _⟩ := hrow x hx
            rcases hg with rfl | h
            · exact .inl (by simp)
            · exact .inr h
          · rcases hg2b.2 with rfl | h
            · exact hg
            · exact .inr (by omega)
        case measure =>
          have hl := growF_length u k
          rw [HUL.out] at hl
          have e1 : lenAt wr b = m + k := by rw [HU.out.rd.lenAt, hl]
          have hB3 := HB2.out.set_ 0 (.slice (some ⟨g2, 0, none⟩) (m + k + 1) c2)
          have hc3 := hB3.cell 0
          simp at hc3
          have e2 : lenAt (w2.setCell ⟨b, 0, none⟩ (.slice (some ⟨g2, 0, none⟩) (m + k + 1) c2)) b = m + k + 1 := by unfold lenAt; rw [hc3]
          rw [e1, e2]
          omega
    · have hkn : k = n - m := by omega
      go_wp2_with fail
      go_ret
      subst hkn
      rw [HUL.out] at *
      exact ⟨rfl, _, _, _, HU.out, HK.out, hg⟩
end

section
set_option maxRecDepth 100000
open Go.RowKit

theorem growF_fresh (n : Nat) : growF [] n = Uf.fresh n := by
  induction n with
  | zero => rfl
  | succ n ih =>
    simp only [growF, ih, Uf.fresh_length]
    unfold Uf.fresh
    rw [List.range'_concat]
    simp [Nat.add_comm]

theorem grow_nil (n : Int) (w : World) : Calls Tryz.prog 13 #[.pointer none, .int .i64 n] w fun e w' => e = .returned (.int .i64 1) ∧ w = w' := by
  go_enter Tryz.func13, Tryz.ntmps13
  go_wp2
  go_ret
  exact ⟨rfl, rfl⟩

/-- A Uf made by the call. -/
def NewN (w : World) (u : List Nat) (e : Ending) (w' : World) : Prop :=
  e = .returned (.tuple #[.pointer (some ⟨w.heap.size, 0, none⟩), .int .i64 0]) ∧ ∃ g A c, UfAt w' w.heap.size g u A c ∧ Below w.heap.size w w' ∧ w.heap.size ≤ g

theorem new_in (n : Nat) (h : n ≤ 1000) (w : World) : Calls Tryz.prog 7 #[.int .i64 n] w (NewN w (Uf.fresh n)) := by
  have hu : UfAt (w.alloc (.cells #[.slice none 0 0] 33)) w.heap.size w.heap.size [] none 0 := ⟨Blk.new w _ _, World.ownsRow_nil _ _ _ _, .inl ⟨rfl, rfl⟩⟩
  have HU := Lib.hid hu
  clear hu
  go_enter Tryz.func7, Tryz.ntmps7
  go_wp2_with fail
  refine (grow_in w.heap.size w.heap.size [] none 0 n _ HU.out (Nat.zero_le _) h).mono ?_
  rintro en w1 ⟨rfl, g', A', c', hu1, hk1, hg1⟩
  have HU1 := Lib.hid hu1
  have HK1 := Lib.hid hk1
  clear hu1 hk1
  go_wp2_with fail
  go_ret2
  have hu2 := HU1.out
  rw [show n - ([] : List Nat).length = n from rfl, growF_fresh] at hu2
  refine ⟨rfl, g', A', c', hu2, ?_, ?_⟩
  · exact ((Below.refl _ w).alloc (Nat.le_refl _) _).trans (HK1.out.below (by intro x hx; simp at hx; omega) (by simp))
  · rcases hg1 with rfl | h
    · exact Nat.le_refl _
    · simp at h; omega

/-! ### Join -/
def joinU (u : List Nat) (x0 : Nat) (xs : List Nat) : List Nat := xs.foldl (fun v x => Uf.step v x0 x) u
def joinC (u : List Nat) (x0 : Nat) : List Nat → Nat
  | [] => 0
  | x :: r => Uf.more u x0 x + joinC (Uf.step u x0 x) x0 r
theorem joinU_snoc (u : List Nat) (x0 : Nat) (xs : List Nat) (x : Nat) : joinU u x0 (xs ++ [x]) = Uf.step (joinU u x0 xs) x0 x := by simp [joinU]
theorem joinC_snoc (u : List Nat) (x0 : Nat) (xs : List Nat) (x : Nat) : joinC u x0 (xs ++ [x]) = joinC u x0 xs + Uf.more (joinU u x0 xs) x0 x := by
  induction xs generalizing u with
  | nil => simp [joinC, joinU]
  | cons y ys ih => simp only [List.cons_append, joinC, ih]; simp [joinU]; omega
theorem joinU_length (u : List Nat) (x0 : Nat) (xs : List Nat) : (joinU u x0 xs).length = u.length := by
  induction xs generalizing u with
  | nil => rfl
  | cons y ys ih => have := ih (Uf.step u x0 y); rw [Uf.step_length] at this; exact this
theorem joinC_le (u : List Nat) (x0 : Nat) (xs : List Nat) : joinC u x0 xs ≤ xs.length := by
  induction xs generalizing u with
  | nil => simp [joinC]
  | cons y ys ih => have := ih (Uf.step u x0 y); simp only [joinC, List.length_cons]; unfold Uf.more; split <;> omega
theorem joinU_good {u : List Nat} {x0 : Nat} (g : Uf.Good u) (h0 : 1 ≤ x0 ∧ x0 ≤ u.length) : ∀ (xs : List Nat), (∀ x ∈ xs, 1 ≤ x ∧ x ≤ u.length) → Uf.Good (joinU u x0 xs) := by
  intro xs
  induction xs generalizing u with
  | nil => intro _; exact g
  | cons y ys ih =>
    intro h
    exact ih (Uf.good_step g h0 (h y (by simp))) (by rw [Uf.step_length]; exact h0) (by rw [Uf.step_length]; exact fun x hx => h x (by simp [hx]))

/-- the numbers handed in, each in its bounds -/
def InN (u : List Nat) (xs : List Nat) : Prop := ∀ x ∈ xs, 1 ≤ x ∧ x ≤ u.length

def JoinN (w : World) (b g : Nat) (u : List Nat) (A : Option Addr) (c : Nat) (n : Nat) (e : Ending) (w' : World) : Prop :=
  e = .returned (.tuple #[.int .i64 (n : Int), .int .i64 0]) ∧ UfAt w' b g u A c ∧ Keeps [b, g] w w'

theorem UfAt.put {w : World} {b g : Nat} {u : List Nat} {A : Option Addr} {c : Nat} (h : UfAt w b g u A c) {i v : Nat} (hi : i < u.length) :
    g ≠ b ∧ A = some ⟨g, 0, none⟩ ∧ w.frozen? ⟨g, i, none⟩ = false ∧ (∃ old, w.cell? ⟨g, i, none⟩ = some old) ∧ UfAt (w.setCell ⟨g, i, none⟩ (.int .i64 (v : Int))) b g (u.set i v) A c := by
  rcases h.at_ with ⟨rfl, rfl⟩ | ⟨rfl, hne⟩
  · have := h.own.1
    rcases h.own.2 with ⟨_, h0⟩ | ⟨_, _, _, hv, _⟩
    · omega
    · cases hv
  · have ho := h.own
    refine ⟨hne, rfl, ho.frozenAt i, ?_, ?_⟩
    · have := ho.cellAt i (by simpa using hi)
      rw [this]
      exact ⟨_, List.getElem?_eq_getElem (by rw [nats_length]; exact hi)⟩
    · have hs := ho.stored i (.int .i64 (v : Int))
      refine ⟨?_, ?_, .inr ⟨rfl, hne⟩⟩
      · rw [List.length_set]
        exact h.blk.far (p := ⟨g, i, none⟩) (fun e => hne e.symm) _
      · rw [List.length_set]
        have e : nats (u.set i v) = (nats u).set i (.int .i64 (v : Int)) := by simp [nats, List.map_set]
        rw [e]
        exact hs.1
end

section
set_option maxRecDepth 100000
open Go.RowKit

theorem headI_nat {u : List Nat} {x : Nat} (h : 1 ≤ x ∧ x ≤ u.length) : headI u (x : Int) = (Uf.hd u x : Int) := by
  unfold headI
  rw [if_pos (by simp [inU]; omega)]
  rfl

set_option maxHeartbeats 1000000 in
theorem join_in (b g : Nat) (u : List Nat) (A : Option Addr) (c : Nat) (L : Option Addr) (n cl B : Nat) (x0 : Nat) (xs : List Nat) (w : World) (h : UfAt w b g u A c) (hgood : Uf.Good u) (hbig : u.length ≤ 1000)
    (hr : Reads w B 1 L n (nats xs)) (hB : B ≤ w.heap.size) (hBb : ∀ ad, L = some ad → ad.block < B → ad.block ≠ b ∧ ad.block ≠ g) (hin : InN u xs) (h0 : xs.head? = some x0) (hn : n ≤ 1000000) :
    Calls Tryz.prog 10 #[.pointer (some ⟨b, 0, none⟩), .slice L n cl] w (JoinN w b g (joinU u x0 xs) A c (joinC u x0 xs)) := by
  have hlen : xs.length = n := by have := hr.1; rw [nats_length] at this; omega
  have H := Lib.hid h
  have HG := Lib.hid hgood
  have HI := Lib.hid hin
  have HL := Lib.hid hlen
  have H0 := Lib.hid h0
  have hx0 : 1 ≤ x0 ∧ x0 ≤ u.length := hin x0 (List.mem_of_mem_head? h0)
  have hnp : 0 < n := by
    rcases Nat.eq_zero_or_pos n with e | e
    · subst e; rw [List.eq_nil_of_length_eq_zero hlen] at h0; cases h0
    · exact e
  clear h hgood hin hlen h0
  go_enter Tryz.func10, Tryz.ntmps10
  go_wp2_with fail
  go_loop [7, 17] (fun _ i => ∃ k : Nat, k ≤ n ∧ i = .int .i64 k) (fun _ i => n - (intOf i).toNat)
  case atStart => exact ⟨0, Nat.zero_le _, rfl⟩
  case round =>
    obtain ⟨k, hk, rfl⟩ := hrel
    by_cases hlt : k < n
    · obtain ⟨ad, e1, _, hc⟩ := hr.nat hlt
      subst e1
      have hxk : 1 ≤ xs.getD k 0 ∧ xs.getD k 0 ≤ u.length := HI.out _ (by
        rw [List.getD_eq_getElem?_getD, List.getElem?_eq_getElem (by have := HL.out; omega)]
        exact List.getElem_mem _)
      have hyes := Lib.hid (show inU u (xs.getD k 0 : Int) = true from by unfold inU; rw [Bool.and_eq_true]; exact ⟨decide_eq_true (by omega), decide_eq_true (by omega)⟩)
      generalize xs.getD k 0 = x at *
      go_wp2_with (first | (go_at_call 61; refine (is_any b A c u _ w H.out.rd).mono ?_; rw [hyes.out]; rintro en w1 ⟨rfl, rfl⟩))
      go_round
      case rel => exact ⟨k + 1, by omega, by go_num⟩
      case measure => simp [intOf]; omega
    · go_wp2_with fail
      go_loopw [8, 10, 11, 12, 28] (fun cn _ _ _ i wr => ∃ k : Nat, k ≤ n ∧ i = .int .i64 k ∧ cn = .int .i64 (joinC u x0 (xs.take k)) ∧ UfAt wr b g (joinU u x0 (xs.take k)) A c ∧ Keeps [b, g] w wr) (fun _ _ _ _ i _ => n - (intOf i).toNat)
      case atStart => exact ⟨0, Nat.zero_le _, rfl, rfl, H.out, Keeps.refl _ _⟩
      case round =>
        obtain ⟨k2, hk2, rfl, rfl, hu, hkp⟩ := hrel
        have hul := joinU_length u x0 (xs.take k2)
        have hgd := joinU_good HG.out hx0 (xs.take k2) (fun x hx => HI.out x (List.mem_of_mem_take hx))
        have hcl := joinC_le u x0 (xs.take k2)
        rw [List.length_take] at hcl
        have hrw := hr.keepsFar hkp hB (by intro ad e hlb; have := hBb ad e hlb; simp [this.1, this.2])
        have HU := Lib.hid hu
        have HK := Lib.hid hkp
        have HGD := Lib.hid hgd
        have HUL := Lib.hid hul
        clear hu hkp hgd hul
        by_cases hlt2 : k2 < n
        · obtain ⟨ad, e1, _, hc⟩ := hrw.nat hlt2
          obtain ⟨ad', e2, _, hc0⟩ := hrw.nat hnp
          subst e1
          injection e2 with e2
          subst e2
          have hxs0 : xs.getD 0 0 = x0 := by rw [List.getD_eq_getElem?_getD, ← List.head?_eq_getElem?, H0.out]; rfl
          rw [hxs0] at hc0
          have had0 : ad.add 0 = ad := by unfold Addr.add; simp
          rw [had0] at hc0
          have hxk : 1 ≤ xs.getD k2 0 ∧ xs.getD k2 0 ≤ u.length := HI.out _ (by
            rw [List.getD_eq_getElem?_getD, List.getElem?_eq_getElem (by have := HL.out; omega)]
            exact List.getElem_mem _)
          have htk : xs.take (k2 + 1) = xs.take k2 ++ [xs.getD k2 0] := by
            rw [List.take_add_one, List.getD_eq_getElem?_getD, List.getElem?_eq_getElem (by have := HL.out; omega)]; rfl
          have HTK := Lib.hid htk
          clear htk hxs0 had0
          generalize xs.getD k2 0 = x at *
          have hj1 : joinU u x0 (xs.take (k2 + 1)) = Uf.step (joinU u x0 (xs.take k2)) x0 x := by rw [HTK.out, joinU_snoc]
          have hj2 : joinC u x0 (xs.take (k2 + 1)) = joinC u x0 (xs.take k2) + Uf.more (joinU u x0 (xs.take k2)) x0 x := by rw [HTK.out, joinC_snoc]
          have HJ1 := Lib.hid hj1
          have HJ2 := Lib.hid hj2
          clear hj1 hj2
          generalize joinU u x0 (xs.take k2) = v at *
          generalize joinC u x0 (xs.take k2) = cc at *
          have hx0v : 1 ≤ x0 ∧ x0 ≤ v.length := by rw [HUL.out]; exact hx0
          have hxkv : 1 ≤ x ∧ x ≤ v.length := by rw [HUL.out]; exact hxk
          have HH0 := Lib.hid (headI_nat hx0v)
          have HHX := Lib.hid (headI_nat hxkv)
          have hvb : v.length ≤ 1000000000000 := by rw [HUL.out]; omega
          obtain ⟨a1, a2, _⟩ := Uf.hd_spec HGD.out x0 hx0v.1 hx0v.2
          obtain ⟨b1, b2, _⟩ := Uf.hd_spec HGD.out x hxkv.1 hxkv.2
          have hst : Uf.step v x0 x = if Uf.hd v x0 = Uf.hd v x then v else v.set (max (Uf.hd v x0) (Uf.hd v x) - 1) (min (Uf.hd v x0) (Uf.hd v x)) := rfl
          have hmo : Uf.more v x0 x = if Uf.hd v x0 = Uf.hd v x then 0 else 1 := rfl
          rw [hst] at HJ1
          rw [hmo] at HJ2
          clear hst hmo
          generalize Uf.hd v x0 = p at *
          generalize Uf.hd v x = q at *
          by_cases hpq : p = q
          · rw [if_pos hpq] at HJ1 HJ2
            have hb1 : ((p : Int) != (q : Int)) = false := by simp; omega
            subst hpq
            go_wp2_with fail
            refine (head_any b A c v x0 wr HU.out.rd HGD.out hvb).mono ?_
            rw [HH0.out]
            rintro en w1 ⟨rfl, rfl⟩
            go_wp2_with fail
            refine (head_any b A c v x wr HU.out.rd HGD.out hvb).mono ?_
            rw [HHX.out]
            rintro en w1 ⟨rfl, rfl⟩
            go_wp2_with fail
            go_roundw
            case rel => exact ⟨k2 + 1, by omega, by go_num, by rw [HJ2.out]; rfl, by rw [HJ1.out]; exact HU.out, HK.out⟩
            case measure => simp [intOf]; omega
          · rw [if_neg hpq] at HJ1 HJ2
            have hb1 : ((p : Int) != (q : Int)) = true := by simp; omega
            by_cases hpl : p < q
            · have hmx : max p q - 1 = q - 1 ∧ min p q = p := by omega
              rw [hmx.1, hmx.2] at HJ1
              obtain ⟨hne, rfl, hfz, ⟨old, hold⟩, hput⟩ := HU.out.put (i := q - 1) (v := p) (by have := hx0v.2; have := hxkv.2; omega)
              have HP := Lib.hid hput
              have hcf := HU.out.rd.cell
              have hvl := HUL.out
              have hml : q - 1 < u.length := by omega
              rw [hvl] at hcf
              clear hput hmx hpq hvl
              generalize hul2 : u.length = ul at *
              go_wp2_with fail
              refine (head_any b (some ⟨g, 0, none⟩) c v x0 wr HU.out.rd HGD.out hvb).mono ?_
              rw [HH0.out]
              rintro en w1 ⟨rfl, rfl⟩
              go_wp2_with fail
              refine (head_any b (some ⟨g, 0, none⟩) c v x wr HU.out.rd HGD.out hvb).mono ?_
              rw [HHX.out]
              rintro en w1 ⟨rfl, rfl⟩
              go_wp2_with fail
              refine ⟨?rel, ?measure⟩
              case rel => exact ⟨k2 + 1, by omega, by go_num, by rw [HJ2.out]; go_num, by rw [HJ1.out]; exact HP.out, HK.out.setCell (p := ⟨g, q - 1, none⟩) (.inl (by simp)) _⟩
              case measure => simp [intOf]; omega
            · have hqp : q < p := by omega
              have hmx : max p q - 1 = p - 1 ∧ min p q = q := by omega
              rw [hmx.1, hmx.2] at HJ1
              obtain ⟨hne, rfl, hfz, ⟨old, hold⟩, hput⟩ := HU.out.put (i := p - 1) (v := q) (by have := hx0v.2; have := hxkv.2; omega)
              have HP := Lib.hid hput
              have hcf := HU.out.rd.cell
              have hvl := HUL.out
              have hml : p - 1 < u.length := by omega
              rw [hvl] at hcf
              clear hput hmx hpq hvl
              generalize hul2 : u.length = ul at *
              go_wp2_with fail
              refine (head_any b (some ⟨g, 0, none⟩) c v x0 wr HU.out.rd HGD.out hvb).mono ?_
              rw [HH0.out]
              rintro en w1 ⟨rfl, rfl⟩
              go_wp2_with fail
              refine (head_any b (some ⟨g, 0, none⟩) c v x wr HU.out.rd HGD.out hvb).mono ?_
              rw [HHX.out]
              rintro en w1 ⟨rfl, rfl⟩
              go_wp2_with fail
              refine ⟨?rel, ?measure⟩
              case rel => exact ⟨k2 + 1, by omega, by go_num, by rw [HJ2.out]; go_num, by rw [HJ1.out]; exact HP.out, HK.out.setCell (p := ⟨g, p - 1, none⟩) (.inl (by simp)) _⟩
              case measure => simp [intOf]; omega
        · have e' : xs.take k2 = xs := by rw [show k2 = n by omega, ← HL.out, List.take_length]
          rw [e'] at HU ⊢
          clear e'
          generalize joinC u x0 xs = cc at *
          go_wp2_with fail
          go_ret2
          exact ⟨rfl, HU.out, HK.out⟩

theorem join_out (b g : Nat) (u : List Nat) (A : Option Addr) (c : Nat) (L : Option Addr) (n cl B : Nat) (xs : List Int) (w : World) (h : UfAt w b g u A c)
    (hr : Reads w B 1 L n (ints xs)) (hout : ∃ x ∈ xs, inU u x = false) (hn : n ≤ 1000000) :
    Calls Tryz.prog 10 #[.pointer (some ⟨b, 0, none⟩), .slice L n cl] w fun e w' => e = .returned (.tuple #[.int .i64 0, .int .i64 3]) ∧ w = w' := by
  have H := Lib.hid h
  have HO := Lib.hid hout
  have HL := Lib.hid hr.int_len
  clear h hout
  go_enter Tryz.func10, Tryz.ntmps10
  go_wp2_with fail
  go_loop [7, 17] (fun _ i => ∃ k : Nat, k ≤ n ∧ i = .int .i64 k ∧ ∀ x ∈ xs.take k, inU u x = true) (fun _ i => n - (intOf i).toNat)
  case atStart => exact ⟨0, Nat.zero_le _, rfl, by simp⟩
  case round =>
    obtain ⟨k, hk, rfl, hall⟩ := hrel
    have HALL := Lib.hid hall
    clear hall
    by_cases hlt : k < n
    · obtain ⟨ad, x, rfl, _, hx, hc⟩ := hr.int hlt
      have HTK := Lib.hid (show xs.take (k + 1) = xs.take k ++ [x] from by rw [List.take_add_one, hx]; rfl)
      clear hx
      by_cases hi : inU u x = true
      · have HI := Lib.hid hi
        clear hi
        go_wp2_with (first | (go_at_call 61; refine (is_any b A c u _ w H.out.rd).mono ?_; rw [HI.out]; rintro en w1 ⟨rfl, rfl⟩))
        go_round
        case rel => exact ⟨k + 1, by omega, by go_num, by intro y hy; rw [HTK.out, List.mem_append] at hy; rcases hy with hy | hy; exact HALL.out y hy; simp at hy; subst hy; exact HI.out⟩
        case measure => simp [intOf]; omega
      · have HI := Lib.hid (show inU u x = false from by simpa using hi)
        clear hi
        go_wp2_with (first | (go_at_call 61; refine (is_any b A c u _ w H.out.rd).mono ?_; rw [HI.out]; rintro en w1 ⟨rfl, rfl⟩))
        go_ret2
        exact ⟨rfl, rfl⟩
    · exfalso
      obtain ⟨x, hx, hf⟩ := HO.out
      have := HALL.out x (by rw [List.take_of_length_le (by have := HL.out; omega)]; exact hx)
      rw [hf] at this
      cases this
theorem join_nil (L : Option Addr) (n cl : Nat) (w : World) : Calls Tryz.prog 10 #[.pointer none, .slice L n cl] w fun e w' => e = .returned (.tuple #[.int .i64 0, .int .i64 1]) ∧ w = w' := by
  go_enter Tryz.func10, Tryz.ntmps10
  go_wp2
  go_ret2
  exact ⟨rfl, rfl⟩

/-! ### Same -/
def sameI (u : List Nat) (xs : List Int) : Bool := xs.all fun x => inU u x && (headI u x == headI u (xs.headD 0))
theorem quiet_left {P : Program} {f : FuncId} {args : Array Value} {w : World} {n : Nat} {v : Value}
    (h : Calls P f args (w.drewN n) fun e w' => e = .returned v ∧ w.drewN n = w') : Calls P f args (w.drewN n) fun e w' => e = .returned v ∧ ∃ m, w' = w.drewN m :=
  h.mono fun _ _ ⟨he, hm⟩ => ⟨he, n, hm.symm⟩
theorem quiet_same {P : Program} {f : FuncId} {args : Array Value} {w : World} {n : Nat} {v : Value}
    (h : Calls P f args (w.drewN n) fun e w' => e = .returned v ∧ w.drewN n = w') : Calls P f args (w.drewN n) fun e w' => e = .returned v ∧ ∃ m, w' = (w.drewN n).drewN m :=
  h.mono fun _ _ ⟨he, hm⟩ => ⟨he, 0, hm.symm⟩

theorem UfR.drewN {w : World} {b c : Nat} {A : Option Addr} {u : List Nat} (h : UfR w b A c u) (n : Nat) : UfR (w.drewN n) b A c u := ⟨h.cell, h.reads⟩

theorem quiet_is {b : Nat} {A : Option Addr} {c : Nat} {u : List Nat} {w : World} {x : Int} {v : Bool} (h : UfR w b A c u) (hv : inU u x = v) (q : Nat) :
    Calls Tryz.prog 61 #[.pointer (some ⟨b, 0, none⟩), .int .i64 x] (w.drewN q) fun e w' => e = .returned (.bool v) ∧ ∃ m, w' = w.drewN m := by
  refine quiet_left ?_
  subst hv
  exact is_any b A c u x _ (h.drewN q)
theorem quiet_head {b : Nat} {A : Option Addr} {c : Nat} {u : List Nat} {w : World} (h : UfR w b A c u) (hg : Uf.Good u) (hbig : u.length ≤ 1000000000000) (x : Int) (q : Nat) :
    Calls Tryz.prog 19 #[.pointer (some ⟨b, 0, none⟩), .int .i64 x] (w.drewN q) fun e w' => e = .returned (.int .i64 (headI u x)) ∧ ∃ m, w' = w.drewN m :=
  quiet_left (head_any b A c u x _ (h.drewN q) hg hbig)

theorem same_any (b : Nat) (A : Option Addr) (c : Nat) (u : List Nat) (L : Option Addr) (n cl B : Nat) (xs : List Int) (w : World) (h : UfR w b A c u) (hgood : Uf.Good u) (hbig : u.length ≤ 1000000000000)
    (hr : Reads w B 1 L n (ints xs)) (hn : n ≤ 1000000) :
    Calls Tryz.prog 21 #[.pointer (some ⟨b, 0, none⟩), .slice L n cl] w fun e w' => e = .returned (.bool (sameI u xs)) ∧ ∃ m, w.drewN m = w' := by
  have H := Lib.hid h
  have HG := Lib.hid hgood
  have HL := Lib.hid hr.int_len
  clear h hgood
  go_enter Tryz.func21, Tryz.ntmps21
  go_wp2_with fail
  go_loopw [6, 11] (fun _ i wr => ∃ k m : Nat, k ≤ n ∧ i = .int .i64 k ∧ wr = w.drewN m ∧ ∀ x ∈ xs.take k, inU u x = true ∧ headI u x = headI u (xs.headD 0)) (fun _ i _ => n - (intOf i).toNat)
  case atStart => exact ⟨0, 0, Nat.zero_le _, rfl, rfl, by simp⟩
  case round =>
    obtain ⟨k, m, hk, rfl, rfl, hall⟩ := hrel
    have HALL := Lib.hid hall
    clear hall
    by_cases hlt : k < n
    · obtain ⟨ad, x, rfl, _, hx, hc⟩ := hr.int hlt
      obtain ⟨ad', x0, e2, _, hx0, hc0⟩ := hr.int (show 0 < n by omega)
      injection e2 with e2
      subst e2
      have had0 : ad.add 0 = ad := by unfold Addr.add; simp
      rw [had0] at hc0
      have hh0 : xs.headD 0 = x0 := by rw [List.headD_eq_head?_getD, List.head?_eq_getElem?, hx0]; rfl
      have HH := Lib.hid hh0
      have HTK := Lib.hid (show xs.take (k + 1) = xs.take k ++ [x] from by rw [List.take_add_one, hx]; rfl)
      have HM := Lib.hid (List.mem_of_getElem? hx)
      clear hx hx0 had0 hh0
      have HR := Lib.hid (H.out.drewN m)
      replace hc : (w.drewN m).cell? (ad.add k) = some (.int .i64 x) := hc
      replace hc0 : (w.drewN m).cell? ad = some (.int .i64 x0) := hc0
      have hnx : ¬ n = 0 := by omega
      have HW : Hid (∃ m', w.drewN m = w.drewN m') := Lib.hid ⟨m, rfl⟩
      clear hr
      generalize w.drewN m = wr at *
      by_cases hi : inU u x = true
      · have HI := Lib.hid hi
        clear hi
        have HX0 := Lib.hid (show headI u x0 = headI u (xs.headD 0) from by rw [HH.out])
        have QI := Lib.hid (quiet_is HR.out HI.out)
        have QH := Lib.hid (quiet_head HR.out HG.out hbig)
        by_cases he : headI u x = headI u x0
        · have HE := Lib.hid he
          have hb1 : (headI u x != headI u x0) = false := by simp [he]
          clear he
          go_wp2_with fail
          go_quiet (first | exact QI.out _ | exact QH.out _ _)
          go_wp2_with fail
          go_roundw
          case rel =>
            obtain ⟨m', hm'⟩ := HW.out
            refine ⟨k + 1, m' + nq, by omega, by go_num, by rw [hm', World.drewN_drewN], ?_⟩
            intro y hy
            rw [HTK.out, List.mem_append] at hy
            rcases hy with hy | hy
            · exact HALL.out y hy
            · simp at hy; subst hy; exact ⟨HI.out, HE.out.trans HX0.out⟩
          case measure => simp [intOf]; omega
        · have HE := Lib.hid he
          have hb1 : (headI u x != headI u x0) = true := by simp [he]
          clear he
          go_wp2_with fail
          go_quiet (first | exact QI.out _ | exact QH.out _ _)
          go_wp2_with fail
          go_ret
          obtain ⟨m', hm'⟩ := HW.out
          refine ⟨ret_bool ?_, m' + nq, by rw [hm', World.drewN_drewN]⟩
          symm
          unfold sameI
          rw [Bool.eq_false_iff]
          intro hall
          have := (List.all_eq_true.1 hall) x HM.out
          rw [Bool.and_eq_true, beq_iff_eq] at this
          exact HE.out (this.2.trans HX0.out.symm)
      · have HI := Lib.hid (show inU u x = false from by simpa using hi)
        clear hi
        have QI := Lib.hid (quiet_is HR.out HI.out)
        have QH := Lib.hid (quiet_head HR.out HG.out hbig)
        go_wp2_with fail
        go_quiet (first | exact QI.out _ | exact QH.out _ _)
        go_wp2_with fail
        go_ret
        obtain ⟨m', hm'⟩ := HW.out
        refine ⟨ret_bool ?_, m' + nq, by rw [hm', World.drewN_drewN]⟩
        symm
        unfold sameI
        rw [Bool.eq_false_iff]
        intro hall
        have := (List.all_eq_true.1 hall) x HM.out
        rw [Bool.and_eq_true] at this
        rw [HI.out] at this
        exact absurd this.1 (by decide)
    · go_wp2_with fail
      go_ret
      refine ⟨ret_bool ?_, m, rfl⟩
      symm
      unfold sameI
      rw [List.all_eq_true]
      intro y hy
      obtain ⟨a1, a2⟩ := HALL.out y (by rw [List.take_of_length_le (by have := HL.out; omega)]; exact hy)
      rw [Bool.and_eq_true, beq_iff_eq]
      exact ⟨a1, a2⟩
theorem same_nil (L : Option Addr) (n cl : Nat) (w : World) : Calls Tryz.prog 21 #[.pointer none, .slice L n cl] w fun e w' => e = .returned (.bool false) ∧ w = w' := by
  go_enter Tryz.func21, Tryz.ntmps21
  go_wp2
  go_ret
  exact ⟨rfl, rfl⟩
end

section
set_option maxRecDepth 100000
open Go.RowKit

theorem Reads.up {w : World} {B B' size n : Nat} {A : Option Addr} {xs : List Value} (h : Reads w B size A n xs) (hB : B ≤ B') : Reads w B' size A n xs :=
  ⟨h.1, fun h0 => by obtain ⟨ad, e, hb, hc⟩ := h.2 h0; exact ⟨ad, e, Nat.lt_of_lt_of_le hb hB, hc⟩⟩

def ClassN (w : World) (xs : List Nat) (e : Ending) (w' : World) : Prop :=
  ∃ L cap, e = .returned (.slice L xs.length cap) ∧ w'.ownsRow w.heap.size 3 1 (.slice L xs.length cap) xs.length (nats xs) ∧ Below w.heap.size w w'

theorem class_out (b : Nat) (A : Option Addr) (c : Nat) (u : List Nat) (i : Int) (w : World) (h : UfR w b A c u) (hi : inU u i = false) :
    Calls Tryz.prog 15 #[.pointer (some ⟨b, 0, none⟩), .int .i64 i] w fun e w' => e = .returned (.slice none 0 0) ∧ w = w' := by
  have HI := Lib.hid hi
  clear hi
  go_enter Tryz.func15, Tryz.ntmps15
  go_wp2_with fail
  refine (is_any b A c u i _ h).mono ?_
  rw [HI.out]
  rintro en w1 ⟨rfl, rfl⟩
  go_wp2_with fail
  go_ret
  exact ⟨rfl, rfl⟩
theorem class_nil (i : Int) (w : World) : Calls Tryz.prog 15 #[.pointer none, .int .i64 i] w fun e w' => e = .returned (.slice none 0 0) ∧ w = w' := by
  go_enter Tryz.func15, Tryz.ntmps15
  go_wp2_with fail
  refine (is_nil i _).mono ?_
  rintro en w1 ⟨rfl, rfl⟩
  go_wp2_with fail
  go_ret
  exact ⟨rfl, rfl⟩

/-- the numbers below j that are in h's class -/
def clsTo (u : List Nat) (h j : Nat) : List Nat := (List.range' 1 (j - 1)).filter fun x => decide (Uf.hd u x = h)
theorem clsTo_succ (u : List Nat) (h j : Nat) (hj : 1 ≤ j) : clsTo u h (j + 1) = clsTo u h j ++ if Uf.hd u j = h then [j] else [] := by
  unfold clsTo
  obtain ⟨k, rfl⟩ : ∃ k, j = k + 1 := ⟨j - 1, by omega⟩
  rw [Nat.add_sub_cancel, Nat.add_sub_cancel, List.range'_concat, List.filter_append]
  congr 1
  have : 1 + 1 * k = k + 1 := by omega
  rw [this]
  by_cases e : Uf.hd u (k + 1) = h <;> simp [e]
theorem clsTo_none {u : List Nat} (g : Uf.Good u) (h : Nat) (hh : h ≤ u.length) : clsTo u h h = [] := by
  unfold clsTo
  rw [List.filter_eq_nil_iff]
  intro x hx
  rw [List.mem_range'_1] at hx
  have := (Uf.hd_spec g x (by omega) (by omega)).2.1
  simp; omega
theorem clsTo_length (u : List Nat) (h j : Nat) : (clsTo u h j).length ≤ j - 1 := by
  unfold clsTo
  refine Nat.le_trans (List.length_filter_le _ _) ?_
  simp

theorem class_in (b : Nat) (A : Option Addr) (c : Nat) (u : List Nat) (i : Nat) (w : World) (h : UfR w b A c u) (hb : b < w.heap.size) (hgood : Uf.Good u) (hbig : u.length ≤ 1000) (hi : 1 ≤ i ∧ i ≤ u.length) :
    Calls Tryz.prog 15 #[.pointer (some ⟨b, 0, none⟩), .int .i64 i] w (ClassN w (Uf.cls u (Uf.hd u i))) := by
  obtain ⟨i0, hi0, hz0, hz1, hz2⟩ := info_parts int_info
  have H := Lib.hid h
  have HG := Lib.hid hgood
  have HIN := Lib.hid (show inU u (i : Int) = true from by simp [inU]; omega)
  have HHD := Lib.hid (headI_nat hi)
  have hsp := Uf.hd_spec hgood i hi.1 hi.2
  obtain ⟨p1, p2, _⟩ := hsp
  have hh0 := clsTo_none hgood (Uf.hd u i) (by omega)
  have HH0 := Lib.hid hh0
  clear h hgood hh0
  generalize hp : Uf.hd u i = p at *
  have HP := Lib.hid hp
  clear hp
  generalize hn : u.length = n at *
  have HN := Lib.hid hn
  clear hn
  go_enter Tryz.func15, Tryz.ntmps15
  go_wp2_with fail
  refine (is_any b A c u _ _ H.out).mono ?_
  rw [HIN.out]
  rintro en w1 ⟨rfl, rfl⟩
  go_wp2_with fail
  refine (head_any b A c u _ _ H.out HG.out (by have := HN.out; omega)).mono ?_
  rw [HHD.out]
  rintro en w1 ⟨rfl, rfl⟩
  go_wp2_with fail
  go_loopw [5, 7] (fun ov jv wr => ∃ (j : Nat) (L : Option Addr) (cap : Nat), p ≤ j ∧ j ≤ n + 1 ∧ jv = .int .i64 j ∧ ov = .slice L (clsTo u p j).length cap ∧ wr.ownsRow w.heap.size 3 1 (.slice L (clsTo u p j).length cap) (clsTo u p j).length (nats (clsTo u p j)) ∧ Below w.heap.size w wr) (fun _ jv _ => n + 1 - (intOf jv).toNat)
  case atStart =>
    refine ⟨p, none, 0, Nat.le_refl _, by omega, rfl, ?_, ?_, Below.refl _ _⟩
    · rw [HH0.out]; rfl
    · rw [HH0.out]; exact World.ownsRow_nil _ _ _ _
  case round =>
    obtain ⟨j, L, cap, j1, j2, rfl, rfl, hown, hbel⟩ := hrel
    have hsucc := clsTo_succ u p j (by omega)
    have hlen := clsTo_length u p j
    have HOWN := Lib.hid hown
    have HS := Lib.hid hsucc
    have HB := Lib.hid hbel
    have hR : UfR wr b A c u := ⟨by rw [← H.out.cell]; exact World.cell?_of_block (hbel.block _ hb), (H.out.reads.below hbel).up hbel.size⟩
    have HR := Lib.hid hR
    have hcell := hR.cell
    have hN := HN.out
    rw [hN] at hcell
    clear hown hsucc hbel hR hN
    by_cases hlt : j ≤ n
    · have hj : 1 ≤ j ∧ j ≤ u.length := by rw [HN.out]; omega
      have HJ := Lib.hid (headI_nat hj)
      clear hj
      generalize clsTo u p j = xs at *
      generalize hxl : xs.length = m at *
      have HXL := Lib.hid hxl
      clear hxl
      generalize hysq : clsTo u p (j + 1) = ys at *
      have HYS := Lib.hid hysq
      clear hysq
      by_cases hq : Uf.hd u j = p
      · have hS := HS.out
        rw [if_pos hq] at hS
        have HS' := Lib.hid hS
        have HQ := Lib.hid hq
        clear HS hS hq
        go_wp2_with fail
        refine (head_any b A c u _ _ HR.out HG.out (by have := HN.out; omega)).mono ?_
        rw [HJ.out, HQ.out]
        rintro en w1 ⟨rfl, rfl⟩
        go_wp2_with (at_builtin; refine wpList_append_lies _ rfl (.tmp 30) (.tmp 32) 31 rfl w.heap.size 3 i0 (.int .i64 0) 1 8 Tryz.underlying31 hi0 hz0 hz1 hz2 rfl (by omega) (.slice L m cap) m (nats xs) rfl (by exact HOWN.out.alloc _) ⟨wr.heap.size, 0, none⟩ 1 1 [.int .i64 (j : Int)] rfl rfl (by exact cell_one_new _ _ _) (by simp [Value.oneCell']) (by omega) (by unfold maxLen; omega) (by omega) (by have := HB.out.size; simp; omega) (wr.heap.size + 1) (by simp) ?_; intro g2 c2 w2 hown2 hg2 hat2 hlt2; have HO2 := Lib.hid hown2; have HG2 := Lib.hid hg2; clear hown2 hg2 hat2)
        go_roundw
        case rel =>
          have hys : ys.length = m + 1 := by rw [HS'.out, List.length_append, HXL.out]; rfl
          have hyn : nats ys = nats xs ++ [.int .i64 (j : Int)] := by rw [HS'.out, nats_append]; rfl
          refine ⟨j + 1, some ⟨g2, 0, none⟩, c2, by omega, by omega, by go_num, by rw [HYS.out, hys], by rw [HYS.out, hys, hyn]; exact HO2.out, ?_⟩
          have := (((Keeps.of_below HB.out []).alloc (.cells #[.int .i64 (j : Int)] 3)).grown HG2.out (fun k hk => .inr (HOWN.out.lt k hk).1))
          exact this.below (by simp) (Nat.le_refl _)
        case measure => simp [intOf]; omega
      · have hS := HS.out
        rw [if_neg hq] at hS
        have HS' := Lib.hid hS
        have hb1 : ((Uf.hd u j : Int) == (p : Int)) = false := by simp; omega
        clear HS hS
        go_wp2_with fail
        refine (head_any b A c u _ _ HR.out HG.out (by have := HN.out; omega)).mono ?_
        rw [HJ.out]
        rintro en w1 ⟨rfl, rfl⟩
        go_wp2_with fail
        go_roundw
        case rel =>
          have e := HS'.out
          rw [List.append_nil] at e
          exact ⟨j + 1, L, cap, by omega, by omega, by go_num, by rw [HYS.out, e, HXL.out], by rw [HYS.out, e, HXL.out]; exact HOWN.out, HB.out⟩
        case measure => simp [intOf]; omega
    · have hjn : j = n + 1 := by omega
      have e : clsTo u p j = Uf.cls u p := by unfold clsTo Uf.cls; rw [hjn, HN.out]; rfl
      rw [e] at HOWN ⊢
      clear e
      go_wp2_with fail
      go_ret
      exact ⟨L, cap, rfl, HOWN.out, HB.out⟩
end

section
set_option maxRecDepth 100000
open Go.RowKit

theorem row_info : (Tryz.prog.info? 31).map (fun i => (i.zero, i.size, i.bytes)) = some (some (.slice none 0 0), 1, 24) := by kernel_rfl
theorem own_base {w : World} {base base' : Nat} {e : TypeId} {size n : Nat} {v : Value} {xs : List Value} (h : w.ownsRow base e size v n xs) (hb : base' ≤ base) : w.ownsRow base' e size v n xs := by
  refine ⟨h.1, ?_⟩
  rcases h.2 with h2 | ⟨g, cap, cur, rfl, hb2, r⟩
  · exact .inl h2
  · exact .inr ⟨g, cap, cur, rfl, Nat.le_trans hb hb2, r⟩
/-- rows of two kinds of elements do not lie in one block -/
theorem own_own_ne {w : World} {base base' : Nat} {e e' : TypeId} {size n size' n' : Nat} {v v' : Value} {xs xs' : List Value} (h : w.ownsRow base e size v n xs) (h' : w.ownsRow base' e' size' v' n' xs') (hne : e ≠ e') (g : Nat) (hg : v.ownBlock = some g) : v'.ownBlock ≠ some g := by
  intro hg'
  rcases h.2 with ⟨rfl, _⟩ | ⟨g1, cap, cur, rfl, _, h1, _⟩
  · simp [Value.ownBlock] at hg
  · rcases h'.2 with ⟨rfl, _⟩ | ⟨g2, cap2, cur2, rfl, _, h2, _⟩
    · simp [Value.ownBlock] at hg'
    · simp [Value.ownBlock] at hg hg'
      subst hg hg'
      rw [h1] at h2
      injection h2 with h2
      injection h2 with _ h2
      exact hne h2

/-- Rows of numbers that the call owns, held by the values vs. -/
def Inner (w : World) (base : Nat) (vs : List Value) (xss : List (List Nat)) : Prop :=
  vs.length = xss.length ∧ ∀ (i : Nat) (xs : List Nat), xss[i]? = some xs → ∃ (L : Option Addr) (cap : Nat), vs[i]? = some (Value.slice L xs.length cap) ∧ w.ownsRow base 3 1 (.slice L xs.length cap) xs.length (nats xs)
theorem Inner.nil (w : World) (base : Nat) : Inner w base [] [] := ⟨rfl, by simp⟩
theorem Inner.snoc {w : World} {base : Nat} {vs : List Value} {xss : List (List Nat)} (h : Inner w base vs xss) {L : Option Addr} {cap : Nat} {xs : List Nat} (hx : w.ownsRow base 3 1 (.slice L xs.length cap) xs.length (nats xs)) :
    Inner w base (vs ++ [Value.slice L xs.length cap]) (xss ++ [xs]) := by
  refine ⟨by simp [h.1], fun i ys hi => ?_⟩
  rcases Nat.lt_or_ge i xss.length with hl | hl
  · rw [List.getElem?_append_left hl] at hi
    rw [List.getElem?_append_left (by rw [h.1]; exact hl)]
    exact h.2 i ys hi
  · rw [List.getElem?_append_right hl] at hi
    rw [List.getElem?_append_right (by rw [h.1]; exact hl), h.1]
    obtain ⟨k, hk⟩ : ∃ k, i - xss.length = k := ⟨_, rfl⟩
    rw [hk] at hi ⊢
    match k, hi with
    | 0, hi => simp at hi; subst hi; exact ⟨L, cap, rfl, hx⟩
    | k + 1, hi => simp at hi
theorem Inner.keeps {w w' : World} {base : Nat} {vs : List Value} {xss : List (List Nat)} {T : List Nat} (h : Inner w base vs xss) (hk : Keeps T w w') (hT : ∀ (i : Nat) (xs : List Nat) (L : Option Addr) (cap : Nat), xss[i]? = some xs → w.ownsRow base 3 1 (.slice L xs.length cap) xs.length (nats xs) → ∀ g, (Value.slice L xs.length cap).ownBlock = some g → g ∉ T) : Inner w' base vs xss :=
  ⟨h.1, fun i xs hi => by
    obtain ⟨L, cap, e, ho⟩ := h.2 i xs hi
    exact ⟨L, cap, e, own_keeps ho hk (fun g hg => hT i xs L cap hi ho g hg)⟩⟩

/-- What is read of a list of lists that lies in blocks from base on. -/
structure RowsR (w : World) (B base : Nat) (L : Option Addr) (xss : List (List Nat)) : Prop where
  outer : ∃ vs : List Value, Reads w B 1 L xss.length vs ∧ (∀ ad, L = some ad → base ≤ ad.block) ∧ ∀ (i : Nat) (xs : List Nat), xss[i]? = some xs → ∃ (A : Option Addr) (cap : Nat), vs[i]? = some (Value.slice A xs.length cap) ∧ xs.length ≤ cap ∧ cap ≤ maxLen ∧ Reads w B 1 A xs.length (nats xs) ∧ ∀ ad, A = some ad → base ≤ ad.block
theorem RowsR.keeps {w w' : World} {B base : Nat} {L : Option Addr} {xss : List (List Nat)} {T : List Nat} (h : RowsR w B base L xss) (hk : Keeps T w w') (hB : B ≤ w.heap.size) (hT : ∀ x ∈ T, x < base) : RowsR w' B base L xss := by
  obtain ⟨vs, hr, hb, hrow⟩ := h
  refine ⟨vs, hr.keepsFar hk hB (fun ad e _ hm => by have := hb ad e; have := hT _ hm; omega), hb, fun i xs hx => ?_⟩
  obtain ⟨A, cap, h1, h2, h3, h4, h5⟩ := hrow i xs hx
  exact ⟨A, cap, h1, h2, h3, h4.keepsFar hk hB (fun ad e _ hm => by have := h5 ad e; have := hT _ hm; omega), h5⟩
theorem RowsR.drewN {w : World} {B base : Nat} {L : Option Addr} {xss : List (List Nat)} (h : RowsR w B base L xss) (n : Nat) : RowsR (w.drewN n) B base L xss := ⟨h.outer⟩
/-- one of the lists -/
theorem RowsR.row {w : World} {B base : Nat} {L : Option Addr} {xss : List (List Nat)} (h : RowsR w B base L xss) {k : Nat} (hk : k < xss.length) :
    ∃ ad A cap, L = some ad ∧ w.cell? (ad.add k) = some (.slice A (xss.getD k []).length cap) ∧ Reads w B 1 A (xss.getD k []).length (nats (xss.getD k [])) ∧ (xss.getD k []).length ≤ cap ∧ cap ≤ maxLen := by
  obtain ⟨vs, hr, _, hrow⟩ := h
  obtain ⟨ad, u, e, _, hu, hc⟩ := hr.at_ hk
  have hx : xss[k]? = some (xss.getD k []) := by rw [List.getD_eq_getElem?_getD, List.getElem?_eq_getElem hk]; rfl
  obtain ⟨A, cap, h1, h2, h3, h4, _⟩ := hrow k _ hx
  rw [h1] at hu
  injection hu with hu
  subst hu
  exact ⟨ad, A, cap, e, hc, h4, h2, h3⟩

def ClassesN (w : World) (xss : List (List Nat)) (e : Ending) (w' : World) : Prop :=
  ∃ L cap, e = .returned (.slice L xss.length cap) ∧ RowsR w' w'.heap.size w.heap.size L xss ∧ Below w.heap.size w w'

/-- the heads below i -/
def headsTo (u : List Nat) (i : Nat) : List Nat := (List.range' 1 (i - 1)).filter fun x => decide (Uf.hd u x = x)
theorem headsTo_succ (u : List Nat) (j : Nat) (hj : 1 ≤ j) : headsTo u (j + 1) = headsTo u j ++ if Uf.hd u j = j then [j] else [] := by
  unfold headsTo
  obtain ⟨k, rfl⟩ : ∃ k, j = k + 1 := ⟨j - 1, by omega⟩
  rw [Nat.add_sub_cancel, Nat.add_sub_cancel, List.range'_concat, List.filter_append]
  congr 1
  have : 1 + 1 * k = k + 1 := by omega
  rw [this]
  by_cases e : Uf.hd u (k + 1) = k + 1 <;> simp [e]
theorem headsTo_length (u : List Nat) (j : Nat) : (headsTo u j).length ≤ j - 1 := by
  unfold headsTo
  refine Nat.le_trans (List.length_filter_le _ _) ?_
  simp

theorem classes_nil (w : World) : Calls Tryz.prog 16 #[.pointer none] w fun e w' => e = .returned (.slice none 0 0) ∧ w = w' := by
  go_enter Tryz.func16, Tryz.ntmps16
  go_wp2_with fail
  go_loop [3, 4] (fun ov iv => ov = .slice none 0 0 ∧ iv = .int .i64 1) (fun _ _ => 0)
  case atStart => exact ⟨rfl, rfl⟩
  case round =>
    obtain ⟨rfl, rfl⟩ := hrel
    go_wp2_with fail
    refine (is_nil _ _).mono ?_
    rintro en w1 ⟨rfl, rfl⟩
    go_wp2_with fail
    go_ret
    exact ⟨rfl, rfl⟩

theorem own_from {w : World} {base : Nat} {e : TypeId} {size n k cap : Nat} {L : Option Addr} {xs : List Value} (h : w.ownsRow base e size (.slice L k cap) n xs) : ∀ ad, L = some ad → base ≤ ad.block := by
  intro ad e
  subst e
  exact (h.lt ad.block (by simp [Value.ownBlock])).1
theorem rows_ofU {w : World} {base : Nat} {L : Option Addr} {cap : Nat} {vs : List Value} {xss : List (List Nat)}
    (h : w.ownsRow base 31 1 (.slice L xss.length cap) xss.length vs) (hi : Inner w base vs xss) : RowsR w w.heap.size base L xss :=
  ⟨vs, Reads.of_own h, own_from h, fun i xs hx => by
    obtain ⟨A, c, e, ho⟩ := hi.2 i xs hx
    refine ⟨A, c, e, ?_, ?_, Reads.of_own ho, own_from ho⟩
    · rcases ho.2 with ⟨h1, h2⟩ | ⟨g, cp, cur, h1, _, _, h2, h3, _⟩
      · injection h1 with _ h1 h3; omega
      · injection h1 with _ h1 h3; omega
    · rcases ho.2 with ⟨h1, h2⟩ | ⟨g, cp, cur, h1, _, _, h2, h3, _⟩
      · injection h1 with _ h1 h4; unfold maxLen; omega
      · injection h1 with _ h1 h4; omega⟩

set_option maxHeartbeats 1000000 in
theorem classes_in (b : Nat) (A : Option Addr) (c : Nat) (u : List Nat) (w : World) (h : UfR w b A c u) (hb : b < w.heap.size) (hgood : Uf.Good u) (hbig : u.length ≤ 1000) :
    Calls Tryz.prog 16 #[.pointer (some ⟨b, 0, none⟩)] w (ClassesN w (Uf.classes u)) := by
  obtain ⟨i0, hi0, hz0, hz1, hz2⟩ := info_parts row_info
  have H := Lib.hid h
  have HG := Lib.hid hgood
  clear h hgood
  generalize hn : u.length = n at *
  have HN := Lib.hid hn
  clear hn
  go_enter Tryz.func16, Tryz.ntmps16
  go_wp2_with fail
  go_loopw [3, 4] (fun ov jv wr => ∃ (j : Nat) (L : Option Addr) (cap : Nat) (vs : List Value), 1 ≤ j ∧ j ≤ n + 1 ∧ jv = .int .i64 j ∧ ov = .slice L (headsTo u j).length cap ∧ wr.ownsRow w.heap.size 31 1 (.slice L (headsTo u j).length cap) (headsTo u j).length vs ∧ Inner wr w.heap.size vs ((headsTo u j).map (Uf.cls u)) ∧ Below w.heap.size w wr) (fun _ jv _ => n + 1 - (intOf jv).toNat)
  case atStart =>
    exact ⟨1, none, 0, [], Nat.le_refl _, by omega, rfl, rfl, World.ownsRow_nil _ _ _ _, Inner.nil _ _, Below.refl _ _⟩
  case round =>
    obtain ⟨j, L, cap, vs, j1, j2, rfl, rfl, hown, hinn, hbel⟩ := hrel
    have hsucc := headsTo_succ u j j1
    have hlen := headsTo_length u j
    have HOWN := Lib.hid hown
    have HINN := Lib.hid hinn
    have HS := Lib.hid hsucc
    have HB := Lib.hid hbel
    have hR : UfR wr b A c u := ⟨by rw [← H.out.cell]; exact World.cell?_of_block (hbel.block _ hb), (H.out.reads.below hbel).up hbel.size⟩
    have HR := Lib.hid hR
    have hbw : b < wr.heap.size := by have := hbel.size; omega
    clear hown hsucc hbel hR hinn
    by_cases hlt : j ≤ n
    · have hj : 1 ≤ j ∧ j ≤ u.length := by rw [HN.out]; omega
      have HJ := Lib.hid (headI_nat hj)
      have HJI := Lib.hid hj
      have HIN := Lib.hid (show inU u (j : Int) = true from by simp [inU]; omega)
      clear hj
      generalize headsTo u j = xs at *
      generalize hxl : xs.length = m at *
      have HXL := Lib.hid hxl
      clear hxl
      generalize hysq : headsTo u (j + 1) = ys at *
      have HYS := Lib.hid hysq
      clear hysq
      by_cases hq : Uf.hd u j = j
      · have hS := HS.out
        rw [if_pos hq] at hS
        have HS' := Lib.hid hS
        have HQ := Lib.hid hq
        clear HS hS hq
        go_wp2_with fail
        refine (is_any b A c u _ _ HR.out).mono ?_
        rw [HIN.out]
        rintro en w1 ⟨rfl, rfl⟩
        go_wp2_with fail
        refine (head_any b A c u _ _ HR.out HG.out (by have := HN.out; omega)).mono ?_
        rw [HJ.out, HQ.out]
        rintro en w1 ⟨rfl, rfl⟩
        go_wp2_with fail
        refine (class_in b A c u j _ HR.out hbw HG.out (by rw [HN.out]; exact hbig) HJI.out).mono ?_
        rw [HQ.out]
        rintro en w1 ⟨L1, cap1, rfl, hown1, hb1⟩
        have HO1 := Lib.hid hown1
        have HB1 := Lib.hid hb1
        have hsz := hb1.size
        have HSZ := Lib.hid (show w.heap.size ≤ wr.heap.size from HB.out.size)
        have hown' := own_keeps HOWN.out (Keeps.of_below hb1 []) (by simp)
        have HOWN1 := Lib.hid hown'
        have hinn' := HINN.out.keeps (Keeps.of_below hb1 []) (by simp)
        have HINN1 := Lib.hid hinn'
        generalize hcl : Uf.cls u j = cl at *
        have HCL := Lib.hid hcl
        generalize hcn : cl.length = cn at *
        have HCN := Lib.hid hcn
        clear hown1 hb1 hown' hinn' hcl hcn
        go_wp2_with (at_builtin; refine wpList_append_lies _ rfl (.tmp 15) (.tmp 19) 39 rfl w.heap.size 31 i0 (.slice none 0 0) 1 24 Tryz.underlying39 hi0 hz0 hz1 hz2 rfl (by omega) (.slice L m cap) m vs rfl (by exact HOWN1.out.alloc _) ⟨w1.heap.size, 0, none⟩ 1 1 [.slice L1 cn cap1] rfl rfl (by exact cell_one_new _ _ _) (by simp [Value.oneCell']) (by omega) (by unfold maxLen; omega) (by omega) (by have := HB.out.size; have := HB1.out.size; simp; omega) (w1.heap.size + 1) (by simp) ?_; intro g2 c2 w2 hown2 hg2 hat2 hlt2; have HO2 := Lib.hid hown2; have HG2 := Lib.hid hg2; clear hown2 hg2 hat2)
        go_roundw
        case rel =>
          have hys : ys.length = m + 1 := by rw [HS'.out, List.length_append, HXL.out]; rfl
          have hk : Keeps [] wr w1 := Keeps.of_below HB1.out []
          have hkk : ∀ T, (∀ k, (Value.slice L m cap).ownBlock = some k → k ∈ T) → Keeps T w1 w2 := fun T hT => ((Keeps.refl T w1).alloc (.cells #[.slice L1 cn cap1] 31)).grown HG2.out (fun k hk => .inl (hT k hk))
          have hb2 : Below w.heap.size w w2 := by
            have := ((((Keeps.of_below HB.out []).trans hk (by simp))).alloc (.cells #[.slice L1 cn cap1] 31)).grown HG2.out (fun k hk => .inr (HOWN.out.lt k hk).1)
            exact this.below (by simp) (Nat.le_refl _)
          refine ⟨j + 1, some ⟨g2, 0, none⟩, c2, vs ++ [.slice L1 cn cap1], by omega, by omega, by go_num, by rw [HYS.out, hys], by rw [HYS.out, hys]; exact HO2.out, ?_, hb2⟩
          rw [HYS.out, HS'.out, List.map_append]
          have hin2 : Inner w1 w.heap.size (vs ++ [Value.slice L1 cl.length cap1]) (xs.map (Uf.cls u) ++ [cl]) := by
            refine HINN1.out.snoc ?_
            rw [HCN.out]
            exact own_base HO1.out HSZ.out
          rw [HCN.out] at hin2
          have e : List.map (Uf.cls u) [j] = [cl] := by rw [← HCL.out]; rfl
          rw [e]
          exact hin2.keeps (hkk ((Value.slice L m cap).ownBlock.toList) (by simp)) (fun i ys' L' cap' _ ho g hg hmem => own_own_ne ho HOWN1.out (by decide) g hg (by simpa using hmem))
        case measure => simp [intOf]; omega
      · have hS := HS.out
        rw [if_neg hq] at hS
        have HS' := Lib.hid hS
        have hb1 : ((Uf.hd u j : Int) == (j : Int)) = false := by simp; omega
        clear HS hS
        go_wp2_with fail
        refine (is_any b A c u _ _ HR.out).mono ?_
        rw [HIN.out]
        rintro en w1 ⟨rfl, rfl⟩
        go_wp2_with fail
        refine (head_any b A c u _ _ HR.out HG.out (by have := HN.out; omega)).mono ?_
        rw [HJ.out]
        rintro en w1 ⟨rfl, rfl⟩
        go_wp2_with fail
        go_roundw
        case rel =>
          have e := HS'.out
          rw [List.append_nil] at e
          exact ⟨j + 1, L, cap, vs, by omega, by omega, by go_num, by rw [HYS.out, e, HXL.out], by rw [HYS.out, e, HXL.out]; exact HOWN.out, by rw [HYS.out, e]; exact HINN.out, HB.out⟩
        case measure => simp [intOf]; omega
    · have hjn : j = n + 1 := by omega
      have e : (headsTo u j).map (Uf.cls u) = Uf.classes u := by unfold headsTo Uf.classes Uf.heads; rw [hjn, HN.out]; rfl
      have el : (headsTo u j).length = (Uf.classes u).length := by rw [← e, List.length_map]
      rw [e] at HINN
      rw [el] at HOWN ⊢
      have HNO := Lib.hid (show inU u (j : Int) = false from by have := HN.out; simp [inU]; omega)
      clear e el hjn
      generalize hkk : (Uf.classes u).length = kk at *
      have HKK := Lib.hid hkk
      clear hkk
      go_wp2_with fail
      refine (is_any b A c u _ _ HR.out).mono ?_
      rw [HNO.out]
      rintro en w1 ⟨rfl, rfl⟩
      go_wp2_with fail
      go_ret
      have ho := HOWN.out
      rw [← HKK.out] at ho
      exact ⟨L, cap, by rw [HKK.out]; rfl, rows_ofU ho HINN.out, HB.out⟩
end
end Go.Proofs.YtedfbdeklepekaaGreat
