/-
  The contract of the reference's Digits.
-/
import Derived.Test.YtkokgdebahgbdaaAppAny
import Derived.Test.YtkokgdebahgbdaaMoneyDig
import Derived.IntWalk
namespace Go.Proofs.Ytkokgdebahgbdaa
open Go.RowKit

theorem ret_str {a b : ByteArray} (h : a = b) : Ending.returned (.string a) = .returned (.string b) := by rw [h]
theorem u8_info : (Try.prog.info? 5).map (fun i => (i.zero, i.size, i.bytes)) = some (some (.int .u8 0), 1, 1) := by kernel_rfl
theorem own_one (w : World) (t : TypeId) (u : Value) (base : Nat) (hb : base ≤ w.heap.size) : (w.alloc (.cells #[u] t)).ownsRow base t 1 (.slice (some ⟨w.heap.size, 0, none⟩) 1 1) 1 [u] :=
  ⟨rfl, .inr ⟨_, 1, _, rfl, hb, heap_alloc_new w _, Nat.le_refl _, by unfold maxLen; omega, rfl, rfl⟩⟩
theorem bytesV_one (l : List UInt8) : ∀ u ∈ bytesV l, u.oneCell' = true := by
  intro u hu
  unfold bytesV at hu
  rw [List.mem_map] at hu
  obtain ⟨c, _, rfl⟩ := hu
  rfl
/-- a row of bytes as a string -/
theorem conv_row {w : World} {base cap : Nat} {g : Nat} {l : List UInt8} (h : w.ownsRow base 5 1 (.slice (some ⟨g, 0, none⟩) l.length cap) l.length (bytesV l)) :
    (convert 65 9 (.slice (some ⟨g, 0, none⟩) l.length cap)).run Try.prog w = .ok (.string ⟨l.toArray⟩) w :=
  run_convert_bytes_back w 65 9 5 ⟨g, 0, none⟩ cap l Try.underlying65 Try.underlying5 Try.underlying9 (fun i hi =>
    h.cells (g := g) rfl i _ (by rw [bytesV, List.getElem?_map, List.getElem?_eq_getElem hi]; rfl))

def dg0 (m : Nat) : List UInt8 := if m = 0 then [] else digs m
theorem dg0_step {m : Nat} (h : 0 < m) : dg0 m = dg0 (m / 10) ++ [(48 + m % 10).toUInt8] := by
  unfold dg0
  rw [if_neg (by omega)]
  by_cases h10 : 10 ≤ m
  · rw [if_neg (by omega), digs_step h10]
  · rw [if_pos (by omega), digs_small (by omega)]
    have : m % 10 = m := by omega
    rw [this]
    rfl

theorem dig_rel {w2 : World} {base : Nat} {v2 : Value} {ds : List UInt8} {c : UInt8} {x : Int} (h : w2.ownsRow base 5 1 v2 (1 + ds.length) ([.int .u8 x] ++ bytesV ds)) (hc : (c.toNat : Int) = x) :
    ∃ g cap, v2 = .slice (some ⟨g, 0, none⟩) (c :: ds).length cap ∧ w2.ownsRow base 5 1 (.slice (some ⟨g, 0, none⟩) (c :: ds).length cap) (c :: ds).length (bytesV (c :: ds)) := by
  have e1 : 1 + ds.length = (c :: ds).length := by simp; omega
  have e2 : [.int .u8 x] ++ bytesV ds = bytesV (c :: ds) := by simp [bytesV, hc]
  rw [e1, e2] at h
  obtain ⟨g, cap, rfl, _⟩ := h.form (by simp)
  exact ⟨g, cap, rfl, h⟩
theorem dig_below {w wr w2 : World} {o : Obj} (hb : Below w.heap.size w wr) (hg : (wr.alloc o).grownBy w2 (Value.slice (some ⟨wr.heap.size, 0, none⟩) 1 1).ownBlock) : Below w.heap.size w w2 :=
  (hb.alloc hb.size o).grown hg (by have := hb.size; simp; omega) (fun k hk => by simp [Value.ownBlock] at hk; have := hb.size; omega)

set_option maxHeartbeats 2000000 in
theorem r_digits_pos (n : Nat) (h0 : 0 < n) (hn : n ≤ 9223372036854775807) (w : World) :
    Calls Try.prog 26 #[.int .i64 ((n : Nat) : Int)] w fun e w' => e = .returned (.string ⟨(digs n).toArray⟩) ∧ Below w.heap.size w w' := by
  obtain ⟨i0, hi0, hz0, hz1, hz2⟩ := info_parts u8_info
  have hne : (((n : Nat) : Int) == 0) = false := by simp; omega
  have hdl : (digs n).length ≤ 19 := ((digs_len n).2 19 (by omega)).2 (by omega)
  have HDL := Lib.hid hdl
  clear hdl
  go_enter Try.func26, Try.ntmps26
  go_wp2_with fail
  go_loopw [3, 4, 5] (fun bv wv _ wr => ∃ (m : Nat) (ds : List UInt8) (L : Option Addr) (cap : Nat), m ≤ n ∧ wv = .int .i64 ((m : Nat) : Int) ∧ dg0 m ++ ds = digs n ∧ bv = .slice L ds.length cap ∧ wr.ownsRow w.heap.size 5 1 (.slice L ds.length cap) ds.length (bytesV ds) ∧ Below w.heap.size w wr) (fun _ wv _ _ => (intOf wv).natAbs)
  case atStart =>
    refine ⟨n, [], none, 0, Nat.le_refl _, rfl, ?_, rfl, World.ownsRow_nil _ _ _ _, Below.refl _ _⟩
    unfold dg0
    rw [if_neg (by omega), List.append_nil]
  case round =>
    obtain ⟨m, ds, L, cap, hm, rfl, hdg, rfl, hown, hb⟩ := hrel
    have hdsl : ds.length ≤ 19 := by
      have h1 := congrArg List.length hdg
      rw [List.length_append] at h1
      have h2 := HDL.out
      omega
    have HDG := Lib.hid hdg
    have HOWN := Lib.hid hown
    have HB := Lib.hid hb
    clear hdg hown
    by_cases hm0 : 0 < m
    · have hstep := dg0_step hm0
      obtain ⟨r, hr⟩ : ∃ r, m % 10 = r := ⟨_, rfl⟩
      obtain ⟨q, hq⟩ : ∃ q, m / 10 = q := ⟨_, rfl⟩
      rw [hr, hq] at hstep
      have hr9 : r < 10 := by omega
      have hqm : q < m := by omega
      have hrest : dg0 q ++ ((48 + r).toUInt8 :: ds) = digs n := by rw [← HDG.out, hstep, List.append_assoc]; rfl
      have HREST := Lib.hid hrest
      have hcv : ((48 + r).toUInt8.toNat : Int) = 48 + (r : Int) := by rw [digit_toNat hr9]; omega
      have HCV := Lib.hid hcv
      have hw8 : IntKind.u8.wrap (48 + (r : Int)) = 48 + (r : Int) := by rw [IntKind.wrap_u8]; exact Int.emod_eq_of_lt (by omega) (by omega)
      have hne : (((m : Nat) : Int) != 0) = true := by simp; omega
      have hmod : ((m : Nat) : Int) % 10 = (r : Int) := by omega
      have hdiv : ((m : Nat) : Int) / 10 = (q : Int) := by omega
      clear hstep hrest hcv hr hq
      · go_wp2_with (first | rw [hw8] | (at_builtin; refine wpList_app_any rfl (.tmp 22) (.tmp 23) 65 rfl w.heap.size 5 i0 (.int .u8 0) 1 1 Try.underlying65 hi0 hz0 hz1 hz2 rfl (by omega) (.slice (some ⟨wr.heap.size, 0, none⟩) 1 1) 1 [.int .u8 (48 + (r : Int))] (by rfl) (by exact own_one wr 5 _ w.heap.size HB.out.size) (wr.heap.size + 1) L ds.length cap (bytesV ds) (by rfl) (by exact ((Reads.of_own HOWN.out).alloc (Nat.le_refl _) _).more (by omega)) (bytesV_one ds) (by unfold maxLen; omega) (by omega) (by have := HB.out.size; simp; omega) ?_; intro v2 w2 hown2 hg2 hat2; have HO2 := Lib.hid hown2; have HG2 := Lib.hid hg2; have HA2 := Lib.hid hat2; clear hown2 hg2 hat2))
        refine ⟨?rel, ?measure⟩
        case rel =>
          obtain ⟨g2, c2, hv2, ho2⟩ := dig_rel HO2.out HCV.out
          exact ⟨q, _, some ⟨g2, 0, none⟩, c2, by omega, rfl, HREST.out, hv2, ho2, dig_below HB.out HG2.out⟩
        case measure => simp [intOf]; omega
    · obtain rfl : m = 0 := by omega
      have hds : ds = digs n := by have := HDG.out; unfold dg0 at this; rw [if_pos rfl] at this; simpa using this
      have HDS := Lib.hid hds
      have hdn : 0 < ds.length := by rw [hds]; exact (digs_len n).1
      obtain ⟨g, cp, e, _⟩ := HOWN.out.form hdn
      injection e with e1 e2 e3
      subst e1
      clear e3 hds hne
      have hcv := conv_row HOWN.out
      obtain ⟨S, hS⟩ : ∃ S : ByteArray, S = ⟨ds.toArray⟩ := ⟨_, rfl⟩
      rw [← hS] at hcv
      have HSS := Lib.hid hS
      clear hS
      go_wp2_with fail
      go_ret
      exact ⟨ret_str (by rw [HSS.out, HDS.out]), hb⟩

set_option maxHeartbeats 2000000 in
theorem r_digits_neg (n : Nat) (h0 : 0 < n) (hn : n ≤ 9223372036854775808) (w : World) :
    Calls Try.prog 26 #[.int .i64 (-((n : Nat) : Int))] w fun e w' => e = .returned (.string ⟨(45 :: digs n).toArray⟩) ∧ Below w.heap.size w w' := by
  obtain ⟨i0, hi0, hz0, hz1, hz2⟩ := info_parts u8_info
  have hne : ((-((n : Nat) : Int)) == 0) = false := by simp; omega
  have hdl : (digs n).length ≤ 19 := ((digs_len n).2 19 (by omega)).2 (by omega)
  have HDL := Lib.hid hdl
  clear hdl
  go_enter Try.func26, Try.ntmps26
  go_wp2_with fail
  go_loopw [3, 4, 5] (fun bv wv _ wr => ∃ (m : Nat) (ds : List UInt8) (L : Option Addr) (cap : Nat), m ≤ n ∧ wv = .int .i64 (-((m : Nat) : Int)) ∧ dg0 m ++ ds = digs n ∧ bv = .slice L ds.length cap ∧ wr.ownsRow w.heap.size 5 1 (.slice L ds.length cap) ds.length (bytesV ds) ∧ Below w.heap.size w wr) (fun _ wv _ _ => (intOf wv).natAbs)
  case atStart =>
    refine ⟨n, [], none, 0, Nat.le_refl _, rfl, ?_, rfl, World.ownsRow_nil _ _ _ _, Below.refl _ _⟩
    unfold dg0
    rw [if_neg (by omega), List.append_nil]
  case round =>
    obtain ⟨m, ds, L, cap, hm, rfl, hdg, rfl, hown, hb⟩ := hrel
    have hdsl : ds.length ≤ 19 := by
      have h1 := congrArg List.length hdg
      rw [List.length_append] at h1
      have h2 := HDL.out
      omega
    have HDG := Lib.hid hdg
    have HOWN := Lib.hid hown
    have HB := Lib.hid hb
    clear hdg hown
    by_cases hm0 : 0 < m
    · have hstep := dg0_step hm0
      obtain ⟨r, hr⟩ : ∃ r, m % 10 = r := ⟨_, rfl⟩
      obtain ⟨q, hq⟩ : ∃ q, m / 10 = q := ⟨_, rfl⟩
      rw [hr, hq] at hstep
      have hr9 : r < 10 := by omega
      have hqm : q < m := by omega
      have hrest : dg0 q ++ ((48 + r).toUInt8 :: ds) = digs n := by rw [← HDG.out, hstep, List.append_assoc]; rfl
      have HREST := Lib.hid hrest
      have hcv : ((48 + r).toUInt8.toNat : Int) = 48 + (r : Int) := by rw [digit_toNat hr9]; omega
      have HCV := Lib.hid hcv
      have hw8 : IntKind.u8.wrap (48 + (r : Int)) = 48 + (r : Int) := by rw [IntKind.wrap_u8]; exact Int.emod_eq_of_lt (by omega) (by omega)
      have hne : ((-((m : Nat) : Int)) != 0) = true := by simp; omega
      have hmod : (-((m : Nat) : Int)).tmod 10 = -((r : Nat) : Int) := by rw [Int.neg_tmod, ← hr]; simp [Int.tmod_eq_emod_of_nonneg]
      have hdiv : (-((m : Nat) : Int)).tdiv 10 = -((q : Nat) : Int) := by rw [Int.neg_tdiv, ← hq]; simp [Int.tdiv_eq_ediv_of_nonneg]
      clear hstep hrest hcv hr hq
      by_cases hr0 : r = 0
      · have hlt : ¬ -((r : Nat) : Int) < 0 := by omega
        have hnr : -((r : Nat) : Int) = (r : Int) := by omega
        clear hr0
        go_wp2_with (first | rw [hw8] | (at_builtin; refine wpList_app_any rfl (.tmp 22) (.tmp 23) 65 rfl w.heap.size 5 i0 (.int .u8 0) 1 1 Try.underlying65 hi0 hz0 hz1 hz2 rfl (by omega) (.slice (some ⟨wr.heap.size, 0, none⟩) 1 1) 1 [.int .u8 (48 + (r : Int))] (by rfl) (by exact own_one wr 5 _ w.heap.size HB.out.size) (wr.heap.size + 1) L ds.length cap (bytesV ds) (by rfl) (by exact ((Reads.of_own HOWN.out).alloc (Nat.le_refl _) _).more (by omega)) (bytesV_one ds) (by unfold maxLen; omega) (by omega) (by have := HB.out.size; simp; omega) ?_; intro v2 w2 hown2 hg2 hat2; have HO2 := Lib.hid hown2; have HG2 := Lib.hid hg2; have HA2 := Lib.hid hat2; clear hown2 hg2 hat2))
        refine ⟨?rel, ?measure⟩
        case rel =>
          obtain ⟨g2, c2, hv2, ho2⟩ := dig_rel HO2.out HCV.out
          exact ⟨q, _, some ⟨g2, 0, none⟩, c2, by omega, rfl, HREST.out, hv2, ho2, dig_below HB.out HG2.out⟩
        case measure => simp [intOf]; omega
      · have hlt : -((r : Nat) : Int) < 0 := by omega
        go_wp2_with (first | rw [hw8] | (at_builtin; refine wpList_app_any rfl (.tmp 22) (.tmp 23) 65 rfl w.heap.size 5 i0 (.int .u8 0) 1 1 Try.underlying65 hi0 hz0 hz1 hz2 rfl (by omega) (.slice (some ⟨wr.heap.size, 0, none⟩) 1 1) 1 [.int .u8 (48 + (r : Int))] (by rfl) (by exact own_one wr 5 _ w.heap.size HB.out.size) (wr.heap.size + 1) L ds.length cap (bytesV ds) (by rfl) (by exact ((Reads.of_own HOWN.out).alloc (Nat.le_refl _) _).more (by omega)) (bytesV_one ds) (by unfold maxLen; omega) (by omega) (by have := HB.out.size; simp; omega) ?_; intro v2 w2 hown2 hg2 hat2; have HO2 := Lib.hid hown2; have HG2 := Lib.hid hg2; have HA2 := Lib.hid hat2; clear hown2 hg2 hat2))
        refine ⟨?rel, ?measure⟩
        case rel =>
          obtain ⟨g2, c2, hv2, ho2⟩ := dig_rel HO2.out HCV.out
          exact ⟨q, _, some ⟨g2, 0, none⟩, c2, by omega, rfl, HREST.out, hv2, ho2, dig_below HB.out HG2.out⟩
        case measure => simp [intOf]; omega
    · obtain rfl : m = 0 := by omega
      have hds : ds = digs n := by have := HDG.out; unfold dg0 at this; rw [if_pos rfl] at this; simpa using this
      have HDS := Lib.hid hds
      have hdn : 0 < ds.length := by rw [hds]; exact (digs_len n).1
      obtain ⟨g, cp, e, _⟩ := HOWN.out.form hdn
      injection e with e1 e2 e3
      subst e1
      clear e3 hds hne
      obtain ⟨S, hS⟩ : ∃ S : ByteArray, S = ⟨(45 :: ds).toArray⟩ := ⟨_, rfl⟩
      have HSS := Lib.hid hS
      clear hS
      go_wp2_with (first | (at_builtin; refine wpList_app_any rfl (.tmp 27) (.tmp 28) 65 rfl w.heap.size 5 i0 (.int .u8 0) 1 1 Try.underlying65 hi0 hz0 hz1 hz2 rfl (by omega) (.slice (some ⟨wr.heap.size, 0, none⟩) 1 1) 1 [.int .u8 45] (by rfl) (by exact own_one wr 5 _ w.heap.size HB.out.size) (wr.heap.size + 1) (some ⟨g, 0, none⟩) ds.length cap (bytesV ds) (by rfl) (by exact ((Reads.of_own HOWN.out).alloc (Nat.le_refl _) _).more (by omega)) (bytesV_one ds) (by unfold maxLen; omega) (by omega) (by have := HB.out.size; simp; omega) ?_; intro v2 w2 hown2 hg2 hat2; have HG2 := Lib.hid hg2; obtain ⟨g2, c2, hv2, ho2⟩ := dig_rel (c := 45) hown2 rfl; subst hv2; have hcv := conv_row ho2; clear hown2 hg2 hat2 ho2; rw [← HSS.out] at hcv; generalize (45 :: ds).length = k2 at *) | fail)
      go_ret
      exact ⟨ret_str (by rw [HSS.out, HDS.out]), dig_below HB.out HG2.out⟩

theorem r_digits_any (v : Int) (hv : IsI64 v) (w : World) : Calls Try.prog 26 #[.int .i64 v] w fun e w' => e = .returned (.string ⟨(digitsF v).toArray⟩) ∧ Below w.heap.size w w' := by
  obtain ⟨h1, h2⟩ := hv
  rcases Int.lt_trichotomy v 0 with h | h | h
  · obtain ⟨n, rfl⟩ : ∃ n : Nat, v = -(n : Int) := ⟨v.natAbs, by omega⟩
    have := r_digits_neg n (by omega) (by omega) w
    have e : digitsF (-(n : Int)) = 45 :: digs n := by
      unfold digitsF
      rw [if_pos h]
      simp
    rw [e]
    exact this
  · subst h
    go_enter Try.func26, Try.ntmps26
    go_wp2_with fail
    go_ret
    exact ⟨rfl, Below.refl _ _⟩
  · obtain ⟨n, rfl⟩ : ∃ n : Nat, v = (n : Int) := ⟨v.natAbs, by omega⟩
    have := r_digits_pos n (by omega) (by omega) w
    have e : digitsF (n : Int) = digs n := by
      unfold digitsF
      rw [if_neg (by omega)]
      simp
    rw [e]
    exact this
end Go.Proofs.Ytkokgdebahgbdaa
