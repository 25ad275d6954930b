/-
  The contracts of uf.Class and Classes.
-/
import Derived.Test.YtnfgndapalkbcaaUfD
namespace Go.Proofs.Ytnfgndapalkbcaa
set_option maxRecDepth 100000
open Go.RowKit

theorem Reads.up {w : World} {B B' size n : Nat} {A : Option Addr} {xs : List Value} (h : Reads w B size A n xs) (hB : B ≤ B') : Reads w B' size A n xs :=
  ⟨h.1, fun h0 => by obtain ⟨ad, e, hb, hc⟩ := h.2 h0; exact ⟨ad, e, Nat.lt_of_lt_of_le hb hB, hc⟩⟩

def ClassN (w : World) (xs : List Nat) (e : Ending) (w' : World) : Prop :=
  ∃ L cap, e = .returned (.slice L xs.length cap) ∧ w'.ownsRow w.heap.size 3 1 (.slice L xs.length cap) xs.length (nats xs) ∧ Below w.heap.size w w'

theorem class_out (b : Nat) (A : Option Addr) (c : Nat) (u : List Nat) (i : Int) (w : World) (h : UfR w b A c u) (hi : inU u i = false) :
    Calls Try.prog 15 #[.pointer (some ⟨b, 0, none⟩), .int .i64 i] w fun e w' => e = .returned (.slice none 0 0) ∧ w = w' := by
  have HI := Lib.hid hi
  clear hi
  go_enter Try.func15, Try.ntmps15
  go_wp2_with fail
  refine (is_any b A c u i _ h).mono ?_
  rw [HI.out]
  rintro en w1 ⟨rfl, rfl⟩
  go_wp2_with fail
  go_ret
  exact ⟨rfl, rfl⟩
theorem class_nil (i : Int) (w : World) : Calls Try.prog 15 #[.pointer none, .int .i64 i] w fun e w' => e = .returned (.slice none 0 0) ∧ w = w' := by
  go_enter Try.func15, Try.ntmps15
  go_wp2_with fail
  refine (is_nil i _).mono ?_
  rintro en w1 ⟨rfl, rfl⟩
  go_wp2_with fail
  go_ret
  exact ⟨rfl, rfl⟩

/-- the numbers below j that are in h's class -/
def clsTo (u : List Nat) (h j : Nat) : List Nat := (List.range' 1 (j - 1)).filter fun x => decide (Uf.hd u x = h)
theorem clsTo_succ (u : List Nat) (h j : Nat) (hj : 1 ≤ j) : clsTo u h (j + 1) = clsTo u h j ++ if Uf.hd u j = h then [j] else [] := by
  unfold clsTo
  obtain ⟨k, rfl⟩ : ∃ k, j = k + 1 := ⟨j - 1, by omega⟩
  rw [Nat.add_sub_cancel, Nat.add_sub_cancel, List.range'_concat, List.filter_append]
  congr 1
  have : 1 + 1 * k = k + 1 := by omega
  rw [this]
  by_cases e : Uf.hd u (k + 1) = h <;> simp [e]
theorem clsTo_none {u : List Nat} (g : Uf.Good u) (h : Nat) (hh : h ≤ u.length) : clsTo u h h = [] := by
  unfold clsTo
  rw [List.filter_eq_nil_iff]
  intro x hx
  rw [List.mem_range'_1] at hx
  have := (Uf.hd_spec g x (by omega) (by omega)).2.1
  simp; omega
theorem clsTo_length (u : List Nat) (h j : Nat) : (clsTo u h j).length ≤ j - 1 := by
  unfold clsTo
  refine Nat.le_trans (List.length_filter_le _ _) ?_
  simp

theorem class_in (b : Nat) (A : Option Addr) (c : Nat) (u : List Nat) (i : Nat) (w : World) (h : UfR w b A c u) (hb : b < w.heap.size) (hgood : Uf.Good u) (hbig : u.length ≤ 1000) (hi : 1 ≤ i ∧ i ≤ u.length) :
    Calls Try.prog 15 #[.pointer (some ⟨b, 0, none⟩), .int .i64 i] w (ClassN w (Uf.cls u (Uf.hd u i))) := by
  obtain ⟨i0, hi0, hz0, hz1, hz2⟩ := info_parts int_info
  have H := Lib.hid h
  have HG := Lib.hid hgood
  have HIN := Lib.hid (show inU u (i : Int) = true from by simp [inU]; omega)
  have HHD := Lib.hid (headI_nat hi)
  have hsp := Uf.hd_spec hgood i hi.1 hi.2
  obtain ⟨p1, p2, _⟩ := hsp
  have hh0 := clsTo_none hgood (Uf.hd u i) (by omega)
  have HH0 := Lib.hid hh0
  clear h hgood hh0
  generalize hp : Uf.hd u i = p at *
  have HP := Lib.hid hp
  clear hp
  generalize hn : u.length = n at *
  have HN := Lib.hid hn
  clear hn
  go_enter Try.func15, Try.ntmps15
  go_wp2_with fail
  refine (is_any b A c u _ _ H.out).mono ?_
  rw [HIN.out]
  rintro en w1 ⟨rfl, rfl⟩
  go_wp2_with fail
  refine (head_any b A c u _ _ H.out HG.out (by have := HN.out; omega)).mono ?_
  rw [HHD.out]
  rintro en w1 ⟨rfl, rfl⟩
  go_wp2_with fail
  go_loopw [5, 7] (fun ov jv wr => ∃ (j : Nat) (L : Option Addr) (cap : Nat), p ≤ j ∧ j ≤ n + 1 ∧ jv = .int .i64 j ∧ ov = .slice L (clsTo u p j).length cap ∧ wr.ownsRow w.heap.size 3 1 (.slice L (clsTo u p j).length cap) (clsTo u p j).length (nats (clsTo u p j)) ∧ Below w.heap.size w wr) (fun _ jv _ => n + 1 - (intOf jv).toNat)
  case atStart =>
    refine ⟨p, none, 0, Nat.le_refl _, by omega, rfl, ?_, ?_, Below.refl _ _⟩
    · rw [HH0.out]; rfl
    · rw [HH0.out]; exact World.ownsRow_nil _ _ _ _
  case round =>
    obtain ⟨j, L, cap, j1, j2, rfl, rfl, hown, hbel⟩ := hrel
    have hsucc := clsTo_succ u p j (by omega)
    have hlen := clsTo_length u p j
    have HOWN := Lib.hid hown
    have HS := Lib.hid hsucc
    have HB := Lib.hid hbel
    have hR : UfR wr b A c u := ⟨by rw [← H.out.cell]; exact World.cell?_of_block (hbel.block _ hb), (H.out.reads.below hbel).up hbel.size⟩
    have HR := Lib.hid hR
    have hcell := hR.cell
    have hN := HN.out
    rw [hN] at hcell
    clear hown hsucc hbel hR hN
    by_cases hlt : j ≤ n
    · have hj : 1 ≤ j ∧ j ≤ u.length := by rw [HN.out]; omega
      have HJ := Lib.hid (headI_nat hj)
      clear hj
      generalize clsTo u p j = xs at *
      generalize hxl : xs.length = m at *
      have HXL := Lib.hid hxl
      clear hxl
      generalize hysq : clsTo u p (j + 1) = ys at *
      have HYS := Lib.hid hysq
      clear hysq
      by_cases hq : Uf.hd u j = p
      · have hS := HS.out
        rw [if_pos hq] at hS
        have HS' := Lib.hid hS
        have HQ := Lib.hid hq
        clear HS hS hq
        go_wp2_with fail
        refine (head_any b A c u _ _ HR.out HG.out (by have := HN.out; omega)).mono ?_
        rw [HJ.out, HQ.out]
        rintro en w1 ⟨rfl, rfl⟩
        go_wp2_with (at_builtin; refine wpList_append_lies _ rfl (.tmp 30) (.tmp 32) 31 rfl w.heap.size 3 i0 (.int .i64 0) 1 8 Try.underlying31 hi0 hz0 hz1 hz2 rfl (by omega) (.slice L m cap) m (nats xs) rfl (by exact HOWN.out.alloc _) ⟨wr.heap.size, 0, none⟩ 1 1 [.int .i64 (j : Int)] rfl rfl (by exact cell_one_new _ _ _) (by simp [Value.oneCell']) (by omega) (by unfold maxLen; omega) (by omega) (by have := HB.out.size; simp; omega) (wr.heap.size + 1) (by simp) ?_; intro g2 c2 w2 hown2 hg2 hat2 hlt2; have HO2 := Lib.hid hown2; have HG2 := Lib.hid hg2; clear hown2 hg2 hat2)
        go_roundw
        case rel =>
          have hys : ys.length = m + 1 := by rw [HS'.out, List.length_append, HXL.out]; rfl
          have hyn : nats ys = nats xs ++ [.int .i64 (j : Int)] := by rw [HS'.out, nats_append]; rfl
          refine ⟨j + 1, some ⟨g2, 0, none⟩, c2, by omega, by omega, by go_num, by rw [HYS.out, hys], by rw [HYS.out, hys, hyn]; exact HO2.out, ?_⟩
          have := (((Keeps.of_below HB.out []).alloc (.cells #[.int .i64 (j : Int)] 3)).grown HG2.out (fun k hk => .inr (HOWN.out.lt k hk).1))
          exact this.below (by simp) (Nat.le_refl _)
        case measure => simp [intOf]; omega
      · have hS := HS.out
        rw [if_neg hq] at hS
        have HS' := Lib.hid hS
        have hb1 : ((Uf.hd u j : Int) == (p : Int)) = false := by simp; omega
        clear HS hS
        go_wp2_with fail
        refine (head_any b A c u _ _ HR.out HG.out (by have := HN.out; omega)).mono ?_
        rw [HJ.out]
        rintro en w1 ⟨rfl, rfl⟩
        go_wp2_with fail
        go_roundw
        case rel =>
          have e := HS'.out
          rw [List.append_nil] at e
          exact ⟨j + 1, L, cap, by omega, by omega, by go_num, by rw [HYS.out, e, HXL.out], by rw [HYS.out, e, HXL.out]; exact HOWN.out, HB.out⟩
        case measure => simp [intOf]; omega
    · have hjn : j = n + 1 := by omega
      have e : clsTo u p j = Uf.cls u p := by unfold clsTo Uf.cls; rw [hjn, HN.out]; rfl
      rw [e] at HOWN ⊢
      clear e
      go_wp2_with fail
      go_ret
      exact ⟨L, cap, rfl, HOWN.out, HB.out⟩
end Go.Proofs.Ytnfgndapalkbcaa
