/-
  The contract of uf.Classes; complinebook.SameInts.
-/
import Derived.Test.YtnfgndapalkbcaaUfE
namespace Go.Proofs.Ytnfgndapalkbcaa
set_option maxRecDepth 100000
open Go.RowKit

theorem row_info : (Try.prog.info? 31).map (fun i => (i.zero, i.size, i.bytes)) = some (some (.slice none 0 0), 1, 24) := by kernel_rfl
theorem own_base {w : World} {base base' : Nat} {e : TypeId} {size n : Nat} {v : Value} {xs : List Value} (h : w.ownsRow base e size v n xs) (hb : base' ≤ base) : w.ownsRow base' e size v n xs := by
  refine ⟨h.1, ?_⟩
  rcases h.2 with h2 | ⟨g, cap, cur, rfl, hb2, r⟩
  · exact .inl h2
  · exact .inr ⟨g, cap, cur, rfl, Nat.le_trans hb hb2, r⟩
/-- rows of two kinds of elements do not lie in one block -/
theorem own_own_ne {w : World} {base base' : Nat} {e e' : TypeId} {size n size' n' : Nat} {v v' : Value} {xs xs' : List Value} (h : w.ownsRow base e size v n xs) (h' : w.ownsRow base' e' size' v' n' xs') (hne : e ≠ e') (g : Nat) (hg : v.ownBlock = some g) : v'.ownBlock ≠ some g := by
  intro hg'
  rcases h.2 with ⟨rfl, _⟩ | ⟨g1, cap, cur, rfl, _, h1, _⟩
  · simp [Value.ownBlock] at hg
  · rcases h'.2 with ⟨rfl, _⟩ | ⟨g2, cap2, cur2, rfl, _, h2, _⟩
    · simp [Value.ownBlock] at hg'
    · simp [Value.ownBlock] at hg hg'
      subst hg hg'
      rw [h1] at h2
      injection h2 with h2
      injection h2 with _ h2
      exact hne h2

/-- Rows of numbers that the call owns, held by the values vs. -/
def Inner (w : World) (base : Nat) (vs : List Value) (xss : List (List Nat)) : Prop :=
  vs.length = xss.length ∧ ∀ (i : Nat) (xs : List Nat), xss[i]? = some xs → ∃ (L : Option Addr) (cap : Nat), vs[i]? = some (Value.slice L xs.length cap) ∧ w.ownsRow base 3 1 (.slice L xs.length cap) xs.length (nats xs)
theorem Inner.nil (w : World) (base : Nat) : Inner w base [] [] := ⟨rfl, by simp⟩
theorem Inner.snoc {w : World} {base : Nat} {vs : List Value} {xss : List (List Nat)} (h : Inner w base vs xss) {L : Option Addr} {cap : Nat} {xs : List Nat} (hx : w.ownsRow base 3 1 (.slice L xs.length cap) xs.length (nats xs)) :
    Inner w base (vs ++ [Value.slice L xs.length cap]) (xss ++ [xs]) := by
  refine ⟨by simp [h.1], fun i ys hi => ?_⟩
  rcases Nat.lt_or_ge i xss.length with hl | hl
  · rw [List.getElem?_append_left hl] at hi
    rw [List.getElem?_append_left (by rw [h.1]; exact hl)]
    exact h.2 i ys hi
  · rw [List.getElem?_append_right hl] at hi
    rw [List.getElem?_append_right (by rw [h.1]; exact hl), h.1]
    obtain ⟨k, hk⟩ : ∃ k, i - xss.length = k := ⟨_, rfl⟩
    rw [hk] at hi ⊢
    match k, hi with
    | 0, hi => simp at hi; subst hi; exact ⟨L, cap, rfl, hx⟩
    | k + 1, hi => simp at hi
theorem Inner.keeps {w w' : World} {base : Nat} {vs : List Value} {xss : List (List Nat)} {T : List Nat} (h : Inner w base vs xss) (hk : Keeps T w w') (hT : ∀ (i : Nat) (xs : List Nat) (L : Option Addr) (cap : Nat), xss[i]? = some xs → w.ownsRow base 3 1 (.slice L xs.length cap) xs.length (nats xs) → ∀ g, (Value.slice L xs.length cap).ownBlock = some g → g ∉ T) : Inner w' base vs xss :=
  ⟨h.1, fun i xs hi => by
    obtain ⟨L, cap, e, ho⟩ := h.2 i xs hi
    exact ⟨L, cap, e, own_keeps ho hk (fun g hg => hT i xs L cap hi ho g hg)⟩⟩

/-- What is read of a list of lists that lies in blocks from base on. -/
structure RowsR (w : World) (B base : Nat) (L : Option Addr) (xss : List (List Nat)) : Prop where
  outer : ∃ vs : List Value, Reads w B 1 L xss.length vs ∧ (∀ ad, L = some ad → base ≤ ad.block) ∧ ∀ (i : Nat) (xs : List Nat), xss[i]? = some xs → ∃ (A : Option Addr) (cap : Nat), vs[i]? = some (Value.slice A xs.length cap) ∧ xs.length ≤ cap ∧ cap ≤ maxLen ∧ Reads w B 1 A xs.length (nats xs) ∧ ∀ ad, A = some ad → base ≤ ad.block
theorem RowsR.keeps {w w' : World} {B base : Nat} {L : Option Addr} {xss : List (List Nat)} {T : List Nat} (h : RowsR w B base L xss) (hk : Keeps T w w') (hB : B ≤ w.heap.size) (hT : ∀ x ∈ T, x < base) : RowsR w' B base L xss := by
  obtain ⟨vs, hr, hb, hrow⟩ := h
  refine ⟨vs, hr.keepsFar hk hB (fun ad e _ hm => by have := hb ad e; have := hT _ hm; omega), hb, fun i xs hx => ?_⟩
  obtain ⟨A, cap, h1, h2, h3, h4, h5⟩ := hrow i xs hx
  exact ⟨A, cap, h1, h2, h3, h4.keepsFar hk hB (fun ad e _ hm => by have := h5 ad e; have := hT _ hm; omega), h5⟩
theorem RowsR.drewN {w : World} {B base : Nat} {L : Option Addr} {xss : List (List Nat)} (h : RowsR w B base L xss) (n : Nat) : RowsR (w.drewN n) B base L xss := ⟨h.outer⟩
/-- one of the lists -/
theorem RowsR.row {w : World} {B base : Nat} {L : Option Addr} {xss : List (List Nat)} (h : RowsR w B base L xss) {k : Nat} (hk : k < xss.length) :
    ∃ ad A cap, L = some ad ∧ w.cell? (ad.add k) = some (.slice A (xss.getD k []).length cap) ∧ Reads w B 1 A (xss.getD k []).length (nats (xss.getD k [])) ∧ (xss.getD k []).length ≤ cap ∧ cap ≤ maxLen := by
  obtain ⟨vs, hr, _, hrow⟩ := h
  obtain ⟨ad, u, e, _, hu, hc⟩ := hr.at_ hk
  have hx : xss[k]? = some (xss.getD k []) := by rw [List.getD_eq_getElem?_getD, List.getElem?_eq_getElem hk]; rfl
  obtain ⟨A, cap, h1, h2, h3, h4, _⟩ := hrow k _ hx
  rw [h1] at hu
  injection hu with hu
  subst hu
  exact ⟨ad, A, cap, e, hc, h4, h2, h3⟩

def ClassesN (w : World) (xss : List (List Nat)) (e : Ending) (w' : World) : Prop :=
  ∃ L cap, e = .returned (.slice L xss.length cap) ∧ RowsR w' w'.heap.size w.heap.size L xss ∧ Below w.heap.size w w'

/-- the heads below i -/
def headsTo (u : List Nat) (i : Nat) : List Nat := (List.range' 1 (i - 1)).filter fun x => decide (Uf.hd u x = x)
theorem headsTo_succ (u : List Nat) (j : Nat) (hj : 1 ≤ j) : headsTo u (j + 1) = headsTo u j ++ if Uf.hd u j = j then [j] else [] := by
  unfold headsTo
  obtain ⟨k, rfl⟩ : ∃ k, j = k + 1 := ⟨j - 1, by omega⟩
  rw [Nat.add_sub_cancel, Nat.add_sub_cancel, List.range'_concat, List.filter_append]
  congr 1
  have : 1 + 1 * k = k + 1 := by omega
  rw [this]
  by_cases e : Uf.hd u (k + 1) = k + 1 <;> simp [e]
theorem headsTo_length (u : List Nat) (j : Nat) : (headsTo u j).length ≤ j - 1 := by
  unfold headsTo
  refine Nat.le_trans (List.length_filter_le _ _) ?_
  simp

theorem classes_nil (w : World) : Calls Try.prog 58 #[.pointer none] w fun e w' => e = .returned (.slice none 0 0) ∧ w = w' := by
  go_enter Try.func58, Try.ntmps58
  go_wp2_with fail
  go_loop [3, 4] (fun ov iv => ov = .slice none 0 0 ∧ iv = .int .i64 1) (fun _ _ => 0)
  case atStart => exact ⟨rfl, rfl⟩
  case round =>
    obtain ⟨rfl, rfl⟩ := hrel
    go_wp2_with fail
    refine (is_nil _ _).mono ?_
    rintro en w1 ⟨rfl, rfl⟩
    go_wp2_with fail
    go_ret
    exact ⟨rfl, rfl⟩

theorem own_from {w : World} {base : Nat} {e : TypeId} {size n k cap : Nat} {L : Option Addr} {xs : List Value} (h : w.ownsRow base e size (.slice L k cap) n xs) : ∀ ad, L = some ad → base ≤ ad.block := by
  intro ad e
  subst e
  exact (h.lt ad.block (by simp [Value.ownBlock])).1
theorem rows_ofU {w : World} {base : Nat} {L : Option Addr} {cap : Nat} {vs : List Value} {xss : List (List Nat)}
    (h : w.ownsRow base 31 1 (.slice L xss.length cap) xss.length vs) (hi : Inner w base vs xss) : RowsR w w.heap.size base L xss :=
  ⟨vs, Reads.of_own h, own_from h, fun i xs hx => by
    obtain ⟨A, c, e, ho⟩ := hi.2 i xs hx
    refine ⟨A, c, e, ?_, ?_, Reads.of_own ho, own_from ho⟩
    · rcases ho.2 with ⟨h1, h2⟩ | ⟨g, cp, cur, h1, _, _, h2, h3, _⟩
      · injection h1 with _ h1 h3; omega
      · injection h1 with _ h1 h3; omega
    · rcases ho.2 with ⟨h1, h2⟩ | ⟨g, cp, cur, h1, _, _, h2, h3, _⟩
      · injection h1 with _ h1 h4; unfold maxLen; omega
      · injection h1 with _ h1 h4; omega⟩

set_option maxHeartbeats 1000000 in
theorem classes_in (b : Nat) (A : Option Addr) (c : Nat) (u : List Nat) (w : World) (h : UfR w b A c u) (hb : b < w.heap.size) (hgood : Uf.Good u) (hbig : u.length ≤ 1000) :
    Calls Try.prog 58 #[.pointer (some ⟨b, 0, none⟩)] w (ClassesN w (Uf.classes u)) := by
  obtain ⟨i0, hi0, hz0, hz1, hz2⟩ := info_parts row_info
  have H := Lib.hid h
  have HG := Lib.hid hgood
  clear h hgood
  generalize hn : u.length = n at *
  have HN := Lib.hid hn
  clear hn
  go_enter Try.func58, Try.ntmps58
  go_wp2_with fail
  go_loopw [3, 4] (fun ov jv wr => ∃ (j : Nat) (L : Option Addr) (cap : Nat) (vs : List Value), 1 ≤ j ∧ j ≤ n + 1 ∧ jv = .int .i64 j ∧ ov = .slice L (headsTo u j).length cap ∧ wr.ownsRow w.heap.size 31 1 (.slice L (headsTo u j).length cap) (headsTo u j).length vs ∧ Inner wr w.heap.size vs ((headsTo u j).map (Uf.cls u)) ∧ Below w.heap.size w wr) (fun _ jv _ => n + 1 - (intOf jv).toNat)
  case atStart =>
    exact ⟨1, none, 0, [], Nat.le_refl _, by omega, rfl, rfl, World.ownsRow_nil _ _ _ _, Inner.nil _ _, Below.refl _ _⟩
  case round =>
    obtain ⟨j, L, cap, vs, j1, j2, rfl, rfl, hown, hinn, hbel⟩ := hrel
    have hsucc := headsTo_succ u j j1
    have hlen := headsTo_length u j
    have HOWN := Lib.hid hown
    have HINN := Lib.hid hinn
    have HS := Lib.hid hsucc
    have HB := Lib.hid hbel
    have hR : UfR wr b A c u := ⟨by rw [← H.out.cell]; exact World.cell?_of_block (hbel.block _ hb), (H.out.reads.below hbel).up hbel.size⟩
    have HR := Lib.hid hR
    have hbw : b < wr.heap.size := by have := hbel.size; omega
    clear hown hsucc hbel hR hinn
    by_cases hlt : j ≤ n
    · have hj : 1 ≤ j ∧ j ≤ u.length := by rw [HN.out]; omega
      have HJ := Lib.hid (headI_nat hj)
      have HJI := Lib.hid hj
      have HIN := Lib.hid (show inU u (j : Int) = true from by simp [inU]; omega)
      clear hj
      generalize headsTo u j = xs at *
      generalize hxl : xs.length = m at *
      have HXL := Lib.hid hxl
      clear hxl
      generalize hysq : headsTo u (j + 1) = ys at *
      have HYS := Lib.hid hysq
      clear hysq
      by_cases hq : Uf.hd u j = j
      · have hS := HS.out
        rw [if_pos hq] at hS
        have HS' := Lib.hid hS
        have HQ := Lib.hid hq
        clear HS hS hq
        go_wp2_with fail
        refine (is_any b A c u _ _ HR.out).mono ?_
        rw [HIN.out]
        rintro en w1 ⟨rfl, rfl⟩
        go_wp2_with fail
        refine (head_any b A c u _ _ HR.out HG.out (by have := HN.out; omega)).mono ?_
        rw [HJ.out, HQ.out]
        rintro en w1 ⟨rfl, rfl⟩
        go_wp2_with fail
        refine (class_in b A c u j _ HR.out hbw HG.out (by rw [HN.out]; exact hbig) HJI.out).mono ?_
        rw [HQ.out]
        rintro en w1 ⟨L1, cap1, rfl, hown1, hb1⟩
        have HO1 := Lib.hid hown1
        have HB1 := Lib.hid hb1
        have hsz := hb1.size
        have HSZ := Lib.hid (show w.heap.size ≤ wr.heap.size from HB.out.size)
        have hown' := own_keeps HOWN.out (Keeps.of_below hb1 []) (by simp)
        have HOWN1 := Lib.hid hown'
        have hinn' := HINN.out.keeps (Keeps.of_below hb1 []) (by simp)
        have HINN1 := Lib.hid hinn'
        generalize hcl : Uf.cls u j = cl at *
        have HCL := Lib.hid hcl
        generalize hcn : cl.length = cn at *
        have HCN := Lib.hid hcn
        clear hown1 hb1 hown' hinn' hcl hcn
        go_wp2_with (at_builtin; refine wpList_append_lies _ rfl (.tmp 15) (.tmp 19) 38 rfl w.heap.size 31 i0 (.slice none 0 0) 1 24 Try.underlying38 hi0 hz0 hz1 hz2 rfl (by omega) (.slice L m cap) m vs rfl (by exact HOWN1.out.alloc _) ⟨w1.heap.size, 0, none⟩ 1 1 [.slice L1 cn cap1] rfl rfl (by exact cell_one_new _ _ _) (by simp [Value.oneCell']) (by omega) (by unfold maxLen; omega) (by omega) (by have := HB.out.size; have := HB1.out.size; simp; omega) (w1.heap.size + 1) (by simp) ?_; intro g2 c2 w2 hown2 hg2 hat2 hlt2; have HO2 := Lib.hid hown2; have HG2 := Lib.hid hg2; clear hown2 hg2 hat2)
        go_roundw
        case rel =>
          have hys : ys.length = m + 1 := by rw [HS'.out, List.length_append, HXL.out]; rfl
          have hk : Keeps [] wr w1 := Keeps.of_below HB1.out []
          have hkk : ∀ T, (∀ k, (Value.slice L m cap).ownBlock = some k → k ∈ T) → Keeps T w1 w2 := fun T hT => ((Keeps.refl T w1).alloc (.cells #[.slice L1 cn cap1] 31)).grown HG2.out (fun k hk => .inl (hT k hk))
          have hb2 : Below w.heap.size w w2 := by
            have := ((((Keeps.of_below HB.out []).trans hk (by simp))).alloc (.cells #[.slice L1 cn cap1] 31)).grown HG2.out (fun k hk => .inr (HOWN.out.lt k hk).1)
            exact this.below (by simp) (Nat.le_refl _)
          refine ⟨j + 1, some ⟨g2, 0, none⟩, c2, vs ++ [.slice L1 cn cap1], by omega, by omega, by go_num, by rw [HYS.out, hys], by rw [HYS.out, hys]; exact HO2.out, ?_, hb2⟩
          rw [HYS.out, HS'.out, List.map_append]
          have hin2 : Inner w1 w.heap.size (vs ++ [Value.slice L1 cl.length cap1]) (xs.map (Uf.cls u) ++ [cl]) := by
            refine HINN1.out.snoc ?_
            rw [HCN.out]
            exact own_base HO1.out HSZ.out
          rw [HCN.out] at hin2
          have e : List.map (Uf.cls u) [j] = [cl] := by rw [← HCL.out]; rfl
          rw [e]
          exact hin2.keeps (hkk ((Value.slice L m cap).ownBlock.toList) (by simp)) (fun i ys' L' cap' _ ho g hg hmem => own_own_ne ho HOWN1.out (by decide) g hg (by simpa using hmem))
        case measure => simp [intOf]; omega
      · have hS := HS.out
        rw [if_neg hq] at hS
        have HS' := Lib.hid hS
        have hb1 : ((Uf.hd u j : Int) == (j : Int)) = false := by simp; omega
        clear HS hS
        go_wp2_with fail
        refine (is_any b A c u _ _ HR.out).mono ?_
        rw [HIN.out]
        rintro en w1 ⟨rfl, rfl⟩
        go_wp2_with fail
        refine (head_any b A c u _ _ HR.out HG.out (by have := HN.out; omega)).mono ?_
        rw [HJ.out]
        rintro en w1 ⟨rfl, rfl⟩
        go_wp2_with fail
        go_roundw
        case rel =>
          have e := HS'.out
          rw [List.append_nil] at e
          exact ⟨j + 1, L, cap, vs, by omega, by omega, by go_num, by rw [HYS.out, e, HXL.out], by rw [HYS.out, e, HXL.out]; exact HOWN.out, by rw [HYS.out, e]; exact HINN.out, HB.out⟩
        case measure => simp [intOf]; omega
    · have hjn : j = n + 1 := by omega
      have e : (headsTo u j).map (Uf.cls u) = Uf.classes u := by unfold headsTo Uf.classes Uf.heads; rw [hjn, HN.out]; rfl
      have el : (headsTo u j).length = (Uf.classes u).length := by rw [← e, List.length_map]
      rw [e] at HINN
      rw [el] at HOWN ⊢
      have HNO := Lib.hid (show inU u (j : Int) = false from by have := HN.out; simp [inU]; omega)
      clear e el hjn
      generalize hkk : (Uf.classes u).length = kk at *
      have HKK := Lib.hid hkk
      clear hkk
      go_wp2_with fail
      refine (is_any b A c u _ _ HR.out).mono ?_
      rw [HNO.out]
      rintro en w1 ⟨rfl, rfl⟩
      go_wp2_with fail
      go_ret
      have ho := HOWN.out
      rw [← HKK.out] at ho
      exact ⟨L, cap, by rw [HKK.out]; rfl, rows_ofU ho HINN.out, HB.out⟩
end Go.Proofs.Ytnfgndapalkbcaa
