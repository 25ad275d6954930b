/-
  The contract of life's Do: the events are done one by one; only the life's own block has turned.
-/
import Derived.Test.YtnlgmhglekakeaaLifeD
namespace Go.Proofs.Ytnlgmhglekakeaa
open Go.RowKit
/-! ### Do -/
def doS (s : Int) : List Int → Int
  | [] => s
  | e :: r => doS (nextF s e).1 r
def doN (s : Int) : List Int → Nat
  | [] => 0
  | e :: r => (if (nextF s e).2 then 1 else 0) + doN (nextF s e).1 r
theorem doS_append (s : Int) (l m : List Int) : doS s (l ++ m) = doS (doS s l) m := by
  induction l generalizing s with
  | nil => rfl
  | cons e l ih => simp [doS, ih]
theorem doN_append (s : Int) (l m : List Int) : doN s (l ++ m) = doN s l + doN (doS s l) m := by
  induction l generalizing s with
  | nil => simp [doN, doS]
  | cons e l ih => simp [doN, doS, ih]; omega
theorem doN_le (s : Int) (l : List Int) : doN s l ≤ l.length := by
  induction l generalizing s with
  | nil => simp [doN]
  | cons e l ih => have := ih (nextF s e).1; simp only [doN, List.length_cons]; split <;> omega
theorem nextF_no {s e : Int} (h : (nextF s e).2 = false) : (nextF s e).1 = s := by
  unfold nextF at h ⊢
  by_cases c1 : e = 0 ∧ s = 0
  · rw [if_pos c1] at h; cases h
  rw [if_neg c1] at h ⊢
  by_cases c2 : e = 1 ∧ (s = 1 ∨ s = 2)
  · rw [if_pos c2] at h; cases h
  rw [if_neg c2] at h ⊢
  by_cases c3 : e = 2 ∧ (s = 1 ∨ s = 2)
  · rw [if_pos c3] at h; cases h
  rw [if_neg c3] at h ⊢
  by_cases c4 : e = 3 ∧ 0 ≤ s ∧ s ≤ 2
  · rw [if_pos c4] at h; cases h
  rw [if_neg c4] at h ⊢
  by_cases c5 : e = 4 ∧ 0 ≤ s ∧ s ≤ 2
  · rw [if_pos c5] at h; cases h
  rw [if_neg c5]
theorem take_snoc {xs : List Int} {k : Nat} {x : Int} (h : xs[k]? = some x) : xs.take (k + 1) = xs.take k ++ [x] := by
  rw [List.take_add_one, h]; rfl

theorem Reads.only {w w' : World} {B size n b : Nat} {A : Option Addr} {xs : List Value} (h : Reads w B size A n xs) (hg : w.grownBy w' (some b)) (hB : B ≤ w.heap.size) (hne : 0 < n → ∀ ad, A = some ad → ad.block ≠ b) : Reads w' B size A n xs :=
  ⟨h.1, fun hn => by
    obtain ⟨ad, e, hb, hc⟩ := h.2 hn
    refine ⟨ad, e, hb, fun j u hu => ?_⟩
    have hj : (ad.add j).block = ad.block := block_of_add ad j
    refine (World.cell?_of_block (hg.block (ad.add j).block (by omega) ?_)).trans (hc j u hu)
    intro e'
    injection e' with e'
    exact hne hn ad e (by omega)⟩

theorem do_any (b : Nat) (s d : Int) (A : Option Addr) (n c B : Nat) (xs : List Int) (w : World) (h : Blk w b 38 #[.int .i64 s, .int .i64 d]) (hr : Reads w B 1 A n (ints xs))
    (hB : B ≤ w.heap.size) (hne : 0 < n → ∀ ad, A = some ad → ad.block ≠ b) (hd : 0 ≤ d) (hdn : d + n ≤ 1000000000000) :
    Calls Try.prog 17 #[.pointer (some ⟨b, 0, none⟩), .slice A n c] w fun e w' => e = .returned (.int .i64 (doN s xs)) ∧
      Blk w' b 38 #[.int .i64 (doS s xs), .int .i64 (d + doN s xs)] ∧ w.grownBy w' (some b) := by
  have hlen := hr.int_len
  have hle := doN_le s xs
  go_enter Try.func17, Try.ntmps17
  go_wp2_with fail
  go_loopw [5, 7, 8, 9, 14] (fun cn _ _ _ i wr => ∃ k : Nat, k ≤ n ∧ i = .int .i64 k ∧ cn = .int .i64 (doN s (xs.take k)) ∧ Blk wr b 38 #[.int .i64 (doS s (xs.take k)), .int .i64 d] ∧ w.grownBy wr (some b))
    (fun _ _ _ _ i _ => n - (intOf i).toNat)
  case atStart => exact ⟨0, Nat.zero_le _, rfl, rfl, h, World.grownBy.refl w _⟩
  case round =>
    obtain ⟨k, hk, rfl, rfl, hb, hg⟩ := hrel
    have c0 := hb.cell 0
    have c1 := hb.cell 1
    have f0 := hb.frozen 0
    have f1 := hb.frozen 1
    simp at c0 c1
    have hkn := doN_le s (xs.take k)
    rw [List.length_take] at hkn
    have HB := Lib.hid hb
    have HG := Lib.hid hg
    clear hb hg hle
    by_cases hlt : k < n
    · obtain ⟨ad, x, rfl, _, hx, hc⟩ := (hr.only HG.out hB hne).int hlt
      have e1 := take_snoc hx
      have hn1 : doN s (xs.take (k + 1)) = doN s (xs.take k) + (if (nextF (doS s (xs.take k)) x).2 then 1 else 0) := by rw [e1, doN_append]; simp [doN]
      have hs1 : doS s (xs.take (k + 1)) = (nextF (doS s (xs.take k)) x).1 := by rw [e1, doS_append]; simp [doS]
      have HN := Lib.hid hn1
      have HS := Lib.hid hs1
      have HX := Lib.hid hx
      have HL := Lib.hid hlen
      clear e1 hn1 hs1 hx hlen
      generalize doS s (xs.take k) = sk at *
      generalize doN s (xs.take k) = nk at *
      by_cases hy : (nextF sk x).2 = true
      · go_wp2_with (go_at_call 7; refine (next_any _ _ _).mono ?_; rintro en w1 ⟨rfl, hb1⟩; have hB1 := Blk.below HB.out hb1 HB.out.lt; have g0 := hB1.cell 0; have k0 := hB1.frozen 0; simp at g0; have HB1 := Lib.hid hB1; clear hB1)
        go_roundw
        case rel =>
          have HX1 := HN.out
          rw [if_pos hy] at HX1
          refine ⟨k + 1, by omega, by go_num, by rw [HX1]; go_num, ?_, ?_⟩
          · have := HB1.out.set_ 0 (.int .i64 (nextF sk x).1)
            rw [HS.out]
            simpa using this
          · exact only_setCell (only_below HG.out hb1) (.inl rfl) _
        case measure => simp [intOf]; omega
      · have hy' : (nextF sk x).2 = false := by simpa using hy
        have HE := Lib.hid (nextF_no hy')
        clear hy
        go_wp2_with (go_at_call 7; refine (next_any _ _ _).mono ?_; rintro en w1 ⟨rfl, hb1⟩; have hB1 := Blk.below HB.out hb1 HB.out.lt; have g0 := hB1.cell 0; have k0 := hB1.frozen 0; simp at g0; have HB1 := Lib.hid hB1; clear hB1)
        go_roundw
        case rel =>
          have HX1 := HN.out
          rw [if_neg (by simp [hy'])] at HX1
          refine ⟨k + 1, by omega, by go_num, by rw [HX1]; rfl, ?_, ?_⟩
          · have := HB1.out
            rw [HS.out, HE.out]
            simpa using this
          · exact only_below HG.out hb1
        case measure => simp [intOf]; omega
    · have e' : xs.take k = xs := by rw [show k = n by omega, ← hlen, List.take_length]
      rw [e'] at c0 HB hkn ⊢
      have hnk : doN s xs ≤ n := by omega
      clear e' hlen hkn
      generalize hsk : doS s xs = sk at c0 HB ⊢
      generalize hcn : doN s xs = nk at hnk ⊢
      have HSK := Lib.hid hsk
      have HNK := Lib.hid hcn
      clear hsk hcn
      go_wp2_with fail
      go_ret
      rw [HSK.out, HNK.out]
      refine ⟨rfl, ?_, only_setCell HG.out (.inl rfl) _⟩
      have := HB.out.set_ 1 (.int .i64 (d + nk))
      simpa using this
end Go.Proofs.Ytnlgmhglekakeaa
