/-
  Every sum and product, within the ends and beyond them; what is handed in stays: the statement MoneySums. No condition.
-/
import Derived.Test.YtkokgdebahgbdaaBigH
import Derived.Test.YtkokgdebahgbdaaLentI
import Derived.Test.YtkokgdebahgbdaaMoneyC
import Derived.Test.YtkokgdebahgbdaaOrd2
import Derived.Test.YtkokgdebahgbdaaOpen
import Derived.Test.YtkokgdebahgbdaaRows
namespace Go.Proofs.Ytkokgdebahgbdaa
open Go.ChangeShapes Go.WideShapes Go.ChangeAt Go.RowKit

/-- money's Acc in block b told V, and keeps o in mind -/
def AccN (w : World) (b : Nat) (V : Int) (o : Bool) (e : Ending) (w' : World) : Prop := e = .returned (.int .i64 V) ∧ Blk w' b 26 #[.bool o] ∧ Keeps [b] w w'
theorem add_k (b : Nat) (o : Bool) (A : Option Addr) (n c : Nat) (xs : List Int) (w : World) (hk : Blk w b 26 #[.bool o]) (B : Nat) (h : Reads w B 1 A n (ints xs)) (hb : ∀ x ∈ xs, IsI64 x) (hn : n ≤ 2000) :
    Calls Try.prog 15 #[.pointer (some ⟨b, 0, none⟩), .slice A n c] w (AccN w b (clampV (sumI xs)) (o || clampO (sumI xs))) :=
  (add_any b o A n c xs w hk B h hb (by omega)).mono fun _ w' ⟨he, hs⟩ => ⟨he, hs.blk hk, (Keeps.refl [b] w).grown hs.grown (fun k e => by injection e with e; exact .inl (by simp [e]))⟩
theorem mul_k (b : Nat) (o : Bool) (x y : Int) (hx : IsI64 x) (hy : IsI64 y) (w : World) (hk : Blk w b 26 #[.bool o]) :
    Calls Try.prog 18 #[.pointer (some ⟨b, 0, none⟩), .int .i64 x, .int .i64 y] w (AccN w b (mulV x y) (o || mulO x y)) := by
  by_cases h : 1152921504606846976 < x.natAbs * y.natAbs
  · refine (mul_beyond _ x y hx hy h w (fun w' => w.setCell ⟨b, 0, none⟩ (.bool true) = w') (fun bl => over_set b o bl w hk)).mono ?_
    rintro e w' ⟨rfl, rfl⟩
    refine ⟨rfl, ?_, (Keeps.refl [b] w).setCell (.inl (by simp)) _⟩
    have := hk.set_ 0 (.bool true)
    rw [(mulV_big h).2, Bool.or_true]
    simpa using this
  · obtain ⟨h1, h2, _⟩ := mulV_small (x := x) (y := y) (by omega)
    refine (mul_in _ x y hx hy (by omega) w).mono ?_
    rintro e w' ⟨rfl, rfl⟩
    rw [h1, h2, Bool.or_false]
    exact ⟨rfl, hk, Keeps.refl _ _⟩
theorem mul_n (x y : Int) (hx : IsI64 x) (hy : IsI64 y) (w : World) :
    Calls Try.prog 18 #[.pointer none, .int .i64 x, .int .i64 y] w fun e w' => e = .returned (.int .i64 (mulV x y)) ∧ w = w' := by
  by_cases h : 1152921504606846976 < x.natAbs * y.natAbs
  · exact mul_beyond none x y hx hy h w (fun w' => w = w') (fun bl => over_nil bl w)
  · obtain ⟨h1, _, _⟩ := mulV_small (x := x) (y := y) (by omega)
    refine (mul_in none x y hx hy (by omega) w).mono ?_
    rintro e w' ⟨rfl, rfl⟩
    rw [h1]
    exact ⟨rfl, rfl⟩
theorem two_keeps {w w' w'' : World} {b : Nat} (h : Keeps [b] w w') (h' : Keeps [b + 1] w' w'') : Keeps [b, b + 1] w w'' :=
  (h.mono (T' := [b, b + 1]) (fun z hz => .inl (by simp at hz; simp [hz]))).trans h' (fun z hz => .inl (by simp at hz; simp [hz]))
theorem Lent.keeps {w w' : World} {B g n cap : Nat} {xs : List Int} {T : List Nat} (h : Lent w B g n cap xs) (hk : Keeps T w w') (hg : g ∉ T) : Lent w' B g n cap xs :=
  ⟨own_keeps h.own hk (fun x hx => by simp [Value.ownBlock] at hx; subst hx; exact hg), h.len, h.room⟩

set_option maxHeartbeats 8000000 in
set_option maxRecDepth 100000 in
theorem moneySums_walk (w : World) (L : Option Addr) (n cl : Nat) (xs : List Int) (h : Reads w w.heap.size 1 L n (ints xs)) (_ : n ≤ cl) (hm : cl ≤ maxLen) (hxs : ∀ x ∈ xs, -9223372036854775808 ≤ x ∧ x ≤ 9223372036854775807)
    (x : Int) (hx : -9223372036854775808 ≤ x ∧ x ≤ 9223372036854775807) (y : Int) (hy : -9223372036854775808 ≤ y ∧ y ≤ 9223372036854775807) (before : Bool) :
    Calls Try.prog 3 #[.slice L n cl, .int .i64 x, .int .i64 y, .bool before] w fun e w' => e = .returned (.bool true) ∧ Below w.heap.size w w' := by
  have hn : n ≤ 9223372036854775807 := by unfold maxLen at hm; omega
  clear hm
  have HX : Hid (IsI64 x) := Lib.hid hx
  have HY : Hid (IsI64 y) := Lib.hid hy
  have HXS : Hid (∀ x ∈ xs, IsI64 x) := Lib.hid hxs
  clear hx hy hxs
  by_cases h2 : 2000 < n
  · go_enter Try.func3, Try.ntmps3
    go_wp2_with fail
    refine (alive_any w).mono ?_
    rintro en w2 ⟨rfl, hb2⟩
    go_wp2_with fail
    go_ret
    exact ⟨rfl, hb2⟩
  · have hn2 : n ≤ 2000 := by omega
    have HH := Lib.hid h
    clear h
    have hA : Blk ((w.alloc (.cells #[.bool before] 26)).alloc (.cells #[.bool before] 28)) w.heap.size 26 #[.bool before] := (Blk.new w _ _).alloc _
    have hR : Blk ((w.alloc (.cells #[.bool before] 26)).alloc (.cells #[.bool before] 28)) (w.heap.size + 1) 28 #[.bool before] := by
      have := Blk.new (w.alloc (.cells #[.bool before] 26)) 28 #[.bool before]
      have e : (w.alloc (.cells #[.bool before] 26)).heap.size = w.heap.size + 1 := by simp
      rw [e] at this
      exact this
    have hk0 : Keeps [] w ((w.alloc (.cells #[.bool before] 26)).alloc (.cells #[.bool before] 28)) := ((Keeps.refl _ _).alloc _).alloc _
    have hs0 : w.heap.size + 2 ≤ ((w.alloc (.cells #[.bool before] 26)).alloc (.cells #[.bool before] 28)).heap.size := by simp
    go_enter Try.func3, Try.ntmps3
    go_wp2_with fail
    generalize (w.alloc (.cells #[.bool before] 26)).alloc (.cells #[.bool before] 28) = w0 at *
    have HA := Lib.hid hA
    have HR := Lib.hid hR
    have HK0 := Lib.hid hk0
    have HS0 := Lib.hid hs0
    have HL0 := Lib.hid (HH.out.keeps hk0 (Nat.le_refl _) (by simp))
    clear hA hR hk0 hs0
    refine (lent_any L n cl xs w0 (HL0.out.more (by have := HS0.out; omega)) (by omega)).mono ?_
    rintro en w1 ⟨g, cap, rfl, hlent, hb1⟩
    have HLE := Lib.hid hlent
    have HA1 := Lib.hid (HA.out.below hb1 HA.out.lt)
    have HR1 := Lib.hid (HR.out.below hb1 HR.out.lt)
    have HK1 := Lib.hid (HK0.out.trans (Keeps.of_below hb1 []) (by simp))
    have HL1 := Lib.hid (HL0.out.below (hb1.mono (by have := HS0.out; omega)))
    have HG := Lib.hid (show w.heap.size + 2 ≤ g from Nat.le_trans HS0.out hlent.lt.1)
    have HS1 := Lib.hid (show w.heap.size + 2 ≤ w1.heap.size from Nat.le_trans HS0.out hb1.size)
    clear hlent hb1
    generalize hbA : w.heap.size = bA at *
    have HBA := Lib.hid hbA
    clear hbA
    have HADD := fun (o : Bool) (w' : World) (hk : Blk w' bA 26 #[.bool o]) (hl : Lent w' w0.heap.size g n cap xs) => add_k bA o _ n cap xs w' hk _ hl.rd HXS.out hn2
    have HSUM := fun (o : Bool) (w' : World) (hk : Blk w' (bA + 1) 28 #[.bool o]) (hl : Reads w' bA 1 L n (ints xs)) (hs : bA ≤ w'.heap.size) => sum_any (bA + 1) o L n cl xs w' hk (hl.more hs) HXS.out hn2
    have HNIL := fun (w' : World) (hl : Reads w' bA 1 L n (ints xs)) => add_nil L n cl xs w' bA hl HXS.out (by omega)
    generalize clampV (sumI xs) = cv at *
    generalize hob : (before || clampO (sumI xs)) = ob at *
    have HADD1 := HADD before
    have HSUM1 := HSUM before
    rw [hob] at HADD1 HSUM1
    generalize clampO (sumI xs) = co at *
    have HADDH := Lib.hid HADD1
    have HSUMH := Lib.hid HSUM1
    have HSUMO := Lib.hid HSUM
    have HNILH := Lib.hid HNIL
    clear HADD HSUM HADD1 HSUM1 HNIL hob
    go_wp2_with fail
    refine wp_region_two ((0, false) :: (1, false) :: (3, false) :: (4, false) :: (2, true) :: (5, true) :: []) ((6, false) :: (7, false) :: (8, false) :: (9, false) :: (10, false) :: (11, false) :: (12, false) :: (13, false) :: (14, false) :: (15, false) :: (16, false) :: (17, false) :: (18, false) :: (19, false) :: (20, false) :: (21, true) :: (22, false) :: (23, false) :: []) (fun w => w.cell? ⟨bA, 0, none⟩ = some (.bool ob) ∧ w.cell? ⟨bA + 1, 0, none⟩ = some (.bool ob)) (by kernel_rfl) (by kernel_rfl) (by kernel_rfl) (by kernel_rfl) (by kernel_rfl) (fun _ _ d _ _ h => by cases d <;> exact h) ?_
    iterate 4 (refine wpPre_take (v := ?_) (by simp only [List.getElem?_toArray, List.getElem?_cons_succ, List.getElem?_cons_zero]; rfl) (by rfl) ?_ ?_; rotate_left; (· (intro w; go_simp; try with_reducible rfl)); (simp only [Act.put, List.setIfInBounds_toArray, List.set_cons_zero, List.set_cons_succ]))
    refine wpPre_alone (by simp only [List.getElem?_toArray, List.getElem?_cons_succ, List.getElem?_cons_zero]; rfl) (fun K hK => ?_)
    go_simp
    (go_at_call 15; refine (HADDH.out _ (Blk.drew HA1.out) (HLE.out.keeps ((Keeps.refl [] _).drew) (by simp))).mono ?_; rintro e w2 ⟨rfl, hk2, hkp2⟩)
    have HA2 := Lib.hid hk2
    have HK2 := Lib.hid (((Keeps.refl [bA] w1).drew).trans hkp2 (fun z hz => .inl hz))
    refine hK.out _ _ ?_
    clear hK K hk2 hkp2
    refine wpPre_alone (by simp only [List.getElem?_toArray, List.getElem?_cons_succ, List.getElem?_cons_zero]; rfl) (fun K hK => ?_)
    go_simp
    (go_at_call 16; refine (HSUMH.out _ (HR1.out.keeps HK2.out (by simp)) (HL1.out.keeps HK2.out (by have := HS1.out; omega) (by simp)) (by have := HS1.out; have := HK2.out.size; omega)).mono ?_; rintro e w3 ⟨rfl, hk3, hkp3⟩)
    have hca := (HA2.out.keeps hkp3 (by simp)).cell 0
    have hcr := hk3.cell 0
    have HA3 := Lib.hid (HA2.out.keeps hkp3 (by simp))
    have HR3 := Lib.hid hk3
    have HK3 := Lib.hid (two_keeps HK2.out hkp3)
    refine hK.out _ _ ?_
    clear hK K hk3 hkp3
    refine wpPre_done ?_
    refine ⟨⟨hca, hcr⟩, ?_⟩
    iterate 15 (first | (refine wpOrd_skip (by simp only [List.getElem?_toArray, List.getElem?_cons_succ, List.getElem?_cons_zero]; rfl) (by rfl) ?_; (simp only [Act.put, List.setIfInBounds_toArray, List.set_cons_zero, List.set_cons_succ])) | (refine wpOrd_take (v := ?_) (by simp only [List.getElem?_toArray, List.getElem?_cons_succ, List.getElem?_cons_zero]; rfl) (by rfl) ?_ ?_; rotate_left; (· (intro w hSw; (try dsimp only at hSw); go_simp; try with_reducible rfl)); (simp only [Act.put, List.setIfInBounds_toArray, List.set_cons_zero, List.set_cons_succ])))
    refine wpOrd_alone (by simp only [List.getElem?_toArray, List.getElem?_cons_succ, List.getElem?_cons_zero]; rfl) (fun K hK => ?_)
    go_simp
    (go_at_call 17; refine (stays_any g L n cap cl w0.heap.size xs _ (HLE.out.keeps HK3.out (by have := HG.out; simp; omega)) _ (HL1.out.keeps HK3.out (by have := HS1.out; omega) (by simp)) (by omega)).mono ?_; rintro e w4 ⟨rfl, m4, hw4⟩)
    have HA4 : Hid (Blk w4 bA 26 #[.bool ob]) := Lib.hid (by rw [← hw4]; exact Blk.drewN HA3.out m4)
    have HR4 : Hid (Blk w4 (bA + 1) 28 #[.bool ob]) := Lib.hid (by rw [← hw4]; exact Blk.drewN HR3.out m4)
    have HK4 : Hid (Keeps [bA, bA + 1] w1 w4) := Lib.hid (by rw [← hw4]; exact HK3.out.drewN m4)
    refine hK.out _ _ ⟨HA4.out.cell 0, HR4.out.cell 0⟩ (fun hHeld => ?_)
    clear hK K hw4 hca hcr hHeld
    iterate 2 (first | (refine wpOrd_skip (by simp only [List.getElem?_toArray, List.getElem?_cons_succ, List.getElem?_cons_zero]; rfl) (by rfl) ?_; (simp only [Act.put, List.setIfInBounds_toArray, List.set_cons_zero, List.set_cons_succ])) | (refine wpOrd_take (v := ?_) (by simp only [List.getElem?_toArray, List.getElem?_cons_succ, List.getElem?_cons_zero]; rfl) (by rfl) ?_ ?_; rotate_left; (· (intro w hSw; (try dsimp only at hSw); go_simp; try with_reducible rfl)); (simp only [Act.put, List.setIfInBounds_toArray, List.set_cons_zero, List.set_cons_succ])))
    refine wpOrd_done ?_
    go_wp2_with fail
    have HMUL := Lib.hid (fun (o : Bool) (w' : World) (hk : Blk w' bA 26 #[.bool o]) => mul_k bA o x y HX.out HY.out w' hk)
    have HPRO := Lib.hid (fun (o : Bool) (w' : World) (hk : Blk w' (bA + 1) 28 #[.bool o]) => product_any (bA + 1) o x y HX.out HY.out w' hk)
    have HMNL := Lib.hid (fun (w' : World) => mul_n x y HX.out HY.out w')
    generalize mulV x y = mv at *
    generalize mulO x y = mo at *
    obtain ⟨oz, hoz⟩ : ∃ oz, (ob || mo) = oz := ⟨_, rfl⟩
    have HM1 := HMUL.out ob
    have HP1 := HPRO.out ob
    rw [hoz] at HM1 HP1
    have HMH := Lib.hid HM1
    have HPH := Lib.hid HP1
    clear HM1 HP1 hoz
    refine wp_region_two ((0, false) :: (1, false) :: (2, false) :: (4, false) :: (5, false) :: (6, false) :: (3, true) :: (7, true) :: []) ((8, false) :: (9, false) :: (10, false) :: (11, false) :: (12, false) :: (13, false) :: (14, false) :: (15, false) :: (16, false) :: (17, false) :: (18, false) :: (19, false) :: []) (fun w => w.cell? ⟨bA, 0, none⟩ = some (.bool oz) ∧ w.cell? ⟨bA + 1, 0, none⟩ = some (.bool oz)) (by kernel_rfl) (by kernel_rfl) (by kernel_rfl) (by kernel_rfl) (by kernel_rfl) (fun _ _ d _ _ h => by cases d <;> exact h) ?_
    iterate 6 (refine wpPre_take (v := ?_) (by simp only [List.getElem?_toArray, List.getElem?_cons_succ, List.getElem?_cons_zero]; rfl) (by rfl) ?_ ?_; rotate_left; (· (intro w; go_simp; try with_reducible rfl)); (simp only [Act.put, List.setIfInBounds_toArray, List.set_cons_zero, List.set_cons_succ]))
    refine wpPre_alone (by simp only [List.getElem?_toArray, List.getElem?_cons_succ, List.getElem?_cons_zero]; rfl) (fun K hK => ?_)
    go_simp
    (go_at_call 18; refine (HMH.out _ (Blk.drew HA4.out)).mono ?_; rintro e w5 ⟨rfl, hk5, hkp5⟩)
    have HA5 := Lib.hid hk5
    have HK5 := Lib.hid (((Keeps.refl [bA] w4).drew).trans hkp5 (fun z hz => .inl hz))
    refine hK.out _ _ ?_
    clear hK K hk5 hkp5
    refine wpPre_alone (by simp only [List.getElem?_toArray, List.getElem?_cons_succ, List.getElem?_cons_zero]; rfl) (fun K hK => ?_)
    go_simp
    (go_at_call 19; refine (HPH.out _ (HR4.out.keeps HK5.out (by simp))).mono ?_; rintro e w6 ⟨rfl, hk6, hkp6⟩)
    have hca := (HA5.out.keeps hkp6 (by simp)).cell 0
    have hcr := hk6.cell 0
    have HR6 := Lib.hid hk6
    have HK6 := Lib.hid (HK4.out.trans (two_keeps HK5.out hkp6) (fun z hz => .inl hz))
    refine hK.out _ _ ?_
    clear hK K hk6 hkp6
    refine wpPre_done ?_
    refine ⟨⟨hca, hcr⟩, ?_⟩
    clear hca hcr
    iterate 12 (first | (refine wpOrd_skip (by simp only [List.getElem?_toArray, List.getElem?_cons_succ, List.getElem?_cons_zero]; rfl) (by rfl) ?_; (simp only [Act.put, List.setIfInBounds_toArray, List.set_cons_zero, List.set_cons_succ])) | (refine wpOrd_take (v := ?_) (by simp only [List.getElem?_toArray, List.getElem?_cons_succ, List.getElem?_cons_zero]; rfl) (by rfl) ?_ ?_; rotate_left; (· (intro w hSw; (try dsimp only at hSw); go_simp; try with_reducible rfl)); (simp only [Act.put, List.setIfInBounds_toArray, List.set_cons_zero, List.set_cons_succ])))
    refine wpOrd_done ?_
    go_wp2_with fail
    refine (alive_any _).mono ?_
    rintro en w7 ⟨rfl, hb7⟩
    have HR7 := Lib.hid (HR6.out.below hb7 HR6.out.lt)
    have HK7 := Lib.hid (HK6.out.trans (Keeps.of_below hb7 []) (by simp))
    clear hb7
    go_wp2_with fail
    refine (HNILH.out _ (HL1.out.keeps HK7.out (by have := HS1.out; omega) (by simp))).mono ?_
    rintro en w8 ⟨rfl, rfl⟩
    go_wp2_with fail
    refine (HSUMO.out _ _ HR7.out (HL1.out.keeps HK7.out (by have := HS1.out; omega) (by simp)) (by have := HS1.out; have := HK7.out.size; omega)).mono ?_
    rintro en w8 ⟨rfl, hk8, hkp8⟩
    have HR8 := Lib.hid hk8
    have HK8 := Lib.hid (HK7.out.trans hkp8 (fun z hz => .inl (by simp at hz; simp [hz])))
    clear hk8 hkp8
    have q1 : (cv == cv) = true := by simp
    go_wp2_with fail
    refine (HMNL.out _).mono ?_
    rintro en w9 ⟨rfl, rfl⟩
    go_wp2_with fail
    refine (HPRO.out _ _ HR8.out).mono ?_
    rintro en w9 ⟨rfl, _, hkp9⟩
    have HK9 := Lib.hid (HK8.out.trans hkp9 (fun z hz => .inl (by simp at hz; simp [hz])))
    clear hkp9
    have q2 : (mv == mv) = true := by simp
    go_wp2_with fail
    go_ret
    refine ⟨rfl, ?_⟩
    rw [HBA.out]
    have hk := HK1.out
    have hs := HBA.out
    exact (hk.trans HK9.out (T' := [bA, bA + 1]) (fun z hz => .inr (by simp at hz; omega))).below (by simp) (by omega)

/-! ### THE ROW's STEP -/
theorem moneySums_own : ownKnob Try.prog.godebug = none := by kernel_rfl
theorem moneySums_laidOut : laidOutB Try.prog = true := by kernel_rfl
set_option maxRecDepth 100000 in
theorem moneySums_lifted (os : Os) (started : os.Started) (H : Type) (enc : TypeId × Value → H) :
    ReturnsInHanded {} Try.checked os 3 .any (Rows.moneySumsSpec.pre6 enc Try.prog Try.f3 Rows.moneySumsRow.domain false) (Rows.moneySumsSpec.post enc Try.prog Try.f3 false true false false) := by
  refine returnsInHanded_of_change (C := Try.checked) moneySums_own started (by kernel_rfl) Try.func3
    (ChangeSpec.witness6 (enc := enc) (C := Try.checked) false ⟨#[], #[.slice none 0 0, .int .i64 0, .int .i64 0, .bool false], []⟩ 8 (by kernel_rfl) (by kernel_rfl) (by kernel_rfl) (by kernel_rfl)) ?_
  intro W base args ds gs before hval0 hW hcnd _
  have hval : ∀ (j : Nat) t v, Try.f3.params[j]? = some t → args[j]? = some v → Value.okWide Try.prog W .any base t v := hval0
  have hW' := hW
  obtain ⟨p, q, hA0, hV, rfl, hfz, hnd⟩ := hW
  have hA : DataW.TrodAll enc Try.prog W 0 (fun _ => true) true Try.f3.params.toList args.toList ds p := hA0
  rw [Try.params3] at hA hval
  obtain ⟨v0, vs0, d0, ds0, p0, q0, hargs, rfl, rfl, h0, r_0⟩ := trodAll_cons hA
  obtain ⟨v1, vs1, d1, ds1, p1, q1, rfl, rfl, rfl, h1, r_1⟩ := trodAll_cons r_0
  obtain ⟨v2, vs2, d2, ds2, p2, q2, rfl, rfl, rfl, h2, r_2⟩ := trodAll_cons r_1
  obtain ⟨v3, vs3, d3, ds3, p3, q3, rfl, rfl, rfl, h3, r_3⟩ := trodAll_cons r_2
  obtain ⟨rfl, rfl, rfl⟩ := trodAll_nil r_3
  obtain rfl : args = #[v0, v1, v2, v3] := by cases args; simp_all
  obtain ⟨A0, n0, c0, x0, rfl, r0, l0, m0, z0⟩ := open_slice_ints Try.underlying22 Try.underlying3 (by kernel_rfl) (hval 0 22 v0 rfl rfl) h0
  obtain ⟨a1, rfl, rfl, rfl, w1⟩ := open_int Try.underlying3 (hval 1 3 v1 rfl rfl) h1
  have b1 := bounds_of_wf w1
  obtain ⟨a2, rfl, rfl, rfl, w2⟩ := open_int Try.underlying3 (hval 2 3 v2 rfl rfl) h2
  have b2 := bounds_of_wf w2
  obtain ⟨a3, rfl, rfl, rfl⟩ := open_bool Try.underlying4 (hval 3 4 v3 rfl rfl) h3
  clear hA0 hval0
  refine (moneySums_walk W A0 n0 c0 x0 r0 l0 m0 z0 a1 b1 a2 b2 a3).mono fun e W' ⟨he, bel⟩ => ?_
  subst he
  exact ⟨_, rfl, post_true moneySums_laidOut (by kernel_rfl) rfl Try.underlying4 rfl hW' (by
    intro es he
    match es, he with
    | [e0, e1, e2, e3], _ => rfl) bel⟩

theorem moneySums_over : Rows.moneySumsRow.holds Try.pinned (OpenSpec.ofChange Rows.moneySumsSpec) :=
  OpenClaim.holds_of_wide 3 Try.f3 rfl rfl rfl rfl rfl rfl rfl ⟨rfl, rfl, rfl, rfl, rfl⟩ rfl rfl rfl rfl rfl (by kernel_rfl) Try.func3 (by kernel_rfl)
    (of_decide_eq_true (by kernel_rfl)) (by unfold Func.isWrapper; first | (rw [if_pos (by decide +kernel)]; kernel_rfl) | (rw [if_neg (by decide +kernel)]; exact ⟨rfl, rfl⟩))
    (fun os started H enc _ => moneySums_lifted os started H enc)

theorem moneySums_holds : Rows.MoneySumsSaid := moneySums_over
end Go.Proofs.Ytkokgdebahgbdaa
