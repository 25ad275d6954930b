/-
  Joining in another order, in pieces or at once ends the same; being in one class goes on from number to number; each number is in one class: the statement UfJoins. No condition.
-/
import Derived.Test.YtnekdddcpiiogaaUfK
import Derived.Test.YtnekdddcpiiogaaOrd
import Derived.IntWalk
import Derived.Test.YtnekdddcpiiogaaOpen
import Derived.Test.YtnekdddcpiiogaaRows
namespace Go.Proofs.Ytnekdddcpiiogaa
open Go.ChangeShapes Go.WideShapes Go.ChangeAt Go.RowKit

theorem Reads.natAt {w : World} {B n k : Nat} {A : Option Addr} {u : List Nat} (h : Reads w B 1 A n (ints (u.map Int.ofNat))) (hk : k < n) :
    ∃ ad, A = some ad ∧ ad.block < B ∧ w.cell? (ad.add k) = some (.int .i64 (u.getD k 0 : Int)) := by
  rw [← nats_ints] at h
  exact h.nat hk

/-- fewer classes by so many -/
def Few (n : Nat) (u : List Nat) (F : Nat) : Prop := (Uf.heads u).length + F = n
theorem Few.step {n F x y : Nat} {u : List Nat} (h : Few n u F) (g : Uf.Good u) (hx : 1 ≤ x ∧ x ≤ u.length) (hy : 1 ≤ y ∧ y ≤ u.length) : Few n (Uf.step u x y) (F + Uf.more u x y) := by
  unfold Few at *
  have := Uf.heads_step g hx hy
  omega

theorem Keeps.far {T : List Nat} {w w' : World} (hk : Keeps T w w') {p : Addr} (h1 : p.block < w.heap.size) (h2 : p.block ∉ T) : w'.cell? p = w.cell? p := World.cell?_of_block (hk.block _ h1 h2)

/-- two numbers joined, written out in a new block -/
theorem join_two (b g : Nat) (u : List Nat) (A : Option Addr) (c : Nat) (x y : Nat) (w : World) (h : UfAt w b g u A c) (hgood : Uf.Good u) (hbig : u.length ≤ 1000) (hx : 1 ≤ x ∧ x ≤ u.length) (hy : 1 ≤ y ∧ y ≤ u.length) :
    Calls Try.prog 9 #[.pointer (some ⟨b, 0, none⟩), .slice (some ⟨w.heap.size, 0, none⟩) 2 2] (w.alloc (.cells #[.int .i64 (x : Int), .int .i64 (y : Int)] 3)).drew
      fun e w' => e = .returned (.tuple #[.int .i64 (Uf.more u x y : Int), .int .i64 0]) ∧ UfAt w' b g (Uf.step u x y) A c ∧ Keeps [b, g] w w' := by
  have hlt := h.lt
  have hr := reads_new w 3 #[.int .i64 (x : Int), .int .i64 (y : Int)] (xs := nats [x, y]) rfl rfl
  refine (join_in b g u A c _ 2 2 (w.heap.size + 1) x [x, y] _ ((h.alloc _).keeps ((Keeps.refl [] _).drew) (by simp) (by simp)) hgood hbig (hr.drewN 1) (by simp) (by intro ad e _; injection e with e; subst e; simp; omega) (by intro z hz; simp at hz; rcases hz with rfl | rfl <;> assumption) rfl (by omega)).mono ?_
  rintro en w' ⟨rfl, hu, hk⟩
  rw [joinU_pair] at hu
  rw [joinC_pair]
  exact ⟨rfl, hu, (((Keeps.refl [b, g] w).alloc _).drew).trans hk (fun z hz => .inl hz)⟩

/-- what holds behind the classes: the joined numbers, and that nothing older has turned -/
structure JS (b g : Nat) (u : List Nat) (A : Option Addr) (c : Nat) (w0 w : World) : Prop where
  uf : UfAt w b g u A c
  be : Below w0.heap.size w0 w
theorem JS.below {b g : Nat} {u : List Nat} {A : Option Addr} {c : Nat} {w0 w w' : World} (h : JS b g u A c w0 w) (hb : Below w.heap.size w w') : JS b g u A c w0 w' :=
  ⟨h.uf.below hb, h.be.trans (hb.mono h.be.size)⟩
theorem JS.drewN {b g : Nat} {u : List Nat} {A : Option Addr} {c : Nat} {w0 w : World} (h : JS b g u A c w0 w) (m : Nat) : JS b g u A c w0 (w.drewN m) := h.below (below_drewN (Below.refl _ _) m)
theorem JS.alloc {b g : Nat} {u : List Nat} {A : Option Addr} {c : Nat} {w0 w : World} (h : JS b g u A c w0 w) (o : Obj) : JS b g u A c w0 ((w.alloc o).drew) :=
  h.below (below_drewN ((Below.refl _ _).alloc (Nat.le_refl _) o) 1)
/-- one of the lists, where it lies -/
theorem RowsR.rowAt {w : World} {B base : Nat} {L : Option Addr} {xss : List (List Nat)} (h : RowsR w B base L xss) {k : Nat} (hk : k < xss.length) :
    ∃ ad A cap, L = some ad ∧ ad.block < B ∧ w.cell? (ad.add k) = some (.slice A (xss.getD k []).length cap) ∧ Reads w B 1 A (xss.getD k []).length (nats (xss.getD k [])) := by
  obtain ⟨vs, hr, _, hrow⟩ := h
  obtain ⟨ad, u, e, hb, hu, hc⟩ := hr.at_ hk
  have hx : xss[k]? = some (xss.getD k []) := by rw [List.getD_eq_getElem?_getD, List.getElem?_eq_getElem hk]; rfl
  obtain ⟨A, cap, h1, h2, h3, h4, _⟩ := hrow k _ hx
  rw [h1] at hu
  injection hu with hu
  subst hu
  exact ⟨ad, A, cap, e, hb, hc, h4⟩
theorem add_zero_ (ad : Addr) : ad.add 0 = ad := by unfold Addr.add; simp
theorem below_cellAt {B : Nat} {w w' : World} (h : Below B w w') {ad : Addr} {k : Nat} (hl : ad.block < B) : w'.cell? (ad.add k) = w.cell? (ad.add k) := h.cell (by rw [block_of_add]; exact hl)

set_option maxHeartbeats 4000000 in
set_option maxRecDepth 100000 in
theorem ufJoins_walk (w : World) (n : Int) (_ : -9223372036854775808 ≤ n ∧ n ≤ 9223372036854775807)
    (L : Option Addr) (k cl : Nat) (xs : List Int) (h : Reads w w.heap.size 1 L k (ints xs)) (hl : k ≤ cl) (hm : cl ≤ maxLen) (_ : ∀ x ∈ xs, -9223372036854775808 ≤ x ∧ x ≤ 9223372036854775807) :
    Calls Try.prog 3 #[.int .i64 n, .slice L k cl] w fun e w' => e = .returned (.bool true) ∧ Below w.heap.size w w' := by
  have hn : k ≤ 9223372036854775807 := by unfold maxLen at hm; omega
  clear hm
  by_cases hg : n < 1 ∨ 40 < n ∨ 60 < k
  · by_cases g0 : n < 1
    · go_enter Try.func3, Try.ntmps3
      go_wp2_with fail
      refine (alive_any w).mono ?_
      rintro en w2 ⟨rfl, hb2⟩
      go_wp2_with fail
      go_ret
      exact ⟨rfl, hb2⟩
    · by_cases g1 : 40 < n
      · go_enter Try.func3, Try.ntmps3
        go_wp2_with fail
        refine (alive_any w).mono ?_
        rintro en w2 ⟨rfl, hb2⟩
        go_wp2_with fail
        go_ret
        exact ⟨rfl, hb2⟩
      · have g4 : 60 < k := by omega
        clear hg
        go_enter Try.func3, Try.ntmps3
        go_wp2_with fail
        refine (alive_any w).mono ?_
        rintro en w2 ⟨rfl, hb2⟩
        go_wp2_with fail
        go_ret
        exact ⟨rfl, hb2⟩
  · obtain ⟨n, rfl⟩ := Int.eq_ofNat_of_zero_le (show 0 ≤ n by omega)
    have n0 : 1 ≤ n := by omega
    have n1 : n ≤ 40 := by omega
    have k1 : k ≤ 60 := by omega
    clear hg hl
    have HL := Lib.hid h.int_len
    go_enter Try.func3, Try.ntmps3
    go_wp2_with fail
    refine (new_in n (by omega) w).mono ?_
    rintro en w1 ⟨rfl, g, A, c, hu, hb, hg⟩
    have HU := Lib.hid hu
    have HB := Lib.hid hb
    have HG := Lib.hid hg
    clear hu hb hg
    generalize hb0 : w.heap.size = b at *
    have HB0 := Lib.hid hb0
    clear hb0
    go_wp2_with fail
    refine (new_in n (by omega) w1).mono ?_
    rintro en w2 ⟨rfl, g', A', c', hu, hb, hg⟩
    have HU' := Lib.hid hu
    have HB' := Lib.hid hb
    have HG' := Lib.hid hg
    have HUA := Lib.hid (HU.out.below hb)
    have HLT := Lib.hid HU.out.lt
    clear hu hb hg
    generalize hb1 : w1.heap.size = b' at *
    have HB1 := Lib.hid hb1
    clear hb1
    have HR := Lib.hid ((h.below HB.out).below (HB'.out.mono (by have := HB.out.size; have := HB0.out; have := HB1.out; omega)))
    have HBW := Lib.hid (HB.out.trans (HB'.out.mono (by have := HB.out.size; have := HB0.out; have := HB1.out; omega)))
    have HSZ2 := Lib.hid (show b ≤ w2.heap.size from by have := HBW.out.size; have := HB0.out; omega)
    clear h
    go_wp2_with fail
    go_loop [9] (fun iv => ∃ t : Nat, t ≤ k ∧ iv = .int .i64 t ∧ ∀ j, j < t → 1 ≤ xs.getD j 0 ∧ xs.getD j 0 ≤ n) (fun iv => k - (intOf iv).toNat)
    case atStart => exact ⟨0, Nat.zero_le _, rfl, by intro j hj; omega⟩
    case round =>
      obtain ⟨t, ht, rfl, hall⟩ := hrel
      by_cases hlt : t < k
      · obtain ⟨ad, x, rfl, _, hx, hc⟩ := HR.out.int hlt
        have hxe : xs.getD t 0 = x := by rw [List.getD_eq_getElem?_getD, hx]; rfl
        have HX := Lib.hid hxe
        have HALL := Lib.hid hall
        clear hx hxe hall
        by_cases hx1 : x < 1
        · go_wp2_with fail
          refine (alive_any _).mono ?_
          rintro en w7 ⟨rfl, hb7⟩
          go_wp2_with fail
          go_ret
          refine ⟨rfl, ?_⟩
          rw [HB0.out]
          exact HBW.out.trans (hb7.mono HSZ2.out)
        · by_cases hx2 : (n : Int) < x
          · go_wp2_with fail
            refine (alive_any _).mono ?_
            rintro en w7 ⟨rfl, hb7⟩
            go_wp2_with fail
            go_ret
            refine ⟨rfl, ?_⟩
            rw [HB0.out]
            exact HBW.out.trans (hb7.mono HSZ2.out)
          · go_wp2_with fail
            go_round
            case rel => 
              refine ⟨t + 1, by omega, by go_num, fun j hj => ?_⟩
              by_cases e : j = t
              · subst e; rw [HX.out]; omega
              · exact HALL.out j (by omega)
            case measure => simp [intOf]; omega
      · obtain rfl : t = k := by omega
        obtain ⟨ys, hys, hin⟩ : ∃ ys : List Nat, xs = ys.map Int.ofNat ∧ ∀ y ∈ ys, 1 ≤ y ∧ y ≤ n := by
          have := nats_of_in (u := Uf.fresh n) xs (by
            intro x hx
            obtain ⟨j, hj, e⟩ := List.mem_iff_getElem.1 hx
            have h1 := hall j (by rw [HL.out] at hj; exact hj)
            rw [List.getD_eq_getElem?_getD, List.getElem?_eq_getElem hj] at h1
            simp only [Option.getD_some] at h1
            rw [e] at h1
            simp [inU, Uf.fresh_length]
            omega)
          obtain ⟨ys, e, hy⟩ := this
          exact ⟨ys, e, by intro y hy'; have := hy y hy'; rw [Uf.fresh_length] at this; exact this⟩
        subst hys
        have hyl : ys.length = t := by have := HL.out; simpa using this
        have HYL := Lib.hid hyl
        have HIN := Lib.hid hin
        clear hyl hin hall hlt
        obtain ⟨m, hm⟩ : ∃ m, m = t / 2 := ⟨_, rfl⟩
        have m1 : 2 * m ≤ t := by omega
        have m2 : t ≤ 2 * m + 1 := by omega
        clear hm ht
        go_wp2_with fail
        go_loopw [10, 11, 12, 13] (fun fv iv _ _ wr => ∃ (q F : Nat), q ≤ m ∧ iv = .int .i64 (2 * (q : Int)) ∧ fv = .int .i64 (F : Int) ∧ Few n (Uf.joins (Uf.fresh n) (Uf.prs ys q)) F ∧ UfAt wr b g (Uf.joins (Uf.fresh n) (Uf.prs ys q)) A c ∧ Keeps [b, g] w2 wr) (fun _ iv _ _ _ => t - (intOf iv).toNat)
        case atStart => exact ⟨0, 0, Nat.zero_le _, rfl, rfl, by unfold Few; have := Uf.heads_fresh n; simpa [Uf.prs, Uf.joins] using this, HUA.out, Keeps.refl _ _⟩
        case round =>
          obtain ⟨q, F, hq, rfl, rfl, hfew, hu, hk⟩ := hrel
          obtain ⟨i, hi⟩ : ∃ i, 2 * q = i := ⟨_, rfl⟩
          have e2i : 2 * (q : Int) = (i : Int) := by omega
          have E2I := Lib.hid e2i
          rw [e2i]
          clear e2i
          have hgood : Uf.Good (Uf.joins (Uf.fresh n) (Uf.prs ys q)) := Uf.good_joins (Uf.fresh_good n) (by rw [Uf.fresh_length]; exact Uf.prs_in HIN.out (by rw [HYL.out]; omega))
          have hlen : (Uf.joins (Uf.fresh n) (Uf.prs ys q)).length = n := by rw [Uf.joins_length, Uf.fresh_length]
          have hF : F ≤ n := by unfold Few at hfew; omega
          have HFEW := Lib.hid hfew
          have HUR := Lib.hid hu
          have HKR := Lib.hid hk
          have HGD := Lib.hid hgood
          have HLN := Lib.hid hlen
          have HRR := Lib.hid (HR.out.keepsFar hk (by have := HB'.out.size; have := HB.out.size; have := HB0.out; have := HB1.out; have := HBW.out.size; omega) (by intro ad _ hlb; have := HG.out; simp; omega))
          clear hfew hu hk hgood hlen
          by_cases hlt : i + 1 < t
          · have hqm : q < m := by omega
            have hcx := HRR.out.natAt (k := i) (by omega)
            have hcy := HRR.out.natAt (k := i + 1) (by omega)
            obtain ⟨ad, rfl, hadb, hcx⟩ := hcx
            obtain ⟨ad', e, _, hcy⟩ := hcy
            injection e with e
            subst e
            have hxb := Uf.getD_in HIN.out (k := i) (by rw [HYL.out]; omega)
            have hyb := Uf.getD_in HIN.out (k := i + 1) (by rw [HYL.out]; omega)
            have hsucc := Uf.prs_succ ys q
            rw [hi] at hsucc
            have HSC := Lib.hid (show Uf.joins (Uf.fresh n) (Uf.prs ys (q + 1)) = Uf.step (Uf.joins (Uf.fresh n) (Uf.prs ys q)) (ys.getD i 0) (ys.getD (i + 1) 0) from by rw [hsucc, Uf.joins_snoc])
            have HI := Lib.hid hi
            clear hsucc hi
            generalize ys.getD i 0 = x at *
            generalize ys.getD (i + 1) 0 = y at *
            generalize Uf.joins (Uf.fresh n) (Uf.prs ys q) = u at *
            have hlt' : (i : Int) + 1 < (t : Int) := by omega
            go_wp2_with fail
            obtain ⟨i1, hi1⟩ : ∃ i1, i + 1 = i1 := ⟨_, rfl⟩
            have hwr : IntKind.i64.wrap ((i : Int) + 1) = (i1 : Int) := by rw [IntWalk.i64_in _ (by omega)]; omega
            rw [hi1] at hcy
            have hi1t : i1 < t := by omega
            have hit : i < t := by omega
            clear hi1
            have hw0 : 0 ≤ (i1 : Int) := by omega
            refine wp_region_ord ((0, false) :: (1, false) :: (2, false) :: (3, false) :: (4, false) :: (5, false) :: (6, false) :: (7, false) :: (8, false) :: (9, false) :: (10, true) :: (11, true) :: (12, false) :: (13, false) :: (14, false) :: (15, false) :: (16, false) :: []) (fun w => w.cell? (ad.add i) = some (.int .i64 (x : Int)) ∧ w.cell? (ad.add i1) = some (.int .i64 (y : Int))) (by kernel_rfl) (by kernel_rfl) (by kernel_rfl) (by kernel_rfl) (fun _ _ d _ _ h => by cases d <;> exact h) ?_ (fun hHeld => ?_)
            · exact ⟨hcx, hcy⟩
            iterate 10 (first | (refine wpOrd_skip (by simp only [List.getElem?_toArray, List.getElem?_cons_succ, List.getElem?_cons_zero]; rfl) (by rfl) ?_; (simp only [Act.put, List.setIfInBounds_toArray, List.set_cons_zero, List.set_cons_succ])) | (refine wpOrd_take (v := ?_) (by simp only [List.getElem?_toArray, List.getElem?_cons_succ, List.getElem?_cons_zero]; rfl) (by rfl) ?_ ?_; rotate_left; (· (intro w hSw; (try dsimp only at hSw); go_simp; try with_reducible rfl)); (simp only [Act.put, List.setIfInBounds_toArray, List.set_cons_zero, List.set_cons_succ])))
            refine wpOrd_alone (by simp only [List.getElem?_toArray, List.getElem?_cons_succ, List.getElem?_cons_zero]; rfl) (fun K hK => ?_)
            go_simp
            have hsb : b ≤ wr.heap.size := by have := HKR.out.size; have := HSZ2.out; omega
            have hnb := HG.out
            have hnu : u.length = n := HLN.out
            refine hK.out _ _ ⟨(World.cell?_alloc_lt wr _ _ (by rw [block_of_add]; omega)).trans hHeld.1, (World.cell?_alloc_lt wr _ _ (by rw [block_of_add]; omega)).trans hHeld.2⟩ (fun hHeld => ?_)
            clear hK K
            refine wpOrd_alone (by simp only [List.getElem?_toArray, List.getElem?_cons_succ, List.getElem?_cons_zero]; rfl) (fun K hK => ?_)
            go_simp
            (go_at_call 9; refine (join_two b g u A c x y wr HUR.out HGD.out (by omega) (by omega) (by omega)).mono ?_; rintro e w' ⟨rfl, hu2, hk2⟩)
            refine hK.out _ _ ⟨?_, ?_⟩ (fun hHeld => ?_)
            · exact (hk2.far (by rw [block_of_add]; omega) (by rw [block_of_add]; simp; omega)).trans hcx
            · exact (hk2.far (by rw [block_of_add]; omega) (by rw [block_of_add]; simp; omega)).trans hcy
            clear hK K
            have HU2 := Lib.hid hu2
            have HK2 := Lib.hid hk2
            have hmore : Uf.more u x y ≤ 1 := by unfold Uf.more; split <;> omega
            have HFW := Lib.hid (Few.step HFEW.out HGD.out (x := x) (y := y) (by omega) (by omega))
            clear hu2 hk2 hsb hnb hnu
            iterate 5 (first | (refine wpOrd_skip (by simp only [List.getElem?_toArray, List.getElem?_cons_succ, List.getElem?_cons_zero]; rfl) (by rfl) ?_; (simp only [Act.put, List.setIfInBounds_toArray, List.set_cons_zero, List.set_cons_succ])) | (refine wpOrd_take (v := ?_) (by simp only [List.getElem?_toArray, List.getElem?_cons_succ, List.getElem?_cons_zero]; rfl) (by rfl) ?_ ?_; rotate_left; (· (intro w hSw; (try dsimp only at hSw); go_simp; try with_reducible rfl)); (simp only [Act.put, List.setIfInBounds_toArray, List.set_cons_zero, List.set_cons_succ])))
            refine wpOrd_done ?_
            generalize Uf.more u x y = e1 at *
            clear hwr hw0
            go_wp2_with fail
            go_roundw
            case rel => exact ⟨q + 1, F + e1, by omega, by rw [← HI.out]; go_num, by go_num, by rw [HSC.out]; exact HFW.out, by rw [HSC.out]; exact HU2.out, HKR.out.trans HK2.out (fun z hz => .inl hz)⟩
            case measure => simp [intOf]; omega
          · obtain rfl : q = m := by omega
            rw [← E2I.out]
            have HI := Lib.hid hi
            clear hi
            generalize hua : Uf.joins (Uf.fresh n) (Uf.prs ys q) = ua at *
            have HUE := Lib.hid hua
            clear hua
            have HUB := Lib.hid (HU'.out.keeps HKR.out (by have := HLT.out; have := HB1.out; simp; omega) (by have := HLT.out; have := HG'.out; simp; omega))
            have hr2 : (t : Int) - (t : Int) % 2 - 2 = 2 * (q : Int) - 2 := by omega
            have hr3 : (t : Int).tmod 2 = (t : Int) % 2 := Int.tmod_eq_emod_of_nonneg (by omega)
            go_wp2_with fail
            clear hr2 hr3
            have HWB := Lib.hid (show b ≤ wr.heap.size from by have := HKR.out.size; have := HSZ2.out; omega)
            obtain ⟨wo, rfl⟩ : ∃ wo : World, wo = wr := ⟨_, rfl⟩
            go_loopw [14] (fun iv wr => ∃ (d : Nat), d ≤ q ∧ iv = .int .i64 (2 * (q : Int) - 2 - 2 * (d : Int)) ∧ UfAt wr b' g' (Uf.joins (Uf.fresh n) (Uf.qrs ys q d)) A' c' ∧ Keeps [b', g'] wo wr) (fun iv _ => (intOf iv + 2).toNat)
            case atStart => exact ⟨0, Nat.zero_le _, by go_num, HUB.out, Keeps.refl _ _⟩
            case round =>
              obtain ⟨d, hd, rfl, hu, hk⟩ := hrel
              have hgood : Uf.Good (Uf.joins (Uf.fresh n) (Uf.qrs ys q d)) := Uf.good_joins (Uf.fresh_good n) (by rw [Uf.fresh_length]; exact Uf.qrs_in HIN.out (by rw [HYL.out]; omega) hd)
              have hlen : (Uf.joins (Uf.fresh n) (Uf.qrs ys q d)).length = n := by rw [Uf.joins_length, Uf.fresh_length]
              have HUR2 := Lib.hid hu
              have HKR2 := Lib.hid hk
              have HGD2 := Lib.hid hgood
              have HLN2 := Lib.hid hlen
              have hbb : b < b' := by have := HLT.out; have := HB1.out; omega
              have hgb : b' ≤ g' := HG'.out
              have HRR2 := Lib.hid (HRR.out.keepsFar hk HWB.out (by intro ad _ hlb; simp; omega))
              clear hu hk hgood hlen
              by_cases hlt : d < q
              · obtain ⟨i, hi⟩ : ∃ i, 2 * (q - 1 - d) = i := ⟨_, rfl⟩
                have ei : 2 * (q : Int) - 2 - 2 * (d : Int) = (i : Int) := by omega
                rw [ei]
                have hit : i + 1 < t := by omega
                obtain ⟨ad, rfl, hadb, hcx⟩ := HRR2.out.natAt (k := i) (by omega)
                obtain ⟨ad', e, _, hcy⟩ := HRR2.out.natAt (k := i + 1) (by omega)
                injection e with e
                subst e
                have hxb := Uf.getD_in HIN.out (k := i) (by rw [HYL.out]; omega)
                have hyb := Uf.getD_in HIN.out (k := i + 1) (by rw [HYL.out]; omega)
                have hsucc := Uf.qrs_succ ys q d
                rw [hi] at hsucc
                have HSC := Lib.hid (show Uf.joins (Uf.fresh n) (Uf.qrs ys q (d + 1)) = Uf.step (Uf.joins (Uf.fresh n) (Uf.qrs ys q d)) (ys.getD (i + 1) 0) (ys.getD i 0) from by rw [hsucc, Uf.joins_snoc])
                have EI := Lib.hid ei
                clear hsucc hi ei
                generalize ys.getD i 0 = x at *
                generalize ys.getD (i + 1) 0 = y at *
                generalize Uf.joins (Uf.fresh n) (Uf.qrs ys q d) = u at *
                go_wp2_with fail
                obtain ⟨i1, hi1⟩ : ∃ i1, i + 1 = i1 := ⟨_, rfl⟩
                have hwr : IntKind.i64.wrap ((i : Int) + 1) = (i1 : Int) := by rw [IntWalk.i64_in _ (by omega)]; omega
                rw [hi1] at hcy
                have hi1t : i1 < t := by omega
                have hit : i < t := by omega
                clear hi1
                have hw0 : 0 ≤ (i1 : Int) := by omega
                refine wp_region_ord ((0, false) :: (1, false) :: (2, false) :: (3, false) :: (4, false) :: (5, false) :: (6, false) :: (7, false) :: (8, false) :: (9, false) :: (10, true) :: (11, true) :: []) (fun w => w.cell? (ad.add i) = some (.int .i64 (x : Int)) ∧ w.cell? (ad.add i1) = some (.int .i64 (y : Int))) (by kernel_rfl) (by kernel_rfl) (by kernel_rfl) (by kernel_rfl) (fun _ _ d _ _ h => by cases d <;> exact h) ?_ (fun hHeld => ?_)
                · exact ⟨hcx, hcy⟩
                iterate 10 (first | (refine wpOrd_skip (by simp only [List.getElem?_toArray, List.getElem?_cons_succ, List.getElem?_cons_zero]; rfl) (by rfl) ?_; (simp only [Act.put, List.setIfInBounds_toArray, List.set_cons_zero, List.set_cons_succ])) | (refine wpOrd_take (v := ?_) (by simp only [List.getElem?_toArray, List.getElem?_cons_succ, List.getElem?_cons_zero]; rfl) (by rfl) ?_ ?_; rotate_left; (· (intro w hSw; (try dsimp only at hSw); go_simp; try with_reducible rfl)); (simp only [Act.put, List.setIfInBounds_toArray, List.set_cons_zero, List.set_cons_succ])))
                refine wpOrd_alone (by simp only [List.getElem?_toArray, List.getElem?_cons_succ, List.getElem?_cons_zero]; rfl) (fun K hK => ?_)
                go_simp
                have hsb : b ≤ wr.heap.size := by have := HKR2.out.size; have := HWB.out; omega
                have hnu : u.length = n := HLN2.out
                refine hK.out _ _ ⟨(World.cell?_alloc_lt wr _ _ (by rw [block_of_add]; omega)).trans hHeld.1, (World.cell?_alloc_lt wr _ _ (by rw [block_of_add]; omega)).trans hHeld.2⟩ (fun hHeld => ?_)
                clear hK K
                refine wpOrd_alone (by simp only [List.getElem?_toArray, List.getElem?_cons_succ, List.getElem?_cons_zero]; rfl) (fun K hK => ?_)
                go_simp
                (go_at_call 9; refine (join_two b' g' u A' c' y x wr HUR2.out HGD2.out (by omega) (by omega) (by omega)).mono ?_; rintro e w' ⟨rfl, hu2, hk2⟩)
                refine hK.out _ _ ⟨?_, ?_⟩ (fun hHeld => ?_)
                · exact (hk2.far (by rw [block_of_add]; omega) (by rw [block_of_add]; simp; omega)).trans hcx
                · exact (hk2.far (by rw [block_of_add]; omega) (by rw [block_of_add]; simp; omega)).trans hcy
                clear hK K
                have HU2 := Lib.hid hu2
                have HK2 := Lib.hid hk2
                clear hu2 hk2 hsb hnu
                refine wpOrd_done ?_
                clear hwr hw0
                go_wp2_with fail
                go_roundw
                case rel => exact ⟨d + 1, by omega, by have := EI.out; go_num, by rw [HSC.out]; exact HU2.out, HKR2.out.trans HK2.out (fun z hz => .inl hz)⟩
                case measure => simp [intOf]; omega
              · obtain rfl : d = q := by omega
                have ei : 2 * (d : Int) - 2 - 2 * (d : Int) = -2 := by omega
                rw [ei]
                go_wp2_with fail
                have hcb := Uf.classes_back (n := n) HIN.out (m := d) (by rw [HYL.out]; omega)
                rw [HUE.out] at hcb
                have HCB := Lib.hid hcb
                have HUW := Lib.hid (HUR.out.keeps HKR2.out (by simp; omega) (by have := HLT.out; have := HB1.out; simp; omega))
                have hnf : (Uf.classes ua).length + F = n := by rw [Uf.classes_length]; exact HFEW.out
                have HBA := Lib.hid (HKR.out.below (B := b) (by have := HG.out; intro z hz; simp at hz; omega) HSZ2.out)
                have HBB := Lib.hid (HKR2.out.below (B := b) (by intro z hz; simp at hz; omega) HWB.out)
                clear hcb ei hlt
                refine (classes_in b A c ua wr HUW.out.rd HUW.out.lt.1 HGD.out (by rw [HLN.out]; omega)).mono ?_
                rintro en w4 ⟨LA, ca, rfl, hrows, hb4⟩
                have HR4 := Lib.hid hrows
                have HB4 := Lib.hid hb4
                have HU4 := Lib.hid (HUW.out.below hb4)
                have HV4 := Lib.hid (HUR2.out.below hb4)
                clear hrows hb4
                go_wp2_with fail
                refine (classes_in b' A' c' _ w4 HV4.out.rd HV4.out.lt.1 HGD2.out (by rw [HLN2.out]; omega)).mono ?_
                rw [← HCB.out]
                rintro en w5 ⟨LB, cb, rfl, hrows, hb5⟩
                have HR5 := Lib.hid hrows
                have HB5 := Lib.hid hb5
                have HJ5 := Lib.hid (show JS b g ua A c w5 w5 from ⟨HU4.out.below hb5, Below.refl _ _⟩)
                have HRA := Lib.hid (HR4.out.keeps (Keeps.of_below hb5 []) (Nat.le_refl _) (by simp))
                have HS45 := Lib.hid hb5.size
                clear hrows hb5
                generalize hnc : (Uf.classes ua).length = nc at *
                have HNC := Lib.hid hnc
                clear hnc
                have hb1 : ((nc : Int) != (nc : Int)) = false := by simp
                have hb2 : ((nc : Int) != (n : Int) - (F : Int)) = false := by simp; omega
                have hncn : nc ≤ 40 := by omega
                go_wp2_with fail
                go_loopw [17, 18, 19] (fun cv iv _ wx => ∃ i : Nat, i ≤ nc ∧ iv = .int .i64 i ∧ cv = .int .i64 (Uf.cnt ua i : Int) ∧ JS b g ua A c w5 wx) (fun _ iv _ _ => nc - (intOf iv).toNat)
                case atStart => exact ⟨0, Nat.zero_le _, rfl, by simp [Uf.cnt], HJ5.out⟩
                case round =>
                  obtain ⟨i, hi, rfl, rfl, hjs⟩ := hrel
                  by_cases hlt : i < nc
                  · obtain ⟨adA, A1, c1, rfl, hlA, hcA, hrA⟩ := HRA.out.rowAt (k := i) (by rw [HNC.out]; exact hlt)
                    obtain ⟨adB, A2, c2, rfl, hlB, hcB, hrB⟩ := HR5.out.rowAt (k := i) (by rw [HNC.out]; exact hlt)
                    have hsc := Uf.cnt_succ (u := ua) (k := i) (by rw [HNC.out]; exact hlt)
                    obtain ⟨p, r, hpr, hpb, hpp, hhp, hmem⟩ := Uf.class_at HGD.out (k := i) (by rw [HNC.out]; exact hlt)
                    have hcle := Uf.cnt_le HGD.out (i + 1) (by rw [HNC.out]; omega)
                    rw [HLN.out] at hcle
                    rw [hpr] at hcA hrA hcB hrB hsc
                    generalize hms : p :: r = ms at *
                    generalize hml : ms.length = mn at *
                    have HMS := Lib.hid hms
                    have HML := Lib.hid hml
                    have HPP := Lib.hid hpp
                    have HHP := Lib.hid hhp
                    have HMEM := Lib.hid hmem
                    have hmn0 : 0 < mn := by rw [← hml, ← hms]; simp
                    have HSM := Lib.hid (same_of (u := ua) hmem)
                    have HPB := Lib.hid hpb
                    have HJ := Lib.hid hjs
                    have HSC := Lib.hid hsc
                    rw [nats_ints] at hrA hrB
                    obtain ⟨ad1, rfl, hl1, hp1⟩ := hrA.natAt (k := 0) hmn0
                    have hp1v : ms.getD 0 0 = p := by rw [← hms]; rfl
                    rw [hp1v, add_zero_] at hp1
                    clear hp1v
                    have HRA1 := Lib.hid hrA
                    have HRB1 := Lib.hid hrB
                    have hcA' := (below_cellAt hjs.be (k := i) (by have := HS45.out; omega)).trans hcA
                    have hcB' := (below_cellAt hjs.be (k := i) hlB).trans hcB
                    clear hms hml hpp hhp hmem hpb hsc hrA hrB hpr
                    generalize hcn : Uf.cnt ua i = cn at *
                    have HCN := Lib.hid hcn
                    clear hcn
                    have hcnb : cn ≤ 40 := by have := HSC.out; omega
                    have hmnb : mn ≤ 40 := by have := HSC.out; omega
                    clear hcle
                    have hlA5 : adA.block < w5.heap.size := by have := HS45.out; omega
                    go_wp2_with fail
                    refine wp_region_ord ((0, false) :: (1, false) :: (2, false) :: (3, false) :: (4, false) :: (5, false) :: (6, false) :: (7, false) :: (8, true) :: (9, false) :: (10, false) :: (11, false) :: (12, false) :: (13, false) :: (14, false) :: (15, false) :: (16, true) :: (17, false) :: (18, false) :: []) (fun w => (w.cell? (adA.add i) = some (.slice (some ad1) mn c1) ∧ w.cell? (adB.add i) = some (.slice A2 mn c2)) ∧ JS b g ua A c w5 w) (by kernel_rfl) (by kernel_rfl) (by kernel_rfl) (by kernel_rfl) (fun _ _ d _ _ h => by cases d <;> exact h) ?_ (fun hHeld => ?_)
                    · exact ⟨⟨hcA', hcB'⟩, HJ.out.drewN 1⟩
                    iterate 8 (first | (refine wpOrd_skip (by simp only [List.getElem?_toArray, List.getElem?_cons_succ, List.getElem?_cons_zero]; rfl) (by rfl) ?_; (simp only [Act.put, List.setIfInBounds_toArray, List.set_cons_zero, List.set_cons_succ])) | (refine wpOrd_take (v := ?_) (by simp only [List.getElem?_toArray, List.getElem?_cons_succ, List.getElem?_cons_zero]; rfl) (by rfl) ?_ ?_; rotate_left; (· (intro w hSw; (try dsimp only at hSw); go_simp; try with_reducible rfl)); (simp only [Act.put, List.setIfInBounds_toArray, List.set_cons_zero, List.set_cons_succ])))
                    refine wpOrd_alone (by simp only [List.getElem?_toArray, List.getElem?_cons_succ, List.getElem?_cons_zero]; rfl) (fun K hK => ?_)
                    go_simp
                    have hdd : decide (List.map Int.ofNat ms = List.map Int.ofNat ms) = true := decide_eq_true rfl
                    (go_at_call 11; refine (sameInts_any _ _ _ _ _ _ _ _ _ _ _ (HRA1.out.below (hHeld.2.be.mono HS45.out)) (HRB1.out.below hHeld.2.be) (by omega)).mono ?_; rw [hdd]; rintro e w' ⟨rfl, m9, rfl⟩)
                    refine hK.out _ _ ⟨hHeld.1, hHeld.2.drewN m9⟩ (fun hHeld => ?_)
                    clear hK K hdd
                    generalize wr.drew.drewN m9 = wy at *
                    iterate 7 (first | (refine wpOrd_skip (by simp only [List.getElem?_toArray, List.getElem?_cons_succ, List.getElem?_cons_zero]; rfl) (by rfl) ?_; (simp only [Act.put, List.setIfInBounds_toArray, List.set_cons_zero, List.set_cons_succ])) | (refine wpOrd_take (v := ?_) (by simp only [List.getElem?_toArray, List.getElem?_cons_succ, List.getElem?_cons_zero]; rfl) (by rfl) ?_ ?_; rotate_left; (· (intro w hSw; (try dsimp only at hSw); go_simp; try with_reducible rfl)); (simp only [Act.put, List.setIfInBounds_toArray, List.set_cons_zero, List.set_cons_succ])))
                    refine wpOrd_alone (by simp only [List.getElem?_toArray, List.getElem?_cons_succ, List.getElem?_cons_zero]; rfl) (fun K hK => ?_)
                    go_simp
                    (go_at_call 12; refine (same_any b A c ua _ mn c1 _ _ _ hHeld.2.uf.rd HGD.out (by rw [HLN.out]; omega) (HRA1.out.below (hHeld.2.be.mono HS45.out)) (by omega)).mono ?_; rw [HSM.out]; rintro e w' ⟨rfl, m8, rfl⟩)
                    refine hK.out _ _ ⟨hHeld.1, hHeld.2.drewN m8⟩ (fun hHeld => ?_)
                    clear hK K
                    generalize wy.drewN m8 = wi at *
                    iterate 2 (first | (refine wpOrd_skip (by simp only [List.getElem?_toArray, List.getElem?_cons_succ, List.getElem?_cons_zero]; rfl) (by rfl) ?_; (simp only [Act.put, List.setIfInBounds_toArray, List.set_cons_zero, List.set_cons_succ])) | (refine wpOrd_take (v := ?_) (by simp only [List.getElem?_toArray, List.getElem?_cons_succ, List.getElem?_cons_zero]; rfl) (by rfl) ?_ ?_; rotate_left; (· (intro w hSw; (try dsimp only at hSw); go_simp; try with_reducible rfl)); (simp only [Act.put, List.setIfInBounds_toArray, List.set_cons_zero, List.set_cons_succ])))
                    refine wpOrd_done ?_
                    obtain ⟨⟨hcA2, _⟩, hj2⟩ := hHeld
                    go_wp2_with fail
                    have HJ3 := Lib.hid hj2
                    clear hj2 hcA2
                    go_loopw [19] (fun kv wx => ∃ k2 : Nat, k2 ≤ mn ∧ kv = .int .i64 k2 ∧ JS b g ua A c w5 wx) (fun kv _ => mn - (intOf kv).toNat)
                    case atStart => exact ⟨0, Nat.zero_le _, rfl, HJ3.out⟩
                    case round =>
                      obtain ⟨k2, hk2, rfl, hj⟩ := hrel
                      have hcA3 := (below_cellAt hj.be (k := i) hlA5).trans hcA
                      have HJK := Lib.hid hj
                      by_cases hlk : k2 < mn
                      · obtain ⟨ad1', e, _, hx⟩ := HRA1.out.natAt hlk
                        injection e with e
                        subst e
                        have hmk : ms.getD k2 0 ∈ ms := by
                          rw [List.getD_eq_getElem?_getD, List.getElem?_eq_getElem (by rw [HML.out]; exact hlk)]
                          exact List.getElem_mem _
                        obtain ⟨hx1, hx2⟩ := HMEM.out _ hmk
                        generalize ms.getD k2 0 = x at *
                        have hxc := (below_cellAt (hj.be.mono HS45.out) hl1).trans hx
                        have hpc := (hj.be.mono HS45.out).cell (p := ad1) hl1
                        rw [hp1] at hpc
                        have HXH := Lib.hid (show headI ua (x : Int) = (p : Int) from by rw [headI_nat hx1, hx2])
                        have HX1 := Lib.hid hx1
                        have HX2 := Lib.hid hx2
                        have hj' := hj
                        clear hx hx1 hx2 hmk hj
                        by_cases hi0 : 0 < i
                        · obtain ⟨i0, hi0'⟩ : ∃ i0, i = i0 + 1 := ⟨i - 1, by omega⟩
                          obtain ⟨adA', A0, c0, e, _, hcA0, hrA0⟩ := HRA.out.rowAt (k := i0) (by rw [HNC.out]; omega)
                          injection e with e
                          subst e
                          obtain ⟨p0, r0, hpr0, hpb0, hpp0, hhp0, _⟩ := Uf.class_at HGD.out (k := i0) (by rw [HNC.out]; omega)
                          have hne := Uf.heads_ne (u := ua) (k := i0) (by rw [← Uf.classes_length, HNC.out]; omega)
                          rw [hhp0, ← hi0', HHP.out] at hne
                          rw [hpr0] at hcA0 hrA0
                          rw [nats_ints] at hrA0
                          obtain ⟨ad0, rfl, hl0, hq0⟩ := hrA0.natAt (k := 0) (by simp)
                          have hv0 : (p0 :: r0).getD 0 0 = p0 := rfl
                          rw [hv0, add_zero_] at hq0
                          have hcA4 := (below_cellAt hj'.be (k := i0) hlA5).trans hcA0
                          have hpc0 := (hj'.be.mono HS45.out).cell (p := ad0) hl0
                          rw [hq0] at hpc0
                          have HSA := Lib.hid (sameI_apart HX1.out HX2.out hpb0 hpp0 (show p0 ≠ p by omega))
                          obtain ⟨m0, hm0⟩ : ∃ m0, (p0 :: r0).length = m0 := ⟨_, rfl⟩
                          have hm0p : 0 < m0 := by rw [← hm0]; simp
                          rw [hm0] at hcA4
                          have hz1 : decide ((0 : Int) < (i : Int)) = true := by simp; omega
                          have hwr : IntKind.i64.wrap ((i : Int) - 1) = (i0 : Int) := by rw [IntWalk.i64_in _ (by omega)]; omega
                          have hi0n : i0 < nc := by omega
                          clear hcA0 hrA0 hpr0 hpb0 hpp0 hhp0 hne hq0 hv0 hm0 hi0' hj'
                          go_wp2_with fail
                          refine wp_region_ord ((0, false) :: (1, false) :: (2, false) :: (3, false) :: (4, false) :: (5, false) :: (6, false) :: (7, false) :: (9, false) :: (10, false) :: (11, false) :: (12, false) :: (13, false) :: (14, false) :: (8, true) :: (15, false) :: (16, false) :: (17, false) :: (18, false) :: (19, false) :: (20, false) :: (21, false) :: (22, false) :: (23, false) :: (24, false) :: (25, false) :: (26, false) :: (27, false) :: (28, false) :: (29, false) :: (30, false) :: (31, false) :: (32, false) :: (33, false) :: (34, false) :: (35, true) :: (36, true) :: (37, false) :: (38, false) :: []) (fun w => (w.cell? (adA.add i) = some (.slice (some ad1) mn c1) ∧ w.cell? (ad1.add k2) = some (.int .i64 (x : Int)) ∧ w.cell? ad1 = some (.int .i64 (p : Int)) ∧ w.cell? (adA.add i0) = some (.slice (some ad0) m0 c0) ∧ w.cell? ad0 = some (.int .i64 (p0 : Int))) ∧ JS b g ua A c w5 w) (by kernel_rfl) (by kernel_rfl) (by kernel_rfl) (by kernel_rfl) (fun _ _ d _ _ h => by cases d <;> exact h) ?_ (fun hHeld => ?_)
                          · exact ⟨⟨hcA3, hxc, hpc, hcA4, hpc0⟩, HJK.out.drewN 1⟩
                          iterate 14 (first | (refine wpOrd_skip (by simp only [List.getElem?_toArray, List.getElem?_cons_succ, List.getElem?_cons_zero]; rfl) (by rfl) ?_; (simp only [Act.put, List.setIfInBounds_toArray, List.set_cons_zero, List.set_cons_succ])) | (refine wpOrd_take (v := ?_) (by simp only [List.getElem?_toArray, List.getElem?_cons_succ, List.getElem?_cons_zero]; rfl) (by rfl) ?_ ?_; rotate_left; (· (intro w hSw; (try dsimp only at hSw); go_simp; try with_reducible rfl)); (simp only [Act.put, List.setIfInBounds_toArray, List.set_cons_zero, List.set_cons_succ])))
                          refine wpOrd_alone (by simp only [List.getElem?_toArray, List.getElem?_cons_succ, List.getElem?_cons_zero]; rfl) (fun K hK => ?_)
                          go_simp
                          (go_at_call 13; refine (head_any b A c ua _ _ hHeld.2.uf.rd HGD.out (by rw [HLN.out]; omega)).mono ?_; rw [HXH.out]; rintro e w' ⟨rfl, rfl⟩)
                          refine hK.out _ _ hHeld (fun hHeld => ?_)
                          clear hK K
                          iterate 20 (first | (refine wpOrd_skip (by simp only [List.getElem?_toArray, List.getElem?_cons_succ, List.getElem?_cons_zero]; rfl) (by rfl) ?_; (simp only [Act.put, List.setIfInBounds_toArray, List.set_cons_zero, List.set_cons_succ])) | (refine wpOrd_take (v := ?_) (by simp only [List.getElem?_toArray, List.getElem?_cons_succ, List.getElem?_cons_zero]; rfl) (by rfl) ?_ ?_; rotate_left; (· (intro w hSw; (try dsimp only at hSw); go_simp; try with_reducible rfl)); (simp only [Act.put, List.setIfInBounds_toArray, List.set_cons_zero, List.set_cons_succ])))
                          refine wpOrd_alone (by simp only [List.getElem?_toArray, List.getElem?_cons_succ, List.getElem?_cons_zero]; rfl) (fun K hK => ?_)
                          go_simp
                          have hws := HJK.out.be.size
                          have hwt := HS45.out
                          refine hK.out _ _ ⟨⟨?_, ?_, ?_, ?_, ?_⟩, HJK.out.alloc _⟩ (fun hHeld => ?_)
                          · exact (World.cell?_alloc_lt _ _ _ (by rw [block_of_add]; omega)).trans hHeld.1.1
                          · exact (World.cell?_alloc_lt _ _ _ (by rw [block_of_add]; omega)).trans hHeld.1.2.1
                          · exact (World.cell?_alloc_lt _ _ _ (by omega)).trans hHeld.1.2.2.1
                          · exact (World.cell?_alloc_lt _ _ _ (by rw [block_of_add]; omega)).trans hHeld.1.2.2.2.1
                          · exact (World.cell?_alloc_lt _ _ _ (by omega)).trans hHeld.1.2.2.2.2
                          clear hK K
                          refine wpOrd_alone (by simp only [List.getElem?_toArray, List.getElem?_cons_succ, List.getElem?_cons_zero]; rfl) (fun K hK => ?_)
                          go_simp
                          (go_at_call 12; refine (same_any b A c ua _ 2 2 _ [(x : Int), (p0 : Int)] _ hHeld.2.uf.rd HGD.out (by rw [HLN.out]; omega) ((reads_new _ 3 _ (xs := ints [(x : Int), (p0 : Int)]) rfl rfl).drewN 1) (by omega)).mono ?_; rw [HSA.out]; rintro e w' ⟨rfl, m8, rfl⟩)
                          refine hK.out _ _ ⟨hHeld.1, hHeld.2.drewN m8⟩ (fun hHeld => ?_)
                          clear hK K
                          iterate 2 (first | (refine wpOrd_skip (by simp only [List.getElem?_toArray, List.getElem?_cons_succ, List.getElem?_cons_zero]; rfl) (by rfl) ?_; (simp only [Act.put, List.setIfInBounds_toArray, List.set_cons_zero, List.set_cons_succ])) | (refine wpOrd_take (v := ?_) (by simp only [List.getElem?_toArray, List.getElem?_cons_succ, List.getElem?_cons_zero]; rfl) (by rfl) ?_ ?_; rotate_left; (· (intro w hSw; (try dsimp only at hSw); go_simp; try with_reducible rfl)); (simp only [Act.put, List.setIfInBounds_toArray, List.set_cons_zero, List.set_cons_succ])))
                          refine wpOrd_done ?_
                          generalize (wr.alloc (.cells #[.int .i64 (x : Int), .int .i64 (p0 : Int)] 3)).drew.drewN m8 = wz at *
                          have HJZ := Lib.hid hHeld.2
                          clear hHeld
                          go_wp2_with fail
                          go_roundw
                          case rel => exact ⟨k2 + 1, by omega, by go_num, HJZ.out⟩
                          case measure => simp [intOf]; omega
                        · clear hj'
                          have hz1 : decide ((0 : Int) < (i : Int)) = false := by simp; omega
                          go_wp2_with fail
                          refine wp_region_ord ((0, false) :: (1, false) :: (2, false) :: (3, false) :: (4, false) :: (5, false) :: (6, false) :: (7, false) :: (9, false) :: (10, false) :: (11, false) :: (12, false) :: (13, false) :: (14, false) :: (8, true) :: (15, false) :: (16, false) :: (17, false) :: (18, false) :: (19, false) :: (20, false) :: (21, false) :: (22, false) :: (23, false) :: (24, false) :: (25, false) :: (26, false) :: (27, false) :: (28, false) :: (29, false) :: (30, false) :: (31, false) :: (32, false) :: (33, false) :: (34, false) :: (35, true) :: (36, true) :: (37, false) :: (38, false) :: []) (fun w => (w.cell? (adA.add i) = some (.slice (some ad1) mn c1) ∧ w.cell? (ad1.add k2) = some (.int .i64 (x : Int)) ∧ w.cell? ad1 = some (.int .i64 (p : Int))) ∧ JS b g ua A c w5 w) (by kernel_rfl) (by kernel_rfl) (by kernel_rfl) (by kernel_rfl) (fun _ _ d _ _ h => by cases d <;> exact h) ?_ (fun hHeld => ?_)
                          · exact ⟨⟨hcA3, hxc, hpc⟩, HJK.out.drewN 1⟩
                          iterate 14 (first | (refine wpOrd_skip (by simp only [List.getElem?_toArray, List.getElem?_cons_succ, List.getElem?_cons_zero]; rfl) (by rfl) ?_; (simp only [Act.put, List.setIfInBounds_toArray, List.set_cons_zero, List.set_cons_succ])) | (refine wpOrd_take (v := ?_) (by simp only [List.getElem?_toArray, List.getElem?_cons_succ, List.getElem?_cons_zero]; rfl) (by rfl) ?_ ?_; rotate_left; (· (intro w hSw; (try dsimp only at hSw); go_simp; try with_reducible rfl)); (simp only [Act.put, List.setIfInBounds_toArray, List.set_cons_zero, List.set_cons_succ])))
                          refine wpOrd_alone (by simp only [List.getElem?_toArray, List.getElem?_cons_succ, List.getElem?_cons_zero]; rfl) (fun K hK => ?_)
                          go_simp
                          (go_at_call 13; refine (head_any b A c ua _ _ hHeld.2.uf.rd HGD.out (by rw [HLN.out]; omega)).mono ?_; rw [HXH.out]; rintro e w' ⟨rfl, rfl⟩)
                          refine hK.out _ _ hHeld (fun hHeld => ?_)
                          clear hK K
                          iterate 20 (first | (refine wpOrd_skip (by simp only [List.getElem?_toArray, List.getElem?_cons_succ, List.getElem?_cons_zero]; rfl) (by rfl) ?_; (simp only [Act.put, List.setIfInBounds_toArray, List.set_cons_zero, List.set_cons_succ])) | (refine wpOrd_take (v := ?_) (by simp only [List.getElem?_toArray, List.getElem?_cons_succ, List.getElem?_cons_zero]; rfl) (by rfl) ?_ ?_; rotate_left; (· (intro w hSw; (try dsimp only at hSw); go_simp; try with_reducible rfl)); (simp only [Act.put, List.setIfInBounds_toArray, List.set_cons_zero, List.set_cons_succ])))
                          refine wpOrd_alone (by simp only [List.getElem?_toArray, List.getElem?_cons_succ, List.getElem?_cons_zero]; rfl) (fun K hK => ?_)
                          go_simp
                          refine hK.out _ _ hHeld (fun hHeld => ?_)
                          clear hK K
                          refine wpOrd_alone (by simp only [List.getElem?_toArray, List.getElem?_cons_succ, List.getElem?_cons_zero]; rfl) (fun K hK => ?_)
                          go_simp
                          refine hK.out _ _ hHeld (fun hHeld => ?_)
                          clear hK K
                          iterate 2 (first | (refine wpOrd_skip (by simp only [List.getElem?_toArray, List.getElem?_cons_succ, List.getElem?_cons_zero]; rfl) (by rfl) ?_; (simp only [Act.put, List.setIfInBounds_toArray, List.set_cons_zero, List.set_cons_succ])) | (refine wpOrd_take (v := ?_) (by simp only [List.getElem?_toArray, List.getElem?_cons_succ, List.getElem?_cons_zero]; rfl) (by rfl) ?_ ?_; rotate_left; (· (intro w hSw; (try dsimp only at hSw); go_simp; try with_reducible rfl)); (simp only [Act.put, List.setIfInBounds_toArray, List.set_cons_zero, List.set_cons_succ])))
                          refine wpOrd_done ?_
                          go_wp2_with fail
                          go_roundw
                          case rel => exact ⟨k2 + 1, by omega, by go_num, hHeld.2⟩
                          case measure => simp [intOf]; omega
                      · go_wp2_with fail
                        go_roundw
                        case rel => exact ⟨i + 1, by omega, by go_num, by rw [HSC.out]; go_num, HJK.out⟩
                        case measure => simp [intOf]; omega
                  · obtain rfl : i = nc := by omega
                    have hcl := Uf.cnt_all HGD.out
                    rw [HNC.out, HLN.out] at hcl
                    rw [hcl]
                    clear hcl
                    go_wp2_with fail
                    refine (alive_any _).mono ?_
                    rintro en w7 ⟨rfl, hb7⟩
                    go_wp2_with fail
                    go_ret
                    refine ⟨rfl, ?_⟩
                    rw [HB0.out]
                    have s1 := HSZ2.out
                    have s2 := HBA.out.size
                    have s3 := HBB.out.size
                    have s4 := HB4.out.size
                    have s5 := HB5.out.size
                    have s6 := hjs.be.size
                    exact ((((((HBW.out.trans HBA.out).trans HBB.out).trans (HB4.out.mono (by omega))).trans (HB5.out.mono (by omega))).trans (hjs.be.mono (by omega))).trans (hb7.mono (by omega)))

/-! ### THE ROW's STEP -/
theorem ufJoins_own : ownKnob Try.prog.godebug = none := by kernel_rfl
theorem ufJoins_laidOut : laidOutB Try.prog = true := by kernel_rfl
set_option maxRecDepth 100000 in
theorem ufJoins_lifted (os : Os) (started : os.Started) (H : Type) (enc : TypeId × Value → H) :
    ReturnsInHanded {} Try.checked os 3 .any (Rows.ufJoinsSpec.pre6 enc Try.prog Try.f3 Rows.ufJoinsRow.domain false) (Rows.ufJoinsSpec.post enc Try.prog Try.f3 false true false false) := by
  refine returnsInHanded_of_change (C := Try.checked) ufJoins_own started (by kernel_rfl) Try.func3
    (ChangeSpec.witness6 (enc := enc) (C := Try.checked) false ⟨#[], #[.int .i64 0, .slice none 0 0], []⟩ 8 (by kernel_rfl) (by kernel_rfl) (by kernel_rfl) (by kernel_rfl)) ?_
  intro W base args ds gs before hval0 hW hcnd _
  have hval : ∀ (j : Nat) t v, Try.f3.params[j]? = some t → args[j]? = some v → Value.okWide Try.prog W .any base t v := hval0
  have hW' := hW
  obtain ⟨p, q, hA0, hV, rfl, hfz, hnd⟩ := hW
  have hA : DataW.TrodAll enc Try.prog W 0 (fun _ => true) true Try.f3.params.toList args.toList ds p := hA0
  rw [Try.params3] at hA hval
  obtain ⟨v0, vs0, d0, ds0, p0, q0, hargs, rfl, rfl, h0, r_0⟩ := trodAll_cons hA
  obtain ⟨v1, vs1, d1, ds1, p1, q1, rfl, rfl, rfl, h1, r_1⟩ := trodAll_cons r_0
  obtain ⟨rfl, rfl, rfl⟩ := trodAll_nil r_1
  obtain rfl : args = #[v0, v1] := by cases args; simp_all
  obtain ⟨a0, rfl, rfl, rfl, w0⟩ := open_int Try.underlying3 (hval 0 3 v0 rfl rfl) h0
  have b0 := bounds_of_wf w0
  obtain ⟨A1, n1, c1, x1, rfl, r1, l1, m1, z1⟩ := open_slice_ints Try.underlying22 Try.underlying3 (by kernel_rfl) (hval 1 22 v1 rfl rfl) h1
  clear hA0 hval0
  refine (ufJoins_walk W a0 b0 A1 n1 c1 x1 r1 l1 m1 z1).mono fun e W' ⟨he, bel⟩ => ?_
  subst he
  exact ⟨_, rfl, post_true ufJoins_laidOut (by kernel_rfl) rfl Try.underlying4 rfl hW' (by
    intro es he
    match es, he with
    | [e0, e1], _ => rfl) bel⟩

theorem ufJoins_over : Rows.ufJoinsRow.holds Try.pinned (OpenSpec.ofChange Rows.ufJoinsSpec) :=
  OpenClaim.holds_of_wide 3 Try.f3 rfl rfl rfl rfl rfl rfl rfl ⟨rfl, rfl, rfl, rfl, rfl⟩ rfl rfl rfl rfl rfl (by kernel_rfl) Try.func3 (by kernel_rfl)
    (of_decide_eq_true (by kernel_rfl)) (by unfold Func.isWrapper; first | (rw [if_pos (by decide +kernel)]; kernel_rfl) | (rw [if_neg (by decide +kernel)]; exact ⟨rfl, rfl⟩))
    (fun os started H enc _ => ufJoins_lifted os started H enc)

theorem ufJoins_holds : Rows.UfJoinsSaid := ufJoins_over
end Go.Proofs.Ytnekdddcpiiogaa
