/-
  A head is the least of its class, and the head of each in it; what is none has none: the statement UfHeads. No condition.
-/
import Derived.Test.YtnekdddcpiiogaaUfI
import Derived.Deep.RegionHeld3
import Derived.Test.YtnekdddcpiiogaaOrd
import Derived.IntWalk
import Derived.Test.YtnekdddcpiiogaaOpenB
import Derived.Test.YtnekdddcpiiogaaRows
namespace Go.Proofs.Ytnekdddcpiiogaa
open Go.ChangeShapes Go.WideShapes Go.ChangeAt Go.RowKit

theorem class_reads {w : World} {base n cap : Nat} {L : Option Addr} {xs : List Nat} (h : w.ownsRow base 3 1 (.slice L n cap) n (nats xs)) : Reads w w.heap.size 1 L n (ints (xs.map Int.ofNat)) := by
  have := Reads.of_own h
  rw [nats_ints] at this
  exact this
/-- what holds in the round: the classes, and the list that was told first -/
structure HSat (b g : Nat) (v : List Nat) (A : Option Addr) (c : Nat) (ad : Addr) (xn : Nat) (xs : List Nat) (w0 w : World) : Prop where
  uf : UfAt w b g v A c
  rd : Reads w w0.heap.size 1 (some ad) xn (ints (xs.map Int.ofNat))
  be : Below w0.heap.size w0 w
theorem HSat.below {b g : Nat} {v : List Nat} {A : Option Addr} {c : Nat} {ad : Addr} {xn : Nat} {xs : List Nat} {w0 w w' : World} (h : HSat b g v A c ad xn xs w0 w) (hb : Below w.heap.size w w') : HSat b g v A c ad xn xs w0 w' :=
  ⟨h.uf.below hb, h.rd.below (hb.mono h.be.size), h.be.trans (hb.mono h.be.size)⟩
theorem HSat.drewN {b g : Nat} {v : List Nat} {A : Option Addr} {c : Nat} {ad : Addr} {xn : Nat} {xs : List Nat} {w0 w : World} (h : HSat b g v A c ad xn xs w0 w) (m : Nat) : HSat b g v A c ad xn xs w0 (w.drewN m) :=
  h.below (below_drewN (Below.refl _ _) m)
theorem HSat.cell {b g : Nat} {v : List Nat} {A : Option Addr} {c : Nat} {ad : Addr} {xn : Nat} {xs : List Nat} {w0 w : World} (h : HSat b g v A c ad xn xs w0 w) {k : Nat} (hk : k < xn) : w.cell? (ad.add k) = some (.int .i64 (xs.getD k 0 : Int)) := by
  obtain ⟨ad', x, e, _, hx, hc⟩ := h.rd.int hk
  injection e with e
  subst e
  rw [hc]
  rw [List.getElem?_map, Option.map_eq_some_iff] at hx
  obtain ⟨y, hy, rfl⟩ := hx
  rw [List.getD_eq_getElem?_getD, hy]
  rfl

theorem keepBelow {b g : Nat} {v : List Nat} {A : Option Addr} {c : Nat} {ad : Addr} {k xn : Nat} {xs : List Nat} {w0 w w' : World} {z : Value} (hx : 0 < xn) (h : w.cell? (ad.add k) = some z ∧ HSat b g v A c ad xn xs w0 w) (hb : Below w.heap.size w w') :
    w'.cell? (ad.add k) = some z ∧ HSat b g v A c ad xn xs w0 w' := by
  refine ⟨?_, h.2.below hb⟩
  rw [← h.1]
  refine hb.cell ?_
  obtain ⟨ad', _, e, hl, _⟩ := h.2.rd.at_ hx
  injection e with e
  subst e
  rw [block_of_add]
  exact Nat.lt_of_lt_of_le hl h.2.be.size
theorem keepBelow0 {b g : Nat} {v : List Nat} {A : Option Addr} {c : Nat} {ad : Addr} {xn : Nat} {xs : List Nat} {w0 w w' : World} {z : Value} (hx : 0 < xn) (h : w.cell? ad = some z ∧ HSat b g v A c ad xn xs w0 w) (hb : Below w.heap.size w w') :
    w'.cell? ad = some z ∧ HSat b g v A c ad xn xs w0 w' := by
  have e : ad.add 0 = ad := by unfold Addr.add; simp
  have := keepBelow (k := 0) (z := z) hx (by rw [e]; exact h) hb
  rw [e] at this
  exact this

set_option maxHeartbeats 2000000 in
set_option maxRecDepth 100000 in
theorem ufHeads_walk (w : World) (n : Int) (_ : -9223372036854775808 ≤ n ∧ n ≤ 9223372036854775807)
    (L : Option Addr) (k cl : Nat) (rows : List IRow) (h : Reads w w.heap.size 1 L k (rows.map IRow.val)) (_ : k ≤ cl) (hm : cl ≤ maxLen) (hz : ∀ r ∈ rows, r.ok w w.heap.size)
    (i : Int) (hi : -9223372036854775808 ≤ i ∧ i ≤ 9223372036854775807) :
    Calls Try.prog 4 #[.int .i64 n, .slice L k cl, .int .i64 i] w fun e w' => e = .returned (.bool true) ∧ Below w.heap.size w w' := by
  have hn : k ≤ 9223372036854775807 := by unfold maxLen at hm; omega
  clear hm
  by_cases hg : n < 0 ∨ 40 < n ∨ 30 < k
  · by_cases g0 : n < 0
    · go_enter Try.func4, Try.ntmps4
      go_wp2_with fail
      refine (alive_any w).mono ?_
      rintro en w2 ⟨rfl, hb2⟩
      go_wp2_with fail
      go_ret
      exact ⟨rfl, hb2⟩
    · by_cases g1 : 40 < n
      · go_enter Try.func4, Try.ntmps4
        go_wp2_with fail
        refine (alive_any w).mono ?_
        rintro en w2 ⟨rfl, hb2⟩
        go_wp2_with fail
        go_ret
        exact ⟨rfl, hb2⟩
      · have g4 : 30 < k := by omega
        clear hg
        go_enter Try.func4, Try.ntmps4
        go_wp2_with fail
        refine (alive_any w).mono ?_
        rintro en w2 ⟨rfl, hb2⟩
        go_wp2_with fail
        go_ret
        exact ⟨rfl, hb2⟩
  · obtain ⟨n, rfl⟩ := Int.eq_ofNat_of_zero_le (show 0 ≤ n by omega)
    have n1 : n ≤ 40 := by omega
    have k1 : k ≤ 30 := by omega
    clear hg
    have HROWS := Lib.hid hz
    clear hz
    go_enter Try.func4, Try.ntmps4
    go_wp2_with fail
    refine (new_in n (by omega) w).mono ?_
    rintro en w1 ⟨rfl, g, A, c, hu, hb, hg⟩
    have HU := Lib.hid hu
    have HB := Lib.hid hb
    have HG := Lib.hid hg
    clear hu hb hg
    generalize hb0 : w.heap.size = b at *
    have HB0 := Lib.hid hb0
    clear hb0
    go_wp2_with fail
    go_loopw [9] (fun iv wr => ∃ (t : Nat) (v : List Nat), t ≤ k ∧ iv = .int .i64 t ∧ Uf.Good v ∧ v.length = n ∧ UfAt wr b g v A c ∧ Keeps [b, g] w1 wr) (fun iv _ => k - (intOf iv).toNat)
    case atStart => exact ⟨0, Uf.fresh n, Nat.zero_le _, rfl, Uf.fresh_good n, Uf.fresh_length n, HU.out, Keeps.refl _ _⟩
    case round =>
      obtain ⟨t, v, ht, rfl, hgood, hvl, hu, hk⟩ := hrel
      have HGV := Lib.hid hgood
      have HVL := Lib.hid hvl
      have HUV := Lib.hid hu
      have HKV := Lib.hid hk
      clear hgood hvl hu hk
      have hsb : Below b w wr := by
        have e := HB0.out
        have a0 : Keeps [] w w1 := Keeps.of_below (by rw [e]; exact HB.out) []
        have a1 : Keeps [b, g] w wr := (a0.trans HKV.out (by intro x hx; simp at hx; right; have := HG.out; omega)).mono (by simp) |>.mono (by intro x hx; exact .inl hx)
        exact a1.below (by intro x hx; simp at hx; have := HG.out; omega) (by omega)
      have HSB := Lib.hid hsb
      clear hsb
      by_cases hlt : t < k
      · obtain ⟨ad, r, rfl, _, hr, hc⟩ := (h.below HSB.out).row hlt
        obtain ⟨r1, r2, r3, _⟩ := HROWS.out r (List.mem_of_getElem? hr)
        have HRD := Lib.hid (r1.below HSB.out)
        clear hr r1
        generalize r.A = RA at *
        generalize r.n = rn at *
        generalize r.c = rc at *
        generalize r.xs = rx at *
        have hrn : rn ≤ 9223372036854775807 := by unfold maxLen at r3; omega
        clear r3
        by_cases hbig : 20 < rn
        · go_wp2_with fail
          refine (alive_any wr).mono ?_
          rintro en w2 ⟨rfl, hb2⟩
          go_wp2_with fail
          go_ret
          refine ⟨rfl, ?_⟩
          rw [HB0.out]
          exact HSB.out.trans (hb2.mono (by have := HSB.out.size; have := HB0.out; omega))
        · go_wp2_with fail
          refine (join_any b g v A c RA rn rc b rx wr HUV.out HGV.out (by rw [HVL.out]; omega) HRD.out (by have := HSB.out.size; have := HB0.out; omega) (by intro ad _ hlb; have := HG.out; omega) (by omega)).mono ?_
          rintro en w2 ⟨jc, je, v', rfl, hgood, hvl, hu2, hk2⟩
          rw [HVL.out] at hvl
          have HU2 := Lib.hid hu2
          have HK2 := Lib.hid hk2
          have HGV' := Lib.hid hgood
          have HVL' := Lib.hid hvl
          clear hu2 hk2 hgood hvl
          go_wp2_with fail
          go_roundw
          case rel => exact ⟨t + 1, v', by omega, by go_num, HGV'.out, HVL'.out, HU2.out, HKV.out.trans HK2.out (by intro x hx; exact .inl hx)⟩
          case measure => simp [intOf]; omega
      · have HSZ := Lib.hid (show b ≤ wr.heap.size from by have := HSB.out.size; have := HB0.out; omega)
        by_cases hin : 1 ≤ i ∧ i ≤ (n : Int)
        · obtain ⟨i, rfl⟩ := Int.eq_ofNat_of_zero_le (show 0 ≤ i by omega)
          have hin' : 1 ≤ i ∧ i ≤ v.length := by rw [HVL.out]; omega
          have HIN := Lib.hid hin'
          have HHD := Lib.hid (headI_nat hin')
          obtain ⟨r, hr⟩ := Uf.cls_first HGV.out hin'.1 hin'.2
          have hmem : ∀ x ∈ Uf.cls v (Uf.hd v i), (1 ≤ x ∧ x ≤ v.length) ∧ Uf.hd v x = Uf.hd v i := fun x hx => Uf.mem_cls.1 hx
          have hsort := Uf.cls_sorted v (Uf.hd v i)
          have hpd : Uf.hd v (Uf.hd v i) = Uf.hd v i := Uf.hd_hd HGV.out hin'.1 hin'.2
          have hcin := class_in b A c v i wr HUV.out.rd HUV.out.lt.1 HGV.out (by rw [HVL.out]; omega) hin'
          generalize hp : Uf.hd v i = p at *
          have HP := Lib.hid hp
          generalize hxs : Uf.cls v p = xs at *
          have HXS := Lib.hid hxs
          have HR := Lib.hid hr
          have HMEM := Lib.hid hmem
          have HSORT := Lib.hid hsort
          have HPD := Lib.hid hpd
          have HCIN := Lib.hid hcin
          clear hin' hr hmem hsort hpd hcin hp hxs
          have h1i : 1 ≤ i := by omega
          have hin2 : i ≤ n := by omega
          clear hin
          go_wp2_with fail
          refine HCIN.out.mono ?_
          rintro en w2 ⟨CL, cc, rfl, hown, hb2⟩
          have hrd := Reads.of_own hown
          rw [nats_ints] at hrd
          have HRD := Lib.hid hrd
          have HB2 := Lib.hid hb2
          have HU2 := Lib.hid (HUV.out.below hb2)
          clear hrd hb2 hown
          generalize hxl : xs.length = xn at *
          have HXL := Lib.hid hxl
          have hx0 : 0 < xn := by rw [← hxl, HR.out]; simp
          have hx1 : ¬ xn = 0 := by omega
          have hxn0 : ((xn : Int) == 0) = false := by simp; omega
          have hxb : xn ≤ n := by
            rw [← hxl, ← HXS.out, ← HVL.out]
            unfold Uf.cls
            refine Nat.le_trans (List.length_filter_le _ _) ?_
            simp
          clear hxl
          obtain ⟨ad, x0, rfl, _, hx, hc0⟩ := HRD.out.int hx0
          have had0 : ad.add 0 = ad := by unfold Addr.add; simp
          have hxp : x0 = (p : Int) := by rw [HR.out] at hx; simp at hx; exact hx.symm
          rw [had0, hxp] at hc0
          have hpp : ((p : Int) != (p : Int)) = false := by simp
          clear had0 hxp hx
          go_wp2_with fail
          refine (head_any b A c v _ _ HU2.out.rd HGV.out (by rw [HVL.out]; omega)).mono ?_
          rw [HHD.out]
          rintro en w3 ⟨rfl, rfl⟩
          have HSM := Lib.hid (same_of (u := v) HMEM.out)
          have hip : sameI v [(i : Int), (p : Int)] = true := same_of (u := v) (xs := [i, p]) (p := p) (by
            intro x hx
            simp at hx
            rcases hx with rfl | rfl
            · exact ⟨HIN.out, HP.out⟩
            · have := HMEM.out x (by rw [HR.out]; simp)
              exact this)
          have HIP := Lib.hid hip
          clear hip
          go_wp2_with fail
          refine (same_any b A c v _ xn cc _ _ _ HU2.out.rd HGV.out (by rw [HVL.out]; omega) HRD.out (by omega)).mono ?_
          rw [HSM.out]
          rintro en w3 ⟨rfl, m3, rfl⟩
          have HD3 : Hid (Below w2.heap.size w2 (w2.drewN m3)) := Lib.hid (below_drewN (Below.refl _ _) m3)
          replace hc0 : (w2.drewN m3).cell? ad = some (.int .i64 p) := hc0
          have HU3 := Lib.hid (HU2.out.below HD3.out)
          have HRD3 := Lib.hid (HRD.out.drewN m3)
          generalize w2.drewN m3 = w3 at *
          go_wp2_with fail
          refine (same_new b g v A c [(i : Int), (p : Int)] 2 true w3 _ HU3.out HGV.out (by rw [HVL.out]; omega) rfl rfl (by omega) HIP.out).mono ?_
          rintro en w4 ⟨rfl, hu4, hb4⟩
          have HU4 := Lib.hid hu4
          have HB4 := Lib.hid hb4
          have HRD4 := Lib.hid ((HRD3.out.more HD3.out.size).below hb4)
          have hbs : Below b w w4 := ((HSB.out.trans (HB2.out.mono HSZ.out)).trans (HD3.out.mono (Nat.le_trans HSZ.out HB2.out.size))).trans (hb4.mono (Nat.le_trans HSZ.out (Nat.le_trans HB2.out.size HD3.out.size)))
          have HBS := Lib.hid hbs
          have HZ4 := Lib.hid (show b ≤ w4.heap.size from by have := hbs.size; have := HB0.out; omega)
          have HZ3 := Lib.hid hb4.size
          clear hu4 hb4 hbs hc0
          have HVK : Hid (v.length ≤ 1000) := Lib.hid (by rw [HVL.out]; omega)
          have HVB : Hid (v.length ≤ 1000000000000) := Lib.hid (by rw [HVL.out]; omega)
          have HS0 : Hid (HSat b g v A c ad xn xs w4 w4) := Lib.hid ⟨HU4.out, HRD4.out.more HB4.out.size, Below.refl _ _⟩
          go_wp2_with fail
          go_loopw [12] (fun kv wx => ∃ kk : Nat, kk ≤ xn ∧ kv = .int .i64 kk ∧ HSat b g v A c ad xn xs w4 wx) (fun kv _ => xn - (intOf kv).toNat)
          case atStart => exact ⟨0, Nat.zero_le _, rfl, HS0.out⟩
          case round =>
            obtain ⟨kk, hkk, rfl, hs⟩ := hrel
            by_cases hlk : kk < xn
            · have hck := hs.cell hlk
              have hmk : xs.getD kk 0 ∈ xs := by
                rw [List.getD_eq_getElem?_getD, List.getElem?_eq_getElem (by rw [HXL.out]; exact hlk)]
                exact List.getElem_mem _
              obtain ⟨hx1, hx2⟩ := HMEM.out _ hmk
              have hcx := Uf.cls_first HGV.out hx1.1 hx1.2
              rcases kk with _ | kk
              · generalize xs.getD 0 0 = x at *
                have HX1 := Lib.hid hx1
                have HXH := Lib.hid (show headI v (x : Int) = (p : Int) from by rw [headI_nat hx1, hx2])
                have HX2 := Lib.hid hx2
                clear hx1 hx2 hmk hcx
                have had0 : ad.add 0 = ad := by unfold Addr.add; simp
                rw [had0] at hck
                clear had0
                go_wp2_with fail
                have hz0 : ((0 : Nat) : Int) = 0 := rfl
                have hz1 : decide ((0 : Int) < ((0 : Nat) : Int)) = false := rfl
                have hz2 : decide ((0 : Int) < 0) = false := rfl
                refine wp_region_ord ((0, false) :: (1, false) :: (2, false) :: (3, false) :: (4, false) :: (6, false) :: (5, true) :: (7, false) :: (8, false) :: (9, false) :: (10, false) :: (11, false) :: (12, false) :: (13, false) :: (14, false) :: (15, false) :: (16, false) :: (17, false) :: (18, false) :: (19, false) :: (20, false) :: (21, false) :: (22, false) :: (23, false) :: (24, false) :: (25, false) :: (26, false) :: (27, false) :: (28, false) :: (29, false) :: (31, false) :: (30, true) :: (32, true) :: (33, false) :: (34, false) :: []) (fun w => w.cell? ad = some (.int .i64 (x : Int)) ∧ HSat b g v A c ad xn xs w4 w) (by kernel_rfl) (by kernel_rfl) (by kernel_rfl) (by kernel_rfl) (fun _ _ d _ _ h => by cases d <;> exact h) ?_ (fun hHeld => ?_)
                · exact ⟨hck, hs.drewN 1⟩
                iterate 6 (first | (refine wpOrd_skip (by simp only [List.getElem?_toArray, List.getElem?_cons_succ, List.getElem?_cons_zero]; rfl) (by rfl) ?_; (simp only [Act.put, List.setIfInBounds_toArray, List.set_cons_zero, List.set_cons_succ])) | (refine wpOrd_take (v := ?_) (by simp only [List.getElem?_toArray, List.getElem?_cons_succ, List.getElem?_cons_zero]; rfl) (by rfl) ?_ ?_; rotate_left; (· (intro w hSw; (try dsimp only at hSw); go_simp; try with_reducible rfl)); (simp only [Act.put, List.setIfInBounds_toArray, List.set_cons_zero, List.set_cons_succ])))
                refine wpOrd_alone (by simp only [List.getElem?_toArray, List.getElem?_cons_succ, List.getElem?_cons_zero]; rfl) (fun K hK => ?_)
                go_simp
                (go_at_call 13; refine (head_any b A c v _ _ hHeld.2.uf.rd HGV.out HVB.out).mono ?_; rw [HXH.out]; rintro e w' ⟨rfl, rfl⟩)
                refine hK.out _ _ hHeld (fun hHeld => ?_)
                clear hK K
                iterate 24 (first | (refine wpOrd_skip (by simp only [List.getElem?_toArray, List.getElem?_cons_succ, List.getElem?_cons_zero]; rfl) (by rfl) ?_; (simp only [Act.put, List.setIfInBounds_toArray, List.set_cons_zero, List.set_cons_succ])) | (refine wpOrd_take (v := ?_) (by simp only [List.getElem?_toArray, List.getElem?_cons_succ, List.getElem?_cons_zero]; rfl) (by rfl) ?_ ?_; rotate_left; (· (intro w hSw; (try dsimp only at hSw); go_simp; try with_reducible rfl)); (simp only [Act.put, List.setIfInBounds_toArray, List.set_cons_zero, List.set_cons_succ])))
                refine wpOrd_alone (by simp only [List.getElem?_toArray, List.getElem?_cons_succ, List.getElem?_cons_zero]; rfl) (fun K hK => ?_)
                go_simp
                (go_at_call 14; refine (class_in b A c v x _ hHeld.2.uf.rd hHeld.2.uf.lt.1 HGV.out HVK.out HX1.out).mono ?_; rw [HX2.out, HXS.out]; rintro e w' ⟨CL2, cc2, rfl, hown2, hbc⟩; have HR2 := Lib.hid (class_reads hown2); rw [HXL.out] at HR2 ⊢; clear hown2)
                refine hK.out _ _ (keepBelow0 hx0 hHeld hbc) (fun hHeld => ?_)
                clear hK K
                refine wpOrd_alone (by simp only [List.getElem?_toArray, List.getElem?_cons_succ, List.getElem?_cons_zero]; rfl) (fun K hK => ?_)
                go_simp
                have hdd : decide (List.map Int.ofNat xs = List.map Int.ofNat xs) = true := decide_eq_true rfl
                (go_at_call 11; refine (sameInts_any _ _ _ _ _ _ _ _ _ _ _ HR2.out hHeld.2.rd (by omega)).mono ?_; rw [hdd]; rintro e w' ⟨rfl, m9, rfl⟩)
                refine hK.out _ _ ⟨hHeld.1, hHeld.2.drewN m9⟩ (fun hHeld => ?_)
                clear hK K hdd
                iterate 2 (first | (refine wpOrd_skip (by simp only [List.getElem?_toArray, List.getElem?_cons_succ, List.getElem?_cons_zero]; rfl) (by rfl) ?_; (simp only [Act.put, List.setIfInBounds_toArray, List.set_cons_zero, List.set_cons_succ])) | (refine wpOrd_take (v := ?_) (by simp only [List.getElem?_toArray, List.getElem?_cons_succ, List.getElem?_cons_zero]; rfl) (by rfl) ?_ ?_; rotate_left; (· (intro w hSw; (try dsimp only at hSw); go_simp; try with_reducible rfl)); (simp only [Act.put, List.setIfInBounds_toArray, List.set_cons_zero, List.set_cons_succ])))
                refine wpOrd_done ?_
                go_wp2_with fail
                go_roundw
                case rel => exact ⟨1, by omega, by go_num, hHeld.2⟩
                case measure => simp [intOf]; omega
              · obtain ⟨y, hy⟩ : ∃ y, xs.getD kk 0 = y := ⟨_, rfl⟩
                have hsorted := Uf.sorted_at HSORT.out (k := kk) (by rw [HXL.out]; omega)
                have hcy := hs.cell (k := kk) (by omega)
                rw [hy] at hcy hsorted
                clear hy
                generalize xs.getD (kk + 1) 0 = x at *
                have HX1 := Lib.hid hx1
                have HXH := Lib.hid (show headI v (x : Int) = (p : Int) from by rw [headI_nat hx1, hx2])
                have HX2 := Lib.hid hx2
                clear hx1 hx2 hmk hcx
                obtain ⟨k1, hk1⟩ : ∃ k1, k1 = kk + 1 := ⟨_, rfl⟩
                rw [← hk1] at hck hlk ⊢
                have hk0 : 0 < k1 := by omega
                have HK1 := Lib.hid hk1
                have hz1 : decide ((0 : Int) < (k1 : Int)) = true := by simp; omega
                have hwr : IntKind.i64.wrap ((k1 : Int) - 1) = (kk : Int) := by rw [IntWalk.i64_in _ (by omega)]; omega
                have hz2 : decide ((x : Int) ≤ (y : Int)) = false := by simp; omega
                have hz3 : decide (x ≤ y) = false := by simp; omega
                have hkx : kk < xn := by omega
                clear hk1 hsorted
                go_wp2_with fail
                refine wp_region_ord ((0, false) :: (1, false) :: (2, false) :: (3, false) :: (4, false) :: (6, false) :: (5, true) :: (7, false) :: (8, false) :: (9, false) :: (10, false) :: (11, false) :: (12, false) :: (13, false) :: (14, false) :: (15, false) :: (16, false) :: (17, false) :: (18, false) :: (19, false) :: (20, false) :: (21, false) :: (22, false) :: (23, false) :: (24, false) :: (25, false) :: (26, false) :: (27, false) :: (28, false) :: (29, false) :: (31, false) :: (30, true) :: (32, true) :: (33, false) :: (34, false) :: []) (fun w => (w.cell? (ad.add k1) = some (.int .i64 (x : Int)) ∧ w.cell? (ad.add kk) = some (.int .i64 (y : Int))) ∧ HSat b g v A c ad xn xs w4 w) (by kernel_rfl) (by kernel_rfl) (by kernel_rfl) (by kernel_rfl) (fun _ _ d _ _ h => by cases d <;> exact h) ?_ (fun hHeld => ?_)
                · exact ⟨⟨hck, hcy⟩, hs.drewN 1⟩
                iterate 6 (first | (refine wpOrd_skip (by simp only [List.getElem?_toArray, List.getElem?_cons_succ, List.getElem?_cons_zero]; rfl) (by rfl) ?_; (simp only [Act.put, List.setIfInBounds_toArray, List.set_cons_zero, List.set_cons_succ])) | (refine wpOrd_take (v := ?_) (by simp only [List.getElem?_toArray, List.getElem?_cons_succ, List.getElem?_cons_zero]; rfl) (by rfl) ?_ ?_; rotate_left; (· (intro w hSw; (try dsimp only at hSw); go_simp; try with_reducible rfl)); (simp only [Act.put, List.setIfInBounds_toArray, List.set_cons_zero, List.set_cons_succ])))
                refine wpOrd_alone (by simp only [List.getElem?_toArray, List.getElem?_cons_succ, List.getElem?_cons_zero]; rfl) (fun K hK => ?_)
                go_simp
                (go_at_call 13; refine (head_any b A c v _ _ hHeld.2.uf.rd HGV.out HVB.out).mono ?_; rw [HXH.out]; rintro e w' ⟨rfl, rfl⟩)
                refine hK.out _ _ hHeld (fun hHeld => ?_)
                clear hK K
                iterate 24 (first | (refine wpOrd_skip (by simp only [List.getElem?_toArray, List.getElem?_cons_succ, List.getElem?_cons_zero]; rfl) (by rfl) ?_; (simp only [Act.put, List.setIfInBounds_toArray, List.set_cons_zero, List.set_cons_succ])) | (refine wpOrd_take (v := ?_) (by simp only [List.getElem?_toArray, List.getElem?_cons_succ, List.getElem?_cons_zero]; rfl) (by rfl) ?_ ?_; rotate_left; (· (intro w hSw; (try dsimp only at hSw); go_simp; try with_reducible rfl)); (simp only [Act.put, List.setIfInBounds_toArray, List.set_cons_zero, List.set_cons_succ])))
                refine wpOrd_alone (by simp only [List.getElem?_toArray, List.getElem?_cons_succ, List.getElem?_cons_zero]; rfl) (fun K hK => ?_)
                go_simp
                (go_at_call 14; refine (class_in b A c v x _ hHeld.2.uf.rd hHeld.2.uf.lt.1 HGV.out HVK.out HX1.out).mono ?_; rw [HX2.out, HXS.out]; rintro e w' ⟨CL2, cc2, rfl, hown2, hbc⟩; have HR2 := Lib.hid (class_reads hown2); rw [HXL.out] at HR2 ⊢; clear hown2)
                refine hK.out _ _ ⟨⟨(keepBelow hx0 ⟨hHeld.1.1, hHeld.2⟩ hbc).1, (keepBelow hx0 ⟨hHeld.1.2, hHeld.2⟩ hbc).1⟩, hHeld.2.below hbc⟩ (fun hHeld => ?_)
                clear hK K
                refine wpOrd_alone (by simp only [List.getElem?_toArray, List.getElem?_cons_succ, List.getElem?_cons_zero]; rfl) (fun K hK => ?_)
                go_simp
                have hdd : decide (List.map Int.ofNat xs = List.map Int.ofNat xs) = true := decide_eq_true rfl
                (go_at_call 11; refine (sameInts_any _ _ _ _ _ _ _ _ _ _ _ HR2.out hHeld.2.rd (by omega)).mono ?_; rw [hdd]; rintro e w' ⟨rfl, m9, rfl⟩)
                refine hK.out _ _ ⟨hHeld.1, hHeld.2.drewN m9⟩ (fun hHeld => ?_)
                clear hK K hdd
                iterate 2 (first | (refine wpOrd_skip (by simp only [List.getElem?_toArray, List.getElem?_cons_succ, List.getElem?_cons_zero]; rfl) (by rfl) ?_; (simp only [Act.put, List.setIfInBounds_toArray, List.set_cons_zero, List.set_cons_succ])) | (refine wpOrd_take (v := ?_) (by simp only [List.getElem?_toArray, List.getElem?_cons_succ, List.getElem?_cons_zero]; rfl) (by rfl) ?_ ?_; rotate_left; (· (intro w hSw; (try dsimp only at hSw); go_simp; try with_reducible rfl)); (simp only [Act.put, List.setIfInBounds_toArray, List.set_cons_zero, List.set_cons_succ])))
                refine wpOrd_done ?_
                go_wp2_with fail
                go_roundw
                case rel => exact ⟨k1 + 1, by omega, by go_num, hHeld.2⟩
                case measure => simp [intOf]; omega
            · go_wp2_with fail
              refine (alive_any _).mono ?_
              rintro en w7 ⟨rfl, hb7⟩
              go_wp2_with fail
              go_ret
              refine ⟨rfl, ?_⟩
              rw [HB0.out]
              exact (HBS.out.trans (hs.be.mono HZ4.out)).trans (hb7.mono (Nat.le_trans HZ4.out hs.be.size))
        · have HNO := Lib.hid (show inU v i = false from by have := HVL.out; simp [inU]; omega)
          have HH0 := Lib.hid (show headI v i = 0 from by unfold headI; rw [HNO.out]; rfl)
          have HSF := Lib.hid (show sameI v [i] = false from by unfold sameI; simp [HNO.out])
          by_cases hi1 : i < 1
          · clear hin
            go_wp2_with fail
            refine (class_out b A c v i wr HUV.out.rd HNO.out).mono ?_
            rintro en w2 ⟨rfl, rfl⟩
            go_wp2_with fail
            refine (head_any b A c v i wr HUV.out.rd HGV.out (by rw [HVL.out]; omega)).mono ?_
            rw [HH0.out]
            rintro en w2 ⟨rfl, rfl⟩
            go_wp2_with fail
            refine (alive_any wr).mono ?_
            rintro en w2 ⟨rfl, hb2⟩
            have HU2 := Lib.hid (HUV.out.below hb2)
            have HB2 := Lib.hid hb2
            clear hb2
            go_wp2_with fail
            refine (same_new b g v A c [i] 1 false w2 _ HU2.out HGV.out (by rw [HVL.out]; omega) rfl rfl (by omega) HSF.out).mono ?_
            rintro en w3 ⟨rfl, _, hb3⟩
            have HB3 := Lib.hid hb3
            clear hb3
            go_wp2_with fail
            go_ret
            refine ⟨rfl, ?_⟩
            rw [HB0.out]
            exact (HSB.out.trans (HB2.out.mono HSZ.out)).trans (HB3.out.mono (Nat.le_trans HSZ.out HB2.out.size))
          · have hi2 : (n : Int) < i := by omega
            clear hin
            go_wp2_with fail
            refine (class_out b A c v i wr HUV.out.rd HNO.out).mono ?_
            rintro en w2 ⟨rfl, rfl⟩
            go_wp2_with fail
            refine (head_any b A c v i wr HUV.out.rd HGV.out (by rw [HVL.out]; omega)).mono ?_
            rw [HH0.out]
            rintro en w2 ⟨rfl, rfl⟩
            go_wp2_with fail
            refine (alive_any wr).mono ?_
            rintro en w2 ⟨rfl, hb2⟩
            have HU2 := Lib.hid (HUV.out.below hb2)
            have HB2 := Lib.hid hb2
            clear hb2
            go_wp2_with fail
            refine (same_new b g v A c [i] 1 false w2 _ HU2.out HGV.out (by rw [HVL.out]; omega) rfl rfl (by omega) HSF.out).mono ?_
            rintro en w3 ⟨rfl, _, hb3⟩
            have HB3 := Lib.hid hb3
            clear hb3
            go_wp2_with fail
            go_ret
            refine ⟨rfl, ?_⟩
            rw [HB0.out]
            exact (HSB.out.trans (HB2.out.mono HSZ.out)).trans (HB3.out.mono (Nat.le_trans HSZ.out HB2.out.size))

/-! ### THE ROW's STEP -/
theorem ufHeads_own : ownKnob Try.prog.godebug = none := by kernel_rfl
theorem ufHeads_laidOut : laidOutB Try.prog = true := by kernel_rfl
set_option maxRecDepth 100000 in
theorem ufHeads_lifted (os : Os) (started : os.Started) (H : Type) (enc : TypeId × Value → H) :
    ReturnsInHanded {} Try.checked os 4 .any (Rows.ufHeadsSpec.pre6 enc Try.prog Try.f4 Rows.ufHeadsRow.domain false) (Rows.ufHeadsSpec.post enc Try.prog Try.f4 false true false false) := by
  refine returnsInHanded_of_change (C := Try.checked) ufHeads_own started (by kernel_rfl) Try.func4
    (ChangeSpec.witness6 (enc := enc) (C := Try.checked) false ⟨#[], #[.int .i64 0, .slice none 0 0, .int .i64 0], []⟩ 8 (by kernel_rfl) (by kernel_rfl) (by kernel_rfl) (by kernel_rfl)) ?_
  intro W base args ds gs before hval0 hW hcnd _
  have hval : ∀ (j : Nat) t v, Try.f4.params[j]? = some t → args[j]? = some v → Value.okWide Try.prog W .any base t v := hval0
  have hW' := hW
  obtain ⟨p, q, hA0, hV, rfl, hfz, hnd⟩ := hW
  have hA : DataW.TrodAll enc Try.prog W 0 (fun _ => true) true Try.f4.params.toList args.toList ds p := hA0
  rw [Try.params4] at hA hval
  obtain ⟨v0, vs0, d0, ds0, p0, q0, hargs, rfl, rfl, h0, r_0⟩ := trodAll_cons hA
  obtain ⟨v1, vs1, d1, ds1, p1, q1, rfl, rfl, rfl, h1, r_1⟩ := trodAll_cons r_0
  obtain ⟨v2, vs2, d2, ds2, p2, q2, rfl, rfl, rfl, h2, r_2⟩ := trodAll_cons r_1
  obtain ⟨rfl, rfl, rfl⟩ := trodAll_nil r_2
  obtain rfl : args = #[v0, v1, v2] := by cases args; simp_all
  obtain ⟨a0, rfl, rfl, rfl, w0⟩ := open_int Try.underlying3 (hval 0 3 v0 rfl rfl) h0
  have b0 := bounds_of_wf w0
  obtain ⟨A1, n1, c1, x1, rfl, r1, l1, m1, z1⟩ := open_slice_rows Try.underlying30 Try.underlying22 Try.underlying3 (by kernel_rfl) (by kernel_rfl) (hval 1 30 v1 rfl rfl) h1
  obtain ⟨a2, rfl, rfl, rfl, w2⟩ := open_int Try.underlying3 (hval 2 3 v2 rfl rfl) h2
  have b2 := bounds_of_wf w2
  clear hA0 hval0
  refine (ufHeads_walk W a0 b0 A1 n1 c1 x1 r1 l1 m1 z1 a2 b2).mono fun e W' ⟨he, bel⟩ => ?_
  subst he
  exact ⟨_, rfl, post_true ufHeads_laidOut (by kernel_rfl) rfl Try.underlying4 rfl hW' (by
    intro es he
    match es, he with
    | [e0, e1, e2], _ => rfl) bel⟩

theorem ufHeads_over : Rows.ufHeadsRow.holds Try.pinned (OpenSpec.ofChange Rows.ufHeadsSpec) :=
  OpenClaim.holds_of_wide 4 Try.f4 rfl rfl rfl rfl rfl rfl rfl ⟨rfl, rfl, rfl, rfl, rfl⟩ rfl rfl rfl rfl rfl (by kernel_rfl) Try.func4 (by kernel_rfl)
    (of_decide_eq_true (by kernel_rfl)) (by unfold Func.isWrapper; first | (rw [if_pos (by decide +kernel)]; kernel_rfl) | (rw [if_neg (by decide +kernel)]; exact ⟨rfl, rfl⟩))
    (fun os started H enc _ => ufHeads_lifted os started H enc)

theorem ufHeads_holds : Rows.UfHeadsSaid := ufHeads_over
end Go.Proofs.Ytnekdddcpiiogaa
