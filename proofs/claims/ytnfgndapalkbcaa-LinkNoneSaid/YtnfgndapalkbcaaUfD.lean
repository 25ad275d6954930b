/-
  The contract of uf.Join, and of Same.
-/
import Derived.Test.YtnfgndapalkbcaaUfC
import Derived.Deep.QuietTactic
import Derived.BigQuiet
namespace Go.Proofs.Ytnfgndapalkbcaa
set_option maxRecDepth 100000
open Go.RowKit

theorem headI_nat {u : List Nat} {x : Nat} (h : 1 ≤ x ∧ x ≤ u.length) : headI u (x : Int) = (Uf.hd u x : Int) := by
  unfold headI
  rw [if_pos (by simp [inU]; omega)]
  rfl

set_option maxHeartbeats 1000000 in
theorem join_in (b g : Nat) (u : List Nat) (A : Option Addr) (c : Nat) (L : Option Addr) (n cl B : Nat) (x0 : Nat) (xs : List Nat) (w : World) (h : UfAt w b g u A c) (hgood : Uf.Good u) (hbig : u.length ≤ 1000)
    (hr : Reads w B 1 L n (nats xs)) (hB : B ≤ w.heap.size) (hBb : ∀ ad, L = some ad → ad.block < B → ad.block ≠ b ∧ ad.block ≠ g) (hin : InN u xs) (h0 : xs.head? = some x0) (hn : n ≤ 1000000) :
    Calls Try.prog 29 #[.pointer (some ⟨b, 0, none⟩), .slice L n cl] w (JoinN w b g (joinU u x0 xs) A c (joinC u x0 xs)) := by
  have hlen : xs.length = n := by have := hr.1; rw [nats_length] at this; omega
  have H := Lib.hid h
  have HG := Lib.hid hgood
  have HI := Lib.hid hin
  have HL := Lib.hid hlen
  have H0 := Lib.hid h0
  have hx0 : 1 ≤ x0 ∧ x0 ≤ u.length := hin x0 (List.mem_of_mem_head? h0)
  have hnp : 0 < n := by
    rcases Nat.eq_zero_or_pos n with e | e
    · subst e; rw [List.eq_nil_of_length_eq_zero hlen] at h0; cases h0
    · exact e
  clear h hgood hin hlen h0
  go_enter Try.func29, Try.ntmps29
  go_wp2_with fail
  go_loop [7, 17] (fun _ i => ∃ k : Nat, k ≤ n ∧ i = .int .i64 k) (fun _ i => n - (intOf i).toNat)
  case atStart => exact ⟨0, Nat.zero_le _, rfl⟩
  case round =>
    obtain ⟨k, hk, rfl⟩ := hrel
    by_cases hlt : k < n
    · obtain ⟨ad, e1, _, hc⟩ := hr.nat hlt
      subst e1
      have hxk : 1 ≤ xs.getD k 0 ∧ xs.getD k 0 ≤ u.length := HI.out _ (by
        rw [List.getD_eq_getElem?_getD, List.getElem?_eq_getElem (by have := HL.out; omega)]
        exact List.getElem_mem _)
      have hyes := Lib.hid (show inU u (xs.getD k 0 : Int) = true from by unfold inU; rw [Bool.and_eq_true]; exact ⟨decide_eq_true (by omega), decide_eq_true (by omega)⟩)
      generalize xs.getD k 0 = x at *
      go_wp2_with (first | (go_at_call 34; refine (is_any b A c u _ w H.out.rd).mono ?_; rw [hyes.out]; rintro en w1 ⟨rfl, rfl⟩))
      go_round
      case rel => exact ⟨k + 1, by omega, by go_num⟩
      case measure => simp [intOf]; omega
    · go_wp2_with fail
      go_loopw [8, 10, 11, 12, 28] (fun cn _ _ _ i wr => ∃ k : Nat, k ≤ n ∧ i = .int .i64 k ∧ cn = .int .i64 (joinC u x0 (xs.take k)) ∧ UfAt wr b g (joinU u x0 (xs.take k)) A c ∧ Keeps [b, g] w wr) (fun _ _ _ _ i _ => n - (intOf i).toNat)
      case atStart => exact ⟨0, Nat.zero_le _, rfl, rfl, H.out, Keeps.refl _ _⟩
      case round =>
        obtain ⟨k2, hk2, rfl, rfl, hu, hkp⟩ := hrel
        have hul := joinU_length u x0 (xs.take k2)
        have hgd := joinU_good HG.out hx0 (xs.take k2) (fun x hx => HI.out x (List.mem_of_mem_take hx))
        have hcl := joinC_le u x0 (xs.take k2)
        rw [List.length_take] at hcl
        have hrw := hr.keepsFar hkp hB (by intro ad e hlb; have := hBb ad e hlb; simp [this.1, this.2])
        have HU := Lib.hid hu
        have HK := Lib.hid hkp
        have HGD := Lib.hid hgd
        have HUL := Lib.hid hul
        clear hu hkp hgd hul
        by_cases hlt2 : k2 < n
        · obtain ⟨ad, e1, _, hc⟩ := hrw.nat hlt2
          obtain ⟨ad', e2, _, hc0⟩ := hrw.nat hnp
          subst e1
          injection e2 with e2
          subst e2
          have hxs0 : xs.getD 0 0 = x0 := by rw [List.getD_eq_getElem?_getD, ← List.head?_eq_getElem?, H0.out]; rfl
          rw [hxs0] at hc0
          have had0 : ad.add 0 = ad := by unfold Addr.add; simp
          rw [had0] at hc0
          have hxk : 1 ≤ xs.getD k2 0 ∧ xs.getD k2 0 ≤ u.length := HI.out _ (by
            rw [List.getD_eq_getElem?_getD, List.getElem?_eq_getElem (by have := HL.out; omega)]
            exact List.getElem_mem _)
          have htk : xs.take (k2 + 1) = xs.take k2 ++ [xs.getD k2 0] := by
            rw [List.take_add_one, List.getD_eq_getElem?_getD, List.getElem?_eq_getElem (by have := HL.out; omega)]; rfl
          have HTK := Lib.hid htk
          clear htk hxs0 had0
          generalize xs.getD k2 0 = x at *
          have hj1 : joinU u x0 (xs.take (k2 + 1)) = Uf.step (joinU u x0 (xs.take k2)) x0 x := by rw [HTK.out, joinU_snoc]
          have hj2 : joinC u x0 (xs.take (k2 + 1)) = joinC u x0 (xs.take k2) + Uf.more (joinU u x0 (xs.take k2)) x0 x := by rw [HTK.out, joinC_snoc]
          have HJ1 := Lib.hid hj1
          have HJ2 := Lib.hid hj2
          clear hj1 hj2
          generalize joinU u x0 (xs.take k2) = v at *
          generalize joinC u x0 (xs.take k2) = cc at *
          have hx0v : 1 ≤ x0 ∧ x0 ≤ v.length := by rw [HUL.out]; exact hx0
          have hxkv : 1 ≤ x ∧ x ≤ v.length := by rw [HUL.out]; exact hxk
          have HH0 := Lib.hid (headI_nat hx0v)
          have HHX := Lib.hid (headI_nat hxkv)
          have hvb : v.length ≤ 1000000000000 := by rw [HUL.out]; omega
          obtain ⟨a1, a2, _⟩ := Uf.hd_spec HGD.out x0 hx0v.1 hx0v.2
          obtain ⟨b1, b2, _⟩ := Uf.hd_spec HGD.out x hxkv.1 hxkv.2
          have hst : Uf.step v x0 x = if Uf.hd v x0 = Uf.hd v x then v else v.set (max (Uf.hd v x0) (Uf.hd v x) - 1) (min (Uf.hd v x0) (Uf.hd v x)) := rfl
          have hmo : Uf.more v x0 x = if Uf.hd v x0 = Uf.hd v x then 0 else 1 := rfl
          rw [hst] at HJ1
          rw [hmo] at HJ2
          clear hst hmo
          generalize Uf.hd v x0 = p at *
          generalize Uf.hd v x = q at *
          by_cases hpq : p = q
          · rw [if_pos hpq] at HJ1 HJ2
            have hb1 : ((p : Int) != (q : Int)) = false := by simp; omega
            subst hpq
            go_wp2_with fail
            refine (head_any b A c v x0 wr HU.out.rd HGD.out hvb).mono ?_
            rw [HH0.out]
            rintro en w1 ⟨rfl, rfl⟩
            go_wp2_with fail
            refine (head_any b A c v x wr HU.out.rd HGD.out hvb).mono ?_
            rw [HHX.out]
            rintro en w1 ⟨rfl, rfl⟩
            go_wp2_with fail
            go_roundw
            case rel => exact ⟨k2 + 1, by omega, by go_num, by rw [HJ2.out]; rfl, by rw [HJ1.out]; exact HU.out, HK.out⟩
            case measure => simp [intOf]; omega
          · rw [if_neg hpq] at HJ1 HJ2
            have hb1 : ((p : Int) != (q : Int)) = true := by simp; omega
            by_cases hpl : p < q
            · have hmx : max p q - 1 = q - 1 ∧ min p q = p := by omega
              rw [hmx.1, hmx.2] at HJ1
              obtain ⟨hne, rfl, hfz, ⟨old, hold⟩, hput⟩ := HU.out.put (i := q - 1) (v := p) (by have := hx0v.2; have := hxkv.2; omega)
              have HP := Lib.hid hput
              have hcf := HU.out.rd.cell
              have hvl := HUL.out
              have hml : q - 1 < u.length := by omega
              rw [hvl] at hcf
              clear hput hmx hpq hvl
              generalize hul2 : u.length = ul at *
              go_wp2_with fail
              refine (head_any b (some ⟨g, 0, none⟩) c v x0 wr HU.out.rd HGD.out hvb).mono ?_
              rw [HH0.out]
              rintro en w1 ⟨rfl, rfl⟩
              go_wp2_with fail
              refine (head_any b (some ⟨g, 0, none⟩) c v x wr HU.out.rd HGD.out hvb).mono ?_
              rw [HHX.out]
              rintro en w1 ⟨rfl, rfl⟩
              go_wp2_with fail
              refine ⟨?rel, ?measure⟩
              case rel => exact ⟨k2 + 1, by omega, by go_num, by rw [HJ2.out]; go_num, by rw [HJ1.out]; exact HP.out, HK.out.setCell (p := ⟨g, q - 1, none⟩) (.inl (by simp)) _⟩
              case measure => simp [intOf]; omega
            · have hqp : q < p := by omega
              have hmx : max p q - 1 = p - 1 ∧ min p q = q := by omega
              rw [hmx.1, hmx.2] at HJ1
              obtain ⟨hne, rfl, hfz, ⟨old, hold⟩, hput⟩ := HU.out.put (i := p - 1) (v := q) (by have := hx0v.2; have := hxkv.2; omega)
              have HP := Lib.hid hput
              have hcf := HU.out.rd.cell
              have hvl := HUL.out
              have hml : p - 1 < u.length := by omega
              rw [hvl] at hcf
              clear hput hmx hpq hvl
              generalize hul2 : u.length = ul at *
              go_wp2_with fail
              refine (head_any b (some ⟨g, 0, none⟩) c v x0 wr HU.out.rd HGD.out hvb).mono ?_
              rw [HH0.out]
              rintro en w1 ⟨rfl, rfl⟩
              go_wp2_with fail
              refine (head_any b (some ⟨g, 0, none⟩) c v x wr HU.out.rd HGD.out hvb).mono ?_
              rw [HHX.out]
              rintro en w1 ⟨rfl, rfl⟩
              go_wp2_with fail
              refine ⟨?rel, ?measure⟩
              case rel => exact ⟨k2 + 1, by omega, by go_num, by rw [HJ2.out]; go_num, by rw [HJ1.out]; exact HP.out, HK.out.setCell (p := ⟨g, p - 1, none⟩) (.inl (by simp)) _⟩
              case measure => simp [intOf]; omega
        · have e' : xs.take k2 = xs := by rw [show k2 = n by omega, ← HL.out, List.take_length]
          rw [e'] at HU ⊢
          clear e'
          generalize joinC u x0 xs = cc at *
          go_wp2_with fail
          go_ret2
          exact ⟨rfl, HU.out, HK.out⟩

theorem join_out (b g : Nat) (u : List Nat) (A : Option Addr) (c : Nat) (L : Option Addr) (n cl B : Nat) (xs : List Int) (w : World) (h : UfAt w b g u A c)
    (hr : Reads w B 1 L n (ints xs)) (hout : ∃ x ∈ xs, inU u x = false) (hn : n ≤ 1000000) :
    Calls Try.prog 29 #[.pointer (some ⟨b, 0, none⟩), .slice L n cl] w fun e w' => e = .returned (.tuple #[.int .i64 0, .int .i64 3]) ∧ w = w' := by
  have H := Lib.hid h
  have HO := Lib.hid hout
  have HL := Lib.hid hr.int_len
  clear h hout
  go_enter Try.func29, Try.ntmps29
  go_wp2_with fail
  go_loop [7, 17] (fun _ i => ∃ k : Nat, k ≤ n ∧ i = .int .i64 k ∧ ∀ x ∈ xs.take k, inU u x = true) (fun _ i => n - (intOf i).toNat)
  case atStart => exact ⟨0, Nat.zero_le _, rfl, by simp⟩
  case round =>
    obtain ⟨k, hk, rfl, hall⟩ := hrel
    have HALL := Lib.hid hall
    clear hall
    by_cases hlt : k < n
    · obtain ⟨ad, x, rfl, _, hx, hc⟩ := hr.int hlt
      have HTK := Lib.hid (show xs.take (k + 1) = xs.take k ++ [x] from by rw [List.take_add_one, hx]; rfl)
      clear hx
      by_cases hi : inU u x = true
      · have HI := Lib.hid hi
        clear hi
        go_wp2_with (first | (go_at_call 34; refine (is_any b A c u _ w H.out.rd).mono ?_; rw [HI.out]; rintro en w1 ⟨rfl, rfl⟩))
        go_round
        case rel => exact ⟨k + 1, by omega, by go_num, by intro y hy; rw [HTK.out, List.mem_append] at hy; rcases hy with hy | hy; exact HALL.out y hy; simp at hy; subst hy; exact HI.out⟩
        case measure => simp [intOf]; omega
      · have HI := Lib.hid (show inU u x = false from by simpa using hi)
        clear hi
        go_wp2_with (first | (go_at_call 34; refine (is_any b A c u _ w H.out.rd).mono ?_; rw [HI.out]; rintro en w1 ⟨rfl, rfl⟩))
        go_ret2
        exact ⟨rfl, rfl⟩
    · exfalso
      obtain ⟨x, hx, hf⟩ := HO.out
      have := HALL.out x (by rw [List.take_of_length_le (by have := HL.out; omega)]; exact hx)
      rw [hf] at this
      cases this
theorem join_nil (L : Option Addr) (n cl : Nat) (w : World) : Calls Try.prog 29 #[.pointer none, .slice L n cl] w fun e w' => e = .returned (.tuple #[.int .i64 0, .int .i64 1]) ∧ w = w' := by
  go_enter Try.func29, Try.ntmps29
  go_wp2
  go_ret2
  exact ⟨rfl, rfl⟩

/-! ### Same -/
def sameI (u : List Nat) (xs : List Int) : Bool := xs.all fun x => inU u x && (headI u x == headI u (xs.headD 0))
theorem quiet_left {P : Program} {f : FuncId} {args : Array Value} {w : World} {n : Nat} {v : Value}
    (h : Calls P f args (w.drewN n) fun e w' => e = .returned v ∧ w.drewN n = w') : Calls P f args (w.drewN n) fun e w' => e = .returned v ∧ ∃ m, w' = w.drewN m :=
  h.mono fun _ _ ⟨he, hm⟩ => ⟨he, n, hm.symm⟩
theorem quiet_same {P : Program} {f : FuncId} {args : Array Value} {w : World} {n : Nat} {v : Value}
    (h : Calls P f args (w.drewN n) fun e w' => e = .returned v ∧ w.drewN n = w') : Calls P f args (w.drewN n) fun e w' => e = .returned v ∧ ∃ m, w' = (w.drewN n).drewN m :=
  h.mono fun _ _ ⟨he, hm⟩ => ⟨he, 0, hm.symm⟩

theorem UfR.drewN {w : World} {b c : Nat} {A : Option Addr} {u : List Nat} (h : UfR w b A c u) (n : Nat) : UfR (w.drewN n) b A c u := ⟨h.cell, h.reads⟩

theorem quiet_is {b : Nat} {A : Option Addr} {c : Nat} {u : List Nat} {w : World} {x : Int} {v : Bool} (h : UfR w b A c u) (hv : inU u x = v) (q : Nat) :
    Calls Try.prog 34 #[.pointer (some ⟨b, 0, none⟩), .int .i64 x] (w.drewN q) fun e w' => e = .returned (.bool v) ∧ ∃ m, w' = w.drewN m := by
  refine quiet_left ?_
  subst hv
  exact is_any b A c u x _ (h.drewN q)
theorem quiet_head {b : Nat} {A : Option Addr} {c : Nat} {u : List Nat} {w : World} (h : UfR w b A c u) (hg : Uf.Good u) (hbig : u.length ≤ 1000000000000) (x : Int) (q : Nat) :
    Calls Try.prog 30 #[.pointer (some ⟨b, 0, none⟩), .int .i64 x] (w.drewN q) fun e w' => e = .returned (.int .i64 (headI u x)) ∧ ∃ m, w' = w.drewN m :=
  quiet_left (head_any b A c u x _ (h.drewN q) hg hbig)

theorem same_any (b : Nat) (A : Option Addr) (c : Nat) (u : List Nat) (L : Option Addr) (n cl B : Nat) (xs : List Int) (w : World) (h : UfR w b A c u) (hgood : Uf.Good u) (hbig : u.length ≤ 1000000000000)
    (hr : Reads w B 1 L n (ints xs)) (hn : n ≤ 1000000) :
    Calls Try.prog 14 #[.pointer (some ⟨b, 0, none⟩), .slice L n cl] w fun e w' => e = .returned (.bool (sameI u xs)) ∧ ∃ m, w.drewN m = w' := by
  have H := Lib.hid h
  have HG := Lib.hid hgood
  have HL := Lib.hid hr.int_len
  clear h hgood
  go_enter Try.func14, Try.ntmps14
  go_wp2_with fail
  go_loopw [6, 11] (fun _ i wr => ∃ k m : Nat, k ≤ n ∧ i = .int .i64 k ∧ wr = w.drewN m ∧ ∀ x ∈ xs.take k, inU u x = true ∧ headI u x = headI u (xs.headD 0)) (fun _ i _ => n - (intOf i).toNat)
  case atStart => exact ⟨0, 0, Nat.zero_le _, rfl, rfl, by simp⟩
  case round =>
    obtain ⟨k, m, hk, rfl, rfl, hall⟩ := hrel
    have HALL := Lib.hid hall
    clear hall
    by_cases hlt : k < n
    · obtain ⟨ad, x, rfl, _, hx, hc⟩ := hr.int hlt
      obtain ⟨ad', x0, e2, _, hx0, hc0⟩ := hr.int (show 0 < n by omega)
      injection e2 with e2
      subst e2
      have had0 : ad.add 0 = ad := by unfold Addr.add; simp
      rw [had0] at hc0
      have hh0 : xs.headD 0 = x0 := by rw [List.headD_eq_head?_getD, List.head?_eq_getElem?, hx0]; rfl
      have HH := Lib.hid hh0
      have HTK := Lib.hid (show xs.take (k + 1) = xs.take k ++ [x] from by rw [List.take_add_one, hx]; rfl)
      have HM := Lib.hid (List.mem_of_getElem? hx)
      clear hx hx0 had0 hh0
      have HR := Lib.hid (H.out.drewN m)
      replace hc : (w.drewN m).cell? (ad.add k) = some (.int .i64 x) := hc
      replace hc0 : (w.drewN m).cell? ad = some (.int .i64 x0) := hc0
      have hnx : ¬ n = 0 := by omega
      have HW : Hid (∃ m', w.drewN m = w.drewN m') := Lib.hid ⟨m, rfl⟩
      clear hr
      generalize w.drewN m = wr at *
      by_cases hi : inU u x = true
      · have HI := Lib.hid hi
        clear hi
        have HX0 := Lib.hid (show headI u x0 = headI u (xs.headD 0) from by rw [HH.out])
        have QI := Lib.hid (quiet_is HR.out HI.out)
        have QH := Lib.hid (quiet_head HR.out HG.out hbig)
        by_cases he : headI u x = headI u x0
        · have HE := Lib.hid he
          have hb1 : (headI u x != headI u x0) = false := by simp [he]
          clear he
          go_wp2_with fail
          go_quiet (first | exact QI.out _ | exact QH.out _ _)
          go_wp2_with fail
          go_roundw
          case rel =>
            obtain ⟨m', hm'⟩ := HW.out
            refine ⟨k + 1, m' + nq, by omega, by go_num, by rw [hm', World.drewN_drewN], ?_⟩
            intro y hy
            rw [HTK.out, List.mem_append] at hy
            rcases hy with hy | hy
            · exact HALL.out y hy
            · simp at hy; subst hy; exact ⟨HI.out, HE.out.trans HX0.out⟩
          case measure => simp [intOf]; omega
        · have HE := Lib.hid he
          have hb1 : (headI u x != headI u x0) = true := by simp [he]
          clear he
          go_wp2_with fail
          go_quiet (first | exact QI.out _ | exact QH.out _ _)
          go_wp2_with fail
          go_ret
          obtain ⟨m', hm'⟩ := HW.out
          refine ⟨ret_bool ?_, m' + nq, by rw [hm', World.drewN_drewN]⟩
          symm
          unfold sameI
          rw [Bool.eq_false_iff]
          intro hall
          have := (List.all_eq_true.1 hall) x HM.out
          rw [Bool.and_eq_true, beq_iff_eq] at this
          exact HE.out (this.2.trans HX0.out.symm)
      · have HI := Lib.hid (show inU u x = false from by simpa using hi)
        clear hi
        have QI := Lib.hid (quiet_is HR.out HI.out)
        have QH := Lib.hid (quiet_head HR.out HG.out hbig)
        go_wp2_with fail
        go_quiet (first | exact QI.out _ | exact QH.out _ _)
        go_wp2_with fail
        go_ret
        obtain ⟨m', hm'⟩ := HW.out
        refine ⟨ret_bool ?_, m' + nq, by rw [hm', World.drewN_drewN]⟩
        symm
        unfold sameI
        rw [Bool.eq_false_iff]
        intro hall
        have := (List.all_eq_true.1 hall) x HM.out
        rw [Bool.and_eq_true] at this
        rw [HI.out] at this
        exact absurd this.1 (by decide)
    · go_wp2_with fail
      go_ret
      refine ⟨ret_bool ?_, m, rfl⟩
      symm
      unfold sameI
      rw [List.all_eq_true]
      intro y hy
      obtain ⟨a1, a2⟩ := HALL.out y (by rw [List.take_of_length_le (by have := HL.out; omega)]; exact hy)
      rw [Bool.and_eq_true, beq_iff_eq]
      exact ⟨a1, a2⟩
theorem same_nil (L : Option Addr) (n cl : Nat) (w : World) : Calls Try.prog 14 #[.pointer none, .slice L n cl] w fun e w' => e = .returned (.bool false) ∧ w = w' := by
  go_enter Try.func14, Try.ntmps14
  go_wp2
  go_ret
  exact ⟨rfl, rfl⟩
end Go.Proofs.Ytnfgndapalkbcaa
