/-
  link.Ahead, Behind.
-/
import Derived.Test.YtnfgndapalkbcaaGrJ
import Derived.Test.YtnfgndapalkbcaaOrdR
namespace Go.Proofs.Ytnfgndapalkbcaa
open Go Go.RowKit
theorem numbers_row (q : GrP) (u : List Nat) (ls : List Lk) (base : Nat) (v : Value) (hs : List Nat) (w : World) (h : GrV q u ls w) (hgd : Uf.Good u) (hu : u.length ≤ 1000) (ho : w.ownsRow base 3 1 v hs.length (nats hs)) (hin : ∀ h ∈ hs, h ∈ Uf.heads u) (hnd : hs.Nodup) :
    Calls Try.prog 31 #[.pointer (some ⟨q.b, 0, none⟩), v] w (NatsN w (numsM u hs)) := by
  obtain ⟨Av, cv, hve⟩ := own_row ho
  rw [hve] at ho ⊢
  have hle := Uf.nodup_le hnd hin
  have hh : (Uf.heads u).length ≤ u.length := by rw [← Uf.classes_length]; exact classes_le u
  exact numbers_any q u ls Av hs.length cv w.heap.size hs w h hgd hu (Reads.of_own ho) (Nat.le_refl _) (by omega) hin hnd
theorem headI_in {u : List Nat} {k : Nat} (h : 1 ≤ k ∧ k ≤ u.length) : headI u (k : Int) = (Uf.hd u k : Int) := headI_nat h
theorem headI_out {u : List Nat} {i : Int} (h : inU u i = false) : headI u i = 0 := by unfold headI; rw [h]; rfl
theorem inU_nat {u : List Nat} {i : Int} (h : inU u i = true) : ∃ k : Nat, i = k ∧ 1 ≤ k ∧ k ≤ u.length := by
  unfold inU at h
  simp at h
  exact ⟨i.toNat, by omega, by omega, by omega⟩
theorem nat_inU {u : List Nat} {k : Nat} (h : 1 ≤ k ∧ k ≤ u.length) : inU u (k : Int) = true := by
  unfold inU
  simp
  omega
theorem ahead_heads {u : List Nat} {ls : List Lk} (hg : Uf.Good u) (hin : Uf.InL u.length ls) {t : Nat} : ∀ h ∈ Uf.aheadM u ls t, h ∈ Uf.heads u := by
  intro h hh
  obtain ⟨x, hx, _, _, rfl⟩ := Uf.mem_ahead.1 hh
  have := hin x hx
  exact hd_heads hg (by omega) (by omega)
theorem aheadI_nats (u : List Nat) (ls : List Lk) (t : Nat) : ints (aheadI u ls (t : Int)) = nats (Uf.aheadM u ls t) := by
  unfold aheadI
  rw [Int.toNat_natCast, nats_ofNat]
theorem own_ahead {u : List Nat} {ls : List Lk} {t B : Nat} {v : Value} {ρ : Nm} {rs : List Reg} {w : World} (h : Own ρ rs w B 3 1 v (aheadI u ls (t : Int)).length (ints (aheadI u ls (t : Int)))) : w.ownsRow B 3 1 v (Uf.aheadM u ls t).length (nats (Uf.aheadM u ls t)) := by
  have := h.own
  rw [aheadI_nats, aheadI_len, Int.toNat_natCast] at this
  exact this
theorem natsN_nil {w w' : World} (hb : Below w.heap.size w w') : NatsN w [] (.returned (.slice none 0 0)) w' := ⟨none, 0, rfl, World.ownsRow_nil _ _ _ _, hb⟩
attribute [local irreducible] run goO leaveK someK nextK nextT nextOT nextOD loopBody loopRest loopK fillJ tmplOf tmplJ mergeT At AtO drawOk ordOf gateOf callC callO topOp topO idxOf appOf storeOf clearOf sliceOf calleeOf calleeO topQ idxQ newRowOf resL stepOp seek
set_option maxRecDepth 100000 in
set_option maxHeartbeats 4000000 in
theorem ahead_any (q : GrP) (u : List Nat) (ls : List Lk) (i : Int) (w : World) (h : GrV q u ls w) (hi : GInv u ls) : Calls Try.prog 12 #[.pointer (some ⟨q.b, 0, none⟩), .int .i64 i] w (NatsN w (aheadOf u ls i)) := by
  have hfew := hi.few
  have hu := hi.le
  have hgd := hi.good
  have hil := hi.inl
  obtain ⟨ρ, e0, hR⟩ := h.open_ false [] (by simp)
  have hs := h.sta (ρ := ρ) (rs := [⟨(q.cells ls.length).map .v, false⟩]) (by kernel_rfl)
  refine sim_enter Try.func12 ρ [.ptr 0 0, LI i] [⟨(q.cells ls.length).map .v, false⟩] (by kernel_rfl) (by simp only [denL, LV.den, Nm.at_, e0]) ?_
  have hag := hR.ag_ 1 (by kernel_rfl)
  have hn : ls.length ≤ 100000 := by omega
  unfold aheadOf
  cases hI : inU u i with
  | false =>
    have h0 := headI_out hI
    refine sim_run 15 [] (hR.cast (by kernel_rfl)) (by kernel_rfl) trivial (fun ρ100 w100 hm100 hR100 => ?_)
    have hs := hs.moved (hm100.castL (by kernel_rfl))
    have hag := hag.moved (hm100.castL (by kernel_rfl))
    refine sim_call 30 [.v (Value.pointer (some (Addr.mk q.pb 0 none))), LI i] (by kernel_rfl) ?_
    refine Calls.mono (ufHead_b (i) (hs.is.uf) (hgd) (hu)) ?_
    rw [h0]
    rintro e101 w101 ⟨rfl, hb101⟩
    have hR101 := (hR100).below hb101
    have hs := hs.below hb101
    refine Back.of (LI 0) hR101 rfl ?_
    refine sim_run 8 [] (hR101.cast (by kernel_rfl)) (by kernel_rfl) trivial (fun ρ102 w102 hm102 hR102 => ?_)
    have hag := hag.moved (hm102.castL (by kernel_rfl))
    have hs := hs.moved (hm102.castL (by kernel_rfl))
    refine sim_ret (.v (Value.slice none 0 0)) hR102 (by kernel_rfl) (by kernel_rfl) ?_
    
    exact natsN_nil (by assumption : Rel _ _ _ _ _).toBelow
  | true =>
    obtain ⟨k, rfl, hk1, hk2⟩ := inU_nat hI
    have hkk : 1 ≤ k ∧ k ≤ u.length := ⟨hk1, hk2⟩
    have hsp := Uf.hd_spec hgd k hk1 hk2
    have hne : (((Uf.hd u k : Nat) : Int) == 0) = false := beq_eq_false_iff_ne.2 (by omega)
    rw [if_pos rfl, show Uf.hz u (k : Int) = Uf.hd u k from rfl]
    have hnd := Uf.ahead_nodup u ls (Uf.hd u k)
    have hah := ahead_heads (t := Uf.hd u k) hgd hil
    refine sim_run 15 [] (hR.cast (by kernel_rfl)) (by kernel_rfl) trivial (fun ρ200 w200 hm200 hR200 => ?_)
    have hs := hs.moved (hm200.castL (by kernel_rfl))
    have hag := hag.moved (hm200.castL (by kernel_rfl))
    refine sim_call 30 [.v (Value.pointer (some (Addr.mk q.pb 0 none))), LI ((↑k : Int))] (by kernel_rfl) ?_
    refine Calls.mono (ufHead_n (k) (hs.is.uf) (hgd) (hu) (hkk)) ?_
    rintro e201 w201 ⟨rfl, hb201⟩
    have hR201 := hR200.below hb201
    have hs := hs.below hb201
    refine Back.of (LI ((↑(Uf.hd u k) : Int))) hR201 rfl ?_
    refine sim_run 3 [] (hR201.cast (by kernel_rfl)) (by kernel_rfl) trivial (fun ρ202 w202 hm202 hR202 => ?_)
    have hag := hag.moved (hm202.castL (by kernel_rfl))
    have hs := hs.moved (hm202.castL (by kernel_rfl))
    refine sim_know 15 ((↑(Uf.hd u k) : Int) == 0) false (by kernel_rfl) (by assumption) ?_
    refine sim_run 3 [] (hR202.cast (by kernel_rfl)) (by kernel_rfl) trivial (fun ρ203 w203 hm203 hR203 => ?_)
    have hag := hag.moved (hm203.castL (by kernel_rfl))
    have hs := hs.moved (hm203.castL (by kernel_rfl))
    refine sim_draw [] (by kernel_rfl) (by kernel_rfl) hR203 (fun hR204 => ?_)
    have hs := hs.drew
    refine sim_ordN 14 [] hR204 (by kernel_rfl) trivial (fun ρ205 w205 hm205 hR205 => ?_)
    have hag := hag.moved (hm205.castL (by kernel_rfl))
    have hs := hs.moved (hm205.castL (by kernel_rfl))
    refine sim_ord_call (T := []) (w0 := w) 32 [.v (Value.pointer (some (Addr.mk q.pb 0 none))), .v (Value.slice q.L ls.length q.cl)] (by kernel_rfl) ?_
    refine Calls.mono (heads_any (q.pb) (q.pg) (q.c) (q.A) (u) (q.L) (ls.length) (q.cl) _ (ls) _ (hs.is.uf) (hgd) (hu) ((Reads.of_own hs.is.own)) (Nat.le_refl _) (hn) (hil)) ?_
    rintro e206 w206 ⟨gm, m, cm, rfl, hgm, hM206, hrw, hH, hb206⟩
    have hMa := hM206.over (hR205).rel (by kernel_rfl)
    have hrw := hrw.over (hR205).rel (by kernel_rfl)
    have hR206 := (hR205).call hb206 (.v (.map (some gm)))
    have hs := hs.below hb206
    refine BackO.of (.v (.map (some gm))) hR206 rfl ?_
    refine sim_ord_call (T := []) (w0 := w) 30 [.v (Value.pointer (some (Addr.mk q.pb 0 none))), LI ((↑k : Int))] (by kernel_rfl) ?_
    refine Calls.mono (ufHead_n (k) (hs.is.uf) (hgd) (hu) (hkk)) ?_
    rintro e207 w207 ⟨rfl, hb207⟩
    have hR207 := hR206.call hb207 (LI ((↑(Uf.hd u k) : Int)))
    have hM206 := hM206.below hb207
    have hMa := hMa.below hb207
    have hrw := hrw.below hb207
    have hs := hs.below hb207
    refine BackO.of (LI ((↑(Uf.hd u k) : Int))) hR207 rfl ?_
    refine sim_ord_look (enc := encZ) (encV := id) (mx := .v (Value.map (some gm))) (kx := LI ((↑(Uf.hd u k) : Int))) (ok := false) ((Uf.hd u k : Nat) : Int) (.v ((look ((Uf.hd u k : Nat) : Int) m).getD nilRow)) (by kernel_rfl) mii_ty kt_int zero_row hMa rfl rfl hR207 (by rfl) (fun hR208 => ?_)
    refine sim_ord_call (T := []) (w0 := w) 31 [.ptr 0 0, .v ((look (↑(Uf.hd u k) : Int) m).getD nilRow)] (by kernel_rfl) ?_
    have ez0_209 := (hag.at_ 0 (by omega)).trans e0
    simp only [denL, LV.den, Nm.at_, ez0_209, Nat.add_zero]
    refine Calls.mono (numbers_row (q) (u) (ls) _ _ (Uf.aheadM u ls (Uf.hd u k)) _ (hs.is) (hgd) (hu) ((own_ahead (hrw.at_ (hH.none _)))) (hah) (hnd)) ?_
    rintro e209 w209 ⟨A3, c3, rfl, ho3, hb209⟩
    have hbs := (hR208).rel.keeps.size
    have hown := Own.start (hR208).rel ho3
    have hR209 := (hR208).call hb209 (.v (.slice A3 (numsM u (Uf.aheadM u ls (Uf.hd u k))).length c3))
    refine BackO.of (.v (.slice A3 (numsM u (Uf.aheadM u ls (Uf.hd u k))).length c3)) hR209 rfl ?_
    refine sim_ordN 1 [] hR209 (by kernel_rfl) trivial (fun ρ210 w210 hm210 hR210 => ?_)
    have hag := hag.moved (hm210.castL (by kernel_rfl))
    have hown := hown.moved (hm210.castL (by kernel_rfl))
    refine sim_ord_endR hR210 (by kernel_rfl) (fun hR211 => ?_)
    refine sim_ret (.v (Value.slice A3 (numsM u (Uf.aheadM u ls (Uf.hd u k))).length c3)) (hR211.cast (by kernel_rfl)) (by kernel_rfl) (by kernel_rfl) ?_
    
    all_goals exact ⟨A3, c3, rfl, own_base hown.own hbs, (by assumption : Rel _ _ _ _ _).toBelow⟩
end Go.Proofs.Ytnfgndapalkbcaa
