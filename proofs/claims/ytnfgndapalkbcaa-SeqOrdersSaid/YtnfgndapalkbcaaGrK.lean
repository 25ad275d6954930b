/-
  link.Ahead, Behind.
-/
import Derived.Test.YtnfgndapalkbcaaGrJ
import Derived.Test.YtnfgndapalkbcaaOrdR
namespace Go.Proofs.Ytnfgndapalkbcaa
open Go Go.RowKit
theorem numbers_row (q : GrP) (u : List Nat) (ls : List Lk) (base : Nat) (v : Value) (hs : List Nat) (w : World) (h : GrV q u ls w) (hgd : Uf.Good u) (hu : u.length ≤ 1000) (ho : w.ownsRow base 3 1 v hs.length (nats hs)) (hin : ∀ h ∈ hs, h ∈ Uf.heads u) (hnd : hs.Nodup) :
    Calls Try.prog 31 #[.pointer (some ⟨q.b, 0, none⟩), v] w (NatsN w (numsM u hs)) := by
  obtain ⟨Av, cv, hve⟩ := own_row ho
  rw [hve] at ho ⊢
  have hle := Uf.nodup_le hnd hin
  have hh : (Uf.heads u).length ≤ u.length := by rw [← Uf.classes_length]; exact classes_le u
  exact numbers_any q u ls Av hs.length cv w.heap.size hs w h hgd hu (Reads.of_own ho) (Nat.le_refl _) (by omega) hin hnd
theorem headI_in {u : List Nat} {k : Nat} (h : 1 ≤ k ∧ k ≤ u.length) : headI u (k : Int) = (Uf.hd u k : Int) := headI_nat h
theorem headI_out {u : List Nat} {i : Int} (h : inU u i = false) : headI u i = 0 := by unfold headI; rw [h]; rfl
theorem inU_nat {u : List Nat} {i : Int} (h : inU u i = true) : ∃ k : Nat, i = k ∧ 1 ≤ k ∧ k ≤ u.length := by
  unfold inU at h
  simp at h
  exact ⟨i.toNat, by omega, by omega, by omega⟩
theorem nat_inU {u : List Nat} {k : Nat} (h : 1 ≤ k ∧ k ≤ u.length) : inU u (k : Int) = true := by
  unfold inU
  simp
  omega
theorem ahead_heads {u : List Nat} {ls : List Lk} (hg : Uf.Good u) (hin : Uf.InL u.length ls) {t : Nat} : ∀ h ∈ Uf.aheadM u ls t, h ∈ Uf.heads u := by
  intro h hh
  obtain ⟨x, hx, _, _, rfl⟩ := Uf.mem_ahead.1 hh
  have := hin x hx
  exact hd_heads hg (by omega) (by omega)
theorem aheadI_nats (u : List Nat) (ls : List Lk) (t : Nat) : ints (aheadI u ls (t : Int)) = nats (Uf.aheadM u ls t) := by
  unfold aheadI
  rw [Int.toNat_natCast, nats_ofNat]
theorem own_ahead {u : List Nat} {ls : List Lk} {t B : Nat} {v : Value} {ρ : Nm} {rs : List Reg} {w : World} (h : Own ρ rs w B 3 1 v (aheadI u ls (t : Int)).length (ints (aheadI u ls (t : Int)))) : w.ownsRow B 3 1 v (Uf.aheadM u ls t).length (nats (Uf.aheadM u ls t)) := by
  have := h.own
  rw [aheadI_nats, aheadI_len, Int.toNat_natCast] at this
  exact this
theorem natsN_nil {w w' : World} (hb : Below w.heap.size w w') : NatsN w [] (.returned (.slice none 0 0)) w' := ⟨none, 0, rfl, World.ownsRow_nil _ _ _ _, hb⟩
attribute [local irreducible] run goO leaveK someK nextK nextT nextOT nextOD loopBody loopRest loopK fillJ tmplOf tmplJ mergeT At AtO drawOk ordOf gateOf callC callO topOp topO idxOf appOf storeOf clearOf sliceOf calleeOf calleeO topQ idxQ newRowOf resL stepOp seek
set_option maxRecDepth 100000 in
set_option maxHeartbeats 4000000 in
theorem ahead_any (q : GrP) (u : List Nat) (ls : List Lk) (i : Int) (w : World) (h : GrV q u ls w) (hi : GInv u ls) : Calls Try.prog 12 #[.pointer (some ⟨q.b, 0, none⟩), .int .i64 i] w (NatsN w (aheadOf u ls i)) := by
  have hfew := hi.few
  have hu := hi.le
  have hgd := hi.good
  have hil := hi.inl
  obtain ⟨ρ, e0, hR⟩ := h.open_ false [] (by simp)
  have hs := h.sta (ρ := ρ) (rs := [⟨(q.cells ls.length).map .v, false⟩]) (by kernel_rfl)
  refine sim_enter Try.func12 ρ [.ptr 0 0, LI i] [⟨(q.cells ls.length).map .v, false⟩] (by kernel_rfl) (by simp only [denL, LV.den, Nm.at_, e0]) ?_
  have hag := hR.ag_ 1 (by kernel_rfl)
  have hn : ls.length ≤ 100000 := by omega
  unfold aheadOf
  cases hI : inU u i with
  | false =>
    have h0 := headI_out hI
    refine sim_run 15 [] (hR.cast (by kernel_rfl)) (by kernel_rfl) trivial (fun ρ100 w100 hm100 hR100 => ?_)
    have hs := hs.moved (hm100.castL (by kernel_rfl))
    have hag := hag.moved (hm100.castL (by kernel_rfl))
    refine sim_call 30 [.v (Value.pointer (some (Addr.mk q.pb 0 none))), LI i] (by kernel_rfl) ?_
    refine Calls.mono (ufHead_b (i) (hs.is.uf) (hgd) (hu)) ?_
    rw [h0]
    rintro e101 w101 ⟨rfl, hb101⟩
    have hR101 := (hR100).below hb101
    have hs := hs.below hb101
    refine Back.of (LI 0) hR101 rfl ?_
    refine sim_run 8 [] (hR101.cast (by kernel_rfl)) (by kernel_rfl) trivial (fun ρ102 w102 hm102 hR102 => ?_)
    have hag := hag.moved (hm102.castL (by kernel_rfl))
    have hs := hs.moved (hm102.castL (by kernel_rfl))
    refine sim_ret (.v (Value.slice none 0 0)) hR102 (by kernel_rfl) (by kernel_rfl) ?_
    
    exact natsN_nil (by assumption : Rel _ _ _ _ _).toBelow
  | true =>
    obtain ⟨k, rfl, hk1, hk2⟩ := inU_nat hI
    have hkk : 1 ≤ k ∧ k ≤ u.length := ⟨hk1, hk2⟩
    have hsp := Uf.hd_spec hgd k hk1 hk2
    have hne : (((Uf.hd u k : Nat) : Int) == 0) = false := beq_eq_false_iff_ne.2 (by omega)
    rw [if_pos rfl, show Uf.hz u (k : Int) = Uf.hd u k from rfl]
    have hnd := Uf.ahead_nodup u ls (Uf.hd u k)
    have hah := ahead_heads (t := Uf.hd u k) hgd hil
    refine sim_run 15 [] (hR.cast (by kernel_rfl)) (by kernel_rfl) trivial (fun ρ200 w200 hm200 hR200 => ?_)
    have hs := hs.moved (hm200.castL (by kernel_rfl))
    have hag := hag.moved (hm200.castL (by kernel_rfl))
    refine sim_call 30 [.v (Value.pointer (some (Addr.mk q.pb 0 none))), LI ((↑k : Int))] (by kernel_rfl) ?_
    refine Calls.mono (ufHead_n (k) (hs.is.uf) (hgd) (hu) (hkk)) ?_
    rintro e201 w201 ⟨rfl, hb201⟩
    have hR201 := hR200.below hb201
    have hs := hs.below hb201
    refine Back.of (LI ((↑(Uf.hd u k) : Int))) hR201 rfl ?_
    refine sim_run 3 [] (hR201.cast (by kernel_rfl)) (by kernel_rfl) trivial (fun ρ202 w202 hm202 hR202 => ?_)
    have hag := hag.moved (hm202.castL (by kernel_rfl))
    have hs := hs.moved (hm202.castL (by kernel_rfl))
    refine sim_know 15 ((↑(Uf.hd u k) : Int) == 0) false (by kernel_rfl) (by assumption) ?_
    refine sim_run 3 [] (hR202.cast (by kernel_rfl)) (by kernel_rfl) trivial (fun ρ203 w203 hm203 hR203 => ?_)
    have hag := hag.moved (hm203.castL (by kernel_rfl))
    have hs := hs.moved (hm203.castL (by kernel_rfl))
    refine sim_draw [] (by kernel_rfl) (by kernel_rfl) hR203 (fun hR204 => ?_)
    have hs := hs.drew
    refine sim_ordN 14 [] hR204 (by kernel_rfl) trivial (fun ρ205 w205 hm205 hR205 => ?_)
    have hag := hag.moved (hm205.castL (by kernel_rfl))
    have hs := hs.moved (hm205.castL (by kernel_rfl))
    refine sim_ord_call (T := []) (w0 := w) 32 [.v (Value.pointer (some (Addr.mk q.pb 0 none))), .v (Value.slice q.L ls.length q.cl)] (by kernel_rfl) ?_
    refine Calls.mono (heads_any (q.pb) (q.pg) (q.c) (q.A) (u) (q.L) (ls.length) (q.cl) _ (ls) _ (hs.is.uf) (hgd) (hu) ((Reads.of_own hs.is.own)) (Nat.le_refl _) (hn) (hil)) ?_
    rintro e206 w206 ⟨gm, m, cm, rfl, hgm, hM206, hrw, hH, hb206⟩
    have hMa := hM206.over (hR205).rel (by kernel_rfl)
    have hrw := hrw.over (hR205).rel (by kernel_rfl)
    have hR206 := (hR205).call hb206 (.v (.map (some gm)))
    have hs := hs.below hb206
    refine BackO.of (.v (.map (some gm))) hR206 rfl ?_
    refine sim_ord_call (T := []) (w0 := w) 30 [.v (Value.pointer (some (Addr.mk q.pb 0 none))), LI ((↑k : Int))] (by kernel_rfl) ?_
    refine Calls.mono (ufHead_n (k) (hs.is.uf) (hgd) (hu) (hkk)) ?_
    rintro e207 w207 ⟨rfl, hb207⟩
    have hR207 := hR206.call hb207 (LI ((↑(Uf.hd u k) : Int)))
    have hM206 := hM206.below hb207
    have hMa := hMa.below hb207
    have hrw := hrw.below hb207
    have hs := hs.below hb207
    refine BackO.of (LI ((↑(Uf.hd u k) : Int))) hR207 rfl ?_
    refine sim_ord_look (enc := encZ) (encV := id) (mx := .v (Value.map (some gm))) (kx := LI ((↑(Uf.hd u k) : Int))) (ok := false) ((Uf.hd u k : Nat) : Int) (.v ((look ((Uf.hd u k : Nat) : Int) m).getD nilRow)) (by kernel_rfl) mii_ty kt_int zero_row hMa rfl rfl hR207 (by rfl) (fun hR208 => ?_)
    refine sim_ord_call (T := []) (w0 := w) 31 [.ptr 0 0, .v ((look (↑(Uf.hd u k) : Int) m).getD nilRow)] (by kernel_rfl) ?_
    have ez0_209 := (hag.at_ 0 (by omega)).trans e0
    simp only [denL, LV.den, Nm.at_, ez0_209, Nat.add_zero]
    refine Calls.mono (numbers_row (q) (u) (ls) _ _ (Uf.aheadM u ls (Uf.hd u k)) _ (hs.is) (hgd) (hu) ((own_ahead (hrw.at_ (hH.none _)))) (hah) (hnd)) ?_
    rintro e209 w209 ⟨A3, c3, rfl, ho3, hb209⟩
    have hbs := (hR208).rel.keeps.size
    have hown := Own.start (hR208).rel ho3
    have hR209 := (hR208).call hb209 (.v (.slice A3 (numsM u (Uf.aheadM u ls (Uf.hd u k))).length c3))
    refine BackO.of (.v (.slice A3 (numsM u (Uf.aheadM u ls (Uf.hd u k))).length c3)) hR209 rfl ?_
    refine sim_ordN 1 [] hR209 (by kernel_rfl) trivial (fun ρ210 w210 hm210 hR210 => ?_)
    have hag := hag.moved (hm210.castL (by kernel_rfl))
    have hown := hown.moved (hm210.castL (by kernel_rfl))
    refine sim_ord_endR hR210 (by kernel_rfl) (fun hR211 => ?_)
    refine sim_ret (.v (Value.slice A3 (numsM u (Uf.aheadM u ls (Uf.hd u k))).length c3)) (hR211.cast (by kernel_rfl)) (by kernel_rfl) (by kernel_rfl) ?_
    
    all_goals exact ⟨A3, c3, rfl, own_base hown.own hbs, (by assumption : Rel _ _ _ _ _).toBelow⟩
def hitB (u : List Nat) (ls : List Lk) (h : Nat) (e : Ent Int Value) : Bool := (aheadI u ls e.key).contains (h : Int)
def outK (u : List Nat) (ls : List Lk) (h : Nat) (dn : List (Ent Int Value)) : List Nat := (dn.filter (hitB u ls h)).map fun e => e.key.toNat
theorem outK_snoc (u : List Nat) (ls : List Lk) (h : Nat) (dn : List (Ent Int Value)) (e : Ent Int Value) : outK u ls h (dn ++ [e]) = outK u ls h dn ++ if hitB u ls h e = true then [e.key.toNat] else [] := by
  unfold outK
  rw [List.filter_append, List.map_append]
  congr 1
  by_cases hh : hitB u ls h e = true
  · rw [if_pos hh, List.filter_cons_of_pos hh]; rfl
  · rw [if_neg hh, List.filter_cons_of_neg hh]; rfl
theorem outK_len (u : List Nat) (ls : List Lk) (h : Nat) (dn : List (Ent Int Value)) : (outK u ls h dn).length ≤ dn.length := by
  unfold outK
  rw [List.length_map]
  exact List.length_filter_le _ _
theorem outK_mem {u : List Nat} {ls : List Lk} {h : Nat} {m dn : List (Ent Int Value)} (hH : HdM u ls m) (hsub : ∀ e ∈ dn, e ∈ m) (hall : ∀ e ∈ m, e ∈ dn) (x : Nat) : x ∈ outK u ls h dn ↔ x ∈ behindM u ls h := by
  unfold outK behindM
  rw [List.mem_map, List.mem_filter, List.contains_iff_mem]
  constructor
  · rintro ⟨e, he, rfl⟩
    obtain ⟨h1, h2⟩ := List.mem_filter.1 he
    obtain ⟨t, ht, hth⟩ := hH.key e (hsub e h1)
    rw [ht, Int.toNat_natCast]
    refine ⟨hth, ?_⟩
    unfold hitB aheadI at h2
    rw [ht, Int.toNat_natCast, List.contains_iff_mem, List.mem_map] at h2
    obtain ⟨a, ha, hae⟩ := h2
    have : a = h := Int.ofNat.inj hae
    exact this ▸ ha
  · rintro ⟨h1, h2⟩
    cases hl : look (x : Int) m with
    | none =>
      have := hH.none _ hl
      unfold aheadI at this
      rw [Int.toNat_natCast, List.map_eq_nil_iff] at this
      rw [this] at h2
      cases h2
    | some v =>
      obtain ⟨e, he, hk, _⟩ := look_in hl
      refine ⟨e, List.mem_filter.2 ⟨hall e he, ?_⟩, by rw [hk, Int.toNat_natCast]⟩
      unfold hitB aheadI
      rw [hk, Int.toNat_natCast, List.contains_iff_mem, List.mem_map]
      exact ⟨h, h2, rfl⟩
theorem outK_nodup {u : List Nat} {ls : List Lk} {h : Nat} {m dn : List (Ent Int Value)} (hH : HdM u ls m) (hk : m.Pairwise fun a b => a.key ≠ b.key) (hd : dn.Nodup) (hsub : ∀ e ∈ dn, e ∈ m) : (outK u ls h dn).Nodup := by
  unfold outK
  refine List.pairwise_map.2 ((hd.sublist List.filter_sublist).imp_of_mem fun {a b} ha hb hab e => ?_)
  have ha := hsub a (List.mem_filter.1 ha).1
  have hb := hsub b (List.mem_filter.1 hb).1
  obtain ⟨t, ht, _⟩ := hH.key a ha
  obtain ⟨t', ht', _⟩ := hH.key b hb
  have : a.key ≠ b.key := pw_ne (R := fun a b => a.key ≠ b.key) (fun _ _ h => h.symm) hk ha hb hab
  rw [ht, ht'] at this e
  simp only [Int.toNat_natCast] at e
  exact this (by rw [e])
theorem Rws.grownR {K : Type} {ρ : Nm} {rs : List Reg} {w w' : World} {B : Nat} {l : List (Ent K Value)} {f : K → List Int} (h : Rws ρ rs w B l f) {row : Option Nat} (hg : w.grownBy w' row) (hne : ∀ e ∈ l, ∀ g, e.val.ownBlock = some g → row ≠ some g) : Rws ρ rs w' B l f :=
  ⟨fun e he => (h.own e he).grown hg (hne e he), h.apart⟩
set_option maxRecDepth 100000 in
set_option maxHeartbeats 4000000 in
theorem behind_any (q : GrP) (u : List Nat) (ls : List Lk) (i : Int) (w : World) (h : GrV q u ls w) (hi : GInv u ls) : Calls Try.prog 13 #[.pointer (some ⟨q.b, 0, none⟩), .int .i64 i] w (NatsN w (behindOf u ls i)) := by
  have hfew := hi.few
  have hu := hi.le
  have hgd := hi.good
  have hil := hi.inl
  have hglt := h.lt
  obtain ⟨ρ, e0, hR⟩ := h.open_ false [] (by simp)
  have hs := h.sta (ρ := ρ) (rs := [⟨(q.cells ls.length).map .v, false⟩]) (by kernel_rfl)
  refine sim_enter Try.func13 ρ [.ptr 0 0, LI i] [⟨(q.cells ls.length).map .v, false⟩] (by kernel_rfl) (by simp only [denL, LV.den, Nm.at_, e0]) ?_
  have hag := hR.ag_ 1 (by kernel_rfl)
  have hn : ls.length ≤ 100000 := by omega
  unfold behindOf
  cases hI : inU u i with
  | false =>
    have h0 := headI_out hI
    refine sim_run 15 [] (hR.cast (by kernel_rfl)) (by kernel_rfl) trivial (fun ρ300 w300 hm300 hR300 => ?_)
    have hs := hs.moved (hm300.castL (by kernel_rfl))
    have hag := hag.moved (hm300.castL (by kernel_rfl))
    refine sim_call 30 [.v (Value.pointer (some (Addr.mk q.pb 0 none))), LI i] (by kernel_rfl) ?_
    refine Calls.mono (ufHead_b (i) (hs.is.uf) (hgd) (hu)) ?_
    rw [h0]
    rintro e301 w301 ⟨rfl, hb301⟩
    have hR301 := (hR300).below hb301
    have hs := hs.below hb301
    refine Back.of (LI 0) hR301 rfl ?_
    refine sim_run 8 [] (hR301.cast (by kernel_rfl)) (by kernel_rfl) trivial (fun ρ302 w302 hm302 hR302 => ?_)
    have hag := hag.moved (hm302.castL (by kernel_rfl))
    have hs := hs.moved (hm302.castL (by kernel_rfl))
    refine sim_ret (.v (Value.slice none 0 0)) hR302 (by kernel_rfl) (by kernel_rfl) ?_
    
    exact natsN_nil (by assumption : Rel _ _ _ _ _).toBelow
  | true =>
    obtain ⟨k, rfl, hk1, hk2⟩ := inU_nat hI
    have hkk : 1 ≤ k ∧ k ≤ u.length := ⟨hk1, hk2⟩
    have hsp := Uf.hd_spec hgd k hk1 hk2
    have hne : (((Uf.hd u k : Nat) : Int) == 0) = false := beq_eq_false_iff_ne.2 (by omega)
    rw [if_pos rfl, show Uf.hz u (k : Int) = Uf.hd u k from rfl]
    refine sim_run 15 [] (hR.cast (by kernel_rfl)) (by kernel_rfl) trivial (fun ρ400 w400 hm400 hR400 => ?_)
    have hs := hs.moved (hm400.castL (by kernel_rfl))
    have hag := hag.moved (hm400.castL (by kernel_rfl))
    refine sim_call 30 [.v (Value.pointer (some (Addr.mk q.pb 0 none))), LI ((↑k : Int))] (by kernel_rfl) ?_
    refine Calls.mono (ufHead_n (k) (hs.is.uf) (hgd) (hu) (hkk)) ?_
    rintro e401 w401 ⟨rfl, hb401⟩
    have hR401 := hR400.below hb401
    have hs := hs.below hb401
    refine Back.of (LI ((↑(Uf.hd u k) : Int))) hR401 rfl ?_
    refine sim_run 3 [] (hR401.cast (by kernel_rfl)) (by kernel_rfl) trivial (fun ρ402 w402 hm402 hR402 => ?_)
    have hag := hag.moved (hm402.castL (by kernel_rfl))
    have hs := hs.moved (hm402.castL (by kernel_rfl))
    refine sim_know 18 ((↑(Uf.hd u k) : Int) == 0) false (by kernel_rfl) (by assumption) ?_
    refine sim_run 8 [] (hR402.cast (by kernel_rfl)) (by kernel_rfl) trivial (fun ρ403 w403 hm403 hR403 => ?_)
    have hag := hag.moved (hm403.castL (by kernel_rfl))
    have hs := hs.moved (hm403.castL (by kernel_rfl))
    refine sim_draw [] (by kernel_rfl) (by kernel_rfl) hR403 (fun hR404 => ?_)
    have hs := hs.drew
    refine sim_ordN 8 [] hR404 (by kernel_rfl) trivial (fun ρ405 w405 hm405 hR405 => ?_)
    have hag := hag.moved (hm405.castL (by kernel_rfl))
    have hs := hs.moved (hm405.castL (by kernel_rfl))
    refine sim_ord_call (T := []) (w0 := w) 32 [.v (Value.pointer (some (Addr.mk q.pb 0 none))), .v (Value.slice q.L ls.length q.cl)] (by kernel_rfl) ?_
    refine Calls.mono (heads_any (q.pb) (q.pg) (q.c) (q.A) (u) (q.L) (ls.length) (q.cl) _ (ls) _ (hs.is.uf) (hgd) (hu) ((Reads.of_own hs.is.own)) (Nat.le_refl _) (hn) (hil)) ?_
    rintro e406 w406 ⟨gm, m, cm, rfl, hgm, hM406, hrw, hH, hb406⟩
    have hMa := hM406.over (hR405).rel (by kernel_rfl)
    have hrw := hrw.over (hR405).rel (by kernel_rfl)
    have hR406 := (hR405).call hb406 (.v (.map (some gm)))
    have hs := hs.below hb406
    refine BackO.of (.v (.map (some gm))) hR406 rfl ?_
    refine sim_ord_range (enc := encZ) (encV := id) (mx := .v (.map (some gm))) (by kernel_rfl) mii_ty hMa rfl hR406 (fun w407 it eit hb407 hI hR407 => ?_)
    have hbs := (hR406).rel.keeps.size
    have hrb := fun e he g hg => own_lt (hrw.own e he).own (g := g) hg
    have hMa := hMa.below hb407
    have hrw := hrw.below hb407
    have hs := hs.below hb407
    refine sim_ord_endR hR407 (by kernel_rfl) (fun hR408 => ?_)
    refine sim_run 1 [] (hR408.cast (by kernel_rfl)) (by kernel_rfl) trivial (fun ρ409 w409 hm409 hR409 => ?_)
    have hag := hag.moved (hm409.castL (by kernel_rfl))
    have hI := hI.moved (hm409.castL (by kernel_rfl))
    have hMa := hMa.moved (hm409.castL (by kernel_rfl))
    have hrw := hrw.moved (hm409.castL (by kernel_rfl))
    have hs := hs.moved (hm409.castL (by kernel_rfl))
    
    have hmf := hMa.fine
    have hit : w.heap.size ≤ it := by rw [eit]; exact hbs
    have hB6 : w406.heap.size ≤ w409.heap.size := by have h1 := hb407.size; have h2 := hm409.kept.size; omega
    generalize w406.heap.size = Bo at *
    generalize w405.heap.size = Bh at *
    refine sim_loop (ι := List (Ent Int Value) × Value) (T := []) (w0 := w) ([], nilRow) [0, 1, 28] (fun x => [(5, .v x.2)]) (fun _ => [⟨(q.cells ls.length).map .v, false⟩]) (fun x w1 => Sta q.has (GrV q u ls) ρ409 [⟨(q.cells ls.length).map .v, false⟩] w1 ∧ MpO encZ id ρ409 [⟨(q.cells ls.length).map .v, false⟩] w1 (some gm) m cm ∧ ItO ρ409 [⟨(q.cells ls.length).map .v, false⟩] w1 it (some gm) m cm x.1 ∧ Rws ρ409 [⟨(q.cells ls.length).map .v, false⟩] w1 Bh m (aheadI u ls) ∧ Own ρ409 [⟨(q.cells ls.length).map .v, false⟩] w1 Bo 3 1 x.2 (outK u ls (Uf.hd u k) x.1).length (nats (outK u ls (Uf.hd u k) x.1)) ∧ Bo ≤ w1.heap.size) (fun x => m.length - x.1.length) (by kernel_rfl) (by kernel_rfl) ((by assumption : Rel _ _ _ _ _).cast (by kernel_rfl)) ⟨hs.castR (by kernel_rfl), hMa.castR (by kernel_rfl), hI.castR (by kernel_rfl), hrw.castR (by kernel_rfl), ⟨World.ownsRow_nil _ _ _ _, fun g hg => by cases hg⟩, hB6⟩ ?_
    have e0 := (hag.at_ 0 (by omega)).trans e0
    iterate 8 (try clear hMa)
    iterate 8 (try clear hrw)
    iterate 8 (try clear hs)
    iterate 8 (try clear hI)
    iterate 8 (try clear hag)
    rintro ⟨dn, v⟩ d w2 hR2 ⟨hs, hMa, hI, hrw, hown, hB2⟩
    dsimp only at hI hown
    have hag0 := hR2.ag_ 1 (by kernel_rfl)
    have hold : OldR 0 Bo ρ409 [⟨(q.cells ls.length).map .v, false⟩] w2 := ⟨fun _ h => absurd h (Nat.not_lt_zero _), Nat.zero_le _, hB2⟩
    have hgo : ∀ {rs : List Reg} {ρ1 : Nm}, Nat.beq rs.length 1 = true → ρ1 0 = (q.b, 0) → ∀ {b n : Nat} {v : Value} {xs : List Value} {w1 : World}, w1.ownsRow b 3 1 v n xs → w.heap.size ≤ b → ∀ g, v.ownBlock = some g → ∀ (k : Nat) (r : Reg), rs[k]? = some r → r.cells ≠ [] → (ρ1 k).1 ≠ g := fun {rs ρ1} hb1 he {b n v xs w1} hw1 hwb g hg k r hk _ => by
      have h2 := (List.getElem?_eq_some_iff.1 hk).1
      have h3 := Nat.eq_of_beq_eq_true hb1
      have h4 := own_ge hw1 hg
      have h5 := hglt q.b (.inl rfl)
      obtain rfl : k = 0 := by omega
      rw [he]
      show q.b ≠ g
      omega
    refine sim_run 2 [] (hR2.cast (by kernel_rfl)) (by kernel_rfl) trivial (fun ρ500 w500 hm500 hR500 => ?_)
    have hs := hs.moved (hm500.castL (by kernel_rfl))
    have hMa := hMa.moved (hm500.castL (by kernel_rfl))
    have hI := hI.moved (hm500.castL (by kernel_rfl))
    have hrw := hrw.moved (hm500.castL (by kernel_rfl))
    have hown := hown.moved (hm500.castL (by kernel_rfl))
    have hag0 := hag0.moved (hm500.castL (by kernel_rfl))
    have hold := hold.moved (hm500.castL (by kernel_rfl))
    
    refine sim_next (enc := encZ) (encV := id) (x := .v (.pointer (some ⟨it, 0, none⟩))) (by kernel_rfl) hMa hI rfl hit (by assumption : Rel _ _ _ _ _) (fun e w3 he hnd ht hI3 hR3 => ?_) (fun hall => ?_)
    · have hMa := hMa.turnI ht
      have hrw := hrw.turnI ht
      have hs := hs.turnI ht (fun h => by have := hglt _ h; omega)
      have hown := hown.turnI ht
      have hold := hold.turnI ht
      have hIold := hI
      clear hI
      have hI := hI3
      clear hI3
      obtain ⟨t, hkt, hth⟩ := hH.key e he
      obtain ⟨ek, ev, eb⟩ := e
      dsimp only at hkt
      subst hkt
      generalize hbb : (aheadI u ls (t : Int)).contains ((Uf.hd u k : Nat) : Int) = b0
      have hlen1 : (aheadI u ls (t : Int)).length ≤ 100000 := by rw [aheadI_len]; have := ahead_len u ls ((t : Int)).toNat; omega
      have hon := outK_snoc u ls (Uf.hd u k) dn ⟨(t : Int), ev, eb⟩
      rw [show hitB u ls (Uf.hd u k) ⟨(t : Int), ev, eb⟩ = b0 from hbb] at hon
      have hol := outK_len u ls (Uf.hd u k) dn
      have hdl := hI.ltG
      have hmle : (outK u ls (Uf.hd u k) dn).length ≤ 1000 := by
        have h1 := Uf.nodup_le (outK_nodup (h := Uf.hd u k) hH hmf.keys (nodup_map hIold.nodup) hIold.sub) (m := Uf.heads u) (fun x hx => by
          unfold outK at hx
          obtain ⟨e', he', rfl⟩ := List.mem_map.1 hx
          obtain ⟨t', ht', hth'⟩ := hH.key e' (hIold.sub e' (List.mem_filter.1 he').1)
          rw [ht', Int.toNat_natCast]
          exact hth')
        have h2 : (Uf.heads u).length ≤ u.length := by rw [← Uf.classes_length]; exact classes_le u
        omega
      cases b0 with
      | false =>
        rw [if_neg (by simp), List.append_nil] at hon
        refine sim_run 8 [] (hR3.cast (by kernel_rfl)) (by kernel_rfl) trivial (fun ρ600 w600 hm600 hR600 => ?_)
        have hag0 := hag0.moved (hm600.castL (by kernel_rfl))
        have hMa := hMa.moved (hm600.castL (by kernel_rfl))
        have hrw := hrw.moved (hm600.castL (by kernel_rfl))
        have hs := hs.moved (hm600.castL (by kernel_rfl))
        have hown := hown.moved (hm600.castL (by kernel_rfl))
        have hold := hold.moved (hm600.castL (by kernel_rfl))
        have hI := hI.moved (hm600.castL (by kernel_rfl))
        refine sim_entry (enc := encZ) (encV := id) (x := .v (Value.pointer (some (Addr.mk it 0 none)))) ⟨(t : Int), ev, eb⟩ (by kernel_rfl) hMa hI rfl ?_
        refine sim_run 13 [] (hR600.cast (by kernel_rfl)) (by kernel_rfl) trivial (fun ρ602 w602 hm602 hR602 => ?_)
        have hag0 := hag0.moved (hm602.castL (by kernel_rfl))
        have hMa := hMa.moved (hm602.castL (by kernel_rfl))
        have hrw := hrw.moved (hm602.castL (by kernel_rfl))
        have hs := hs.moved (hm602.castL (by kernel_rfl))
        have hown := hown.moved (hm602.castL (by kernel_rfl))
        have hold := hold.moved (hm602.castL (by kernel_rfl))
        have hI := hI.moved (hm602.castL (by kernel_rfl))
        refine sim_call 30 [.v (Value.pointer (some (Addr.mk q.pb 0 none))), LI ((↑k : Int))] (by kernel_rfl) ?_
        refine Calls.mono (ufHead_n (k) (hs.is.uf) (hgd) (hu) (hkk)) ?_
        rintro e603 w603 ⟨rfl, hb603⟩
        have hR603 := hR602.below hb603
        have hMa := hMa.below hb603
        have hrw := hrw.below hb603
        have hs := hs.below hb603
        have hown := hown.below hb603
        have hold := hold.below hb603
        have hI := hI.below hb603
        refine Back.of (LI ((↑(Uf.hd u k) : Int))) hR603 rfl ?_
        refine sim_call 33 [.v (id (Ent.mk (↑t : Int) ev eb).val), LI ((↑(Uf.hd u k) : Int))] (by kernel_rfl) ?_
        refine Calls.mono (containsI_row (Bh) (ev) (aheadI u ls (t : Int)) ((Uf.hd u k : Nat)) _ _ ((hrw.own _ he).own) (hbb) (hlen1)) ?_
        rintro e604 w604 ⟨rfl, hb604⟩
        have hR604 := hR603.below hb604
        have hMa := hMa.below hb604
        have hrw := hrw.below hb604
        have hs := hs.below hb604
        have hown := hown.below hb604
        have hold := hold.below hb604
        have hI := hI.below hb604
        refine Back.of (LB false) hR604 rfl ?_
        refine sim_run 4 [] (hR604.cast (by kernel_rfl)) (by kernel_rfl) trivial (fun ρ605 w605 hm605 hR605 => ?_)
        have hag0 := hag0.moved (hm605.castL (by kernel_rfl))
        have hMa := hMa.moved (hm605.castL (by kernel_rfl))
        have hrw := hrw.moved (hm605.castL (by kernel_rfl))
        have hs := hs.moved (hm605.castL (by kernel_rfl))
        have hown := hown.moved (hm605.castL (by kernel_rfl))
        have hold := hold.moved (hm605.castL (by kernel_rfl))
        have hI := hI.moved (hm605.castL (by kernel_rfl))
        
        exact sim_again (dn ++ [⟨(t : Int), ev, eb⟩], v) (by kernel_rfl) (by show m.length - (dn ++ [_]).length < m.length - dn.length; rw [List.length_append, List.length_singleton]; omega) (by kernel_rfl) (by kernel_rfl) (by kernel_rfl) hag0.ag (Rel.cast (by assumption) (by kernel_rfl)) (by kernel_rfl) (by kernel_rfl) ⟨hs.cut hag0 rfl (by kernel_rfl), hMa.cut hag0 rfl (by kernel_rfl), hI.cut hag0 rfl (by kernel_rfl), hrw.cut hag0 rfl (by kernel_rfl), by dsimp only; rw [hon]; exact hown.cut hag0 rfl (by kernel_rfl), hold.sz⟩
      | true =>
        rw [if_pos rfl] at hon
        refine sim_run 8 [] (hR3.cast (by kernel_rfl)) (by kernel_rfl) trivial (fun ρ700 w700 hm700 hR700 => ?_)
        have hag0 := hag0.moved (hm700.castL (by kernel_rfl))
        have hMa := hMa.moved (hm700.castL (by kernel_rfl))
        have hrw := hrw.moved (hm700.castL (by kernel_rfl))
        have hs := hs.moved (hm700.castL (by kernel_rfl))
        have hown := hown.moved (hm700.castL (by kernel_rfl))
        have hold := hold.moved (hm700.castL (by kernel_rfl))
        have hI := hI.moved (hm700.castL (by kernel_rfl))
        refine sim_entry (enc := encZ) (encV := id) (x := .v (Value.pointer (some (Addr.mk it 0 none)))) ⟨(t : Int), ev, eb⟩ (by kernel_rfl) hMa hI rfl ?_
        refine sim_run 13 [] (hR700.cast (by kernel_rfl)) (by kernel_rfl) trivial (fun ρ702 w702 hm702 hR702 => ?_)
        have hag0 := hag0.moved (hm702.castL (by kernel_rfl))
        have hMa := hMa.moved (hm702.castL (by kernel_rfl))
        have hrw := hrw.moved (hm702.castL (by kernel_rfl))
        have hs := hs.moved (hm702.castL (by kernel_rfl))
        have hown := hown.moved (hm702.castL (by kernel_rfl))
        have hold := hold.moved (hm702.castL (by kernel_rfl))
        have hI := hI.moved (hm702.castL (by kernel_rfl))
        refine sim_call 30 [.v (Value.pointer (some (Addr.mk q.pb 0 none))), LI ((↑k : Int))] (by kernel_rfl) ?_
        refine Calls.mono (ufHead_n (k) (hs.is.uf) (hgd) (hu) (hkk)) ?_
        rintro e703 w703 ⟨rfl, hb703⟩
        have hR703 := hR702.below hb703
        have hMa := hMa.below hb703
        have hrw := hrw.below hb703
        have hs := hs.below hb703
        have hown := hown.below hb703
        have hold := hold.below hb703
        have hI := hI.below hb703
        refine Back.of (LI ((↑(Uf.hd u k) : Int))) hR703 rfl ?_
        refine sim_call 33 [.v (id (Ent.mk (↑t : Int) ev eb).val), LI ((↑(Uf.hd u k) : Int))] (by kernel_rfl) ?_
        refine Calls.mono (containsI_row (Bh) (ev) (aheadI u ls (t : Int)) ((Uf.hd u k : Nat)) _ _ ((hrw.own _ he).own) (hbb) (hlen1)) ?_
        rintro e704 w704 ⟨rfl, hb704⟩
        have hR704 := hR703.below hb704
        have hMa := hMa.below hb704
        have hrw := hrw.below hb704
        have hs := hs.below hb704
        have hown := hown.below hb704
        have hold := hold.below hb704
        have hI := hI.below hb704
        refine Back.of (LB true) hR704 rfl ?_
        refine sim_run 6 [] (hR704.cast (by kernel_rfl)) (by kernel_rfl) trivial (fun ρ705 w705 hm705 hR705 => ?_)
        have hag0 := hag0.moved (hm705.castL (by kernel_rfl))
        have hMa := hMa.moved (hm705.castL (by kernel_rfl))
        have hrw := hrw.moved (hm705.castL (by kernel_rfl))
        have hs := hs.moved (hm705.castL (by kernel_rfl))
        have hown := hown.moved (hm705.castL (by kernel_rfl))
        have hold := hold.moved (hm705.castL (by kernel_rfl))
        have hI := hI.moved (hm705.castL (by kernel_rfl))
        
        refine sim_appendO 31 v (.slc 1 0 1 1) (by kernel_rfl) (by assumption : Rel _ _ _ _ _) int_ty hown 1 1 1 rfl [LI (t : Int)] (by kernel_rfl) rfl (by kernel_rfl) (by unfold maxLen; omega) (by omega) hold.sz (fun g' hg' => .inr (by have := own_ge hown.own hg'; omega)) [0] (by kernel_rfl) (fun k0 hk0 g' hg' => by
          have h4 := own_ge hown.own hg'
          have h5 := hglt q.b (.inl rfl)
          simp only [List.mem_singleton] at hk0
          subst hk0
          rw [hag0.at_ 0 (by omega), e0]
          show q.b ≠ g'
          omega) (fun v' w6 hvo hgr hR6 => ?_)
        have hs := hs.grown hgr (fun x hx e => by have := own_ge hown.own e; have := hglt x hx; omega)
        have hMa := hMa.grownO hown.own hgr
        have hI := hI.grownO hown.own hgr
        have hrw := hrw.grownR hgr (fun e he g hg e2 => by have := own_ge hown.own e2; have := hrb e he g hg; omega)
        have hB6 := Nat.le_trans hold.sz hgr.size
        have hold6 : OldR 0 Bo _ _ w6 := ⟨hold.lt, hold.le, hB6⟩
        clear hold hown
        refine sim_run 3 [] (hR6.cast (by kernel_rfl)) (by kernel_rfl) trivial (fun ρ900 w900 hm900 hR900 => ?_)
        have hag0 := hag0.moved (hm900.castL (by kernel_rfl))
        have hvo := hvo.moved (hm900.castL (by kernel_rfl))
        have hs := hs.moved (hm900.castL (by kernel_rfl))
        have hMa := hMa.moved (hm900.castL (by kernel_rfl))
        have hI := hI.moved (hm900.castL (by kernel_rfl))
        have hrw := hrw.moved (hm900.castL (by kernel_rfl))
        have hold6 := hold6.moved (hm900.castL (by kernel_rfl))
        
        exact sim_again (dn ++ [⟨(t : Int), ev, eb⟩], v') (by kernel_rfl) (by show m.length - (dn ++ [_]).length < m.length - dn.length; rw [List.length_append, List.length_singleton]; omega) (by kernel_rfl) (by kernel_rfl) (by kernel_rfl) hag0.ag (Rel.cast (by assumption) (by kernel_rfl)) (by kernel_rfl) (by kernel_rfl) ⟨hs.cut hag0 rfl (by kernel_rfl), hMa.cut hag0 rfl (by kernel_rfl), hI.cut hag0 rfl (by kernel_rfl), hrw.cut hag0 rfl (by kernel_rfl), by dsimp only; rw [hon, List.length_append, nats_append]; exact hvo.cut hag0 rfl (by kernel_rfl), hold6.sz⟩
    · have hmem := outK_mem (h := Uf.hd u k) hH hI.sub hall
      have hoh : ∀ x ∈ outK u ls (Uf.hd u k) dn, x ∈ Uf.heads u := fun x hx => by
        have := (hmem x).1 hx
        unfold behindM at this
        exact (List.mem_filter.1 this).1
      have hond := outK_nodup (h := Uf.hd u k) hH hmf.keys (nodup_map hI.nodup) hI.sub
      rw [nums_congr (fun x => (hmem x).symm)]
      refine sim_run 4 [] (hR500.cast (by kernel_rfl)) (by kernel_rfl) trivial (fun ρ800 w800 hm800 hR800 => ?_)
      have hs := hs.moved (hm800.castL (by kernel_rfl))
      have hMa := hMa.moved (hm800.castL (by kernel_rfl))
      have hI := hI.moved (hm800.castL (by kernel_rfl))
      have hrw := hrw.moved (hm800.castL (by kernel_rfl))
      have hown := hown.moved (hm800.castL (by kernel_rfl))
      have hag0 := hag0.moved (hm800.castL (by kernel_rfl))
      have hold := hold.moved (hm800.castL (by kernel_rfl))
      refine sim_leave (by kernel_rfl) ?_
      refine sim_run 4 [] (hR800.cast (by kernel_rfl)) (by kernel_rfl) trivial (fun ρ801 w801 hm801 hR801 => ?_)
      have hs := hs.moved (hm801.castL (by kernel_rfl))
      have hMa := hMa.moved (hm801.castL (by kernel_rfl))
      have hI := hI.moved (hm801.castL (by kernel_rfl))
      have hrw := hrw.moved (hm801.castL (by kernel_rfl))
      have hown := hown.moved (hm801.castL (by kernel_rfl))
      have hag0 := hag0.moved (hm801.castL (by kernel_rfl))
      have hold := hold.moved (hm801.castL (by kernel_rfl))
      refine sim_call 31 [.ptr 0 0, .v ((dn, v).snd)] (by kernel_rfl) ?_
      have ez0_802 := (hag0.at_ 0 (by omega)).trans e0
      simp only [denL, LV.den, Nm.at_, ez0_802, Nat.add_zero]
      refine Calls.mono (numbers_row (q) (u) (ls) (Bo) (v) (outK u ls (Uf.hd u k) dn) _ (hs.is) (hgd) (hu) (hown.own) (hoh) (hond)) ?_
      rintro e802 w802 ⟨A3, c3, rfl, ho3, hb802⟩
      have hbs2 := (hR801).keeps.size
      have hown3 := Own.start (hR801) ho3
      have hR802 := (hR801).below hb802
      refine Back.of (.v (.slice A3 (numsM u (outK u ls (Uf.hd u k) dn)).length c3)) hR802 rfl ?_
      refine sim_run 2 [] (hR802.cast (by kernel_rfl)) (by kernel_rfl) trivial (fun ρ803 w803 hm803 hR803 => ?_)
      have hag0 := hag0.moved (hm803.castL (by kernel_rfl))
      have hown3 := hown3.moved (hm803.castL (by kernel_rfl))
      refine sim_ret (.v (Value.slice A3 (numsM u (outK u ls (Uf.hd u k) dn)).length c3)) hR803 (by kernel_rfl) (by kernel_rfl) ?_
      
      exact ⟨A3, c3, rfl, own_base hown3.own hbs2, (by assumption : Rel _ _ _ _ _).toBelow⟩
end Go.Proofs.Ytnfgndapalkbcaa
