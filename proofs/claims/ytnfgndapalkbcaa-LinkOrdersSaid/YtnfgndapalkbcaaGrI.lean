/-
  link.New, Links, Order; of a nil graph.
-/
import Derived.Test.YtnfgndapalkbcaaGrH
namespace Go.Proofs.Ytnfgndapalkbcaa
open Go Go.RowKit
theorem Rel.rowW {T : List Nat} {w0 w : World} {ρ : Nm} {rs : List Reg} (_ : Rel T w0 ρ rs w) {g : Nat} {t : TypeId} {cur : List Value} (h : Blk w g t cur.toArray) : RowV ρ rs w g t cur := RowV.start h ρ rs
theorem RowsR.widen {w : World} {B base base' : Nat} {L : Option Addr} {xss : List (List Nat)} (h : RowsR w B base L xss) (hb : base' ≤ base) : RowsR w w.heap.size base' L xss := by
  obtain ⟨vs, hr, hL, hrow⟩ := h
  refine ⟨vs, hr.size_ (by omega), fun ad e => by have := hL ad e; omega, fun i xs hx => ?_⟩
  obtain ⟨A, cap, h1, h2, h3, h4, h5⟩ := hrow i xs hx
  exact ⟨A, cap, h1, h2, h3, h4.size_ (by omega), fun ad e => by have := h5 ad e; omega⟩
theorem own_nil {w : World} {b n cl s : Nat} {e : TypeId} {L : Option Addr} {xs : List Value} (h : w.ownsRow b e s (.slice L n cl) n xs) (hL : L = none) : n = 0 ∧ cl = 0 := by
  subst hL
  rcases h.2 with ⟨h1, h2⟩ | ⟨g, cap, cur, h1, _⟩
  · injection h1 with _ h3 h4
    exact ⟨h2, h4⟩
  · injection h1 with h1
    cases h1
attribute [local irreducible] run goO leaveK someK nextK nextT nextOT nextOD loopBody loopRest loopK fillJ tmplOf tmplJ mergeT At AtO drawOk ordOf gateOf callC callO topOp topO idxOf appOf storeOf clearOf sliceOf calleeOf calleeO topQ idxQ newRowOf resL stepOp seek
set_option maxRecDepth 100000 in
set_option maxHeartbeats 4000000 in
theorem newG_any (n : Nat) (hn : n ≤ 1000) (w : World) : Calls Try.prog 10 #[.int .i64 n] w fun e w' => ∃ q : GrP, e = .returned (.tuple #[.pointer (some ⟨q.b, 0, none⟩), .int .i64 0]) ∧ GrV q (Uf.fresh n) [] w' ∧ (∀ x, q.has x → w.heap.size ≤ x) ∧ Below w.heap.size w w' := by
  refine sim_enter Try.func10 ρ0 [LI n] [] (by kernel_rfl) rfl ?_
  have hR := Rel.start [] w ρ0
  refine sim_run 8 [] (hR.cast (by kernel_rfl)) (by kernel_rfl) trivial (fun ρ100 w100 hm100 hR100 => ?_)
  refine sim_call 28 [LI ((↑n : Int))] (by kernel_rfl) ?_
  refine Calls.mono (new_in (n) (hn) _) ?_
  rintro e101 w101 ⟨rfl, gq, Aq, cq, hu101, hb101, hgq⟩
  have hbs := (hR100).keeps.size
  have hj := Sta.new (S := ufS _ gq) (V := UfW _ gq (Uf.fresh n) Aq cq) (hR100) hu101 (fun x hx => hx.elim (fun e => e ▸ Nat.le_refl _) (fun e => e ▸ hgq)) (fun x hx => hx.elim (fun e => e ▸ hu101.lt.1) (fun e => e ▸ hu101.lt.2)) UfW.same
  have hR101 := (hR100).below hb101
  refine Back.of (.tup [.v (Value.pointer (some (Addr.mk w100.heap.size 0 none))), LI 0]) hR101 rfl ?_
  refine sim_run 18 [] (hR101.cast (by kernel_rfl)) (by kernel_rfl) trivial (fun ρ102 w102 hm102 hR102 => ?_)
  have hj := hj.moved (hm102.castL (by kernel_rfl))
  
  have hj := hj.castR (rs' := []) (by kernel_rfl)
  generalize w100.heap.size = bq at *
  have hsz := ((by assumption : Rel _ _ _ _ _)).keeps.size
  refine sim_box (e := 36) (x := .agg [.v (.pointer (some ⟨bq, 0, none⟩)), .v (.slice none 0 0)]) 0 (by kernel_rfl) (by kernel_rfl) (by assumption : Rel _ _ _ _ _) (by kernel_rfl) (fun ρ2 w2 hm2 e2 hR2 hb2 => ?_)
  have hag := hR2.ag_ 1 (by kernel_rfl)
  have hbox := hR2.rowW (cur := [.pointer (some ⟨bq, 0, none⟩), .slice none 0 0]) hb2
  have hj := hj.moved (hm2.castL (by kernel_rfl))
  refine sim_run 3 [] (hR2.cast (by kernel_rfl)) (by kernel_rfl) trivial (fun ρ200 w200 hm200 hR200 => ?_)
  have hag := hag.moved (hm200.castL (by kernel_rfl))
  have hbox := hbox.moved (hm200.castL (by kernel_rfl))
  have hj := hj.moved (hm200.castL (by kernel_rfl))
  refine sim_ret (.tup [.ptr 0 0, LI 0]) hR200 (by kernel_rfl) (by kernel_rfl) ?_
  
  have hlt := hj.is.lt
  refine ⟨⟨w102.heap.size, bq, gq, Aq, cq, none, 0⟩, by simp only [LV.den, denL, Nm.at_, hag.at_ 0 (by omega), e2, Nat.add_zero], ⟨?_, hj.is, World.ownsRow_nil _ _ _ _⟩, fun x hx => ?_, (by assumption : Rel _ _ _ _ _).toBelow⟩
  · exact hbox.full (n := 0) (cells := [.v (.pointer (some ⟨bq, 0, none⟩)), .v (.slice none 0 0)]) (wr := true) (by assumption : Rel _ _ _ _ _) hag (by kernel_rfl) e2 rfl
  · rcases hx with hx | hx | hx | ⟨a, ha, _⟩
    · rw [hx]; exact hsz
    · rw [hx]; exact hbs
    · rw [hx]; exact Nat.le_trans hbs hgq
    · cases ha
set_option maxRecDepth 100000 in
set_option maxHeartbeats 4000000 in
theorem links_any (q : GrP) (u : List Nat) (ls : List Lk) (w : World) (h : GrV q u ls w) (hi : GInv u ls) : Calls Try.prog 17 #[.pointer (some ⟨q.b, 0, none⟩)] w (RowLk w ls.length (lkV ls)) := by
  have hfew := hi.few
  obtain ⟨ρ, e0, hR⟩ := h.open_ false [] (by simp)
  have hs := h.sta (ρ := ρ) (rs := [⟨(q.cells ls.length).map .v, false⟩]) (by kernel_rfl)
  refine sim_enter Try.func17 ρ [.ptr 0 0] [⟨(q.cells ls.length).map .v, false⟩] (by kernel_rfl) (by simp only [denL, LV.den, Nm.at_, e0]) ?_
  have hag := hR.ag_ 1 (by kernel_rfl)
  have hn : ls.length ≤ 1000000 := by omega
  have hnil := fun (e : q.L = none) => own_nil (L := q.L) h.own e
  refine sim_run 18 [] (hR.cast (by kernel_rfl)) (by kernel_rfl) trivial (fun ρ300 w300 hm300 hR300 => ?_)
  have hs := hs.moved (hm300.castL (by kernel_rfl))
  have hag := hag.moved (hm300.castL (by kernel_rfl))
  refine sim_call 36 [.v (Value.slice q.L ls.length q.cl)] (by kernel_rfl) ?_
  refine Calls.mono (cloneLk_any (q.L) (ls.length) (q.cl) _ (lkV ls) _ ((Reads.of_own hs.is.own)) (Nat.le_refl _) (hn) (hnil) ((lk_one ls))) ?_
  rintro e301 w301 ⟨A3, c3, rfl, ho3, hb301⟩
  have hbs := (hR300).keeps.size
  have hown := Own.start (hR300) ho3
  have hR301 := (hR300).below hb301
  refine Back.of (.v (.slice A3 ls.length c3)) hR301 rfl ?_
  refine sim_run 2 [] (hR301.cast (by kernel_rfl)) (by kernel_rfl) trivial (fun ρ302 w302 hm302 hR302 => ?_)
  have hag := hag.moved (hm302.castL (by kernel_rfl))
  have hown := hown.moved (hm302.castL (by kernel_rfl))
  refine sim_ret (.v (Value.slice A3 ls.length c3)) hR302 (by kernel_rfl) (by kernel_rfl) ?_
  
  exact ⟨A3, c3, rfl, own_base hown.own hbs, (by assumption : Rel _ _ _ _ _).toBelow⟩
set_option maxRecDepth 100000 in
set_option maxHeartbeats 4000000 in
theorem orderG_any (q : GrP) (u : List Nat) (ls : List Lk) (w : World) (h : GrV q u ls w) (hi : GInv u ls) : Calls Try.prog 16 #[.pointer (some ⟨q.b, 0, none⟩)] w fun e w' => ∃ L cap, e = .returned (.slice L (Uf.orderM u ls).length cap) ∧ RowsR w' w'.heap.size w.heap.size L ((Uf.orderM u ls).map (Uf.cls u)) ∧ Below w.heap.size w w' := by
  have hfew := hi.few
  have hu := hi.le
  have hgd := hi.good
  have hil := hi.inl
  obtain ⟨ρ, e0, hR⟩ := h.open_ false [] (by simp)
  have hs := h.sta (ρ := ρ) (rs := [⟨(q.cells ls.length).map .v, false⟩]) (by kernel_rfl)
  refine sim_enter Try.func16 ρ [.ptr 0 0] [⟨(q.cells ls.length).map .v, false⟩] (by kernel_rfl) (by simp only [denL, LV.den, Nm.at_, e0]) ?_
  have hag := hR.ag_ 1 (by kernel_rfl)
  have hn : ls.length ≤ 100000 := by omega
  refine sim_run 13 [] (hR.cast (by kernel_rfl)) (by kernel_rfl) trivial (fun ρ400 w400 hm400 hR400 => ?_)
  have hs := hs.moved (hm400.castL (by kernel_rfl))
  have hag := hag.moved (hm400.castL (by kernel_rfl))
  refine sim_draw [] (by kernel_rfl) (by kernel_rfl) hR400 (fun hR401 => ?_)
  have hs := hs.drew
  refine sim_ordN 8 [] hR401 (by kernel_rfl) trivial (fun ρ402 w402 hm402 hR402 => ?_)
  have hag := hag.moved (hm402.castL (by kernel_rfl))
  have hs := hs.moved (hm402.castL (by kernel_rfl))
  refine sim_ord_call (T := []) (w0 := w) 35 [.v (Value.pointer (some (Addr.mk q.pb 0 none))), .v (Value.slice q.L ls.length q.cl)] (by kernel_rfl) ?_
  refine Calls.mono (order_any (q.pb) (q.pg) (q.c) (q.A) (u) (q.L) (ls.length) (q.cl) _ (ls) _ (hs.is.uf) (hgd) (hu) ((Reads.of_own hs.is.own)) (Nat.le_refl _) (hn) (hil)) ?_
  rintro e403 w403 ⟨L4, c4, rfl, hr4, hb403⟩
  have hbs := (hR402).rel.keeps.size
  have hrow := Sta.rows (hR402).rel hr4
  have hR403 := (hR402).call hb403 (.v (.slice L4 (Uf.orderM u ls).length c4))
  refine BackO.of (.v (.slice L4 (Uf.orderM u ls).length c4)) hR403 rfl ?_
  refine sim_ordN 1 [] hR403 (by kernel_rfl) trivial (fun ρ404 w404 hm404 hR404 => ?_)
  have hag := hag.moved (hm404.castL (by kernel_rfl))
  have hrow := hrow.moved (hm404.castL (by kernel_rfl))
  refine sim_ord_endR hR404 (by kernel_rfl) (fun hR405 => ?_)
  refine sim_ret (.v (Value.slice L4 (Uf.orderM u ls).length c4)) (hR405.cast (by kernel_rfl)) (by kernel_rfl) (by kernel_rfl) ?_
  
  all_goals exact ⟨L4, c4, rfl, RowsR.widen hrow.is hbs, (by assumption : Rel _ _ _ _ _).toBelow⟩
/-! ### of nil -/
section
variable (w : World)
set_option maxRecDepth 100000 in
theorem tryNil_any (A : Option Addr) (n cp : Nat) : Calls Try.prog 19 #[.pointer none, .slice A n cp] w fun e w' => e = .returned (.int .i64 1) ∧ Below w.heap.size w w' := by
  refine sim_enter Try.func19 ρ0 [.v (.pointer none), .v (.slice A n cp)] [] (by kernel_rfl) rfl ?_
  have hR := Rel.start [] w ρ0
  refine sim_run 16 [] (hR.cast (by kernel_rfl)) (by kernel_rfl) trivial (fun ρ1100 w1100 hm1100 hR1100 => ?_)
  refine sim_ret (LI 1) hR1100 (by kernel_rfl) (by kernel_rfl) ?_
  exact ⟨rfl, hR1100.toBelow⟩
  
set_option maxRecDepth 100000 in
theorem addNil_any (A : Option Addr) (n cp : Nat) : Calls Try.prog 11 #[.pointer none, .slice A n cp] w fun e w' => e = .returned (.int .i64 1) ∧ Below w.heap.size w w' := by
  refine sim_enter Try.func11 ρ0 [.v (.pointer none), .v (.slice A n cp)] [] (by kernel_rfl) rfl ?_
  have hR := Rel.start [] w ρ0
  refine sim_run 9 [] (hR.cast (by kernel_rfl)) (by kernel_rfl) trivial (fun ρ1200 w1200 hm1200 hR1200 => ?_)
  refine sim_call 19 [.v (Value.pointer none), .v (Value.slice A n cp)] (by kernel_rfl) ?_
  refine Calls.mono (tryNil_any _ _ _ _) ?_
  rintro e1201 w1201 ⟨rfl, hb1201⟩
  have hR1201 := hR1200.below hb1201
  refine Back.of (LI 1) hR1201 rfl ?_
  refine sim_run 13 [] (hR1201.cast (by kernel_rfl)) (by kernel_rfl) trivial (fun ρ1202 w1202 hm1202 hR1202 => ?_)
  refine sim_ret (LI 1) hR1202 (by kernel_rfl) (by kernel_rfl) ?_
  exact ⟨rfl, hR1202.toBelow⟩
  
set_option maxRecDepth 100000 in
theorem linksNil_any : Calls Try.prog 17 #[.pointer none] w fun e w' => e = .returned (.slice none 0 0) ∧ Below w.heap.size w w' := by
  refine sim_enter Try.func17 ρ0 [.v (.pointer none)] [] (by kernel_rfl) rfl ?_
  have hR := Rel.start [] w ρ0
  refine sim_run 15 [] (hR.cast (by kernel_rfl)) (by kernel_rfl) trivial (fun ρ1300 w1300 hm1300 hR1300 => ?_)
  refine sim_ret (.v (Value.slice none 0 0)) hR1300 (by kernel_rfl) (by kernel_rfl) ?_
  exact ⟨rfl, hR1300.toBelow⟩
  
set_option maxRecDepth 100000 in
theorem orderNil_any : Calls Try.prog 16 #[.pointer none] w fun e w' => e = .returned (.slice none 0 0) ∧ Below w.heap.size w w' := by
  refine sim_enter Try.func16 ρ0 [.v (.pointer none)] [] (by kernel_rfl) rfl ?_
  have hR := Rel.start [] w ρ0
  refine sim_run 15 [] (hR.cast (by kernel_rfl)) (by kernel_rfl) trivial (fun ρ1400 w1400 hm1400 hR1400 => ?_)
  refine sim_ret (.v (Value.slice none 0 0)) hR1400 (by kernel_rfl) (by kernel_rfl) ?_
  exact ⟨rfl, hR1400.toBelow⟩
  
set_option maxRecDepth 100000 in
theorem aheadNil_any (i : Int) : Calls Try.prog 12 #[.pointer none, .int .i64 i] w fun e w' => e = .returned (.slice none 0 0) ∧ Below w.heap.size w w' := by
  refine sim_enter Try.func12 ρ0 [.v (.pointer none), LI i] [] (by kernel_rfl) rfl ?_
  have hR := Rel.start [] w ρ0
  refine sim_run 24 [] (hR.cast (by kernel_rfl)) (by kernel_rfl) trivial (fun ρ1500 w1500 hm1500 hR1500 => ?_)
  refine sim_ret (.v (Value.slice none 0 0)) hR1500 (by kernel_rfl) (by kernel_rfl) ?_
  exact ⟨rfl, hR1500.toBelow⟩
  
set_option maxRecDepth 100000 in
theorem behindNil_any (i : Int) : Calls Try.prog 13 #[.pointer none, .int .i64 i] w fun e w' => e = .returned (.slice none 0 0) ∧ Below w.heap.size w w' := by
  refine sim_enter Try.func13 ρ0 [.v (.pointer none), LI i] [] (by kernel_rfl) rfl ?_
  have hR := Rel.start [] w ρ0
  refine sim_run 24 [] (hR.cast (by kernel_rfl)) (by kernel_rfl) trivial (fun ρ1600 w1600 hm1600 hR1600 => ?_)
  refine sim_ret (.v (Value.slice none 0 0)) hR1600 (by kernel_rfl) (by kernel_rfl) ?_
  exact ⟨rfl, hR1600.toBelow⟩
  
set_option maxRecDepth 100000 in
theorem growNil_any (i : Int) : Calls Try.prog 21 #[.pointer none, .int .i64 i] w fun e w' => e = .returned (.int .i64 1) ∧ Below w.heap.size w w' := by
  refine sim_enter Try.func21 ρ0 [.v (.pointer none), LI i] [] (by kernel_rfl) rfl ?_
  have hR := Rel.start [] w ρ0
  refine sim_run 15 [] (hR.cast (by kernel_rfl)) (by kernel_rfl) trivial (fun ρ1700 w1700 hm1700 hR1700 => ?_)
  refine sim_ret (LI 1) hR1700 (by kernel_rfl) (by kernel_rfl) ?_
  exact ⟨rfl, hR1700.toBelow⟩
  
end
end Go.Proofs.Ytnfgndapalkbcaa
