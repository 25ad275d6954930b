/-
  A graph in a law; complinelaw18.alive.
-/
import Derived.Test.YtnfgndapalkbcaaGrK
namespace Go.Proofs.Ytnfgndapalkbcaa
open Go Go.RowKit
abbrev gR (q : GrP) : Reg := ⟨[.v (.pointer (some ⟨q.pb, 0, none⟩))], false⟩
section
variable {P : Program} {Q : Exit → Act → World → Prop} {T : List Nat} {w0 w w' : World} {ρ : Nm} {c : Cfg}
/-- a new graph comes into view behind the call that made it -/
theorem Back.gr {q : GrP} {u : List Nat} {ls : List Lk} (N : Nat) (hN : c.rs.length = N) (h : GrV q u ls w') (hge : ∀ x, q.has x → w.heap.size ≤ x) (hR : Rel T w0 ρ c.rs w) (hb : Below w.heap.size w w') (hu : (undR N c.rs && undL N c.tmps) = true)
    (next : ∀ ρ', ρ' N = (q.b, 0) → Moved ρ c.rs w' ρ' (c.rs ++ [gR q]) w' → Rel T w0 ρ' (c.rs ++ [gR q]) w' → Sta q.has (GrV q u ls) ρ' (c.rs ++ [gR q]) w' → At P Q (nextC c (.tup [.ptr N 0, LI 0]) (c.rs ++ [gR q])) ρ' w') : Back P Q c ρ (.returned (.tuple #[.pointer (some ⟨q.b, 0, none⟩), .int .i64 0])) w' := by
  simp only [Bool.and_eq_true] at hu
  subst hN
  have hR1 := hR.below hb
  obtain ⟨ρ', ha, hn, hR'⟩ := hR1.open_ hu.1 q.b 0 [.v (.pointer (some ⟨q.pb, 0, none⟩))] rfl false h.blk.lt (fun j v hv => by
    match j, hv with
    | 0, hv => simp only [List.getElem?_cons_zero, Option.some.injEq] at hv; subst hv; rw [Nat.add_zero, h.blk.cell 0]; rfl
    | j + 1, hv => simp at hv) (fun h => by cases h) (fun n r hn hw he => by
    rcases hw with hw | hw
    · cases hw
    · have h1 := hR.lt n r hn
      have h2 := hge q.b (.inl rfl)
      omega)
  have hm := Moved.ext_ro (w := w') (cells := [.v (.pointer (some ⟨q.pb, 0, none⟩))]) ha rfl
  have hs : Sta q.has (GrV q u ls) ρ c.rs w' := Sta.new hR h hge h.lt GrV.same
  exact ⟨.tup [.ptr c.rs.length 0, LI 0], _, ρ', by simp only [LV.den, denL, Nm.at_, hn], act_ext ha hu.2, next ρ' hn hm hR' (hs.moved hm)⟩
theorem Sta.afterG {q q' : GrP} {u u' : List Nat} {ls ls' : List Lk} {rs : List Reg} (h : Sta q.has (GrV q u ls) ρ rs w) (hR : Rel T w0 ρ rs w) (h' : GrV q' u' ls' w') (hh : ∀ x, q'.has x → q.has x ∨ w.heap.size ≤ x) : Sta q'.has (GrV q' u' ls') ρ rs w' :=
  ⟨h', fun x hx hw => (hh x hx).elim (fun h1 => h.far x h1 hw) (fun h1 => by have := hR.wr_lt hw; omega), h'.lt, GrV.same⟩
/-- what is known behind a call that has turned a graph -/
theorem Rel.afterG {q q' : GrP} {u u' : List Nat} {ls ls' : List Lk} {rs : List Reg} (hR : Rel T w0 ρ rs w) (hs : Sta q.has (GrV q u ls) ρ rs w) (hk : Kept q.has w w') (h' : GrV q' u' ls' w') (hb : q'.b = q.b) (hpb : q'.pb = q.pb) (hT : ∀ x, q.has x → x ∈ T ∨ w0.heap.size ≤ x) (N : Nat) (reg : rs[N]? = some (gR q)) (eN : ρ N = (q.b, 0)) (il : List Nat) (hl : roIdx rs 0 = il) (hidx : ∀ k ∈ il, k ≠ N → ¬ q.has (ρ k).1) : Rel T w0 ρ rs w' := by
  have hc : ∀ n r, rs[n]? = some r → r.cells ≠ [] → n = N ∨ ¬ q.has (ρ n).1 := fun n r hn hne => by
    cases hw : r.wr with
    | true => exact .inr (fun hx => hs.far _ hx ⟨n, r, hn, hw, rfl⟩)
    | false =>
      have hm := roIdx_mem rs 0 n r hn hw hne
      rw [hl, Nat.zero_add] at hm
      by_cases h1 : n = N
      · exact .inl h1
      · exact .inr (hidx n hm h1)
  refine ⟨(hR.keeps.kept.trans hk hT).keeps, fun n r hn => Nat.lt_of_lt_of_le (hR.lt n r hn) hk.size, fun n r hn i v hv => ?_, fun n r hn hw => ⟨(hR.wr n r hn hw).1, fun i hi => ?_⟩, hR.apart⟩
  · rcases hc n r hn (by rintro e; rw [e] at hv; simp at hv) with rfl | hno
    · rw [reg] at hn
      simp only [Option.some.injEq] at hn
      subst hn
      match i, hv with
      | 0, hv =>
        simp only [List.getElem?_cons_zero, Option.some.injEq] at hv
        subst hv
        have hc := h'.blk.cell 0
        rw [hb, hpb] at hc
        unfold Nm.at_
        rw [eN]
        exact hc
      | i + 1, hv => simp at hv
    · rw [← hR.cell n r hn i v hv]
      exact World.cell?_of_block (hk.block _ (hR.lt n r hn) hno)
  · have hno : ¬ q.has (ρ n).1 := fun hx => hs.far _ hx ⟨n, r, hn, hw, rfl⟩
    rw [← (hR.wr n r hn hw).2 i hi]
    exact frozen_of_block (hk.block _ (hR.lt n r hn) hno)
end
theorem Sta.farA {S : Nat → Prop} {V : World → Prop} {ρ : Nm} {rs : List Reg} {w : World} (h : Sta S V ρ rs w) {n : Nat} {r : Reg} (hn : rs[n]? = some r) (hw : r.wr = true) : ∀ (o : Nat) (a : Addr), some (⟨(ρ n).1, o, none⟩ : Addr) = some a → ¬ S a.block := by
  intro o a e hx
  injection e with e
  subst e
  exact h.far _ hx ⟨n, r, hn, hw, rfl⟩
def AddQ (w : World) (q : GrP) (t : Int) (u' : List Nat) (ls' : List Lk) (e : Ending) (w' : World) : Prop :=
  e = .returned (.int .i64 t) ∧ ∃ (pg : Nat) (A : Option Addr) (c : Nat) (L : Option Addr) (cl : Nat), GrV ⟨q.b, q.pb, pg, A, c, L, cl⟩ u' ls' w' ∧ Kept q.has w w' ∧ ∀ x, (GrP.mk q.b q.pb pg A c L cl).has x → q.has x ∨ w.heap.size ≤ x
theorem add_at (q : GrP) (u : List Nat) (ls : List Lk) (A : Option Addr) (n cp B : Nat) (l : List Lk) (t : Int) (u' : List Nat) (ls' : List Lk) (w : World) (h : GrV q u ls w) (hi : GInv u ls) (hl : Reads w B 3 A n (lkV l)) (hB : B ≤ w.heap.size) (hn : n ≤ 10000) (hA : ∀ a, A = some a → a.block < B → ¬ q.has a.block) (ht : tryM u ls l = t) (hu' : addU u ls l = u') (hl' : addL u ls l = ls') :
    Calls Try.prog 11 #[.pointer (some ⟨q.b, 0, none⟩), .slice A n cp] w (AddQ w q t u' ls') := by
  refine (add_any q u ls A n cp B l w h hi hl hB hn hA).mono ?_
  rintro e w' ⟨rfl, ⟨b, pb, pg, A', c', L', cl'⟩, hg, h1, h2, hk, hh⟩
  dsimp only at h1 h2
  subst h1 h2
  rw [hu', hl'] at hg
  exact ⟨by rw [ht], pg, A', c', L', cl', hg, hk, hh⟩
theorem hT_new {T : List Nat} {w0 w : World} {q q' : GrP} {ρ : Nm} {rs : List Reg} (hR : Rel T w0 ρ rs w) (hT : ∀ x, q.has x → x ∈ T ∨ w0.heap.size ≤ x) (hh : ∀ x, q'.has x → q.has x ∨ w.heap.size ≤ x) : ∀ x, q'.has x → x ∈ T ∨ w0.heap.size ≤ x := fun x hx => (hh x hx).elim (hT x) (fun h => .inr (Nat.le_trans hR.keeps.size h))
def lk21 : Lk := ⟨2, 2, 1⟩
def lk13 : Lk := ⟨1, 1, 3⟩
def lk32 : Lk := ⟨2, 3, 2⟩
theorem al_f3 : Uf.fresh 3 = [1, 2, 3] := by decide
theorem al_t1 : tryM [1, 2, 3] [] [⟨2, 2, 1⟩] = 0 := by decide
theorem al_u1 : addU [1, 2, 3] [] [⟨2, 2, 1⟩] = [1, 2, 3] := by decide
theorem al_l1 : addL [1, 2, 3] [] [⟨2, 2, 1⟩] = [⟨2, 2, 1⟩] := by unfold addL; rw [if_pos al_t1]; rfl
theorem al_t2 : tryM [1, 2, 3] [⟨2, 2, 1⟩] [⟨1, 1, 3⟩] = 0 := by decide
theorem al_u2 : addU [1, 2, 3] [⟨2, 2, 1⟩] [⟨1, 1, 3⟩] = [1, 2, 1] := by decide
theorem al_l2 : addL [1, 2, 3] [⟨2, 2, 1⟩] [⟨1, 1, 3⟩] = [⟨2, 2, 1⟩, ⟨1, 1, 3⟩] := by unfold addL; rw [if_pos al_t2]; rfl
theorem al_t3 : tryM [1, 2, 1] [⟨2, 2, 1⟩, ⟨1, 1, 3⟩] [⟨2, 3, 2⟩] = 24 := by decide
theorem al_u3 : addU [1, 2, 1] [⟨2, 2, 1⟩, ⟨1, 1, 3⟩] [⟨2, 3, 2⟩] = [1, 2, 1] := by unfold addU; rw [al_t3]; rfl
theorem al_l3 : addL [1, 2, 1] [⟨2, 2, 1⟩, ⟨1, 1, 3⟩] [⟨2, 3, 2⟩] = [⟨2, 2, 1⟩, ⟨1, 1, 3⟩] := by unfold addL; rw [al_t3]; rfl
theorem al_o : (Uf.orderM [1, 2, 1] [⟨2, 2, 1⟩, ⟨1, 1, 3⟩]).map (Uf.cls [1, 2, 1]) = [[2], [1, 3]] := by decide
theorem al_ol : (Uf.orderM [1, 2, 1] [⟨2, 2, 1⟩, ⟨1, 1, 3⟩]).length = 2 := by decide
theorem al_same : sameI [1, 2, 1] [1, 3] = true := by decide
theorem al_ah : aheadOf [1, 2, 1] [⟨2, 2, 1⟩, ⟨1, 1, 3⟩] 3 = [2] := by decide
theorem al_i0 : GInv [1, 2, 3] [] := by rw [← al_f3]; exact GInv.fresh (by omega)
theorem al_i1 : GInv [1, 2, 3] [⟨2, 2, 1⟩] := by have := al_i0.addM [⟨2, 2, 1⟩]; rw [al_u1, al_l1] at this; exact this
theorem al_i2 : GInv [1, 2, 1] [⟨2, 2, 1⟩, ⟨1, 1, 3⟩] := by have := al_i1.addM [⟨1, 1, 3⟩]; rw [al_u2, al_l2] at this; exact this
theorem alAdd1 (q : GrP) (A : Option Addr) (w : World) (h : GrV q [1, 2, 3] [] w) (hr : Reads w w.heap.size 3 A 1 (lkV [⟨2, 2, 1⟩])) (hA : ∀ a, A = some a → ¬ q.has a.block) : Calls Try.prog 11 #[.pointer (some ⟨q.b, 0, none⟩), .slice A 1 1] w (AddQ w q 0 [1, 2, 3] [⟨2, 2, 1⟩]) :=
  add_at q _ _ A 1 1 w.heap.size _ _ _ _ w h al_i0 hr (Nat.le_refl _) (by omega) (fun a e _ => hA a e) al_t1 al_u1 al_l1
theorem alAdd2 (q : GrP) (A : Option Addr) (w : World) (h : GrV q [1, 2, 3] [⟨2, 2, 1⟩] w) (hr : Reads w w.heap.size 3 A 1 (lkV [⟨1, 1, 3⟩])) (hA : ∀ a, A = some a → ¬ q.has a.block) : Calls Try.prog 11 #[.pointer (some ⟨q.b, 0, none⟩), .slice A 1 1] w (AddQ w q 0 [1, 2, 1] [⟨2, 2, 1⟩, ⟨1, 1, 3⟩]) :=
  add_at q _ _ A 1 1 w.heap.size _ _ _ _ w h al_i1 hr (Nat.le_refl _) (by omega) (fun a e _ => hA a e) al_t2 al_u2 al_l2
theorem alAdd3 (q : GrP) (A : Option Addr) (w : World) (h : GrV q [1, 2, 1] [⟨2, 2, 1⟩, ⟨1, 1, 3⟩] w) (hr : Reads w w.heap.size 3 A 1 (lkV [⟨2, 3, 2⟩])) (hA : ∀ a, A = some a → ¬ q.has a.block) : Calls Try.prog 11 #[.pointer (some ⟨q.b, 0, none⟩), .slice A 1 1] w (AddQ w q 24 [1, 2, 1] [⟨2, 2, 1⟩, ⟨1, 1, 3⟩]) :=
  add_at q _ _ A 1 1 w.heap.size _ _ _ _ w h al_i2 hr (Nat.le_refl _) (by omega) (fun a e _ => hA a e) al_t3 al_u3 al_l3
theorem alNew (w : World) : Calls Try.prog 10 #[.int .i64 3] w fun e w' => ∃ q : GrP, e = .returned (.tuple #[.pointer (some ⟨q.b, 0, none⟩), .int .i64 0]) ∧ GrV q [1, 2, 3] [] w' ∧ (∀ x, q.has x → w.heap.size ≤ x) ∧ Below w.heap.size w w' := newG_any 3 (by omega) w
theorem alOrder (q : GrP) (w : World) (h : GrV q [1, 2, 1] [⟨2, 2, 1⟩, ⟨1, 1, 3⟩] w) : Calls Try.prog 16 #[.pointer (some ⟨q.b, 0, none⟩)] w fun e w' => ∃ L cap, e = .returned (.slice L 2 cap) ∧ RowsR w' w'.heap.size w.heap.size L [[2], [1, 3]] ∧ Below w.heap.size w w' := by
  have := orderG_any q _ _ w h al_i2
  rw [al_o, al_ol] at this
  exact this
theorem alAhead (q : GrP) (w : World) (h : GrV q [1, 2, 1] [⟨2, 2, 1⟩, ⟨1, 1, 3⟩] w) : Calls Try.prog 12 #[.pointer (some ⟨q.b, 0, none⟩), .int .i64 3] w (NatsN w [2]) := by
  have := ahead_any q _ _ 3 w h al_i2
  rw [al_ah] at this
  exact this
theorem alSame {b g c : Nat} {A : Option Addr} {w : World} (L : Option Addr) (h : UfAt w b g [1, 2, 1] A c) (hr : Reads w w.heap.size 1 L 2 (ints [1, 3])) : Calls Try.prog 14 #[.pointer (some ⟨b, 0, none⟩), .slice L 2 2] w fun e w' => e = .returned (.bool true) ∧ Below w.heap.size w w' := by
  have := ufSame_b L 2 2 w.heap.size [1, 3] h al_i2.good (by decide) hr (by omega)
  rw [al_same] at this
  exact this
attribute [local irreducible] run goO leaveK someK nextK nextT nextOT nextOD loopBody loopRest loopK fillJ tmplOf tmplJ mergeT At AtO drawOk ordOf gateOf callC callO topOp topO idxOf appOf storeOf clearOf sliceOf calleeOf calleeO topQ idxQ newRowOf resL stepOp seek
set_option maxRecDepth 100000 in
set_option maxHeartbeats 4000000 in
theorem alive18_any (w : World) : Calls Try.prog 9 #[] w fun e w' => e = .returned (.bool true) ∧ Below w.heap.size w w' := by
  refine sim_enter Try.func9 ρ0 [] [] (by kernel_rfl) rfl ?_
  have hR := Rel.start [] w ρ0
  refine sim_run 6 [] (hR.cast (by kernel_rfl)) (by kernel_rfl) trivial (fun ρ100 w100 hm100 hR100 => ?_)
  refine sim_call 10 [LI 3] (by kernel_rfl) ?_
  refine Calls.mono (alNew _) ?_
  rintro e101 w101 ⟨⟨b, pb, pg, A, c, L, cl⟩, rfl, hg101, hge101, hb101⟩
  refine Back.gr 0 (by kernel_rfl) hg101 hge101 (hR100) hb101 (by kernel_rfl) (fun ρ101 e0 hm101 hR101 hs => ?_)
  have hT0 := fun x hx => Or.inr (a := x ∈ ([] : List Nat)) (Nat.le_trans (hR100).keeps.size (hge101 x hx))
  have hag := hR101.ag_ 1 (by kernel_rfl)
  refine sim_run 19 [] (hR101.cast (by kernel_rfl)) (by kernel_rfl) trivial (fun ρ102 w102 hm102 hR102 => ?_)
  have hs := hs.moved (hm102.castL (by kernel_rfl))
  have hag := hag.moved (hm102.castL (by kernel_rfl))
  
  refine sim_call 11 [.ptr 0 0, .slc 1 0 1 1] (by kernel_rfl) ?_
  have ezx1 := (hag.at_ 0 (by omega)).trans e0
  simp only [denL, LV.den, Nm.at_, ezx1, Nat.add_zero]
  have hRx1 := (by assumption : Rel _ _ _ _ _)
  have a1x1 := hs.is
  have a2x1 := Rel.reads hRx1 (n := 1) (size := 3) (m := 1) (vs := lkV [⟨2, 2, 1⟩]) (b := true) (by kernel_rfl) rfl
  have a3x1 := hs.farA (n := 1) (r := ⟨(lkV [⟨2, 2, 1⟩]).map .v, true⟩) (by kernel_rfl) rfl
  have a4x1 := alAdd1 _ _ _ a1x1 a2x1 (a3x1 _)
  refine Calls.mono a4x1 ?_
  rintro ex1 wx1 ⟨rfl, pgx1, Ax1, cx1, Lx1, clx1, hgx1, hkx1, hhx1⟩
  have hsx1 := hs.afterG hRx1 hgx1 hhx1
  have hTx1 := hT_new hRx1 hT0 hhx1
  have hRqx1 := hRx1.afterG hs hkx1 hgx1 rfl rfl hT0 0 (by kernel_rfl) ezx1 [0] (by kernel_rfl) (by simp)
  clear hs hT0 a1x1 a2x1 a3x1 a4x1 hRx1
  have hs := hsx1
  have hT0 := hTx1
  clear hsx1 hTx1
  refine Back.of (LI 0) hRqx1 rfl ?_
  refine sim_run 6 [] (hRqx1.cast (by kernel_rfl)) (by kernel_rfl) trivial (fun ρ200 w200 hm200 hR200 => ?_)
  have hag := hag.moved (hm200.castL (by kernel_rfl))
  have hs := hs.moved (hm200.castL (by kernel_rfl))
  
  refine sim_call 11 [.ptr 0 0, .slc 2 0 1 1] (by kernel_rfl) ?_
  have ezx2 := (hag.at_ 0 (by omega)).trans e0
  simp only [denL, LV.den, Nm.at_, ezx2, Nat.add_zero]
  have hRx2 := (by assumption : Rel _ _ _ _ _)
  have a1x2 := hs.is
  have a2x2 := Rel.reads hRx2 (n := 2) (size := 3) (m := 1) (vs := lkV [⟨1, 1, 3⟩]) (b := true) (by kernel_rfl) rfl
  have a3x2 := hs.farA (n := 2) (r := ⟨(lkV [⟨1, 1, 3⟩]).map .v, true⟩) (by kernel_rfl) rfl
  have a4x2 := alAdd2 _ _ _ a1x2 a2x2 (a3x2 _)
  refine Calls.mono a4x2 ?_
  rintro ex2 wx2 ⟨rfl, pgx2, Ax2, cx2, Lx2, clx2, hgx2, hkx2, hhx2⟩
  have hsx2 := hs.afterG hRx2 hgx2 hhx2
  have hTx2 := hT_new hRx2 hT0 hhx2
  have hRqx2 := hRx2.afterG hs hkx2 hgx2 rfl rfl hT0 0 (by kernel_rfl) ezx2 [0] (by kernel_rfl) (by simp)
  clear hs hT0 a1x2 a2x2 a3x2 a4x2 hRx2
  have hs := hsx2
  have hT0 := hTx2
  clear hsx2 hTx2
  refine Back.of (LI 0) hRqx2 rfl ?_
  have hz3 := True.intro
  refine sim_run 8 [] (hRqx2.cast (by kernel_rfl)) (by kernel_rfl) trivial (fun ρ300 w300 hm300 hR300 => ?_)
  have hag := hag.moved (hm300.castL (by kernel_rfl))
  have hs := hs.moved (hm300.castL (by kernel_rfl))
  refine sim_call 16 [.ptr 0 0] (by kernel_rfl) ?_
  have ez0_301 := (hag.at_ 0 (by omega)).trans e0
  simp only [denL, LV.den, Nm.at_, ez0_301, Nat.add_zero]
  refine Calls.mono (alOrder (⟨b, pb, pgx2, Ax2, cx2, Lx2, clx2⟩) _ (hs.is)) ?_
  rintro e301 w301 ⟨L4, c4, rfl, hr4, hb301⟩
  have hrow := Sta.rows (hR300) hr4
  have hql := hs.lt
  have hR301 := (hR300).below hb301
  have hs := hs.below hb301
  refine Back.of (.v (.slice L4 2 c4)) hR301 rfl ?_
  refine sim_run 7 [] (hR301.cast (by kernel_rfl)) (by kernel_rfl) trivial (fun ρ302 w302 hm302 hR302 => ?_)
  have hag := hag.moved (hm302.castL (by kernel_rfl))
  have hrow := hrow.moved (hm302.castL (by kernel_rfl))
  have hs := hs.moved (hm302.castL (by kernel_rfl))
  
  refine sim_call 11 [.ptr 0 0, .slc 3 0 1 1] (by kernel_rfl) ?_
  have ezx3 := (hag.at_ 0 (by omega)).trans e0
  simp only [denL, LV.den, Nm.at_, ezx3, Nat.add_zero]
  have hRx3 := (by assumption : Rel _ _ _ _ _)
  have a1x3 := hs.is
  have a2x3 := Rel.reads hRx3 (n := 3) (size := 3) (m := 1) (vs := lkV [⟨2, 3, 2⟩]) (b := true) (by kernel_rfl) rfl
  have a3x3 := hs.farA (n := 3) (r := ⟨(lkV [⟨2, 3, 2⟩]).map .v, true⟩) (by kernel_rfl) rfl
  have a4x3 := alAdd3 _ _ _ a1x3 a2x3 (a3x3 _)
  refine Calls.mono a4x3 ?_
  rintro ex3 wx3 ⟨rfl, pgx3, Ax3, cx3, Lx3, clx3, hgx3, hkx3, hhx3⟩
  have hsx3 := hs.afterG hRx3 hgx3 hhx3
  have hTx3 := hT_new hRx3 hT0 hhx3
  have hRqx3 := hRx3.afterG hs hkx3 hgx3 rfl rfl hT0 0 (by kernel_rfl) ezx3 [0] (by kernel_rfl) (by simp)
  clear hs hT0 a1x3 a2x3 a3x3 a4x3 hRx3
  have hs := hsx3
  have hT0 := hTx3
  clear hsx3 hTx3
  refine Back.of (LI 24) hRqx3 rfl ?_
  have hrow := hrow.kept hkx3 (fun x hx hq => by have := hql x hq; have := hx.1; omega)
  refine sim_seeRow 0 4 (by kernel_rfl) (xs := [2]) rfl hrow hRqx3 (by kernel_rfl) (fun ga oa Ac cc ρE eA hgb hrd hcc hcm hAc hmE eE hRE => ?_)
  subst eA
  have hs := hs.moved hmE
  have hrow := hrow.moved hmE
  have hrd := hrd.moved hmE
  have hag := hag.moved hmE
  have hag5 := hRE.ag_ 5 (by kernel_rfl)
  refine sim_seeRow 1 5 (by kernel_rfl) (xs := [1, 3]) rfl hrow hRE (by kernel_rfl) (fun gb ob Ab cb ρF eB hgb2 hrd2 hcc2 hcm2 hAb hmF eF hRF => ?_)
  injection eB with eB
  injection eB with eg eo
  subst eg eo
  have hs := hs.moved hmF
  have hrd := hrd.moved hmF
  have hag := hag.moved hmF
  have e4 := (hag5.moved hmF).at_ 4 (by omega) |>.trans eE
  refine sim_seeNat (p := 2) 0 6 (by kernel_rfl) rfl hrd hRF (by kernel_rfl) (fun gc oc ρG eC hgc hmG eG hRG => ?_)
  subst eC
  have hs := hs.moved hmG
  have hag := hag.moved hmG
  have e4 := (hmG.at_ 4 (by kernel_rfl)).trans e4
  have e5 := (hmG.at_ 5 (by kernel_rfl)).trans eF
  have hag7 := hRG.ag_ 7 (by kernel_rfl)
  refine sim_run 8 [] (hRG.cast (by kernel_rfl)) (by kernel_rfl) trivial (fun ρ400 w400 hm400 hR400 => ?_)
  have hs := hs.moved (hm400.castL (by kernel_rfl))
  have hag := hag.moved (hm400.castL (by kernel_rfl))
  have hag7 := hag7.moved (hm400.castL (by kernel_rfl))
  refine sim_place (.v (.slice (some ⟨ga, oa, none⟩) 2 c4)) 2 1 0 4 0 (by kernel_rfl) (by omega) (by omega) rfl (by simp only [Nm.at_, hag7.at_ 4 (by omega), e4, Nat.add_zero]; rfl) ?_
  refine sim_run 6 [] (hR400.cast (by kernel_rfl)) (by kernel_rfl) trivial (fun ρ402 w402 hm402 hR402 => ?_)
  have hs := hs.moved (hm402.castL (by kernel_rfl))
  have hag := hag.moved (hm402.castL (by kernel_rfl))
  have hag7 := hag7.moved (hm402.castL (by kernel_rfl))
  refine sim_place (.v (.slice (some ⟨ga, oa, none⟩) 2 c4)) 2 1 0 4 0 (by kernel_rfl) (by omega) (by omega) rfl (by simp only [Nm.at_, hag7.at_ 4 (by omega), e4, Nat.add_zero]; rfl) ?_
  refine sim_run 1 [] (hR402.cast (by kernel_rfl)) (by kernel_rfl) trivial (fun ρ404 w404 hm404 hR404 => ?_)
  have hs := hs.moved (hm404.castL (by kernel_rfl))
  have hag := hag.moved (hm404.castL (by kernel_rfl))
  have hag7 := hag7.moved (hm404.castL (by kernel_rfl))
  refine sim_place (.v (.slice (some ⟨gc, oc, none⟩) 1 cc)) 1 1 0 6 0 (by kernel_rfl) (by omega) (by omega) rfl (by simp only [Nm.at_, hag7.at_ 6 (by omega), eG, Nat.add_zero]; rfl) ?_
  refine sim_run 5 [] (hR404.cast (by kernel_rfl)) (by kernel_rfl) trivial (fun ρ408 w408 hm408 hR408 => ?_)
  have hs := hs.moved (hm408.castL (by kernel_rfl))
  have hag := hag.moved (hm408.castL (by kernel_rfl))
  have hag7 := hag7.moved (hm408.castL (by kernel_rfl))
  refine sim_place (.v (.slice (some ⟨ga, oa, none⟩) 2 c4)) 2 1 1 5 0 (by kernel_rfl) (by omega) (by omega) rfl (by simp only [Nm.at_, hag7.at_ 5 (by omega), e5, Nat.add_zero]; rfl) ?_
  refine sim_run 10 [] (hR408.cast (by kernel_rfl)) (by kernel_rfl) trivial (fun ρ411 w411 hm411 hR411 => ?_)
  have hs := hs.moved (hm411.castL (by kernel_rfl))
  have hag := hag.moved (hm411.castL (by kernel_rfl))
  have hag7 := hag7.moved (hm411.castL (by kernel_rfl))
  refine sim_call 14 [.v (Value.pointer (some (Addr.mk (GrP.mk b pb pg A c L cl).pb 0 none))), .slc 7 0 2 2] (by kernel_rfl) ?_
  refine Calls.mono (alSame _ (hs.is.uf) (Rel.reads (hR411) (n := 7) (size := 1) (m := 2) (vs := ints [1, 3]) (b := true) (by kernel_rfl) rfl)) ?_
  rintro e412 w412 ⟨rfl, hb412⟩
  have hR412 := hR411.below hb412
  have hs := hs.below hb412
  refine Back.of (LB true) hR412 rfl ?_
  refine sim_run 3 [] (hR412.cast (by kernel_rfl)) (by kernel_rfl) trivial (fun ρ413 w413 hm413 hR413 => ?_)
  have hag := hag.moved (hm413.castL (by kernel_rfl))
  have hag7 := hag7.moved (hm413.castL (by kernel_rfl))
  have hs := hs.moved (hm413.castL (by kernel_rfl))
  refine sim_call 12 [.ptr 0 0, LI 3] (by kernel_rfl) ?_
  have ez0_414 := (hag.at_ 0 (by omega)).trans e0
  simp only [denL, LV.den, Nm.at_, ez0_414, Nat.add_zero]
  refine Calls.mono (alAhead (⟨b, pb, pgx3, Ax3, cx3, Lx3, clx3⟩) _ (hs.is)) ?_
  rintro e414 w414 ⟨A5, c5, rfl, ho5, hb414⟩
  have hR414 := (hR413).below hb414
  refine Back.of (.v (.slice A5 1 c5)) hR414 rfl ?_
  refine sim_run 5 [] (hR414.cast (by kernel_rfl)) (by kernel_rfl) trivial (fun ρ415 w415 hm415 hR415 => ?_)
  have hag := hag.moved (hm415.castL (by kernel_rfl))
  have hag7 := hag7.moved (hm415.castL (by kernel_rfl))
  refine sim_ret (LB true) hR415 (by kernel_rfl) (by kernel_rfl) ?_
  exact ⟨rfl, hR415.toBelow⟩
  
/-- a row that a call answers stands behind it -/
def OwnW (base : Nat) (e : TypeId) (s : Nat) (v : Value) (n : Nat) (xs : List Value) : World → Prop := fun w => w.ownsRow base e s v n xs
theorem Sta.ownR {T : List Nat} {w0 : World} {ρ : Nm} {rs : List Reg} {w w' : World} {e : TypeId} {s : Nat} {v : Value} {n : Nat} {xs : List Value} (hR : Rel T w0 ρ rs w) (h : w'.ownsRow w.heap.size e s v n xs) : Sta (btw w.heap.size w'.heap.size) (OwnW w.heap.size e s v n xs) ρ rs w' :=
  Sta.new hR h (fun _ hx => hx.1) (fun _ hx => hx.2) (fun _ _ _ h1 _ hk hn => own_kept h1 hk (fun g hg => hn g ⟨(h.lt g hg).1, (h.lt g hg).2⟩))
/-- what Add leaves of a row that was made behind the graph -/
theorem Sta.afterAdd {q : GrP} {V : World → Prop} {base B : Nat} {ρ : Nm} {rs : List Reg} {w w' : World} (h : Sta (btw base B) V ρ rs w) (hk : Kept q.has w w') (hq : ∀ x, q.has x → x < base) : Sta (btw base B) V ρ rs w' :=
  h.kept hk (fun x hx hh => by have := hq x hh; have := hx.1; omega)
end Go.Proofs.Ytnfgndapalkbcaa
