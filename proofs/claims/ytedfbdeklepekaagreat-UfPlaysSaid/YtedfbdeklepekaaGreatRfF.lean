/-
  complineref12.Graph: it grows; a new one.
-/
import Derived.Test.YtedfbdeklepekaaGreatRfBE
namespace Go.Proofs.YtedfbdeklepekaaGreat
open Go Go.RowKit
/-- the graph anew, in the same box -/
def RfS (w : World) (q : RfP) (v : List Nat) (w' : World) : Prop :=
  ∃ A c, RfV ⟨q.b, A, c, q.vL⟩ v w' ∧ Kept (fun y => y = q.b) w w' ∧ ∀ a, A = some a → q.A = some a ∨ w.heap.size ≤ a.block
theorem kept_b {b : Nat} {w w' : World} (h : Keeps [b] w w') : Kept (fun y => y = b) w w' := h.kept.mono fun _ hx => .inl (List.mem_singleton.1 hx)
theorem own_new' {w : World} {B n : Nat} {e : TypeId} {s : Nat} {A : Option Addr} {c : Nat} {xs : List Value} (h : w.ownsRow B e s (.slice A n c) n xs) : ∀ a, A = some a → B ≤ a.block := fun a ha => own_ge h (by rw [ha]; rfl)
theorem good_none : Uf.Good [] := fun i h1 h2 => by have h2 : i ≤ 0 := h2; omega
theorem Rel.keptE {T : List Nat} {w0 w w' : World} {ρ : Nm} {rs : List Reg} {S : Nat → Prop} (hR : Rel T w0 ρ rs w) (hE : (rs.all fun r => r.cells.isEmpty) = true) (hk : Kept S w w') (hT : ∀ y, S y → y ∈ T ∨ w0.heap.size ≤ y) : Rel T w0 ρ rs w' :=
  hR.kept hk (fun _ r hn hne _ => hne (List.isEmpty_iff.1 (List.all_eq_true.1 hE r (List.mem_of_getElem? hn)))) hT
theorem Sta.repl {S S' : Nat → Prop} {V V' : World → Prop} {ρ : Nm} {rs : List Reg} {w w' : World} (_ : Sta S V ρ rs w) (hro : allRo rs = true) (hV : V' w') (hlt : ∀ x, S' x → x < w'.heap.size) (same : ∀ (w1 w2 : World) (S'' : Nat → Prop), V' w1 → (∀ x, S' x → x < w1.heap.size) → Kept S'' w1 w2 → (∀ x, S' x → ¬ S'' x) → V' w2) : Sta S' V' ρ rs w' := Sta.ro_ hV hro hlt same
theorem boxF {T : List Nat} {w0 w : World} {ρb ρ : Nm} {rs : List Reg} {b : Nat} {t : TypeId} {cs cur : List Value} (hR : Rel T w0 ρ rs w) (hbox : RowV ρ rs w b t cur) (hag : Ag 1 ρb ρ rs) (e0 : ρb 0 = (b, 0)) (hn : rs[0]? = some ⟨cs.map .v, true⟩) (hl : cs.length = cur.length) : Blk w b t cs.toArray := by
  have h := hbox.full hR hag hn e0 (by rw [List.length_map]; exact hl)
  rw [denL_v] at h
  exact h
theorem rfv_of {T : List Nat} {w0 w : World} {ρb ρ : Nm} {rs : List Reg} {b n c : Nat} {A : Option Addr} {vL : Value} {cur : List Value} {u : List Nat} {B : Nat} (hR : Rel T w0 ρ rs w) (hbox : RowV ρ rs w b 36 cur) (hag : Ag 1 ρb ρ rs) (e0 : ρb 0 = (b, 0)) (hn : rs[0]? = some ⟨[.v (.slice A n c), .v vL], true⟩) (hl : 2 = cur.length) (ho : Own ρ rs w B 3 1 (.slice A n c) n (nats (hds u))) (hu : n = u.length) : RfV ⟨b, A, c, vL⟩ u w := by
  subst hu
  exact ⟨hbox.full hR hag hn e0 hl, own_base0 ho.own (Nat.zero_le _)⟩
attribute [local irreducible] run goO leaveK someK nextK nextT nextOT nextOD loopBody loopRest loopK fillJ tmplOf tmplJ mergeT At AtO drawOk ordOf gateOf callC callO topOp topO idxOf appOf storeOf clearOf sliceOf calleeOf calleeO topQ idxQ newRowOf resL stepOp seek
set_option maxRecDepth 100000 in
set_option maxHeartbeats 4000000 in
theorem grow12_out (q : RfP) (u : List Nat) (n : Int) (w : World) (h : RfV q u w) (hn : n < u.length ∨ 1000 < n) :
    Calls Tryz.prog 14 #[.pointer (some ⟨q.b, 0, none⟩), .int .i64 n] w fun e w' => e = .returned (.int .i64 1) ∧ Below w.heap.size w w' := by
  obtain ⟨ρ, e0, hR, _⟩ := h.open_
  refine sim_enter Tryz.func14 ρ [.ptr 0 0, LI n] [⟨[.v (.slice q.A u.length q.c), .v q.vL], false⟩] (by kernel_rfl) (by simp only [denL, LV.den, Nm.at_, e0]) ?_
  by_cases h1 : n < u.length
  · refine sim_run 15 [] (hR.cast (by kernel_rfl)) (by kernel_rfl) trivial (fun ρ100 w100 hm100 hR100 => ?_)
    refine sim_know 13 (decide (n < (↑u.length : Int))) true (by kernel_rfl) (decide_eq_true (by omega)) ?_
    refine sim_run 9 [] (hR100.cast (by kernel_rfl)) (by kernel_rfl) trivial (fun ρ101 w101 hm101 hR101 => ?_)
    refine sim_ret (LI 1) hR101 (by kernel_rfl) (by kernel_rfl) ?_
    exact ⟨rfl, hR101.toBelow⟩
    
  · have h2 := hn.resolve_left h1
    refine sim_run 15 [] (hR.cast (by kernel_rfl)) (by kernel_rfl) trivial (fun ρ200 w200 hm200 hR200 => ?_)
    refine sim_know 13 (decide (n < (↑u.length : Int))) false (by kernel_rfl) (decide_eq_false (by omega)) ?_
    refine sim_run 4 [] (hR200.cast (by kernel_rfl)) (by kernel_rfl) trivial (fun ρ201 w201 hm201 hR201 => ?_)
    refine sim_know 16 (decide (n > 1000)) true (by kernel_rfl) (decide_eq_true (by omega)) ?_
    refine sim_run 5 [] (hR201.cast (by kernel_rfl)) (by kernel_rfl) trivial (fun ρ202 w202 hm202 hR202 => ?_)
    refine sim_ret (LI 1) hR202 (by kernel_rfl) (by kernel_rfl) ?_
    exact ⟨rfl, hR202.toBelow⟩
    
set_option maxRecDepth 100000 in
set_option maxHeartbeats 4000000 in
theorem grow12_in (q : RfP) (u : List Nat) (n : Nat) (w : World) (h : RfV q u w) (hg : Uf.Good u) (h1 : u.length ≤ n) (h2 : n ≤ 1000) :
    Calls Tryz.prog 14 #[.pointer (some ⟨q.b, 0, none⟩), .int .i64 n] w fun e w' => e = .returned (.int .i64 0) ∧ RfS w q (growF u (n - u.length)) w' := by
  obtain ⟨b, A, c, vL⟩ := q
  have hblk := h.blk
  dsimp only at hblk
  obtain ⟨ρ, e0, hR⟩ := blk_open hblk true [b] (fun _ => List.mem_singleton.2 rfl) (by kernel_rfl)
  have hbox : RowV ρ [⟨[.v (.slice A u.length c), .v vL], true⟩] w b 36 [.slice A u.length c, vL] := RowV.start hblk _ _
  have hb0 : ∀ y, wrS ρ [⟨[.v (.slice A u.length c), .v vL], true⟩] y → y = b := fun y hy => (wrS_one hy).symm.trans (congrArg Prod.fst e0)
  have hO : Own ρ [⟨[.v (.slice A u.length c), .v vL], true⟩] w 0 3 1 (.slice A u.length c) u.length (nats (hds u)) := ⟨h.own, fun g hg hw => own_blk_ne h.own hblk (by decide) (by rw [hg, hb0 g hw])⟩
  rw [nats_ints] at hO
  have hag := hR.ag_ 1 (by kernel_rfl)
  refine sim_enter Tryz.func14 ρ [.ptr 0 0, LI n] [⟨[.v (.slice A u.length c), .v vL], true⟩] (by kernel_rfl) (by simp only [denL, LV.den, Nm.at_, e0]) ?_
  refine sim_run 15 [] (hR.cast (by kernel_rfl)) (by kernel_rfl) trivial (fun ρ300 w300 hm300 hR300 => ?_)
  have hbox := hbox.moved (hm300.castL (by kernel_rfl))
  have hO := hO.moved (hm300.castL (by kernel_rfl))
  have hag := hag.moved (hm300.castL (by kernel_rfl))
  refine sim_know 13 (decide ((↑n : Int) < (↑u.length : Int))) false (by kernel_rfl) (decide_eq_false (by omega)) ?_
  refine sim_run 4 [] (hR300.cast (by kernel_rfl)) (by kernel_rfl) trivial (fun ρ301 w301 hm301 hR301 => ?_)
  have hbox := hbox.moved (hm301.castL (by kernel_rfl))
  have hO := hO.moved (hm301.castL (by kernel_rfl))
  have hag := hag.moved (hm301.castL (by kernel_rfl))
  refine sim_know 16 (decide ((↑n : Int) > 1000)) false (by kernel_rfl) (decide_eq_false (by omega)) ?_
  refine sim_run 8 [] (hR301.cast (by kernel_rfl)) (by kernel_rfl) trivial (fun ρ302 w302 hm302 hR302 => ?_)
  have hbox := hbox.moved (hm302.castL (by kernel_rfl))
  have hO := hO.moved (hm302.castL (by kernel_rfl))
  have hag := hag.moved (hm302.castL (by kernel_rfl))
  
  refine sim_appendRK 31 (.slice none 0 0) A u.length c (by kernel_rfl) hR302 tyI (World.ownsRow_nil _ w302.heap.size _ _) hO.reads (oneI _) (by unfold maxLen; omega) (by omega) (Nat.le_refl _) (fun g hg => by cases hg) (fun g hg => by cases hg) (fun v2 w2 hown hg2 _ _ hR2 => ?_)
  have hB0 := hR302.keeps.size
  rw [Nat.zero_add, List.nil_append, ← nats_ints] at hown
  have hv : Own ρ302 _ w2 w.heap.size 3 1 v2 u.length (nats (hds u)) := ⟨own_base0 hown hB0, (Own.start hR302 hown).far⟩
  have hbox := hbox.grown hg2 (fun e => by cases e)
  clear hown hO
  refine sim_run 4 [] (hR2.cast (by kernel_rfl)) (by kernel_rfl) trivial (fun ρ400 w400 hm400 hR400 => ?_)
  have hag := hag.moved (hm400.castL (by kernel_rfl))
  have hv := hv.moved (hm400.castL (by kernel_rfl))
  have hbox := hbox.moved (hm400.castL (by kernel_rfl))
  
  have e0 := (hag.at_ 0 (by omega)).trans e0
  refine sim_loop (ι := Nat × Value) (T := [b]) (w0 := w) (0, v2) [0, 1] (fun s => [(5, .v s.2)]) (fun _ => [⟨[.v (.slice A u.length c), .v vL], true⟩]) (fun s w1 => s.1 ≤ n - u.length ∧ Own ρ400 [⟨[.v (.slice A u.length c), .v vL], true⟩] w1 w.heap.size 3 1 s.2 (u.length + s.1) (nats (hds (growF u s.1))) ∧ RowV ρ400 [⟨[.v (.slice A u.length c), .v vL], true⟩] w1 b 36 [.slice A u.length c, vL]) (fun s => n - u.length - s.1) (by kernel_rfl) (by kernel_rfl) ((by assumption : Rel _ _ _ _ _).cast (by kernel_rfl)) ⟨Nat.zero_le _, hv.castR (by kernel_rfl), hbox.castR (by kernel_rfl)⟩ ?_
  iterate 8 (try clear hv)
  iterate 8 (try clear hbox)
  iterate 8 (try clear hag)
  rintro ⟨k, v⟩ d w4 hR4 ⟨hk, hv, hbox⟩
  dsimp only at hk hv hbox
  have hag := hR4.ag_ 1 (by kernel_rfl)
  obtain ⟨Av, cv, rfl⟩ := own_row' hv.own
  by_cases hlt : k < n - u.length
  · refine sim_run 8 [] (hR4.cast (by kernel_rfl)) (by kernel_rfl) trivial (fun ρ500 w500 hm500 hR500 => ?_)
    have hbox := hbox.moved (hm500.castL (by kernel_rfl))
    have hag := hag.moved (hm500.castL (by kernel_rfl))
    have hv := hv.moved (hm500.castL (by kernel_rfl))
    refine sim_know 25 (decide ((↑(u.length + k) : Int) < (↑n : Int))) true (by kernel_rfl) (decide_eq_true (by omega)) ?_
    refine sim_run 9 [⟨5, 3, LI (IntKind.i64.wrap ((↑(u.length + k) : Int) + 1)), LI ((↑(u.length + k) : Int) + 1)⟩] (hR500.cast (by kernel_rfl)) (by kernel_rfl) ⟨eqi (IntWalk.i64_in _ (by omega)), trivial⟩ (fun ρ501 w501 hm501 hR501 => ?_)
    have hbox := hbox.moved (hm501.castL (by kernel_rfl))
    have hag := hag.moved (hm501.castL (by kernel_rfl))
    have hv := hv.moved (hm501.castL (by kernel_rfl))
    
    refine sim_appendO 31 (.slice Av (u.length + k) cv) (.slc 1 0 1 1) (by kernel_rfl) hR501 tyI hv 1 1 1 rfl [LI (((u.length + k : Nat) : Int) + 1)] (by kernel_rfl) rfl (by kernel_rfl) (by unfold maxLen; omega) (by omega) hR501.keeps.size (fun g' hg' => .inr (own_ge hv.own hg')) [] (by kernel_rfl) (by simp) (fun v' w7 hv' hgw hR7 => ?_)
    have hbox := hbox.grown hgw (fun e => by have h3 := own_ge hv.own e.symm; have h4 := hblk.lt; omega)
    have hv := hv'
    clear hv'
    refine sim_run 3 [] (hR7.cast (by kernel_rfl)) (by kernel_rfl) trivial (fun ρ600 w600 hm600 hR600 => ?_)
    have hag := hag.moved (hm600.castL (by kernel_rfl))
    have hbox := hbox.moved (hm600.castL (by kernel_rfl))
    have hv := hv.moved (hm600.castL (by kernel_rfl))
    
    refine sim_again (k + 1, v') (by kernel_rfl) (by show n - u.length - (k + 1) < n - u.length - k; omega) (by kernel_rfl) (by kernel_rfl) (by kernel_rfl) hag.ag (Rel.cast (by assumption) (by kernel_rfl)) (by kernel_rfl) (by kernel_rfl) ⟨hlt, ?_, RowV.start (boxF (cs := [.slice A u.length c, vL]) (by assumption : Rel _ _ _ _ _) hbox hag e0 (by kernel_rfl) rfl) _ _⟩
    rw [hds_growF hg, nats_append]
    exact hv.cut hag rfl (by kernel_rfl)
  · obtain rfl : k = n - u.length := by omega
    refine sim_run 8 [] (hR4.cast (by kernel_rfl)) (by kernel_rfl) trivial (fun ρ700 w700 hm700 hR700 => ?_)
    have hbox := hbox.moved (hm700.castL (by kernel_rfl))
    have hag := hag.moved (hm700.castL (by kernel_rfl))
    have hv := hv.moved (hm700.castL (by kernel_rfl))
    refine sim_know 25 (decide ((↑(u.length + (n - u.length)) : Int) < (↑n : Int))) false (by kernel_rfl) (decide_eq_false (by omega)) ?_
    refine sim_run 1 [] (hR700.cast (by kernel_rfl)) (by kernel_rfl) trivial (fun ρ701 w701 hm701 hR701 => ?_)
    have hbox := hbox.moved (hm701.castL (by kernel_rfl))
    have hag := hag.moved (hm701.castL (by kernel_rfl))
    have hv := hv.moved (hm701.castL (by kernel_rfl))
    refine sim_leave (by kernel_rfl) ?_
    refine sim_run 12 [] (hR701.cast (by kernel_rfl)) (by kernel_rfl) trivial (fun ρ702 w702 hm702 hR702 => ?_)
    have hbox := hbox.moved (hm702.castL (by kernel_rfl))
    have hag := hag.moved (hm702.castL (by kernel_rfl))
    have hv := hv.moved (hm702.castL (by kernel_rfl))
    refine sim_ret (LI 0) hR702 (by kernel_rfl) (by kernel_rfl) ?_
    
    exact ⟨rfl, Av, cv, rfv_of (by assumption : Rel _ _ _ _ _) hbox hag e0 (by kernel_rfl) rfl hv (growF_length _ _).symm, kept_b ((by assumption : Rel _ _ _ _ _)).keeps, fun a ha => .inr (own_new' hv.own a ha)⟩
def New12 (w : World) (n : Nat) (e : Ending) (w' : World) : Prop :=
  ∃ g A c, e = .returned (.tuple #[.pointer (some ⟨g, 0, none⟩), .int .i64 0]) ∧ RfV ⟨g, A, c, nilS⟩ (Uf.fresh n) w' ∧ w.heap.size ≤ g ∧ (∀ a, A = some a → w.heap.size ≤ a.block) ∧ Below w.heap.size w w'
set_option maxRecDepth 100000 in
set_option maxHeartbeats 4000000 in
theorem new12_out (n : Int) (w : World) (hn : n < 0 ∨ 1000 < n) :
    Calls Tryz.prog 8 #[.int .i64 n] w fun e w' => e = .returned (.tuple #[.pointer none, .int .i64 1]) ∧ Below w.heap.size w w' := by
  refine sim_enter Tryz.func8 ρ0 [LI n] [] (by kernel_rfl) rfl ?_
  have hR := Rel.start [] w ρ0
  by_cases h1 : n < 0
  · refine sim_run 11 [] (hR.cast (by kernel_rfl)) (by kernel_rfl) trivial (fun ρ1100 w1100 hm1100 hR1100 => ?_)
    refine sim_know 7 (decide (n < 0)) true (by kernel_rfl) (decide_eq_true (by omega)) ?_
    refine sim_run 10 [] (hR1100.cast (by kernel_rfl)) (by kernel_rfl) trivial (fun ρ1101 w1101 hm1101 hR1101 => ?_)
    refine sim_ret (.tup [.v (Value.pointer none), LI 1]) hR1101 (by kernel_rfl) (by kernel_rfl) ?_
    exact ⟨rfl, hR1101.toBelow⟩
    
  · have h2 := hn.resolve_left h1
    refine sim_run 11 [] (hR.cast (by kernel_rfl)) (by kernel_rfl) trivial (fun ρ1200 w1200 hm1200 hR1200 => ?_)
    refine sim_know 7 (decide (n < 0)) false (by kernel_rfl) (decide_eq_false (by omega)) ?_
    refine sim_run 4 [] (hR1200.cast (by kernel_rfl)) (by kernel_rfl) trivial (fun ρ1201 w1201 hm1201 hR1201 => ?_)
    refine sim_know 10 (decide (n > 1000)) true (by kernel_rfl) (decide_eq_true (by omega)) ?_
    refine sim_run 6 [] (hR1201.cast (by kernel_rfl)) (by kernel_rfl) trivial (fun ρ1202 w1202 hm1202 hR1202 => ?_)
    refine sim_ret (.tup [.v (Value.pointer none), LI 1]) hR1202 (by kernel_rfl) (by kernel_rfl) ?_
    exact ⟨rfl, hR1202.toBelow⟩
    
set_option maxRecDepth 100000 in
set_option maxHeartbeats 4000000 in
theorem new12_in (n : Nat) (w : World) (hn : n ≤ 1000) :
    Calls Tryz.prog 8 #[.int .i64 n] w (New12 w n) := by
  refine sim_enter Tryz.func8 ρ0 [LI n] [] (by kernel_rfl) rfl ?_
  have hR := Rel.start [] w ρ0
  refine sim_run 15 [] (hR.cast (by kernel_rfl)) (by kernel_rfl) trivial (fun ρ1300 w1300 hm1300 hR1300 => ?_)
  refine sim_know 10 (decide ((↑n : Int) > 1000)) false (by kernel_rfl) (decide_eq_false (by omega)) ?_
  refine sim_run 5 [] (hR1300.cast (by kernel_rfl)) (by kernel_rfl) trivial (fun ρ1301 w1301 hm1301 hR1301 => ?_)
  
  have hsz := ((by assumption : Rel _ _ _ _ _)).keeps.size
  refine sim_box (e := 36) (x := .agg [.v (.slice none 0 0), .v (.slice none 0 0)]) 0 (by kernel_rfl) (by kernel_rfl) (by assumption : Rel _ _ _ _ _) (by kernel_rfl) (fun ρ2 w2 hm2 e2 hR2 hb2 => ?_)
  generalize w1301.heap.size = g0 at *
  have hRz : Rel [] w ρ2 [⟨[], false⟩] w2 := (hR2.forget fun _ => true).cast (by kernel_rfl)
  refine sim_rs [⟨[], false⟩] ?_
  have hV : Sta (RfP.mk g0 none 0 nilS).has (RfV (RfP.mk g0 none 0 nilS) []) ρ2 [⟨[], false⟩] w2 := by
    have h1 : RfV (RfP.mk g0 none 0 nilS) [] w2 := ⟨hb2, World.ownsRow_nil _ _ _ _⟩
    exact ⟨h1, fun _ _ hw => wrS_allRo (rs := [⟨[], false⟩]) rfl hw, h1.lt, RfV.same⟩
  have hag := hRz.ag_ 1 (by kernel_rfl)
  clear hR2 hm2 hb2
  refine sim_run 6 [] (hRz.cast (by kernel_rfl)) (by kernel_rfl) trivial (fun ρ1400 w1400 hm1400 hR1400 => ?_)
  have hV := hV.moved (hm1400.castL (by kernel_rfl))
  have hag := hag.moved (hm1400.castL (by kernel_rfl))
  refine sim_call 14 [.ptr 0 0, LI ((↑n : Int))] (by kernel_rfl) ?_
  have ez0_1401 := (hag.at_ 0 (by omega)).trans e2
  simp only [denL, LV.den, Nm.at_, ez0_1401, Nat.add_zero]
  refine Calls.mono (grow12_in ((RfP.mk g0 none 0 nilS)) ([]) (n) _ hV.is good_none (Nat.zero_le _) (by assumption)) ?_
  rintro e1401 w1401 ⟨rfl, A1401, c1401, hV1401, hk1401, hA1401⟩
  have hR1401 := (hR1400).keptE (by kernel_rfl) hk1401 (fun y hy => .inr (by have hy : y = g0 := hy; omega))
  have hV := hV.repl (by kernel_rfl) hV1401 hV1401.lt RfV.same
  have hA := hA1401
  refine Back.of (LI 0) hR1401 rfl ?_
  refine sim_run 7 [] (hR1401.cast (by kernel_rfl)) (by kernel_rfl) trivial (fun ρ1402 w1402 hm1402 hR1402 => ?_)
  have hag := hag.moved (hm1402.castL (by kernel_rfl))
  have hV := hV.moved (hm1402.castL (by kernel_rfl))
  refine sim_ret (.tup [.ptr 0 0, LI 0]) hR1402 (by kernel_rfl) (by kernel_rfl) ?_
  
  have hv := hV.is
  have hfr : growF [] (n - ([] : List Nat).length) = Uf.fresh n := growF_fresh n
  rw [hfr] at hv
  refine ⟨g0, _, _, by simp only [LV.den, denL, Nm.at_, hag.at_ 0 (by omega), e2, Nat.add_zero], hv, hsz, fun a ha => (hA a ha).elim (fun h => by cases h) (fun h => ?_), ((by assumption : Rel _ _ _ _ _)).toBelow⟩
  exact Nat.le_trans ((by assumption : Rel [] w ρ1400 _ w1400)).keeps.size h
end Go.Proofs.YtedfbdeklepekaaGreat
