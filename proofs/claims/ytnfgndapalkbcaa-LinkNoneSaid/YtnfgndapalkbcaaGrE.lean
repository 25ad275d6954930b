/-
  link.order: all classes in their order.
-/
import Derived.Test.YtnfgndapalkbcaaGrD
namespace Go.Proofs.Ytnfgndapalkbcaa
open Go Go.RowKit
section
variable {P : Program} {Q : Exit → Act → World → Prop} {T : List Nat} {w0 w : World} {ρ : Nm} {c : Cfg}
/-- a number of a row comes into view -/
theorem sim_seeNat {B n : Nat} {A : Option Addr} {xs : List Nat} {p : Nat} (k N : Nat) (hN : c.rs.length = N) (hk : xs[k]? = some p) (hs : Sta (readS A B) (ReadW B 1 A n (nats xs)) ρ c.rs w) (hR : Rel T w0 ρ c.rs w) (hu : (undR N c.rs && undL N c.tmps) = true)
    (next : ∀ g o ρ', A = some ⟨g, o, none⟩ → readS A B g → Moved ρ c.rs w ρ' (c.rs ++ [⟨[LI (p : Int)], false⟩]) w → ρ' N = (g, o + k) → Rel T w0 ρ' (c.rs ++ [⟨[LI (p : Int)], false⟩]) w → At P Q ⟨c.k, c.tmps, c.rs ++ [⟨[LI (p : Int)], false⟩]⟩ ρ' w) : At P Q c ρ w := by
  have hr : Reads w B 1 A n (nats xs) := hs.is
  have hkl := (List.getElem?_eq_some_iff.1 hk).1
  have hn : xs.length = n := by have := hr.1; rw [nats_length] at this; omega
  obtain ⟨g, o, rfl, hg, hc⟩ := hr.spot (by omega) (by omega)
  have hgS : readS (some ⟨g, o, none⟩) B g := ⟨_, rfl, rfl, hg⟩
  simp only [Bool.and_eq_true] at hu
  subst hN
  refine sim_open c.rs.length rfl hR g (o + k) [LI (p : Int)] (by rw [hu.1, hu.2]; rfl) (hs.lt g hgS) (fun j v hj => ?_) (fun m r hm hw he => ?_) (fun ρ' ha hn hR' => next g o ρ' rfl hgS (Moved.ext_ro ha rfl) hn hR')
  · match j, hj with
    | 0, hj =>
      simp only [List.getElem?_cons_zero, Option.some.injEq] at hj
      subst hj
      exact hc k _ (by unfold nats; rw [List.getElem?_map, hk]; rfl)
    | j + 1, hj => simp at hj
  · exact hs.far g hgS ⟨m, r, hm, hw, he⟩
end
/-- values that are rows -/
def OutW (B base : Nat) (vs : List Value) (xss : List (List Nat)) : World → Prop := fun w => vs.length = xss.length ∧ ∀ (i : Nat) (xs : List Nat), xss[i]? = some xs → ∃ (A : Option Addr) (cap : Nat), vs[i]? = some (Value.slice A xs.length cap) ∧ xs.length ≤ cap ∧ cap ≤ maxLen ∧ Reads w B 1 A xs.length (nats xs) ∧ ∀ ad, A = some ad → base ≤ ad.block
theorem OutW.same {B base : Nat} {vs : List Value} {xss : List (List Nat)} : ∀ (w1 w2 : World) (S' : Nat → Prop), OutW B base vs xss w1 → (∀ x, btw base B x → x < w1.heap.size) → Kept S' w1 w2 → (∀ x, btw base B x → ¬ S' x) → OutW B base vs xss w2 := by
  rintro w1 w2 S' ⟨hl, hrow⟩ hlt hk hn
  refine ⟨hl, fun i xs hx => ?_⟩
  obtain ⟨A, cap, h1, h2, h3, h4, h5⟩ := hrow i xs hx
  exact ⟨A, cap, h1, h2, h3, h4.keptFar hk (fun ad e h6 => ⟨hlt _ ⟨h5 ad e, h6⟩, hn _ ⟨h5 ad e, h6⟩⟩), h5⟩
theorem Sta.outNil {B base : Nat} {V : World → Prop} {ρ : Nm} {rs : List Reg} {w : World} (h : Sta (btw base B) V ρ rs w) : Sta (btw base B) (OutW B base [] []) ρ rs w := ⟨⟨rfl, fun i xs h => by simp at h⟩, h.far, h.lt, OutW.same⟩
theorem Sta.outSnoc {B base : Nat} {vs : List Value} {xss : List (List Nat)} {xs : List Nat} {A : Option Addr} {cap : Nat} {ρ : Nm} {rs : List Reg} {w : World} (h : Sta (btw base B) (OutW B base vs xss) ρ rs w) (hr : Sta (readS A B) (ReadW B 1 A xs.length (nats xs)) ρ rs w) (h1 : xs.length ≤ cap) (h2 : cap ≤ maxLen) (hA : ∀ ad, A = some ad → base ≤ ad.block) : Sta (btw base B) (OutW B base (vs ++ [.slice A xs.length cap]) (xss ++ [xs])) ρ rs w := by
  refine ⟨⟨by rw [List.length_append, List.length_append, h.is.1]; rfl, fun i ys hy => ?_⟩, h.far, h.lt, OutW.same⟩
  rcases Nat.lt_or_ge i xss.length with hl | hl
  · rw [List.getElem?_append_left hl] at hy
    obtain ⟨A', c', k1, k2⟩ := h.is.2 i ys hy
    exact ⟨A', c', by rw [List.getElem?_append_left (by rw [h.is.1]; exact hl)]; exact k1, k2⟩
  · rw [List.getElem?_append_right hl] at hy
    have hi : i - xss.length = 0 := by
      rcases Nat.eq_zero_or_pos (i - xss.length) with h0 | h0
      · exact h0
      · rw [List.getElem?_eq_none (by simp; omega)] at hy; cases hy
    rw [hi] at hy
    simp only [List.getElem?_cons_zero, Option.some.injEq] at hy
    subst hy
    exact ⟨A, cap, by rw [List.getElem?_append_right (by rw [h.is.1]; exact hl), h.is.1, hi]; rfl, h1, h2, hr.is, hA⟩
theorem rows_out {w : World} {B base b1 : Nat} {L : Option Addr} {cap : Nat} {vs : List Value} {xss : List (List Nat)} (ho : w.ownsRow b1 31 1 (.slice L xss.length cap) xss.length vs) (h : OutW B base vs xss w) (hB : B ≤ w.heap.size) (hb : base ≤ b1) (b0 : Nat) (h0 : b0 ≤ base) : RowsR w w.heap.size b0 L xss := by
  refine ⟨vs, Reads.of_own ho, fun ad e => ?_, fun i xs hx => ?_⟩
  · subst e
    have := own_ge ho rfl
    omega
  · obtain ⟨A, c, k1, k2, k3, k4, k5⟩ := h.2 i xs hx
    exact ⟨A, c, k1, k2, k3, k4.more hB, fun ad e => by have := k5 ad e; omega⟩
/-- the first ready class -/
theorem cls_head {u : List Nat} (g : Uf.Good u) {h : Nat} (hh : h ∈ Uf.heads u) : (Uf.cls u h).headD 0 = h := by
  have h1 := Uf.mem_heads hh
  have h2 := Uf.hd_of_heads hh
  obtain ⟨r, e⟩ := Uf.cls_first g h1.1 h1.2
  rw [h2] at e
  rw [e]
  rfl
theorem idxF_map {u : List Nat} (g : Uf.Good u) (p : Nat → Bool) : ∀ (hs : List Nat), (∀ h ∈ hs, h ∈ Uf.heads u) → ∀ i : Nat, (hs.find? p = none → idxF (fun c => p (c.headD 0)) (hs.map (Uf.cls u)) i = -1) ∧ ∀ h, hs.find? p = some h → ∃ k, hs[k]? = some h ∧ idxF (fun c => p (c.headD 0)) (hs.map (Uf.cls u)) i = ((i + k : Nat) : Int)
  | [], _, _ => ⟨fun _ => rfl, fun h hh => by cases hh⟩
  | x :: hs, hm, i => by
    have ih := idxF_map g p hs (fun h hh => hm h (by simp [hh])) (i + 1)
    have hx := cls_head g (hm x (by simp))
    have he : idxF (fun c => p (c.headD 0)) ((x :: hs).map (Uf.cls u)) i = if p x = true then (i : Int) else idxF (fun c => p (c.headD 0)) (hs.map (Uf.cls u)) (i + 1) := by
      rw [List.map_cons]
      show (if p ((Uf.cls u x).headD 0) = true then _ else _) = _
      rw [hx]
    rw [he, List.find?_cons]
    cases hp : p x with
    | true =>
      refine ⟨fun h => by simp at h, fun h hh => ⟨0, ?_, by simp⟩⟩
      simp only [Option.some.injEq] at hh
      rw [hh]
      rfl
    | false =>
      refine ⟨fun h => by simpa using ih.1 h, fun h hh => ?_⟩
      obtain ⟨k, k1, k2⟩ := ih.2 h hh
      refine ⟨k + 1, k1, ?_⟩
      simp only [Bool.false_eq_true, if_false]
      rw [k2]
      congr 1
      omega
theorem row_ty : RowTy Try.prog 38 31 1 24 := RowTy.of Try.underlying38 (by kernel_rfl) (by kernel_rfl)
theorem hasK_ins {K V : Type} [DecidableEq K] (k k' : K) (v : V) (n : Nat) (l : List (Ent K V)) : hasK k' (ins k v n l) = (decide (k' = k) || hasK k' l) := by
  unfold hasK
  rw [look_ins]
  by_cases h : k' = k
  · simp [h]
  · simp [h]
theorem Rws.over {K : Type} {T : List Nat} {w0 w1 w : World} {ρ ρ' : Nm} {rs rs' : List Reg} {B : Nat} {l : List (Ent K Value)} {f : K → List Int} (h : Rws ρ rs w B l f) (_ : Rel T w0 ρ' rs' w1) (hro : allRo rs' = true) : Rws ρ' rs' w B l f := h.map fun _ _ ho => ⟨ho.own, fun _ _ hw => wrS_allRo hro hw⟩
theorem MpO.over {K V : Type} {enc : K → Value} {encV : V → Value} {T : List Nat} {w0 w1 w : World} {ρ ρ' : Nm} {rs rs' : List Reg} {g : Nat} {l : List (Ent K V)} {ck : Nat} (h : MpO enc encV ρ rs w (some g) l ck) (_ : Rel T w0 ρ' rs' w1) (hro : allRo rs' = true) : MpO enc encV ρ' rs' w (some g) l ck := mpo_in (h.is g rfl).1 hro
theorem Rws.grownO {K : Type} {ρ : Nm} {rs : List Reg} {w w' : World} {B : Nat} {l : List (Ent K Value)} {f : K → List Int} (h : Rws ρ rs w B l f) {b n s : Nat} {e : TypeId} {v : Value} {xs : List Value} (ho : w.ownsRow b e s v n xs) (he : 3 ≠ e) (hg : w.grownBy w' v.ownBlock) : Rws ρ rs w' B l f :=
  h.map fun _ _ h' => h'.grown hg fun _ hg' e' => own_ne h'.own ho he _ hg' e'
theorem cont_snoc (t h0 : Nat) (done : List Nat) : (decide ((t : Int) = (h0 : Int)) || done.contains t) = (done ++ [h0]).contains t := by
  rw [Bool.eq_iff_iff, Bool.or_eq_true, decide_eq_true_iff, List.contains_iff_mem, List.contains_iff_mem, List.mem_append, List.mem_singleton]
  constructor
  · rintro (h | h)
    · exact .inr (by omega)
    · exact .inl h
  · rintro (h | h)
    · exact .inr h
    · exact .inl (by omega)
theorem orV_of {T : List Nat} {w0 w : World} {ρ : Nm} {rs : List Reg} {u : List Nat} {l : List Lk} {gd gm : Nat} {D : List (Ent Int Unit)} {ck : Nat} {m : List (Ent Int Value)} {cm B0 : Nat} {done : List Nat} (hR : Rel T w0 ρ rs w) {i j : Nat} {bi bj : Bool} (hi : rs[i]? = some ⟨[.v (.map (some gd))], bi⟩) (hj : rs[j]? = some ⟨[.v (.map (some gm))], bj⟩) (hD : MpO encZ encU ρ rs w (some gd) D ck) (hM : MpO encZ id ρ rs w (some gm) m cm) (hrw : Rws ρ rs w B0 m (aheadI u l)) (hH : HdM u l m) (hd : ∀ t : Nat, hasK (t : Int) D = done.contains t) : OrV u l (ρ i).1 (ρ i).2 (ρ j).1 (ρ j).2 gd gm D ck m cm B0 done w := by
  refine ⟨?_, ?_, (hD.is gd rfl).1, (hM.is gm rfl).1, hrw.map fun e _ ho => ⟨ho.own, fun g _ hw => noW0 hw⟩, hH, hd⟩
  · exact hR.cell i _ hi 0 _ rfl
  · exact hR.cell j _ hj 0 _ rfl
attribute [local irreducible] run goO leaveK someK nextK nextT nextOT nextOD loopBody loopRest loopK fillJ tmplOf tmplJ mergeT At AtO drawOk ordOf gateOf callC callO topOp topO idxOf appOf storeOf clearOf sliceOf calleeOf calleeO topQ idxQ newRowOf resL stepOp seek
set_option maxRecDepth 100000 in
set_option maxHeartbeats 4000000 in
theorem order_any (b g c : Nat) (Au : Option Addr) (u : List Nat) (A : Option Addr) (n cp B : Nat) (l : List Lk) (w : World) (h : UfAt w b g u Au c) (hg : Uf.Good u) (hu : u.length ≤ 1000) (hl : Reads w B 3 A n (lkV l)) (hB : B ≤ w.heap.size) (hn : n ≤ 100000) (hin : Uf.InL u.length l) :
    Calls Try.prog 35 #[.pointer (some ⟨b, 0, none⟩), .slice A n cp] w fun e w' => ∃ L cap, e = .returned (.slice L (Uf.orderM u l).length cap) ∧ RowsR w' w'.heap.size w.heap.size L ((Uf.orderM u l).map (Uf.cls u)) ∧ Below w.heap.size w w' := by
  have hll := lkV_num hl
  have hR := Rel.start [] w ρ0
  have hj : Sta (ufS b g) (UfW b g u Au c) ρ0 [] w := Sta.ro_ h (by kernel_rfl) (fun x hx => hx.elim (fun e => e ▸ h.lt.1) (fun e => e ▸ h.lt.2)) UfW.same
  refine sim_enter Try.func35 ρ0 [.v (.pointer (some ⟨b, 0, none⟩)), .v (.slice A n cp)] [] (by kernel_rfl) rfl ?_
  refine sim_run 12 [] (hR.cast (by kernel_rfl)) (by kernel_rfl) trivial (fun ρ100 w100 hm100 hR100 => ?_)
  have hj := hj.moved (hm100.castL (by kernel_rfl))
  refine sim_call 32 [.v (Value.pointer (some (Addr.mk b 0 none))), .v (Value.slice A n cp)] (by kernel_rfl) ?_
  refine Calls.mono (heads_any _ _ _ _ _ (A) (n) (cp) (B) (l) _ hj.is (by assumption) (by assumption) (hl.belowW (hR100).toBelow hB) (Nat.le_trans hB (hR100).keeps.size) (by assumption) (by assumption)) ?_
  rintro e101 w101 ⟨gm, m, cm, rfl, hgm, hM101, hrw, hH, hb101⟩
  have hMa := hM101.over (hR100) (by kernel_rfl)
  have hrw := hrw.over (hR100) (by kernel_rfl)
  have hR101 := (hR100).below hb101
  have hj := hj.below hb101
  refine Back.of (.v (.map (some gm))) hR101 rfl ?_
  refine sim_run 5 [] (hR101.cast (by kernel_rfl)) (by kernel_rfl) trivial (fun ρ102 w102 hm102 hR102 => ?_)
  have hMa := hMa.moved (hm102.castL (by kernel_rfl))
  have hrw := hrw.moved (hm102.castL (by kernel_rfl))
  have hj := hj.moved (hm102.castL (by kernel_rfl))
  refine sim_make encZ encU (t := 93) (by kernel_rfl) hR102 (fun w103 gd egd hb103 hD hR103 => ?_)
  have hgmd := (hMa.is _ rfl).1.size
  have hMa := hMa.below hb103
  have hrw := hrw.below hb103
  have hj := hj.below hb103
  refine sim_run 11 [] (hR103.cast (by kernel_rfl)) (by kernel_rfl) trivial (fun ρ104 w104 hm104 hR104 => ?_)
  have hD := hD.moved (hm104.castL (by kernel_rfl))
  have hMa := hMa.moved (hm104.castL (by kernel_rfl))
  have hrw := hrw.moved (hm104.castL (by kernel_rfl))
  have hj := hj.moved (hm104.castL (by kernel_rfl))
  refine sim_call 58 [.v (Value.pointer (some (Addr.mk b 0 none)))] (by kernel_rfl) ?_
  refine Calls.mono (ufClasses_b hj.is (by assumption) (by assumption)) ?_
  rintro e105 w105 ⟨L, cL, rfl, hr105, hb105⟩
  have hrow := Sta.rows (hR104) hr105
  have hgdl := (hD.is _ rfl).1.size
  have hgml := (hMa.is _ rfl).1.size
  have hBsz := hb105.size
  have hR105 := (hR104).below hb105
  have hD := hD.below hb105
  have hMa := hMa.below hb105
  have hrw := hrw.below hb105
  have hj := hj.below hb105
  refine Back.of (.v (.slice L (Uf.classes u).length cL)) hR105 rfl ?_
  refine sim_run 3 [] (hR105.cast (by kernel_rfl)) (by kernel_rfl) trivial (fun ρ106 w106 hm106 hR106 => ?_)
  have hrow := hrow.moved (hm106.castL (by kernel_rfl))
  have hD := hD.moved (hm106.castL (by kernel_rfl))
  have hMa := hMa.moved (hm106.castL (by kernel_rfl))
  have hrw := hrw.moved (hm106.castL (by kernel_rfl))
  have hj := hj.moved (hm106.castL (by kernel_rfl))
  
  have hub := classes_le u
  have hcl := Uf.classes_length u
  refine sim_loop (ι := List Nat × List (Ent Int Unit) × Nat × Value × List Value) (T := []) (w0 := w) ([], [], 0, nilRow, []) [6, 7, 8, 9] (fun x => [(5, .v x.2.2.2.1)]) (fun _ => [⟨[.v (.map (some gm))], true⟩, ⟨[.v (.map (some gd))], true⟩]) (fun x w1 => Uf.OrdI (Uf.aheadM u l) (Uf.heads u) x.1 ∧ Uf.orderM u l = Uf.ordM (Uf.aheadM u l) (Uf.heads u) ((Uf.heads u).length - x.1.length) x.1 ∧ MpO encZ encU ρ106 [⟨[.v (.map (some gm))], true⟩, ⟨[.v (.map (some gd))], true⟩] w1 (some gd) x.2.1 x.2.2.1 ∧ MpO encZ id ρ106 [⟨[.v (.map (some gm))], true⟩, ⟨[.v (.map (some gd))], true⟩] w1 (some gm) m cm ∧ Rws ρ106 [⟨[.v (.map (some gm))], true⟩, ⟨[.v (.map (some gd))], true⟩] w1 w100.heap.size m (aheadI u l) ∧ (∀ t : Nat, hasK (t : Int) x.2.1 = x.1.contains t) ∧ Sta (btw w104.heap.size w105.heap.size) (RowW w105.heap.size w104.heap.size L (Uf.classes u)) ρ106 [⟨[.v (.map (some gm))], true⟩, ⟨[.v (.map (some gd))], true⟩] w1 ∧ Sta (btw w104.heap.size w105.heap.size) (OutW w105.heap.size w104.heap.size x.2.2.2.2 (x.1.map (Uf.cls u))) ρ106 [⟨[.v (.map (some gm))], true⟩, ⟨[.v (.map (some gd))], true⟩] w1 ∧ Own ρ106 [⟨[.v (.map (some gm))], true⟩, ⟨[.v (.map (some gd))], true⟩] w1 w105.heap.size 31 1 x.2.2.2.1 x.1.length x.2.2.2.2 ∧ w105.heap.size ≤ w1.heap.size) (fun x => (Uf.heads u).length - x.1.length) (by kernel_rfl) (by kernel_rfl) ((by assumption : Rel _ _ _ _ _).cast (by kernel_rfl)) ⟨.nil _ _, rfl, hD.castR (by kernel_rfl), hMa.castR (by kernel_rfl), hrw.castR (by kernel_rfl), fun _ => rfl, hrow.castR (by kernel_rfl), (hrow.castR (by kernel_rfl)).outNil, ⟨⟨rfl, .inl ⟨rfl, rfl⟩⟩, fun g hg => by cases hg⟩, hm106.kept.size⟩ ?_
  have hB0 := hR100.keeps.size
  have hB1 := hR104.keeps.size
  have hgd : w.heap.size ≤ gd := by rw [egd]; exact hR102.keeps.size
  generalize w100.heap.size = B0 at *
  generalize w104.heap.size = B1 at *
  generalize w105.heap.size = B2 at *
  iterate 8 (try clear hD)
  iterate 8 (try clear hMa)
  iterate 8 (try clear hrw)
  iterate 8 (try clear hrow)
  iterate 8 (try clear hj)
  rintro ⟨done, D, ck, v, vs⟩ d w2 hR2 ⟨hI, hO, hD, hMa, hrw, hd, hrow, hout, hown, hB2⟩
  dsimp only at hI hO hD hMa hrw hd hrow hout hown hB2
  have hag := hR2.ag_ 2 (by kernel_rfl)
  have hold : OldR 0 B2 ρ106 [⟨[.v (.map (some gm))], true⟩, ⟨[.v (.map (some gd))], true⟩] w2 := ⟨fun _ h => absurd h (Nat.not_lt_zero _), Nat.zero_le _, hB2⟩
  have hll2 : l.length ≤ 100000 := by omega
  cases hn0 : Uf.nxt (Uf.aheadM u l) (Uf.heads u) done with
  | none =>
    have hidx : idxF (fun c => Uf.rdy (Uf.aheadM u l) done (c.headD 0)) (Uf.classes u) 0 = -1 := (idxF_map hg (Uf.rdy (Uf.aheadM u l) done) (Uf.heads u) (fun _ h => h) 0).1 hn0
    have hfin : Uf.orderM u l = done := by rw [hO]; exact Uf.ordM_end hn0 _
    refine sim_run 5 [] (hR2.cast (by kernel_rfl)) (by kernel_rfl) trivial (fun ρ200 w200 hm200 hR200 => ?_)
    have hD := hD.moved (hm200.castL (by kernel_rfl))
    have hMa := hMa.moved (hm200.castL (by kernel_rfl))
    have hrw := hrw.moved (hm200.castL (by kernel_rfl))
    have hrow := hrow.moved (hm200.castL (by kernel_rfl))
    have hout := hout.moved (hm200.castL (by kernel_rfl))
    have hown := hown.moved (hm200.castL (by kernel_rfl))
    have hag := hag.moved (hm200.castL (by kernel_rfl))
    have hold := hold.moved (hm200.castL (by kernel_rfl))
    refine sim_call 59 [.v (Value.slice L (Uf.classes u).length cL), .fnv (Fn.func 56) [] [.ptr 1 0, .ptr 0 0]] (by kernel_rfl) ?_
    refine Calls.mono (indexFR_any _ (ready_enters) _ ((fun c => Uf.rdy (Uf.aheadM u l) done (c.headD 0))) (L) (cL) (B1) (B2) (Uf.classes u) _ (hrow.is) hold.sz (by omega) (ready_any (orV_of (hR200) (i := 1) (j := 0) (bi := true) (bj := true) (by kernel_rfl) (by kernel_rfl) hD hMa hrw hH hd) hg hll2 B1 B2)) ?_
    rw [hidx]
    rintro e201 w201 ⟨rfl, hb201⟩
    have hR201 := (hR200).below hb201
    have hD := hD.below hb201
    have hMa := hMa.below hb201
    have hrw := hrw.below hb201
    have hrow := hrow.below hb201
    have hout := hout.below hb201
    have hown := hown.below hb201
    have hold := hold.below hb201
    refine Back.of (LI (-1)) hR201 rfl ?_
    refine sim_run 14 [] (hR201.cast (by kernel_rfl)) (by kernel_rfl) trivial (fun ρ202 w202 hm202 hR202 => ?_)
    have hag := hag.moved (hm202.castL (by kernel_rfl))
    have hD := hD.moved (hm202.castL (by kernel_rfl))
    have hMa := hMa.moved (hm202.castL (by kernel_rfl))
    have hrw := hrw.moved (hm202.castL (by kernel_rfl))
    have hrow := hrow.moved (hm202.castL (by kernel_rfl))
    have hout := hout.moved (hm202.castL (by kernel_rfl))
    have hown := hown.moved (hm202.castL (by kernel_rfl))
    have hold := hold.moved (hm202.castL (by kernel_rfl))
    refine sim_ret (.v ((done, D, ck, v, vs).snd.snd.snd.fst)) hR202 (by kernel_rfl) (by kernel_rfl) ?_
    
    obtain ⟨Av, cv, hve⟩ := own_row hown.own
    have ho2 := hown.own
    rw [hve] at ho2
    rw [hfin]
    refine ⟨Av, cv, by rw [← hve]; rfl, rows_out (vs := vs) (by rw [List.length_map]; exact ho2) hout.is hold.sz (by omega) _ (by omega), (by assumption : Rel _ _ _ _ _).toBelow⟩
  | some h0 =>
    obtain ⟨k, hk0, hkx⟩ := (idxF_map hg (Uf.rdy (Uf.aheadM u l) done) (Uf.heads u) (fun _ h => h) 0).2 h0 hn0
    have hidx : idxF (fun c => Uf.rdy (Uf.aheadM u l) done (c.headD 0)) (Uf.classes u) 0 = (k : Int) := by rw [show Uf.classes u = (Uf.heads u).map (Uf.cls u) from rfl, hkx, Nat.zero_add]
    have hkl := (List.getElem?_eq_some_iff.1 hk0).1
    have hck : (Uf.classes u)[k]? = some (Uf.cls u h0) := by rw [show Uf.classes u = (Uf.heads u).map (Uf.cls u) from rfl, List.getElem?_map, hk0]; rfl
    have hhm := List.mem_of_getElem? hk0
    obtain ⟨r0, hcr⟩ : ∃ r, Uf.cls u h0 = h0 :: r := by
      obtain ⟨p, r, hpr, _⟩ := class_get hg hck
      have := cls_head hg hhm
      rw [hpr] at this ⊢
      exact ⟨r, by rw [← this]; rfl⟩
    have hcl0 := class_len hck
    have hl0 : 0 < (Uf.cls u h0).length := by rw [hcr, List.length_cons]; omega
    refine sim_seeRow k 2 (by kernel_rfl) hck hrow hR2 (by kernel_rfl) (fun ga oa Ac cc ρE eA hgb hrd hcc hcm hAc hmE eE hRE => ?_)
    subst eA
    have hD := hD.moved hmE
    have hMa := hMa.moved hmE
    have hrw := hrw.moved hmE
    have hrow := hrow.moved hmE
    have hout := hout.moved hmE
    have hown := hown.moved hmE
    have hrd := hrd.moved hmE
    have hold := hold.moved hmE
    have hag := hag.moved hmE
    have hag3 := hRE.ag_ 3 (by kernel_rfl)
    refine sim_seeNat (p := h0) 0 3 (by kernel_rfl) (by rw [hcr]; rfl) hrd hRE (by kernel_rfl) (fun gc oc ρF eC hgc hmF eF hRF => ?_)
    subst eC
    have hD := hD.moved hmF
    have hMa := hMa.moved hmF
    have hrw := hrw.moved hmF
    have hrow := hrow.moved hmF
    have hout := hout.moved hmF
    have hown := hown.moved hmF
    have hrd := hrd.moved hmF
    have hold := hold.moved hmF
    have hag := hag.moved hmF
    have e2 := (hmF.agree 2 (by show 2 < 3; omega)).trans eE
    have hag4 := hRF.ag_ 4 (by kernel_rfl)
    have hgcB := hAc _ rfl
    have hgne : some gm ≠ some gd := fun e => by
      injection e with e
      omega
    have hgnb : ¬ btw B1 B2 gd := fun h => by have := h.1; omega
    have hgnc : ¬ readS (some (⟨gc, oc, none⟩ : Addr)) B2 gd := fun ⟨ad, e, h1, _⟩ => by have := hAc ad e; omega
    refine sim_run 5 [] (hRF.cast (by kernel_rfl)) (by kernel_rfl) trivial (fun ρ300 w300 hm300 hR300 => ?_)
    have hD := hD.moved (hm300.castL (by kernel_rfl))
    have hMa := hMa.moved (hm300.castL (by kernel_rfl))
    have hrw := hrw.moved (hm300.castL (by kernel_rfl))
    have hrow := hrow.moved (hm300.castL (by kernel_rfl))
    have hout := hout.moved (hm300.castL (by kernel_rfl))
    have hown := hown.moved (hm300.castL (by kernel_rfl))
    have hrd := hrd.moved (hm300.castL (by kernel_rfl))
    have hold := hold.moved (hm300.castL (by kernel_rfl))
    have hag := hag.moved (hm300.castL (by kernel_rfl))
    have hag4 := hag4.moved (hm300.castL (by kernel_rfl))
    refine sim_call 59 [.v (Value.slice (some (Addr.mk ga oa none)) (Uf.classes u).length cL), .fnv (Fn.func 56) [] [.ptr 1 0, .ptr 0 0]] (by kernel_rfl) ?_
    refine Calls.mono (indexFR_any _ (ready_enters) _ ((fun c => Uf.rdy (Uf.aheadM u l) done (c.headD 0))) _ (cL) (B1) (B2) (Uf.classes u) _ (hrow.is) hold.sz (by omega) (ready_any (orV_of (hR300) (i := 1) (j := 0) (bi := true) (bj := true) (by kernel_rfl) (by kernel_rfl) hD hMa hrw hH hd) hg hll2 B1 B2)) ?_
    rw [hidx]
    rintro e301 w301 ⟨rfl, hb301⟩
    have hR301 := (hR300).below hb301
    have hD := hD.below hb301
    have hMa := hMa.below hb301
    have hrw := hrw.below hb301
    have hrow := hrow.below hb301
    have hout := hout.below hb301
    have hown := hown.below hb301
    have hrd := hrd.below hb301
    have hold := hold.below hb301
    refine Back.of (LI (k : Int)) hR301 rfl ?_
    refine sim_run 11 [] (hR301.cast (by kernel_rfl)) (by kernel_rfl) trivial (fun ρ302 w302 hm302 hR302 => ?_)
    have hag := hag.moved (hm302.castL (by kernel_rfl))
    have hag4 := hag4.moved (hm302.castL (by kernel_rfl))
    have hD := hD.moved (hm302.castL (by kernel_rfl))
    have hMa := hMa.moved (hm302.castL (by kernel_rfl))
    have hrw := hrw.moved (hm302.castL (by kernel_rfl))
    have hrow := hrow.moved (hm302.castL (by kernel_rfl))
    have hout := hout.moved (hm302.castL (by kernel_rfl))
    have hown := hown.moved (hm302.castL (by kernel_rfl))
    have hrd := hrd.moved (hm302.castL (by kernel_rfl))
    have hold := hold.moved (hm302.castL (by kernel_rfl))
    refine sim_draw [] (by kernel_rfl) (by kernel_rfl) hR302 (fun hR303 => ?_)
    have hD := hD.drew
    have hMa := hMa.drew
    have hrw := hrw.drew
    have hrow := hrow.drew
    have hout := hout.drew
    have hown := hown.drew
    have hrd := hrd.drew
    have hold := hold.drew
    refine sim_ordN 3 [] hR303 (by kernel_rfl) trivial (fun ρ304 w304 hm304 hR304 => ?_)
    have hag := hag.moved (hm304.castL (by kernel_rfl))
    have hag4 := hag4.moved (hm304.castL (by kernel_rfl))
    have hD := hD.moved (hm304.castL (by kernel_rfl))
    have hMa := hMa.moved (hm304.castL (by kernel_rfl))
    have hrw := hrw.moved (hm304.castL (by kernel_rfl))
    have hrow := hrow.moved (hm304.castL (by kernel_rfl))
    have hout := hout.moved (hm304.castL (by kernel_rfl))
    have hown := hown.moved (hm304.castL (by kernel_rfl))
    have hrd := hrd.moved (hm304.castL (by kernel_rfl))
    have hold := hold.moved (hm304.castL (by kernel_rfl))
    refine sim_ord_index (.v (.slice (some ⟨ga, oa, none⟩) (Uf.classes u).length cL)) (Uf.classes u).length 1 (k : Int) 2 0 (by kernel_rfl) (by omega) (by omega) rfl hR304 (by simp only [Nm.at_, hag4.at_ 2 (by omega), e2, Nat.add_zero, Int.toNat_natCast, Nat.mul_one]) (fun hR305 => ?_)
    refine sim_ordN 1 [] hR305 (by kernel_rfl) trivial (fun ρ306 w306 hm306 hR306 => ?_)
    have hag := hag.moved (hm306.castL (by kernel_rfl))
    have hag4 := hag4.moved (hm306.castL (by kernel_rfl))
    have hD := hD.moved (hm306.castL (by kernel_rfl))
    have hMa := hMa.moved (hm306.castL (by kernel_rfl))
    have hrw := hrw.moved (hm306.castL (by kernel_rfl))
    have hrow := hrow.moved (hm306.castL (by kernel_rfl))
    have hout := hout.moved (hm306.castL (by kernel_rfl))
    have hown := hown.moved (hm306.castL (by kernel_rfl))
    have hrd := hrd.moved (hm306.castL (by kernel_rfl))
    have hold := hold.moved (hm306.castL (by kernel_rfl))
    refine sim_ord_index (.v (.slice (some ⟨gc, oc, none⟩) (Uf.cls u h0).length cc)) (Uf.cls u h0).length 1 0 3 0 (by kernel_rfl) (by omega) (by omega) rfl hR306 (by simp only [Nm.at_, hag4.at_ 3 (by omega), eF]; rfl) (fun hR307 => ?_)
    refine sim_ordN 2 [] hR307 (by kernel_rfl) trivial (fun ρ308 w308 hm308 hR308 => ?_)
    have hag := hag.moved (hm308.castL (by kernel_rfl))
    have hag4 := hag4.moved (hm308.castL (by kernel_rfl))
    have hD := hD.moved (hm308.castL (by kernel_rfl))
    have hMa := hMa.moved (hm308.castL (by kernel_rfl))
    have hrw := hrw.moved (hm308.castL (by kernel_rfl))
    have hrow := hrow.moved (hm308.castL (by kernel_rfl))
    have hout := hout.moved (hm308.castL (by kernel_rfl))
    have hown := hown.moved (hm308.castL (by kernel_rfl))
    have hrd := hrd.moved (hm308.castL (by kernel_rfl))
    have hold := hold.moved (hm308.castL (by kernel_rfl))
    refine sim_ord_upd (enc := encZ) (encV := encU) (mx := .v (Value.map (some gd))) (kx := LI ((↑h0 : Int))) (vx := .agg []) (h0 : Int) () (by kernel_rfl) mis_ty kt_int hD rfl rfl rfl (.inr hgd) hR308 (fun w309 ht309 hD2 hR309 => ?_)
    have hD := hD2
    clear hD2
    have hMa := hMa.turnNe ht309 hgne
    have hrw := hrw.turnM ht309
    have hrow := hrow.turnM ht309 hgnb
    have hout := hout.turnM ht309 hgnb
    have hown := hown.turnM ht309
    have hrd := hrd.turnM ht309 hgnc
    have hold := hold.turnM ht309
    refine sim_ord_endR hR309 (by kernel_rfl) (fun hR310 => ?_)
    refine sim_run 4 [] (hR310.cast (by kernel_rfl)) (by kernel_rfl) trivial (fun ρ311 w311 hm311 hR311 => ?_)
    have hag := hag.moved (hm311.castL (by kernel_rfl))
    have hag4 := hag4.moved (hm311.castL (by kernel_rfl))
    have hD := hD.moved (hm311.castL (by kernel_rfl))
    have hMa := hMa.moved (hm311.castL (by kernel_rfl))
    have hrw := hrw.moved (hm311.castL (by kernel_rfl))
    have hrow := hrow.moved (hm311.castL (by kernel_rfl))
    have hout := hout.moved (hm311.castL (by kernel_rfl))
    have hown := hown.moved (hm311.castL (by kernel_rfl))
    have hrd := hrd.moved (hm311.castL (by kernel_rfl))
    have hold := hold.moved (hm311.castL (by kernel_rfl))
    refine sim_place (.v (.slice (some ⟨ga, oa, none⟩) (Uf.classes u).length cL)) (Uf.classes u).length 1 k 2 0 (by kernel_rfl) (by omega) (by omega) rfl (by simp only [Nm.at_, hag4.at_ 2 (by omega), e2, Nat.add_zero, Int.toNat_natCast, Nat.mul_one]) ?_
    refine sim_run 2 [] (hR311.cast (by kernel_rfl)) (by kernel_rfl) trivial (fun ρ313 w313 hm313 hR313 => ?_)
    have hag := hag.moved (hm313.castL (by kernel_rfl))
    have hag4 := hag4.moved (hm313.castL (by kernel_rfl))
    have hD := hD.moved (hm313.castL (by kernel_rfl))
    have hMa := hMa.moved (hm313.castL (by kernel_rfl))
    have hrw := hrw.moved (hm313.castL (by kernel_rfl))
    have hrow := hrow.moved (hm313.castL (by kernel_rfl))
    have hout := hout.moved (hm313.castL (by kernel_rfl))
    have hown := hown.moved (hm313.castL (by kernel_rfl))
    have hrd := hrd.moved (hm313.castL (by kernel_rfl))
    have hold := hold.moved (hm313.castL (by kernel_rfl))
    
    have hdl : done.length + 1 ≤ (Uf.heads u).length := by
      have := (hI.snoc hn0).le
      rw [List.length_append] at this
      exact this
    refine sim_appendO 38 v (.slc 4 0 1 1) (by kernel_rfl) (by assumption : Rel _ _ _ _ _) row_ty hown 4 1 1 rfl [.v (.slice (some ⟨gc, oc, none⟩) (Uf.cls u h0).length cc)] (by kernel_rfl) rfl (by kernel_rfl) (by unfold maxLen; omega) (by omega) hold.sz (fun g' hg' => .inr (by have := own_ge hown.own hg'; omega)) [2, 3] (by kernel_rfl) (fun k0 hk1 g' hg' => by
      have hgo := own_ge hown.own hg'
      simp only [List.mem_cons, List.not_mem_nil, or_false] at hk1
      rcases hk1 with rfl | rfl
      · rw [hag4.at_ 2 (by omega), e2]
        have := hgb.2
        show ga ≠ g'
        omega
      · rw [hag4.at_ 3 (by omega), eF]
        obtain ⟨_, _, _, h4⟩ := hgc
        show gc ≠ g'
        omega) (fun v' w4 hvo hgr hR4 => ?_)
    have hD := hD.grownO hown.own hgr
    have hMa := hMa.grownO hown.own hgr
    have hrw := hrw.grownO hown.own (by decide) hgr
    have hnb : ∀ x, btw B1 B2 x → v.ownBlock ≠ some x := fun x hx e => by
      have := own_ge hown.own e
      have := hx.2
      omega
    have hrow := hrow.grown hgr hnb
    have hout := (hout.outSnoc hrd hcc hcm hAc).grown hgr hnb
    have hB4 := Nat.le_trans hold.sz hgr.size
    have hold4 : OldR 0 B2 _ _ w4 := ⟨hold.lt, hold.le, hB4⟩
    clear hold hown hrd
    refine sim_run 3 [] (hR4.cast (by kernel_rfl)) (by kernel_rfl) trivial (fun ρ400 w400 hm400 hR400 => ?_)
    have hag := hag.moved (hm400.castL (by kernel_rfl))
    have hag4 := hag4.moved (hm400.castL (by kernel_rfl))
    have hvo := hvo.moved (hm400.castL (by kernel_rfl))
    have hD := hD.moved (hm400.castL (by kernel_rfl))
    have hMa := hMa.moved (hm400.castL (by kernel_rfl))
    have hrw := hrw.moved (hm400.castL (by kernel_rfl))
    have hrow := hrow.moved (hm400.castL (by kernel_rfl))
    have hout := hout.moved (hm400.castL (by kernel_rfl))
    have hold4 := hold4.moved (hm400.castL (by kernel_rfl))
    
    exact sim_again (done ++ [h0], ins (h0 : Int) () ck D, clockAfter (h0 : Int) D ck, v', vs ++ [.slice (some ⟨gc, oc, none⟩) (Uf.cls u h0).length cc]) (by kernel_rfl) (by show (Uf.heads u).length - (done ++ [h0]).length < (Uf.heads u).length - done.length; rw [List.length_append, List.length_singleton]; omega) (by kernel_rfl) (by kernel_rfl) (by kernel_rfl) hag.ag (Rel.cast (by assumption) (by kernel_rfl)) (by kernel_rfl) (by kernel_rfl) ⟨hI.snoc hn0, by dsimp only; rw [hO, List.length_append, List.length_singleton, ← Uf.ordM_step hn0]; congr 1; omega, hD.cut hag rfl (by kernel_rfl), hMa.cut hag rfl (by kernel_rfl), hrw.cut hag rfl (by kernel_rfl), fun t => by dsimp only; rw [hasK_ins, hd]; exact cont_snoc t h0 done, hrow.cut hag rfl (by kernel_rfl), by dsimp only; rw [List.map_append]; exact hout.cut hag rfl (by kernel_rfl), by dsimp only; rw [List.length_append]; exact hvo.cut hag rfl (by kernel_rfl), hold4.sz⟩
end Go.Proofs.Ytnfgndapalkbcaa
