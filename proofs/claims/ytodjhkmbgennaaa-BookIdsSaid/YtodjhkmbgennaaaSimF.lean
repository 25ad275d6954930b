/-
  The executor is right: what it comes to stands for where it began. Over any program.
-/
import Derived.Test.YtodjhkmbgennaaaSimE
namespace Go.Proofs.Ytodjhkmbgennaaa
open Go Go.RowKit

/-- how the places and the world have moved on -/
structure Moved (ρ : Nm) (rs : List Reg) (w : World) (ρ' : Nm) (rs' : List Reg) (w' : World) : Prop where
  agree : Agree rs.length ρ ρ'
  kept : Kept (wrS ρ rs) w w'
  wrs : ∀ g, wrS ρ' rs' g → wrS ρ rs g ∨ w.heap.size ≤ g
  size : rs.length ≤ rs'.length
  still : Still (OutR ρ rs) w w'
  out : ∀ g i, g < w.heap.size → OutR ρ rs g i → OutR ρ' rs' g i
  back : ∀ g i, OutR ρ' rs' g i → OutR ρ rs g i
  shape : ∀ (n : Nat) (r' : Reg), rs'[n]? = some r' → r'.wr = true → (∃ r, rs[n]? = some r ∧ r.wr = true ∧ r.cells.length = r'.cells.length) ∨ w.heap.size ≤ (ρ' n).1
theorem Moved.refl (ρ : Nm) (rs : List Reg) (w : World) : Moved ρ rs w ρ rs w := ⟨Agree.refl _ _, Kept.refl _ _, fun _ h => .inl h, Nat.le_refl _, Still.refl _ _, fun _ _ _ h => h, fun _ _ h => h, fun _ r hn hw => .inl ⟨r, hn, hw, rfl⟩⟩
theorem Moved.trans {ρ ρ' ρ'' : Nm} {rs rs' rs'' : List Reg} {w w' w'' : World} (h : Moved ρ rs w ρ' rs' w') (h' : Moved ρ' rs' w' ρ'' rs'' w'') : Moved ρ rs w ρ'' rs'' w'' :=
  ⟨h.agree.trans h'.agree h.size, h.kept.trans h'.kept h.wrs, fun g hg => (h'.wrs g hg).elim (h.wrs g) (fun hx => .inr (Nat.le_trans h.kept.size hx)), Nat.le_trans h.size h'.size, h.still.trans h'.still h.out, fun g i hg ho => h'.out g i (Nat.lt_of_lt_of_le hg h.kept.size) (h.out g i hg ho), fun g i ho => h.back g i (h'.back g i ho), fun n r hn hw => (h'.shape n r hn hw).elim (fun ⟨q, h1, h2, h3⟩ => (h.shape n q h1 h2).elim (fun ⟨q', h4, h5, h6⟩ => .inl ⟨q', h4, h5, h6.trans h3⟩) (fun h4 => .inr (by rw [h'.agree n (List.getElem?_eq_some_iff.1 h1).1]; exact h4))) (fun hx => .inr (Nat.le_trans h.kept.size hx))⟩

/-- what was read at the beginning of a region still stands -/
def Snap (ρ : Nm) (snap : List Reg) (w : World) : Prop := ∀ (n : Nat) (r : Reg), snap[n]? = some r → ∀ (i : Nat) (v : LV), r.cells[i]? = some v → w.cell? (ρ.at_ n i) = some (v.den ρ)
theorem undR_den {k : Nat} {rs : List Reg} (h : undR k rs = true) {n i : Nat} {r : Reg} {v : LV} (hn : rs[n]? = some r) (hv : r.cells[i]? = some v) : v.und k = true :=
  undL_mem (List.all_eq_true.1 h r (List.mem_of_getElem? hn)) (List.mem_of_getElem? hv)
theorem Rel.snap {T : List Nat} {w0 w : World} {ρ ρs : Nm} {rs snap : List Reg} (h : Rel T w0 ρ rs w) (hp : rs.take snap.length = snap) (ha : Agree snap.length ρs ρ) (hu : undR snap.length snap = true) : Snap ρs snap w := by
  intro n r hn i v hv
  have hl : n < snap.length := (List.getElem?_eq_some_iff.1 hn).1
  have hr : rs[n]? = some r := by
    have e := congrArg (fun l => l[n]?) hp
    simp only [List.getElem?_take, if_pos hl] at e
    rw [e]
    exact hn
  have := h.cell n r hr i v hv
  unfold Nm.at_ at *
  rw [ha n hl, LV.den_ext ha v (undR_den hu hn hv)] at this
  exact this

/-- the pairs are one, wherever the places lie that agree with these -/
def Pairs (k0 : Nat) (ρ0 : Nm) (prs : List (LV × LV)) : Prop := ∀ p ∈ prs, ∀ ρ', Agree k0 ρ0 ρ' → p.1.den ρ' = p.2.den ρ'
theorem hinted_den {hs : List Hint} {r i : Nat} {x : LV} {k0 : Nat} {ρ0 ρ : Nm} (hp : Pairs k0 ρ0 (hinted hs r i x).2) (ha : Agree k0 ρ0 ρ) : (hinted hs r i x).1.den ρ = x.den ρ := by
  unfold hinted at hp ⊢
  split at hp
  · rename_i h hf
    exact (hp (x, h.new) (List.mem_singleton.2 rfl) ρ ha).symm
  · rfl

section
variable {P : Program} {Q : Exit → Act → World → Prop} {T : List Nat} {w0 : World}
theorem putL_act {ρ ρ' : Nm} {t : List LV} (hs : act ρ' t = act ρ t) (dst : Option Tmp) (x x' : LV) (hx : x'.den ρ' = x.den ρ') : (act ρ t).put dst (x.den ρ') = act ρ' (putL t dst x') := by
  rw [← act_put ρ' t dst x', hx, hs]
theorem upon_stepped {o : Oper} {ρ ρ' : Nm} {t : List LV} {rs rs' : List Reg} {w w' : World} {x x' : LV} {K : Act → World → Prop} (h : Stepped P T w0 ρ t rs w o x rs' ρ' w') (hx : x'.den ρ' = x.den ρ') (hK : K (act ρ' (putL t o.dst x')) w') : o.wp P (act ρ t) w K Q := by
  unfold Oper.wp
  rcases h.run with h1 | ⟨h1, h2⟩
  · rw [h1]
    simp only [Oper.upon, putL_act h.same o.dst x x' hx]
    exact hK
  · rw [h1]
    simp only [Oper.upon]
    rw [← h2, putL_act h.same o.dst x x' hx]
    exact hK

theorem stepOp_prefix {o : Oper} {t : List LV} {rs rs' : List Reg} {x : LV} (h : stepOp P o t rs = some (x, rs')) (hno : ∀ ty a y, o.op ≠ .store ty a y) : rs' = rs ∨ ∃ c, rs' = rs ++ [c] := by
  unfold stepOp at h
  split at h
  · simp only [Option.some.injEq, Prod.mk.injEq] at h
    exact .inl h.2.symm
  · unfold opMem at h
    split at h
    · split at h
      · split at h
        · rename_i r _
          cases hl : loadL P _ (r.cells.drop _) with
          | none => rw [hl] at h; cases h
          | some y =>
            rw [hl] at h
            simp only [Option.map_some, Option.some.injEq, Prod.mk.injEq] at h
            exact .inl h.2.symm
        · cases h
      · cases h
    · rename_i ho
      exact absurd ho (hno _ _ _)
    · split at h
      · split at h
        · split at h
          · simp only [Option.some.injEq, Prod.mk.injEq] at h
            exact .inr ⟨_, h.2.symm⟩
          · cases h
        · cases h
      · cases h
    · split at h
      · simp only [Option.some.injEq, Prod.mk.injEq] at h
        exact .inr ⟨_, h.2.symm⟩
      · cases h
    · rename_i parts _
      cases hb : buildL P _ (parts.toList.map fun p => (p.1, evalL t p.2)) with
      | none => rw [hb] at h; cases h
      | some cs =>
        rw [hb] at h
        simp only [Option.map_some, Option.some.injEq, Prod.mk.injEq] at h
        exact .inl h.2.symm
    · split at h
      · split at h
        · simp only [Option.some.injEq, Prod.mk.injEq] at h
          exact .inr ⟨_, h.2.symm⟩
        · cases h
      · cases h
    · cases h
theorem keepOp_spec {o : Oper} {t : List LV} {rs rs' : List Reg} {x : LV} {base : Nat} (h : keepOp P o t rs base = some (x, rs')) (hb : base ≤ rs.length) : stepOp P o t rs = some (x, rs') ∧ rs'.take base = rs.take base := by
  unfold keepOp at h
  split at h
  · rename_i ty a y ho
    split at h
    · rename_i n off ha
      split at h
      · rename_i hn
        refine ⟨h, ?_⟩
        have hnb := Nat.le_of_ble_eq_true hn
        unfold stepOp at h
        split at h
        · simp only [Option.some.injEq, Prod.mk.injEq] at h
          rw [h.2]
        · simp only [opMem, ho, ha] at h
          split at h
          · split at h
            · simp only [Option.some.injEq, Prod.mk.injEq] at h
              rw [← h.2, List.take_set, List.set_eq_of_length_le (by simp; omega)]
            · cases h
          · cases h
      · cases h
    · cases h
  · rename_i hno
    refine ⟨h, ?_⟩
    rcases stepOp_prefix h (fun ty a y e => hno ty a y e) with rfl | ⟨c, rfl⟩
    · rfl
    · rw [List.take_append_of_le_length hb]

theorem quietOp_yields {o : Oper} {t : List LV} {snap : List Reg} {x : LV} (h : quietOp P o t snap = some x) {ρ ρs : Nm} (ha : Agree snap.length ρs ρ) (hu : undR snap.length snap = true) (w : World) (hS : Snap ρs snap w) :
    (execOp (act ρ t).eval o).run P w = .ok (.value (x.den ρ)) w := by
  unfold quietOp at h
  split at h
  · rename_i y hy
    simp only [Option.some.injEq] at h
    subst h
    exact opPure_run hy (act_eval ρ t) w
  · split at h
    · rename_i ty a ho
      split at h
      · rename_i n off hev
        split at h
        · rename_i r hr
          have := loadL_run h (ρ := ρ) (n := n) (o := off) (w := w) (fun j v hv => by
            rw [List.getElem?_drop] at hv
            have h1 := hS n r hr _ v hv
            have hl : n < snap.length := (List.getElem?_eq_some_iff.1 hr).1
            unfold Nm.at_ at *
            rw [ha n hl, LV.den_ext ha v (undR_den hu hr hv)]
            exact h1)
          unfold execOp
          simp only [ho, act_eval, hev, LV.den, Sem.run_bind, this, Result.andThen_ok, Sem.run_pure]
        · cases h
      · cases h
    · rename_i ty parts ho
      cases hb : buildL P ty (parts.toList.map fun p => (p.1, evalL t p.2)) with
      | none => rw [hb] at h; cases h
      | some cs =>
        rw [hb] at h
        simp only [Option.map_some, Option.some.injEq] at h
        subst h
        have := run_build (P := P) w ty (denP ρ (parts.toList.map fun p => (p.1, evalL t p.2))).toArray _ (buildL_built hb ρ)
        unfold execOp
        simp only [ho, denP_eq, Sem.run_bind, this, Result.andThen_ok, Sem.run_pure, LV.den]
    · cases h

theorem ordStep_sound {hs : List Hint} {id : Nat} {ops : Array Oper} {u : Option Nat} {snap : List Reg} {p : Nat × Bool} {d : Bool} {t t' : List LV} {rs rs' : List Reg} {prs : List (LV × LV)} {r : List (Nat × Bool)} {ρ ρs ρ0 : Nm} {k0 : Nat} {w : World}
    (h : ordStep P hs id ops u snap p d t rs = some (t', rs', prs)) (hp : Pairs k0 ρ0 prs) (h0 : Agree k0 ρ0 ρ) (hk : k0 ≤ rs.length) (hR : Rel T w0 ρ rs w) (ha : Agree snap.length ρs ρ) (hu : undR snap.length snap = true)
    (hb : snap.length ≤ rs.length) (hpre : d = false → rs.take snap.length = snap)
    (next : ∀ ρ' w', Moved ρ rs w ρ' rs' w' → Rel T w0 ρ' rs' w' → (nextD u p d = false → rs'.take snap.length = snap) → wpOrdU P ops Q u (Snap ρs snap) r (nextD u p d) (act ρ' t') w') :
    wpOrdU P ops Q u (Snap ρs snap) (p :: r) d (act ρ t) w := by
  obtain ⟨i, b⟩ := p
  unfold ordStep at h
  simp only at h
  split at h
  · cases h
  · rename_i o ho
    split at h
    · cases h
    · rename_i hw
      simp only [Option.some.injEq, Prod.mk.injEq] at h
      obtain ⟨rfl, rfl, rfl⟩ := h
      have hw' := wantL_spec hw ρ
      cases b with
      | false =>
        refine ⟨o, undef, ho, .inr ⟨hw', rfl⟩, ?_⟩
        have := next ρ w (Moved.refl _ _ _) hR hpre
        rw [← act_put ρ t o.dst (.v undef)] at this
        exact this
      | true =>
        show wpOp P ops Q i _ (act ρ t) w
        unfold wpOp
        simp only [ho, hw', Bool.false_eq_true, if_false]
        have hpre' : nextD u (i, true) d = false → rs.take snap.length = snap := by
          intro hd
          simp only [nextD, Bool.or_eq_false_iff] at hd
          exact hpre hd.1
        have := next ρ w (Moved.refl _ _ _) hR hpre'
        rw [← act_put ρ t o.dst (.v undef)] at this
        exact ⟨fun hd => hR.snap (hpre' hd) ha hu, this⟩
    · rename_i hw
      have hw' := wantL_spec hw ρ
      cases b with
      | false =>
        simp only at h
        split at h
        · rename_i x hx
          simp only [Option.some.injEq, Prod.mk.injEq] at h
          obtain ⟨rfl, rfl, rfl⟩ := h
          have hd := hinted_den hp h0
          refine ⟨o, x.den ρ, ho, .inl ⟨hw', fun w hS => quietOp_yields hx ha hu w hS⟩, ?_⟩
          rw [putL_act rfl o.dst x _ hd]
          exact next ρ w (Moved.refl _ _ _) hR hpre
        · cases h
      | true =>
        simp only at h
        split at h
        · rename_i x rs2 hx
          simp only [Option.some.injEq, Prod.mk.injEq] at h
          obtain ⟨rfl, rfl, rfl⟩ := h
          show wpOp P ops Q i _ (act ρ t) w
          unfold wpOp
          simp only [ho, hw', if_true]
          left
          have hst : stepOp P o t rs = some (x, rs2) ∧ (nextD u (i, true) d = false → rs2.take snap.length = snap) := by
            have e : nextD u (i, true) d = (d || u == some i) := rfl
            rw [e]
            cases hdd : (d || u == some i) with
            | true =>
              rw [hdd] at hx
              exact ⟨hx, fun hc => by cases hc⟩
            | false =>
              rw [hdd] at hx
              obtain ⟨h1, h2⟩ := keepOp_spec hx hb
              refine ⟨h1, fun _ => ?_⟩
              rw [h2]
              simp only [Bool.or_eq_false_iff] at hdd
              exact hpre hdd.1
          obtain ⟨ρ', w', hS⟩ := stepOp_run hst.1 hR
          have hd := hinted_den hp (h0.trans hS.agree hk)
          refine upon_stepped hS hd ⟨fun hc => hS.rel.snap (hst.2 hc) (ha.trans hS.agree hb) hu, next ρ' w' ⟨hS.agree, hS.kept, hS.wrs, hS.size, hS.stl, hS.out, hS.back, hS.shape⟩ hS.rel hst.2⟩
        · cases h

theorem ordRun_sound {hs : List Hint} {id : Nat} {ops : Array Oper} {u : Option Nat} {snap : List Reg} {ρs ρ0 : Nm} {k0 : Nat} (hu : undR snap.length snap = true) :
    ∀ (r : List (Nat × Bool)) (d : Bool) (t t' : List LV) (rs rs' : List Reg) (prs : List (LV × LV)) (ρ : Nm) (w : World),
    ordRun P hs id ops u snap r d t rs = some (t', rs', prs) → Pairs k0 ρ0 prs → Agree k0 ρ0 ρ → k0 ≤ rs.length → Rel T w0 ρ rs w → Agree snap.length ρs ρ → snap.length ≤ rs.length → (d = false → rs.take snap.length = snap) →
    (∀ ρ' w', Moved ρ rs w ρ' rs' w' → Rel T w0 ρ' rs' w' → Q .normal (act ρ' t') w') → wpOrdU P ops Q u (Snap ρs snap) r d (act ρ t) w
  | [], d, t, t', rs, rs', prs, ρ, w, h, _, _, _, hR, _, _, _, next => by
    simp only [ordRun, Option.some.injEq, Prod.mk.injEq] at h
    obtain ⟨rfl, rfl, rfl⟩ := h
    exact next ρ w (Moved.refl _ _ _) hR
  | p :: r, d, t, t', rs, rs', prs, ρ, w, h, hp, h0, hk, hR, ha, hb, hpre, next => by
    simp only [ordRun] at h
    split at h
    · rename_i t1 rs1 prs1 h1
      rw [spine_eq] at h
      split at h
      · rename_i t2 rs2 prs2 h2
        simp only [Option.some.injEq, Prod.mk.injEq] at h
        obtain ⟨rfl, rfl, rfl⟩ := h
        refine ordStep_sound h1 (fun q hq => hp q (List.mem_append_left _ hq)) h0 hk hR ha hu hb hpre (fun ρ' w' hm hR' hpre' => ?_)
        exact ordRun_sound hu r _ t1 t2 rs1 rs2 prs2 ρ' w' h2 (fun q hq => hp q (List.mem_append_right _ hq)) (h0.trans hm.agree hk) (Nat.le_trans hk hm.size) hR' (ha.trans hm.agree hb) (Nat.le_trans hb hm.size) hpre'
          (fun ρ'' w'' hm' hR'' => next ρ'' w'' (hm.trans hm') hR'')
      · cases h
    · cases h

theorem drawOk_spec {ops : Array Oper} {ord : List (Nat × Bool)} {u : Option Nat} (h : drawOk P ops ord u = true) {S : World → Prop} {id : Nat} {a : Act} {w : World} (hQ : ∀ c a d v w, Q (.panic c) (Act.put a d v) w → Q (.panic c) a w) (hS : S w.drew)
    (hn : wpOrdU P ops Q u S ord false a w.drew) : (Code.region id ops true).wp P Q a w := by
  unfold drawOk at h
  simp only [Bool.and_eq_true] at h
  obtain ⟨h1, h2, h3, h4, h5, h6, h7⟩ := h
  exact wp_region_U ord u _ S h1 h2 (ordMask_fast h3) (hasMask_all h4) h5 h6 h7 hQ hS hn

theorem ordGo_sound {hs : List Hint} {id : Nat} {ops : Array Oper} {u : Option Nat} {snap : List Reg} {ρs ρ0 : Nm} {k0 : Nat} (hu : undR snap.length snap = true) :
    ∀ (r : List (Nat × Bool)) (d : Bool) (t : List LV) (rs : List Reg) (r' : List (Nat × Bool)) (d' : Bool) (t' : List LV) (rs' : List Reg) (prs : List (LV × LV)) (ρ : Nm) (w : World),
    ordGo P hs id ops u snap r d t rs = ((r', d', t', rs'), prs) → Pairs k0 ρ0 prs → Agree k0 ρ0 ρ → k0 ≤ rs.length → Rel T w0 ρ rs w → Agree snap.length ρs ρ → snap.length ≤ rs.length → (d = false → rs.take snap.length = snap) →
    (∀ ρ' w', Moved ρ rs w ρ' rs' w' → Rel T w0 ρ' rs' w' → Agree snap.length ρs ρ' → (d' = false → rs'.take snap.length = snap) → wpOrdU P ops Q u (Snap ρs snap) r' d' (act ρ' t') w') → wpOrdU P ops Q u (Snap ρs snap) r d (act ρ t) w
  | [], d, t, rs, r', d', t', rs', prs, ρ, w, h, _, _, _, hR, ha, _, hpre, next => by
    simp only [ordGo, Prod.mk.injEq] at h
    obtain ⟨⟨rfl, rfl, rfl, rfl⟩, rfl⟩ := h
    exact next ρ w (Moved.refl _ _ _) hR ha hpre
  | p :: r, d, t, rs, r', d', t', rs', prs, ρ, w, h, hp, h0, hk, hR, ha, hb, hpre, next => by
    simp only [ordGo] at h
    split at h
    · rename_i t1 rs1 prs1 h1
      rw [spine_eq] at h
      generalize h2 : ordGo P hs id ops u snap r (nextD u p d) t1 rs1 = q at h
      obtain ⟨⟨r2, d2, t2, rs2⟩, prs2⟩ := q
      simp only [Prod.mk.injEq] at h
      obtain ⟨⟨rfl, rfl, rfl, rfl⟩, rfl⟩ := h
      refine ordStep_sound h1 (fun q hq => hp q (List.mem_append_left _ hq)) h0 hk hR ha hu hb hpre (fun ρ' w' hm hR' hpre' => ?_)
      exact ordGo_sound hu r _ t1 rs1 _ _ _ _ prs2 ρ' w' h2 (fun q hq => hp q (List.mem_append_right _ hq)) (h0.trans hm.agree hk) (Nat.le_trans hk hm.size) hR' (ha.trans hm.agree hb) (Nat.le_trans hb hm.size) hpre'
        (fun ρ'' w'' hm' hR'' => next ρ'' w'' (hm.trans hm') hR'')
    · simp only [Prod.mk.injEq] at h
      obtain ⟨⟨rfl, rfl, rfl, rfl⟩, rfl⟩ := h
      exact next ρ w (Moved.refl _ _ _) hR ha hpre

/-- a panic's post does not look at the temporaries -/
def PanicFree (Q : Exit → Act → World → Prop) : Prop := ∀ c a d v w, Q (.panic c) (Act.put a d v) w → Q (.panic c) a w
theorem PanicFree.post (h : PanicFree Q) (k : List It) : PanicFree (post P Q k) := fun c a d v w hp => (post_panic k).2 (h c a d v w ((post_panic k).1 hp))

theorem drawRun_sound (hQ : PanicFree Q) {hs : List Hint} {id : Nat} {ops : Array Oper} {ord : List (Nat × Bool)} {u : Option Nat} {t t' : List LV} {rs rs' : List Reg} {prs : List (LV × LV)} {ρ ρ0 : Nm} {k0 : Nat} {w : World}
    (h : drawRun P hs id ops ord u t rs = some (t', rs', prs)) (hp : Pairs k0 ρ0 prs) (h0 : Agree k0 ρ0 ρ) (hk : k0 ≤ rs.length) (hR : Rel T w0 ρ rs w) (next : ∀ ρ' w', Moved ρ rs w ρ' rs' w' → Rel T w0 ρ' rs' w' → Q .normal (act ρ' t') w') :
    (Code.region id ops true).wp P Q (act ρ t) w := by
  unfold drawRun at h
  split at h
  · rename_i hc
    simp only [Bool.and_eq_true] at hc
    have hpre : rs.take rs.length = rs := List.take_length
    have hR' := hR.drew
    refine drawOk_spec (S := Snap ρ rs) hc.1 hQ (hR'.snap hpre (Agree.refl _ _) hc.2) ?_
    refine ordRun_sound hc.2 ord false t t' rs rs' prs ρ w.drew h hp h0 hk hR' (Agree.refl _ _) (Nat.le_refl _) (fun _ => hpre) (fun ρ' w' hm hR'' => next ρ' w' ?_ hR'')
    exact (⟨Agree.refl _ _, Kept.drew w _, fun _ h => .inl h, Nat.le_refl _, Still.of_blocks (fun _ _ => rfl), fun _ _ _ h => h, fun _ _ h => h, fun _ r hn hw => .inl ⟨r, hn, hw, rfl⟩⟩ : Moved ρ rs w ρ rs w.drew).trans hm
  · cases h

theorem step1_sound (hQ : PanicFree Q) {hs : List Hint} {c c' : Cfg} {prs : List (LV × LV)} {ρ ρ0 : Nm} {k0 : Nat} {w : World} (h : step1 P hs c = some (c', prs)) (hp : Pairs k0 ρ0 prs) (h0 : Agree k0 ρ0 ρ) (hk : k0 ≤ c.rs.length) (hR : Rel T w0 ρ c.rs w)
    (next : ∀ ρ' w', Moved ρ c.rs w ρ' c'.rs w' → Rel T w0 ρ' c'.rs w' → post P Q c'.k .normal (act ρ' c'.tmps) w') : post P Q c.k .normal (act ρ c.tmps) w := by
  obtain ⟨k, t, rs⟩ := c
  simp only at hR next hk ⊢
  unfold step1 at h
  split at h
  · cases h
  · rename_i heq
    simp only [Cfg.mk.injEq] at heq
    obtain ⟨rfl, rfl, rfl⟩ := heq
    simp only [Option.some.injEq, Prod.mk.injEq] at h
    obtain ⟨rfl, rfl⟩ := h
    exact next ρ w (Moved.refl _ _ _) hR
  · rename_i cd k t rs heq
    simp only [Cfg.mk.injEq] at heq
    obtain ⟨rfl, rfl, rfl⟩ := heq
    show cd.wp P (post P Q k) (act ρ t) w
    split at h
    · simp only [Option.some.injEq, Prod.mk.injEq] at h
      obtain ⟨rfl, rfl⟩ := h
      exact wp_skip (next ρ w (Moved.refl _ _ _) hR)
    · simp only [Option.some.injEq, Prod.mk.injEq] at h
      obtain ⟨rfl, rfl⟩ := h
      exact wp_label (next ρ w (Moved.refl _ _ _) hR)
    · simp only [Option.some.injEq, Prod.mk.injEq] at h
      obtain ⟨rfl, rfl⟩ := h
      exact wp_seq (next ρ w (Moved.refl _ _ _) hR)
    · split at h
      · rename_i hc
        simp only [Option.some.injEq, Prod.mk.injEq] at h
        obtain ⟨rfl, rfl⟩ := h
        exact wp_cond_true (by rw [act_eval, hc]; rfl) (next ρ w (Moved.refl _ _ _) hR)
      · rename_i hc
        simp only [Option.some.injEq, Prod.mk.injEq] at h
        obtain ⟨rfl, rfl⟩ := h
        exact wp_cond_false (by rw [act_eval, hc]; rfl) (next ρ w (Moved.refl _ _ _) hR)
      · cases h
    · simp only [Option.some.injEq, Prod.mk.injEq] at h
      obtain ⟨rfl, rfl⟩ := h
      exact wp_block (next ρ w (Moved.refl _ _ _) hR)
    · split at h
      · rename_i k' hk'
        simp only [Option.some.injEq, Prod.mk.injEq] at h
        obtain ⟨rfl, rfl⟩ := h
        exact wp_exit (post_exit hk' (next ρ w (Moved.refl _ _ _) hR))
      · cases h
    · simp only [Option.some.injEq, Prod.mk.injEq] at h
      obtain ⟨rfl, rfl⟩ := h
      exact wp_region_list (next ρ w (Moved.refl _ _ _) hR)
    · split at h
      · rename_i hd
        simp only [Option.some.injEq, Prod.mk.injEq] at h
        obtain ⟨rfl, rfl⟩ := h
        exact drawRun_sound (hQ.post k) hd hp h0 hk hR next
      · cases h
    · cases h
  · rename_i n cd k t rs heq
    simp only [Cfg.mk.injEq] at heq
    obtain ⟨rfl, rfl, rfl⟩ := heq
    split at h
    · cases h
    · simp only [Option.some.injEq, Prod.mk.injEq] at h
      obtain ⟨rfl, rfl⟩ := h
      exact next ρ w (Moved.refl _ _ _) hR
  · rename_i heq
    simp only [Cfg.mk.injEq] at heq
    obtain ⟨rfl, rfl, rfl⟩ := heq
    simp only [Option.some.injEq, Prod.mk.injEq] at h
    obtain ⟨rfl, rfl⟩ := h
    exact next ρ w (Moved.refl _ _ _) hR
  · rename_i id ops i o rest k t rs heq
    simp only [Cfg.mk.injEq] at heq
    obtain ⟨rfl, rfl, rfl⟩ := heq
    show wpList P ops (post P Q k) (o :: rest) (act ρ t) w
    unfold wpList
    split at h
    · rename_i hw
      rw [wantL_spec hw ρ, if_pos rfl]
      left
      split at h
      · rename_i x rs' hx
        simp only [Option.some.injEq, Prod.mk.injEq] at h
        obtain ⟨rfl, rfl⟩ := h
        obtain ⟨ρ', w', hS⟩ := stepOp_run hx hR
        have hd := hinted_den hp (h0.trans hS.agree hk)
        exact upon_stepped hS hd (next ρ' w' ⟨hS.agree, hS.kept, hS.wrs, hS.size, hS.stl, hS.out, hS.back, hS.shape⟩ hS.rel)
      · cases h
    · rename_i hw
      rw [wantL_spec hw ρ, if_neg (by simp)]
      simp only [Option.some.injEq, Prod.mk.injEq] at h
      obtain ⟨rfl, rfl⟩ := h
      have := next ρ w (Moved.refl _ _ _) hR
      show wpList P ops (post P Q k) rest ((act ρ t).put o.dst ((LV.v undef).den ρ)) w
      rw [act_put]
      exact this
    · cases h

theorem run_sound (hQ : PanicFree Q) {hs : List Hint} {ρ0 : Nm} {k0 : Nat} : ∀ (n : Nat) (c c' : Cfg) (prs : List (LV × LV)) (ρ : Nm) (w : World), run P hs n c = (c', prs) → Pairs k0 ρ0 prs → Agree k0 ρ0 ρ → k0 ≤ c.rs.length → Rel T w0 ρ c.rs w →
    (∀ ρ' w', Moved ρ c.rs w ρ' c'.rs w' → Rel T w0 ρ' c'.rs w' → post P Q c'.k .normal (act ρ' c'.tmps) w') → post P Q c.k .normal (act ρ c.tmps) w
  | 0, c, c', prs, ρ, w, h, _, _, _, hR, next => by
    simp only [run, Prod.mk.injEq] at h
    obtain ⟨rfl, rfl⟩ := h
    exact next ρ w (Moved.refl _ _ _) hR
  | n + 1, c, c', prs, ρ, w, h, hp, h0, hk, hR, next => by
    simp only [run] at h
    split at h
    · simp only [Prod.mk.injEq] at h
      obtain ⟨rfl, rfl⟩ := h
      exact next ρ w (Moved.refl _ _ _) hR
    · rename_i k t rs prs1 h1
      rw [spine_eq, spine_eq] at h
      simp only [Prod.mk.injEq] at h
      obtain ⟨rfl, rfl⟩ := h
      refine step1_sound hQ h1 (fun q hq => hp q (List.mem_append_left _ hq)) h0 hk hR (fun ρ' w' hm hR' => ?_)
      exact run_sound hQ n ⟨k, t, rs⟩ _ _ ρ' w' rfl (fun q hq => hp q (List.mem_append_right _ hq)) (h0.trans hm.agree hk) (Nat.le_trans hk hm.size) hR' (fun ρ'' w'' hm' hR'' => next ρ'' w'' (hm.trans hm') hR'')
end
end Go.Proofs.Ytodjhkmbgennaaa
