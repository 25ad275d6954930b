/-
  The box of lists: Apart, when rows of ints alone are kept.
-/
import Derived.Test.YtedfbdeklepekaaGreatBkA
import Derived.Test.YtedfbdeklepekaaGreatBkE
import Derived.Test.YtedfbdeklepekaaGreatBkI6
namespace Go.Proofs.YtedfbdeklepekaaGreat
open Go Go.RowKit
/-- the box's cells: rows of ints alone -/
def bxI (s : KSt) : Nat → Value := setI (fun _ => nilS) s.vL s.vW
structure BookI (b : Nat) (s : KSt) (w : World) : Prop where
  blk : Blk w b 56 (bkC (bxI s)).toArray
  ki : KI 31 3 1 s w
theorem KI.kept {to et : TypeId} {sz : Nat} {s : KSt} {w w' : World} {S : Nat → Prop} (h : KI to et sz s w) (hk : Kept S w w') (hn : ∀ y, s.has y → ¬ S y) : KI to et sz s w' :=
  ⟨own_kept h.list hk fun g hg => hn g (.inl hg), own_kept h.copies hk fun g hg => hn g (.inr (.inl hg)), fun r hr => own_kept (h.rows r hr) hk fun g hg => hn g (.inr (.inr ⟨r, .inl hr, hg⟩)), fun r hr => own_kept (h.was r hr) hk fun g hg => hn g (.inr (.inr ⟨r, .inr hr, hg⟩))⟩
theorem BookI.kept {b : Nat} {s : KSt} {w w' : World} {S : Nat → Prop} (h : BookI b s w) (hk : Kept S w w') (hb : ¬ S b) (hn : ∀ y, s.has y → ¬ S y) : BookI b s w' := ⟨h.blk.kept hk hb, h.ki.kept hk hn⟩
theorem BookI.below {b : Nat} {s : KSt} {w w' : World} (h : BookI b s w) (hb : Below w.heap.size w w') : BookI b s w' := h.kept (Kept.of_below (fun _ => False) hb) (fun h => h) (fun _ _ h => h)
theorem KI.lt {to et : TypeId} {sz : Nat} {s : KSt} {w : World} (h : KI to et sz s w) (y : Nat) (hy : s.has y) : y < w.heap.size := by
  rcases hy with h1 | h1 | ⟨r, h1 | h1, h2⟩
  · exact own_lt h.list h1
  · exact own_lt h.copies h1
  · exact own_lt (h.rows r h1) h2
  · exact own_lt (h.was r h1) h2
structure VB (b : Nat) (s : KSt) (w : World) : Prop where
  blk : Blk w b 56 (bkC (bxI s)).toArray
  rows : ∃ rows, SameV s.rows rows ∧ Mkd rows ∧ w.ownsRow 0 31 1 s.vL s.rows.length (rows.map BRow.v) ∧ ∀ r ∈ rows, w.ownsRow 0 3 1 r.v r.n r.xs
theorem own_bel {w w' : World} {B : Nat} {e : TypeId} {sz n : Nat} {v : Value} {xs : List Value} (h : w.ownsRow B e sz v n xs) (hb : Below w.heap.size w w') : w'.ownsRow B e sz v n xs := own_kept h (Kept.of_below (fun _ => False) hb) (fun _ _ h => h)
theorem blk_bel {w w' : World} {b : Nat} {t : TypeId} {cs : Array Value} (h : Blk w b t cs) (hb : Below w.heap.size w w') : Blk w' b t cs := h.kept (Kept.of_below (fun _ => False) hb) (fun h => h)
theorem VB.below {b : Nat} {s : KSt} (w w' : World) (h : VB b s w) (hb : Below w.heap.size w w') : VB b s w' := by
  obtain ⟨h1, rows, h2, h3, h4, h5⟩ := h
  exact ⟨blk_bel h1 hb, rows, h2, h3, own_bel h4 hb, fun r hr => own_bel (h5 r hr) hb⟩
structure VC (b : Nat) (s : KSt) (v : Value) (w : World) : Prop where
  vb : VB b s w
  rows : ∃ Ao co G, v = .slice Ao s.rows.length co ∧ G.length = s.rows.length ∧ Mkd G ∧ w.ownsRow 0 31 1 (.slice Ao s.rows.length co) s.rows.length (G.map BRow.v) ∧ ∀ r ∈ G, w.ownsRow 0 3 1 r.v r.n r.xs
theorem VC.below {b : Nat} {s : KSt} {v : Value} (w w' : World) (h : VC b s v w) (hb : Below w.heap.size w w') : VC b s v w' := by
  obtain ⟨h1, Ao, co, G, h2, h3, h4, h5, h6⟩ := h
  exact ⟨h1.below _ _ hb, Ao, co, G, h2, h3, h4, own_bel h5 hb, fun r hr => own_bel (h6 r hr) hb⟩
def VI (b : Nat) (s : KSt) (n : Nat) (w : World) : Prop := if n ≤ 5 then BookI b s w else VB b s w
theorem VI.below {b : Nat} {s : KSt} (n : Nat) (w w' : World) (h : VI b s n w) (hb : Below w.heap.size w w') : VI b s n w' := by
  unfold VI at h ⊢
  split
  · rename_i h1
    rw [if_pos h1] at h
    exact h.below hb
  · rename_i h1
    rw [if_neg h1] at h
    exact h.below _ _ hb
def VJ (b : Nat) (s : KSt) (n : Nat) (vs : List Value) (w : World) : Prop := (if n ≤ 18 then VB b s w ∧ vs.getD 1 nilS = nilS else VC b s (vs.getD 1 nilS) w) ∧ ∀ j, j ≠ 1 → vs.getD j nilS = nilS
theorem VJ.below {b : Nat} {s : KSt} (n : Nat) (vs : List Value) (w w' : World) (h : VJ b s n vs w) (hb : Below w.heap.size w w') : VJ b s n vs w' := by
  obtain ⟨h, hn⟩ := h
  refine ⟨?_, hn⟩
  split
  · rename_i h1
    rw [if_pos h1] at h
    exact ⟨h.1.below _ _ hb, h.2⟩
  · rename_i h1
    rw [if_neg h1] at h
    exact h.below _ _ hb
theorem getD_snoc_nil (vs : List Value) (k : Nat) : (vs ++ [nilS]).getD k nilS = vs.getD k nilS := by
  rw [List.getD_eq_getElem?_getD, List.getD_eq_getElem?_getD]
  rcases Nat.lt_trichotomy k vs.length with h | h | h
  · rw [List.getElem?_append_left h]
  · subst h
    rw [List.getElem?_append_right (Nat.le_refl _), Nat.sub_self, List.getElem?_eq_none (Nat.le_refl vs.length)]
    rfl
  · rw [List.getElem?_eq_none (by simp; omega), List.getElem?_eq_none (by omega)]
theorem nilStep {P : Program} {f : FuncId} {args : Array Value} {w : World} {a : Value} {W : World → Prop} {T : List Nat} (hW : W w) (hcl : ∀ w w', W w → Below w.heap.size w w' → W w') (h : Calls P f args w fun e w' => e = .returned a ∧ Below w.heap.size w w') : Calls P f args w fun e w' => e = .returned a ∧ W w' ∧ Kept (· ∈ T) w w' :=
  h.mono fun _ _ ⟨h1, h2⟩ => ⟨h1, hcl _ _ hW h2, Kept.of_below _ h2⟩
theorem nilGrow {P : Program} {f : FuncId} {args : Array Value} {w : World} {b : Nat} {s : KSt} {T : List Nat} {n n' : Nat} {vs : List Value} (hW : VJ b s n vs w) (hn : n' = n + 1) (h18 : n ≠ 18) (h : Calls P f args w fun e w' => e = .returned nilS ∧ Below w.heap.size w w') : Calls P f args w fun e w' => ∃ v, e = .returned v ∧ VJ b s n' (vs ++ [v]) w' ∧ Kept (· ∈ T) w w' := by
  subst hn
  refine h.mono fun _ _ ⟨h1, h2⟩ => ⟨nilS, h1, ?_, Kept.of_below _ h2⟩
  have h3 := VJ.below _ _ _ _ hW h2
  unfold VJ at h3 ⊢
  simp only [getD_snoc_nil]
  refine ⟨?_, h3.2⟩
  split
  · rw [if_pos (by omega)] at h3
    exact h3.1
  · rw [if_neg (by omega)] at h3
    exact h3.1
theorem kept_rowT {rows : List BRow} {w w' : World} (h : Kept (fun y => ∃ r ∈ rows, r.v.ownBlock = some y) w w') : Kept (· ∈ rowT rows) w w' := h.mono fun _ hx => .inl (mem_rowT.2 hx)
theorem rows_ne {rows : List BRow} {w : World} {b : Nat} {t : TypeId} {cs : Array Value} (hb : Blk w b t cs) (hr : ∀ r ∈ rows, w.ownsRow 0 3 1 r.v r.n r.xs) (hne : 3 ≠ t) : ¬ ∃ r ∈ rows, r.v.ownBlock = some b := fun ⟨r, h1, h2⟩ => own_blk_ne (hr r h1) hb hne h2
theorem SameV.bound {rows rows' : List BRow} (h : SameV rows rows') (hi : ∀ r ∈ rows, IRw r) : ∀ r ∈ rows', r.n ≤ 100000 := fun r hr => by
  obtain ⟨q, hq, _, h2⟩ := h.mem hr
  obtain ⟨l, _, h3, h4⟩ := hi q hq
  omega
theorem SameV.apart {rows rows' : List BRow} (h : SameV rows rows') (ha : rows.Pairwise fun a b => ∀ g, a.v.ownBlock = some g → b.v.ownBlock ≠ some g) : rows'.Pairwise fun a b => ∀ g, a.v.ownBlock = some g → b.v.ownBlock ≠ some g := by
  have h1 : (rows'.map BRow.v).Pairwise fun a b => ∀ g, a.ownBlock = some g → b.ownBlock ≠ some g := by
    rw [h.mapv]
    exact List.pairwise_map.2 ha
  exact List.pairwise_map.1 h1
theorem SameV.blocks {rows rows' : List BRow} (h : SameV rows rows') {y : Nat} (hy : ∃ r ∈ rows', r.v.ownBlock = some y) : ∃ r ∈ rows, r.v.ownBlock = some y := by
  obtain ⟨r, hr, h1⟩ := hy
  obtain ⟨q, hq, h2, _⟩ := h.mem hr
  exact ⟨q, hq, by rw [h2]; exact h1⟩
section
variable {b : Nat} {s : KSt} {w : World}
theorem put_step (hg : KG IRw s) (h : BookI b s w) : Calls Tryz.prog 86 #[.pointer (some ⟨b, 0, none⟩)] w fun e w' => e = .returned (.tuple #[]) ∧ VB b s w' ∧ Kept (· ∈ rowT s.rows) w w' := by
  obtain ⟨A, c, hv⟩ := own_row' h.ki.list
  have hL := h.ki.list
  rw [hv] at hL
  refine (putI_any (bxI s) b s.vW s.rows A s.rows.length c w h.blk hv rfl hL h.ki.rows hg.ok hg.ap rfl hg.few).mono ?_
  rintro e w' ⟨rfl, rows', h1, h2, h3, h4, h5⟩
  exact ⟨rfl, ⟨h.blk.kept h5 (rows_ne h.blk h.ki.rows (by decide)), rows', h1, h2, by rw [hv]; exact h4, h3⟩, kept_rowT h5⟩
theorem grow_step (hg : KG IRw s) {vs : List Value} (hl : vs.length = 1) (h : VJ b s 18 vs w) : Calls Tryz.prog 99 #[.pointer (some ⟨b, 0, none⟩)] w fun e w' => ∃ v, e = .returned v ∧ VJ b s 19 (vs ++ [v]) w' ∧ Kept (· ∈ rowT s.rows) w w' := by
  obtain ⟨⟨⟨hb, rows, h1, h2, h3, h4⟩, _⟩, h5⟩ := h
  obtain ⟨A, c, hv⟩ := own_row' h3
  have hL := h3
  rw [hv] at hL
  have hx : bxI s 2 = .slice A s.rows.length c := hv
  refine (growI_any (bxI s) b s.vW rows A s.rows.length c w hb hx rfl hL h4 h2 (h1.bound hg.ok) (h1.apart hg.ap) h1.len.symm hg.few).mono ?_
  rintro e w' ⟨Ao, co, G, rfl, g1, g2, g3, g4, g5, g6, g7⟩
  have hk : Kept (fun y => ∃ r ∈ s.rows, r.v.ownBlock = some y) w w' := g7.mono fun _ hy => .inl (h1.blocks hy)
  refine ⟨_, rfl, ⟨?_, fun j hj => ?_⟩, kept_rowT hk⟩
  · rw [if_neg (by decide)]
    have e1 : (vs ++ [Value.slice Ao s.rows.length co]).getD 1 nilS = .slice Ao s.rows.length co := by
      rw [List.getD_eq_getElem?_getD, List.getElem?_append_right (by omega), hl]
      rfl
    rw [e1]
    exact ⟨⟨hb.kept g7 (rows_ne hb h4 (by decide)), rows, h1, h2, by rw [hv]; exact g6, g5⟩, Ao, co, G, rfl, g1, g2, g3, g4⟩
  · have h6 := h5 j hj
    rw [List.getD_eq_getElem?_getD] at h6 ⊢
    rcases Nat.lt_or_ge j 1 with h7 | h7
    · rw [List.getElem?_append_left (by omega)]
      exact h6
    · rw [List.getElem?_eq_none (by simp; omega)]
      rfl
theorem mark_step {v : Value} (hg : KG IRw s) (h : VC b s v w) : Calls Tryz.prog 116 #[v] w fun e w' => e = .returned (.bool true) ∧ Below w.heap.size w w' := by
  obtain ⟨_, Ao, co, G, rfl, h3, h4, h5, h6⟩ := h
  exact markedI_any Ao s.rows.length co G w h5 h6 h4 h3.symm hg.few
theorem markL_step {v : Value} (hg : KG IRw s) (h : VC b s v w) : Calls Tryz.prog 116 #[bxI s 2] w fun e w' => e = .returned (.bool true) ∧ Below w.heap.size w w' := by
  obtain ⟨⟨_, rows, h1, h2, h3, h4⟩, _⟩ := h
  obtain ⟨A, c, hv⟩ := own_row' h3
  have hx : bxI s 2 = .slice A s.rows.length c := hv
  rw [hv] at h3
  rw [hx]
  exact markedI_any A s.rows.length c rows w h3 h4 h2 h1.len.symm hg.few
/-- rows of ints that are kept: Apart answers true -/
theorem apartI (h : BookI b s w) (hg : KG IRw s) : Calls Tryz.prog 26 #[.pointer (some ⟨b, 0, none⟩)] w fun e w' => e = .returned (.bool true) ∧ Kept (· ∈ rowT s.rows) w w' := by
  have hbT : b ∉ rowT s.rows := fun hm => rows_ne h.blk h.ki.rows (by decide) (mem_rowT.1 hm)
  refine apart_a (x := bxI s) (W := BookI b s) (T := rowT s.rows) (fun _ _ h hb => h.below hb) hbT
    (fun hW => nilStep hW (fun _ _ h hb => h.below hb) (stillTexts_nil (bxI s) b _ hW.blk rfl))
    (fun hW => nilStep hW (fun _ _ h hb => h.below hb) (stillI_any (bxI s) b s _ hW.blk rfl rfl hW.ki hg))
    (fun hW => nilStep hW (fun _ _ h hb => h.below hb) (stillKeys_nil (bxI s) b _ hW.blk rfl))
    (fun hW => nilStep hW (fun _ _ h hb => h.below hb) (stillPostings_nil (bxI s) b _ hW.blk rfl))
    (fun hW => nilStep hW (fun _ _ h hb => h.below hb) (stillParties_nil (bxI s) b _ hW.blk rfl))
    (fun hW => nilStep hW (fun _ _ h hb => h.below hb) (stillAccounts_nil (bxI s) b _ hW.blk rfl))
    (fun hW => nilStep hW (fun _ _ h hb => h.below hb) (stillAssets_nil (bxI s) b _ hW.blk rfl))
    (fun hW => nilStep hW (fun _ _ h hb => h.below hb) (stillInsts_nil (bxI s) b _ hW.blk rfl))
    (fun hW => nilStep hW (fun _ _ h hb => h.below hb) (stillPairs_nil (bxI s) b _ hW.blk rfl))
    (fun hW => nilStep hW (fun _ _ h hb => h.below hb) (stillAllegs_nil (bxI s) b _ hW.blk rfl))
    (fun hW => nilStep hW (fun _ _ h hb => h.below hb) (stillLinks_nil (bxI s) b _ hW.blk rfl))
    (fun hW => nilStep hW (fun _ _ h hb => h.below hb) (stillPledges_nil (bxI s) b _ hW.blk rfl))
    (fun hW => nilStep hW (fun _ _ h hb => h.below hb) (stillLoans_nil (bxI s) b _ hW.blk rfl))
    (fun hW => nilStep hW (fun _ _ h hb => h.below hb) (stillTakes_nil (bxI s) b _ hW.blk rfl))
    (fun hW => nilStep hW (fun _ _ h hb => h.below hb) (stillLegs_nil (bxI s) b _ hW.blk rfl))
    (fun hW => nilStep hW (fun _ _ h hb => h.below hb) (stillStocks_nil (bxI s) b _ hW.blk rfl))
    (fun hW => nilStep hW (fun _ _ h hb => h.below hb) (stillSteps_nil (bxI s) b _ hW.blk rfl))
    (fun w1 ρ1 d1 hR1 hV1 e1 => ?_) h.blk h
  refine apart_b (x := bxI s) (V := VI b s) (T := rowT s.rows) (VI.below) hbT
    (fun hW => nilStep hW (VI.below 0) (putAllegs_nil (bxI s) b _ (show BookI b s _ from hW).blk rfl))
    (fun hW => nilStep hW (VI.below 1) (putLoans_nil (bxI s) b _ (show BookI b s _ from hW).blk rfl))
    (fun hW => nilStep hW (VI.below 2) (putTakes_nil (bxI s) b _ (show BookI b s _ from hW).blk rfl))
    (fun hW => nilStep hW (VI.below 3) (putSteps_nil (bxI s) b _ (show BookI b s _ from hW).blk rfl))
    (fun hW => nilStep hW (VI.below 4) (putTexts_nil (bxI s) b _ (show BookI b s _ from hW).blk rfl))
    (fun hW => put_step hg hW)
    (fun hW => nilStep hW (VI.below 6) (putKeys_nil (bxI s) b _ (show VB b s _ from hW).blk rfl))
    (fun hW => nilStep hW (VI.below 7) (putPostings_nil (bxI s) b _ (show VB b s _ from hW).blk rfl))
    (fun hW => nilStep hW (VI.below 8) (putParties_nil (bxI s) b _ (show VB b s _ from hW).blk rfl))
    (fun hW => nilStep hW (VI.below 9) (putAccounts_nil (bxI s) b _ (show VB b s _ from hW).blk rfl))
    (fun hW => nilStep hW (VI.below 10) (putAssets_nil (bxI s) b _ (show VB b s _ from hW).blk rfl))
    (fun hW => nilStep hW (VI.below 11) (putInsts_nil (bxI s) b _ (show VB b s _ from hW).blk rfl))
    (fun hW => nilStep hW (VI.below 12) (putPairs_nil (bxI s) b _ (show VB b s _ from hW).blk rfl))
    (fun hW => nilStep hW (VI.below 13) (putLinks_nil (bxI s) b _ (show VB b s _ from hW).blk rfl))
    (fun hW => nilStep hW (VI.below 14) (putPledges_nil (bxI s) b _ (show VB b s _ from hW).blk rfl))
    (fun hW => nilStep hW (VI.below 15) (putLegs_nil (bxI s) b _ (show VB b s _ from hW).blk rfl))
    (fun hW => nilStep hW (VI.below 16) (putStocks_nil (bxI s) b _ (show VB b s _ from hW).blk rfl))
    (fun w2 ρ2 d2 hR2 hV2 e2 => ?_) w1 ρ1 hR1 hV1 e1 d1
  refine apart_c (x := bxI s) (V := VJ b s) (T := rowT s.rows) (VJ.below) hbT
    (fun hW _ => nilGrow hW rfl (by decide) (growTexts_nil (bxI s) b _ (show (VB b s _ ∧ _) ∧ _ from hW).1.1.blk rfl))
    (fun hW hl => grow_step hg hl hW)
    (fun hW _ => nilGrow hW rfl (by decide) (growKeys_nil (bxI s) b _ (show VC b s _ _ ∧ _ from hW).1.vb.blk rfl))
    (fun hW _ => nilGrow hW rfl (by decide) (growPostings_nil (bxI s) b _ (show VC b s _ _ ∧ _ from hW).1.vb.blk rfl))
    (fun hW _ => nilGrow hW rfl (by decide) (growParties_nil (bxI s) b _ (show VC b s _ _ ∧ _ from hW).1.vb.blk rfl))
    (fun hW _ => nilGrow hW rfl (by decide) (growAccounts_nil (bxI s) b _ (show VC b s _ _ ∧ _ from hW).1.vb.blk rfl))
    (fun hW _ => nilGrow hW rfl (by decide) (growAssets_nil (bxI s) b _ (show VC b s _ _ ∧ _ from hW).1.vb.blk rfl))
    (fun hW _ => nilGrow hW rfl (by decide) (growInsts_nil (bxI s) b _ (show VC b s _ _ ∧ _ from hW).1.vb.blk rfl))
    (fun hW _ => nilGrow hW rfl (by decide) (growPairs_nil (bxI s) b _ (show VC b s _ _ ∧ _ from hW).1.vb.blk rfl))
    (fun hW _ => nilGrow hW rfl (by decide) (growAllegs_nil (bxI s) b _ (show VC b s _ _ ∧ _ from hW).1.vb.blk rfl))
    (fun hW _ => nilGrow hW rfl (by decide) (growLinks_nil (bxI s) b _ (show VC b s _ _ ∧ _ from hW).1.vb.blk rfl))
    (fun hW _ => nilGrow hW rfl (by decide) (growPledges_nil (bxI s) b _ (show VC b s _ _ ∧ _ from hW).1.vb.blk rfl))
    (fun hW _ => nilGrow hW rfl (by decide) (growLoans_nil (bxI s) b _ (show VC b s _ _ ∧ _ from hW).1.vb.blk rfl))
    (fun hW _ => nilGrow hW rfl (by decide) (growTakes_nil (bxI s) b _ (show VC b s _ _ ∧ _ from hW).1.vb.blk rfl))
    (fun hW _ => nilGrow hW rfl (by decide) (growLegs_nil (bxI s) b _ (show VC b s _ _ ∧ _ from hW).1.vb.blk rfl))
    (fun hW _ => nilGrow hW rfl (by decide) (growStocks_nil (bxI s) b _ (show VC b s _ _ ∧ _ from hW).1.vb.blk rfl))
    (fun hW _ => nilGrow hW rfl (by decide) (growSteps_nil (bxI s) b _ (show VC b s _ _ ∧ _ from hW).1.vb.blk rfl))
    (fun v0 v1 v2 v3 v4 v5 v6 v7 v8 v9 v10 v11 v12 v13 v14 v15 v16 w3 ρ3 d3 hR3 hV3 e3 => ?_) w2 ρ2 hR2 ⟨⟨hV2, rfl⟩, fun _ _ => rfl⟩ e2 d2
  obtain ⟨hC, hN⟩ := (show VC b s v1 w3 ∧ _ from hV3)
  obtain rfl : v0 = nilS := hN 0 (by decide)
  obtain rfl : v2 = nilS := hN 2 (by decide)
  obtain rfl : v3 = nilS := hN 3 (by decide)
  obtain rfl : v4 = nilS := hN 4 (by decide)
  obtain rfl : v5 = nilS := hN 5 (by decide)
  obtain rfl : v6 = nilS := hN 6 (by decide)
  obtain rfl : v7 = nilS := hN 7 (by decide)
  obtain rfl : v8 = nilS := hN 8 (by decide)
  obtain rfl : v9 = nilS := hN 9 (by decide)
  obtain rfl : v10 = nilS := hN 10 (by decide)
  obtain rfl : v11 = nilS := hN 11 (by decide)
  obtain rfl : v12 = nilS := hN 12 (by decide)
  obtain rfl : v13 = nilS := hN 13 (by decide)
  obtain rfl : v14 = nilS := hN 14 (by decide)
  obtain rfl : v15 = nilS := hN 15 (by decide)
  obtain rfl : v16 = nilS := hN 16 (by decide)
  refine apart_d (x := bxI s) (W := VC b s v1) (T := rowT s.rows) VC.below hbT nilS v1 nilS nilS nilS nilS nilS nilS nilS nilS nilS nilS nilS nilS nilS nilS nilS
    (fun hW => nilStep hW VC.below (markedTexts_nil _)) (fun hW => nilStep hW VC.below (markedTexts_nil _))
    (fun hW => nilStep hW VC.below (mark_step hg hW)) (fun hW => nilStep hW VC.below (markL_step hg hW))
    (fun hW => nilStep hW VC.below (markedKeys_nil _)) (fun hW => nilStep hW VC.below (markedKeys_nil _))
    (fun hW => nilStep hW VC.below (markedPostings_nil _)) (fun hW => nilStep hW VC.below (markedPostings_nil _))
    (fun hW => nilStep hW VC.below (markedParties_nil _)) (fun hW => nilStep hW VC.below (markedParties_nil _))
    (fun hW => nilStep hW VC.below (markedAccounts_nil _)) (fun hW => nilStep hW VC.below (markedAccounts_nil _))
    (fun hW => nilStep hW VC.below (markedAssets_nil _)) (fun hW => nilStep hW VC.below (markedAssets_nil _))
    (fun hW => nilStep hW VC.below (markedInsts_nil _)) (fun hW => nilStep hW VC.below (markedInsts_nil _))
    (fun hW => nilStep hW VC.below (markedPairs_nil _)) (fun hW => nilStep hW VC.below (markedPairs_nil _))
    (fun hW => nilStep hW VC.below (markedAllegs_nil _)) (fun hW => nilStep hW VC.below (markedAllegs_nil _))
    (fun hW => nilStep hW VC.below (markedLinks_nil _)) (fun hW => nilStep hW VC.below (markedLinks_nil _))
    (fun hW => nilStep hW VC.below (markedPledges_nil _)) (fun hW => nilStep hW VC.below (markedPledges_nil _))
    (fun hW => nilStep hW VC.below (markedLoans_nil _)) (fun hW => nilStep hW VC.below (markedLoans_nil _))
    (fun hW => nilStep hW VC.below (markedTakes_nil _)) (fun hW => nilStep hW VC.below (markedTakes_nil _))
    (fun hW => nilStep hW VC.below (markedLegs_nil _)) (fun hW => nilStep hW VC.below (markedLegs_nil _))
    (fun hW => nilStep hW VC.below (markedStocks_nil _)) (fun hW => nilStep hW VC.below (markedStocks_nil _))
    (fun hW => nilStep hW VC.below (markedSteps_nil _)) (fun hW => nilStep hW VC.below (markedSteps_nil _))
    w3 ρ3 hR3 hC e3 d3
end
end Go.Proofs.YtedfbdeklepekaaGreat
