/-
  Two ledgers in a law: the pointers to their positions are in view, at the first two places, to be read; what stands behind each method of either.
  append onto a row of the call's own, from a row that was handed in.
-/
import Derived.Test.YtgbgedaedcofcaaPstQ
namespace Go.Proofs.Ytgbgedaedcofcaa
open Go Go.RowKit

theorem ld_after {T : List Nat} {w0 : World} {ρ : Nm} {rs : List Reg} {w w' : World} {B gl : Nat} {s s' : LSt} (n0 : Nat) (hld : LdV w B gl s) (hat : ρ n0 = (gl, 0)) (hfar : ∀ x, s.all gl x → ¬ wrS ρ rs x) (hR : Rel T w0 ρ rs w) (hw0 : w0.heap.size ≤ B) (hl : LdV w' B gl s') (hg : s'.g = s.g) (hk : Kept (s.all gl) w w') (hh : ∀ x, s'.has x → s.has x ∨ w.heap.size ≤ x)
    (reg : rs[n0]? = some ⟨ptrG s.g, false⟩) (il : List Nat) (hro : roAll rs 0 = il) (hidx : ∀ k ∈ il, k = n0 ∨ ¬ s.all gl (ρ k).1) : (∀ x, s'.all gl x → ¬ wrS ρ rs x) ∧ Rel T w0 ρ rs w' := by
  have hro2 : ∀ n r, rs[n]? = some r → n ≠ n0 → r.wr = false → ¬ s.all gl (ρ n).1 := fun n r hn h0 hw hx => by
    have h1 := roAll_mem rs 0 n r hn hw
    rw [hro, Nat.zero_add] at h1
    exact (hidx n h1).elim h0 (fun h => h hx)
  have hall : ∀ x, s'.all gl x → s.all gl x ∨ w.heap.size ≤ x := fun x hx => hx.elim (fun e => .inl (.inl e)) (fun e => (hh x e).imp (fun e => .inr e) id)
  have hsame : ∀ n r, rs[n]? = some r → n ≠ n0 ∨ r.wr = true → w'.heap[(ρ n).1]? = w.heap[(ρ n).1]? := fun n r hn hc => hk.block _ (hR.lt n r hn) (fun hx => by
    cases hw : r.wr with
    | true => exact hfar _ hx ⟨n, r, hn, hw, rfl⟩
    | false => exact hro2 n r hn (hc.resolve_right (by rw [hw]; simp)) hw hx)
  refine ⟨fun x hx hw => ?_, ⟨(hR.none0 (ρ' := ρ) |>.kept hk (fun n r hn => by simp at hn) (fun x hx => .inr (Nat.le_trans hw0 (hld.ge_all hx)))).keeps, fun n r hn => Nat.lt_of_lt_of_le (hR.lt n r hn) hk.size, fun n r hn i v hv => ?_, fun n r hn hw => ⟨(hR.wr n r hn hw).1, fun i hi => ?_⟩, hR.apart⟩⟩
  · rcases hall x hx with h1 | h1
    · exact hfar x h1 hw
    · have := hR.wr_lt hw
      omega
  · by_cases h0 : n = n0
    · subst h0
      rw [reg] at hn
      injection hn with hn
      subst hn
      match i, hv with
      | 0, hv =>
        simp only [ptrG, List.getElem?_cons_zero, Option.some.injEq] at hv
        subst hv
        simp only [Nm.at_, hat, LV.den]
        rw [hl.cell.cell 0]
        simp [LSt.cells, hg]
      | i + 1, hv => simp [ptrG] at hv
    · have hc := hR.cell n r hn i v hv
      unfold World.cell? at hc ⊢
      rw [show (ρ.at_ n i).block = (ρ n).1 from rfl] at *
      rw [hsame n r hn (.inl h0)]
      exact hc
  · rw [frozen_of_block (hsame n r hn (.inr hw))]
    exact (hR.wr n r hn hw).2 i hi
/-- two ledgers, apart -/
structure LdT (ρ : Nm) (rs : List Reg) (w : World) (B ga gb : Nat) (sa sb : LSt) : Prop where
  a : LdV w B ga sa
  b : LdV w B gb sb
  ata : ρ 0 = (ga, 0)
  atb : ρ 1 = (gb, 0)
  lt : 1 < rs.length
  fara : ∀ x, sa.all ga x → ¬ wrS ρ rs x
  farb : ∀ x, sb.all gb x → ¬ wrS ρ rs x
  ne : ∀ x, sa.all ga x → ¬ sb.all gb x
section
variable {T : List Nat} {w0 w w' : World} {ρ ρ' : Nm} {rs rs' : List Reg} {B ga gb : Nat} {sa sa' sb sb' : LSt}
theorem LdT.moved (h : LdT ρ rs w B ga gb sa sb) (hm : Moved ρ rs w ρ' rs' w') : LdT ρ' rs' w' B ga gb sa sb := by
  have h1 : LdV w' B ga sa := h.a.same fun x hx => hm.kept.block x (h.a.has_lt hx) (h.fara x hx)
  have h2 : LdV w' B gb sb := h.b.same fun x hx => hm.kept.block x (h.b.has_lt hx) (h.farb x hx)
  have hlt := h.lt
  refine ⟨h1, h2, (hm.agree 0 (by omega)).trans h.ata, (hm.agree 1 (by omega)).trans h.atb, Nat.lt_of_lt_of_le h.lt hm.size, fun x hx hw => ?_, fun x hx hw => ?_, h.ne⟩
  · rcases hm.wrs x hw with h3 | h3
    · exact h.fara x hx h3
    · have := h.a.has_lt hx
      omega
  · rcases hm.wrs x hw with h3 | h3
    · exact h.farb x hx h3
    · have := h.b.has_lt hx
      omega
theorem LdT.below (h : LdT ρ rs w B ga gb sa sb) (hb : Below w.heap.size w w') : LdT ρ rs w' B ga gb sa sb := ⟨h.a.below hb, h.b.below hb, h.ata, h.atb, h.lt, h.fara, h.farb, h.ne⟩
theorem LdT.drew (h : LdT ρ rs w B ga gb sa sb) : LdT ρ rs w.drew B ga gb sa sb := ⟨h.a.drew, h.b.drew, h.ata, h.atb, h.lt, h.fara, h.farb, h.ne⟩
theorem LdT.castR (h : LdT ρ rs w B ga gb sa sb) (e : rs = rs') : LdT ρ rs' w B ga gb sa sb := e ▸ h
theorem LdT.cut {N : Nat} (h : LdT ρ' rs' w B ga gb sa sb) (hag : Ag N ρ ρ' rs') (h0 : 1 < N) (hN : rs.length = N) (e0 : rs'.take N = rs) : LdT ρ rs w B ga gb sa sb :=
  ⟨h.a, h.b, (hag.at_ 0 (by omega)).symm.trans h.ata, (hag.at_ 1 h0).symm.trans h.atb, by rw [hN]; exact h0, fun x hx hw => h.fara x hx (wrS_cut hag hN e0 hw), fun x hx hw => h.farb x hx (wrS_cut hag hN e0 hw), h.ne⟩
theorem LdT.low (h : LdT ρ rs w B ga gb sa sb) {x : Nat} (hx : sa.all ga x ∨ sb.all gb x) : B ≤ x := hx.elim h.a.ge_all h.b.ge_all
theorem LdT.grown (h : LdT ρ rs w B ga gb sa sb) {row : Option Nat} (hg : w.grownBy w' row) (hr : ∀ x, sa.all ga x ∨ sb.all gb x → some x ≠ row) : LdT ρ rs w' B ga gb sa sb :=
  ⟨h.a.same fun x hx => hg.block x (h.a.has_lt hx) (hr x (.inl hx)), h.b.same fun x hx => hg.block x (h.b.has_lt hx) (hr x (.inr hx)), h.ata, h.atb, h.lt, h.fara, h.farb, h.ne⟩
/-- behind a method of the first that changes it; il: all places that are read alone -/
theorem LdT.afterA (h : LdT ρ rs w B ga gb sa sb) (hR : Rel T w0 ρ rs w) (hw0 : w0.heap.size ≤ B) (hl : LdV w' B ga sa') (hg : sa'.g = sa.g) (hk : Kept (sa.all ga) w w') (hh : ∀ x, sa'.has x → sa.has x ∨ w.heap.size ≤ x)
    (reg : rs[0]? = some ⟨ptrG sa.g, false⟩) (il : List Nat) (hro : roAll rs 0 = 0 :: 1 :: il) (hidx : ∀ k ∈ il, (ρ k).1 < B) : LdT ρ rs w' B ga gb sa' sb ∧ Rel T w0 ρ rs w' := by
  obtain ⟨h1, h2⟩ := ld_after 0 h.a h.ata h.fara hR hw0 hl hg hk hh reg _ hro (fun k hk => by
    rcases List.mem_cons.1 hk with e | hk
    · exact .inl e
    · rcases List.mem_cons.1 hk with e | hk
      · subst e
        rw [h.atb]
        exact .inr fun hx => h.ne gb hx (.inl rfl)
      · exact .inr fun hx => by
          have := h.a.ge_all hx
          have := hidx k hk
          omega)
  exact ⟨⟨hl, h.b.same fun x hx => hk.block x (h.b.has_lt hx) (fun hx2 => h.ne x hx2 hx), h.ata, h.atb, h.lt, h1, h.farb, fun x hx hx2 => by
    have hx3 := h.b.has_lt hx2
    rcases hx with e | hx
    · exact h.ne x (.inl e) hx2
    · rcases hh x hx with e | e
      · exact h.ne x (.inr e) hx2
      · omega⟩, h2⟩
theorem LdT.afterB (h : LdT ρ rs w B ga gb sa sb) (hR : Rel T w0 ρ rs w) (hw0 : w0.heap.size ≤ B) (hl : LdV w' B gb sb') (hg : sb'.g = sb.g) (hk : Kept (sb.all gb) w w') (hh : ∀ x, sb'.has x → sb.has x ∨ w.heap.size ≤ x)
    (reg : rs[1]? = some ⟨ptrG sb.g, false⟩) (il : List Nat) (hro : roAll rs 0 = 0 :: 1 :: il) (hidx : ∀ k ∈ il, (ρ k).1 < B) : LdT ρ rs w' B ga gb sa sb' ∧ Rel T w0 ρ rs w' := by
  obtain ⟨h1, h2⟩ := ld_after 1 h.b h.atb h.farb hR hw0 hl hg hk hh reg _ hro (fun k hk => by
    rcases List.mem_cons.1 hk with e | hk
    · subst e
      rw [h.ata]
      exact .inr fun hx => h.ne ga (.inl rfl) hx
    · rcases List.mem_cons.1 hk with e | hk
      · exact .inl e
      · exact .inr fun hx => by
          have := h.b.ge_all hx
          have := hidx k hk
          omega)
  exact ⟨⟨h.a.same fun x hx => hk.block x (h.a.has_lt hx) (fun hx2 => h.ne x hx hx2), hl, h.ata, h.atb, h.lt, h.fara, h1, fun x hx hx2 => by
    have hx3 := h.a.has_lt hx
    rcases hx2 with e | hx2
    · exact h.ne x hx (.inl e)
    · rcases hh x hx2 with e | e
      · exact h.ne x hx (.inr e)
      · omega⟩, h2⟩
end
theorem noW2 {ρ : Nm} {c1 c2 : List LV} {g : Nat} (h : wrS ρ [⟨c1, false⟩, ⟨c2, false⟩] g) : False := by
  obtain ⟨n, r, hn, hw, _⟩ := h
  match n, hn with
  | 0, hn => simp only [List.getElem?_cons_zero, Option.some.injEq] at hn; subst hn; cases hw
  | 1, hn => simp only [List.getElem?_cons_succ, List.getElem?_cons_zero, Option.some.injEq] at hn; subst hn; cases hw
  | n + 2, hn => simp at hn
theorem PoV.lowB {w : World} {B B' g : Nat} {m : Option Nat} {l : List (Ent Key B3)} {clock : Nat} (h : PoV w B g m l clock) (hb : B' ≤ B) : PoV w B' g m l clock := h.low hb
theorem LdV.low {w : World} {B B' gl : Nat} {s : LSt} (h : LdV w B gl s) (hb : B' ≤ B) : LdV w B' gl s :=
  ⟨h.cell, h.pos.low hb, h.iss, h.blk, Nat.le_trans hb h.ge, fun q hq => Nat.le_trans hb (h.geI q hq), fun q hq => Nat.le_trans hb (h.geB q hq), h.neI, h.neB, h.neX⟩
/-- a second ledger that was made comes into view -/
theorem Back.view2 {P : Program} {Q : Exit → Act → World → Prop} {T : List Nat} {w0 w : World} {c : Cfg} {ρ : Nm} {B B2 ga gb : Nat} {sa sb : LSt} (hA : LdO ρ [⟨ptrG sa.g, false⟩] w B ga sa) (hb : LdV w B2 gb sb) (hAB : ∀ x, sa.all ga x → x < B2) (hBB : B ≤ B2) (hR : Rel T w0 ρ [⟨ptrG sa.g, false⟩] w) (hu : undL 1 c.tmps = true)
    (next : ∀ ρ', Rel T w0 ρ' [⟨ptrG sa.g, false⟩, ⟨ptrG sb.g, false⟩] w → LdT ρ' [⟨ptrG sa.g, false⟩, ⟨ptrG sb.g, false⟩] w B ga gb sa sb → At P Q (nextC c (.ptr 1 0) [⟨ptrG sa.g, false⟩, ⟨ptrG sb.g, false⟩]) ρ' w) : Back P Q c ρ (.returned (.pointer (some ⟨gb, 0, none⟩))) w := by
  obtain ⟨ρ', ha, e1, hR'⟩ := hR.open_ rfl gb 0 (ptrG sb.g) rfl false hb.cell.lt (fun j v hv => by
    match j, hv with
    | 0, hv =>
      simp only [ptrG, List.getElem?_cons_zero, Option.some.injEq] at hv
      subst hv
      rw [Nat.add_zero, hb.cell.cell 0]
      simp [LSt.cells, LV.den]
    | j + 1, hv => simp [ptrG] at hv) (fun hb => by cases hb) (fun n r hn hw => by
      have hw := hw
      match n, hn with
      | 0, hn => simp only [List.getElem?_cons_zero, Option.some.injEq] at hn; subst hn; simp at hw
      | n + 1, hn => simp at hn)
  have e1 : ρ' 1 = (gb, 0) := e1
  exact ⟨.ptr 1 0, _, ρ', by simp only [LV.den, Nm.at_, e1], act_ext (k := 1) ha hu, next ρ' hR' ⟨hA.ld, hb.low hBB, (ha 0 (by show 0 < 1; omega)).trans hA.at_, e1, by show 1 < 2; omega, fun _ _ => noW2, fun _ _ => noW2, fun x hx hx2 => by
    have := hAB x hx
    have := hb.ge_all hx2
    omega⟩⟩
section
variable {P : Program} {fn : Func} {Q : Exit → Act → World → Prop} {T : List Nat} {w0 w : World} {ρ : Nm} {c : Cfg}
theorem run_app_nilR {base : Nat} {t ty e : TypeId} {size bytes : Nat} (hty : RowTy P t e size bytes)
    (v : Value) (n : Nat) (xs : List Value) (hown : w.ownsRow base e size v n xs) (c : Nat) : (Builtin.append_ #[t, t] ty #[v, .slice none 0 c]).run P w = .ok v w := by
  obtain ⟨i, z, hi, _⟩ := hty.ex
  have ht := hty.ht
  rcases hown.2 with ⟨rfl, _⟩ | ⟨g, cap, cur, rfl, _, _, hnc, _⟩
  · simp [Builtin.append_, run_underlying ht, sizeOf, typeInfo, hi, Builtin.lenOf, Builtin.firstCells]
  · simp [Builtin.append_, run_underlying ht, sizeOf, typeInfo, hi, Builtin.lenOf, Builtin.firstCells, hnc, storeCells]
/-- a row of one's own grows by a row that was handed in -/
theorem sim_appendR (t : TypeId) (v : Value) (A : Option Addr) (m cp : Nat) (h : appOf c = some (t, .v v, .v (.slice A m cp))) (hR : Rel T w0 ρ c.rs w) {base : Nat} {e : TypeId} {size bytes : Nat} (hty : RowTy P t e size bytes)
    {n : Nat} {xs news : List Value} (hown : w.ownsRow base e size v n xs) {B : Nat} (hr : Reads w B size A m news) (h1 : (news.map LV.v).all oneL = true)
    (h63 : n + m ≤ maxLen) (hbytes : (n + m) * bytes ≤ 140737488355328) (hbase : base ≤ w.heap.size) (hw0 : w0.heap.size ≤ base) (hreg : ∀ g, v.ownBlock = some g → ∀ (k : Nat) (r : Reg), c.rs[k]? = some r → r.cells ≠ [] → (ρ k).1 ≠ g)
    (next : ∀ v' w', w'.ownsRow base e size v' (n + m) (xs ++ news) → w.grownBy w' v.ownBlock → (v'.ownBlock = v.ownBlock ∨ v'.ownBlock = some w.heap.size) → Rel T w0 ρ c.rs w' → At P Q (nextC c (.v v') c.rs) ρ w') : At P Q c ρ w := by
  have nil_news : m = 0 → news = [] := fun hm => by
    have := hr.1
    rw [hm, Nat.zero_mul] at this
    exact List.eq_nil_of_length_eq_zero this
  cases A with
  | none =>
    have hm : m = 0 := (Nat.eq_zero_or_pos m).elim id fun h0 => by
      obtain ⟨_, h2, _⟩ := hr.2 h0
      cases h2
    have hn := nil_news hm
    subst hm hn
    obtain ⟨op, ho, ty, hrun⟩ := appOf_run (ρ := ρ) (w := w) h
    exact sim_op op ho (.v v) c.rs ρ w (hrun v w (run_app_nilR hty v n xs hown cp)) rfl (next v w (by simpa using hown) (World.grownBy.refl w _) (.inl rfl) hR)
  | some ad =>
    have hcells : ∀ j u, news[j]? = some u → w.cell? (ad.add j) = some u := fun j u hu => by
      rcases Nat.eq_zero_or_pos m with h0 | h0
      · rw [nil_news h0] at hu
        simp at hu
      · obtain ⟨ad', e1, _, hc⟩ := hr.2 h0
        injection e1 with e1
        rw [e1]
        exact hc j u hu
    obtain ⟨i, z, h2, h3, h4, h5, h6, h7⟩ := hty.ex
    refine sim_append t (.v v) (.v (.slice (some ad) m cp)) h hR hty.ht h2 h3 h4 h5 h6 h7 rfl hown rfl (news.map .v) (by rw [List.length_map]; exact hr.1) (fun j u hu => by
      rw [List.getElem?_map] at hu
      obtain ⟨u', hu', rfl⟩ := Option.map_eq_some_iff.1 hu
      exact hcells j u' hu') h1 h63 hbytes hbase hw0 hreg (fun v' w' g1 g2 g3 g4 => ?_)
    rw [denL_v] at g1
    exact next v' w' g1 g2 g3 g4
end
end Go.Proofs.Ytgbgedaedcofcaa
