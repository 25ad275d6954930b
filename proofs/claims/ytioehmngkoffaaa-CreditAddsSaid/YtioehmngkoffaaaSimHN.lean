/-
  The executor's rules for loops, for an element's place, for append, for a region that draws and holds calls. Over any program.
  Small words for proofs by the executor. Over any program.
  The executor's rules for rows whose length is not known: an element's address, a store, clear, reslicing, a new empty row. Over any program.
  A row of one's own that no place in view lies in: it stands through what the executor does.
  A row that lay there before the call grows in it. Over any program.
  Rules for walks that are printed: a temporary written otherwise, a fork, an order gone so far. Over any program.
  A cell of a row that lay there before the call comes into view, beside rows that may be written. Over any program.
-/
import Derived.Test.YtioehmngkoffaaaSimAG
import Derived.LoopN
import Derived.Maps.AppendAt
import Derived.Laws.CopyRow
namespace Go.Proofs.Ytioehmngkoffaaa
section
open Go Go.RowKit

/-! ### Loops -/
theorem wp_loop_ix {P : Program} {Q : Exit → Act → World → Prop} {c : Code} (J : Nat → Act → World → Prop) (round : ∀ n a w, J n a w → c.wp P (Exit.then (fun a' w' => ∃ n', n' < n ∧ J n' a' w') Q) a w) {n : Nat} {a : Act} {w : World} (h0 : J n a w) : (Code.loop c).wp P Q a w := by
  intro b k cs
  have key : ∀ n a w, J n a w → ∃ e a' w', Q e a' w' ∧ Arrives P (lone (b.at a (.code c :: .inLoop c :: k)) cs w) b k cs e a' w' := by
    intro n
    induction n using Nat.strongRecOn with
    | _ n ih =>
      intro a w hI
      obtain ⟨e, a₁, w₁, hq, harr⟩ := round n a w hI b (.inLoop c :: k) cs
      cases e with
      | normal =>
        obtain ⟨n', hlt, hI₁⟩ := hq
        obtain ⟨e₂, a₂, w₂, hq₂, harr₂⟩ := ih n' hlt a₁ w₁ hI₁
        exact ⟨e₂, a₂, w₂, hq₂, .of_steps (Steps.trans harr (.one step_inLoop)) harr₂⟩
      | exit id => exact ⟨_, a₁, w₁, hq, .pass (x := .inLoop c) rfl (fun _ _ => .inl (by simp)) harr⟩
      | goto l => exact ⟨_, a₁, w₁, hq, .pass (x := .inLoop c) rfl (fun _ _ => .inl (by simp)) harr⟩
      | ret => exact ⟨_, a₁, w₁, hq, .pass (x := .inLoop c) rfl (fun _ _ => .inl (by simp)) harr⟩
      | panic ch => exact ⟨_, a₁, w₁, hq, .pass (x := .inLoop c) rfl (fun _ _ => .inl (by simp)) harr⟩
      | outgrown => exact ⟨_, a₁, w₁, hq, .pass (x := .inLoop c) rfl (fun _ _ => .inl (by simp)) harr⟩
  obtain ⟨e, a', w', hq, harr⟩ := key n a w h0
  exact ⟨e, a', w', hq, .of_steps (.one step_loop) harr⟩

/-- the temporaries at a loop's head: what is known, and junk -/
def fillJ : List (Option LV) → (Nat → Value) → Nat → List LV
  | [], _, _ => []
  | some x :: tm, d, i => x :: fillJ tm d (i + 1)
  | none :: tm, d, i => .v (d i) :: fillJ tm d (i + 1)
def mergeT : List (Option LV) → List LV → List LV
  | some x :: tm, _ :: ts => x :: mergeT tm ts
  | none :: tm, t :: ts => t :: mergeT tm ts
  | _, _ => []
theorem fillJ_merge (ρ : Nm) (d : Nat → Value) : ∀ (tm : List (Option LV)) (ts : List LV) (i : Nat), mergeT tm ts = ts → tm.length = ts.length → (∀ (j : Nat) (t : LV), ts[j]? = some t → d (i + j) = t.den ρ) → denL ρ (fillJ tm d i) = denL ρ ts
  | [], [], _, _, _, _ => rfl
  | [], _ :: _, _, _, h, _ => by cases h
  | _ :: _, [], _, _, h, _ => by cases h
  | some x :: tm, t :: ts, i, hm, hl, hd => by
    simp only [mergeT, List.cons.injEq] at hm
    simp only [fillJ, denL, hm.1]
    rw [fillJ_merge ρ d tm ts (i + 1) hm.2 (by simpa using hl) (fun j t ht => by rw [← hd (j + 1) t ht]; congr 1; omega)]
  | none :: tm, t :: ts, i, hm, hl, hd => by
    simp only [mergeT, List.cons.injEq, true_and] at hm
    simp only [fillJ, denL, LV.den]
    rw [fillJ_merge ρ d tm ts (i + 1) hm (by simpa using hl) (fun j t ht => by rw [← hd (j + 1) t ht]; congr 1; omega)]
    rw [← hd 0 t rfl]
    rfl
def undT (k : Nat) (tm : List (Option LV)) : Bool := tm.all fun x => match x with
  | some x => x.und k
  | none => true
theorem fillJ_ext {k : Nat} {ρ ρ' : Nm} (ha : Agree k ρ ρ') : ∀ (tm : List (Option LV)) (d : Nat → Value) (i : Nat), undT k tm = true → denL ρ' (fillJ tm d i) = denL ρ (fillJ tm d i)
  | [], _, _, _ => rfl
  | some x :: tm, d, i, h => by
    simp only [undT, List.all_cons, Bool.and_eq_true] at h
    simp only [fillJ, denL, LV.den_ext ha x h.1, fillJ_ext ha tm d (i + 1) h.2]
  | none :: tm, d, i, h => by
    simp only [undT, List.all_cons, Bool.true_and] at h
    simp only [fillJ, denL, LV.den, fillJ_ext ha tm d (i + 1) h]
def findS : List (Nat × LV) → Nat → Option LV
  | [], _ => none
  | (j, y) :: l, i => if Nat.beq j i then some y else findS l i
/-- of the temporaries these are kept, those are what is said, the others are junk -/
def tmplOf (keep : List Nat) (sets : List (Nat × LV)) : List LV → Nat → List (Option LV)
  | [], _ => []
  | t :: ts, i => (match findS sets i with | some y => some y | none => if keep.any (Nat.beq i) then some t else none) :: tmplOf keep sets ts (i + 1)
theorem tmplOf_length (keep : List Nat) (sets : List (Nat × LV)) : ∀ (ts : List LV) (i : Nat), (tmplOf keep sets ts i).length = ts.length
  | [], _ => rfl
  | _ :: ts, i => by simp only [tmplOf, List.length_cons, tmplOf_length keep sets ts (i + 1)]

theorem act_of_merge {tm : List (Option LV)} {ts : List LV} (ρ : Nm) (hm : mergeT tm ts = ts) (hl : tm.length = ts.length) : act ρ ts = act ρ (fillJ tm (fun j => (evalL ts (.tmp j)).den ρ) 0) := by
  unfold act
  rw [fillJ_merge ρ _ tm ts 0 hm hl (fun j t ht => by simp only [Nat.zero_add, evalL, ht])]

section
variable {P : Program} {Q : Exit → Act → World → Prop} {T : List Nat} {w0 w : World} {ρ : Nm} {c : Cfg} {fn : Func} {R : Ending → World → Prop}

/-- places that are no longer looked at -/
theorem Rel.cut {ρ' : Nm} {rs rs' : List Reg} {w' : World} (h : Rel T w0 ρ' rs' w') (hrs : rs'.take rs.length = rs) (ha : Agree rs.length ρ ρ') (hu : undR rs.length rs = true) : Rel T w0 ρ rs w' := by
  have hg : ∀ (n : Nat) (r : Reg), rs[n]? = some r → rs'[n]? = some r ∧ ρ' n = ρ n := by
    intro n r hn
    have hl : n < rs.length := (List.getElem?_eq_some_iff.1 hn).1
    have e := congrArg (fun l => l[n]?) hrs
    simp only [List.getElem?_take, if_pos hl] at e
    exact ⟨by rw [e]; exact hn, ha n hl⟩
  refine ⟨h.keeps, fun n r hn => ?_, fun n r hn i v hv => ?_, fun n r hn hw => ?_, fun n m r r' hn hm hne hw he => ?_⟩
  · obtain ⟨h1, h2⟩ := hg n r hn
    rw [← h2]
    exact h.lt n r h1
  · obtain ⟨h1, h2⟩ := hg n r hn
    have := h.cell n r h1 i v hv
    unfold Nm.at_ at *
    rw [h2, LV.den_ext ha v (undR_den hu hn hv)] at this
    exact this
  · obtain ⟨h1, h2⟩ := hg n r hn
    have := h.wr n r h1 hw
    unfold Nm.at_ at *
    rw [h2] at this
    exact this
  · obtain ⟨h1, h2⟩ := hg n r hn
    obtain ⟨h3, h4⟩ := hg m r' hm
    have := h.apart n m r r' h1 h3 hne hw (by rw [h2, h4]; exact he)
    rw [h2, h4] at this
    exact this

def loopBody (c : Cfg) : Code := match c.k with
  | .code (.loop b) :: _ => b
  | _ => .skip
def loopRest (c : Cfg) : List It := match c.k with
  | .code (.loop _) :: k => k
  | _ => []
def isLoop (c : Cfg) : Bool := match c.k with
  | .code (.loop _) :: _ => true
  | _ => false
def LoopI {ι : Type} (T : List Nat) (w0 : World) (ρ : Nm) (tm : ι → List (Option LV)) (rg : ι → List Reg) (E : ι → World → Prop) (μ : ι → Nat) (n : Nat) (a : Act) (w : World) : Prop :=
  ∃ (x : ι) (d : Nat → Value), μ x = n ∧ a = act ρ (fillJ (tm x) d 0) ∧ Rel T w0 ρ (rg x) w ∧ E x w
def LoopQ {ι : Type} (P : Program) (Q : Exit → Act → World → Prop) (k : List It) (T : List Nat) (w0 : World) (ρ : Nm) (tm : ι → List (Option LV)) (rg : ι → List Reg) (E : ι → World → Prop) (μ : ι → Nat) (n : Nat) : Exit → Act → World → Prop :=
  Exit.then (fun a w => ∃ n', n' < n ∧ LoopI T w0 ρ tm rg E μ n' a w) (post P Q k)
instance {ι : Type} [hB : Body P Q fn R] (k : List It) (T : List Nat) (w0 : World) (ρ : Nm) (tm : ι → List (Option LV)) (rg : ι → List Reg) (E : ι → World → Prop) (μ : ι → Nat) (n : Nat) : Body P (LoopQ P Q k T w0 ρ tm rg E μ n) fn R where
  pf := fun ch a d v w h => (hB.pf.post k) ch a d v w h
  ret := fun a w h => (post_ret k).2 (hB.ret a w h)
abbrev bodyC (c : Cfg) (keep : List Nat) (sets : List (Nat × LV)) (d : Nat → Value) (rs : List Reg) : Cfg := ⟨[.code (loopBody c)], fillJ (tmplOf keep sets c.tmps 0) d 0, rs⟩

theorem sim_loop {ι : Type} (x0 : ι) (keep : List Nat) (sets : ι → List (Nat × LV)) (rg : ι → List Reg) (E : ι → World → Prop) (μ : ι → Nat) (hl : isLoop c = true) (hm : mergeT (tmplOf keep (sets x0) c.tmps 0) c.tmps = c.tmps)
    (hR : Rel T w0 ρ (rg x0) w) (hE : E x0 w)
    (round : ∀ x d w', Rel T w0 ρ (rg x) w' → E x w' → At P (LoopQ P Q (loopRest c) T w0 ρ (fun x => tmplOf keep (sets x) c.tmps 0) rg E μ (μ x)) (bodyC c keep (sets x) d (rg x)) ρ w') : At P Q c ρ w := by
  obtain ⟨k, t, rs⟩ := c
  unfold isLoop at hl
  split at hl
  · rename_i b k' hk
    simp only at hk
    subst hk
    show (Code.loop b).wp P (post P Q k') (act ρ t) w
    refine wp_loop_ix (LoopI T w0 ρ (fun x => tmplOf keep (sets x) t 0) rg E μ) ?_ (n := μ x0) ⟨x0, _, rfl, act_of_merge ρ hm (tmplOf_length _ _ _ _), hR, hE⟩
    rintro n a w' ⟨x, d, rfl, rfl, hR', hE'⟩
    exact round x d w' hR' hE'
  · cases hl
/-- the round's end -/
theorem sim_again {ι : Type} {tm : ι → List (Option LV)} {rg : ι → List Reg} {E : ι → World → Prop} {μ : ι → Nat} {k : List It} {n : Nat} {ρ' : Nm} {w' : World} (x : ι) (hk : c.k = []) (hμ : μ x < n) (hm : mergeT (tm x) c.tmps = c.tmps) (hlen : (tm x).length = c.tmps.length)
    (hu : undT (rg x).length (tm x) = true) (ha : Agree (rg x).length ρ ρ') (hR : Rel T w0 ρ' c.rs w') (hrs : c.rs.take (rg x).length = rg x) (hru : undR (rg x).length (rg x) = true) (hE : E x w') : At P (LoopQ P Q k T w0 ρ tm rg E μ n) c ρ' w' := by
  unfold At
  rw [hk]
  show ∃ n', n' < n ∧ LoopI T w0 ρ tm rg E μ n' (act ρ' c.tmps) w'
  refine ⟨μ x, hμ, x, fun j => (evalL c.tmps (.tmp j)).den ρ', rfl, ?_, hR.cut hrs ha hru, hE⟩
  rw [act_of_merge ρ' hm hlen]
  unfold act
  rw [fillJ_ext ha _ _ _ hu]
/-- out of the loop -/
def leaveK (c : Cfg) (k : List It) : Option (List It) := match c.k with
  | .code (.exit id) :: k1 => match exitK id k1 with
    | none => exitK id k
    | some _ => none
  | _ => none
def someK : Option (List It) → List It
  | some k => k
  | none => []
abbrev leaveC (c : Cfg) (k : List It) : Cfg := ⟨someK (leaveK c k), c.tmps, c.rs⟩
theorem sim_leave {ι : Type} {tm : ι → List (Option LV)} {rg : ι → List Reg} {E : ι → World → Prop} {μ : ι → Nat} {k : List It} {n : Nat} {ρ' : Nm} {w' : World} (h : (leaveK c k).isSome = true) (hA : At P Q (leaveC c k) ρ' w') : At P (LoopQ P Q k T w0 ρ tm rg E μ n) c ρ' w' := by
  obtain ⟨k0, t, rs⟩ := c
  cases hk : leaveK ⟨k0, t, rs⟩ k with
  | none => rw [hk] at h; cases h
  | some k2 =>
    simp only [leaveC, hk, someK] at hA
    unfold leaveK at hk
    split at hk
    · rename_i id k1 hk0
      simp only at hk0
      subst hk0
      split at hk
      · rename_i hn
        show (Code.exit id).wp P (post P _ k1) (act ρ' t) w'
        exact wp_exit (post_exit_none hn (post_exit hk hA))
      · cases hk
    · cases hk
/-- a loop of so many rounds at most, written out: the executor goes on through it -/
abbrev rndC (n : Nat) (c : Cfg) : Cfg := ⟨.rnd n (loopBody c) :: loopRest c, c.tmps, c.rs⟩
theorem sim_unroll (n : Nat) (hl : isLoop c = true) (h : At P Q (rndC n c) ρ w) : At P Q c ρ w := by
  obtain ⟨k, t, rs⟩ := c
  unfold isLoop at hl
  split at hl
  · rename_i b k' hk
    simp only at hk
    subst hk
    exact wp_loop_rounds n h
  · cases hl

/-! ### A call that is walked into -/
theorem sim_into {f : FuncId} {fn' : Func} (hf : P.funcs[f]? = some fn') (args : List LV) (hc : callC P c = some (f, args)) (hb : fn'.body.isSome = true) (h : At P (bodyPost P fn' (Back P Q c ρ)) (startC fn' args c.rs) ρ w) : At P Q c ρ w :=
  sim_call f args hc (sim_enter hf ρ args c.rs hb rfl h)
theorem sim_out {c0 : Cfg} {ρ0 : Nm} {Q' : Exit → Act → World → Prop} [hB : Body P Q' fn (Back P Q c0 ρ0)] (N : Nat) (x : LV) (hR : Rel T w0 ρ c.rs w) (h1 : atRet c = true) (h2 : resL P fn c = some x) (hag : Agree N ρ0 ρ) (hu : undL N c0.tmps = true)
    (next : At P Q (nextC c0 x c.rs) ρ w) : At P Q' c ρ w :=
  sim_ret x hR h1 h2 ⟨x, c.rs, ρ, rfl, act_ext hag hu, next⟩

/-! ### A place that comes into view -/
theorem Rel.open_ {rs : List Reg} (hR : Rel T w0 ρ rs w) (hu : undR rs.length rs = true) (B o : Nat) (cells : List LV) (hc : undL rs.length cells = true) (wr : Bool) (hlt : B < w.heap.size)
    (hcell : ∀ (i : Nat) (v : LV), cells[i]? = some v → w.cell? ⟨B, o + i, none⟩ = some (v.den ρ)) (hwr : wr = true → (B ∈ T ∨ w0.heap.size ≤ B) ∧ ∀ i, i < cells.length → w.frozen? ⟨B, o + i, none⟩ = false)
    (hap : ∀ (n : Nat) (r : Reg), rs[n]? = some r → (wr = true ∨ r.wr = true) → (ρ n).1 = B → (ρ n).2 + r.cells.length ≤ o ∨ o + cells.length ≤ (ρ n).2) :
    ∃ ρ', Agree rs.length ρ ρ' ∧ ρ' rs.length = (B, o) ∧ Rel T w0 ρ' (rs ++ [⟨cells, wr⟩]) w := by
  refine ⟨fun n => if n = rs.length then (B, o) else ρ n, fun n hn => if_neg (by omega), if_pos rfl, ?_⟩
  generalize hρ : (fun n => if n = rs.length then (B, o) else ρ n) = ρ'
  have ha : Agree rs.length ρ ρ' := fun n hn => by rw [← hρ]; exact if_neg (by omega)
  have hnew : ρ' rs.length = (B, o) := by rw [← hρ]; exact if_pos rfl
  clear hρ
  have h2 := hR.ext ha hu
  have hcases : ∀ n r, (rs ++ [(⟨cells, wr⟩ : Reg)])[n]? = some r → rs[n]? = some r ∨ (n = rs.length ∧ r = ⟨cells, wr⟩) := by
    intro n r hn
    rcases Nat.lt_or_ge n rs.length with hl | hl
    · rw [List.getElem?_append_left hl] at hn; exact .inl hn
    · rw [List.getElem?_append_right hl] at hn
      have h0 : n - rs.length = 0 := by
        rcases Nat.eq_zero_or_pos (n - rs.length) with h0 | h0
        · exact h0
        · rw [List.getElem?_eq_none (by simp; omega)] at hn; cases hn
      rw [h0] at hn
      simp at hn
      exact .inr ⟨by omega, hn.symm⟩
  refine ⟨h2.keeps, fun n r hn => ?_, fun n r hn i v hv => ?_, fun n r hn hw => ?_, fun n m r r' hn hm hne hw he => ?_⟩
  · rcases hcases n r hn with hn | ⟨rfl, rfl⟩
    · exact h2.lt n r hn
    · rw [hnew]; exact hlt
  · rcases hcases n r hn with hn | ⟨rfl, rfl⟩
    · exact h2.cell n r hn i v hv
    · unfold Nm.at_
      rw [hnew, LV.den_ext ha v (undL_mem hc (List.mem_of_getElem? hv))]
      exact hcell i v hv
  · rcases hcases n r hn with hn | ⟨rfl, rfl⟩
    · exact h2.wr n r hn hw
    · unfold Nm.at_
      rw [hnew]
      exact hwr hw
  · rcases hcases n r hn with hn1 | ⟨rfl, rfl⟩ <;> rcases hcases m r' hm with hm1 | ⟨rfl, rfl⟩
    · exact h2.apart n m r r' hn1 hm1 hne hw he
    · rw [hnew] at he ⊢
      rw [ha n (List.getElem?_eq_some_iff.1 hn1).1] at he ⊢
      exact hap n r hn1 (.inr hw) he
    · rw [hnew] at he ⊢
      rw [ha m (List.getElem?_eq_some_iff.1 hm1).1] at he ⊢
      exact (hap m r' hm1 (.inl hw) he.symm).symm
    · exact absurd rfl hne

/-- the element whose place is asked for: the row's address, its length, the index, an element's size -/
def idxOf (P : Program) (c : Cfg) : Option (LV × Nat × Int × Nat) := match topOp c with
  | some o => match o.op with
    | .indexAddr t x ix => match evalL c.tmps x, evalL c.tmps ix, P.underlying t with
      | .v (.slice (some a) len cp), .v (.int _ i), some (.slice e) => match P.info? e with
        | some ie => some (.v (.slice (some a) len cp), len, i, ie.size)
        | none => none
      | .slc n off len cp, .v (.int _ i), some (.slice e) => match P.info? e with
        | some ie => some (.slc n off len cp, len, i, ie.size)
        | none => none
      | _, _, _ => none
    | _ => none
  | none => none
theorem idxOf_run {x : LV} {len sz : Nat} {i : Int} (h : idxOf P c = some (x, len, i, sz)) (h0 : 0 ≤ i) (h1 : i < len) {a : Addr} {cp : Nat} (hx : x.den ρ = .slice (some a) len cp) :
    ∃ o, topOp c = some o ∧ (execOp (act ρ c.tmps).eval o).run P w = .ok (.value (.pointer (some (a.add (i.toNat * sz))))) w := by
  unfold idxOf at h
  split at h
  · rename_i o ho
    refine ⟨o, ho, ?_⟩
    split at h
    · rename_i t y ix hop
      split at h
      · rename_i a' len' cp' k i' e hy hix hu
        split at h
        · rename_i ie hie
          simp only [Option.some.injEq, Prod.mk.injEq] at h
          obtain ⟨rfl, rfl, rfl, rfl⟩ := h
          simp only [LV.den, Value.slice.injEq, Option.some.injEq] at hx
          obtain ⟨rfl, _, _⟩ := hx
          unfold execOp
          simp [hop, act_eval, hy, hix, LV.den, Instr.indexAt, asIntOf, run_underlying hu, h0, h1, sizeOf, typeInfo, hie]
        · cases h
      · rename_i n off len' cp' k i' e hy hix hu
        split at h
        · rename_i ie hie
          simp only [Option.some.injEq, Prod.mk.injEq] at h
          obtain ⟨rfl, rfl, rfl, rfl⟩ := h
          simp only [LV.den, Value.slice.injEq, Option.some.injEq] at hx
          obtain ⟨rfl, _, _⟩ := hx
          unfold execOp
          simp [hop, act_eval, hy, hix, LV.den, Instr.indexAt, asIntOf, run_underlying hu, h0, h1, sizeOf, typeInfo, hie]
        · cases h
      · cases h
    · cases h
  · cases h
/-- an element's place, to read from; N: how many places there are -/
theorem sim_index (x : LV) (len sz : Nat) (i : Int) (N : Nat) (h : idxOf P c = some (x, len, i, sz)) (hN : c.rs.length = N) (h0 : 0 ≤ i) (h1 : i < len) {B o cp : Nat} (hx : x.den ρ = .slice (some ⟨B, o, none⟩) len cp) (hR : Rel T w0 ρ c.rs w) (cells : List LV)
    (hu : (undR N c.rs && (undL N c.tmps && undL N cells)) = true) (hlt : B < w.heap.size) (hcell : ∀ (j : Nat) (v : LV), cells[j]? = some v → w.cell? ⟨B, o + i.toNat * sz + j, none⟩ = some (v.den ρ))
    (hap : ∀ (n : Nat) (r : Reg), c.rs[n]? = some r → r.wr = true → (ρ n).1 = B → False)
    (next : ∀ ρ', Agree N ρ ρ' → ρ' N = (B, o + i.toNat * sz) → Rel T w0 ρ' (c.rs ++ [⟨cells, false⟩]) w → At P Q (nextC c (.ptr N 0) (c.rs ++ [⟨cells, false⟩])) ρ' w) : At P Q c ρ w := by
  subst hN
  obtain ⟨op, ho, hrun⟩ := idxOf_run (w := w) h h0 h1 hx
  simp only [Bool.and_eq_true] at hu
  obtain ⟨ρ', ha, hn, hR'⟩ := hR.open_ hu.1 B (o + i.toNat * sz) cells hu.2.2 false hlt hcell (fun hc => by cases hc) (fun n r hn hw he => by
    rcases hw with hw | hw
    · cases hw
    · exact (hap n r hn hw he).elim)
  refine sim_op op ho (.ptr c.rs.length 0) _ ρ' w ?_ (act_ext ha hu.2.1) (next ρ' ha hn hR')
  rw [hrun]
  congr 3
  simp only [Nm.at_, hn, Addr.add]
  split
  · rename_i hz
    simp [hz]
  · rfl

/-! ### append onto a row of the call's own -/
def appOf (c : Cfg) : Option (TypeId × LV × LV) := match topOp c with
  | some o => match o.op with
    | .call { callee := .builtin .append, args, argTypes } => match args.toList, argTypes.toList with
      | [s, x], [t, t'] => if Nat.beq t t' then some (t, evalL c.tmps s, evalL c.tmps x) else none
      | _, _ => none
    | _ => none
  | none => none
theorem appOf_run {t : TypeId} {s x : LV} (h : appOf c = some (t, s, x)) : ∃ o, topOp c = some o ∧ ∃ ty, ∀ v w', (Builtin.append_ #[t, t] ty #[s.den ρ, x.den ρ]).run P w = .ok v w' → (execOp (act ρ c.tmps).eval o).run P w = .ok (.value v) w' := by
  unfold appOf at h
  split at h
  · rename_i o ho
    refine ⟨o, ho, o.type, fun v w' hrun => ?_⟩
    split at h
    · rename_i args ats hop
      split at h
      · rename_i s' x' t1 t2 hargs hats
        split at h
        · rename_i hb
          have := Nat.eq_of_beq_eq_true hb
          subst this
          simp only [Option.some.injEq, Prod.mk.injEq] at h
          obtain ⟨rfl, rfl, rfl⟩ := h
          have e1 : args = #[s', x'] := Array.ext' hargs
          have e2 : ats = #[t1, t1] := Array.ext' hats
          subst e1 e2
          unfold execOp
          simp [hop, resolve, act_eval, invoke, builtin, hrun]
        · cases h
      · cases h
    · cases h
  · cases h
theorem Rel.grown {rs : List Reg} (hR : Rel T w0 ρ rs w) {w' : World} {row : Option Nat} (hg : w.grownBy w' row) (hreg : ∀ g, row = some g → w0.heap.size ≤ g ∧ ∀ (n : Nat) (r : Reg), rs[n]? = some r → r.cells ≠ [] → (ρ n).1 ≠ g) : Rel T w0 ρ rs w' :=
  hR.kept (S := fun g => row = some g) ⟨hg.os, hg.tape, hg.output, hg.size, fun k hk hn => hg.block k hk (fun e => hn e.symm)⟩ (fun n r hn hne he => (hreg _ he).2 n r hn hne rfl) (fun g hg => .inr (hreg g hg).1)
theorem sim_append (t : TypeId) (s x : LV) (h : appOf c = some (t, s, x)) (hR : Rel T w0 ρ c.rs w) {base : Nat} {e : TypeId} {i : TypeInfo} {z : Value} {size bytes : Nat} (ht : P.underlying t = some (.slice e)) (hi : P.info? e = some i) (hz : i.zero = some z) (hsize : i.size = size) (hby : i.bytes = bytes) (hzs : z.cells.size = size) (hsz : 0 < size)
    {v : Value} {n : Nat} {xs : List Value} (hs : s.den ρ = v) (hown : w.ownsRow base e size v n xs) {ad : Addr} {m cp : Nat} (hx : x.den ρ = .slice (some ad) m cp) (news : List LV) (hl : news.length = m * size) (hnews : ∀ (j : Nat) (u : LV), news[j]? = some u → w.cell? (ad.add j) = some (u.den ρ)) (h1 : news.all oneL = true)
    (h63 : n + m ≤ maxLen) (hbytes : (n + m) * bytes ≤ 140737488355328) (hbase : base ≤ w.heap.size) (hw0 : w0.heap.size ≤ base) (hreg : ∀ g, v.ownBlock = some g → ∀ (k : Nat) (r : Reg), c.rs[k]? = some r → r.cells ≠ [] → (ρ k).1 ≠ g)
    (next : ∀ v' w', w'.ownsRow base e size v' (n + m) (xs ++ denL ρ news) → w.grownBy w' v.ownBlock → (v'.ownBlock = v.ownBlock ∨ v'.ownBlock = some w.heap.size) → Rel T w0 ρ c.rs w' → At P Q (nextC c (.v v') c.rs) ρ w') : At P Q c ρ w := by
  obtain ⟨op, ho, ty, hrun⟩ := appOf_run (ρ := ρ) (w := w) h
  obtain ⟨v', w', hr, h2, h3, _, h5⟩ := run_append_own_at (P := P) (w := w) base t ty e i z size bytes ht hi hz hsize hby hzs hsz v n xs hown ad m cp (denL ρ news) (by rw [denL_length]; exact hl) (fun j u hu => by
      rw [denL_get] at hu
      cases hj : news[j]? with
      | none => rw [hj] at hu; cases hu
      | some u' =>
        rw [hj] at hu
        simp only [Option.map_some, Option.some.injEq] at hu
        subst hu
        exact hnews j u' hj) (fun u hu => by
      rw [denL_eq, List.mem_map] at hu
      obtain ⟨u', hu', rfl⟩ := hu
      exact oneL_den (List.all_eq_true.1 h1 u' hu') ρ) h63 hbytes hbase
  have hR' := hR.grown h3 (fun g hg => ⟨Nat.le_trans hw0 (hown.lt g hg).1, hreg g hg⟩)
  refine sim_op op ho (.v v') c.rs ρ w' (hrun v' w' ?_) rfl (next v' w' h2 h3 h5 hR')
  rw [hs, hx]
  exact hr

/-! ### A region that draws and holds calls -/
def isDraw (c : Cfg) : Bool := match c.k with
  | .code (.region _ _ true) :: _ => true
  | _ => false
def drawId (c : Cfg) : Nat := match c.k with
  | .code (.region id _ _) :: _ => id
  | _ => 0
def drawOps (c : Cfg) : Array Oper := match c.k with
  | .code (.region _ ops _) :: _ => ops
  | _ => #[]
def drawRest (c : Cfg) : List It := match c.k with
  | .code (.region _ _ _) :: k => k
  | _ => []
/-- a region in the midst of its order -/
structure OCfg where
  id : Nat
  ops : Array Oper
  u : Option Nat
  snap : List Reg
  r : List (Nat × Bool)
  d : Bool
  k : List It
  tmps : List LV
  rs : List Reg
def AtO (P : Program) (Q : Exit → Act → World → Prop) (c : OCfg) (ρs ρ : Nm) (w : World) : Prop := wpOrdU P c.ops (post P Q c.k) c.u (Snap ρs c.snap) c.r c.d (act ρ c.tmps) w
abbrev ordC (c : Cfg) (sp : List Nat) : OCfg := ⟨drawId c, drawOps c, gateOf (drawOps c) (ordOf sp (drawOps c)), c.rs, ordOf sp (drawOps c), false, drawRest c, c.tmps, c.rs⟩
/-- what is so in the midst of it -/
structure RelO (T : List Nat) (w0 : World) (c : OCfg) (ρs ρ : Nm) (w : World) : Prop where
  rel : Rel T w0 ρ c.rs w
  agree : Agree c.snap.length ρs ρ
  und : undR c.snap.length c.snap = true
  len : c.snap.length ≤ c.rs.length
  pre : c.d = false → c.rs.take c.snap.length = c.snap
theorem sim_draw [hB : Body P Q fn R] (sp : List Nat) (hd : isDraw c = true) (hok : (drawOk P (drawOps c) (ordOf sp (drawOps c)) (gateOf (drawOps c) (ordOf sp (drawOps c))) && undR c.rs.length c.rs) = true) (hR : Rel T w0 ρ c.rs w)
    (next : RelO T w0 (ordC c sp) ρ ρ w.drew → AtO P Q (ordC c sp) ρ ρ w.drew) : At P Q c ρ w := by
  obtain ⟨k, t, rs⟩ := c
  unfold isDraw at hd
  split at hd
  · rename_i id ops k' hk
    simp only at hk
    subst hk
    simp only [Bool.and_eq_true] at hok
    have hpre : rs.take rs.length = rs := List.take_length
    have hR' := hR.drew
    show (Code.region id ops true).wp P (post P Q k') (act ρ t) w
    exact drawOk_spec (S := Snap ρ rs) hok.1 (hB.pf.post k') (hR'.snap hpre (Agree.refl _ _) hok.2) (next ⟨hR', Agree.refl _ _, hok.2, Nat.le_refl _, fun _ => hpre⟩)
  · cases hd
def goO (P : Program) (hs : List Hint) (c : OCfg) : OCfg × List (LV × LV) := match ordGo P hs c.id c.ops c.u c.snap c.r c.d c.tmps c.rs with
  | ((r, d, t, rs), prs) => (⟨c.id, c.ops, c.u, c.snap, r, d, c.k, t, rs⟩, prs)
theorem sim_ord {c : OCfg} {ρs : Nm} (hs : List Hint) (hR : RelO T w0 c ρs ρ w) (h2 : (goO P hs c).2 = hs.map fun h => (h.old, h.new)) (he : AllEq c.rs.length ρ hs)
    (next : ∀ ρ' w', Moved ρ c.rs w ρ' (goO P hs c).1.rs w' → RelO T w0 (goO P hs c).1 ρs ρ' w' → AtO P Q (goO P hs c).1 ρs ρ' w') : AtO P Q c ρs ρ w := by
  obtain ⟨id, ops, u, snap, r, d, k, t, rs⟩ := c
  unfold goO at h2 next
  generalize hg : ordGo P hs id ops u snap r d t rs = q at h2 next
  obtain ⟨⟨r', d', t', rs'⟩, prs⟩ := q
  simp only at h2 next
  refine ordGo_sound hR.und r d t rs r' d' t' rs' prs ρ w hg (by rw [h2]; exact he.pairs) (Agree.refl _ _) (Nat.le_refl _) hR.rel hR.agree hR.len hR.pre (fun ρ' w' hm hR' ha hp => ?_)
  exact next ρ' w' hm ⟨hR', ha, hR.und, Nat.le_trans hR.len hm.size, hp⟩
/-- the region's end -/
theorem sim_ord_end {c : OCfg} {ρs : Nm} (hr : c.r = []) (h : At P Q ⟨c.k, c.tmps, c.rs⟩ ρ w) : AtO P Q c ρs ρ w := by
  unfold AtO
  rw [hr]
  exact h
def topO (c : OCfg) : Option Oper := match c.r with
  | (i, true) :: _ => match c.ops[i]? with
    | some o => match wantL c.ops c.tmps o with
      | some true => some o
      | _ => none
    | none => none
  | _ => none
def nextOT (c : OCfg) (x : LV) : List LV := match c.r with
  | p :: _ => match c.ops[p.1]? with
    | some o => putL c.tmps o.dst x
    | none => c.tmps
  | [] => c.tmps
def nextOD (c : OCfg) : Bool := match c.r with
  | p :: _ => nextD c.u p c.d
  | [] => c.d
abbrev nextO (c : OCfg) (x : LV) (rs : List Reg) : OCfg := ⟨c.id, c.ops, c.u, c.snap, c.r.tail, nextOD c, c.k, nextOT c x, rs⟩
theorem topO_step {c : OCfg} {ρs : Nm} {o : Oper} (h : topO c = some o) (hn : o.wp P (act ρ c.tmps) w (fun a' w' => ∃ x rs' ρ', a' = act ρ' (putL c.tmps o.dst x) ∧ RelO T w0 (nextO c x rs') ρs ρ' w' ∧ AtO P Q (nextO c x rs') ρs ρ' w') (post P Q c.k)) : AtO P Q c ρs ρ w := by
  obtain ⟨id, ops, u, snap, r, d, k, t, rs⟩ := c
  unfold topO at h
  split at h
  · rename_i i r' hr
    simp only at hr
    subst hr
    split at h
    · rename_i o' ho
      split at h
      · rename_i hw
        simp only [Option.some.injEq] at h
        subst h
        simp only at ho
        unfold AtO
        simp only [wpOrdU, wpOp, ho, wantL_spec hw ρ, if_true]
        left
        refine Oper.wp_mono (fun a' w' hK => ?_) hn
        obtain ⟨x, rs', ρ', ha, hR, hA⟩ := hK
        have hT : nextOT ⟨id, ops, u, snap, (i, true) :: r', d, k, t, rs⟩ x = putL t o'.dst x := by simp only [nextOT, ho]
        refine ⟨fun hd => hR.rel.snap (hR.pre hd) hR.agree hR.und, ?_⟩
        rw [ha, ← hT]
        exact hA
      · cases h
    · cases h
  · cases h
def callO (P : Program) (c : OCfg) : Option (FuncId × List LV) := match topO c with
  | some o => callOp P o c.tmps
  | none => none
def BackO (P : Program) (Q : Exit → Act → World → Prop) (T : List Nat) (w0 : World) (c : OCfg) (ρs ρ : Nm) (e : Ending) (w'' : World) : Prop :=
  ∃ (x : LV) (rs'' : List Reg) (ρ'' : Nm), e = .returned (x.den ρ'') ∧ act ρ'' c.tmps = act ρ c.tmps ∧ RelO T w0 (nextO c x rs'') ρs ρ'' w'' ∧ AtO P Q (nextO c x rs'') ρs ρ'' w''
theorem sim_ord_call {c : OCfg} {ρs : Nm} (f : FuncId) (args : List LV) (hc : callO P c = some (f, args)) (h : Calls P f (denL ρ args).toArray w (BackO P Q T w0 c ρs ρ)) : AtO P Q c ρs ρ w := by
  unfold callO at hc
  split at hc
  · rename_i o ho
    refine topO_step (T := T) (w0 := w0) ho ?_
    unfold Oper.wp
    rw [callOp_run hc]
    simp only [Oper.upon]
    refine h.mono ?_
    rintro e w'' ⟨x, rs'', ρ'', rfl, hs, hR, hA⟩
    exact ⟨x, rs'', ρ'', putL_act hs o.dst x x rfl, hR, hA⟩
  · cases hc
end
end

section
open Go Go.RowKit

abbrev LI (z : Int) : LV := .v (.int .i64 z)
abbrev LS (s : ByteArray) : LV := .v (.string s)
abbrev LB (b : Bool) : LV := .v (.bool b)
def ρ0 : Nm := fun _ => (0, 0)
theorem Rel.start (T : List Nat) (w : World) (ρ : Nm) : Rel T w ρ [] w :=
  ⟨Keeps.refl _ _, fun n r hn => by simp at hn, fun n r hn => by simp at hn, fun n r hn => by simp at hn, fun n m r r' hn => by simp at hn⟩
theorem Rel.cast {T : List Nat} {w0 w : World} {ρ : Nm} {rs rs' : List Reg} (h : Rel T w0 ρ rs w) (e : rs = rs') : Rel T w0 ρ rs' w := e ▸ h
theorem Kept.of_keeps {T : List Nat} {w w' : World} (h : Keeps T w w') : Kept (· ∈ T) w w' := h.kept
theorem Rel.toBelow {w0 w : World} {ρ : Nm} {rs : List Reg} (h : Rel [] w0 ρ rs w) : Below w0.heap.size w0 w := h.keeps.below (by simp) (Nat.le_refl _)

theorem Rel.none_ {T : List Nat} {w0 w : World} {ρ : Nm} {rs : List Reg} (h : Rel T w0 ρ rs w) : Rel T w0 ρ [] w :=
  ⟨h.keeps, fun n r hn => by simp at hn, fun n r hn => by simp at hn, fun n r hn => by simp at hn, fun n m r r' hn => by simp at hn⟩
def roR (rs : List Reg) : List Reg := rs.map fun r => ⟨r.cells, false⟩
theorem Rel.ro {T : List Nat} {w0 w : World} {ρ : Nm} {rs : List Reg} (h : Rel T w0 ρ rs w) : Rel T w0 ρ (roR rs) w := by
  have hg : ∀ (n : Nat) (r : Reg), (roR rs)[n]? = some r → ∃ q, rs[n]? = some q ∧ r = ⟨q.cells, false⟩ := by
    intro n r hn
    unfold roR at hn
    rw [List.getElem?_map] at hn
    cases hq : rs[n]? with
    | none => rw [hq] at hn; cases hn
    | some q =>
      rw [hq] at hn
      simp only [Option.map_some, Option.some.injEq] at hn
      exact ⟨q, rfl, hn.symm⟩
  refine ⟨h.keeps, fun n r hn => ?_, fun n r hn i v hv => ?_, fun n r hn hw => ?_, fun n m r r' hn hm hne hw => ?_⟩
  · obtain ⟨q, hq, rfl⟩ := hg n r hn
    exact h.lt n q hq
  · obtain ⟨q, hq, rfl⟩ := hg n r hn
    exact h.cell n q hq i v hv
  · obtain ⟨q, hq, rfl⟩ := hg n r hn
    cases hw
  · obtain ⟨q, hq, rfl⟩ := hg n r hn
    cases hw
theorem wrS_ro {ρ : Nm} {rs : List Reg} {g : Nat} (h : wrS ρ (roR rs) g) : False := by
  obtain ⟨n, r, hn, hw, _⟩ := h
  unfold roR at hn
  rw [List.getElem?_map] at hn
  cases hq : rs[n]? with
  | none => rw [hq] at hn; cases hn
  | some q =>
    rw [hq] at hn
    simp only [Option.map_some, Option.some.injEq] at hn
    rw [← hn] at hw
    cases hw
theorem own_kept {S : Nat → Prop} {w w' : World} {base : Nat} {e : TypeId} {size n : Nat} {v : Value} {xs : List Value} (h : w.ownsRow base e size v n xs) (hk : Kept S w w') (hn : ∀ g, v.ownBlock = some g → ¬ S g) : w'.ownsRow base e size v n xs := by
  refine ⟨h.1, ?_⟩
  rcases h.2 with h2 | ⟨g, cap, cur, rfl, hb, hg, r⟩
  · exact .inl h2
  · refine .inr ⟨g, cap, cur, rfl, hb, ?_, r⟩
    rw [hk.block g (by rcases Nat.lt_or_ge g w.heap.size with hl | hl; exact hl; rw [Array.getElem?_eq_none hl] at hg; cases hg) (hn g rfl)]
    exact hg

def allEmpty (rs : List Reg) : Bool := rs.isEmpty
theorem allEmpty_spec {rs : List Reg} (h : allEmpty rs = true) : rs = [] := by
  cases rs with
  | nil => rfl
  | cons _ _ => cases h
theorem noReg {rs : List Reg} (h : allEmpty rs = true) {k : Nat} {r : Reg} (hk : rs[k]? = some r) : False := by
  rw [allEmpty_spec h] at hk
  simp at hk
def allRo (rs : List Reg) : Bool := rs.all fun r => !r.wr
theorem wrS_allRo {ρ : Nm} {rs : List Reg} (h : allRo rs = true) {g : Nat} (hw : wrS ρ rs g) : False := by
  obtain ⟨n, r, hn, hr, _⟩ := hw
  have := List.all_eq_true.1 h r (List.mem_of_getElem? hn)
  rw [hr] at this
  cases this
/-- the places that may not be written and of which something is known -/
def roIdx : List Reg → Nat → List Nat
  | [], _ => []
  | r :: rs, i => if r.wr || r.cells.isEmpty then roIdx rs (i + 1) else i :: roIdx rs (i + 1)
theorem roIdx_mem : ∀ (rs : List Reg) (i k : Nat) (r : Reg), rs[k]? = some r → r.wr = false → r.cells ≠ [] → i + k ∈ roIdx rs i
  | [], _, _, _, h, _, _ => by simp at h
  | q :: rs, i, 0, r, h, hw, hc => by
    simp only [List.getElem?_cons_zero, Option.some.injEq] at h
    subst h
    have : (q.wr || q.cells.isEmpty) = false := by
      rw [hw]
      simpa using hc
    simp only [roIdx, this]
    simp
  | q :: rs, i, k + 1, r, h, hw, hc => by
    simp only [List.getElem?_cons_succ] at h
    have ih := roIdx_mem rs (i + 1) k r h hw hc
    have e : i + 1 + k = i + (k + 1) := by omega
    rw [e] at ih
    simp only [roIdx]
    split
    · exact ih
    · exact List.mem_cons_of_mem _ ih
/-- a block that was there is none of the new places -/
theorem reg_far {ρ ρ' : Nm} {rs rs' : List Reg} {w w' : World} (hm : Moved ρ rs w ρ' rs' w') (hro : allRo rs = true) (l : List Nat) (hl : roIdx rs' 0 = l) {g : Nat} (hg : g < w.heap.size) (hidx : ∀ k ∈ l, (ρ' k).1 ≠ g) :
    ∀ (k : Nat) (r : Reg), rs'[k]? = some r → r.cells ≠ [] → (ρ' k).1 ≠ g := by
  intro k r hk hne e
  cases hw : r.wr with
  | true =>
    rcases hm.wrs g ⟨k, r, hk, hw, e⟩ with h | h
    · exact wrS_allRo hro h
    · omega
  | false =>
    have := roIdx_mem rs' 0 k r hk hw hne
    rw [hl, Nat.zero_add] at this
    exact hidx k this e
theorem Moved.agN {ρ ρ' : Nm} {rs rs' : List Reg} {w w' : World} (hm : Moved ρ rs w ρ' rs' w') (N : Nat) (h : Nat.ble N rs.length = true) : Agree N ρ ρ' := fun n hn => hm.agree n (Nat.lt_of_lt_of_le hn (Nat.le_of_ble_eq_true h))
theorem Agree.tr {N : Nat} {ρ ρ' ρ'' : Nm} (h : Agree N ρ ρ') (h' : Agree N ρ' ρ'') : Agree N ρ ρ'' := fun n hn => (h' n hn).trans (h n hn)
theorem Moved.at_ {ρ ρ' : Nm} {rs rs' : List Reg} {w w' : World} (hm : Moved ρ rs w ρ' rs' w') (n : Nat) (h : Nat.blt n rs.length = true) : ρ' n = ρ n := hm.agree n (blt_lt h)
/-- a place that came into view is no new block -/
theorem Moved.ext_ro {N : Nat} {ρ ρ' : Nm} {rs : List Reg} {w : World} {cells : List LV} (ha : Agree N ρ ρ') (hN : rs.length = N) : Moved ρ rs w ρ' (rs ++ [⟨cells, false⟩]) w := by
  subst hN
  have hk := Kept.refl (wrS ρ rs) w
  refine ⟨ha, hk, fun g hg => ?_, by simp, Still.refl _ _, fun g i _ ho n r hn hw e => ?_, OutR.pre ha, fun n r hn hw => .inl ?_⟩
  rotate_left
  · rcases Nat.lt_or_ge n rs.length with hl | hl
    · rw [List.getElem?_append_left hl] at hn
      rw [ha n hl] at e ⊢
      exact ho n r hn hw e
    · rw [List.getElem?_append_right hl] at hn
      have h0 : n - rs.length = 0 := by
        rcases Nat.eq_zero_or_pos (n - rs.length) with h0 | h0
        · exact h0
        · rw [List.getElem?_eq_none (by simp; omega)] at hn; cases hn
      rw [h0] at hn
      simp at hn
      rw [← hn] at hw
      cases hw
  · rcases Nat.lt_or_ge n rs.length with hl | hl
    · rw [List.getElem?_append_left hl] at hn
      exact ⟨r, hn, hw, rfl⟩
    · rw [List.getElem?_append_right hl] at hn
      have h0 : n - rs.length = 0 := by
        rcases Nat.eq_zero_or_pos (n - rs.length) with h0 | h0
        · exact h0
        · rw [List.getElem?_eq_none (by simp; omega)] at hn; cases hn
      rw [h0] at hn
      simp at hn
      rw [← hn] at hw
      cases hw
  obtain ⟨n, r, hn, hw, e⟩ := hg
  rcases Nat.lt_or_ge n rs.length with hl | hl
  · rw [List.getElem?_append_left hl] at hn
    exact .inl ⟨n, r, hn, hw, by rw [← e, ha n hl]⟩
  · rw [List.getElem?_append_right hl] at hn
    have h0 : n - rs.length = 0 := by
      rcases Nat.eq_zero_or_pos (n - rs.length) with h0 | h0
      · exact h0
      · rw [List.getElem?_eq_none (by simp; omega)] at hn; cases hn
    rw [h0] at hn
    simp at hn
    rw [← hn] at hw
    cases hw
theorem Rel.forget {T : List Nat} {w0 w : World} {ρ : Nm} {rs : List Reg} (h : Rel T w0 ρ rs w) (f : Nat → Bool) : Rel T w0 ρ (rs.mapIdx fun i r => if f i then ⟨[], false⟩ else r) w := by
  have hg : ∀ (n : Nat) (r : Reg), (rs.mapIdx fun i r => if f i then (⟨[], false⟩ : Reg) else r)[n]? = some r → ∃ q, rs[n]? = some q ∧ (r = ⟨[], false⟩ ∨ r = q) := by
    intro n r hn
    rw [List.getElem?_mapIdx] at hn
    cases hq : rs[n]? with
    | none => rw [hq] at hn; cases hn
    | some q =>
      rw [hq] at hn
      simp only [Option.map_some, Option.some.injEq] at hn
      refine ⟨q, rfl, ?_⟩
      split at hn
      · exact .inl hn.symm
      · exact .inr hn.symm
  refine ⟨h.keeps, fun n r hn => ?_, fun n r hn i v hv => ?_, fun n r hn hw => ?_, fun n m r r' hn hm hne hw he => ?_⟩
  · obtain ⟨q, hq, _⟩ := hg n r hn
    exact h.lt n q hq
  · obtain ⟨q, hq, rfl | rfl⟩ := hg n r hn
    · simp at hv
    · exact h.cell n _ hq i v hv
  · obtain ⟨q, hq, rfl | rfl⟩ := hg n r hn
    · cases hw
    · exact h.wr n _ hq hw
  · obtain ⟨q, hq, rfl | rfl⟩ := hg n r hn
    · cases hw
    · obtain ⟨q', hq', rfl | rfl⟩ := hg m r' hm
      · have := h.apart n m _ q' hq hq' hne hw he
        simp only [List.length_nil]
        have h3 := h.apart n m _ q' hq hq' hne hw he
        omega
      · exact h.apart n m _ _ hq hq' hne hw he

/-- what is still to be done at the n-th loop's head -/
def seek : Code → Nat → List It → Nat × Option (List It)
  | .loop b, n, k => match n with
    | 0 => (0, some (.code (.loop b) :: k))
    | n + 1 => seek b n k
  | .seq a b, n, k => match seek a n (.code b :: k) with
    | (m, some r) => (m, some r)
    | (m, none) => seek b m k
  | .block id c, n, k => seek c n (.blk id :: k)
  | .cond _ a b, n, k => match seek a n k with
    | (m, some r) => (m, some r)
    | (m, none) => seek b m k
  | _, n, _ => (n, none)
def loopK (fn : Func) (n : Nat) : List It := match (seek (bodyOf fn) n []).2 with
  | some k => k
  | none => []

/-- n temporaries: these are known, the others are junk -/
def tmplJ : Nat → Nat → List (Nat × LV) → List (Option LV)
  | 0, _, _ => []
  | n + 1, i, sets => (match sets.find? (fun p => Nat.beq p.1 i) with | some p => some p.2 | none => none) :: tmplJ n (i + 1) sets
section
variable {P : Program} {Q : Exit → Act → World → Prop} {T : List Nat} {w0 w : World} {ρ : Nm} {c : Cfg}
/-- of the places no more need be known -/
theorem sim_rs (rs : List Reg) (h : At P Q ⟨c.k, c.tmps, rs⟩ ρ w) : At P Q c ρ w := h
/-- ways that meet: what is known there -/
theorem sim_to (k : List It) (tm : List (Option LV)) (rs : List Reg) (hk : c.k = k) (hm : mergeT tm c.tmps = c.tmps) (hl : tm.length = c.tmps.length) (next : ∀ d, At P Q ⟨k, fillJ tm d 0, rs⟩ ρ w) : At P Q c ρ w := by
  have := next (fun j => (evalL c.tmps (.tmp j)).den ρ)
  unfold At at *
  rw [act_of_merge ρ hm hl, hk]
  exact this
end
end

section
open Go Go.RowKit

section
variable {P : Program} {Q : Exit → Act → World → Prop} {T : List Nat} {w0 w : World} {ρ : Nm} {c : Cfg} {fn : Func} {R : Ending → World → Prop}

/-- an operation whose value does not hang on the world -/
theorem sim_pure (o : Oper) (ho : topOp c = some o) (v : Value) (hrun : (execOp (act ρ c.tmps).eval o).run P w = .ok (.value v) w) (next : At P Q (nextC c (.v v) c.rs) ρ w) : At P Q c ρ w :=
  sim_op o ho (.v v) c.rs ρ w hrun rfl next
/-- an element's address, as a plain value -/
theorem sim_addr (x : LV) (len sz : Nat) (i : Int) (h : idxOf P c = some (x, len, i, sz)) (h0 : 0 ≤ i) (h1 : i < len) {B o cp : Nat} (hx : x.den ρ = .slice (some ⟨B, o, none⟩) len cp)
    (next : At P Q (nextC c (.v (.pointer (some ⟨B, o + i.toNat * sz, none⟩))) c.rs) ρ w) : At P Q c ρ w := by
  obtain ⟨op, ho, hrun⟩ := idxOf_run (w := w) h h0 h1 hx
  refine sim_pure op ho _ ?_ next
  rw [hrun]
  congr 3
  simp only [Addr.add]
  split
  · rename_i hz
    simp [hz]
  · rfl

theorem Back.of (x : LV) {ρ : Nm} {rs : List Reg} {w'' : World} (_ : Rel T w0 ρ rs w'') {v : Value} (h : v = x.den ρ) (next : At P Q (nextC c x rs) ρ w'') : Back P Q c ρ (.returned v) w'' := ⟨x, rs, ρ, by rw [h], rfl, next⟩
theorem BackO.of {c : OCfg} {ρs ρ : Nm} (x : LV) {rs : List Reg} {w'' : World} (hR : RelO T w0 (nextO c x rs) ρs ρ w'') {v : Value} (h : v = x.den ρ) (next : AtO P Q (nextO c x rs) ρs ρ w'') : BackO P Q T w0 c ρs ρ (.returned v) w'' := ⟨x, rs, ρ, by rw [h], rfl, hR, next⟩

/-! ### A function value is called -/
structure Enters (P : Program) (f : FuncId) : Prop where
  is : ∃ fn, P.funcs[f]? = some fn ∧ fn.body.isNone = false ∧ (fn.name == "runtime.NumGoroutine") = false
def calleeOf (c : Cfg) : Option (LV × List LV) := match topOp c with
  | some o => match o.op with
    | .call { callee := .value f, args, .. } => some (evalL c.tmps f, args.toList.map (evalL c.tmps))
    | _ => none
  | none => none
theorem sim_callF (f : FuncId) (caps : Array Value) (fl : LV) (args : List LV) (hc : calleeOf c = some (fl, args)) (hd : fl.den ρ = .func (.func f) #[] caps) (hf : Enters P f) (h : Calls P f ((denL ρ args).toArray ++ caps) w (Back P Q c ρ)) : At P Q c ρ w := by
  unfold calleeOf at hc
  split at hc
  · rename_i o ho
    split at hc
    · rename_i fo as ats hop
      simp only [Option.some.injEq, Prod.mk.injEq] at hc
      obtain ⟨rfl, rfl⟩ := hc
      obtain ⟨fn, hfn, hb, hnm⟩ := hf.is
      refine top_step ho ?_
      unfold Oper.wp
      have e1 : as.map (act ρ c.tmps).eval = (denL ρ (as.toList.map (evalL c.tmps))).toArray := Array.ext' (by rw [Array.toList_map, evals_toList (act_eval ρ c.tmps)])
      have hrun : (execOp (act ρ c.tmps).eval o).run P w = .ok (.enter f ((denL ρ (as.toList.map (evalL c.tmps))).toArray ++ caps)) w := by
        unfold execOp
        simp only [hop, resolve, e1, act_eval, hd, Deferred.ofValue, Sem.run_bind, Sem.run_pure, Result.andThen_ok, invoke, callFunc_run hfn hb hnm]
        congr 2
        apply Array.ext'
        simp
      rw [hrun]
      simp only [Oper.upon]
      refine h.mono ?_
      rintro e w'' ⟨x, rs'', ρ'', rfl, hs, hA⟩
      exact nextAt_of ho hs hA
    · cases hc
  · cases hc

theorem calleeOp_run {o : Oper} {fo : Operand} {as : Array Operand} {ats : Array TypeId} (hop : o.op = .call { callee := .value fo, args := as, argTypes := ats }) {ts : List LV} {f : FuncId} {caps : Array Value} (hd : (evalL ts fo).den ρ = .func (.func f) #[] caps) (hf : Enters P f) (w : World) :
    (execOp (act ρ ts).eval o).run P w = .ok (.enter f ((denL ρ (as.toList.map (evalL ts))).toArray ++ caps)) w := by
  obtain ⟨fn, hfn, hb, hnm⟩ := hf.is
  have e1 : as.map (act ρ ts).eval = (denL ρ (as.toList.map (evalL ts))).toArray := Array.ext' (by rw [Array.toList_map, evals_toList (act_eval ρ ts)])
  unfold execOp
  simp only [hop, resolve, e1, act_eval, hd, Deferred.ofValue, Sem.run_bind, Sem.run_pure, Result.andThen_ok, invoke, callFunc_run hfn hb hnm]
  congr 2
  apply Array.ext'
  simp
def calleeO (c : OCfg) : Option (LV × List LV) := match topO c with
  | some o => match o.op with
    | .call { callee := .value f, args, .. } => some (evalL c.tmps f, args.toList.map (evalL c.tmps))
    | _ => none
  | none => none
theorem sim_ord_callF {c : OCfg} {ρs : Nm} (f : FuncId) (caps : Array Value) (fl : LV) (args : List LV) (hc : calleeO c = some (fl, args)) (hd : fl.den ρ = .func (.func f) #[] caps) (hf : Enters P f) (h : Calls P f ((denL ρ args).toArray ++ caps) w (BackO P Q T w0 c ρs ρ)) : AtO P Q c ρs ρ w := by
  unfold calleeO at hc
  split at hc
  · rename_i o ho
    split at hc
    · rename_i fo as ats hop
      simp only [Option.some.injEq, Prod.mk.injEq] at hc
      obtain ⟨rfl, rfl⟩ := hc
      refine topO_step (T := T) (w0 := w0) ho ?_
      unfold Oper.wp
      rw [calleeOp_run hop hd hf]
      simp only [Oper.upon]
      refine h.mono ?_
      rintro e w'' ⟨x, rs'', ρ'', rfl, hs, hR, hA⟩
      exact ⟨x, rs'', ρ'', putL_act hs o.dst x x rfl, hR, hA⟩
    · cases hc
  · cases hc
/-- a call that is walked into, in a region that draws -/
theorem sim_ord_into {c : OCfg} {ρs : Nm} {f : FuncId} {fn' : Func} (hf : P.funcs[f]? = some fn') (args : List LV) (hc : callO P c = some (f, args)) (hb : fn'.body.isSome = true) (h : At P (bodyPost P fn' (BackO P Q T w0 c ρs ρ)) (startC fn' args c.rs) ρ w) : AtO P Q c ρs ρ w :=
  sim_ord_call f args hc (sim_enter hf ρ args c.rs hb rfl h)
theorem sim_ord_out {c0 : OCfg} {ρs ρ0 : Nm} {Q' : Exit → Act → World → Prop} [hB : Body P Q' fn (BackO P Q T w0 c0 ρs ρ0)] (N : Nat) (x : LV) (hR : Rel T w0 ρ c.rs w) (h1 : atRet c = true) (h2 : resL P fn c = some x) (hag : Agree N ρ0 ρ) (hu : undL N c0.tmps = true)
    (hO : RelO T w0 (nextO c0 x c.rs) ρs ρ w) (next : AtO P Q (nextO c0 x c.rs) ρs ρ w) : At P Q' c ρ w :=
  sim_ret x hR h1 h2 ⟨x, c.rs, ρ, rfl, act_ext hag hu, hO, next⟩
/-- an operation that only reads, by hand, in a region that draws -/
def topQ (c : OCfg) : Option Oper := match c.r with
  | (i, false) :: _ => match c.ops[i]? with
    | some o => match wantL c.ops c.tmps o with
      | some true => some o
      | _ => none
    | none => none
  | _ => none
theorem sim_ord_pure {c : OCfg} {ρs : Nm} (o : Oper) (ho : topQ c = some o) (x : LV) (hR : RelO T w0 c ρs ρ w) (hrun : ∀ w', YS o (Snap ρs c.snap) w' → (execOp (act ρ c.tmps).eval o).run P w' = .ok (.value (x.den ρ)) w')
    (next : RelO T w0 (nextO c x c.rs) ρs ρ w → AtO P Q (nextO c x c.rs) ρs ρ w) : AtO P Q c ρs ρ w := by
  obtain ⟨id, ops, u, snap, r, d, k, t, rs⟩ := c
  unfold topQ at ho
  split at ho
  · rename_i i r' hr
    simp only at hr
    subst hr
    split at ho
    · rename_i o' ho'
      split at ho
      · rename_i hw
        simp only [Option.some.injEq] at ho
        subst ho
        simp only at ho' hw
        have hT : nextOT ⟨id, ops, u, snap, (i, false) :: r', d, k, t, rs⟩ x = putL t o'.dst x := by simp only [nextOT, ho']
        have hA := next ⟨hR.rel, hR.agree, hR.und, hR.len, hR.pre⟩
        unfold AtO at hA ⊢
        refine ⟨o', x.den ρ, ho', .inl ⟨wantL_spec hw ρ, hrun⟩, ?_⟩
        rw [putL_act rfl o'.dst x x rfl, ← hT]
        exact hA
      · cases ho
    · cases ho
  · cases ho
/-- the element whose place is asked for, in a region that draws -/
def idxQ (P : Program) (c : OCfg) : Option (LV × Nat × Int × Nat) := match topQ c with
  | some o => match o.op with
    | .indexAddr t x ix => match evalL c.tmps x, evalL c.tmps ix, P.underlying t with
      | .v (.slice (some a) len cp), .v (.int _ i), some (.slice e) => match P.info? e with
        | some ie => some (.v (.slice (some a) len cp), len, i, ie.size)
        | none => none
      | .slc n off len cp, .v (.int _ i), some (.slice e) => match P.info? e with
        | some ie => some (.slc n off len cp, len, i, ie.size)
        | none => none
      | _, _, _ => none
    | _ => none
  | none => none
theorem idxQ_run {c : OCfg} {x : LV} {len sz : Nat} {i : Int} (h : idxQ P c = some (x, len, i, sz)) (h0 : 0 ≤ i) (h1 : i < len) {a : Addr} {cp : Nat} (hx : x.den ρ = .slice (some a) len cp) :
    ∃ o, topQ c = some o ∧ ∀ w, (execOp (act ρ c.tmps).eval o).run P w = .ok (.value (.pointer (some (a.add (i.toNat * sz))))) w := by
  unfold idxQ at h
  split at h
  · rename_i o ho
    refine ⟨o, ho, fun w => ?_⟩
    split at h
    · rename_i t y ix hop
      split at h
      · rename_i a' len' cp' k i' e hy hix hu
        split at h
        · rename_i ie hie
          simp only [Option.some.injEq, Prod.mk.injEq] at h
          obtain ⟨rfl, rfl, rfl, rfl⟩ := h
          simp only [LV.den, Value.slice.injEq, Option.some.injEq] at hx
          obtain ⟨rfl, _, _⟩ := hx
          unfold execOp
          simp [hop, act_eval, hy, hix, LV.den, Instr.indexAt, asIntOf, run_underlying hu, h0, h1, sizeOf, typeInfo, hie]
        · cases h
      · rename_i n off len' cp' k i' e hy hix hu
        split at h
        · rename_i ie hie
          simp only [Option.some.injEq, Prod.mk.injEq] at h
          obtain ⟨rfl, rfl, rfl, rfl⟩ := h
          simp only [LV.den, Value.slice.injEq, Option.some.injEq] at hx
          obtain ⟨rfl, _, _⟩ := hx
          unfold execOp
          simp [hop, act_eval, hy, hix, LV.den, Instr.indexAt, asIntOf, run_underlying hu, h0, h1, sizeOf, typeInfo, hie]
        · cases h
      · cases h
    · cases h
  · cases h
/-- an element's place that has come into view before -/
theorem sim_ord_index {c : OCfg} {ρs : Nm} (x : LV) (len sz : Nat) (i : Int) (m off : Nat) (h : idxQ P c = some (x, len, i, sz)) (h0 : 0 ≤ i) (h1 : i < len) {B o cp : Nat} (hx : x.den ρ = .slice (some ⟨B, o, none⟩) len cp) (hR : RelO T w0 c ρs ρ w) (hm : ρ.at_ m off = ⟨B, o + i.toNat * sz, none⟩)
    (next : RelO T w0 (nextO c (.ptr m off) c.rs) ρs ρ w → AtO P Q (nextO c (.ptr m off) c.rs) ρs ρ w) : AtO P Q c ρs ρ w := by
  obtain ⟨op, ho, hrun⟩ := idxQ_run h h0 h1 hx
  refine sim_ord_pure op ho (.ptr m off) hR (fun w' _ => ?_) next
  rw [hrun w']
  congr 3
  simp only [hm, Addr.add]
  split
  · rename_i hz
    simp [hz]
  · rfl
/-- an element's place that has come into view before -/
theorem sim_place (x : LV) (len sz : Nat) (i : Int) (m off : Nat) (h : idxOf P c = some (x, len, i, sz)) (h0 : 0 ≤ i) (h1 : i < len) {B o cp : Nat} (hx : x.den ρ = .slice (some ⟨B, o, none⟩) len cp) (hm : ρ.at_ m off = ⟨B, o + i.toNat * sz, none⟩)
    (next : At P Q (nextC c (.ptr m off) c.rs) ρ w) : At P Q c ρ w := by
  obtain ⟨op, ho, hrun⟩ := idxOf_run (w := w) h h0 h1 hx
  refine sim_op op ho (.ptr m off) c.rs ρ w ?_ rfl next
  rw [hrun]
  congr 3
  simp only [hm, Addr.add]
  split
  · rename_i hz
    simp [hz]
  · rfl
theorem nextOD_of {c : OCfg} (h : nextOD c = false) : c.d = false := by
  unfold nextOD at h
  split at h
  · unfold nextD at h
    split at h
    · simp only [Bool.or_eq_false_iff] at h
      exact h.1
    · exact h
  · exact h
/-- behind a call that has made memory at most -/
theorem RelO.call {c : OCfg} {ρs : Nm} (hR : RelO T w0 c ρs ρ w) {w' : World} (hb : Below w.heap.size w w') (x : LV) : RelO T w0 (nextO c x c.rs) ρs ρ w' := ⟨hR.rel.below hb, hR.agree, hR.und, hR.len, fun h => hR.pre (nextOD_of h)⟩
/-- a known place of a row whose place has a name -/
theorem sim_idx (n off len cp i sz : Nat) (h : idxOf P c = some (.slc n off len cp, len, (i : Int), sz)) (h1 : i < len) (next : At P Q (nextC c (.ptr n (off + i * sz)) c.rs) ρ w) : At P Q c ρ w := by
  obtain ⟨op, ho, hrun⟩ := idxOf_run (ρ := ρ) (w := w) h (by omega) (by omega) rfl
  refine sim_op op ho (.ptr n (off + i * sz)) c.rs ρ w ?_ rfl next
  rw [hrun, Int.toNat_natCast, at_add]
  rfl
/-- a place comes into view -/
theorem sim_open (N : Nat) (hN : c.rs.length = N) (hR : Rel T w0 ρ c.rs w) (B o : Nat) (cells : List LV) (hu : (undR N c.rs && (undL N c.tmps && undL N cells)) = true) (hlt : B < w.heap.size) (hcell : ∀ (j : Nat) (v : LV), cells[j]? = some v → w.cell? ⟨B, o + j, none⟩ = some (v.den ρ))
    (hap : ∀ (n : Nat) (r : Reg), c.rs[n]? = some r → r.wr = true → (ρ n).1 = B → False)
    (next : ∀ ρ', Agree N ρ ρ' → ρ' N = (B, o) → Rel T w0 ρ' (c.rs ++ [⟨cells, false⟩]) w → At P Q ⟨c.k, c.tmps, c.rs ++ [⟨cells, false⟩]⟩ ρ' w) : At P Q c ρ w := by
  subst hN
  simp only [Bool.and_eq_true] at hu
  obtain ⟨ρ', ha, hn, hR'⟩ := hR.open_ hu.1 B o cells hu.2.2 false hlt hcell (fun hc => by cases hc) (fun n r hn hw he => by
    rcases hw with hw | hw
    · cases hw
    · exact (hap n r hn hw he).elim)
  have := next ρ' ha hn hR'
  unfold At at this ⊢
  simp only at this
  rw [act_ext ha hu.2.1] at this
  exact this

/-! ### Blocks known whole -/
theorem heap_setRow_other (w : World) (g k : Nat) (cs : Array Value) (h : k ≠ g) : (w.setRow g cs).heap[k]? = w.heap[k]? := setRow_other w g k cs h
theorem Kept.setRow (w : World) (g : Nat) (cs : Array Value) : Kept (fun x => x = g) w (w.setRow g cs) :=
  ⟨rfl, rfl, rfl, by simp, fun k _ hn => setRow_other w g k cs hn⟩
theorem Blk.setRow {g : Nat} {t : TypeId} {cur : Array Value} (h : Blk w g t cur) (cs : Array Value) : Blk (w.setRow g cs) g t cs := setRow_heap w g cur cs t (0, 0) h
theorem Blk.kept {S : Nat → Prop} {w' : World} {g : Nat} {t : TypeId} {cs : Array Value} (h : Blk w g t cs) (hk : Kept S w w') (hg : ¬ S g) : Blk w' g t cs := (hk.block g h.lt hg).trans h
def overlay (l : List Value) (o : Nat) (vs : List Value) : List Value := l.take o ++ vs ++ l.drop (o + vs.length)
theorem overlay_length (l : List Value) (o : Nat) (vs : List Value) (h : o + vs.length ≤ l.length) : (overlay l o vs).length = l.length := by
  simp only [overlay, List.length_append, List.length_take, List.length_drop]
  omega
/-- the store that stands next -/
def storeOf (P : Program) (c : Cfg) : Option (LV × List LV) := match topOp c with
  | some o => match o.op with
    | .store t a x => match P.info? t with
      | some i => if Nat.beq (evalL c.tmps x).cells.length i.size && (evalL c.tmps x).cells.all oneL then some (evalL c.tmps a, (evalL c.tmps x).cells) else none
      | none => none
    | _ => none
  | none => none
theorem sim_store {a : LV} {vs : List LV} (h : storeOf P c = some (a, vs)) (hR : Rel T w0 ρ c.rs w) {g o : Nat} (ha : a.den ρ = .pointer (some ⟨g, o, none⟩)) {t : TypeId} {cur : List Value} (hb : Blk w g t cur.toArray) (hlen : o + vs.length ≤ cur.length)
    (hT : g ∈ T ∨ w0.heap.size ≤ g) (hreg : ∀ (k : Nat) (r : Reg), c.rs[k]? = some r → r.cells ≠ [] → (ρ k).1 ≠ g)
    (next : ∀ w', Blk w' g t (overlay cur o (denL ρ vs)).toArray → Kept (fun x => x = g) w w' → Rel T w0 ρ c.rs w' → At P Q (nextC c (.v undef) c.rs) ρ w') : At P Q c ρ w := by
  unfold storeOf at h
  split at h
  · rename_i op ho
    split at h
    · rename_i ty ad x hop
      split at h
      · rename_i i hi
        split at h
        · rename_i hc
          simp only [Bool.and_eq_true] at hc
          simp only [Option.some.injEq, Prod.mk.injEq] at h
          obtain ⟨rfl, rfl⟩ := h
          have hsz := Nat.eq_of_beq_eq_true hc.1
          have hrun := run_storeCells_at (P := P) g o t (denL ρ (evalL c.tmps x).cells) 0 cur.toArray w hb (by rw [denL_length, Nat.add_zero]; simpa using hlen) (fun v hv => by
            rw [denL_eq, List.mem_map] at hv
            obtain ⟨u, hu, rfl⟩ := hv
            exact oneL_den (List.all_eq_true.1 hc.2 u hu) ρ)
          simp only [Nat.add_zero] at hrun
          have hk : Kept (fun x => x = g) w (w.setRow g (overlay cur o (denL ρ (evalL c.tmps x).cells)).toArray) := Kept.setRow w g _
          have hR' := hR.kept hk (fun n r hn hne he => hreg n r hn hne he) (fun y hy => by rw [hy]; exact hT)
          refine top_step ho ?_
          unfold Oper.wp
          have hx : (execOp (act ρ c.tmps).eval op).run P w = .ok .skip (w.setRow g (overlay cur o (denL ρ (evalL c.tmps x).cells)).toArray) := by
            unfold execOp
            have hs : (LV.den ρ (evalL c.tmps x)).cells.size = i.size := by rw [cells_size]; exact hsz
            simp only [hop, act_eval, ha, Instr.storeAt, Instr.sureAddr, storeVar, Sem.run_bind, Sem.run_pure, Result.andThen_ok, sizeOf, typeInfo, run_program, hi, hs, LV.den_cells, ne_eq, not_true_eq_false, if_false, hrun]
            rfl
          rw [hx]
          simp only [Oper.upon]
          exact nextAt_of (x := .v undef) ho rfl (next _ (hb.setRow _) hk hR')
        · cases h
      · cases h
    · cases h
  · cases h
/-- clear(s) that stands next -/
def clearOf (c : Cfg) : Option (TypeId × LV) := match topOp c with
  | some o => match o.op with
    | .call { callee := .builtin .clear, args, argTypes } => match args.toList, argTypes.toList with
      | [s], [t] => some (t, evalL c.tmps s)
      | _, _ => none
    | _ => none
  | none => none
theorem clearOf_run {t : TypeId} {s : LV} (h : clearOf c = some (t, s)) : ∃ o, topOp c = some o ∧ ∃ ty, ∀ v w', (Builtin.clear_ #[t] ty #[s.den ρ]).run P w = .ok v w' → (execOp (act ρ c.tmps).eval o).run P w = .ok (.value v) w' := by
  unfold clearOf at h
  split at h
  · rename_i o ho
    refine ⟨o, ho, o.type, fun v w' hrun => ?_⟩
    split at h
    · rename_i args ats hop
      split at h
      · rename_i s' t1 hargs hats
        simp only [Option.some.injEq, Prod.mk.injEq] at h
        obtain ⟨rfl, rfl⟩ := h
        have e1 : args = #[s'] := Array.ext' hargs
        have e2 : ats = #[t1] := Array.ext' hats
        subst e1 e2
        unfold execOp
        simp [hop, resolve, act_eval, invoke, builtin, hrun]
      · cases h
    · cases h
  · cases h
theorem zeroCells_size (z : Array Value) (n : Nat) : (Builtin.zeroCells z n).size = n * z.size := by simp [Builtin.zeroCells]
theorem zeroCells_one (z : Array Value) (n : Nat) (h : z.toList.all (·.oneCell') = true) : ∀ v ∈ (Builtin.zeroCells z n).toList, v.oneCell' = true := by
  intro v hv
  unfold Builtin.zeroCells at hv
  simp only [Array.toList_map, List.mem_map, Array.mem_toList_iff, Array.mem_range] at hv
  obtain ⟨i, hi, rfl⟩ := hv
  have hz : 0 < z.size := by
    rcases Nat.eq_zero_or_pos z.size with h0 | h0
    · rw [h0] at hi; simp at hi
    · exact h0
  have hm : i % z.size < z.size := Nat.mod_lt _ hz
  rw [getElem!_pos z _ hm]
  exact List.all_eq_true.1 h _ (by simp)
/-- clear of a row's end | of nothing -/
theorem sim_clear {ty e : TypeId} {s : LV} (h : clearOf c = some (ty, s)) (ht : P.underlying ty = some (.slice e)) {i : TypeInfo} {z : Value} (hi : P.info? e = some i) (hz : i.zero = some z) (hzo : z.cells.toList.all (·.oneCell') = true) (hR : Rel T w0 ρ c.rs w) {A : Option Addr} {n cp : Nat} (hs : s.den ρ = .slice A n cp)
    {g o : Nat} {t : TypeId} {cur : List Value} (hb : Blk w g t cur.toArray) (hA : 0 < n → A = some ⟨g, o, none⟩) (hlen : o + n * z.cells.size ≤ cur.length)
    (hT : g ∈ T ∨ w0.heap.size ≤ g) (hreg : ∀ (k : Nat) (r : Reg), c.rs[k]? = some r → r.cells ≠ [] → (ρ k).1 ≠ g)
    (next : ∀ w' vs, vs.length = n * z.cells.size → Blk w' g t (overlay cur o vs).toArray → Kept (fun x => x = g) w w' → Rel T w0 ρ c.rs w' → At P Q (nextC c (.v (.tuple #[])) c.rs) ρ w') : At P Q c ρ w := by
  obtain ⟨op, ho, ty', hrun⟩ := clearOf_run (P := P) (ρ := ρ) (w := w) h
  rcases Nat.eq_zero_or_pos n with h0 | h0
  · subst h0
    have hb2 : overlay cur o [] = cur := by simp [overlay]
    refine sim_pure op ho (.tuple #[]) (hrun _ w ?_) (next w [] (by simp) (by rw [hb2]; exact hb) (Kept.refl _ _) hR)
    rw [hs]
    cases A <;> simp [Builtin.clear_, run_underlying ht]
  · rw [hA h0] at hs
    have hl : (Builtin.zeroCells z.cells n).toList.length = n * z.cells.size := by rw [Array.length_toList, zeroCells_size]
    have hst := run_storeCells_at (P := P) g o t (Builtin.zeroCells z.cells n).toList 0 cur.toArray w hb (by rw [hl, Nat.add_zero]; simpa using hlen) (zeroCells_one _ _ hzo)
    simp only [Nat.add_zero] at hst
    have hk : Kept (fun x => x = g) w (w.setRow g (overlay cur o (Builtin.zeroCells z.cells n).toList).toArray) := Kept.setRow w g _
    have hR' := hR.kept hk (fun n r hn hne he => hreg n r hn hne he) (fun y hy => by rw [hy]; exact hT)
    refine sim_op op ho (.v (.tuple #[])) c.rs ρ _ (hrun _ _ ?_) rfl (next _ _ hl (hb.setRow _) hk hR')
    rw [hs]
    obtain ⟨m, rfl⟩ : ∃ m, n = m + 1 := ⟨n - 1, by omega⟩
    simp only [Builtin.clear_, List.getElem?_toArray, List.getElem?_cons_zero, Sem.run_bind, run_underlying ht, Result.andThen_ok, zeroValue, typeInfo, run_program, hi, hz, Sem.run_pure, hst]
    rfl
/-- the reslicing that stands next -/
def sliceOf (c : Cfg) : Option (TypeId × LV × List LV × List LV) := match topOp c with
  | some o => match o.op with
    | .slice t x lo hi none => some (t, evalL c.tmps x, lo.toList.map (evalL c.tmps), hi.toList.map (evalL c.tmps))
    | _ => none
  | none => none
def bndL (d : Nat) : List LV → Option Int
  | [] => some d
  | [.v (.int _ z)] => some z
  | _ => none
theorem bndL_cases {d : Nat} {lo : Option Operand} {z : Int} {ts : List LV} (h : bndL d (lo.toList.map (evalL ts)) = some z) (ρ : Nm) : (lo = none ∧ z = d) ∨ ∃ x k, lo = some x ∧ (act ρ ts).eval x = .int k z := by
  cases lo with
  | none =>
    simp only [Option.toList_none, List.map_nil, bndL, Option.some.injEq] at h
    exact .inl ⟨rfl, h.symm⟩
  | some x =>
    simp only [Option.toList_some, List.map_cons, List.map_nil] at h
    right
    generalize hx : evalL ts x = y at h
    unfold bndL at h
    split at h
    · rename_i heq; cases heq
    · rename_i k z' heq
      simp only [List.cons.injEq, and_true] at heq
      simp only [Option.some.injEq] at h
      refine ⟨x, k, rfl, ?_⟩
      rw [act_eval, hx, heq, h]
      rfl
    · cases h
theorem sim_slice {ty e : TypeId} {x : LV} {lo hi : List LV} (h : sliceOf c = some (ty, x, lo, hi)) (ht : P.underlying ty = some (.slice e)) {i : TypeInfo} (hi' : P.info? e = some i) {A : Option Addr} {n cp : Nat} (hx : x.den ρ = .slice A n cp) (l r : Nat)
    (hl : bndL 0 lo = some (l : Int)) (hr : bndL n hi = some (r : Int)) (h1 : l ≤ r) (h2 : r ≤ cp) (next : At P Q (nextC c (.v (.slice (if cp = l then A else A.map (·.add (l * i.size))) (r - l) (cp - l))) c.rs) ρ w) : At P Q c ρ w := by
  unfold sliceOf at h
  split at h
  · rename_i op ho
    split at h
    · rename_i t y lo' hi2 hop
      simp only [Option.some.injEq, Prod.mk.injEq] at h
      obtain ⟨rfl, rfl, rfl, rfl⟩ := h
      refine sim_pure op ho _ ?_ next
      have c1 := bndL_cases hl ρ
      have c2 := bndL_cases hr ρ
      unfold execOp
      simp only [hop, act_eval, hx, Instr.sliceAt, Instr.slice, Sem.run_bind, run_underlying ht, Result.andThen_ok]
      rcases c1 with ⟨rfl, e1⟩ | ⟨x1, k1, rfl, e1⟩ <;> rcases c2 with ⟨rfl, e2⟩ | ⟨x2, k2, rfl, e2⟩
      · have : l = 0 := by omega
        have : r = n := by omega
        subst l r
        simp [Instr.sliceBounds, sizeOf, typeInfo, hi']
      · have : l = 0 := by omega
        subst l
        simp only [act_eval] at e2
        simp [Instr.sliceBounds, Instr.sliceBound, asIntOf, sizeOf, typeInfo, hi', act_eval, e2, h2]
      · have : r = n := by omega
        subst r
        simp only [act_eval] at e1
        simp [Instr.sliceBounds, Instr.sliceBound, asIntOf, sizeOf, typeInfo, hi', act_eval, e1, h1]
      · simp only [act_eval] at e1 e2
        simp [Instr.sliceBounds, Instr.sliceBound, asIntOf, sizeOf, typeInfo, hi', act_eval, e1, e2, h1, h2]
    · cases h
  · cases h
/-- a new empty row -/
def newRowOf (P : Program) (c : Cfg) : Option TypeId := match topOp c with
  | some o => match o.op with
    | .buildSlice t 0 parts => match parts.toList, P.underlying t with
      | [], some (.slice e) => match P.info? e with
        | some _ => some e
        | none => none
      | _, _ => none
    | _ => none
  | none => none
theorem sim_newRow {e : TypeId} (h : newRowOf P c = some e) (hR : Rel T w0 ρ c.rs w) (next : Rel T w0 ρ c.rs (w.alloc (.cells #[] e)) → At P Q (nextC c (.v (.slice (some ⟨w.heap.size, 0, none⟩) 0 0)) c.rs) ρ (w.alloc (.cells #[] e))) : At P Q c ρ w := by
  unfold newRowOf at h
  split at h
  · rename_i op ho
    split at h
    · rename_i t parts hop
      split at h
      · rename_i e' hp hu
        split at h
        · rename_i i hi
          simp only [Option.some.injEq] at h
          subst h
          have hR' := hR.kept (Kept.alloc w (fun _ => False) (.cells #[] e')) (fun _ _ _ _ h => h) (fun _ h => h.elim)
          refine sim_op op ho (.v (.slice (some ⟨w.heap.size, 0, none⟩) 0 0)) c.rs ρ _ ?_ rfl (next hR')
          have hp' : parts = #[] := Array.ext' hp
          subst hp'
          unfold execOp
          have e0 : ∀ f : Nat → Value, Array.map f (Array.range 0) = #[] := fun f => by apply Array.ext <;> simp
          simp [hop, Instr.buildSlice, run_underlying hu, sizeOf, typeInfo, hi, Instr.fill, newRow, LV.den, e0]
        · cases h
      · cases h
    · cases h
  · cases h
theorem own_new (w : World) (e : TypeId) (size : Nat) : (w.alloc (.cells #[] e)).ownsRow w.heap.size e size (.slice (some ⟨w.heap.size, 0, none⟩) 0 0) 0 [] :=
  ⟨by simp, .inr ⟨w.heap.size, 0, #[], rfl, Nat.le_refl _, heap_alloc_new w _, Nat.le_refl _, Nat.zero_le _, by simp, by simp⟩⟩
end
end

section
open Go Go.RowKit

structure Own (ρ : Nm) (rs : List Reg) (w : World) (base : Nat) (e : TypeId) (size : Nat) (v : Value) (n : Nat) (xs : List Value) : Prop where
  own : w.ownsRow base e size v n xs
  far : ∀ g, v.ownBlock = some g → ¬ wrS ρ rs g
theorem Rel.wr_lt {T : List Nat} {w0 w : World} {ρ : Nm} {rs : List Reg} (hR : Rel T w0 ρ rs w) {g : Nat} (h : wrS ρ rs g) : g < w.heap.size := by
  obtain ⟨n, r, hn, hw, rfl⟩ := h
  exact hR.lt n r hn
theorem own_ge {w : World} {base : Nat} {e : TypeId} {size n : Nat} {v : Value} {xs : List Value} (h : w.ownsRow base e size v n xs) {g : Nat} (hg : v.ownBlock = some g) : base ≤ g := by
  rcases h.2 with ⟨rfl, _⟩ | ⟨g', cap, cur, rfl, hb, _⟩
  · cases hg
  · injection hg with hg
    rw [← hg]
    exact hb
theorem own_lt {w : World} {base : Nat} {e : TypeId} {size n : Nat} {v : Value} {xs : List Value} (h : w.ownsRow base e size v n xs) {g : Nat} (hg : v.ownBlock = some g) : g < w.heap.size := by
  rcases h.2 with ⟨rfl, _⟩ | ⟨g', cap, cur, rfl, hb, hh, r⟩
  · cases hg
  · injection hg with hg
    rw [← hg]
    exact (Array.getElem?_eq_some_iff.1 hh).1
theorem Own.start {T : List Nat} {w0 w w' : World} {ρ : Nm} {rs : List Reg} {e : TypeId} {size n : Nat} {v : Value} {xs : List Value} (hR : Rel T w0 ρ rs w) (h : w'.ownsRow w.heap.size e size v n xs) : Own ρ rs w' w.heap.size e size v n xs :=
  ⟨h, fun g hg hw => by have h1 := own_ge h hg; have h2 := hR.wr_lt hw; omega⟩
theorem Own.moved {ρ ρ' : Nm} {rs rs' : List Reg} {w w' : World} {base : Nat} {e : TypeId} {size n : Nat} {v : Value} {xs : List Value} (h : Own ρ rs w base e size v n xs) (hm : Moved ρ rs w ρ' rs' w') : Own ρ' rs' w' base e size v n xs :=
  ⟨own_kept h.own hm.kept h.far, fun g hg hw => by
    rcases hm.wrs g hw with h1 | h1
    · exact h.far g hg h1
    · have := own_lt h.own hg; omega⟩
theorem Own.below {ρ : Nm} {rs : List Reg} {w w' : World} {base : Nat} {e : TypeId} {size n : Nat} {v : Value} {xs : List Value} (h : Own ρ rs w base e size v n xs) (hb : Below w.heap.size w w') : Own ρ rs w' base e size v n xs :=
  ⟨own_kept (S := fun _ => False) h.own ⟨hb.os, hb.tape, hb.output, hb.size, fun k hk _ => hb.block k hk⟩ (fun _ _ h => h), h.far⟩
theorem Own.reads {ρ : Nm} {rs : List Reg} {w : World} {base : Nat} {e : TypeId} {size n cap : Nat} {A : Option Addr} {xs : List Value} (h : Own ρ rs w base e size (.slice A n cap) n xs) : Reads w w.heap.size size A n xs := Reads.of_own h.own
end

section
open Go Go.RowKit

/-! ### A row that lay there before grows -/
section
variable {P : Program} {fn : Func} {Q : Exit → Act → World → Prop} {T : List Nat} {w0 w : World} {ρ : Nm} {c : Cfg}
theorem Rel.grownT {rs : List Reg} (hR : Rel T w0 ρ rs w) {w' : World} {row : Option Nat} (hg : w.grownBy w' row) (hreg : ∀ g, row = some g → (g ∈ T ∨ w0.heap.size ≤ g) ∧ ∀ (n : Nat) (r : Reg), rs[n]? = some r → r.cells ≠ [] → (ρ n).1 ≠ g) : Rel T w0 ρ rs w' :=
  hR.kept (S := fun g => row = some g) ⟨hg.os, hg.tape, hg.output, hg.size, fun k hk hn => hg.block k hk (fun e => hn e.symm)⟩ (fun n r hn hne he => (hreg _ he).2 n r hn hne rfl) (fun g hg => (hreg g hg).1)
theorem sim_appendT (t : TypeId) (s x : LV) (h : appOf c = some (t, s, x)) (hR : Rel T w0 ρ c.rs w) {base : Nat} {e : TypeId} {i : TypeInfo} {z : Value} {size bytes : Nat} (ht : P.underlying t = some (.slice e)) (hi : P.info? e = some i) (hz : i.zero = some z) (hsize : i.size = size) (hby : i.bytes = bytes) (hzs : z.cells.size = size) (hsz : 0 < size)
    {v : Value} {n : Nat} {xs : List Value} (hs : s.den ρ = v) (hown : w.ownsRow base e size v n xs) {ad : Addr} {m cp : Nat} (hx : x.den ρ = .slice (some ad) m cp) (news : List LV) (hl : news.length = m * size) (hnews : ∀ (j : Nat) (u : LV), news[j]? = some u → w.cell? (ad.add j) = some (u.den ρ)) (h1 : news.all oneL = true)
    (h63 : n + m ≤ maxLen) (hbytes : (n + m) * bytes ≤ 140737488355328) (hbase : base ≤ w.heap.size) (hw0 : ∀ g, v.ownBlock = some g → g ∈ T ∨ w0.heap.size ≤ g) (hreg : ∀ g, v.ownBlock = some g → ∀ (k : Nat) (r : Reg), c.rs[k]? = some r → r.cells ≠ [] → (ρ k).1 ≠ g)
    (next : ∀ v' w', w'.ownsRow base e size v' (n + m) (xs ++ denL ρ news) → w.grownBy w' v.ownBlock → (v'.ownBlock = v.ownBlock ∨ v'.ownBlock = some w.heap.size) → Rel T w0 ρ c.rs w' → At P Q (nextC c (.v v') c.rs) ρ w') : At P Q c ρ w := by
  obtain ⟨op, ho, ty, hrun⟩ := appOf_run (ρ := ρ) (w := w) h
  obtain ⟨v', w', hr, h2, h3, _, h5⟩ := run_append_own_at (P := P) (w := w) base t ty e i z size bytes ht hi hz hsize hby hzs hsz v n xs hown ad m cp (denL ρ news) (by rw [denL_length]; exact hl) (fun j u hu => by
      rw [denL_get] at hu
      cases hj : news[j]? with
      | none => rw [hj] at hu; cases hu
      | some u' =>
        rw [hj] at hu
        simp only [Option.map_some, Option.some.injEq] at hu
        subst hu
        exact hnews j u' hj) (fun u hu => by
      rw [denL_eq, List.mem_map] at hu
      obtain ⟨u', hu', rfl⟩ := hu
      exact oneL_den (List.all_eq_true.1 h1 u' hu') ρ) h63 hbytes hbase
  have hR' := hR.grownT h3 (fun g hg => ⟨hw0 g hg, hreg g hg⟩)
  refine sim_op op ho (.v v') c.rs ρ w' (hrun v' w' ?_) rfl (next v' w' h2 h3 h5 hR')
  rw [hs, hx]
  exact hr
end
end

section
open Go Go.RowKit

section
variable {P : Program} {Q : Exit → Act → World → Prop} {T : List Nat} {w0 w : World} {ρ : Nm} {c : Cfg} {fn : Func} {R : Ending → World → Prop}
theorem act_set (ρ : Nm) (tmps : List LV) (t : Nat) (x : LV) (h : (evalL tmps (.tmp t)).den ρ = x.den ρ) : act ρ (tmps.set t x) = act ρ tmps := by
  unfold act
  congr 2
  apply List.ext_getElem?
  intro i
  rw [denL_get, denL_get, List.getElem?_set]
  by_cases e : t = i
  · subst e
    simp only [if_true, evalL] at h ⊢
    split
    · rename_i hl
      rw [List.getElem?_eq_getElem hl] at h ⊢
      simp only [Option.map_some, h]
    · rename_i hl
      rw [List.getElem?_eq_none (by omega)]
  · simp only [e, if_false]
abbrev setC (c : Cfg) (t : Nat) (x : LV) : Cfg := ⟨c.k, c.tmps.set t x, c.rs⟩
/-- a temporary's value, written otherwise -/
theorem sim_set (t : Nat) (x : LV) (h : (evalL c.tmps (.tmp t)).den ρ = x.den ρ) (next : At P Q (setC c t x) ρ w) : At P Q c ρ w := by
  unfold At at next ⊢
  simp only [act_set ρ c.tmps t x h] at next
  exact next
theorem sim_know (t : Nat) (b v : Bool) (h : evalL c.tmps (.tmp t) = LB b) (hb : b = v) (next : At P Q (setC c t (LB v)) ρ w) : At P Q c ρ w := sim_set t (LB v) (by rw [h, hb]) next
theorem sim_int (t : Nat) {k : IntKind} (a b : Int) (h : evalL c.tmps (.tmp t) = .v (.int k a)) (hb : a = b) (next : At P Q (setC c t (.v (.int k b))) ρ w) : At P Q c ρ w := sim_set t _ (by rw [h, hb]) next
theorem sim_fork (t : Nat) (b : Bool) (h : evalL c.tmps (.tmp t) = LB b) (ht : b = true → At P Q (setC c t (LB true)) ρ w) (hf : b = false → At P Q (setC c t (LB false)) ρ w) : At P Q c ρ w := by
  cases hb : b with
  | true => exact sim_know t b true h hb (ht hb)
  | false => exact sim_know t b false h hb (hf hb)

abbrev setO (c : OCfg) (t : Nat) (x : LV) : OCfg := ⟨c.id, c.ops, c.u, c.snap, c.r, c.d, c.k, c.tmps.set t x, c.rs⟩
theorem RelO.set_ {c : OCfg} {ρs : Nm} (hR : RelO T w0 c ρs ρ w) (t : Nat) (x : LV) : RelO T w0 (setO c t x) ρs ρ w := ⟨hR.rel, hR.agree, hR.und, hR.len, hR.pre⟩
theorem sim_setO {c : OCfg} {ρs : Nm} (hR : RelO T w0 c ρs ρ w) (t : Nat) (x : LV) (h : (evalL c.tmps (.tmp t)).den ρ = x.den ρ) (next : RelO T w0 (setO c t x) ρs ρ w → AtO P Q (setO c t x) ρs ρ w) : AtO P Q c ρs ρ w := by
  have := next (hR.set_ t x)
  unfold AtO at this ⊢
  simp only [act_set ρ c.tmps t x h] at this
  exact this
theorem sim_knowO {c : OCfg} {ρs : Nm} (hR : RelO T w0 c ρs ρ w) (t : Nat) (b v : Bool) (h : evalL c.tmps (.tmp t) = LB b) (hb : b = v) (next : RelO T w0 (setO c t (LB v)) ρs ρ w → AtO P Q (setO c t (LB v)) ρs ρ w) : AtO P Q c ρs ρ w := sim_setO hR t (LB v) (by rw [h, hb]) next
theorem sim_intO {c : OCfg} {ρs : Nm} (hR : RelO T w0 c ρs ρ w) (t : Nat) {k : IntKind} (a b : Int) (h : evalL c.tmps (.tmp t) = .v (.int k a)) (hb : a = b) (next : RelO T w0 (setO c t (.v (.int k b))) ρs ρ w → AtO P Q (setO c t (.v (.int k b))) ρs ρ w) : AtO P Q c ρs ρ w := sim_setO hR t _ (by rw [h, hb]) next
theorem sim_forkO {c : OCfg} {ρs : Nm} (hR : RelO T w0 c ρs ρ w) (t : Nat) (b : Bool) (h : evalL c.tmps (.tmp t) = LB b) (ht : b = true → RelO T w0 (setO c t (LB true)) ρs ρ w → AtO P Q (setO c t (LB true)) ρs ρ w)
    (hf : b = false → RelO T w0 (setO c t (LB false)) ρs ρ w → AtO P Q (setO c t (LB false)) ρs ρ w) : AtO P Q c ρs ρ w := by
  cases hb : b with
  | true => exact sim_knowO hR t b true h hb (ht hb)
  | false => exact sim_knowO hR t b false h hb (hf hb)

/-- an order, so many steps of it -/
def ordGoN (P : Program) (hs : List Hint) (id : Nat) (ops : Array Oper) (u : Option Nat) (snap : List Reg) : Nat → List (Nat × Bool) → Bool → List LV → List Reg → (List (Nat × Bool) × Bool × List LV × List Reg) × List (LV × LV)
  | 0, r, d, t, rs => ((r, d, t, rs), [])
  | _ + 1, [], d, t, rs => (([], d, t, rs), [])
  | n + 1, p :: r, d, t, rs => match ordStep P hs id ops u snap p d t rs with
    | some (t', rs', prs) => spine t' fun t' => match ordGoN P hs id ops u snap n r (nextD u p d) t' rs' with
      | (c, prs2) => (c, prs ++ prs2)
    | none => ((p :: r, d, t, rs), [])
theorem ordGoN_sound {hs : List Hint} {id : Nat} {ops : Array Oper} {u : Option Nat} {snap : List Reg} {ρs ρ0 : Nm} {k0 : Nat} (hu : undR snap.length snap = true) :
    ∀ (n : Nat) (r : List (Nat × Bool)) (d : Bool) (t : List LV) (rs : List Reg) (r' : List (Nat × Bool)) (d' : Bool) (t' : List LV) (rs' : List Reg) (prs : List (LV × LV)) (ρ : Nm) (w : World),
    ordGoN P hs id ops u snap n r d t rs = ((r', d', t', rs'), prs) → Pairs k0 ρ0 prs → Agree k0 ρ0 ρ → k0 ≤ rs.length → Rel T w0 ρ rs w → Agree snap.length ρs ρ → snap.length ≤ rs.length → (d = false → rs.take snap.length = snap) →
    (∀ ρ' w', Moved ρ rs w ρ' rs' w' → Rel T w0 ρ' rs' w' → Agree snap.length ρs ρ' → (d' = false → rs'.take snap.length = snap) → wpOrdU P ops Q u (Snap ρs snap) r' d' (act ρ' t') w') → wpOrdU P ops Q u (Snap ρs snap) r d (act ρ t) w
  | 0, r, d, t, rs, r', d', t', rs', prs, ρ, w, h, _, _, _, hR, ha, _, hpre, next => by
    simp only [ordGoN, Prod.mk.injEq] at h
    obtain ⟨⟨rfl, rfl, rfl, rfl⟩, rfl⟩ := h
    exact next ρ w (Moved.refl _ _ _) hR ha hpre
  | n + 1, [], d, t, rs, r', d', t', rs', prs, ρ, w, h, _, _, _, hR, ha, _, hpre, next => by
    simp only [ordGoN, Prod.mk.injEq] at h
    obtain ⟨⟨rfl, rfl, rfl, rfl⟩, rfl⟩ := h
    exact next ρ w (Moved.refl _ _ _) hR ha hpre
  | n + 1, p :: r, d, t, rs, r', d', t', rs', prs, ρ, w, h, hp, h0, hk, hR, ha, hb, hpre, next => by
    simp only [ordGoN] at h
    split at h
    · rename_i t1 rs1 prs1 h1
      rw [spine_eq] at h
      generalize h2 : ordGoN P hs id ops u snap n r (nextD u p d) t1 rs1 = q at h
      obtain ⟨⟨r2, d2, t2, rs2⟩, prs2⟩ := q
      simp only [Prod.mk.injEq] at h
      obtain ⟨⟨rfl, rfl, rfl, rfl⟩, rfl⟩ := h
      refine ordStep_sound h1 (fun q hq => hp q (List.mem_append_left _ hq)) h0 hk hR ha hu hb hpre (fun ρ' w' hm hR' hpre' => ?_)
      exact ordGoN_sound hu n r _ t1 rs1 _ _ _ _ prs2 ρ' w' h2 (fun q hq => hp q (List.mem_append_right _ hq)) (h0.trans hm.agree hk) (Nat.le_trans hk hm.size) hR' (ha.trans hm.agree hb) (Nat.le_trans hb hm.size) hpre'
        (fun ρ'' w'' hm' hR'' => next ρ'' w'' (hm.trans hm') hR'')
    · simp only [Prod.mk.injEq] at h
      obtain ⟨⟨rfl, rfl, rfl, rfl⟩, rfl⟩ := h
      exact next ρ w (Moved.refl _ _ _) hR ha hpre
def goN (P : Program) (hs : List Hint) (n : Nat) (c : OCfg) : OCfg × List (LV × LV) := match ordGoN P hs c.id c.ops c.u c.snap n c.r c.d c.tmps c.rs with
  | ((r, d, t, rs), prs) => (⟨c.id, c.ops, c.u, c.snap, r, d, c.k, t, rs⟩, prs)
theorem sim_ordN {c : OCfg} {ρs : Nm} (n : Nat) (hs : List Hint) (hR : RelO T w0 c ρs ρ w) (h2 : (goN P hs n c).2 = hs.map fun h => (h.old, h.new)) (he : AllEq c.rs.length ρ hs)
    (next : ∀ ρ' w', Moved ρ c.rs w ρ' (goN P hs n c).1.rs w' → RelO T w0 (goN P hs n c).1 ρs ρ' w' → AtO P Q (goN P hs n c).1 ρs ρ' w') : AtO P Q c ρs ρ w := by
  obtain ⟨id, ops, u, snap, r, d, k, t, rs⟩ := c
  unfold goN at h2 next
  generalize hg : ordGoN P hs id ops u snap n r d t rs = q at h2 next
  obtain ⟨⟨r', d', t', rs'⟩, prs⟩ := q
  simp only at h2 next
  refine ordGoN_sound hR.und n r d t rs r' d' t' rs' prs ρ w hg (by rw [h2]; exact he.pairs) (Agree.refl _ _) (Nat.le_refl _) hR.rel hR.agree hR.len hR.pre (fun ρ' w' hm hR' ha hp => ?_)
  exact next ρ' w' hm ⟨hR', ha, hR.und, Nat.le_trans hR.len hm.size, hp⟩
theorem sim_ord_endR {c : OCfg} {ρs : Nm} (hR : RelO T w0 c ρs ρ w) (hr : c.r = []) (h : Rel T w0 ρ c.rs w → At P Q ⟨c.k, c.tmps, c.rs⟩ ρ w) : AtO P Q c ρs ρ w := sim_ord_end hr (h hR.rel)
theorem ba_eq {a b : ByteArray} (h : (a.toList == b.toList) = true) : a = b := by
  have h2 : a.toList = b.toList := eq_of_beq h
  have key : ∀ c : ByteArray, c.toList = c.data.toList := fun c => by rw [ByteArray.toList_eq]
  rw [key, key] at h2
  have h3 : a.data = b.data := Array.ext' h2
  cases a
  cases b
  simp only at h3
  rw [h3]
theorem ba_ne {a b : ByteArray} (h : (a.toList == b.toList) = false) : a ≠ b := fun e => by
  rw [e] at h
  simp at h
theorem nb_t {b : Bool} (h : (!b) = true) : b = false := by cases b <;> simp_all
theorem nb_f {b : Bool} (h : (!b) = false) : b = true := by cases b <;> simp_all
theorem bne_t {a b : Int} (h : (a != b) = true) : a ≠ b := by simpa using h
theorem bne_f {a b : Int} (h : (a != b) = false) : a = b := by simpa [bne] using h
theorem retv_int {k : IntKind} {a b : Int} (h : a = b) : Ending.returned (.int k a) = .returned (.int k b) := by rw [h]
theorem retv_bool {a b : Bool} (h : a = b) : Ending.returned (.bool a) = .returned (.bool b) := by rw [h]
theorem retv_str {a b : ByteArray} (h : a = b) : Ending.returned (.string a) = .returned (.string b) := by rw [h]
theorem retv_tup2 {a b a' b' : Value} (h : a = a') (h' : b = b') : Ending.returned (.tuple #[a, b]) = .returned (.tuple #[a', b']) := by rw [h, h']
theorem retv_tup3 {a b c a' b' c' : Value} (h : a = a') (h' : b = b') (h'' : c = c') : Ending.returned (.tuple #[a, b, c]) = .returned (.tuple #[a', b', c']) := by rw [h, h', h'']
theorem val_int {k : IntKind} {a b : Int} (h : a = b) : Value.int k a = .int k b := by rw [h]
theorem val_bool {a b : Bool} (h : a = b) : Value.bool a = .bool b := by rw [h]
theorem val_str {a b : ByteArray} (h : a = b) : Value.string a = .string b := by rw [h]
def cellL (rs : List Reg) (n i : Nat) : Option LV := match rs[n]? with
  | some r => r.cells[i]?
  | none => none
theorem Rel.at_cell {rs : List Reg} (hR : Rel T w0 ρ rs w) (n i : Nat) (x : LV) (h : cellL rs n i = some x) : w.cell? (ρ.at_ n i) = some (x.den ρ) := by
  unfold cellL at h
  split at h
  · rename_i r hr
    exact hR.cell n r hr i x h
  · cases h
theorem RelO.at_cell {c : OCfg} {ρs : Nm} (hR : RelO T w0 c ρs ρ w) (n i : Nat) (x : LV) (h : cellL c.rs n i = some x) : w.cell? (ρ.at_ n i) = some (x.den ρ) := hR.rel.at_cell n i x h
/-- into a called function, and out of it -/
theorem Moved.castL {ρ ρ' : Nm} {rs rs1 rs' : List Reg} {w w' : World} (h : Moved ρ rs1 w ρ' rs' w') (e : rs1 = rs) : Moved ρ rs w ρ' rs' w' := e ▸ h
theorem Agree.step {N : Nat} {ρ ρ' ρ'' : Nm} {rs rs' : List Reg} {w w' : World} (h : Agree N ρ ρ') (hm : Moved ρ' rs w ρ'' rs' w') (hN : Nat.ble N rs.length = true) : Agree N ρ ρ'' := h.tr (hm.agN N hN)
/-- the first N places lie as they lay at ρ0 -/
structure Ag (N : Nat) (ρ0 ρ : Nm) (rs : List Reg) : Prop where
  ag : Agree N ρ0 ρ
  le : N ≤ rs.length
theorem Ag.start (N : Nat) (ρ : Nm) (rs : List Reg) (h : Nat.ble N rs.length = true) : Ag N ρ ρ rs := ⟨Agree.refl _ _, Nat.le_of_ble_eq_true h⟩
theorem Ag.moved {N : Nat} {ρ0 ρ ρ' : Nm} {rs rs' : List Reg} {w w' : World} (h : Ag N ρ0 ρ rs) (hm : Moved ρ rs w ρ' rs' w') : Ag N ρ0 ρ' rs' := ⟨h.ag.tr (hm.agree.mono h.le), Nat.le_trans h.le hm.size⟩
theorem Ag.at_ {N : Nat} {ρ0 ρ : Nm} {rs : List Reg} (h : Ag N ρ0 ρ rs) (n : Nat) (hn : n < N) : ρ n = ρ0 n := h.ag n hn
theorem Rel.ag_ {rs : List Reg} (_ : Rel T w0 ρ rs w) (N : Nat) (h : Nat.ble N rs.length = true) : Ag N ρ ρ rs := .start N ρ rs h
theorem RelO.with {c : OCfg} {ρs : Nm} {w' : World} (hR : RelO T w0 c ρs ρ w) (hR' : Rel T w0 ρ c.rs w') (x : LV) : RelO T w0 (nextO c x c.rs) ρs ρ w' := ⟨hR', hR.agree, hR.und, hR.len, fun h => hR.pre (nextOD_of h)⟩
theorem RelO.ag_ {c : OCfg} {ρs : Nm} (_ : RelO T w0 c ρs ρ w) (N : Nat) (h : Nat.ble N c.rs.length = true) : Ag N ρ ρ c.rs := .start N ρ c.rs h
theorem sim_outE {c0 : Cfg} {ρ0 : Nm} (N : Nat) (x : LV) (hR : Rel T w0 ρ c.rs w) (h1 : c.k = []) (h2 : resL P fn c = some x) (hag : Agree N ρ0 ρ) (hu : undL N c0.tmps = true)
    (next : At P Q (nextC c0 x c.rs) ρ w) : At P (bodyPost P fn (Back P Q c0 ρ0)) c ρ w := sim_end x hR h1 h2 ⟨x, c.rs, ρ, rfl, act_ext hag hu, next⟩
theorem sim_ord_outE {c0 : OCfg} {ρs ρ0 : Nm} (N : Nat) (x : LV) (hR : Rel T w0 ρ c.rs w) (h1 : c.k = []) (h2 : resL P fn c = some x) (hag : Agree N ρ0 ρ) (hu : undL N c0.tmps = true)
    (hO : RelO T w0 (nextO c0 x c.rs) ρs ρ w) (next : AtO P Q (nextO c0 x c.rs) ρs ρ w) : At P (bodyPost P fn (BackO P Q T w0 c0 ρs ρ0)) c ρ w :=
  sim_end x hR h1 h2 ⟨x, c.rs, ρ, rfl, act_ext hag hu, hO, next⟩
theorem RelO.out {c0 : OCfg} {ρs ρ0 : Nm} {wc : World} (hO : RelO T w0 c0 ρs ρ0 wc) {rs : List Reg} (hR : Rel T w0 ρ rs w) {N : Nat} (hag : Agree N ρ0 ρ) (hN : Nat.ble c0.snap.length N = true) (hl : Nat.ble c0.snap.length rs.length = true) (x : LV) (hpre : nextOD c0 = false → rs.take c0.snap.length = c0.snap) : RelO T w0 (nextO c0 x rs) ρs ρ w :=
  ⟨hR, fun n hn => (hag n (Nat.lt_of_lt_of_le hn (Nat.le_of_ble_eq_true hN))).trans (hO.agree n hn), hO.und, Nat.le_of_ble_eq_true hl, hpre⟩
/-! ### Pointers are compared -/
def eqlOf (P : Program) (c : Cfg) : Option (LV × LV × Bool) := match topOp c with
  | some o => match o.op with
    | .binOp .eql t x y _ => match P.underlying t with
      | some (.pointer e) => match P.info? e with
        | some i => if Nat.beq i.size 0 then none else some (evalL c.tmps x, evalL c.tmps y, true)
        | none => none
      | _ => none
    | .binOp .neq t x y _ => match P.underlying t with
      | some (.pointer e) => match P.info? e with
        | some i => if Nat.beq i.size 0 then none else some (evalL c.tmps x, evalL c.tmps y, false)
        | none => none
      | _ => none
    | _ => none
  | none => none
theorem equal_ptr_same_block {P : Program} {t e : TypeId} {i : TypeInfo} (w : World) (a b : Addr) (hu : P.underlying t = some (.pointer e)) (hi : P.info? e = some i) (hz : i.size ≠ 0) (hb : a.block = b.block) (hab : a ≠ b) : (Op.equal t (.pointer (some a)) (.pointer (some b))).run P w = .ok false w := by
  obtain ⟨d, hd⟩ := maxDepth_succ
  rw [Op.equal, hd, Op.equalIn]
  simp [run_underlying hu, sizeOf, typeInfo, hi, hz, sameAddr, hb, hab]
theorem equal_nil_ptr {P : Program} {t e : TypeId} (w : World) (b : Addr) (hu : P.underlying t = some (.pointer e)) : (Op.equal t (.pointer none) (.pointer (some b))).run P w = .ok false w := by
  obtain ⟨d, hd⟩ := maxDepth_succ
  rw [Op.equal, hd, Op.equalIn]
  simp [run_underlying hu]
theorem equal_nil_nil {P : Program} {t e : TypeId} (w : World) (hu : P.underlying t = some (.pointer e)) : (Op.equal t (.pointer none) (.pointer none)).run P w = .ok true w := by
  obtain ⟨d, hd⟩ := maxDepth_succ
  rw [Op.equal, hd, Op.equalIn]
  simp [run_underlying hu]
/-- two places -/
theorem sim_eql_at (x y : LV) (q d : Bool) (h : eqlOf P c = some (x, y, q)) (hd : ∃ p p', x.den ρ = .pointer p ∧ y.den ρ = .pointer p' ∧ ∀ t e i, P.underlying t = some (.pointer e) → P.info? e = some i → i.size ≠ 0 → (Op.equal t (.pointer p) (.pointer p')).run P w = .ok d w)
    (next : At P Q (nextC c (LB (d == q)) c.rs) ρ w) : At P Q c ρ w := by
  unfold eqlOf at h
  split at h
  · rename_i op ho
    have key : ∀ (bo : BinOp) (t : TypeId) (xo yo : Operand) (z : TypeId), op.op = .binOp bo t xo yo z → (bo = .eql ∧ q = true ∨ bo = .neq ∧ q = false) → (∃ e i, P.underlying t = some (.pointer e) ∧ P.info? e = some i ∧ i.size ≠ 0) → evalL c.tmps xo = x → evalL c.tmps yo = y → At P Q c ρ w := by
      intro bo t xo yo z hop hbo he hx hy
      obtain ⟨e, i, hu, hi, hz⟩ := he
      refine sim_op op ho (LB (d == q)) c.rs ρ w ?_ rfl next
      unfold execOp
      simp only [hop, act_eval, hx, hy]
      obtain ⟨p, p', e1, e2, e3⟩ := hd
      rw [e1, e2]
      rcases hbo with ⟨rfl, rfl⟩ | ⟨rfl, rfl⟩ <;> simp [eqGuard, binOp, LV.den, e3 t e i hu hi hz]
    split at h
    · rename_i t xo yo z hop
      split at h
      · rename_i e hu
        split at h
        · rename_i i hi
          split at h
          · cases h
          · rename_i hz
            simp only [Option.some.injEq, Prod.mk.injEq] at h
            obtain ⟨h1, h2, rfl⟩ := h
            exact key .eql t xo yo z hop (.inl ⟨rfl, rfl⟩) ⟨e, i, hu, hi, fun e0 => by rw [e0] at hz; exact hz rfl⟩ h1 h2
        · cases h
      · cases h
    · rename_i t xo yo z hop
      split at h
      · rename_i e hu
        split at h
        · rename_i i hi
          split at h
          · cases h
          · rename_i hz
            simp only [Option.some.injEq, Prod.mk.injEq] at h
            obtain ⟨h1, h2, rfl⟩ := h
            exact key .neq t xo yo z hop (.inr ⟨rfl, rfl⟩) ⟨e, i, hu, hi, fun e0 => by rw [e0] at hz; exact hz rfl⟩ h1 h2
        · cases h
      · cases h
    · cases h
  · cases h
/-- two places of one block -/
theorem sim_eql_ne (x y : LV) (q : Bool) (h : eqlOf P c = some (x, y, q)) (a b : Addr) (hx : x.den ρ = .pointer (some a)) (hy : y.den ρ = .pointer (some b)) (hb : a.block = b.block) (hab : a ≠ b) (next : At P Q (nextC c (LB (!q)) c.rs) ρ w) : At P Q c ρ w := by
  refine sim_eql_at x y q false h ⟨_, _, hx, hy, fun t e i hu hi hz => equal_ptr_same_block w a b hu hi hz hb hab⟩ ?_
  cases q <;> exact next
theorem sim_eql_same (x y : LV) (q : Bool) (h : eqlOf P c = some (x, y, q)) (a : Addr) (hx : x.den ρ = .pointer (some a)) (hy : y.den ρ = .pointer (some a)) (next : At P Q (nextC c (LB q) c.rs) ρ w) : At P Q c ρ w := by
  refine sim_eql_at x y q true h ⟨_, _, hx, hy, fun t e i hu hi hz => equal_ptr_same w a hu hi hz⟩ ?_
  cases q <;> exact next
theorem sim_eql_nil (x y : LV) (q : Bool) (h : eqlOf P c = some (x, y, q)) (b : Addr) (hx : x.den ρ = .pointer none) (hy : y.den ρ = .pointer (some b)) (next : At P Q (nextC c (LB (!q)) c.rs) ρ w) : At P Q c ρ w := by
  refine sim_eql_at x y q false h ⟨_, _, hx, hy, fun t e i hu _ _ => equal_nil_ptr w b hu⟩ ?_
  cases q <;> exact next
/-- the same in a region that draws -/
def eqlOper (P : Program) (tmps : List LV) (o : Oper) : Option (LV × LV × Bool) := match o.op with
  | .binOp op t x y _ => match P.underlying t with
    | some (.pointer e) => match P.info? e with
      | some i => if Nat.beq i.size 0 then none else match op with
        | .eql => some (evalL tmps x, evalL tmps y, true)
        | .neq => some (evalL tmps x, evalL tmps y, false)
        | _ => none
      | none => none
    | _ => none
  | _ => none
theorem eqlOper_run {tmps : List LV} {o : Oper} {x y : LV} {q : Bool} (h : eqlOper P tmps o = some (x, y, q)) {p p' : Option Addr} (hx : x.den ρ = .pointer p) (hy : y.den ρ = .pointer p') (d : Bool) (w : World)
    (hd : ∀ t e i, P.underlying t = some (.pointer e) → P.info? e = some i → i.size ≠ 0 → (Op.equal t (.pointer p) (.pointer p')).run P w = .ok d w) : (execOp (act ρ tmps).eval o).run P w = .ok (.value (.bool (d == q))) w := by
  unfold eqlOper at h
  split at h
  · rename_i op t xo yo z hop
    split at h
    · rename_i e hu
      split at h
      · rename_i i hi
        split at h
        · cases h
        · rename_i hz
          have hz' : i.size ≠ 0 := fun e0 => by rw [e0] at hz; exact hz rfl
          have hrun := hd t e i hu hi hz'
          split at h
          · simp only [Option.some.injEq, Prod.mk.injEq] at h
            obtain ⟨rfl, rfl, rfl⟩ := h
            unfold execOp
            simp only [hop, act_eval, hx, hy]
            simp [eqGuard, binOp, hrun]
          · simp only [Option.some.injEq, Prod.mk.injEq] at h
            obtain ⟨rfl, rfl, rfl⟩ := h
            unfold execOp
            simp only [hop, act_eval, hx, hy]
            simp [eqGuard, binOp, hrun]
          · cases h
      · cases h
    · cases h
  · cases h
def eqlOfO (P : Program) (c : OCfg) : Option (LV × LV × Bool) := match topQ c with
  | some o => eqlOper P c.tmps o
  | none => none
theorem sim_ord_eql_ne {c : OCfg} {ρs : Nm} (x y : LV) (q : Bool) (h : eqlOfO P c = some (x, y, q)) (hR : RelO T w0 c ρs ρ w) (a b : Addr) (hx : x.den ρ = .pointer (some a)) (hy : y.den ρ = .pointer (some b)) (hb : a.block = b.block) (hab : a ≠ b)
    (next : RelO T w0 (nextO c (LB (!q)) c.rs) ρs ρ w → AtO P Q (nextO c (LB (!q)) c.rs) ρs ρ w) : AtO P Q c ρs ρ w := by
  unfold eqlOfO at h
  split at h
  · rename_i o ho
    refine sim_ord_pure o ho (LB (!q)) hR (fun w' _ => ?_) next
    have := eqlOper_run (ρ := ρ) h hx hy false w' (fun t e i hu hi hz => equal_ptr_same_block w' a b hu hi hz hb hab)
    rw [this]
    cases q <;> rfl
  · cases h
/-! ### append in a region that draws -/
def appOfO (c : OCfg) : Option (TypeId × LV × LV) := match topO c with
  | some o => match o.op with
    | .call { callee := .builtin .append, args, argTypes } => match args.toList, argTypes.toList with
      | [s, x], [t, t'] => if Nat.beq t t' then some (t, evalL c.tmps s, evalL c.tmps x) else none
      | _, _ => none
    | _ => none
  | none => none
theorem appOfO_run {c : OCfg} {t : TypeId} {s x : LV} (h : appOfO c = some (t, s, x)) : ∃ o, topO c = some o ∧ ∃ ty, ∀ v w', (Builtin.append_ #[t, t] ty #[s.den ρ, x.den ρ]).run P w = .ok v w' → (execOp (act ρ c.tmps).eval o).run P w = .ok (.value v) w' := by
  unfold appOfO at h
  split at h
  · rename_i o ho
    refine ⟨o, ho, o.type, fun v w' hrun => ?_⟩
    split at h
    · rename_i args ats hop
      split at h
      · rename_i s' x' t1 t2 hargs hats
        split at h
        · rename_i hb
          have := Nat.eq_of_beq_eq_true hb
          subst this
          simp only [Option.some.injEq, Prod.mk.injEq] at h
          obtain ⟨rfl, rfl, rfl⟩ := h
          have e1 : args = #[s', x'] := Array.ext' hargs
          have e2 : ats = #[t1, t1] := Array.ext' hats
          subst e1 e2
          unfold execOp
          simp [hop, resolve, act_eval, invoke, builtin, hrun]
        · cases h
      · cases h
    · cases h
  · cases h
theorem sim_ord_appendT {c : OCfg} {ρs : Nm} (t : TypeId) (s x : LV) (h : appOfO c = some (t, s, x)) (hR : RelO T w0 c ρs ρ w) {base : Nat} {e : TypeId} {i : TypeInfo} {z : Value} {size bytes : Nat} (ht : P.underlying t = some (.slice e)) (hi : P.info? e = some i) (hz : i.zero = some z) (hsize : i.size = size) (hby : i.bytes = bytes) (hzs : z.cells.size = size) (hsz : 0 < size)
    {v : Value} {n : Nat} {xs : List Value} (hs : s.den ρ = v) (hown : w.ownsRow base e size v n xs) {ad : Addr} {m cp : Nat} (hx : x.den ρ = .slice (some ad) m cp) (news : List LV) (hl : news.length = m * size) (hnews : ∀ (j : Nat) (u : LV), news[j]? = some u → w.cell? (ad.add j) = some (u.den ρ)) (h1 : news.all oneL = true)
    (h63 : n + m ≤ maxLen) (hbytes : (n + m) * bytes ≤ 140737488355328) (hbase : base ≤ w.heap.size) (hw0 : ∀ g, v.ownBlock = some g → g ∈ T ∨ w0.heap.size ≤ g) (hreg : ∀ g, v.ownBlock = some g → ∀ (k : Nat) (r : Reg), c.rs[k]? = some r → r.cells ≠ [] → (ρ k).1 ≠ g)
    (next : ∀ v' w', w'.ownsRow base e size v' (n + m) (xs ++ denL ρ news) → w.grownBy w' v.ownBlock → (v'.ownBlock = v.ownBlock ∨ v'.ownBlock = some w.heap.size) → RelO T w0 (nextO c (.v v') c.rs) ρs ρ w' → AtO P Q (nextO c (.v v') c.rs) ρs ρ w') : AtO P Q c ρs ρ w := by
  obtain ⟨op, ho, ty, hrun⟩ := appOfO_run (P := P) (ρ := ρ) (w := w) h
  obtain ⟨v', w', hr, h2, h3, _, h5⟩ := run_append_own_at (P := P) (w := w) base t ty e i z size bytes ht hi hz hsize hby hzs hsz v n xs hown ad m cp (denL ρ news) (by rw [denL_length]; exact hl) (fun j u hu => by
      rw [denL_get] at hu
      cases hj : news[j]? with
      | none => rw [hj] at hu; cases hu
      | some u' =>
        rw [hj] at hu
        simp only [Option.map_some, Option.some.injEq] at hu
        subst hu
        exact hnews j u' hj) (fun u hu => by
      rw [denL_eq, List.mem_map] at hu
      obtain ⟨u', hu', rfl⟩ := hu
      exact oneL_den (List.all_eq_true.1 h1 u' hu') ρ) h63 hbytes hbase
  have hR' := hR.rel.grownT h3 (fun g hg => ⟨hw0 g hg, hreg g hg⟩)
  have hRO : RelO T w0 (nextO c (.v v') c.rs) ρs ρ w' := ⟨hR', hR.agree, hR.und, hR.len, fun h => hR.pre (nextOD_of h)⟩
  have hrun' := hrun v' w' (by rw [hs, hx]; exact hr)
  refine topO_step (T := T) (w0 := w0) ho ?_
  unfold Oper.wp
  rw [hrun']
  simp only [Oper.upon]
  exact ⟨.v v', c.rs, ρ, act_put ρ c.tmps op.dst (.v v'), hRO, next v' w' h2 h3 h5 hRO⟩
end

section
variable {P : Program} {Q : Exit → Act → World → Prop} {T : List Nat} {w0 w : World} {ρ : Nm} {c : Cfg}
/-- a value is put into a new block, whose shape is known -/
def boxOf (c : Cfg) : Option (TypeId × LV) := match topOp c with
  | some o => match o.op with
    | .box e x => some (e, evalL c.tmps x)
    | _ => none
  | none => none
theorem sim_box {e : TypeId} {x : LV} (N : Nat) (h : boxOf c = some (e, x)) (hN : c.rs.length = N) (hR : Rel T w0 ρ c.rs w) (hu : (undR N c.rs && (undL N c.tmps && undL N x.cells)) = true)
    (next : ∀ ρ' w', Moved ρ c.rs w ρ' (c.rs ++ [⟨x.cells, true⟩]) w' → ρ' N = (w.heap.size, 0) → Rel T w0 ρ' (c.rs ++ [⟨x.cells, true⟩]) w' → Blk w' w.heap.size e (denL ρ x.cells).toArray → At P Q (nextC c (.ptr N 0) (c.rs ++ [⟨x.cells, true⟩])) ρ' w') : At P Q c ρ w := by
  subst hN
  unfold boxOf at h
  split at h
  · rename_i o ho
    split at h
    · rename_i e' y hop
      simp only [Option.some.injEq, Prod.mk.injEq] at h
      obtain ⟨rfl, rfl⟩ := h
      simp only [Bool.and_eq_true] at hu
      obtain ⟨ρ', ha, hn, hR'⟩ := hR.alloc hu.1 (evalL c.tmps y).cells e' hu.2.2 true
      refine sim_op o ho (.ptr c.rs.length 0) _ ρ' _ ?_ (act_ext ha hu.2.1) (next ρ' _ ⟨ha, Kept.alloc _ _ _, wrS_app ha hn, by simp, Still.of_blocks (fun k hk => Below.heap_alloc w _ k hk), OutR.app ha hn, OutR.pre ha, shape_app hn⟩ hn hR' (Blk.new w e' _))
      unfold execOp
      simp [hop, Instr.box, newVar, newRow, LV.den, Nm.at_, hn, act_eval, ← LV.den_cells]
    · cases h
  · cases h
end
theorem Own.drew {ρ : Nm} {rs : List Reg} {w : World} {base : Nat} {e : TypeId} {size : Nat} {v : Value} {n : Nat} {xs : List Value} (h : Own ρ rs w base e size v n xs) : Own ρ rs w.drew base e size v n xs := ⟨h.own, h.far⟩

/-! ### A row that lay there, some elements of which are places in view -/
/-- the cells of block g outside the places in view that may be written -/
structure RowV (ρ : Nm) (rs : List Reg) (w : World) (g : Nat) (t : TypeId) (cur : List Value) : Prop where
  is : ∃ arr : Array Value, w.heap[g]? = some (.cells arr t (0, 0)) ∧ arr.size = cur.length ∧ ∀ i, OutR ρ rs g i → arr[i]? = cur[i]?
theorem RowV.lt {ρ : Nm} {rs : List Reg} {w : World} {g : Nat} {t : TypeId} {cur : List Value} (h : RowV ρ rs w g t cur) : g < w.heap.size := by
  obtain ⟨arr, h1, _⟩ := h.is
  rcases Nat.lt_or_ge g w.heap.size with hl | hl
  · exact hl
  · rw [Array.getElem?_eq_none hl] at h1; cases h1
theorem RowV.start {w : World} {g : Nat} {t : TypeId} {cur : List Value} (h : Blk w g t cur.toArray) (ρ : Nm) (rs : List Reg) : RowV ρ rs w g t cur := ⟨cur.toArray, h, by simp, fun i _ => by simp⟩
theorem RowV.moved {ρ ρ' : Nm} {rs rs' : List Reg} {w w' : World} {g : Nat} {t : TypeId} {cur : List Value} (h : RowV ρ rs w g t cur) (hm : Moved ρ rs w ρ' rs' w') : RowV ρ' rs' w' g t cur := by
  obtain ⟨arr, h1, h2, h3⟩ := h.is
  obtain ⟨arr', h4, h5, h6⟩ := hm.still g arr t (0, 0) h1
  exact ⟨arr', h4, h5.trans h2, fun i hi => (h6 i (hm.back g i hi)).trans (h3 i (hm.back g i hi))⟩
theorem RowV.below {ρ : Nm} {rs : List Reg} {w w' : World} {g : Nat} {t : TypeId} {cur : List Value} (h : RowV ρ rs w g t cur) (hb : Below w.heap.size w w') : RowV ρ rs w' g t cur := by
  have hl := h.lt
  obtain ⟨arr, h1, h2, h3⟩ := h.is
  exact ⟨arr, (hb.block g hl).trans h1, h2, h3⟩
theorem RowV.drew {ρ : Nm} {rs : List Reg} {w : World} {g : Nat} {t : TypeId} {cur : List Value} (h : RowV ρ rs w g t cur) : RowV ρ rs w.drew g t cur := ⟨h.is⟩
theorem RowV.grown {ρ : Nm} {rs : List Reg} {w w' : World} {g : Nat} {t : TypeId} {cur : List Value} {row : Option Nat} (h : RowV ρ rs w g t cur) (hg : w.grownBy w' row) (hne : some g ≠ row) : RowV ρ rs w' g t cur := by
  have hl := h.lt
  obtain ⟨arr, h1, h2, h3⟩ := h.is
  exact ⟨arr, (hg.block g hl hne).trans h1, h2, h3⟩
/-- a row wholly in view -/
theorem RowV.full {T : List Nat} {w0 : World} {ρ ρb : Nm} {rs : List Reg} {w : World} {g N0 : Nat} {t : TypeId} {cur : List Value} (h : RowV ρ rs w g t cur) (hR : Rel T w0 ρ rs w) (hag : Ag N0 ρb ρ rs) {n : Nat} {cells : List LV} {wr : Bool} (hn : rs[n]? = some ⟨cells, wr⟩) (e0 : ρb n = (g, 0)) (hl : cells.length = cur.length) (hN : n < N0 := by omega) : Blk w g t (denL ρ cells).toArray := by
  obtain ⟨arr, h1, h2, _⟩ := h.is
  have e := (hag.at_ n hN).trans e0
  have key : arr.toList = denL ρ cells := by
    apply List.ext_getElem?
    intro i
    rw [Array.getElem?_toList, denL_get]
    rcases Nat.lt_or_ge i cells.length with hi | hi
    · have := hR.cell n _ hn i _ (List.getElem?_eq_getElem hi)
      simp only [Nm.at_, e, Nat.zero_add] at this
      rw [cell_of_row w g i arr _ (0, 0) h1] at this
      rw [this, List.getElem?_eq_getElem hi]
      rfl
    · rw [Array.getElem?_eq_none (by omega), List.getElem?_eq_none hi]
      rfl
  have : arr = (denL ρ cells).toArray := Array.ext' key
  rw [← this]
  exact h1
theorem RowV.open_ {ρ ρ' : Nm} {rs : List Reg} {w : World} {g : Nat} {t : TypeId} {cur : List Value} (h : RowV ρ rs w g t cur) (ha : Agree rs.length ρ ρ') (r : Reg) : RowV ρ' (rs ++ [r]) w g t cur := by
  obtain ⟨arr, h1, h2, h3⟩ := h.is
  refine ⟨arr, h1, h2, fun i hi => h3 i (fun n q hn hw he => ?_)⟩
  have hl := (List.getElem?_eq_some_iff.1 hn).1
  have := hi n q (by rw [List.getElem?_append_left hl]; exact hn) hw (by rw [ha n hl]; exact he)
  rw [ha n hl] at this
  exact this
end

section
open Go Go.RowKit

theorem Reads.spot {w : World} {B size n : Nat} {A : Option Addr} {xs : List Value} (h : Reads w B size A n xs) (hn : 0 < n) (hs : 0 < size) : ∃ g o, A = some ⟨g, o, none⟩ ∧ g < B ∧ ∀ (j : Nat) (v : Value), xs[j]? = some v → w.cell? ⟨g, o + j, none⟩ = some v := by
  obtain ⟨ad, rfl, hb, hc⟩ := h.2 hn
  obtain ⟨g, o, sp⟩ := ad
  have hl : 0 < xs.length := by rw [h.1]; exact Nat.mul_pos hn hs
  have h0 := hc 0 _ (List.getElem?_eq_getElem hl)
  have hsp : sp = none := by
    cases sp with
    | none => rfl
    | some s =>
      unfold World.cell? Addr.add at h0
      simp at h0
      split at h0 <;> simp at h0
  subst hsp
  refine ⟨g, o, rfl, hb, fun j v hv => ?_⟩
  have := hc j v hv
  unfold Addr.add at this
  split at this
  · rename_i h0
    subst h0
    exact this
  · exact this
section
variable {P : Program} {Q : Exit → Act → World → Prop} {T : List Nat} {w0 w : World} {ρ : Nm} {c : Cfg}
/-- a row's cell is met -/
theorem sim_cell {A : Option Addr} {n B : Nat} {xs : List Value} (cp k N : Nat) (u : Value) (h : idxOf P c = some (.v (.slice A n cp), n, (k : Int), 1)) (hN : c.rs.length = N) (hk : k < n) (hrd : Reads w0 B 1 A n xs) (hx : xs[k]? = some u) (hB : B ≤ w0.heap.size) (hT : ∀ a, A = some a → a.block ∉ T) (hR : Rel T w0 ρ c.rs w)
    (hu : (undR N c.rs && undL N c.tmps) = true) (next : ∀ ρ', Moved ρ c.rs w ρ' (c.rs ++ [⟨[.v u], false⟩]) w → (∀ t ∈ T, (ρ' N).1 ≠ t) → Rel T w0 ρ' (c.rs ++ [⟨[.v u], false⟩]) w → At P Q (nextC c (.ptr N 0) (c.rs ++ [⟨[.v u], false⟩])) ρ' w) : At P Q c ρ w := by
  obtain ⟨g, o, rfl, hg, hc⟩ := hrd.spot (by omega) (by omega)
  simp only [Bool.and_eq_true] at hu
  have hgT := hT _ rfl
  have hblk : w.heap[g]? = w0.heap[g]? := hR.keeps.block g (by omega) hgT
  subst hN
  refine sim_index (.v (.slice (some ⟨g, o, none⟩) n cp)) n 1 k c.rs.length h rfl (by omega) (by omega) rfl hR [.v u] (by rw [hu.1, hu.2]; rfl) (by have := hR.keeps.size; omega) (fun j v hv => ?_) (fun m r hm hw he => ?_) (fun ρ' ha hn hR' => next ρ' (Moved.ext_ro ha rfl) (fun t ht e => by rw [hn] at e; have e2 : g = t := e; exact hgT (by rw [show (⟨g, o, none⟩ : Addr).block = t from e2]; exact ht)) hR')
  · match j, hv with
    | 0, hv =>
      injection hv with hv
      subst hv
      have := hc k u hx
      rw [Int.toNat_natCast, Nat.mul_one, Nat.add_zero]
      exact (World.cell?_of_block (a := ⟨g, o + k, none⟩) hblk).trans this
  · rcases (hR.wr m r hm hw).1 with h1 | h1
    · exact hgT (he ▸ h1)
    · omega
end
end
end Go.Proofs.Ytioehmngkoffaaa
