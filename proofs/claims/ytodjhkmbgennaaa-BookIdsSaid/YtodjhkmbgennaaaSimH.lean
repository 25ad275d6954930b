/-
  The executor's rules for loops, for an element's place, for append, for a region that draws and holds calls. Over any program.
-/
import Derived.Test.YtodjhkmbgennaaaSimG
import Derived.LoopN
import Derived.Maps.AppendAt
namespace Go.Proofs.Ytodjhkmbgennaaa
open Go Go.RowKit

/-! ### Loops -/
theorem wp_loop_ix {P : Program} {Q : Exit → Act → World → Prop} {c : Code} (J : Nat → Act → World → Prop) (round : ∀ n a w, J n a w → c.wp P (Exit.then (fun a' w' => ∃ n', n' < n ∧ J n' a' w') Q) a w) {n : Nat} {a : Act} {w : World} (h0 : J n a w) : (Code.loop c).wp P Q a w := by
  intro b k cs
  have key : ∀ n a w, J n a w → ∃ e a' w', Q e a' w' ∧ Arrives P (lone (b.at a (.code c :: .inLoop c :: k)) cs w) b k cs e a' w' := by
    intro n
    induction n using Nat.strongRecOn with
    | _ n ih =>
      intro a w hI
      obtain ⟨e, a₁, w₁, hq, harr⟩ := round n a w hI b (.inLoop c :: k) cs
      cases e with
      | normal =>
        obtain ⟨n', hlt, hI₁⟩ := hq
        obtain ⟨e₂, a₂, w₂, hq₂, harr₂⟩ := ih n' hlt a₁ w₁ hI₁
        exact ⟨e₂, a₂, w₂, hq₂, .of_steps (Steps.trans harr (.one step_inLoop)) harr₂⟩
      | exit id => exact ⟨_, a₁, w₁, hq, .pass (x := .inLoop c) rfl (fun _ _ => .inl (by simp)) harr⟩
      | goto l => exact ⟨_, a₁, w₁, hq, .pass (x := .inLoop c) rfl (fun _ _ => .inl (by simp)) harr⟩
      | ret => exact ⟨_, a₁, w₁, hq, .pass (x := .inLoop c) rfl (fun _ _ => .inl (by simp)) harr⟩
      | panic ch => exact ⟨_, a₁, w₁, hq, .pass (x := .inLoop c) rfl (fun _ _ => .inl (by simp)) harr⟩
      | outgrown => exact ⟨_, a₁, w₁, hq, .pass (x := .inLoop c) rfl (fun _ _ => .inl (by simp)) harr⟩
  obtain ⟨e, a', w', hq, harr⟩ := key n a w h0
  exact ⟨e, a', w', hq, .of_steps (.one step_loop) harr⟩

/-- the temporaries at a loop's head: what is known, and junk -/
def fillJ : List (Option LV) → (Nat → Value) → Nat → List LV
  | [], _, _ => []
  | some x :: tm, d, i => x :: fillJ tm d (i + 1)
  | none :: tm, d, i => .v (d i) :: fillJ tm d (i + 1)
def mergeT : List (Option LV) → List LV → List LV
  | some x :: tm, _ :: ts => x :: mergeT tm ts
  | none :: tm, t :: ts => t :: mergeT tm ts
  | _, _ => []
theorem fillJ_merge (ρ : Nm) (d : Nat → Value) : ∀ (tm : List (Option LV)) (ts : List LV) (i : Nat), mergeT tm ts = ts → tm.length = ts.length → (∀ (j : Nat) (t : LV), ts[j]? = some t → d (i + j) = t.den ρ) → denL ρ (fillJ tm d i) = denL ρ ts
  | [], [], _, _, _, _ => rfl
  | [], _ :: _, _, _, h, _ => by cases h
  | _ :: _, [], _, _, h, _ => by cases h
  | some x :: tm, t :: ts, i, hm, hl, hd => by
    simp only [mergeT, List.cons.injEq] at hm
    simp only [fillJ, denL, hm.1]
    rw [fillJ_merge ρ d tm ts (i + 1) hm.2 (by simpa using hl) (fun j t ht => by rw [← hd (j + 1) t ht]; congr 1; omega)]
  | none :: tm, t :: ts, i, hm, hl, hd => by
    simp only [mergeT, List.cons.injEq, true_and] at hm
    simp only [fillJ, denL, LV.den]
    rw [fillJ_merge ρ d tm ts (i + 1) hm (by simpa using hl) (fun j t ht => by rw [← hd (j + 1) t ht]; congr 1; omega)]
    rw [← hd 0 t rfl]
    rfl
def undT (k : Nat) (tm : List (Option LV)) : Bool := tm.all fun x => match x with
  | some x => x.und k
  | none => true
theorem fillJ_ext {k : Nat} {ρ ρ' : Nm} (ha : Agree k ρ ρ') : ∀ (tm : List (Option LV)) (d : Nat → Value) (i : Nat), undT k tm = true → denL ρ' (fillJ tm d i) = denL ρ (fillJ tm d i)
  | [], _, _, _ => rfl
  | some x :: tm, d, i, h => by
    simp only [undT, List.all_cons, Bool.and_eq_true] at h
    simp only [fillJ, denL, LV.den_ext ha x h.1, fillJ_ext ha tm d (i + 1) h.2]
  | none :: tm, d, i, h => by
    simp only [undT, List.all_cons, Bool.true_and] at h
    simp only [fillJ, denL, LV.den, fillJ_ext ha tm d (i + 1) h]
def findS : List (Nat × LV) → Nat → Option LV
  | [], _ => none
  | (j, y) :: l, i => if Nat.beq j i then some y else findS l i
/-- of the temporaries these are kept, those are what is said, the others are junk -/
def tmplOf (keep : List Nat) (sets : List (Nat × LV)) : List LV → Nat → List (Option LV)
  | [], _ => []
  | t :: ts, i => (match findS sets i with | some y => some y | none => if keep.any (Nat.beq i) then some t else none) :: tmplOf keep sets ts (i + 1)
theorem tmplOf_length (keep : List Nat) (sets : List (Nat × LV)) : ∀ (ts : List LV) (i : Nat), (tmplOf keep sets ts i).length = ts.length
  | [], _ => rfl
  | _ :: ts, i => by simp only [tmplOf, List.length_cons, tmplOf_length keep sets ts (i + 1)]

theorem act_of_merge {tm : List (Option LV)} {ts : List LV} (ρ : Nm) (hm : mergeT tm ts = ts) (hl : tm.length = ts.length) : act ρ ts = act ρ (fillJ tm (fun j => (evalL ts (.tmp j)).den ρ) 0) := by
  unfold act
  rw [fillJ_merge ρ _ tm ts 0 hm hl (fun j t ht => by simp only [Nat.zero_add, evalL, ht])]

section
variable {P : Program} {Q : Exit → Act → World → Prop} {T : List Nat} {w0 w : World} {ρ : Nm} {c : Cfg} {fn : Func} {R : Ending → World → Prop}

/-- places that are no longer looked at -/
theorem Rel.cut {ρ' : Nm} {rs rs' : List Reg} {w' : World} (h : Rel T w0 ρ' rs' w') (hrs : rs'.take rs.length = rs) (ha : Agree rs.length ρ ρ') (hu : undR rs.length rs = true) : Rel T w0 ρ rs w' := by
  have hg : ∀ (n : Nat) (r : Reg), rs[n]? = some r → rs'[n]? = some r ∧ ρ' n = ρ n := by
    intro n r hn
    have hl : n < rs.length := (List.getElem?_eq_some_iff.1 hn).1
    have e := congrArg (fun l => l[n]?) hrs
    simp only [List.getElem?_take, if_pos hl] at e
    exact ⟨by rw [e]; exact hn, ha n hl⟩
  refine ⟨h.keeps, fun n r hn => ?_, fun n r hn i v hv => ?_, fun n r hn hw => ?_, fun n m r r' hn hm hne hw he => ?_⟩
  · obtain ⟨h1, h2⟩ := hg n r hn
    rw [← h2]
    exact h.lt n r h1
  · obtain ⟨h1, h2⟩ := hg n r hn
    have := h.cell n r h1 i v hv
    unfold Nm.at_ at *
    rw [h2, LV.den_ext ha v (undR_den hu hn hv)] at this
    exact this
  · obtain ⟨h1, h2⟩ := hg n r hn
    have := h.wr n r h1 hw
    unfold Nm.at_ at *
    rw [h2] at this
    exact this
  · obtain ⟨h1, h2⟩ := hg n r hn
    obtain ⟨h3, h4⟩ := hg m r' hm
    have := h.apart n m r r' h1 h3 hne hw (by rw [h2, h4]; exact he)
    rw [h2, h4] at this
    exact this

def loopBody (c : Cfg) : Code := match c.k with
  | .code (.loop b) :: _ => b
  | _ => .skip
def loopRest (c : Cfg) : List It := match c.k with
  | .code (.loop _) :: k => k
  | _ => []
def isLoop (c : Cfg) : Bool := match c.k with
  | .code (.loop _) :: _ => true
  | _ => false
def LoopI {ι : Type} (T : List Nat) (w0 : World) (ρ : Nm) (tm : ι → List (Option LV)) (rg : ι → List Reg) (E : ι → World → Prop) (μ : ι → Nat) (n : Nat) (a : Act) (w : World) : Prop :=
  ∃ (x : ι) (d : Nat → Value), μ x = n ∧ a = act ρ (fillJ (tm x) d 0) ∧ Rel T w0 ρ (rg x) w ∧ E x w
def LoopQ {ι : Type} (P : Program) (Q : Exit → Act → World → Prop) (k : List It) (T : List Nat) (w0 : World) (ρ : Nm) (tm : ι → List (Option LV)) (rg : ι → List Reg) (E : ι → World → Prop) (μ : ι → Nat) (n : Nat) : Exit → Act → World → Prop :=
  Exit.then (fun a w => ∃ n', n' < n ∧ LoopI T w0 ρ tm rg E μ n' a w) (post P Q k)
instance {ι : Type} [hB : Body P Q fn R] (k : List It) (T : List Nat) (w0 : World) (ρ : Nm) (tm : ι → List (Option LV)) (rg : ι → List Reg) (E : ι → World → Prop) (μ : ι → Nat) (n : Nat) : Body P (LoopQ P Q k T w0 ρ tm rg E μ n) fn R where
  pf := fun ch a d v w h => (hB.pf.post k) ch a d v w h
  ret := fun a w h => (post_ret k).2 (hB.ret a w h)
abbrev bodyC (c : Cfg) (keep : List Nat) (sets : List (Nat × LV)) (d : Nat → Value) (rs : List Reg) : Cfg := ⟨[.code (loopBody c)], fillJ (tmplOf keep sets c.tmps 0) d 0, rs⟩

theorem sim_loop {ι : Type} (x0 : ι) (keep : List Nat) (sets : ι → List (Nat × LV)) (rg : ι → List Reg) (E : ι → World → Prop) (μ : ι → Nat) (hl : isLoop c = true) (hm : mergeT (tmplOf keep (sets x0) c.tmps 0) c.tmps = c.tmps)
    (hR : Rel T w0 ρ (rg x0) w) (hE : E x0 w)
    (round : ∀ x d w', Rel T w0 ρ (rg x) w' → E x w' → At P (LoopQ P Q (loopRest c) T w0 ρ (fun x => tmplOf keep (sets x) c.tmps 0) rg E μ (μ x)) (bodyC c keep (sets x) d (rg x)) ρ w') : At P Q c ρ w := by
  obtain ⟨k, t, rs⟩ := c
  unfold isLoop at hl
  split at hl
  · rename_i b k' hk
    simp only at hk
    subst hk
    show (Code.loop b).wp P (post P Q k') (act ρ t) w
    refine wp_loop_ix (LoopI T w0 ρ (fun x => tmplOf keep (sets x) t 0) rg E μ) ?_ (n := μ x0) ⟨x0, _, rfl, act_of_merge ρ hm (tmplOf_length _ _ _ _), hR, hE⟩
    rintro n a w' ⟨x, d, rfl, rfl, hR', hE'⟩
    exact round x d w' hR' hE'
  · cases hl
/-- the round's end -/
theorem sim_again {ι : Type} {tm : ι → List (Option LV)} {rg : ι → List Reg} {E : ι → World → Prop} {μ : ι → Nat} {k : List It} {n : Nat} {ρ' : Nm} {w' : World} (x : ι) (hk : c.k = []) (hμ : μ x < n) (hm : mergeT (tm x) c.tmps = c.tmps) (hlen : (tm x).length = c.tmps.length)
    (hu : undT (rg x).length (tm x) = true) (ha : Agree (rg x).length ρ ρ') (hR : Rel T w0 ρ' c.rs w') (hrs : c.rs.take (rg x).length = rg x) (hru : undR (rg x).length (rg x) = true) (hE : E x w') : At P (LoopQ P Q k T w0 ρ tm rg E μ n) c ρ' w' := by
  unfold At
  rw [hk]
  show ∃ n', n' < n ∧ LoopI T w0 ρ tm rg E μ n' (act ρ' c.tmps) w'
  refine ⟨μ x, hμ, x, fun j => (evalL c.tmps (.tmp j)).den ρ', rfl, ?_, hR.cut hrs ha hru, hE⟩
  rw [act_of_merge ρ' hm hlen]
  unfold act
  rw [fillJ_ext ha _ _ _ hu]
/-- out of the loop -/
def leaveK (c : Cfg) (k : List It) : Option (List It) := match c.k with
  | .code (.exit id) :: k1 => match exitK id k1 with
    | none => exitK id k
    | some _ => none
  | _ => none
def someK : Option (List It) → List It
  | some k => k
  | none => []
abbrev leaveC (c : Cfg) (k : List It) : Cfg := ⟨someK (leaveK c k), c.tmps, c.rs⟩
theorem sim_leave {ι : Type} {tm : ι → List (Option LV)} {rg : ι → List Reg} {E : ι → World → Prop} {μ : ι → Nat} {k : List It} {n : Nat} {ρ' : Nm} {w' : World} (h : (leaveK c k).isSome = true) (hA : At P Q (leaveC c k) ρ' w') : At P (LoopQ P Q k T w0 ρ tm rg E μ n) c ρ' w' := by
  obtain ⟨k0, t, rs⟩ := c
  cases hk : leaveK ⟨k0, t, rs⟩ k with
  | none => rw [hk] at h; cases h
  | some k2 =>
    simp only [leaveC, hk, someK] at hA
    unfold leaveK at hk
    split at hk
    · rename_i id k1 hk0
      simp only at hk0
      subst hk0
      split at hk
      · rename_i hn
        show (Code.exit id).wp P (post P _ k1) (act ρ' t) w'
        exact wp_exit (post_exit_none hn (post_exit hk hA))
      · cases hk
    · cases hk
/-- a loop of so many rounds at most, written out: the executor goes on through it -/
abbrev rndC (n : Nat) (c : Cfg) : Cfg := ⟨.rnd n (loopBody c) :: loopRest c, c.tmps, c.rs⟩
theorem sim_unroll (n : Nat) (hl : isLoop c = true) (h : At P Q (rndC n c) ρ w) : At P Q c ρ w := by
  obtain ⟨k, t, rs⟩ := c
  unfold isLoop at hl
  split at hl
  · rename_i b k' hk
    simp only at hk
    subst hk
    exact wp_loop_rounds n h
  · cases hl

/-! ### A call that is walked into -/
theorem sim_into {f : FuncId} {fn' : Func} (hf : P.funcs[f]? = some fn') (args : List LV) (hc : callC P c = some (f, args)) (hb : fn'.body.isSome = true) (h : At P (bodyPost P fn' (Back P Q c ρ)) (startC fn' args c.rs) ρ w) : At P Q c ρ w :=
  sim_call f args hc (sim_enter hf ρ args c.rs hb rfl h)
theorem sim_out {c0 : Cfg} {ρ0 : Nm} {Q' : Exit → Act → World → Prop} [hB : Body P Q' fn (Back P Q c0 ρ0)] (N : Nat) (x : LV) (hR : Rel T w0 ρ c.rs w) (h1 : atRet c = true) (h2 : resL P fn c = some x) (hag : Agree N ρ0 ρ) (hu : undL N c0.tmps = true)
    (next : At P Q (nextC c0 x c.rs) ρ w) : At P Q' c ρ w :=
  sim_ret x hR h1 h2 ⟨x, c.rs, ρ, rfl, act_ext hag hu, next⟩

/-! ### A place that comes into view -/
theorem Rel.open_ {rs : List Reg} (hR : Rel T w0 ρ rs w) (hu : undR rs.length rs = true) (B o : Nat) (cells : List LV) (hc : undL rs.length cells = true) (wr : Bool) (hlt : B < w.heap.size)
    (hcell : ∀ (i : Nat) (v : LV), cells[i]? = some v → w.cell? ⟨B, o + i, none⟩ = some (v.den ρ)) (hwr : wr = true → (B ∈ T ∨ w0.heap.size ≤ B) ∧ ∀ i, i < cells.length → w.frozen? ⟨B, o + i, none⟩ = false)
    (hap : ∀ (n : Nat) (r : Reg), rs[n]? = some r → (wr = true ∨ r.wr = true) → (ρ n).1 = B → (ρ n).2 + r.cells.length ≤ o ∨ o + cells.length ≤ (ρ n).2) :
    ∃ ρ', Agree rs.length ρ ρ' ∧ ρ' rs.length = (B, o) ∧ Rel T w0 ρ' (rs ++ [⟨cells, wr⟩]) w := by
  refine ⟨fun n => if n = rs.length then (B, o) else ρ n, fun n hn => if_neg (by omega), if_pos rfl, ?_⟩
  generalize hρ : (fun n => if n = rs.length then (B, o) else ρ n) = ρ'
  have ha : Agree rs.length ρ ρ' := fun n hn => by rw [← hρ]; exact if_neg (by omega)
  have hnew : ρ' rs.length = (B, o) := by rw [← hρ]; exact if_pos rfl
  clear hρ
  have h2 := hR.ext ha hu
  have hcases : ∀ n r, (rs ++ [(⟨cells, wr⟩ : Reg)])[n]? = some r → rs[n]? = some r ∨ (n = rs.length ∧ r = ⟨cells, wr⟩) := by
    intro n r hn
    rcases Nat.lt_or_ge n rs.length with hl | hl
    · rw [List.getElem?_append_left hl] at hn; exact .inl hn
    · rw [List.getElem?_append_right hl] at hn
      have h0 : n - rs.length = 0 := by
        rcases Nat.eq_zero_or_pos (n - rs.length) with h0 | h0
        · exact h0
        · rw [List.getElem?_eq_none (by simp; omega)] at hn; cases hn
      rw [h0] at hn
      simp at hn
      exact .inr ⟨by omega, hn.symm⟩
  refine ⟨h2.keeps, fun n r hn => ?_, fun n r hn i v hv => ?_, fun n r hn hw => ?_, fun n m r r' hn hm hne hw he => ?_⟩
  · rcases hcases n r hn with hn | ⟨rfl, rfl⟩
    · exact h2.lt n r hn
    · rw [hnew]; exact hlt
  · rcases hcases n r hn with hn | ⟨rfl, rfl⟩
    · exact h2.cell n r hn i v hv
    · unfold Nm.at_
      rw [hnew, LV.den_ext ha v (undL_mem hc (List.mem_of_getElem? hv))]
      exact hcell i v hv
  · rcases hcases n r hn with hn | ⟨rfl, rfl⟩
    · exact h2.wr n r hn hw
    · unfold Nm.at_
      rw [hnew]
      exact hwr hw
  · rcases hcases n r hn with hn1 | ⟨rfl, rfl⟩ <;> rcases hcases m r' hm with hm1 | ⟨rfl, rfl⟩
    · exact h2.apart n m r r' hn1 hm1 hne hw he
    · rw [hnew] at he ⊢
      rw [ha n (List.getElem?_eq_some_iff.1 hn1).1] at he ⊢
      exact hap n r hn1 (.inr hw) he
    · rw [hnew] at he ⊢
      rw [ha m (List.getElem?_eq_some_iff.1 hm1).1] at he ⊢
      exact (hap m r' hm1 (.inl hw) he.symm).symm
    · exact absurd rfl hne

/-- the element whose place is asked for: the row's address, its length, the index, an element's size -/
def idxOf (P : Program) (c : Cfg) : Option (LV × Nat × Int × Nat) := match topOp c with
  | some o => match o.op with
    | .indexAddr t x ix => match evalL c.tmps x, evalL c.tmps ix, P.underlying t with
      | .v (.slice (some a) len cp), .v (.int _ i), some (.slice e) => match P.info? e with
        | some ie => some (.v (.slice (some a) len cp), len, i, ie.size)
        | none => none
      | .slc n off len cp, .v (.int _ i), some (.slice e) => match P.info? e with
        | some ie => some (.slc n off len cp, len, i, ie.size)
        | none => none
      | _, _, _ => none
    | _ => none
  | none => none
theorem idxOf_run {x : LV} {len sz : Nat} {i : Int} (h : idxOf P c = some (x, len, i, sz)) (h0 : 0 ≤ i) (h1 : i < len) {a : Addr} {cp : Nat} (hx : x.den ρ = .slice (some a) len cp) :
    ∃ o, topOp c = some o ∧ (execOp (act ρ c.tmps).eval o).run P w = .ok (.value (.pointer (some (a.add (i.toNat * sz))))) w := by
  unfold idxOf at h
  split at h
  · rename_i o ho
    refine ⟨o, ho, ?_⟩
    split at h
    · rename_i t y ix hop
      split at h
      · rename_i a' len' cp' k i' e hy hix hu
        split at h
        · rename_i ie hie
          simp only [Option.some.injEq, Prod.mk.injEq] at h
          obtain ⟨rfl, rfl, rfl, rfl⟩ := h
          simp only [LV.den, Value.slice.injEq, Option.some.injEq] at hx
          obtain ⟨rfl, _, _⟩ := hx
          unfold execOp
          simp [hop, act_eval, hy, hix, LV.den, Instr.indexAt, asIntOf, run_underlying hu, h0, h1, sizeOf, typeInfo, hie]
        · cases h
      · rename_i n off len' cp' k i' e hy hix hu
        split at h
        · rename_i ie hie
          simp only [Option.some.injEq, Prod.mk.injEq] at h
          obtain ⟨rfl, rfl, rfl, rfl⟩ := h
          simp only [LV.den, Value.slice.injEq, Option.some.injEq] at hx
          obtain ⟨rfl, _, _⟩ := hx
          unfold execOp
          simp [hop, act_eval, hy, hix, LV.den, Instr.indexAt, asIntOf, run_underlying hu, h0, h1, sizeOf, typeInfo, hie]
        · cases h
      · cases h
    · cases h
  · cases h
/-- an element's place, to read from; N: how many places there are -/
theorem sim_index (x : LV) (len sz : Nat) (i : Int) (N : Nat) (h : idxOf P c = some (x, len, i, sz)) (hN : c.rs.length = N) (h0 : 0 ≤ i) (h1 : i < len) {B o cp : Nat} (hx : x.den ρ = .slice (some ⟨B, o, none⟩) len cp) (hR : Rel T w0 ρ c.rs w) (cells : List LV)
    (hu : (undR N c.rs && (undL N c.tmps && undL N cells)) = true) (hlt : B < w.heap.size) (hcell : ∀ (j : Nat) (v : LV), cells[j]? = some v → w.cell? ⟨B, o + i.toNat * sz + j, none⟩ = some (v.den ρ))
    (hap : ∀ (n : Nat) (r : Reg), c.rs[n]? = some r → r.wr = true → (ρ n).1 = B → False)
    (next : ∀ ρ', Agree N ρ ρ' → ρ' N = (B, o + i.toNat * sz) → Rel T w0 ρ' (c.rs ++ [⟨cells, false⟩]) w → At P Q (nextC c (.ptr N 0) (c.rs ++ [⟨cells, false⟩])) ρ' w) : At P Q c ρ w := by
  subst hN
  obtain ⟨op, ho, hrun⟩ := idxOf_run (w := w) h h0 h1 hx
  simp only [Bool.and_eq_true] at hu
  obtain ⟨ρ', ha, hn, hR'⟩ := hR.open_ hu.1 B (o + i.toNat * sz) cells hu.2.2 false hlt hcell (fun hc => by cases hc) (fun n r hn hw he => by
    rcases hw with hw | hw
    · cases hw
    · exact (hap n r hn hw he).elim)
  refine sim_op op ho (.ptr c.rs.length 0) _ ρ' w ?_ (act_ext ha hu.2.1) (next ρ' ha hn hR')
  rw [hrun]
  congr 3
  simp only [Nm.at_, hn, Addr.add]
  split
  · rename_i hz
    simp [hz]
  · rfl

/-! ### append onto a row of the call's own -/
def appOf (c : Cfg) : Option (TypeId × LV × LV) := match topOp c with
  | some o => match o.op with
    | .call { callee := .builtin .append, args, argTypes } => match args.toList, argTypes.toList with
      | [s, x], [t, t'] => if Nat.beq t t' then some (t, evalL c.tmps s, evalL c.tmps x) else none
      | _, _ => none
    | _ => none
  | none => none
theorem appOf_run {t : TypeId} {s x : LV} (h : appOf c = some (t, s, x)) : ∃ o, topOp c = some o ∧ ∃ ty, ∀ v w', (Builtin.append_ #[t, t] ty #[s.den ρ, x.den ρ]).run P w = .ok v w' → (execOp (act ρ c.tmps).eval o).run P w = .ok (.value v) w' := by
  unfold appOf at h
  split at h
  · rename_i o ho
    refine ⟨o, ho, o.type, fun v w' hrun => ?_⟩
    split at h
    · rename_i args ats hop
      split at h
      · rename_i s' x' t1 t2 hargs hats
        split at h
        · rename_i hb
          have := Nat.eq_of_beq_eq_true hb
          subst this
          simp only [Option.some.injEq, Prod.mk.injEq] at h
          obtain ⟨rfl, rfl, rfl⟩ := h
          have e1 : args = #[s', x'] := Array.ext' hargs
          have e2 : ats = #[t1, t1] := Array.ext' hats
          subst e1 e2
          unfold execOp
          simp [hop, resolve, act_eval, invoke, builtin, hrun]
        · cases h
      · cases h
    · cases h
  · cases h
theorem Rel.grown {rs : List Reg} (hR : Rel T w0 ρ rs w) {w' : World} {row : Option Nat} (hg : w.grownBy w' row) (hreg : ∀ g, row = some g → w0.heap.size ≤ g ∧ ∀ (n : Nat) (r : Reg), rs[n]? = some r → r.cells ≠ [] → (ρ n).1 ≠ g) : Rel T w0 ρ rs w' :=
  hR.kept (S := fun g => row = some g) ⟨hg.os, hg.tape, hg.output, hg.size, fun k hk hn => hg.block k hk (fun e => hn e.symm)⟩ (fun n r hn hne he => (hreg _ he).2 n r hn hne rfl) (fun g hg => .inr (hreg g hg).1)
theorem sim_append (t : TypeId) (s x : LV) (h : appOf c = some (t, s, x)) (hR : Rel T w0 ρ c.rs w) {base : Nat} {e : TypeId} {i : TypeInfo} {z : Value} {size bytes : Nat} (ht : P.underlying t = some (.slice e)) (hi : P.info? e = some i) (hz : i.zero = some z) (hsize : i.size = size) (hby : i.bytes = bytes) (hzs : z.cells.size = size) (hsz : 0 < size)
    {v : Value} {n : Nat} {xs : List Value} (hs : s.den ρ = v) (hown : w.ownsRow base e size v n xs) {ad : Addr} {m cp : Nat} (hx : x.den ρ = .slice (some ad) m cp) (news : List LV) (hl : news.length = m * size) (hnews : ∀ (j : Nat) (u : LV), news[j]? = some u → w.cell? (ad.add j) = some (u.den ρ)) (h1 : news.all oneL = true)
    (h63 : n + m ≤ maxLen) (hbytes : (n + m) * bytes ≤ 140737488355328) (hbase : base ≤ w.heap.size) (hw0 : w0.heap.size ≤ base) (hreg : ∀ g, v.ownBlock = some g → ∀ (k : Nat) (r : Reg), c.rs[k]? = some r → r.cells ≠ [] → (ρ k).1 ≠ g)
    (next : ∀ v' w', w'.ownsRow base e size v' (n + m) (xs ++ denL ρ news) → w.grownBy w' v.ownBlock → (v'.ownBlock = v.ownBlock ∨ v'.ownBlock = some w.heap.size) → Rel T w0 ρ c.rs w' → At P Q (nextC c (.v v') c.rs) ρ w') : At P Q c ρ w := by
  obtain ⟨op, ho, ty, hrun⟩ := appOf_run (ρ := ρ) (w := w) h
  obtain ⟨v', w', hr, h2, h3, _, h5⟩ := run_append_own_at (P := P) (w := w) base t ty e i z size bytes ht hi hz hsize hby hzs hsz v n xs hown ad m cp (denL ρ news) (by rw [denL_length]; exact hl) (fun j u hu => by
      rw [denL_get] at hu
      cases hj : news[j]? with
      | none => rw [hj] at hu; cases hu
      | some u' =>
        rw [hj] at hu
        simp only [Option.map_some, Option.some.injEq] at hu
        subst hu
        exact hnews j u' hj) (fun u hu => by
      rw [denL_eq, List.mem_map] at hu
      obtain ⟨u', hu', rfl⟩ := hu
      exact oneL_den (List.all_eq_true.1 h1 u' hu') ρ) h63 hbytes hbase
  have hR' := hR.grown h3 (fun g hg => ⟨Nat.le_trans hw0 (hown.lt g hg).1, hreg g hg⟩)
  refine sim_op op ho (.v v') c.rs ρ w' (hrun v' w' ?_) rfl (next v' w' h2 h3 h5 hR')
  rw [hs, hx]
  exact hr

/-! ### A region that draws and holds calls -/
def isDraw (c : Cfg) : Bool := match c.k with
  | .code (.region _ _ true) :: _ => true
  | _ => false
def drawId (c : Cfg) : Nat := match c.k with
  | .code (.region id _ _) :: _ => id
  | _ => 0
def drawOps (c : Cfg) : Array Oper := match c.k with
  | .code (.region _ ops _) :: _ => ops
  | _ => #[]
def drawRest (c : Cfg) : List It := match c.k with
  | .code (.region _ _ _) :: k => k
  | _ => []
/-- a region in the midst of its order -/
structure OCfg where
  id : Nat
  ops : Array Oper
  u : Option Nat
  snap : List Reg
  r : List (Nat × Bool)
  d : Bool
  k : List It
  tmps : List LV
  rs : List Reg
def AtO (P : Program) (Q : Exit → Act → World → Prop) (c : OCfg) (ρs ρ : Nm) (w : World) : Prop := wpOrdU P c.ops (post P Q c.k) c.u (Snap ρs c.snap) c.r c.d (act ρ c.tmps) w
abbrev ordC (c : Cfg) (sp : List Nat) : OCfg := ⟨drawId c, drawOps c, gateOf (ordOf sp (drawOps c)) none, c.rs, ordOf sp (drawOps c), false, drawRest c, c.tmps, c.rs⟩
/-- what is so in the midst of it -/
structure RelO (T : List Nat) (w0 : World) (c : OCfg) (ρs ρ : Nm) (w : World) : Prop where
  rel : Rel T w0 ρ c.rs w
  agree : Agree c.snap.length ρs ρ
  und : undR c.snap.length c.snap = true
  len : c.snap.length ≤ c.rs.length
  pre : c.d = false → c.rs.take c.snap.length = c.snap
theorem sim_draw [hB : Body P Q fn R] (sp : List Nat) (hd : isDraw c = true) (hok : (drawOk P (drawOps c) (ordOf sp (drawOps c)) (gateOf (ordOf sp (drawOps c)) none) && undR c.rs.length c.rs) = true) (hR : Rel T w0 ρ c.rs w)
    (next : RelO T w0 (ordC c sp) ρ ρ w.drew → AtO P Q (ordC c sp) ρ ρ w.drew) : At P Q c ρ w := by
  obtain ⟨k, t, rs⟩ := c
  unfold isDraw at hd
  split at hd
  · rename_i id ops k' hk
    simp only at hk
    subst hk
    simp only [Bool.and_eq_true] at hok
    have hpre : rs.take rs.length = rs := List.take_length
    have hR' := hR.drew
    show (Code.region id ops true).wp P (post P Q k') (act ρ t) w
    exact drawOk_spec (S := Snap ρ rs) hok.1 (hB.pf.post k') (hR'.snap hpre (Agree.refl _ _) hok.2) (next ⟨hR', Agree.refl _ _, hok.2, Nat.le_refl _, fun _ => hpre⟩)
  · cases hd
def goO (P : Program) (hs : List Hint) (c : OCfg) : OCfg × List (LV × LV) := match ordGo P hs c.id c.ops c.u c.snap c.r c.d c.tmps c.rs with
  | ((r, d, t, rs), prs) => (⟨c.id, c.ops, c.u, c.snap, r, d, c.k, t, rs⟩, prs)
theorem sim_ord {c : OCfg} {ρs : Nm} (hs : List Hint) (hR : RelO T w0 c ρs ρ w) (h2 : (goO P hs c).2 = hs.map fun h => (h.old, h.new)) (he : AllEq c.rs.length ρ hs)
    (next : ∀ ρ' w', Moved ρ c.rs w ρ' (goO P hs c).1.rs w' → RelO T w0 (goO P hs c).1 ρs ρ' w' → AtO P Q (goO P hs c).1 ρs ρ' w') : AtO P Q c ρs ρ w := by
  obtain ⟨id, ops, u, snap, r, d, k, t, rs⟩ := c
  unfold goO at h2 next
  generalize hg : ordGo P hs id ops u snap r d t rs = q at h2 next
  obtain ⟨⟨r', d', t', rs'⟩, prs⟩ := q
  simp only at h2 next
  refine ordGo_sound hR.und r d t rs r' d' t' rs' prs ρ w hg (by rw [h2]; exact he.pairs) (Agree.refl _ _) (Nat.le_refl _) hR.rel hR.agree hR.len hR.pre (fun ρ' w' hm hR' ha hp => ?_)
  exact next ρ' w' hm ⟨hR', ha, hR.und, Nat.le_trans hR.len hm.size, hp⟩
/-- the region's end -/
theorem sim_ord_end {c : OCfg} {ρs : Nm} (hr : c.r = []) (h : At P Q ⟨c.k, c.tmps, c.rs⟩ ρ w) : AtO P Q c ρs ρ w := by
  unfold AtO
  rw [hr]
  exact h
def topO (c : OCfg) : Option Oper := match c.r with
  | (i, true) :: _ => match c.ops[i]? with
    | some o => match wantL c.ops c.tmps o with
      | some true => some o
      | _ => none
    | none => none
  | _ => none
def nextOT (c : OCfg) (x : LV) : List LV := match c.r with
  | p :: _ => match c.ops[p.1]? with
    | some o => putL c.tmps o.dst x
    | none => c.tmps
  | [] => c.tmps
def nextOD (c : OCfg) : Bool := match c.r with
  | p :: _ => nextD c.u p c.d
  | [] => c.d
abbrev nextO (c : OCfg) (x : LV) (rs : List Reg) : OCfg := ⟨c.id, c.ops, c.u, c.snap, c.r.tail, nextOD c, c.k, nextOT c x, rs⟩
theorem topO_step {c : OCfg} {ρs : Nm} {o : Oper} (h : topO c = some o) (hn : o.wp P (act ρ c.tmps) w (fun a' w' => ∃ x rs' ρ', a' = act ρ' (putL c.tmps o.dst x) ∧ RelO T w0 (nextO c x rs') ρs ρ' w' ∧ AtO P Q (nextO c x rs') ρs ρ' w') (post P Q c.k)) : AtO P Q c ρs ρ w := by
  obtain ⟨id, ops, u, snap, r, d, k, t, rs⟩ := c
  unfold topO at h
  split at h
  · rename_i i r' hr
    simp only at hr
    subst hr
    split at h
    · rename_i o' ho
      split at h
      · rename_i hw
        simp only [Option.some.injEq] at h
        subst h
        simp only at ho
        unfold AtO
        simp only [wpOrdU, wpOp, ho, wantL_spec hw ρ, if_true]
        left
        refine Oper.wp_mono (fun a' w' hK => ?_) hn
        obtain ⟨x, rs', ρ', ha, hR, hA⟩ := hK
        have hT : nextOT ⟨id, ops, u, snap, (i, true) :: r', d, k, t, rs⟩ x = putL t o'.dst x := by simp only [nextOT, ho]
        refine ⟨fun hd => hR.rel.snap (hR.pre hd) hR.agree hR.und, ?_⟩
        rw [ha, ← hT]
        exact hA
      · cases h
    · cases h
  · cases h
def callO (P : Program) (c : OCfg) : Option (FuncId × List LV) := match topO c with
  | some o => callOp P o c.tmps
  | none => none
def BackO (P : Program) (Q : Exit → Act → World → Prop) (T : List Nat) (w0 : World) (c : OCfg) (ρs ρ : Nm) (e : Ending) (w'' : World) : Prop :=
  ∃ (x : LV) (rs'' : List Reg) (ρ'' : Nm), e = .returned (x.den ρ'') ∧ act ρ'' c.tmps = act ρ c.tmps ∧ RelO T w0 (nextO c x rs'') ρs ρ'' w'' ∧ AtO P Q (nextO c x rs'') ρs ρ'' w''
theorem sim_ord_call {c : OCfg} {ρs : Nm} (f : FuncId) (args : List LV) (hc : callO P c = some (f, args)) (h : Calls P f (denL ρ args).toArray w (BackO P Q T w0 c ρs ρ)) : AtO P Q c ρs ρ w := by
  unfold callO at hc
  split at hc
  · rename_i o ho
    refine topO_step (T := T) (w0 := w0) ho ?_
    unfold Oper.wp
    rw [callOp_run hc]
    simp only [Oper.upon]
    refine h.mono ?_
    rintro e w'' ⟨x, rs'', ρ'', rfl, hs, hR, hA⟩
    exact ⟨x, rs'', ρ'', putL_act hs o.dst x x rfl, hR, hA⟩
  · cases hc
end
end Go.Proofs.Ytodjhkmbgennaaa
