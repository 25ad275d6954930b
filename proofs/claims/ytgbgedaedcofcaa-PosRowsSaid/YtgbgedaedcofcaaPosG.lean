/-
  pos: positions at large: what a law keeps of them; the methods over them.
-/
import Derived.Test.YtgbgedaedcofcaaPosF
namespace Go.Proofs.Ytgbgedaedcofcaa
open Go Go.RowKit
attribute [local irreducible] run goO leaveK someK nextK nextT nextOT nextOD loopBody loopRest loopK fillJ tmplOf tmplJ mergeT At AtO drawOk ordOf gateOf callC callO topOp topO idxOf appOf storeOf clearOf sliceOf calleeOf calleeO topQ idxQ newRowOf resL stepOp seek

section
variable {K V : Type} [DecidableEq K]
theorem look_ins (k k' : K) (v : V) (n : Nat) : ∀ (l : List (Ent K V)), look k' (ins k v n l) = if k' = k then some v else look k' l
  | [] => by
    by_cases h : k' = k
    · simp only [ins, look, h, if_true]
    · simp only [ins, look, h, if_false]
  | e :: l => by
    by_cases h1 : k = e.key
    · simp only [ins, if_pos h1, look]
      by_cases h2 : k' = k
      · rw [if_pos (h2.trans h1), if_pos h2]
      · rw [if_neg (fun e' => h2 (e'.trans h1.symm)), if_neg h2, if_neg (fun e' => h2 (e'.trans h1.symm))]
    · simp only [ins, if_neg h1, look]
      by_cases h2 : k' = e.key
      · rw [if_pos h2, if_neg (fun e' => h1 (e'.symm.trans h2)), if_pos h2]
      · rw [if_neg h2, look_ins k k' v n l, if_neg h2]
theorem look_del {k k' : K} : ∀ {l : List (Ent K V)}, (l.Pairwise fun a b => a.key ≠ b.key) → look k' (del k l) = if k' = k then none else look k' l
  | [], _ => by simp [del, look]
  | e :: l, h => by
    obtain ⟨h1, h2⟩ := List.pairwise_cons.1 h
    by_cases he : k = e.key
    · simp only [del, if_pos he, look]
      by_cases hk : k' = k
      · rw [if_pos hk, look_none]
        intro x hx e'
        exact h1 x hx (by rw [e', hk, he])
      · rw [if_neg hk, if_neg (fun e' => hk (e'.trans he.symm))]
    · simp only [del, if_neg he, look]
      rw [look_del h2]
      by_cases hk : k' = e.key
      · rw [if_pos hk, if_neg (fun e' => he (e'.symm.trans hk)), if_pos hk]
      · rw [if_neg hk, if_neg hk]
theorem ins_len (k : K) (v : V) (n : Nat) : ∀ (l : List (Ent K V)), (ins k v n l).length ≤ l.length + 1
  | [] => by simp [ins]
  | e :: l => by
    unfold ins
    split
    · simp
    · have := ins_len k v n l
      simp only [List.length_cons]
      omega
theorem look_self {e : Ent K V} : ∀ {l : List (Ent K V)}, (l.Pairwise fun a b => a.key ≠ b.key) → e ∈ l → look e.key l = some e.val
  | a :: l, h, he => by
    obtain ⟨h1, h2⟩ := List.pairwise_cons.1 h
    rcases List.mem_cons.1 he with rfl | he
    · simp [look]
    · simp only [look]
      rw [if_neg (fun e' => h1 e he e'.symm), look_self h2 he]
end
/-- what a change does to what is read -/
def addF (f : Key → B3) (k : Key) (sub by' : Int) (k' : Key) : B3 := if addC (f k) sub by' = 0 ∧ k' = k then setB (f k) sub (partB (f k) sub + by') else f k'
theorem addL_get {l : List (Ent Key B3)} {clock : Nat} (hf : Fine l clock) (k : Key) (sub by' : Int) (k' : Key) : getM (addL clock l k sub by') k' = addF (getM l) k sub by' k' := by
  unfold addL addF
  by_cases h : addC (getM l k) sub by' = 0
  · rw [if_pos h]
    by_cases hk : k' = k
    · rw [if_pos (⟨h, hk⟩ : addC (getM l k) sub by' = 0 ∧ k' = k)]
      split
      · rename_i hz
        rw [hz]
        show (look k' _).getD _ = _
        rw [look_del hf.keys, if_pos hk]
        rfl
      · show (look k' _).getD _ = _
        rw [look_ins, if_pos hk]
        rfl
    · rw [if_neg (fun h' : addC (getM l k) sub by' = 0 ∧ k' = k => hk h'.2)]
      split
      · show (look k' _).getD _ = _
        rw [look_del hf.keys, if_neg hk]
      · show (look k' _).getD _ = _
        rw [look_ins, if_neg hk]
  · rw [if_neg h, if_neg (fun h' => h h'.1)]
theorem setB_ok {b : B3} {sub by' : Int} (h : okB b) (hc : addC b sub by' = 0) : okB (setB b sub (partB b sub + by')) := by
  obtain ⟨fa, fb, fc⟩ := h
  unfold addC at hc
  split at hc
  · rename_i hh
    split at hc
    · cases hc
    · split at hc
      · cases hc
      · unfold setB
        split
        · exact ⟨by dsimp only; omega, fb, fc⟩
        · split
          · exact ⟨fa, by dsimp only; omega, fc⟩
          · exact ⟨fa, fb, by dsimp only; omega⟩
  · cases hc
theorem addL_all {l : List (Ent Key B3)} (P : B3 → Prop) (clock : Nat) (k : Key) (sub by' : Int) (h : ∀ e ∈ l, P e.val) (h2 : addC (getM l k) sub by' = 0 → setB (getM l k) sub (partB (getM l k) sub + by') ≠ (0, 0, 0) → P (setB (getM l k) sub (partB (getM l k) sub + by'))) : ∀ e ∈ addL clock l k sub by', P e.val := by
  intro e he
  unfold addL at he
  split at he
  · rename_i hc
    split at he
    · exact h e ((del_sub k l).subset he)
    · rename_i hz
      rcases ins_mem he with ⟨h3, _⟩ | ⟨_, h3, _⟩ | h3
      · exact h e h3
      · rw [h3]
        exact h2 hc hz
      · exact h e h3
  · exact h e he
theorem addL_len (l : List (Ent Key B3)) (clock : Nat) (k : Key) (sub by' : Int) : (addL clock l k sub by').length ≤ l.length + 1 := by
  unfold addL
  split
  · split
    · have := (del_sub k l).length_le
      omega
    · exact ins_len _ _ _ _
  · omega
/-- positions: a Pos in the block g, its map, what is in it -/
structure PoV (w : World) (B g : Nat) (m : Option Nat) (l : List (Ent Key B3)) (clock : Nat) : Prop where
  cell : Blk w g 74 #[.map m]
  mp : MpO encK encB ρ0 [] w m l clock
  ok : ∀ e ∈ l, okB e.val
  nz : ∀ e ∈ l, e.val ≠ (0, 0, 0)
  ge : B ≤ g
  geM : ∀ q, m = some q → B ≤ q
/-- what a method leaves -/
def PoQ2 (w : World) (B g : Nat) (m : Option Nat) (l' : List (Ent Key B3)) (V : Value) (e : Ending) (w' : World) : Prop :=
  ∃ m' clock', e = .returned V ∧ PoV w' B g m' l' clock' ∧ Kept (fun x => x = g ∨ m = some x) w w' ∧ (m' = m ∨ ∃ x, w.heap.size ≤ x ∧ m' = some x)
theorem PoV.drew {w : World} {B g : Nat} {m : Option Nat} {l : List (Ent Key B3)} {clock : Nat} (h : PoV w B g m l clock) : PoV w.drew B g m l clock := ⟨h.cell.drew, h.mp.drew, h.ok, h.nz, h.ge, h.geM⟩
theorem PoV.below {w w' : World} {B g : Nat} {m : Option Nat} {l : List (Ent Key B3)} {clock : Nat} (h : PoV w B g m l clock) (hb : Below w.heap.size w w') : PoV w' B g m l clock := ⟨h.cell.below hb h.cell.lt, h.mp.below hb, h.ok, h.nz, h.ge, h.geM⟩
theorem add_po (B g : Nat) (m : Option Nat) (l : List (Ent Key B3)) (clock : Nat) (k1 k2 : ByteArray) (sub by' : Int) (w : World) (h : PoV w B g m l clock) :
    Calls Try.prog 16 #[.pointer (some ⟨g, 0, none⟩), .agg #[.string k1, .string k2], .int .i64 sub, .int .i64 by'] w (PoQ2 w B g m (addL clock l (k1, k2) sub by') (.int .i64 (addC (getM l (k1, k2)) sub by'))) := by
  refine (add_l g m l clock (k1, k2) sub by' w h.cell h.mp h.ok).mono ?_
  rintro e w' ⟨m', clock', he, h1, h2, h3, h4⟩
  refine ⟨m', clock', he, ⟨h1, h2, addL_all okB clock (k1, k2) sub by' h.ok (fun hc _ => setB_ok (getM_ok h.ok (k1, k2)) hc), addL_all (fun b => b ≠ (0, 0, 0)) clock (k1, k2) sub by' h.nz (fun _ hz => hz), h.ge, fun q hq => ?_⟩, h3, h4⟩
  rcases h4 with rfl | ⟨x, hx, rfl⟩
  · exact h.geM q hq
  · injection hq with hq
    have h5 := h.ge
    have h6 := h.cell.lt
    omega
theorem get_po (B g : Nat) (m : Option Nat) (l : List (Ent Key B3)) (clock : Nat) (k1 k2 : ByteArray) (w : World) (h : PoV w B g m l clock) :
    Calls Try.prog 17 #[.pointer (some ⟨g, 0, none⟩), .agg #[.string k1, .string k2]] w fun e w' => e = .returned (.agg #[.int .i64 (getM l (k1, k2)).1, .int .i64 (getM l (k1, k2)).2.1, .int .i64 (getM l (k1, k2)).2.2]) ∧ Below w.heap.size w w' := get_any g m l clock (k1, k2) w h.cell h.mp
theorem part_po (B g : Nat) (m : Option Nat) (l : List (Ent Key B3)) (clock : Nat) (k1 k2 : ByteArray) (sub : Int) (w : World) (h : PoV w B g m l clock) :
    Calls Try.prog 19 #[.pointer (some ⟨g, 0, none⟩), .agg #[.string k1, .string k2], .int .i64 sub] w fun e w' => e = .returned (.int .i64 (partM (getM l (k1, k2)) sub)) ∧ Below w.heap.size w w' := part_any g m l clock (k1, k2) sub w h.cell h.mp
theorem whole_po (B g : Nat) (m : Option Nat) (l : List (Ent Key B3)) (clock : Nat) (k1 k2 : ByteArray) (w : World) (h : PoV w B g m l clock) :
    Calls Try.prog 22 #[.pointer (some ⟨g, 0, none⟩), .agg #[.string k1, .string k2]] w fun e w' => e = .returned (.int .i64 (clampV (sum3 (getM l (k1, k2))))) ∧ Below w.heap.size w w' := whole_any g m l clock (k1, k2) w h.cell h.mp h.ok
theorem total_po (B g : Nat) (m : Option Nat) (l : List (Ent Key B3)) (clock : Nat) (asset : ByteArray) (w : World) (h : PoV w B g m l clock) (hlen : l.length ≤ 1000000) :
    Calls Try.prog 21 #[.pointer (some ⟨g, 0, none⟩), .string asset] w fun e w' => e = .returned (.int .i64 (clampV (sumI (allOf l (sortKs (pickKs [asset] l)))))) ∧ Below w.heap.size w w' := total_any g m l clock asset w h.cell h.mp h.ok hlen
theorem keys_po (B g : Nat) (m : Option Nat) (l : List (Ent Key B3)) (clock : Nat) (A : Option Addr) (n cp B' : Nat) (tx : List ByteArray) (w : World) (h : PoV w B g m l clock) (hr : Reads w B' 1 A n (txtsV tx)) (hB : B' ≤ w.heap.size) (hn : n ≤ 4611686018427387904) (hlen : l.length ≤ 1000000) :
    Calls Try.prog 18 #[.pointer (some ⟨g, 0, none⟩), .slice A n cp] w (KeysN w (sortKs (pickKs tx l))) := keys_any g m l clock A n cp B' tx w h.cell h.mp hr hB hn hlen
/-- positions that stand beside what is in view -/
structure PoO (ρ : Nm) (rs : List Reg) (w : World) (B g : Nat) (m : Option Nat) (l : List (Ent Key B3)) (clock : Nat) : Prop where
  po : PoV w B g m l clock
  far : ¬ wrS ρ rs g
  farM : ∀ q, m = some q → ¬ wrS ρ rs q
theorem PoV.ltM {w : World} {B g : Nat} {m : Option Nat} {l : List (Ent Key B3)} {clock : Nat} (h : PoV w B g m l clock) {q : Nat} (hq : m = some q) : q < w.heap.size := (h.mp.is q hq).1.size
theorem PoO.moved {ρ ρ' : Nm} {rs rs' : List Reg} {w w' : World} {B g : Nat} {m : Option Nat} {l : List (Ent Key B3)} {clock : Nat} (h : PoO ρ rs w B g m l clock) (hm : Moved ρ rs w ρ' rs' w') : PoO ρ' rs' w' B g m l clock := by
  refine ⟨⟨(hm.kept.block g h.po.cell.lt h.far).trans h.po.cell, ⟨fun q hq => ⟨(h.po.mp.is q hq).1.same (hm.kept.block q (h.po.ltM hq) (h.farM q hq)), (h.po.mp.is q hq).2⟩, h.po.mp.nil⟩, h.po.ok, h.po.nz, h.po.ge, h.po.geM⟩, fun hw => (hm.wrs g hw).elim h.far (fun h1 => by have := h.po.cell.lt; omega), fun k hk hw => (hm.wrs k hw).elim (h.farM k hk) (fun h1 => by have := h.po.ltM hk; omega)⟩
theorem PoO.below {ρ : Nm} {rs : List Reg} {w w' : World} {B g : Nat} {m : Option Nat} {l : List (Ent Key B3)} {clock : Nat} (h : PoO ρ rs w B g m l clock) (hb : Below w.heap.size w w') : PoO ρ rs w' B g m l clock := ⟨h.po.below hb, h.far, h.farM⟩
theorem PoO.drew {ρ : Nm} {rs : List Reg} {w : World} {B g : Nat} {m : Option Nat} {l : List (Ent Key B3)} {clock : Nat} (h : PoO ρ rs w B g m l clock) : PoO ρ rs w.drew B g m l clock := ⟨h.po.drew, h.far, h.farM⟩
theorem PoO.castR {ρ : Nm} {rs rs' : List Reg} {w : World} {B g : Nat} {m : Option Nat} {l : List (Ent Key B3)} {clock : Nat} (h : PoO ρ rs w B g m l clock) (e : rs = rs') : PoO ρ rs' w B g m l clock := e ▸ h
theorem PoO.cut {ρ ρ' : Nm} {rs rs' : List Reg} {w : World} {N B g : Nat} {m : Option Nat} {l : List (Ent Key B3)} {clock : Nat} (h : PoO ρ' rs' w B g m l clock) (hag : Ag N ρ ρ' rs') (hN : rs.length = N) (e0 : rs'.take N = rs) : PoO ρ rs w B g m l clock :=
  ⟨h.po, fun hw => h.far (wrS_cut hag hN e0 hw), fun q hq hw => h.farM q hq (wrS_cut hag hN e0 hw)⟩
theorem PoO.new {T : List Nat} {w0 : World} {ρ : Nm} {rs : List Reg} {w w' : World} {g : Nat} (hR : Rel T w0 ρ rs w) (hg : w.heap.size ≤ g) (hb : Blk w' g 74 #[.map none]) : PoO ρ rs w' w.heap.size g none [] 0 :=
  ⟨⟨hb, .none_, fun e he => by (cases he), fun e he => by (cases he), hg, fun q hq => by cases hq⟩, fun hw => by have := hR.wr_lt hw; omega, fun k hk => by cases hk⟩
def roAll : List Reg → Nat → List Nat
  | [], _ => []
  | r :: rs, i => if r.wr then roAll rs (i + 1) else i :: roAll rs (i + 1)
theorem roAll_mem : ∀ (rs : List Reg) (i k : Nat) (r : Reg), rs[k]? = some r → r.wr = false → i + k ∈ roAll rs i
  | [], _, _, _, h, _ => by simp at h
  | q :: rs, _, 0, r, h, hw => by
    simp only [List.getElem?_cons_zero, Option.some.injEq] at h
    subst h
    simp [roAll, hw]
  | q :: rs, i, k + 1, r, h, hw => by
    simp only [List.getElem?_cons_succ] at h
    have ih := roAll_mem rs (i + 1) k r h hw
    rw [show i + 1 + k = i + (k + 1) by omega] at ih
    simp only [roAll]
    split
    · exact ih
    · exact List.mem_cons_of_mem _ ih
/-- behind a method -/
theorem PoO.after {T : List Nat} {w0 : World} {ρ : Nm} {rs : List Reg} {w w' : World} {B g : Nat} {m m' : Option Nat} {l l' : List (Ent Key B3)} {clock clock' : Nat} (h : PoO ρ rs w B g m l clock) (hR : Rel T w0 ρ rs w) (hw0 : w0.heap.size ≤ B) (hb : PoV w' B g m' l' clock') (hk : Kept (fun x => x = g ∨ m = some x) w w') (hv : m' = m ∨ ∃ x, w.heap.size ≤ x ∧ m' = some x)
    (il : List Nat) (hl : roAll rs 0 = il) (hidx : ∀ k ∈ il, (ρ k).1 < w0.heap.size) : PoO ρ rs w' B g m' l' clock' ∧ Rel T w0 ρ rs w' := by
  refine ⟨⟨hb, h.far, fun k hk hw => ?_⟩, hR.kept hk (fun n r hn _ hS => ?_) (fun x hx => .inr ?_)⟩
  · rcases hv with h1 | ⟨k', h1, h2⟩
    · exact h.farM k (h1 ▸ hk) hw
    · rw [h2] at hk
      injection hk with hk
      have := hR.wr_lt hw
      omega
  · cases hw : r.wr with
    | true =>
      rcases hS with hS | hS
      · exact h.far ⟨n, r, hn, hw, hS⟩
      · exact h.farM _ hS ⟨n, r, hn, hw, rfl⟩
    | false =>
      have := roAll_mem rs 0 n r hn hw
      rw [hl, Nat.zero_add] at this
      have h1 := hidx n this
      have h2 := h.po.ge
      rcases hS with hS | hS
      · omega
      · have := h.po.geM _ hS
        omega
  · rcases hx with hx | hx
    · have := h.po.ge
      omega
    · have := h.po.geM x hx
      omega
end Go.Proofs.Ytgbgedaedcofcaa
