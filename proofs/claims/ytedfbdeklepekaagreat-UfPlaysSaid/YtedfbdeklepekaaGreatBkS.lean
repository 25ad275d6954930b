/-
  A number of a row of one's own comes into view; one is stored, in a region that draws. Over any program.
-/
import Derived.Test.YtedfbdeklepekaaGreatBkI4
namespace Go.Proofs.YtedfbdeklepekaaGreat
open Go Go.RowKit
section
variable {P : Program} {Q : Exit → Act → World → Prop} {T : List Nat} {w0 w : World} {ρ : Nm} {c : Cfg}
theorem flat_intsQ (l : List Int) : (l.map fun z => [Value.int .i64 z]).flatten = ints l := by
  induction l with
  | nil => rfl
  | cons a l ih => rw [List.map_cons, List.flatten_cons, ih]; rfl
theorem sim_seeQ {g n B cp : Nat} {e : TypeId} {pl : List Int} (z : Int) (k N : Nat) (hN : c.rs.length = N) (hk : pl[k]? = some z) (hown : Own ρ c.rs w B e 1 (.slice (some ⟨g, 0, none⟩) n cp) n (ints pl)) (hlt : k < n) (hR : Rel T w0 ρ c.rs w) (hu : (undR N c.rs && undL N c.tmps) = true)
    (next : ∀ ρ', Moved ρ c.rs w ρ' (c.rs ++ [⟨[LI z], false⟩]) w → ρ' N = (g, k) → Rel T w0 ρ' (c.rs ++ [⟨[LI z], false⟩]) w → At P Q ⟨c.k, c.tmps, c.rs ++ [⟨[LI z], false⟩]⟩ ρ' w) : At P Q c ρ w :=
  sim_seeO (xss := pl.map fun z => [Value.int .i64 z]) (sz := 1) [.int .i64 z] k N hN (by rw [List.getElem?_map, hk]; rfl) (by rw [flat_intsQ]; exact hown) (by intro y hy; obtain ⟨o, _, rfl⟩ := List.mem_map.1 hy; rfl) (by omega) hlt hR hu (fun ρ' hm e hR' => next ρ' hm (by rw [e]; congr 1; omega) hR')
/-- an address is named -/
theorem sim_name (N : Nat) (hN : c.rs.length = N) (hR : Rel T w0 ρ c.rs w) (B o : Nat) (hu : (undR N c.rs && undL N c.tmps) = true) (hlt : B < w.heap.size) (hap : ¬ wrS ρ c.rs B)
    (next : ∀ ρ', Moved ρ c.rs w ρ' (c.rs ++ [⟨[], false⟩]) w → ρ' N = (B, o) → Rel T w0 ρ' (c.rs ++ [⟨[], false⟩]) w → At P Q ⟨c.k, c.tmps, c.rs ++ [⟨[], false⟩]⟩ ρ' w) : At P Q c ρ w := by
  simp only [Bool.and_eq_true] at hu
  subst hN
  exact sim_open c.rs.length rfl hR B o [] (by rw [hu.1, hu.2]; rfl) hlt (fun j v hj => by simp at hj) (fun m r hm hw he => hap ⟨m, r, hm, hw, he⟩) (fun ρ' ha hn hR' => next ρ' (Moved.ext_ro ha rfl) hn hR')
end
def storeOp (P : Program) (tmps : List LV) (o : Oper) : Option (LV × List LV) := match o.op with
  | .store t a x => match P.info? t with
    | some i => if Nat.beq (evalL tmps x).cells.length i.size && (evalL tmps x).cells.all oneL then some (evalL tmps a, (evalL tmps x).cells) else none
    | none => none
  | _ => none
def storeOfO (P : Program) (c : OCfg) : Option (LV × List LV) := (topO c).bind (storeOp P c.tmps)
theorem storeOp_run {P : Program} {ρ : Nm} {tmps : List LV} {op : Oper} {a : LV} {vs : List LV} (h : storeOp P tmps op = some (a, vs)) {w : World} {g o : Nat} (ha : a.den ρ = .pointer (some ⟨g, o, none⟩)) {t : TypeId} {cur : List Value} (hb : Blk w g t cur.toArray) (hlen : o + vs.length ≤ cur.length) :
    (execOp (act ρ tmps).eval op).run P w = .ok .skip (w.setRow g (overlay cur o (denL ρ vs)).toArray) := by
  unfold storeOp at h
  split at h
  · rename_i ty ad x hop
    split at h
    · rename_i i hi
      split at h
      · rename_i hc
        simp only [Bool.and_eq_true] at hc
        simp only [Option.some.injEq, Prod.mk.injEq] at h
        obtain ⟨rfl, rfl⟩ := h
        have hsz := Nat.eq_of_beq_eq_true hc.1
        have hrun := run_storeCells_at (P := P) g o t (denL ρ (evalL tmps x).cells) 0 cur.toArray w hb (by rw [denL_length, Nat.add_zero]; simpa using hlen) (fun v hv => by
          rw [denL_eq, List.mem_map] at hv
          obtain ⟨u, hu, rfl⟩ := hv
          exact oneL_den (List.all_eq_true.1 hc.2 u hu) ρ)
        simp only [Nat.add_zero] at hrun
        unfold execOp
        have hs : (LV.den ρ (evalL tmps x)).cells.size = i.size := by rw [cells_size]; exact hsz
        simp only [hop, act_eval, ha, Instr.storeAt, Instr.sureAddr, storeVar, Sem.run_bind, Sem.run_pure, Result.andThen_ok, sizeOf, typeInfo, run_program, hi, hs, LV.den_cells, ne_eq, not_true_eq_false, if_false, hrun]
        rfl
      · cases h
    · cases h
  · cases h
theorem overlay_oneQ (l : List Value) (i : Nat) (v : Value) (h : i < l.length) : overlay l i [v] = l.set i v := by
  unfold overlay
  rw [List.set_eq_take_append_cons_drop, if_pos h, List.append_assoc]
  rfl
section
variable {P : Program} {Q : Exit → Act → World → Prop} {T : List Nat} {w0 w : World} {ρ : Nm}
/-- a store into a row of numbers of one's own, in a region that draws -/
theorem sim_ord_storeQ {c : OCfg} {ρs : Nm} {a : LV} {z : Int} (h : storeOfO P c = some (a, [LI z])) (hR : RelO T w0 c ρs ρ w) {g i n cp base : Nat} {e : TypeId} {pl : List Int} (hown : Own ρ c.rs w base e 1 (.slice (some ⟨g, 0, none⟩) n cp) n (ints pl)) (ha : a.den ρ = .pointer (some ⟨g, i, none⟩)) (hi : i < n) (hT : g ∈ T ∨ w0.heap.size ≤ g)
    (l : List Nat) (hro : roIdx c.rs 0 = l) (hidx : ∀ k ∈ l, (ρ k).1 ≠ g)
    (next : ∀ w', Own ρ c.rs w' base e 1 (.slice (some ⟨g, 0, none⟩) n cp) n (ints (pl.set i z)) → Kept (fun x => x = g) w w' → RelO T w0 (nextO c (.v undef) c.rs) ρs ρ w' → AtO P Q (nextO c (.v undef) c.rs) ρs ρ w') : AtO P Q c ρs ρ w := by
  obtain ⟨hl, h2⟩ := hown.own
  rw [ints_length] at hl
  rcases h2 with ⟨h3, _⟩ | ⟨g', cap, cur, he, hb, hg, hn, hm, hsz, ht⟩
  · cases h3
  · injection he with he h4 h5
    injection he with he
    injection he with he
    subst he h5
    have hcl : i < cur.toList.length := by rw [Array.length_toList, hsz]; omega
    obtain ⟨o, ho, h6⟩ := bind_of h
    have hblk : Blk w g e cur.toList.toArray := by rw [Array.toArray_toList]; exact hg
    have hrun := storeOp_run (ρ := ρ) h6 ha hblk (by show i + 1 ≤ _; omega)
    have hk : Kept (fun x => x = g) w (w.setRow g (overlay cur.toList i (denL ρ [LI z])).toArray) := Kept.setRow w g _
    have hreg : ∀ (k : Nat) (r : Reg), c.rs[k]? = some r → r.cells ≠ [] → (ρ k).1 ≠ g := fun k r' hk hne he => by
      cases hw : r'.wr with
      | true => exact hown.far g rfl ⟨k, r', hk, hw, he⟩
      | false =>
        have := roIdx_mem c.rs 0 k r' hk hw hne
        rw [hro, Nat.zero_add] at this
        exact hidx k this he
    have hR' := hR.rel.kept hk (fun n r hn hne he => hreg n r hn hne he) (fun y hy => by rw [hy]; exact hT)
    refine sim_ord_turn o ho (.v undef) _ hR hR' (.inr ⟨hrun, rfl⟩) (next _ ⟨⟨by rw [ints_length, List.length_set]; exact hl, .inr ⟨g, cp, _, rfl, hb, hblk.setRow _, hn, hm, ?_, ?_⟩⟩, hown.far⟩ hk)
    · show (overlay cur.toList i [Value.int .i64 z]).toArray.size = _
      rw [overlay_oneQ _ _ _ hcl, List.size_toArray, List.length_set, Array.length_toList, hsz]
    · show ((overlay cur.toList i [Value.int .i64 z]).toArray.toList).take (n * 1) = _
      rw [overlay_oneQ _ _ _ hcl, List.toList_toArray, List.take_set, ht]
      unfold ints
      rw [List.map_set]
end
end Go.Proofs.YtedfbdeklepekaaGreat
