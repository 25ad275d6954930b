/-
  An argument that is a slice of structs of ints, bools, texts and slices, opened: the rows of cells, each of its shape. Over any program.
  The cells of a struct of ints, bools, texts and slices, nested ones too: what each cell is, in memory too. Over any program.
-/
import Derived.Test.YtioehmngkoffaaaShape
import Derived.Test.YtioehmngkoffaaaOpen
import Derived.DataElems
import Derived.Test.YtioehmngkoffaaaOpenB
namespace Go.Proofs.Ytioehmngkoffaaa
section
open Go.ChangeShapes Go.WideShapes Go.ChangeAt Go.RowKit

theorem rows_of {w : World} {a : Addr} {c M : Nat} {ks : List Leaf} (hc0 : ks.length = c) (len : Nat) (h : ∀ i, i < len → ∃ x : List Value, AllFitM M ks x ∧ ∀ (j : Nat) (u : Value), x[j]? = some u → w.cell? (a.add (i * c + j)) = some u) :
    ∃ xss : List (List Value), xss.length = len ∧ (∀ x ∈ xss, AllFitM M ks x) ∧ xss.flatten.length = len * c ∧ ∀ (j : Nat) (u : Value), xss.flatten[j]? = some u → w.cell? (a.add j) = some u := by
  induction len with
  | zero => exact ⟨[], rfl, by simp, by simp, by simp⟩
  | succ n ih =>
    obtain ⟨xs, hl, hok, hfl, hc⟩ := ih (fun i hi => h i (by omega))
    obtain ⟨x, hx, hxc⟩ := h n (by omega)
    have hxl : x.length = c := by rw [allFit_length hx, hc0]
    refine ⟨xs ++ [x], by simp [hl], fun y hy => ?_, ?_, fun j u hu => ?_⟩
    · rcases List.mem_append.1 hy with hy | hy
      · exact hok y hy
      · rw [List.mem_singleton.1 hy]; exact hx
    · rw [List.flatten_append, List.length_append, hfl]
      simp [hxl, Nat.succ_mul]
    · rw [List.flatten_append] at hu
      rcases Nat.lt_or_ge j xs.flatten.length with hj | hj
      · rw [List.getElem?_append_left hj] at hu
        exact hc j u hu
      · rw [List.getElem?_append_right hj, hfl] at hu
        rw [hfl] at hj
        have e : [x].flatten = x := by simp
        rw [e] at hu
        have := hxc _ u hu
        rw [show n * c + (j - n * c) = j by omega] at this
        exact this
theorem weights_all_mem {H : Type} {P : Program} {e : TypeId} : ∀ {ds : List (DataW H)} {i : Nat} {d : DataW H}, ds[i]? = some d → ∀ m ∈ d.weights P e, m ∈ DataW.weightsAll P e ds
  | [], _, _, h, _, _ => by simp at h
  | d0 :: ds, 0, d, h, m, hm => by
    simp only [List.getElem?_cons_zero, Option.some.injEq] at h
    subst h
    simp only [DataW.weightsAll, List.mem_append]
    exact .inl hm
  | d0 :: ds, i + 1, d, h, m, hm => by
    simp only [List.getElem?_cons_succ] at h
    simp only [DataW.weightsAll, List.mem_append]
    exact .inr (weights_all_mem h m hm)
theorem open_rows {H : Type} {enc : TypeId × Value → H} {P : Program} {w : World} {r : Reach} {b0 n0 M : Nat} {t e : TypeId} {ks : List Leaf} {v : Value} {d : DataW H} {p : List MemPlace} (hs : shapeOf P n0 e = some ks) (hk : P.cellsOf e = ks.length) (hpos : 0 < ks.length) (ht : P.underlying t = some (.slice e))
    (hv : Value.okWide P w r b0 t v) (h : DataW.Trod enc P w 0 (fun _ => true) true t v d p) (hw : ∀ m ∈ d.weights P t, m ≤ M) :
    ∃ A n c xss, v = .slice A n c ∧ Reads w w.heap.size ks.length A n (List.flatten xss) ∧ n ≤ c ∧ c ≤ maxLen ∧ xss.length = n ∧ (∀ x ∈ xss, AllFitM M ks x) ∧ (A = none → n = 0 ∧ c = 0) := by
  obtain ⟨A, n, c, rfl⟩ := okWide_slice ht hv
  obtain ⟨fuel, hf⟩ := h
  rcases DataW.trod_slice ht hf with ⟨hcs, _⟩ | ⟨a, len, cap, elems, rest, m, rfl, hcs, hx, _, hl, hm, hlen, hel, _, _⟩
  · simp [Value.cells] at hcs
    obtain ⟨rfl, rfl, rfl⟩ := hcs
    exact ⟨none, 0, 0, [], rfl, Reads.none_, Nat.le_refl _, Nat.zero_le _, rfl, by simp, fun _ => ⟨rfl, rfl⟩⟩
  · simp [Value.cells] at hcs
    obtain ⟨rfl, rfl, rfl⟩ := hcs
    have hd : d = .slice (elems.map (·.1)) (rest.map (·.1)) := (Prod.mk.inj hx).1
    obtain ⟨xss, hxl, hok, hfl, hc⟩ := rows_of (w := w) (a := a) (M := M) (ks := ks) rfl n (fun i hi => by
      have h1 := hel i hi
      rw [hk, List.getElem?_eq_getElem (by omega)] at h1
      obtain ⟨cs, h2, h3⟩ := Option.bind_eq_some_iff.1 h1
      obtain ⟨hcl, h4, h5⟩ := World.cells?_some h2
      have hfit := shape_sized n0 _ _ _ _ _ hs h3 (fun q hq => hw q (by
        rw [hd]
        simp only [DataW.weights, ht]
        refine List.mem_cons_of_mem _ (List.mem_append_left _ (weights_all_mem (i := i) (d := (elems[i]'(by omega)).1) (by rw [List.getElem?_map, List.getElem?_eq_getElem (by omega)]; rfl) q hq))))
      refine ⟨cs, hfit, fun j u hu => ?_⟩
      have hj : j < ks.length := by
        have := (List.getElem?_eq_some_iff.1 hu).1
        rw [allFit_length hfit] at this
        exact this
      have := h5 j hj
      rw [Addr.add_add] at this
      rw [this, hu])
    refine ⟨some a, n, c, xss, rfl, ⟨hfl, fun hn => ⟨a, rfl, ?_, hc⟩⟩, hl, hm, hxl, hok, fun e => by cases e⟩
    have h0 := hc 0 _ (List.getElem?_eq_getElem (by rw [hfl]; exact Nat.mul_pos hn hpos))
    have hb := lt_of_cell h0
    rw [block_of_add] at hb
    exact hb
end

section
open Go.ChangeShapes Go.WideShapes Go.ChangeAt Go.RowKit

inductive Sh where
  | int
  | bool
  | text
  | any
  | rows (ks : List Sh)
mutual
/-- what a cell of such a kind is -/
def Sh.fits (w : World) (M : Nat) : Sh → Value → Prop
  | .int, v => ∃ z : Int, v = .int .i64 z ∧ Is64 z
  | .bool, v => ∃ b : Bool, v = .bool b
  | .text, v => ∃ s : ByteArray, v = .string s ∧ s.size ≤ M
  | .any, _ => True
  | .rows ks, v => ∃ A n c xss, v = .slice A n c ∧ Reads w w.heap.size ks.length A n (List.flatten xss) ∧ n ≤ c ∧ c ≤ maxLen ∧ xss.length = n ∧ (∀ x ∈ xss, Sh.all w M ks x) ∧ (A = none → n = 0 ∧ c = 0)
def Sh.all (w : World) (M : Nat) : List Sh → List Value → Prop
  | [], [] => True
  | k :: ks, v :: vs => Sh.fits w M k v ∧ Sh.all w M ks vs
  | _, _ => False
end
section
variable {w : World} {M : Nat}
theorem all_nil {cs : List Value} (h : Sh.all w M [] cs) : cs = [] := by
  cases cs with
  | nil => rfl
  | cons v vs => simp [Sh.all] at h
theorem all_cons {k : Sh} {ks : List Sh} {cs : List Value} (h : Sh.all w M (k :: ks) cs) : ∃ v vs, cs = v :: vs ∧ Sh.fits w M k v ∧ Sh.all w M ks vs := by
  cases cs with
  | nil => simp [Sh.all] at h
  | cons v vs => simp only [Sh.all] at h; exact ⟨v, vs, rfl, h.1, h.2⟩
theorem all_append : ∀ {ks ks' : List Sh} {vs vs' : List Value}, Sh.all w M ks vs → Sh.all w M ks' vs' → Sh.all w M (ks ++ ks') (vs ++ vs')
  | [], _, vs, _, h, h' => by rw [all_nil h]; exact h'
  | k :: ks, _, vs, _, h, h' => by
    obtain ⟨v, vs, rfl, h1, h2⟩ := all_cons h
    simp only [List.cons_append, Sh.all]
    exact ⟨h1, all_append h2 h'⟩
theorem all_length : ∀ {ks : List Sh} {vs : List Value}, Sh.all w M ks vs → vs.length = ks.length
  | [], vs, h => by rw [all_nil h]; rfl
  | k :: ks, vs, h => by
    obtain ⟨v, vs, rfl, h1, h2⟩ := all_cons h
    simp [all_length h2]
theorem all_split : ∀ (ks ks' : List Sh) (cs : List Value), Sh.all w M (ks ++ ks') cs → ∃ vs vs', cs = vs ++ vs' ∧ Sh.all w M ks vs ∧ Sh.all w M ks' vs' := by
  intro ks
  induction ks with
  | nil => intro ks' cs h; exact ⟨[], cs, rfl, by simp [Sh.all], h⟩
  | cons k ks ih =>
    intro ks' cs h
    obtain ⟨v, vs, rfl, h1, h2⟩ := all_cons h
    obtain ⟨us, us', rfl, h3, h4⟩ := ih ks' vs h2
    exact ⟨v :: us, us', rfl, by simp only [Sh.all]; exact ⟨h1, h3⟩, h4⟩
theorem all_int {ks : List Sh} {cs : List Value} (h : Sh.all w M (.int :: ks) cs) : ∃ z vs, cs = .int .i64 z :: vs ∧ Is64 z ∧ Sh.all w M ks vs := by
  obtain ⟨v, vs, rfl, h1, h2⟩ := all_cons h
  simp only [Sh.fits] at h1
  obtain ⟨z, rfl, hz⟩ := h1
  exact ⟨z, vs, rfl, hz, h2⟩
theorem all_bool {ks : List Sh} {cs : List Value} (h : Sh.all w M (.bool :: ks) cs) : ∃ z vs, cs = .bool z :: vs ∧ Sh.all w M ks vs := by
  obtain ⟨v, vs, rfl, h1, h2⟩ := all_cons h
  simp only [Sh.fits] at h1
  obtain ⟨z, rfl⟩ := h1
  exact ⟨z, vs, rfl, h2⟩
theorem all_text {ks : List Sh} {cs : List Value} (h : Sh.all w M (.text :: ks) cs) : ∃ (z : ByteArray) (vs : List Value), cs = .string z :: vs ∧ z.size ≤ M ∧ Sh.all w M ks vs := by
  obtain ⟨v, vs, rfl, h1, h2⟩ := all_cons h
  simp only [Sh.fits] at h1
  obtain ⟨z, rfl, hz⟩ := h1
  exact ⟨z, vs, rfl, hz, h2⟩
theorem all_ints : ∀ (xss : List (List Value)), (∀ x ∈ xss, Sh.all w M [.int] x) → ∃ ids : List Int, xss.flatten = ints ids ∧ ids.length = xss.length ∧ ∀ i ∈ ids, Is64 i
  | [], _ => ⟨[], rfl, rfl, by simp⟩
  | x :: xss, h => by
    obtain ⟨ids, h1, h2, h3⟩ := all_ints xss (fun y hy => h y (by simp [hy]))
    obtain ⟨z, vs, hx, hz, hn⟩ := all_int (h x (by simp))
    rw [all_nil hn] at hx
    refine ⟨z :: ids, by rw [List.flatten_cons, hx, h1]; rfl, by simp [h2], fun i hi => ?_⟩
    rcases List.mem_cons.1 hi with rfl | hi
    · exact hz
    · exact h3 i hi
/-- a slice of ints -/
theorem all_irow {ks : List Sh} {cs : List Value} (h : Sh.all w M (.rows [.int] :: ks) cs) : ∃ (r : IRow) (vs : List Value), cs = r.val :: vs ∧ r.ok w w.heap.size ∧ (r.A = none → r.n = 0 ∧ r.c = 0) ∧ Sh.all w M ks vs := by
  obtain ⟨v, vs, rfl, h1, h2⟩ := all_cons h
  simp only [Sh.fits] at h1
  obtain ⟨A, n, c, xss, rfl, hrd, hnc, hc, hl, hx, hA⟩ := h1
  obtain ⟨ids, e1, e2, e3⟩ := all_ints xss hx
  rw [e1] at hrd
  exact ⟨⟨A, n, c, ids⟩, vs, rfl, ⟨hrd, hnc, hc, fun x hx => e3 x hx⟩, hA, h2⟩
end
def joinSh : Nat → List (Nat × Nat × Option (List Sh)) → Option (List Sh)
  | _, [] => some []
  | off, (o, c, some ks) :: r => if o = off ∧ c = ks.length then (joinSh (off + c) r).map (ks ++ ·) else none
  | _, (_, _, none) :: _ => none
/-- the kinds of a type's cells -/
def shOf (P : Program) : Nat → TypeId → Option (List Sh)
  | 0, _ => none
  | n + 1, t =>
    match P.underlying t with
    | some (.int .i64) => some [.int]
    | some .bool => some [.bool]
    | some .string => some [.text]
    | some (.slice e) => match shOf P n e with
      | some ks => if P.cellsOf e = ks.length ∧ 0 < ks.length then some [.rows ks] else some [.any]
      | none => some [.any]
    | some (.struct fs) =>
      match joinSh 0 (fs.toList.map fun f => (f.offset, P.cellsOf f.type, shOf P n f.type)) with
      | some ks => if P.cellsOf t = ks.length then some ks else none
      | none => none
    | _ => none
theorem join_sh {w : World} {M : Nat} {cs : List Value} : ∀ (l : List (Nat × Nat × Option (List Sh))) (off : Nat) (ks : List Sh), joinSh off l = some ks →
    (∀ o c k, (o, c, some k) ∈ l → Sh.all w M k ((cs.drop o).take c)) → Sh.all w M ks ((cs.drop off).take ks.length)
  | [], off, ks, h, _ => by
    simp only [joinSh, Option.some.injEq] at h
    subst h
    simp [Sh.all]
  | (o, c, some k) :: r, off, ks, h, hf => by
    simp only [joinSh] at h
    split at h
    · rename_i hc
      obtain ⟨rfl, rfl⟩ := hc
      simp only [Option.map_eq_some_iff] at h
      obtain ⟨ks', h1, rfl⟩ := h
      have ih := join_sh r _ ks' h1 (fun o c k hm => hf o c k (List.mem_cons_of_mem _ hm))
      have h0 := hf o k.length k (by simp)
      have e : (cs.drop o).take (k ++ ks').length = (cs.drop o).take k.length ++ (cs.drop (o + k.length)).take ks'.length := by
        rw [List.length_append, List.take_add, List.drop_drop]
      rw [e]
      exact all_append h0 ih
    · cases h
  | (o, c, none) :: r, off, ks, h, _ => by simp [joinSh] at h
theorem rows_ofW {w : World} {a : Addr} {c : Nat} {F : List Value → Prop} (len : Nat) (h : ∀ i, i < len → ∃ x : List Value, F x ∧ x.length = c ∧ ∀ (j : Nat) (u : Value), x[j]? = some u → w.cell? (a.add (i * c + j)) = some u) :
    ∃ xss : List (List Value), xss.length = len ∧ (∀ x ∈ xss, F x) ∧ xss.flatten.length = len * c ∧ ∀ (j : Nat) (u : Value), xss.flatten[j]? = some u → w.cell? (a.add j) = some u := by
  induction len with
  | zero => exact ⟨[], rfl, by simp, by simp, by simp⟩
  | succ n ih =>
    obtain ⟨xs, hl, hok, hfl, hc⟩ := ih (fun i hi => h i (by omega))
    obtain ⟨x, hx, hxl, hxc⟩ := h n (by omega)
    refine ⟨xs ++ [x], by simp [hl], fun y hy => ?_, ?_, fun j u hu => ?_⟩
    · rcases List.mem_append.1 hy with hy | hy
      · exact hok y hy
      · rw [List.mem_singleton.1 hy]; exact hx
    · rw [List.flatten_append, List.length_append, hfl]
      simp [hxl, Nat.succ_mul]
    · rw [List.flatten_append] at hu
      rcases Nat.lt_or_ge j xs.flatten.length with hj | hj
      · rw [List.getElem?_append_left hj] at hu
        exact hc j u hu
      · rw [List.getElem?_append_right hj, hfl] at hu
        rw [hfl] at hj
        have e : [x].flatten = x := by simp
        rw [e] at hu
        have := hxc _ u hu
        rw [show n * c + (j - n * c) = j by omega] at this
        exact this
theorem sh_fits {w : World} {M : Nat} {H : Type} {enc : TypeId × Value → H} {P : Program} : ∀ (n : Nat) (t : TypeId) (ks : List Sh) (fuel : Nat) (cs : List Value) (x : DataW H × List MemPlace),
    shOf P n t = some ks → DataW.trod enc P w 0 (fun _ => true) true fuel t cs = some x → (maxLen ≤ M ∨ ∀ m ∈ x.1.weights P t, m ≤ M) → Sh.all w M ks cs
  | 0, _, _, _, _, _, h, _, _ => by simp [shOf] at h
  | n + 1, t, ks, fuel, cs, x, h, hx, hw => by
    unfold shOf at h
    split at h
    · rename_i hu
      injection h with h
      subst h
      obtain ⟨z, rfl, _, hw⟩ := DataW.trod_int hu hx
      simp only [Sh.all, Sh.fits]
      exact ⟨⟨z, rfl, bounds_of_wf hw⟩, trivial⟩
    · rename_i hu
      injection h with h
      subst h
      obtain ⟨b, rfl, _⟩ := DataW.trod_bool hu hx
      simp only [Sh.all, Sh.fits]
      exact ⟨⟨b, rfl⟩, trivial⟩
    · rename_i hu
      injection h with h
      subst h
      obtain ⟨s, rfl, rfl, hs⟩ := DataW.trod_string hu hx
      simp only [Sh.all, Sh.fits]
      refine ⟨⟨s, rfl, ?_⟩, trivial⟩
      rcases hw with hw | hw
      · exact Nat.le_trans hs hw
      · have := hw s.data.toList.length (by simp [DataW.weights]); simpa using this
    · rename_i e hu
      have hany : ks = [.any] → Sh.all w M ks cs := by
        rintro rfl
        rcases DataW.trod_slice hu hx with ⟨hcs, _⟩ | ⟨a, len, cap, elems, rest, m, _, hcs, _⟩
        · subst hcs
          simp [Sh.all, Sh.fits]
        · subst hcs
          simp [Sh.all, Sh.fits]
      split at h
      · rename_i ks' hks
        split at h
        · rename_i hc
          injection h with h
          subst h
          rcases DataW.trod_slice hu hx with ⟨hcs, _⟩ | ⟨a, len, cap, elems, rest, m, rfl, hcs, hx1, _, hl, hm, hlen, hel, _, _⟩
          · subst hcs
            simp only [Sh.all, Sh.fits]
            exact ⟨⟨none, 0, 0, [], rfl, Reads.none_, Nat.le_refl _, Nat.zero_le _, rfl, by simp, fun _ => ⟨rfl, rfl⟩⟩, trivial⟩
          · have hd : x.1 = .slice (elems.map (·.1)) (rest.map (·.1)) := (Prod.mk.inj hx1).1
            obtain ⟨xss, hxl, hok, hfl, hcell⟩ := rows_ofW (w := w) (a := a) (c := ks'.length) (F := Sh.all w M ks') len (fun i hi => by
              have h1 := hel i hi
              rw [hc.1, List.getElem?_eq_getElem (by omega)] at h1
              obtain ⟨cs', h2, h3⟩ := Option.bind_eq_some_iff.1 h1
              obtain ⟨hcl, h4, h5⟩ := World.cells?_some h2
              have hfit := sh_fits n _ _ _ _ _ hks h3 (hw.imp id (fun hw q hq => hw q (by
                rw [hd]
                simp only [DataW.weights, hu]
                refine List.mem_cons_of_mem _ (List.mem_append_left _ (weights_all_mem (i := i) (d := (elems[i]'(by omega)).1) (by rw [List.getElem?_map, List.getElem?_eq_getElem (by omega)]; rfl) q hq)))))
              refine ⟨cs', hfit, all_length hfit, fun j u hu => ?_⟩
              have hj : j < ks'.length := by
                have := (List.getElem?_eq_some_iff.1 hu).1
                rw [all_length hfit] at this
                exact this
              have := h5 j hj
              rw [Addr.add_add] at this
              rw [this, hu])
            subst hcs
            simp only [Sh.all, Sh.fits]
            refine ⟨⟨some a, len, cap, xss, rfl, ⟨hfl, fun hn => ⟨a, rfl, ?_, hcell⟩⟩, hl, hm, hxl, hok, fun e => by cases e⟩, trivial⟩
            · have h0 := hcell 0 _ (List.getElem?_eq_getElem (by rw [hfl]; exact Nat.mul_pos hn hc.2))
              have hb := lt_of_cell h0
              rw [block_of_add] at hb
              exact hb
        · injection h with h
          exact hany h.symm
      · injection h with h
        exact hany h.symm
    · rename_i fs hu
      obtain ⟨xs, m, _, rfl, hl, hlen, hf⟩ := DataW.trod_struct hu hx
      split at h
      · rename_i ks' hj
        split at h
        · rename_i hc
          injection h with h
          subst h
          have := join_sh (w := w) (M := M) (cs := cs) _ 0 ks' hj (fun o c k hm => by
            rw [List.mem_map] at hm
            obtain ⟨f, hm, e⟩ := hm
            injection e with e1 e
            injection e with e2 e3
            subst e1 e2
            obtain ⟨i, hi, he⟩ := List.mem_iff_getElem.1 hm
            have hfi : fs[i]? = some f := by
              rw [← he, ← Array.getElem?_toList, List.getElem?_eq_getElem hi]
            have hp := hf i f hfi
            have hil : i < xs.length := by rw [hlen]; simpa using hi
            rw [List.getElem?_eq_getElem hil] at hp
            exact sh_fits n f.type k m _ _ e3 hp (hw.imp id (fun hw q hq => hw q (by
              simp only [DataW.weights, hu]
              exact DataW.weights_mem_each (j := i) (t := f.type) (d := (xs[i]).1) (by rw [List.getElem?_map, Array.getElem?_toList, hfi]; rfl) (by rw [List.getElem?_map, List.getElem?_eq_getElem hil]; rfl) q hq))))
          rw [List.drop_zero, List.take_of_length_le (by omega)] at this
          exact this
        · cases h
      · cases h
    · cases h
/-- an argument that is a slice -/
theorem open_rowsW {H : Type} {enc : TypeId × Value → H} {P : Program} {w : World} {r : Reach} {b0 n0 M : Nat} {t e : TypeId} {ks : List Sh} {v : Value} {d : DataW H} {p : List MemPlace} (ht : P.underlying t = some (.slice e)) (hs : shOf P n0 t = some [.rows ks])
    (hv : Value.okWide P w r b0 t v) (h : DataW.Trod enc P w 0 (fun _ => true) true t v d p) (hw : maxLen ≤ M ∨ ∀ m ∈ d.weights P t, m ≤ M) :
    ∃ A n c xss, v = .slice A n c ∧ Reads w w.heap.size ks.length A n (List.flatten xss) ∧ n ≤ c ∧ c ≤ maxLen ∧ xss.length = n ∧ (∀ x ∈ xss, Sh.all w M ks x) ∧ (A = none → n = 0 ∧ c = 0) := by
  obtain ⟨A, n, c, rfl⟩ := okWide_slice ht hv
  obtain ⟨fuel, hf⟩ := h
  have := sh_fits n0 _ _ _ _ _ hs hf hw
  obtain ⟨v, vs, e, h1, h2⟩ := all_cons this
  simp only [Sh.fits] at h1
  obtain ⟨A', n', c', xss, rfl, h3⟩ := h1
  simp [Value.cells] at e
  obtain ⟨⟨rfl, rfl, rfl⟩, _⟩ := e
  exact ⟨A, n, c, xss, rfl, h3.1, h3.2.1, h3.2.2.1, h3.2.2.2.1, h3.2.2.2.2.1, h3.2.2.2.2.2⟩
/-- an argument that is a struct -/
theorem open_structW {H : Type} {enc : TypeId × Value → H} {P : Program} {w : World} {r : Reach} {b0 n0 M : Nat} {t : TypeId} {fs : Array Field} {ks : List Sh} {v : Value} {d : DataW H} {p : List MemPlace} (ht : P.underlying t = some (.struct fs)) (hs : shOf P n0 t = some ks)
    (hv : Value.okWide P w r b0 t v) (h : DataW.Trod enc P w 0 (fun _ => true) true t v d p) (hw : maxLen ≤ M ∨ ∀ m ∈ d.weights P t, m ≤ M) :
    ∃ cs : List Value, v = .agg cs.toArray ∧ Sh.all w M ks cs := by
  obtain ⟨cs, rfl, _⟩ := okWide_struct ht hv
  obtain ⟨fuel, hf⟩ := h
  exact ⟨cs.toList, rfl, sh_fits n0 _ _ _ cs.toList _ hs hf hw⟩
end
end Go.Proofs.Ytioehmngkoffaaa
