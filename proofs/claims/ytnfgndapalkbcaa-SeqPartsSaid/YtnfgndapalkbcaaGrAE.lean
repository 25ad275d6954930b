/-
  A graph of links in memory: where it lies, and what stands there.
  link.joined: the classes as they are, and those that links make of them.
  slices.IndexFunc, slices.ContainsFunc at int, and IndexFunc at rows of ints.
  slices.Index, slices.Contains at int.
  link.heads: of each class which ones stand straight ahead of it.
  link.order's closures: whether a class is ready.
  link.order: all classes in their order.
-/
import Derived.Test.YtnfgndapalkbcaaLkP
import Derived.Test.YtnfgndapalkbcaaSta
import Derived.Test.YtnfgndapalkbcaaRwsI
import Derived.Test.YtnfgndapalkbcaaTree
import Derived.Test.YtnfgndapalkbcaaDrawG
namespace Go.Proofs.Ytnfgndapalkbcaa
section
open Go Go.RowKit
/-- where a graph lies -/
structure GrP where
  b : Nat
  pb : Nat
  pg : Nat
  A : Option Addr
  c : Nat
  L : Option Addr
  cl : Nat
def GrP.has (q : GrP) (x : Nat) : Prop := x = q.b ∨ x = q.pb ∨ x = q.pg ∨ ∃ a, q.L = some a ∧ a.block = x
def GrP.ge (q : GrP) (B : Nat) : Prop := ∀ x, q.has x → B ≤ x
structure GrV (q : GrP) (u : List Nat) (ls : List Lk) (w : World) : Prop where
  blk : Blk w q.b 36 #[.pointer (some ⟨q.pb, 0, none⟩), .slice q.L ls.length q.cl]
  uf : UfAt w q.pb q.pg u q.A q.c
  own : w.ownsRow 0 30 3 (.slice q.L ls.length q.cl) ls.length (lkV ls)
theorem UfAt.kept {S : Nat → Prop} {w w' : World} {b g : Nat} {u : List Nat} {A : Option Addr} {c : Nat} (h : UfAt w b g u A c) (hk : Kept S w w') (hb : ¬ S b) (hg : ¬ S g) : UfAt w' b g u A c := by
  refine ⟨h.blk.kept hk hb, own_kept h.own hk (fun x hx hs => ?_), h.at_⟩
  rcases h.at_ with ⟨e, _⟩ | ⟨e, _⟩
  · rw [e] at hx; cases hx
  · rw [e] at hx
    simp only [Value.ownBlock, Option.some.injEq] at hx
    exact hg (hx ▸ hs)
theorem GrV.kept {q : GrP} {u : List Nat} {ls : List Lk} {w w' : World} {S : Nat → Prop} (h : GrV q u ls w) (hk : Kept S w w') (hn : ∀ x, q.has x → ¬ S x) : GrV q u ls w' := by
  refine ⟨h.blk.kept hk (hn _ (.inl rfl)), h.uf.kept hk (hn _ (.inr (.inl rfl))) (hn _ (.inr (.inr (.inl rfl)))), own_kept h.own hk (fun x hx => hn x ?_)⟩
  cases hL : q.L with
  | none => rw [hL] at hx; cases hx
  | some a =>
    rw [hL] at hx
    simp only [Value.ownBlock, Option.some.injEq] at hx
    exact .inr (.inr (.inr ⟨a, hL, hx⟩))
theorem GrV.lt {q : GrP} {u : List Nat} {ls : List Lk} {w : World} (h : GrV q u ls w) : ∀ x, q.has x → x < w.heap.size := by
  rintro x (rfl | rfl | rfl | ⟨a, ha, rfl⟩)
  · exact h.blk.lt
  · exact h.uf.lt.1
  · exact h.uf.lt.2
  · exact own_lt h.own (by rw [ha]; rfl)
theorem GrV.same {q : GrP} {u : List Nat} {ls : List Lk} : ∀ (w1 w2 : World) (S' : Nat → Prop), GrV q u ls w1 → (∀ x, q.has x → x < w1.heap.size) → Kept S' w1 w2 → (∀ x, q.has x → ¬ S' x) → GrV q u ls w2 := fun _ _ _ h _ hk hn => h.kept hk hn
theorem GrV.below {q : GrP} {u : List Nat} {ls : List Lk} {w w' : World} (h : GrV q u ls w) (hb : Below w.heap.size w w') : GrV q u ls w' := h.kept (Kept.of_below (fun _ => False) hb) (fun _ _ h => h)
theorem GrV.belowN {q : GrP} {u : List Nat} {ls : List Lk} {w w' : World} {N : Nat} (h : GrV q u ls w) (hb : Below N w w') (hN : w.heap.size ≤ N) : GrV q u ls w' := h.below ⟨hb.os, hb.tape, hb.output, hb.size, fun k hk => hb.block k (by omega)⟩
abbrev GrS (q : GrP) (u : List Nat) (ls : List Lk) := Sta q.has (GrV q u ls)
/-- classes in memory as something that stands -/
def UfW (b g : Nat) (u : List Nat) (A : Option Addr) (c : Nat) : World → Prop := fun w => UfAt w b g u A c
def ufS (b g : Nat) (x : Nat) : Prop := x = b ∨ x = g
theorem UfW.same {b g : Nat} {u : List Nat} {A : Option Addr} {c : Nat} : ∀ (w1 w2 : World) (S' : Nat → Prop), UfW b g u A c w1 → (∀ x, ufS b g x → x < w1.heap.size) → Kept S' w1 w2 → (∀ x, ufS b g x → ¬ S' x) → UfW b g u A c w2 := fun _ _ _ h _ hk hn => UfAt.kept h hk (hn _ (.inl rfl)) (hn _ (.inr rfl))
theorem Rel.reads {T : List Nat} {w0 w : World} {ρ : Nm} {rs : List Reg} (hR : Rel T w0 ρ rs w) {n size m : Nat} {vs : List Value} {b : Bool} (hn : rs[n]? = some ⟨vs.map .v, b⟩) (hl : vs.length = m * size) : Reads w w.heap.size size (some ⟨(ρ n).1, (ρ n).2 + 0, none⟩) m vs := by
  refine ⟨hl, fun _ => ⟨_, rfl, hR.lt n _ hn, fun j u hu => ?_⟩⟩
  have := hR.cell n _ hn j (.v u) (by simp only [List.getElem?_map, hu, Option.map_some])
  have e : (⟨(ρ n).1, (ρ n).2 + 0, none⟩ : Addr).add j = ρ.at_ n j := by
    show (ρ.at_ n 0).add j = _
    rw [at_add, Nat.zero_add]
  rw [e]
  exact this
def GrP.cells (q : GrP) (n : Nat) : List Value := [.pointer (some ⟨q.pb, 0, none⟩), .slice q.L n q.cl]
/-- the cells of a graph in view, to be read -/
theorem GrV.open_ {q : GrP} {u : List Nat} {ls : List Lk} {w : World} (h : GrV q u ls w) (b : Bool) (T : List Nat) (hT : b = true → q.b ∈ T) : ∃ ρ : Nm, ρ 0 = (q.b, 0) ∧ Rel T w ρ [⟨(q.cells ls.length).map .v, b⟩] w := by
  obtain ⟨ρ, _, e0, hR⟩ := (Rel.start T w ρ0).open_ rfl q.b 0 ((q.cells ls.length).map .v) rfl b h.blk.lt (fun j v hv => by
    rw [Nat.zero_add, h.blk.cell j]
    match j, hv with
    | 0, hv => simp only [GrP.cells, List.map_cons, List.getElem?_cons_zero, Option.some.injEq] at hv; subst hv; rfl
    | 1, hv => simp only [GrP.cells, List.map_cons, List.getElem?_cons_succ, List.getElem?_cons_zero, Option.some.injEq] at hv; subst hv; rfl
    | j + 2, hv => simp [GrP.cells] at hv) (fun hb => ⟨.inl (hT hb), fun i _ => by rw [Nat.zero_add]; exact h.blk.frozen i⟩) (fun n r hn => by simp at hn)
  exact ⟨ρ, e0, hR⟩
theorem noW1 {ρ : Nm} {cs : List LV} {g : Nat} (h : wrS ρ [⟨cs, false⟩] g) : False := by
  obtain ⟨n, r, hn, hw, _⟩ := h
  cases n with
  | zero =>
    simp only [List.getElem?_cons_zero, Option.some.injEq] at hn
    subst hn
    cases hw
  | succ n => simp at hn
theorem GrV.sta {q : GrP} {u : List Nat} {ls : List Lk} {w : World} (h : GrV q u ls w) {ρ : Nm} {rs : List Reg} (hro : allRo rs = true) : Sta q.has (GrV q u ls) ρ rs w := Sta.ro_ h hro h.lt GrV.same
theorem Reads.belowW {w w' : World} {B N size n : Nat} {A : Option Addr} {xs : List Value} (h : Reads w B size A n xs) (hb : Below N w w') (hB : B ≤ N) : Reads w' B size A n xs := h.below ⟨hb.os, hb.tape, hb.output, hb.size, fun k hk => hb.block k (by omega)⟩
/-- what stands of a Uf behind a call that has written it -/
theorem Sta.ufNew {b g : Nat} {u u' : List Nat} {A A' : Option Addr} {c c' : Nat} {ρ : Nm} {rs : List Reg} {w w' : World} (h : Sta (ufS b g) (UfW b g u A c) ρ rs w) (hn : UfAt w' b g u' A' c') : Sta (ufS b g) (UfW b g u' A' c') ρ rs w' :=
  ⟨hn, h.far, fun _ hx => hx.elim (fun e => e ▸ hn.lt.1) (fun e => e ▸ hn.lt.2), UfW.same⟩
theorem Rel.ufNew {T : List Nat} {w0 : World} {b g : Nat} {V : World → Prop} {ρ : Nm} {rs : List Reg} {w w' : World} (hR : Rel T w0 ρ rs w) (h : Sta (ufS b g) V ρ rs w) (hk : Keeps [b, g] w w') (hB : w0.heap.size ≤ b) (hG : w0.heap.size ≤ g) (l : List Nat) (hl : roIdx rs 0 = l) (hidx : ∀ k ∈ l, (ρ k).1 ≠ b ∧ (ρ k).1 ≠ g) : Rel T w0 ρ rs w' := by
  refine hR.kept hk.kept (fun n r hn hne hs => ?_) (fun x hx => ?_)
  · simp only [List.mem_cons, List.not_mem_nil, or_false] at hs
    cases hw : r.wr with
    | true => exact h.far _ hs ⟨n, r, hn, hw, rfl⟩
    | false =>
      have hm := roIdx_mem rs 0 n r hn hw hne
      rw [hl, Nat.zero_add] at hm
      have := hidx n hm
      exact hs.elim this.1 this.2
  · simp only [List.mem_cons, List.not_mem_nil, or_false] at hx
    rcases hx with rfl | rfl
    · exact .inr hB
    · exact .inr hG
theorem Sta.farW {S : Nat → Prop} {V : World → Prop} {ρ : Nm} {rs : List Reg} {w : World} (h : Sta S V ρ rs w) {n : Nat} {r : Reg} (hn : rs[n]? = some r) (hw : r.wr = true) {x : Nat} (hx : S x) : (ρ n).1 ≠ x := fun e => h.far x hx ⟨n, r, hn, hw, e⟩
theorem Sta.farB {b g : Nat} {V : World → Prop} {ρ : Nm} {rs : List Reg} {w : World} (h : Sta (ufS b g) V ρ rs w) {n o : Nat} {r : Reg} (hn : rs[n]? = some r) (hw : r.wr = true) : ∀ (B : Nat) (ad : Addr), some (⟨(ρ n).1, o, none⟩ : Addr) = some ad → ad.block < B → ad.block ≠ b ∧ ad.block ≠ g := by
  intro B ad e _
  injection e with e
  subst e
  exact ⟨h.farW hn hw (.inl rfl), h.farW hn hw (.inr rfl)⟩
/-! ### the contracts of classes once more -/
theorem ufLen_b {b g c : Nat} {A : Option Addr} {u : List Nat} {w : World} (h : UfAt w b g u A c) : Calls Try.prog 38 #[.pointer (some ⟨b, 0, none⟩)] w fun e w' => e = .returned (.int .i64 (u.length : Int)) ∧ Below w.heap.size w w' :=
  (len_any b A c u w h.rd).mono fun _ _ h => ⟨h.1, h.2 ▸ Below.refl _ _⟩
theorem ufHead_b {b g c : Nat} {A : Option Addr} {u : List Nat} {w : World} (i : Int) (h : UfAt w b g u A c) (hg : Uf.Good u) (hu : u.length ≤ 1000) : Calls Try.prog 30 #[.pointer (some ⟨b, 0, none⟩), .int .i64 i] w fun e w' => e = .returned (.int .i64 (headI u i)) ∧ Below w.heap.size w w' :=
  (head_any b A c u i w h.rd hg (by omega)).mono fun _ _ h => ⟨h.1, h.2 ▸ Below.refl _ _⟩
theorem below_drewN0 (w : World) (n : Nat) : Below w.heap.size w (w.drewN n) := ⟨rfl, rfl, rfl, Nat.le_refl _, fun _ _ => rfl⟩
theorem ufSame_b {b g c : Nat} {A : Option Addr} {u : List Nat} {w : World} (L : Option Addr) (n cl B : Nat) (xs : List Int) (h : UfAt w b g u A c) (hg : Uf.Good u) (hu : u.length ≤ 1000) (hr : Reads w B 1 L n (ints xs)) (hn : n ≤ 1000000) : Calls Try.prog 14 #[.pointer (some ⟨b, 0, none⟩), .slice L n cl] w fun e w' => e = .returned (.bool (sameI u xs)) ∧ Below w.heap.size w w' :=
  (same_any b A c u L n cl B xs w h.rd hg (by omega) hr hn).mono fun _ _ ⟨h1, m, h2⟩ => ⟨h1, h2 ▸ below_drewN0 _ _⟩
theorem ufClasses_b {b g c : Nat} {A : Option Addr} {u : List Nat} {w : World} (h : UfAt w b g u A c) (hg : Uf.Good u) (hu : u.length ≤ 1000) : Calls Try.prog 58 #[.pointer (some ⟨b, 0, none⟩)] w fun e w' => ∃ L cap, e = .returned (.slice L (Uf.classes u).length cap) ∧ RowsR w' w'.heap.size w.heap.size L (Uf.classes u) ∧ Below w.heap.size w w' :=
  (classes_in b A c u w h.rd h.lt.1 hg hu).mono fun _ _ h => h
theorem GrV.toUf {q : GrP} {u : List Nat} {ls : List Lk} {w : World} (h : GrV q u ls w) : UfW q.pb q.pg u q.A q.c w := h.uf
theorem Sta.uf {q : GrP} {u : List Nat} {ls : List Lk} {ρ : Nm} {rs : List Reg} {w : World} (h : Sta q.has (GrV q u ls) ρ rs w) : Sta (ufS q.pb q.pg) (UfW q.pb q.pg u q.A q.c) ρ rs w :=
  ⟨h.is.uf, fun x hx => h.far x (hx.elim (fun e => .inr (.inl e)) (fun e => .inr (.inr (.inl e)))), fun x hx => h.lt x (hx.elim (fun e => .inr (.inl e)) (fun e => .inr (.inr (.inl e)))), UfW.same⟩
/-- lists of numbers that lie between two numbers of blocks -/
def RowW (B base : Nat) (L : Option Addr) (xss : List (List Nat)) : World → Prop := fun w => RowsR w B base L xss
def btw (base B : Nat) (x : Nat) : Prop := base ≤ x ∧ x < B
theorem Reads.keptFar {S : Nat → Prop} {w w' : World} {B size n : Nat} {A : Option Addr} {xs : List Value} (h : Reads w B size A n xs) (hk : Kept S w w') (hA : ∀ ad, A = some ad → ad.block < B → ad.block < w.heap.size ∧ ¬ S ad.block) : Reads w' B size A n xs := by
  refine ⟨h.1, fun hn => ?_⟩
  obtain ⟨ad, e, hb, hc⟩ := h.2 hn
  obtain ⟨h1, h2⟩ := hA ad e hb
  refine ⟨ad, e, hb, fun j v hj => ?_⟩
  rw [hk.cell (p := ad.add j) (by rw [block_of_add]; exact h1) (by rw [block_of_add]; exact h2)]
  exact hc j v hj
theorem RowW.same {B base : Nat} {L : Option Addr} {xss : List (List Nat)} : ∀ (w1 w2 : World) (S' : Nat → Prop), RowW B base L xss w1 → (∀ x, btw base B x → x < w1.heap.size) → Kept S' w1 w2 → (∀ x, btw base B x → ¬ S' x) → RowW B base L xss w2 := by
  rintro w1 w2 S' ⟨vs, hr, hb, hrow⟩ hlt hk hn
  refine ⟨vs, hr.keptFar hk (fun ad e h1 => ⟨hlt _ ⟨hb ad e, h1⟩, hn _ ⟨hb ad e, h1⟩⟩), hb, fun i xs hx => ?_⟩
  obtain ⟨A, cap, h1, h2, h3, h4, h5⟩ := hrow i xs hx
  exact ⟨A, cap, h1, h2, h3, h4.keptFar hk (fun ad e h6 => ⟨hlt _ ⟨h5 ad e, h6⟩, hn _ ⟨h5 ad e, h6⟩⟩), h5⟩
theorem Reads.size_ {w : World} {B size n : Nat} {A : Option Addr} {xs : List Value} (h : Reads w B size A n xs) (hs : 0 < size) : Reads w w.heap.size size A n xs := by
  refine ⟨h.1, fun hn => ?_⟩
  obtain ⟨ad, e, _, hc⟩ := h.2 hn
  have hl : 0 < xs.length := by rw [h.1]; exact Nat.mul_pos hn hs
  have := World.block_lt_of_cell? _ _ (hc 0 _ (List.getElem?_eq_getElem hl))
  rw [block_of_add] at this
  exact ⟨ad, e, this, hc⟩
/-- a row that is read -/
def ReadW (B size : Nat) (A : Option Addr) (n : Nat) (xs : List Value) : World → Prop := fun w => Reads w B size A n xs
def readS (A : Option Addr) (B x : Nat) : Prop := ∃ ad, A = some ad ∧ ad.block = x ∧ x < B
theorem ReadW.same {B size n : Nat} {A : Option Addr} {xs : List Value} : ∀ (w1 w2 : World) (S' : Nat → Prop), ReadW B size A n xs w1 → (∀ x, readS A B x → x < w1.heap.size) → Kept S' w1 w2 → (∀ x, readS A B x → ¬ S' x) → ReadW B size A n xs w2 :=
  fun _ _ _ h hlt hk hn => Reads.keptFar h hk (fun ad e hb => ⟨hlt _ ⟨ad, e, rfl, hb⟩, hn _ ⟨ad, e, rfl, hb⟩⟩)
section
variable {P : Program} {Q : Exit → Act → World → Prop} {T : List Nat} {w0 w : World} {ρ : Nm} {c : Cfg}
/-- one of a list of rows comes into view -/
theorem sim_seeRow {B base : Nat} {L : Option Addr} {xss : List (List Nat)} {xs : List Nat} (k N : Nat) (hN : c.rs.length = N) (hk : xss[k]? = some xs) (hs : Sta (btw base B) (RowW B base L xss) ρ c.rs w) (hR : Rel T w0 ρ c.rs w) (hu : (undR N c.rs && undL N c.tmps) = true)
    (next : ∀ g o A cap ρ', L = some ⟨g, o, none⟩ → btw base B g → Sta (readS A B) (ReadW B 1 A xs.length (nats xs)) ρ c.rs w → xs.length ≤ cap → cap ≤ maxLen → (∀ ad, A = some ad → base ≤ ad.block) → Moved ρ c.rs w ρ' (c.rs ++ [⟨[.v (.slice A xs.length cap)], false⟩]) w → ρ' N = (g, o + k) → Rel T w0 ρ' (c.rs ++ [⟨[.v (.slice A xs.length cap)], false⟩]) w → At P Q ⟨c.k, c.tmps, c.rs ++ [⟨[.v (.slice A xs.length cap)], false⟩]⟩ ρ' w) : At P Q c ρ w := by
  obtain ⟨vs, hr, hb, hrow⟩ := hs.is
  obtain ⟨A, cap, hv, hc1, hc2, hrd, hA⟩ := hrow k xs hk
  have hkl := (List.getElem?_eq_some_iff.1 hk).1
  obtain ⟨g, o, rfl, hg, hc⟩ := hr.spot (by omega) (by omega)
  have hgb := hb _ rfl
  have hlt := hs.lt g ⟨hgb, hg⟩
  simp only [Bool.and_eq_true] at hu
  subst hN
  refine sim_open c.rs.length rfl hR g (o + k) [.v (.slice A xs.length cap)] (by rw [hu.1, hu.2]; rfl) hlt (fun j v hj => ?_) (fun m r hm hw he => ?_) (fun ρ' ha hn hR' => next g o A cap ρ' rfl ⟨hgb, hg⟩ ⟨hrd, fun x ⟨ad, e, h1, h2⟩ => hs.far x ⟨h1 ▸ hA ad e, h2⟩, fun x ⟨ad, e, h1, h2⟩ => hs.lt x ⟨h1 ▸ hA ad e, h2⟩, ReadW.same⟩ hc1 hc2 hA (Moved.ext_ro ha rfl) hn hR')
  · match j, hj with
    | 0, hj =>
      simp only [List.getElem?_cons_zero, Option.some.injEq] at hj
      subst hj
      exact hc k _ hv
    | j + 1, hj => simp at hj
  · exact hs.far g ⟨hgb, hg⟩ ⟨m, r, hm, hw, he⟩
end
/-- what a call answers stands behind it -/
theorem Sta.rows {T : List Nat} {w0 : World} {ρ : Nm} {rs : List Reg} {w w' : World} {L : Option Addr} {xss : List (List Nat)} (hR : Rel T w0 ρ rs w) (h : RowsR w' w'.heap.size w.heap.size L xss) : Sta (btw w.heap.size w'.heap.size) (RowW w'.heap.size w.heap.size L xss) ρ rs w' :=
  Sta.new hR h (fun _ hx => hx.1) (fun _ hx => hx.2) RowW.same
end

section
open Go Go.RowKit
theorem lk_in (l : List Lk) : ∀ x ∈ l.map Lk.cells, x.length = 3 := by
  intro x hx
  obtain ⟨y, _, rfl⟩ := List.mem_map.1 hx
  rfl
theorem lkV_len (l : List Lk) : (lkV l).length = l.length * 3 := by
  unfold lkV
  rw [List.length_flatten, List.map_map]
  induction l with
  | nil => rfl
  | cons x l ih =>
    rw [List.map_cons, List.sum_cons, ih, List.length_cons]
    show 3 + _ = _
    omega
theorem lkV_num {w : World} {B n : Nat} {A : Option Addr} {l : List Lk} (h : Reads w B 3 A n (lkV l)) : l.length = n := by
  have := h.1
  rw [lkV_len] at this
  omega
theorem class_get {u : List Nat} (g : Uf.Good u) {k : Nat} {c : List Nat} (h : (Uf.classes u)[k]? = some c) : ∃ p r, c = p :: r ∧ ∀ x ∈ c, 1 ≤ x ∧ x ≤ u.length := by
  obtain ⟨hk, he⟩ := List.getElem?_eq_some_iff.1 h
  obtain ⟨p, r, h1, _, _, _, h5⟩ := Uf.class_at g hk
  rw [List.getD_eq_getElem?_getD, h] at h1
  exact ⟨p, r, h1, fun x hx => (h5 x (h1 ▸ hx)).1⟩
theorem class_len {u : List Nat} {k : Nat} {c : List Nat} (h : (Uf.classes u)[k]? = some c) : c.length ≤ u.length := by
  obtain ⟨hk, he⟩ := List.getElem?_eq_some_iff.1 h
  have := Uf.classes_row_len hk
  rw [List.getD_eq_getElem?_getD, h] at this
  exact this
theorem classes_le (u : List Nat) : (Uf.classes u).length ≤ u.length := by
  rw [Uf.classes_length]
  unfold Uf.heads
  exact Nat.le_trans (List.length_filter_le _ _) (by rw [List.length_range']; exact Nat.le_refl _)
theorem Agree.zero {ρ ρ' : Nm} : Agree 0 ρ ρ' := fun n hn => absurd hn (Nat.not_lt_zero n)
attribute [local irreducible] run goO leaveK someK nextK nextT nextOT nextOD loopBody loopRest loopK fillJ tmplOf tmplJ mergeT At AtO drawOk ordOf gateOf callC callO topOp topO idxOf appOf storeOf clearOf sliceOf calleeOf calleeO topQ idxQ newRowOf resL stepOp seek
set_option maxRecDepth 100000 in
set_option maxHeartbeats 4000000 in
theorem joined_any (q : GrP) (u : List Nat) (ls : List Lk) (A : Option Addr) (n cp B : Nat) (l : List Lk) (w : World) (h : GrV q u ls w) (hg : Uf.Good u) (hu : u.length ≤ 1000) (hl : Reads w B 3 A n (lkV l)) (hB : B ≤ w.heap.size) (hn : n ≤ 100000) (hin : Uf.InL u.length l) :
    Calls Try.prog 61 #[.pointer (some ⟨q.b, 0, none⟩), .slice A n cp] w fun e w' => ∃ b g A' c', e = .returned (.pointer (some ⟨b, 0, none⟩)) ∧ UfAt w' b g (Uf.joinedM u l) A' c' ∧ w.heap.size ≤ b ∧ w.heap.size ≤ g ∧ Below w.heap.size w w' := by
  have hll := lkV_num hl
  obtain ⟨ρ, e0, hR⟩ := h.open_ false [] (by simp)
  have hs := h.sta (ρ := ρ) (rs := [⟨(q.cells ls.length).map .v, false⟩]) (by kernel_rfl)
  refine sim_enter Try.func61 ρ [.ptr 0 0, .v (.slice A n cp)] [⟨(q.cells ls.length).map .v, false⟩] (by kernel_rfl) (by simp only [denL, LV.den, Nm.at_, e0]) ?_
  have hag := hR.ag_ 1 (by kernel_rfl)
  refine sim_run 10 [] (hR.cast (by kernel_rfl)) (by kernel_rfl) trivial (fun ρ100 w100 hm100 hR100 => ?_)
  have hs := hs.moved (hm100.castL (by kernel_rfl))
  have hag := hag.moved (hm100.castL (by kernel_rfl))
  refine sim_call 38 [.v (Value.pointer (some (Addr.mk q.pb 0 none)))] (by kernel_rfl) ?_
  refine Calls.mono (ufLen_b hs.is.uf) ?_
  rintro e101 w101 ⟨rfl, hb101⟩
  have hR101 := hR100.below hb101
  have hs := hs.below hb101
  refine Back.of (LI ((↑u.length : Int))) hR101 rfl ?_
  refine sim_call 28 [LI ((↑u.length : Int))] (by kernel_rfl) ?_
  refine Calls.mono (new_in (u.length) (by assumption) _) ?_
  rintro e102 w102 ⟨rfl, gq, Aq, cq, hu102, hb102, hgq⟩
  have hbs := (hR101).keeps.size
  have hj := Sta.new (S := ufS _ gq) (V := UfW _ gq (Uf.fresh u.length) Aq cq) (hR101) hu102 (fun x hx => hx.elim (fun e => e ▸ Nat.le_refl _) (fun e => e ▸ hgq)) (fun x hx => hx.elim (fun e => e ▸ hu102.lt.1) (fun e => e ▸ hu102.lt.2)) UfW.same
  have hR102 := (hR101).below hb102
  have hs := hs.below hb102
  refine Back.of (.tup [.v (Value.pointer (some (Addr.mk w101.heap.size 0 none))), LI 0]) hR102 rfl ?_
  refine sim_run 13 [] (hR102.cast (by kernel_rfl)) (by kernel_rfl) trivial (fun ρ103 w103 hm103 hR103 => ?_)
  have hag := hag.moved (hm103.castL (by kernel_rfl))
  have hj := hj.moved (hm103.castL (by kernel_rfl))
  have hs := hs.moved (hm103.castL (by kernel_rfl))
  refine sim_call 58 [.v (Value.pointer (some (Addr.mk q.pb 0 none)))] (by kernel_rfl) ?_
  refine Calls.mono (ufClasses_b hs.is.uf (by assumption) (by assumption)) ?_
  rintro e104 w104 ⟨L, cL, rfl, hr104, hb104⟩
  have hrow := Sta.rows (hR103) hr104
  have hblt := hj.lt _ (.inl rfl)
  have hglt := hj.lt _ (.inr rfl)
  have hBsz := hb104.size
  have hR104 := (hR103).below hb104
  have hj := hj.below hb104
  have hs := hs.below hb104
  refine Back.of (.v (.slice L (Uf.classes u).length cL)) hR104 rfl ?_
  refine sim_run 4 [] (hR104.cast (by kernel_rfl)) (by kernel_rfl) trivial (fun ρ105 w105 hm105 hR105 => ?_)
  have hag := hag.moved (hm105.castL (by kernel_rfl))
  have hrow := hrow.moved (hm105.castL (by kernel_rfl))
  have hj := hj.moved (hm105.castL (by kernel_rfl))
  have hs := hs.moved (hm105.castL (by kernel_rfl))
  
  have hj := hj.cut (N := 0) (rs := []) (Ag.start 0 _ _ (by kernel_rfl)) rfl (by kernel_rfl)
  have hrow := hrow.cut (N := 0) (rs := []) (Ag.start 0 _ _ (by kernel_rfl)) rfl (by kernel_rfl)
  have hcn := classes_le u
  have hwb : w.heap.size ≤ gq := Nat.le_trans hbs hgq
  have hrj : Uf.rejoin u 0 = Uf.fresh u.length := rfl
  rw [← hrj] at hj
  refine sim_loop (ι := Nat) (T := []) (w0 := w) 0 [1, 5, 24, 25] (fun k => [(26, LI k)]) (fun _ => []) (fun k w1 => k ≤ (Uf.classes u).length ∧ Sta (ufS w101.heap.size gq) (UfW w101.heap.size gq (Uf.rejoin u k) Aq cq) ρ105 [] w1 ∧ Sta (btw w103.heap.size w104.heap.size) (RowW w104.heap.size w103.heap.size L (Uf.classes u)) ρ105 [] w1) (fun k => (Uf.classes u).length - k) (by kernel_rfl) (by kernel_rfl) ((by assumption : Rel _ _ _ _ _).none_) ⟨Nat.zero_le _, hj, hrow⟩ ?_
  generalize w101.heap.size = bq at *
  generalize w103.heap.size = B1 at *
  generalize w104.heap.size = B2 at *
  iterate 8 (try clear hj)
  iterate 8 (try clear hrow)
  iterate 8 (try clear hs)
  iterate 8 (try clear hag)
  rintro k d w2 hR2 ⟨hk, hj, hrow⟩
  have hag0 := hR2.ag_ 0 (by kernel_rfl)
  by_cases hlt : k < (Uf.classes u).length
  · obtain ⟨c, hc⟩ : ∃ c, (Uf.classes u)[k]? = some c := ⟨_, List.getElem?_eq_getElem hlt⟩
    refine sim_seeRow k 0 (by kernel_rfl) hc hrow hR2 (by kernel_rfl) (fun ga oa Ac cc ρE eA hgb hrd hcc hcm hAc hmE eE hRE => ?_)
    subst eA
    have hj := hj.moved hmE
    have hrow := hrow.moved hmE
    have hag0 := hag0.moved hmE
    have hag := hRE.ag_ 1 (by kernel_rfl)
    have hrd := hrd.moved hmE
    obtain ⟨p, r, hcp, hcin⟩ := class_get hg hc
    have hcl := class_len hc
    have hrg := Uf.rejoin_good hg k
    have hrl := Uf.rejoin_len u k
    have hAb : ∀ N ad, Ac = some ad → ad.block < N → ad.block ≠ bq ∧ ad.block ≠ gq := fun _ ad e _ => by have := hAc ad e; omega
    have hcr : InN (Uf.rejoin u k) c := fun x hx => by have := hcin x hx; omega
    have hc0 : c.head? = some p := by rw [hcp]; rfl
    have hga1 := hgb.1
    have hga2 := hgb.2
    refine sim_run 5 [] (hRE.cast (by kernel_rfl)) (by kernel_rfl) trivial (fun ρ200 w200 hm200 hR200 => ?_)
    have hj := hj.moved (hm200.castL (by kernel_rfl))
    have hrow := hrow.moved (hm200.castL (by kernel_rfl))
    have hag0 := hag0.moved (hm200.castL (by kernel_rfl))
    have hag := hag.moved (hm200.castL (by kernel_rfl))
    have hrd := hrd.moved (hm200.castL (by kernel_rfl))
    refine sim_know 27 (decide ((↑k : Int) < (↑(Uf.classes u).length : Int))) true (by kernel_rfl) (decide_eq_true (by omega)) ?_
    refine sim_run 6 [] (hR200.cast (by kernel_rfl)) (by kernel_rfl) trivial (fun ρ201 w201 hm201 hR201 => ?_)
    have hj := hj.moved (hm201.castL (by kernel_rfl))
    have hrow := hrow.moved (hm201.castL (by kernel_rfl))
    have hag0 := hag0.moved (hm201.castL (by kernel_rfl))
    have hag := hag.moved (hm201.castL (by kernel_rfl))
    have hrd := hrd.moved (hm201.castL (by kernel_rfl))
    refine sim_place (.v (.slice (some ⟨ga, oa, none⟩) (Uf.classes u).length cL)) (Uf.classes u).length 1 k 0 0 (by kernel_rfl) (by omega) (by omega) rfl (by simp only [Nm.at_, hag.at_ 0 (by omega), eE, Nat.add_zero, Int.toNat_natCast, Nat.mul_one]) ?_
    refine sim_run 6 [] (hR201.cast (by kernel_rfl)) (by kernel_rfl) trivial (fun ρ203 w203 hm203 hR203 => ?_)
    have hj := hj.moved (hm203.castL (by kernel_rfl))
    have hrow := hrow.moved (hm203.castL (by kernel_rfl))
    have hag0 := hag0.moved (hm203.castL (by kernel_rfl))
    have hag := hag.moved (hm203.castL (by kernel_rfl))
    have hrd := hrd.moved (hm203.castL (by kernel_rfl))
    refine sim_call 29 [.v (Value.pointer (some (Addr.mk bq 0 none))), .v (Value.slice Ac c.length cc)] (by kernel_rfl) ?_
    refine Calls.mono (join_in (bq) (gq) (Uf.rejoin u k) (Aq) (cq) (Ac) (c.length) (cc) _ (p) (c) _ (hj.is) (hrg) ((by omega)) ((Reads.size_ hrd.is Nat.one_pos)) (Nat.le_refl _) (hAb _) (hcr) (hc0) ((by omega))) ?_
    rintro e204 w204 ⟨rfl, hu204, hk204⟩
    have hR204 := (hR203).ufNew hj hk204 (by omega) (by omega) [0] (by kernel_rfl) (fun q hq => by simp only [List.mem_singleton] at hq; subst hq; rw [hag.at_ 0 (by omega), eE]; exact ⟨by show ga ≠ bq; omega, by show ga ≠ gq; omega⟩)
    have hrow := hrow.kept hk204.kept (fun x hx hm => by simp only [List.mem_cons, List.not_mem_nil, or_false] at hm; have := hx.1; omega)
    have hj := hj.ufNew hu204
    refine Back.of (.v (.tuple #[.int .i64 (joinC (Uf.rejoin u k) p c : Nat), .int .i64 0])) hR204 rfl ?_
    refine sim_run 6 [⟨6, 0, LI (IntKind.i64.wrap ((↑k : Int) + 1)), LI ((↑k : Int) + 1)⟩] (hR204.cast (by kernel_rfl)) (by kernel_rfl) ⟨eqi (IntWalk.i64_in _ (by omega)), trivial⟩ (fun ρ205 w205 hm205 hR205 => ?_)
    have hag0 := hag0.moved (hm205.castL (by kernel_rfl))
    have hag := hag.moved (hm205.castL (by kernel_rfl))
    have hrow := hrow.moved (hm205.castL (by kernel_rfl))
    have hj := hj.moved (hm205.castL (by kernel_rfl))
    
    have hej : joinU (Uf.rejoin u k) p c = Uf.rejoin u (k + 1) := by rw [Uf.rejoin_succ hc, hcp]; rfl
    rw [hej] at hj
    exact sim_again (k + 1) (by kernel_rfl) (by show (Uf.classes u).length - (k + 1) < (Uf.classes u).length - k; omega) (by kernel_rfl) (by kernel_rfl) (by kernel_rfl) Agree.zero (Rel.cast (by assumption) (by kernel_rfl)) (by kernel_rfl) (by kernel_rfl) ⟨hlt, hj.cut hag0 rfl (by kernel_rfl), hrow.cut hag0 rfl (by kernel_rfl)⟩
  · refine sim_run 5 [] (hR2.cast (by kernel_rfl)) (by kernel_rfl) trivial (fun ρ300 w300 hm300 hR300 => ?_)
    have hj := hj.moved (hm300.castL (by kernel_rfl))
    have hrow := hrow.moved (hm300.castL (by kernel_rfl))
    have hag0 := hag0.moved (hm300.castL (by kernel_rfl))
    refine sim_know 27 (decide ((↑k : Int) < (↑(Uf.classes u).length : Int))) false (by kernel_rfl) (decide_eq_false (by omega)) ?_
    refine sim_run 1 [] (hR300.cast (by kernel_rfl)) (by kernel_rfl) trivial (fun ρ301 w301 hm301 hR301 => ?_)
    have hj := hj.moved (hm301.castL (by kernel_rfl))
    have hrow := hrow.moved (hm301.castL (by kernel_rfl))
    have hag0 := hag0.moved (hm301.castL (by kernel_rfl))
    refine sim_leave (by kernel_rfl) ?_
    refine sim_run 8 [] (hR301.cast (by kernel_rfl)) (by kernel_rfl) trivial (fun ρ302 w302 hm302 hR302 => ?_)
    have hj := hj.moved (hm302.castL (by kernel_rfl))
    have hrow := hrow.moved (hm302.castL (by kernel_rfl))
    have hag0 := hag0.moved (hm302.castL (by kernel_rfl))
    
    obtain rfl : k = (Uf.classes u).length := by omega
    have hj := hj.cut (N := 0) (rs := []) (Ag.start 0 _ _ (by kernel_rfl)) rfl (by kernel_rfl)
    have hw0 : Uf.withM (Uf.rejoin u (Uf.classes u).length) (l.take 0) = Uf.rejoin u (Uf.classes u).length := rfl
    rw [← hw0] at hj
    refine sim_loop (ι := Nat) (T := []) (w0 := w) 0 [5, 34, 35] (fun k => [(36, LI k)]) (fun _ => []) (fun k w1 => k ≤ n ∧ Sta (ufS bq gq) (UfW bq gq (Uf.withM (Uf.rejoin u (Uf.classes u).length) (l.take k)) Aq cq) ρ302 [] w1) (fun k => n - k) (by kernel_rfl) (by kernel_rfl) ((by assumption : Rel _ _ _ _ _).none_) ⟨Nat.zero_le _, hj⟩ ?_
    iterate 8 (try clear hj)
    iterate 8 (try clear hag)
    iterate 8 (try clear hag0)
    rintro i d w3 hR3 ⟨hi, hj⟩
    have hag0 := hR3.ag_ 0 (by kernel_rfl)
    by_cases hlt : i < n
    · obtain ⟨x, hx⟩ : ∃ x, l[i]? = some x := ⟨_, List.getElem?_eq_getElem (by omega)⟩
      refine sim_see x.cells i 0 (by kernel_rfl) (by rw [List.getElem?_map, hx]; rfl) hl (lk_in l) (by omega) hlt hB (by simp) hR3 (by kernel_rfl) (fun ga oa ρE eA hgT hgl hmE eE hRE => ?_)
      subst eA
      have hj := hj.moved hmE
      have hag0 := hag0.moved hmE
      have hag := hRE.ag_ 1 (by kernel_rfl)
      have hxi := hin x (List.mem_of_getElem? hx)
      obtain ⟨kd, a, b, rfl⟩ : ∃ (kd : Int) (a b : Nat), x = ⟨kd, (a : Int), (b : Int)⟩ := ⟨x.kind, x.src.toNat, x.dst.toNat, by rw [Int.toNat_of_nonneg (by omega), Int.toNat_of_nonneg (by omega)]⟩
      have ha : 1 ≤ a ∧ a ≤ u.length := by have := hxi.1; dsimp only at this; omega
      have hb : 1 ≤ b ∧ b ≤ u.length := by have := hxi.2; dsimp only at this; omega
      have hrg := Uf.withM_good (Uf.rejoin_good hg (Uf.classes u).length) (ls := l.take i) (by rw [Uf.rejoin_len]; exact fun y hy => hin y (List.mem_of_mem_take hy))
      have hrl := (Uf.withM_len (Uf.rejoin u (Uf.classes u).length) (l.take i)).trans (Uf.rejoin_len u _)
      have htk : l.take (i + 1) = l.take i ++ [⟨kd, (a : Int), (b : Int)⟩] := by rw [List.take_add_one, hx]; rfl
      have hws := Uf.withM_snoc (Uf.rejoin u (Uf.classes u).length) (l.take i) ⟨kd, (a : Int), (b : Int)⟩
      rw [← htk] at hws
      simp only [Int.toNat_natCast] at hws
      have hab : InN (Uf.withM (Uf.rejoin u (Uf.classes u).length) (l.take i)) [a, b] := fun y hy => by simp only [List.mem_cons, List.not_mem_nil, or_false] at hy; omega
      refine sim_run 5 [] (hRE.cast (by kernel_rfl)) (by kernel_rfl) trivial (fun ρ400 w400 hm400 hR400 => ?_)
      have hj := hj.moved (hm400.castL (by kernel_rfl))
      have hag0 := hag0.moved (hm400.castL (by kernel_rfl))
      have hag := hag.moved (hm400.castL (by kernel_rfl))
      refine sim_know 37 (decide ((↑i : Int) < (↑n : Int))) true (by kernel_rfl) (decide_eq_true (by omega)) ?_
      refine sim_run 6 [] (hR400.cast (by kernel_rfl)) (by kernel_rfl) trivial (fun ρ401 w401 hm401 hR401 => ?_)
      have hj := hj.moved (hm401.castL (by kernel_rfl))
      have hag0 := hag0.moved (hm401.castL (by kernel_rfl))
      have hag := hag.moved (hm401.castL (by kernel_rfl))
      refine sim_place (.v (.slice (some ⟨ga, oa, none⟩) n cp)) n 3 i 0 0 (by kernel_rfl) (by omega) (by omega) rfl (by simp only [Nm.at_, hag.at_ 0 (by omega), eE, Nat.add_zero, Int.toNat_natCast]) ?_
      refine sim_run 10 [] (hR401.cast (by kernel_rfl)) (by kernel_rfl) trivial (fun ρ403 w403 hm403 hR403 => ?_)
      have hj := hj.moved (hm403.castL (by kernel_rfl))
      have hag0 := hag0.moved (hm403.castL (by kernel_rfl))
      have hag := hag.moved (hm403.castL (by kernel_rfl))
      refine sim_fork 42 ((Lk.mk kd (↑a : Int) (↑b : Int)).kind == 1) (by kernel_rfl) (fun hq404 => ?_) (fun hq404 => ?_)
      have hq404 := of_decide_eq_true hq404
      refine sim_run 8 [] (hR403.cast (by kernel_rfl)) (by kernel_rfl) trivial (fun ρ405 w405 hm405 hR405 => ?_)
      have hj := hj.moved (hm405.castL (by kernel_rfl))
      have hag0 := hag0.moved (hm405.castL (by kernel_rfl))
      have hag := hag.moved (hm405.castL (by kernel_rfl))
      refine sim_call 29 [.v (Value.pointer (some (Addr.mk bq 0 none))), .slc 2 0 2 2] (by kernel_rfl) ?_
      refine Calls.mono (join_in (bq) (gq) (Uf.withM (Uf.rejoin u (Uf.classes u).length) (l.take i)) (Aq) (cq) _ (2) (2) _ (a) ([a, b]) _ (hj.is) (hrg) ((by omega)) ((Rel.reads (by assumption : Rel _ _ _ _ _) (n := 2) (size := 1) (m := 2) (vs := nats [a, b]) (b := true) (by kernel_rfl) rfl)) (Nat.le_refl _) ((hj.farB (n := 2) (r := ⟨(nats [a, b]).map .v, true⟩) (by kernel_rfl) rfl _)) (hab) (rfl) ((by omega))) ?_
      rintro e406 w406 ⟨rfl, hu406, hk406⟩
      have hR406 := (hR405).ufNew hj hk406 (by omega) (by omega) [0] (by kernel_rfl) (fun q hq => by simp only [List.mem_singleton] at hq; subst hq; rw [hag.at_ 0 (by omega), eE]; exact ⟨by show ga ≠ bq; omega, by show ga ≠ gq; omega⟩)
      have hj := hj.ufNew hu406
      refine Back.of (.v (.tuple #[.int .i64 (joinC (Uf.withM (Uf.rejoin u (Uf.classes u).length) (l.take i)) a [a, b] : Nat), .int .i64 0])) hR406 rfl ?_
      refine sim_run 6 [⟨12, 0, LI (IntKind.i64.wrap ((↑i : Int) + 1)), LI ((↑i : Int) + 1)⟩] (hR406.cast (by kernel_rfl)) (by kernel_rfl) ⟨eqi (IntWalk.i64_in _ (by omega)), trivial⟩ (fun ρ407 w407 hm407 hR407 => ?_)
      have hag0 := hag0.moved (hm407.castL (by kernel_rfl))
      have hag := hag.moved (hm407.castL (by kernel_rfl))
      have hj := hj.moved (hm407.castL (by kernel_rfl))
      rotate_left
      have hq404 := of_decide_eq_false hq404
      refine sim_run 7 [⟨12, 0, LI (IntKind.i64.wrap ((↑i : Int) + 1)), LI ((↑i : Int) + 1)⟩] (hR403.cast (by kernel_rfl)) (by kernel_rfl) ⟨eqi (IntWalk.i64_in _ (by omega)), trivial⟩ (fun ρ408 w408 hm408 hR408 => ?_)
      have hj := hj.moved (hm408.castL (by kernel_rfl))
      have hag0 := hag0.moved (hm408.castL (by kernel_rfl))
      have hag := hag.moved (hm408.castL (by kernel_rfl))
      rotate_left
      
      · have e1 : joinU (Uf.withM (Uf.rejoin u (Uf.classes u).length) (l.take i)) a [a, b] = Uf.withM (Uf.rejoin u (Uf.classes u).length) (l.take (i + 1)) := by
          rw [hws, if_pos (by assumption), joinU_pair]
        rw [e1] at hj
        exact sim_again (i + 1) (by kernel_rfl) (by show n - (i + 1) < n - i; omega) (by kernel_rfl) (by kernel_rfl) (by kernel_rfl) Agree.zero (Rel.cast (by assumption) (by kernel_rfl)) (by kernel_rfl) (by kernel_rfl) ⟨hlt, hj.cut hag0 rfl (by kernel_rfl)⟩
      · rw [if_neg (by assumption)] at hws
        rw [← hws] at hj
        exact sim_again (i + 1) (by kernel_rfl) (by show n - (i + 1) < n - i; omega) (by kernel_rfl) (by kernel_rfl) (by kernel_rfl) Agree.zero (Rel.cast (by assumption) (by kernel_rfl)) (by kernel_rfl) (by kernel_rfl) ⟨hlt, hj.cut hag0 rfl (by kernel_rfl)⟩
    · refine sim_run 5 [] (hR3.cast (by kernel_rfl)) (by kernel_rfl) trivial (fun ρ500 w500 hm500 hR500 => ?_)
      have hj := hj.moved (hm500.castL (by kernel_rfl))
      have hag0 := hag0.moved (hm500.castL (by kernel_rfl))
      refine sim_know 37 (decide ((↑i : Int) < (↑n : Int))) false (by kernel_rfl) (decide_eq_false (by omega)) ?_
      refine sim_run 1 [] (hR500.cast (by kernel_rfl)) (by kernel_rfl) trivial (fun ρ501 w501 hm501 hR501 => ?_)
      have hj := hj.moved (hm501.castL (by kernel_rfl))
      have hag0 := hag0.moved (hm501.castL (by kernel_rfl))
      refine sim_leave (by kernel_rfl) ?_
      refine sim_run 5 [] (hR501.cast (by kernel_rfl)) (by kernel_rfl) trivial (fun ρ502 w502 hm502 hR502 => ?_)
      have hj := hj.moved (hm502.castL (by kernel_rfl))
      have hag0 := hag0.moved (hm502.castL (by kernel_rfl))
      refine sim_ret (.v (Value.pointer (some (Addr.mk bq 0 none)))) hR502 (by kernel_rfl) (by kernel_rfl) ?_
      
      obtain rfl : i = n := by omega
      refine ⟨bq, gq, Aq, cq, rfl, ?_, hbs, hwb, (by assumption : Rel _ _ _ _ _).toBelow⟩
      have := hj.is
      rw [show l.take i = l from by rw [← hll]; exact List.take_length] at this
      exact this
end

section
open Go Go.RowKit
theorem ints_get {l : List Int} {k : Nat} {x : Int} (h : l[k]? = some x) : (ints l)[k]? = some (.int .i64 x) := by unfold ints; rw [List.getElem?_map, h]; rfl
/-- where p holds first, or -1 -/
def idxF {α : Type} (p : α → Bool) : List α → Nat → Int
  | [], _ => -1
  | a :: l, i => if p a = true then (i : Int) else idxF p l (i + 1)
theorem idxF_ge {α : Type} (p : α → Bool) : ∀ (l : List α) (i : Nat), decide (0 ≤ idxF p l i) = l.any p
  | [], _ => rfl
  | a :: l, i => by
    rw [Bool.eq_iff_iff, decide_eq_true_iff, List.any_cons, Bool.or_eq_true, ← idxF_ge p l (i + 1), decide_eq_true_iff]
    show (0 ≤ if p a = true then (i : Int) else idxF p l (i + 1)) ↔ _
    by_cases h : p a = true
    · rw [if_pos h]
      exact ⟨fun _ => .inl h, fun _ => by omega⟩
    · rw [if_neg h]
      exact ⟨.inr, fun h' => h'.resolve_left h⟩
theorem idxF_here {α : Type} {p : α → Bool} {l : List α} {k : Nat} {a : α} (h : l[k]? = some a) : idxF p (l.drop k) k = if p a = true then (k : Int) else idxF p (l.drop (k + 1)) (k + 1) := by
  have hk := (List.getElem?_eq_some_iff.1 h)
  obtain ⟨hlt, he⟩ := hk
  rw [← List.getElem_cons_drop hlt, he]
  rfl
theorem below_mono {B B' : Nat} {w w' : World} (h : Below B w w') (hB : B' ≤ B) : Below B' w w' := ⟨h.os, h.tape, h.output, h.size, fun k hk => h.block k (by omega)⟩
/-- a function value that answers p at each number of l, as long as what was there stands -/
def PredZ (w : World) (f : FuncId) (caps : Array Value) (p : Int → Bool) (l : List Int) : Prop :=
  ∀ (x : Int) (w1 : World), x ∈ l → Below w.heap.size w w1 → Calls Try.prog f (#[.int .i64 x] ++ caps) w1 fun e w2 => e = .returned (.bool (p x)) ∧ Below w1.heap.size w1 w2
attribute [local irreducible] run goO leaveK someK nextK nextT nextOT nextOD loopBody loopRest loopK fillJ tmplOf tmplJ mergeT At AtO drawOk ordOf gateOf callC callO topOp topO idxOf appOf storeOf clearOf sliceOf calleeOf calleeO topQ idxQ newRowOf resL stepOp seek
set_option maxRecDepth 100000 in
set_option maxHeartbeats 4000000 in
theorem indexFI_any (f : FuncId) (hf : Enters Try.prog f) (caps : Array Value) (p : Int → Bool) (A : Option Addr) (n cp B : Nat) (l : List Int) (w : World) (h : Reads w B 1 A n (ints l)) (hB : B ≤ w.heap.size) (hn : n ≤ 100000) (hp : PredZ w f caps p l) :
    Calls Try.prog 70 #[.slice A n cp, .func (.func f) #[] caps] w fun e w' => e = .returned (.int .i64 (idxF p l 0)) ∧ Below w.heap.size w w' := by
  have hl : l.length = n := h.int_len
  refine sim_enter Try.func70 ρ0 [.v (.slice A n cp), .v (.func (.func f) #[] caps)] [] (by kernel_rfl) rfl ?_
  have hR := Rel.start [] w ρ0
  refine sim_run 12 [] (hR.cast (by kernel_rfl)) (by kernel_rfl) trivial (fun ρ100 w100 hm100 hR100 => ?_)
  
  refine sim_loop (ι := Nat) (T := []) (w0 := w) 0 [0, 1, 7] (fun k => [(8, LI k)]) (fun _ => []) (fun k _ => k ≤ n ∧ idxF p l 0 = idxF p (l.drop k) k) (fun k => n - k) (by kernel_rfl) (by kernel_rfl) (hR100.cast (by kernel_rfl)) ⟨Nat.zero_le _, rfl⟩ ?_
  clear hR hm100 hR100
  rintro k d w2 hR2 ⟨hk, hs⟩
  by_cases hlt : k < n
  · obtain ⟨ga, oa, rfl, _, _⟩ := h.spot (by omega) (by omega)
    obtain ⟨a, ha⟩ : ∃ a, l[k]? = some a := ⟨_, List.getElem?_eq_getElem (by omega)⟩
    have ham := List.mem_of_getElem? ha
    rw [idxF_here ha] at hs
    by_cases he : p a = true
    · rw [if_pos he] at hs
      refine sim_run 5 [] (hR2.cast (by kernel_rfl)) (by kernel_rfl) trivial (fun ρ200 w200 hm200 hR200 => ?_)
      refine sim_know 9 (decide ((↑k : Int) < (↑n : Int))) true (by kernel_rfl) (decide_eq_true (by omega)) ?_
      refine sim_run 14 [] (hR200.cast (by kernel_rfl)) (by kernel_rfl) trivial (fun ρ201 w201 hm201 hR201 => ?_)
      refine sim_cell cp k 0 (.int .i64 a) (by kernel_rfl) (by kernel_rfl) hlt h (ints_get ha) hB (by simp) hR201 (by kernel_rfl) (fun ρ202 hm202 hf202 hR202 => ?_)
      refine sim_run 1 [] (hR202.cast (by kernel_rfl)) (by kernel_rfl) trivial (fun ρ203 w203 hm203 hR203 => ?_)
      refine sim_callF f caps (.v (Value.func (Fn.func f) (Array.mk []) caps)) [LI a] (by kernel_rfl) rfl hf (Calls.mono (hp a _ ham (hR203).toBelow) ?_)
      rw [he]
      rintro e204 w204 ⟨rfl, hb204⟩
      have hR204 := (hR203).below hb204
      refine Back.of (LB true) hR204 rfl ?_
      refine sim_run 7 [] (hR204.cast (by kernel_rfl)) (by kernel_rfl) trivial (fun ρ205 w205 hm205 hR205 => ?_)
      refine sim_ret (LI ((↑k : Int))) hR205 (by kernel_rfl) (by kernel_rfl) ?_
      exact ⟨retv_int (by clear hR205 hm205 hR204 hb204 hR203 hm203 hR202 hm202 hR201 hm201 hR200 hm200 hR2; grind []), hR205.toBelow⟩
      
    · rw [if_neg he] at hs
      have he2 : p a = false := by simpa using he
      refine sim_run 5 [] (hR2.cast (by kernel_rfl)) (by kernel_rfl) trivial (fun ρ300 w300 hm300 hR300 => ?_)
      refine sim_know 9 (decide ((↑k : Int) < (↑n : Int))) true (by kernel_rfl) (decide_eq_true (by omega)) ?_
      refine sim_run 14 [] (hR300.cast (by kernel_rfl)) (by kernel_rfl) trivial (fun ρ301 w301 hm301 hR301 => ?_)
      refine sim_cell cp k 0 (.int .i64 a) (by kernel_rfl) (by kernel_rfl) hlt h (ints_get ha) hB (by simp) hR301 (by kernel_rfl) (fun ρ302 hm302 hf302 hR302 => ?_)
      refine sim_run 1 [] (hR302.cast (by kernel_rfl)) (by kernel_rfl) trivial (fun ρ303 w303 hm303 hR303 => ?_)
      refine sim_callF f caps (.v (Value.func (Fn.func f) (Array.mk []) caps)) [LI a] (by kernel_rfl) rfl hf (Calls.mono (hp a _ ham (hR303).toBelow) ?_)
      rw [he2]
      rintro e304 w304 ⟨rfl, hb304⟩
      have hR304 := (hR303).below hb304
      refine Back.of (LB false) hR304 rfl ?_
      refine sim_run 8 [⟨6, 0, LI (IntKind.i64.wrap ((↑k : Int) + 1)), LI ((↑k : Int) + 1)⟩] (hR304.cast (by kernel_rfl)) (by kernel_rfl) ⟨eqi (IntWalk.i64_in _ (by omega)), trivial⟩ (fun ρ305 w305 hm305 hR305 => ?_)
      
      exact sim_again (k + 1) (by kernel_rfl) (by show n - (k + 1) < n - k; omega) (by kernel_rfl) (by kernel_rfl) (by kernel_rfl) (fun m hm => by simp at hm) (by assumption : Rel _ _ _ _ _) (by kernel_rfl) (by kernel_rfl) ⟨hlt, hs⟩
  · refine sim_run 5 [] (hR2.cast (by kernel_rfl)) (by kernel_rfl) trivial (fun ρ400 w400 hm400 hR400 => ?_)
    refine sim_know 9 (decide ((↑k : Int) < (↑n : Int))) false (by kernel_rfl) (decide_eq_false (by omega)) ?_
    refine sim_run 1 [] (hR400.cast (by kernel_rfl)) (by kernel_rfl) trivial (fun ρ401 w401 hm401 hR401 => ?_)
    refine sim_leave (by kernel_rfl) ?_
    refine sim_run 4 [] (hR401.cast (by kernel_rfl)) (by kernel_rfl) trivial (fun ρ402 w402 hm402 hR402 => ?_)
    refine sim_ret (LI (-1)) hR402 (by kernel_rfl) (by kernel_rfl) ?_
    
    have hkn : k = n := by omega
    rw [hkn, ← hl, List.drop_length] at hs
    exact ⟨retv_int (hs.trans rfl).symm, ((by assumption : Rel _ _ _ _ _)).toBelow⟩
set_option maxRecDepth 100000 in
set_option maxHeartbeats 4000000 in
theorem containsFI_any (f : FuncId) (hf : Enters Try.prog f) (caps : Array Value) (p : Int → Bool) (A : Option Addr) (n cp B : Nat) (l : List Int) (w : World) (h : Reads w B 1 A n (ints l)) (hB : B ≤ w.heap.size) (hn : n ≤ 100000) (hp : PredZ w f caps p l) :
    Calls Try.prog 52 #[.slice A n cp, .func (.func f) #[] caps] w fun e w' => e = .returned (.bool (l.any p)) ∧ Below w.heap.size w w' := by
  refine sim_enter Try.func52 ρ0 [.v (.slice A n cp), .v (.func (.func f) #[] caps)] [] (by kernel_rfl) rfl ?_
  have hR := Rel.start [] w ρ0
  refine sim_run 8 [] (hR.cast (by kernel_rfl)) (by kernel_rfl) trivial (fun ρ500 w500 hm500 hR500 => ?_)
  
  refine sim_call 70 [.v (.slice A n cp), .v (.func (.func f) #[] caps)] (by kernel_rfl) ?_
  refine (indexFI_any f hf caps p A n cp B l _ (h.belowW hR500.toBelow hB) (Nat.le_trans hB hR500.keeps.size) hn (fun x w1 hx hb => hp x w1 hx (hR500.toBelow.trans (below_mono hb hR500.keeps.size)))).mono ?_
  rw [← idxF_ge p l 0]
  rintro e w5 ⟨rfl, hb5⟩
  have hR5 := hR500.below hb5
  refine Back.of (LI (idxF p l 0)) hR5 rfl ?_
  refine sim_run 3 [] (hR5.cast (by kernel_rfl)) (by kernel_rfl) trivial (fun ρ600 w600 hm600 hR600 => ?_)
  refine sim_ret (LB (decide (idxF p l 0 ≥ 0))) hR600 (by kernel_rfl) (by kernel_rfl) ?_
  exact ⟨rfl, hR600.toBelow⟩
  
/-- a function value that answers p at each row of a list -/
def PredR (w : World) (f : FuncId) (caps : Array Value) (p : List Nat → Bool) (base B : Nat) (xss : List (List Nat)) : Prop :=
  ∀ (xs : List Nat) (A : Option Addr) (cap : Nat) (w1 : World), xs ∈ xss → Below w.heap.size w w1 → Reads w1 B 1 A xs.length (nats xs) → (∀ ad, A = some ad → base ≤ ad.block) → Calls Try.prog f (#[.slice A xs.length cap] ++ caps) w1 fun e w2 => e = .returned (.bool (p xs)) ∧ Below w1.heap.size w1 w2
set_option maxRecDepth 100000 in
set_option maxHeartbeats 4000000 in
theorem indexFR_any (f : FuncId) (hf : Enters Try.prog f) (caps : Array Value) (p : List Nat → Bool) (L : Option Addr) (cp base B : Nat) (xss : List (List Nat)) (w : World) (h : RowsR w B base L xss) (hB : B ≤ w.heap.size) (hn : xss.length ≤ 100000) (hp : PredR w f caps p base B xss) :
    Calls Try.prog 59 #[.slice L xss.length cp, .func (.func f) #[] caps] w fun e w' => e = .returned (.int .i64 (idxF p xss 0)) ∧ Below w.heap.size w w' := by
  have hR := Rel.start [] w ρ0
  have hrow : Sta (btw base B) (RowW B base L xss) ρ0 [] w := Sta.ro_ h (by kernel_rfl) (fun x hx => by have := hx.2; omega) RowW.same
  refine sim_enter Try.func59 ρ0 [.v (.slice L xss.length cp), .v (.func (.func f) #[] caps)] [] (by kernel_rfl) rfl ?_
  refine sim_run 12 [] (hR.cast (by kernel_rfl)) (by kernel_rfl) trivial (fun ρ700 w700 hm700 hR700 => ?_)
  have hrow := hrow.moved (hm700.castL (by kernel_rfl))
  
  refine sim_loop (ι := Nat) (T := []) (w0 := w) 0 [0, 1, 7] (fun k => [(8, LI k)]) (fun _ => []) (fun k w1 => k ≤ xss.length ∧ idxF p xss 0 = idxF p (xss.drop k) k ∧ Sta (btw base B) (RowW B base L xss) ρ700 [] w1) (fun k => xss.length - k) (by kernel_rfl) (by kernel_rfl) (hR700.cast (by kernel_rfl)) ⟨Nat.zero_le _, rfl, hrow.castR (by kernel_rfl)⟩ ?_
  iterate 4 (try clear hrow)
  clear hR hm700 hR700
  rintro k d w2 hR2 ⟨hk, hs, hrow⟩
  have hag0 := hR2.ag_ 0 (by kernel_rfl)
  by_cases hlt : k < xss.length
  · obtain ⟨xs, hx⟩ : ∃ xs, xss[k]? = some xs := ⟨_, List.getElem?_eq_getElem hlt⟩
    have hxm := List.mem_of_getElem? hx
    rw [idxF_here hx] at hs
    refine sim_seeRow k 0 (by kernel_rfl) hx hrow hR2 (by kernel_rfl) (fun ga oa Ac cc ρE eA hgb hrd hcc hcm hAc hmE eE hRE => ?_)
    subst eA
    have hrow := hrow.moved hmE
    have hrd := hrd.moved hmE
    have hag0 := hag0.moved hmE
    have hag := hRE.ag_ 1 (by kernel_rfl)
    by_cases he : p xs = true
    · rw [if_pos he] at hs
      refine sim_run 5 [] (hRE.cast (by kernel_rfl)) (by kernel_rfl) trivial (fun ρ800 w800 hm800 hR800 => ?_)
      have hrow := hrow.moved (hm800.castL (by kernel_rfl))
      have hrd := hrd.moved (hm800.castL (by kernel_rfl))
      have hag0 := hag0.moved (hm800.castL (by kernel_rfl))
      have hag := hag.moved (hm800.castL (by kernel_rfl))
      refine sim_know 9 (decide ((↑k : Int) < (↑xss.length : Int))) true (by kernel_rfl) (decide_eq_true (by omega)) ?_
      refine sim_run 14 [] (hR800.cast (by kernel_rfl)) (by kernel_rfl) trivial (fun ρ801 w801 hm801 hR801 => ?_)
      have hrow := hrow.moved (hm801.castL (by kernel_rfl))
      have hrd := hrd.moved (hm801.castL (by kernel_rfl))
      have hag0 := hag0.moved (hm801.castL (by kernel_rfl))
      have hag := hag.moved (hm801.castL (by kernel_rfl))
      refine sim_place (.v (.slice (some ⟨ga, oa, none⟩) xss.length cp)) xss.length 1 k 0 0 (by kernel_rfl) (by omega) (by omega) rfl (by simp only [Nm.at_, hag.at_ 0 (by omega), eE, Nat.add_zero, Int.toNat_natCast, Nat.mul_one]) ?_
      refine sim_run 1 [] (hR801.cast (by kernel_rfl)) (by kernel_rfl) trivial (fun ρ803 w803 hm803 hR803 => ?_)
      have hrow := hrow.moved (hm803.castL (by kernel_rfl))
      have hrd := hrd.moved (hm803.castL (by kernel_rfl))
      have hag0 := hag0.moved (hm803.castL (by kernel_rfl))
      have hag := hag.moved (hm803.castL (by kernel_rfl))
      refine sim_callF f caps (.v (Value.func (Fn.func f) (Array.mk []) caps)) [.v (Value.slice Ac xs.length cc)] (by kernel_rfl) rfl hf (Calls.mono (hp xs Ac cc _ hxm (hR803).toBelow hrd.is hAc) ?_)
      rw [he]
      rintro e804 w804 ⟨rfl, hb804⟩
      have hR804 := (hR803).below hb804
      refine Back.of (LB true) hR804 rfl ?_
      refine sim_run 7 [] (hR804.cast (by kernel_rfl)) (by kernel_rfl) trivial (fun ρ805 w805 hm805 hR805 => ?_)
      have hag0 := hag0.moved (hm805.castL (by kernel_rfl))
      have hag := hag.moved (hm805.castL (by kernel_rfl))
      refine sim_ret (LI ((↑k : Int))) hR805 (by kernel_rfl) (by kernel_rfl) ?_
      exact ⟨retv_int (by clear hR805 hm805 hR804 hb804 hR803 hm803 hR801 hm801 hR800 hm800 hag hRE hmE eE hag0 hR2; grind []), hR805.toBelow⟩
      
    · rw [if_neg he] at hs
      have he2 : p xs = false := by simpa using he
      refine sim_run 5 [] (hRE.cast (by kernel_rfl)) (by kernel_rfl) trivial (fun ρ900 w900 hm900 hR900 => ?_)
      have hrow := hrow.moved (hm900.castL (by kernel_rfl))
      have hrd := hrd.moved (hm900.castL (by kernel_rfl))
      have hag0 := hag0.moved (hm900.castL (by kernel_rfl))
      have hag := hag.moved (hm900.castL (by kernel_rfl))
      refine sim_know 9 (decide ((↑k : Int) < (↑xss.length : Int))) true (by kernel_rfl) (decide_eq_true (by omega)) ?_
      refine sim_run 14 [] (hR900.cast (by kernel_rfl)) (by kernel_rfl) trivial (fun ρ901 w901 hm901 hR901 => ?_)
      have hrow := hrow.moved (hm901.castL (by kernel_rfl))
      have hrd := hrd.moved (hm901.castL (by kernel_rfl))
      have hag0 := hag0.moved (hm901.castL (by kernel_rfl))
      have hag := hag.moved (hm901.castL (by kernel_rfl))
      refine sim_place (.v (.slice (some ⟨ga, oa, none⟩) xss.length cp)) xss.length 1 k 0 0 (by kernel_rfl) (by omega) (by omega) rfl (by simp only [Nm.at_, hag.at_ 0 (by omega), eE, Nat.add_zero, Int.toNat_natCast, Nat.mul_one]) ?_
      refine sim_run 1 [] (hR901.cast (by kernel_rfl)) (by kernel_rfl) trivial (fun ρ903 w903 hm903 hR903 => ?_)
      have hrow := hrow.moved (hm903.castL (by kernel_rfl))
      have hrd := hrd.moved (hm903.castL (by kernel_rfl))
      have hag0 := hag0.moved (hm903.castL (by kernel_rfl))
      have hag := hag.moved (hm903.castL (by kernel_rfl))
      refine sim_callF f caps (.v (Value.func (Fn.func f) (Array.mk []) caps)) [.v (Value.slice Ac xs.length cc)] (by kernel_rfl) rfl hf (Calls.mono (hp xs Ac cc _ hxm (hR903).toBelow hrd.is hAc) ?_)
      rw [he2]
      rintro e904 w904 ⟨rfl, hb904⟩
      have hR904 := (hR903).below hb904
      have hrow := hrow.below hb904
      have hrd := hrd.below hb904
      refine Back.of (LB false) hR904 rfl ?_
      refine sim_run 8 [⟨6, 0, LI (IntKind.i64.wrap ((↑k : Int) + 1)), LI ((↑k : Int) + 1)⟩] (hR904.cast (by kernel_rfl)) (by kernel_rfl) ⟨eqi (IntWalk.i64_in _ (by omega)), trivial⟩ (fun ρ905 w905 hm905 hR905 => ?_)
      have hag0 := hag0.moved (hm905.castL (by kernel_rfl))
      have hag := hag.moved (hm905.castL (by kernel_rfl))
      have hrow := hrow.moved (hm905.castL (by kernel_rfl))
      have hrd := hrd.moved (hm905.castL (by kernel_rfl))
      
      exact sim_again (k + 1) (by kernel_rfl) (by show xss.length - (k + 1) < xss.length - k; omega) (by kernel_rfl) (by kernel_rfl) (by kernel_rfl) (fun m hm => by simp at hm) (Rel.cast (by assumption) (by kernel_rfl)) (by kernel_rfl) (by kernel_rfl) ⟨hlt, hs, hrow.cut hag0 rfl (by kernel_rfl)⟩
  · refine sim_run 5 [] (hR2.cast (by kernel_rfl)) (by kernel_rfl) trivial (fun ρ1000 w1000 hm1000 hR1000 => ?_)
    have hrow := hrow.moved (hm1000.castL (by kernel_rfl))
    have hag0 := hag0.moved (hm1000.castL (by kernel_rfl))
    refine sim_know 9 (decide ((↑k : Int) < (↑xss.length : Int))) false (by kernel_rfl) (decide_eq_false (by omega)) ?_
    refine sim_run 1 [] (hR1000.cast (by kernel_rfl)) (by kernel_rfl) trivial (fun ρ1001 w1001 hm1001 hR1001 => ?_)
    have hrow := hrow.moved (hm1001.castL (by kernel_rfl))
    have hag0 := hag0.moved (hm1001.castL (by kernel_rfl))
    refine sim_leave (by kernel_rfl) ?_
    refine sim_run 4 [] (hR1001.cast (by kernel_rfl)) (by kernel_rfl) trivial (fun ρ1002 w1002 hm1002 hR1002 => ?_)
    have hrow := hrow.moved (hm1002.castL (by kernel_rfl))
    have hag0 := hag0.moved (hm1002.castL (by kernel_rfl))
    refine sim_ret (LI (-1)) hR1002 (by kernel_rfl) (by kernel_rfl) ?_
    
    have hkn : k = xss.length := by omega
    rw [hkn, List.drop_length] at hs
    exact ⟨retv_int (hs.trans rfl).symm, ((by assumption : Rel _ _ _ _ _)).toBelow⟩
end

section
open Go Go.RowKit
attribute [local irreducible] run goO leaveK someK nextK nextT nextOT nextOD loopBody loopRest loopK fillJ tmplOf tmplJ mergeT At AtO drawOk ordOf gateOf callC callO topOp topO idxOf appOf storeOf clearOf sliceOf calleeOf calleeO topQ idxQ newRowOf resL stepOp seek

/-- where a number stands first, or -1 -/
def idxI (x : Int) : List Int → Nat → Int
  | [], _ => -1
  | a :: l, i => if x = a then (i : Int) else idxI x l (i + 1)
theorem idxI_ge (x : Int) : ∀ (l : List Int) (i : Nat), decide (0 ≤ idxI x l i) = l.contains x
  | [], _ => rfl
  | a :: l, i => by
    rw [Bool.eq_iff_iff, decide_eq_true_iff, List.contains_cons, Bool.or_eq_true, ← idxI_ge x l (i + 1), decide_eq_true_iff, beq_iff_eq]
    show (0 ≤ if x = a then (i : Int) else idxI x l (i + 1)) ↔ _
    by_cases h : x = a
    · rw [if_pos h]
      exact ⟨fun _ => .inl h, fun _ => by omega⟩
    · rw [if_neg h]
      exact ⟨.inr, fun h' => h'.resolve_left h⟩
theorem idxI_here {x : Int} {l : List Int} {k : Nat} {a : Int} (h : l[k]? = some a) : idxI x (l.drop k) k = if x = a then (k : Int) else idxI x (l.drop (k + 1)) (k + 1) := by
  have hk := (List.getElem?_eq_some_iff.1 h)
  obtain ⟨hlt, he⟩ := hk
  rw [← List.getElem_cons_drop hlt, he]
  rfl
set_option maxRecDepth 100000 in
set_option maxHeartbeats 4000000 in
theorem indexI_any (A : Option Addr) (n cp B : Nat) (l : List Int) (x : Int) (w : World) (h : Reads w B 1 A n (ints l)) (hB : B ≤ w.heap.size) (hn : n ≤ 4611686018427387904) :
    Calls Try.prog 55 #[.slice A n cp, .int .i64 x] w fun e w' => e = .returned (.int .i64 (idxI x l 0)) ∧ Below w.heap.size w w' := by
  have hl : l.length = n := h.int_len
  refine sim_enter Try.func55 ρ0 [.v (.slice A n cp), LI x] [] (by kernel_rfl) rfl ?_
  have hR := Rel.start [] w ρ0
  refine sim_run 12 [] (hR.cast (by kernel_rfl)) (by kernel_rfl) trivial (fun ρ100 w100 hm100 hR100 => ?_)
  
  refine sim_loop (ι := Nat) (T := []) (w0 := w) 0 [0, 1, 4, 6, 7] (fun k => [(8, LI k)]) (fun _ => []) (fun k _ => k ≤ n ∧ idxI x l 0 = idxI x (l.drop k) k) (fun k => n - k) (by kernel_rfl) (by kernel_rfl) (hR100.cast (by kernel_rfl)) ⟨Nat.zero_le _, rfl⟩ ?_
  clear hR hm100 hR100
  rintro k d w2 hR2 ⟨hk, hs⟩
  by_cases hlt : k < n
  · obtain ⟨ga, oa, rfl, _, _⟩ := h.spot (by omega) (by omega)
    obtain ⟨a, ha⟩ : ∃ a, l[k]? = some a := ⟨_, List.getElem?_eq_getElem (by omega)⟩
    rw [idxI_here ha] at hs
    by_cases he : a = x
    · rw [if_pos he.symm] at hs
      refine sim_run 5 [] (hR2.cast (by kernel_rfl)) (by kernel_rfl) trivial (fun ρ200 w200 hm200 hR200 => ?_)
      refine sim_know 9 (decide ((↑k : Int) < (↑n : Int))) true (by kernel_rfl) (decide_eq_true (by omega)) ?_
      refine sim_run 14 [] (hR200.cast (by kernel_rfl)) (by kernel_rfl) trivial (fun ρ201 w201 hm201 hR201 => ?_)
      refine sim_cell cp k 0 (.int .i64 a) (by kernel_rfl) (by kernel_rfl) hlt h (ints_get ha) hB (by simp) hR201 (by kernel_rfl) (fun ρ202 hm202 hf202 hR202 => ?_)
      refine sim_run 3 [] (hR202.cast (by kernel_rfl)) (by kernel_rfl) trivial (fun ρ203 w203 hm203 hR203 => ?_)
      refine sim_know 16 (x == a) true (by kernel_rfl) (decide_eq_true (by omega)) ?_
      refine sim_run 6 [] (hR203.cast (by kernel_rfl)) (by kernel_rfl) trivial (fun ρ204 w204 hm204 hR204 => ?_)
      refine sim_ret (LI ((↑k : Int))) hR204 (by kernel_rfl) (by kernel_rfl) ?_
      exact ⟨retv_int (by clear hR204 hm204 hR203 hm203 hR202 hm202 hR201 hm201 hR200 hm200 hR2; grind []), hR204.toBelow⟩
      
    · rw [if_neg (fun e => he e.symm)] at hs
      refine sim_run 5 [] (hR2.cast (by kernel_rfl)) (by kernel_rfl) trivial (fun ρ300 w300 hm300 hR300 => ?_)
      refine sim_know 9 (decide ((↑k : Int) < (↑n : Int))) true (by kernel_rfl) (decide_eq_true (by omega)) ?_
      refine sim_run 14 [] (hR300.cast (by kernel_rfl)) (by kernel_rfl) trivial (fun ρ301 w301 hm301 hR301 => ?_)
      refine sim_cell cp k 0 (.int .i64 a) (by kernel_rfl) (by kernel_rfl) hlt h (ints_get ha) hB (by simp) hR301 (by kernel_rfl) (fun ρ302 hm302 hf302 hR302 => ?_)
      refine sim_run 3 [] (hR302.cast (by kernel_rfl)) (by kernel_rfl) trivial (fun ρ303 w303 hm303 hR303 => ?_)
      refine sim_know 16 (x == a) false (by kernel_rfl) (decide_eq_false (by omega)) ?_
      refine sim_run 7 [⟨6, 0, LI (IntKind.i64.wrap ((↑k : Int) + 1)), LI ((↑k : Int) + 1)⟩] (hR303.cast (by kernel_rfl)) (by kernel_rfl) ⟨eqi (IntWalk.i64_in _ (by omega)), trivial⟩ (fun ρ304 w304 hm304 hR304 => ?_)
      
      exact sim_again (k + 1) (by kernel_rfl) (by show n - (k + 1) < n - k; omega) (by kernel_rfl) (by kernel_rfl) (by kernel_rfl) (fun m hm => by simp at hm) (by assumption : Rel _ _ _ _ _) (by kernel_rfl) (by kernel_rfl) ⟨hlt, hs⟩
  · refine sim_run 5 [] (hR2.cast (by kernel_rfl)) (by kernel_rfl) trivial (fun ρ400 w400 hm400 hR400 => ?_)
    refine sim_know 9 (decide ((↑k : Int) < (↑n : Int))) false (by kernel_rfl) (decide_eq_false (by omega)) ?_
    refine sim_run 1 [] (hR400.cast (by kernel_rfl)) (by kernel_rfl) trivial (fun ρ401 w401 hm401 hR401 => ?_)
    refine sim_leave (by kernel_rfl) ?_
    refine sim_run 4 [] (hR401.cast (by kernel_rfl)) (by kernel_rfl) trivial (fun ρ402 w402 hm402 hR402 => ?_)
    refine sim_ret (LI (-1)) hR402 (by kernel_rfl) (by kernel_rfl) ?_
    
    have hkn : k = n := by omega
    rw [hkn, ← hl, List.drop_length] at hs
    exact ⟨retv_int (hs.trans rfl).symm, ((by assumption : Rel _ _ _ _ _)).toBelow⟩
set_option maxRecDepth 100000 in
set_option maxHeartbeats 4000000 in
theorem containsI_any (A : Option Addr) (n cp B : Nat) (l : List Int) (x : Int) (w : World) (h : Reads w B 1 A n (ints l)) (hB : B ≤ w.heap.size) (hn : n ≤ 4611686018427387904) :
    Calls Try.prog 33 #[.slice A n cp, .int .i64 x] w fun e w' => e = .returned (.bool (l.contains x)) ∧ Below w.heap.size w w' := by
  refine sim_enter Try.func33 ρ0 [.v (.slice A n cp), LI x] [] (by kernel_rfl) rfl ?_
  have hR := Rel.start [] w ρ0
  refine sim_run 8 [] (hR.cast (by kernel_rfl)) (by kernel_rfl) trivial (fun ρ500 w500 hm500 hR500 => ?_)
  
  refine sim_call 55 [.v (.slice A n cp), LI x] (by kernel_rfl) ?_
  refine (indexI_any A n cp B l x _ (h.belowW hR500.toBelow hB) (Nat.le_trans hB hR500.keeps.size) hn).mono ?_
  rw [← idxI_ge x l 0]
  rintro e w5 ⟨rfl, hb5⟩
  have hR5 := hR500.below hb5
  refine Back.of (LI (idxI x l 0)) hR5 rfl ?_
  refine sim_run 3 [] (hR5.cast (by kernel_rfl)) (by kernel_rfl) trivial (fun ρ600 w600 hm600 hR600 => ?_)
  refine sim_ret (LB (decide (idxI x l 0 ≥ 0))) hR600 (by kernel_rfl) (by kernel_rfl) ?_
  exact ⟨rfl, hR600.toBelow⟩
  
end

section
open Go Go.RowKit
def encZ (z : Int) : Value := .int .i64 z
theorem kt_int : KT Try.prog 3 encZ := by
  refine ⟨fun a b w => ?_, fun d hd a b x h => ?_, ⟨_, Try.underlying3⟩, fun b a w => by kernel_rfl, fun a => ?_⟩
  · have h : (Op.equal 3 (encZ a) (encZ b)).run Try.prog w = .ok (a == b) w := by kernel_rfl
    rw [h]
    congr 1
  · rw [Try.underlying3] at hd
    injection hd with hd
    subst hd
    simp [Instr.sameNow, encZ] at h
    rw [← h]
    try rfl
  · unfold encZ
    simp [Instr.sameBits]
theorem mii_ty : Try.prog.underlying 65 = some (.map 3 31) := Try.underlying65
theorem zero_row (w : World) : (zeroValue 31).run Try.prog w = .ok nilRow w := by kernel_rfl
/-- the rows of the map -/
def aheadI (u : List Nat) (l : List Lk) (z : Int) : List Int := (Uf.aheadM u l z.toNat).map Int.ofNat
/-- the map of heads, in memory -/
structure HdM (u : List Nat) (l : List Lk) (m : List (Ent Int Value)) : Prop where
  none : ∀ z, look z m = none → aheadI u l z = []
  key : ∀ e ∈ m, ∃ t : Nat, e.key = t ∧ t ∈ Uf.heads u
theorem aheadI_len (u : List Nat) (l : List Lk) (z : Int) : (aheadI u l z).length = (Uf.aheadM u l z.toNat).length := by unfold aheadI; rw [List.length_map]
theorem foldA_len (u : List Nat) (t : Nat) : ∀ (l : List Lk) (acc : List Nat), (l.foldl (Uf.stepA u t) acc).length ≤ acc.length + l.length
  | [], acc => by simp
  | x :: l, acc => by
    rw [List.foldl_cons]
    have h := foldA_len u t l (Uf.stepA u t acc x)
    have h2 : (Uf.stepA u t acc x).length ≤ acc.length + 1 := by
      unfold Uf.stepA addN
      split
      · split
        · omega
        · simp
      · omega
    rw [List.length_cons]
    omega
theorem ahead_len (u : List Nat) (l : List Lk) (t : Nat) : (Uf.aheadM u l t).length ≤ l.length := by
  have := foldA_len u t l []
  simpa [Uf.aheadM] using this
theorem aheadI_other {u : List Nat} {l : List Lk} {x : Lk} {z : Int} (h : ¬ (x.kind = 2 ∧ Uf.hz u x.dst = z.toNat)) : aheadI u (l ++ [x]) z = aheadI u l z := by
  unfold aheadI
  rw [Uf.aheadM_snoc, Uf.stepA, if_neg h]
theorem aheadI_here {u : List Nat} {l : List Lk} {x : Lk} {z : Int} (h1 : x.kind = 2) (h2 : Uf.hz u x.dst = z.toNat) : aheadI u (l ++ [x]) z = if (aheadI u l z).contains (Uf.hz u x.src : Int) = true then aheadI u l z else aheadI u l z ++ [(Uf.hz u x.src : Int)] := by
  unfold aheadI
  rw [Uf.aheadM_snoc, Uf.stepA, if_pos ⟨h1, h2⟩, addN]
  have hc : ((Uf.aheadM u l z.toNat).map Int.ofNat).contains (Uf.hz u x.src : Int) = true ↔ Uf.hz u x.src ∈ Uf.aheadM u l z.toNat := by
    rw [List.contains_iff_mem, List.mem_map]
    constructor
    · rintro ⟨a, ha, he⟩
      have : a = Uf.hz u x.src := Int.ofNat.inj he
      rw [← this]
      exact ha
    · exact fun h => ⟨_, h, rfl⟩
  by_cases hm : Uf.hz u x.src ∈ Uf.aheadM u l z.toNat
  · rw [if_pos hm, if_pos (hc.2 hm)]
  · rw [if_neg hm, if_neg (fun h => hm (hc.1 h)), List.map_append]
    rfl
theorem aheadI_at {u : List Nat} {l : List Lk} {z : Int} {t : Nat} (h : z.toNat = t) : aheadI u l z = aheadI u l (t : Int) := by unfold aheadI; rw [h, Int.toNat_natCast]
theorem aheadI_seen {u : List Nat} {l : List Lk} {a q : Nat} (h : (aheadI u l (Uf.hd u q : Nat)).contains ((Uf.hd u a : Nat) : Int) = true) : aheadI u (l ++ [⟨2, (a : Int), (q : Int)⟩]) = aheadI u l := by
  funext z
  by_cases hz : Uf.hz u (q : Int) = z.toNat
  · rw [aheadI_here rfl hz, if_pos]
    rw [aheadI_at (t := Uf.hd u q) hz.symm]
    exact h
  · exact aheadI_other (fun h => hz h.2)
theorem aheadI_new {u : List Nat} {l : List Lk} {a q : Nat} (h : (aheadI u l (Uf.hd u q : Nat)).contains ((Uf.hd u a : Nat) : Int) = false) : aheadI u (l ++ [⟨2, (a : Int), (q : Int)⟩]) (Uf.hd u q : Nat) = aheadI u l (Uf.hd u q : Nat) ++ [((Uf.hd u a : Nat) : Int)] := by
  have e : Uf.hz u (q : Int) = ((Uf.hd u q : Nat) : Int).toNat := rfl
  rw [aheadI_here rfl e, if_neg]
  · rfl
  · intro h2
    have h3 : (aheadI u l (Uf.hd u q : Nat)).contains ((Uf.hd u a : Nat) : Int) = true := h2
    rw [h] at h3
    cases h3
theorem aheadI_ne {u : List Nat} {l : List Lk} {a q : Nat} (h1 : 1 ≤ Uf.hd u q) {z : Int} (hz : z ≠ (Uf.hd u q : Nat)) : aheadI u (l ++ [⟨2, (a : Int), (q : Int)⟩]) z = aheadI u l z :=
  aheadI_other (fun h => hz (by have h2 : Uf.hd u q = z.toNat := h.2; omega))
theorem ufHead_n {b g c : Nat} {A : Option Addr} {u : List Nat} {w : World} (i : Nat) (h : UfAt w b g u A c) (hg : Uf.Good u) (hu : u.length ≤ 1000) (hi : 1 ≤ i ∧ i ≤ u.length) : Calls Try.prog 30 #[.pointer (some ⟨b, 0, none⟩), .int .i64 (i : Int)] w fun e w' => e = .returned (.int .i64 (Uf.hd u i : Int)) ∧ Below w.heap.size w w' :=
  (ufHead_b (i : Int) h hg hu).mono fun _ _ h => ⟨by rw [← headI_nat hi]; exact h.1, h.2⟩
theorem hd_heads {u : List Nat} (g : Uf.Good u) {i : Nat} (h1 : 1 ≤ i) (h2 : i ≤ u.length) : Uf.hd u i ∈ Uf.heads u := by
  have hs := Uf.hd_spec g i h1 h2
  unfold Uf.heads
  rw [List.mem_filter, List.mem_range'_1]
  exact ⟨⟨hs.1, by omega⟩, decide_eq_true (Uf.hd_hd g h1 h2)⟩
theorem int_ty : RowTy Try.prog 31 3 1 8 := RowTy.of Try.underlying31 (by kernel_rfl) (by kernel_rfl)
theorem containsI_row (base : Nat) (v : Value) (l : List Int) (x : Int) (b0 : Bool) (w : World) (hO : w.ownsRow base 3 1 v l.length (ints l)) (hb0 : l.contains x = b0) (hl : l.length ≤ 100000) : Calls Try.prog 33 #[v, .int .i64 x] w fun e w2 => e = .returned (.bool b0) ∧ Below w.heap.size w w2 := by
  obtain ⟨Av, cv, hve⟩ := own_row hO
  rw [hve] at hO ⊢
  rw [← hb0]
  exact containsI_any Av _ cv w.heap.size _ _ w (Reads.of_own hO) (Nat.le_refl _) (by omega)
theorem noW0 {ρ : Nm} {g : Nat} (h : wrS ρ [] g) : False := by
  obtain ⟨n, r, hn, _⟩ := h
  simp at hn
/-- what lies where a map of heads is answered -/
def HeadsN (w : World) (u : List Nat) (l : List Lk) (e : Ending) (w' : World) : Prop :=
  ∃ gm m ck, e = .returned (.map (some gm)) ∧ w.heap.size ≤ gm ∧ MpO encZ id ρ0 [] w' (some gm) m ck ∧ Rws ρ0 [] w' w.heap.size m (aheadI u l) ∧ HdM u l m ∧ Below w.heap.size w w'
attribute [local irreducible] run goO leaveK someK nextK nextT nextOT nextOD loopBody loopRest loopK fillJ tmplOf tmplJ mergeT At AtO drawOk ordOf gateOf callC callO topOp topO idxOf appOf storeOf clearOf sliceOf calleeOf calleeO topQ idxQ newRowOf resL stepOp seek
set_option maxRecDepth 100000 in
set_option maxHeartbeats 4000000 in
theorem heads_any (b g c : Nat) (Au : Option Addr) (u : List Nat) (A : Option Addr) (n cp B : Nat) (l : List Lk) (w : World) (h : UfAt w b g u Au c) (hg : Uf.Good u) (hu : u.length ≤ 1000) (hl : Reads w B 3 A n (lkV l)) (hB : B ≤ w.heap.size) (hn : n ≤ 100000) (hin : Uf.InL u.length l) :
    Calls Try.prog 32 #[.pointer (some ⟨b, 0, none⟩), .slice A n cp] w (HeadsN w u l) := by
  have hll := lkV_num hl
  have hR := Rel.start [] w ρ0
  have hj : Sta (ufS b g) (UfW b g u Au c) ρ0 [] w := Sta.ro_ h (by kernel_rfl) (fun x hx => hx.elim (fun e => e ▸ h.lt.1) (fun e => e ▸ h.lt.2)) UfW.same
  refine sim_enter Try.func32 ρ0 [.v (.pointer (some ⟨b, 0, none⟩)), .v (.slice A n cp)] [] (by kernel_rfl) rfl ?_
  refine sim_run 6 [] (hR.cast (by kernel_rfl)) (by kernel_rfl) trivial (fun ρ100 w100 hm100 hR100 => ?_)
  have hj := hj.moved (hm100.castL (by kernel_rfl))
  refine sim_make encZ id (t := 65) (by kernel_rfl) hR100 (fun w101 gm eg hb101 hM hR101 => ?_)
  have hj := hj.below hb101
  refine sim_run 10 [] (hR101.cast (by kernel_rfl)) (by kernel_rfl) trivial (fun ρ102 w102 hm102 hR102 => ?_)
  have hM := hM.moved (hm102.castL (by kernel_rfl))
  have hj := hj.moved (hm102.castL (by kernel_rfl))
  
  refine sim_loop (ι := Nat × List (Ent Int Value) × Nat) (T := []) (w0 := w) (0, [], 0) [0, 5, 11, 12] (fun x => [(13, LI x.1)]) (fun _ => []) (fun x w1 => x.1 ≤ n ∧ Sta (ufS b g) (UfW b g u Au c) ρ102 [] w1 ∧ MpO encZ id ρ102 [] w1 (some gm) x.2.1 x.2.2 ∧ Rws ρ102 [] w1 w.heap.size x.2.1 (aheadI u (l.take x.1)) ∧ HdM u (l.take x.1) x.2.1) (fun x => n - x.1) (by kernel_rfl) (by kernel_rfl) (hR102.cast (by kernel_rfl)) ⟨Nat.zero_le _, hj.castR (by kernel_rfl), hM.castR (by kernel_rfl), Rws.nil, fun _ _ => rfl, fun _ h => absurd h List.not_mem_nil⟩ ?_
  have hgm : w.heap.size ≤ gm := by rw [eg]; exact hR100.keeps.size
  iterate 6 (try clear hM)
  iterate 6 (try clear hj)
  clear hR102 hm102
  rintro ⟨i, m, ck⟩ d w2 hR2 ⟨hi, hj, hM, hrw, hH⟩
  dsimp only at hi hj hM hrw hH
  have hag0 := hR2.ag_ 0 (by kernel_rfl)
  by_cases hlt : i < n
  · obtain ⟨x, hx⟩ : ∃ x, l[i]? = some x := ⟨_, List.getElem?_eq_getElem (by omega)⟩
    have hxi := hin x (List.mem_of_getElem? hx)
    obtain ⟨kd, a, q, rfl⟩ : ∃ (kd : Int) (a q : Nat), x = ⟨kd, (a : Int), (q : Int)⟩ := ⟨x.kind, x.src.toNat, x.dst.toNat, by rw [Int.toNat_of_nonneg (by omega), Int.toNat_of_nonneg (by omega)]⟩
    have ha : 1 ≤ a ∧ a ≤ u.length := by have := hxi.1; dsimp only at this; omega
    have hq : 1 ≤ q ∧ q ≤ u.length := by have := hxi.2; dsimp only at this; omega
    have htk : l.take (i + 1) = l.take i ++ [⟨kd, (a : Int), (q : Int)⟩] := by rw [List.take_add_one, hx]; rfl
    refine sim_see (Lk.cells ⟨kd, (a : Int), (q : Int)⟩) i 0 (by kernel_rfl) (by rw [List.getElem?_map, hx]; rfl) hl (lk_in l) (by omega) hlt hB (by simp) hR2 (by kernel_rfl) (fun ga oa ρE eA hgT hgl hmE eE hRE => ?_)
    subst eA
    have hj := hj.moved hmE
    have hM := hM.moved hmE
    have hrw := hrw.moved hmE
    have hag0 := hag0.moved hmE
    have hag := hRE.ag_ 1 (by kernel_rfl)
    by_cases hk : kd = 2
    · subst hk
      have hhq := hd_heads hg hq.1 hq.2
      have hrow := hrw.at_ (hH.none (Uf.hd u q : Nat))
      have hqb := Uf.hd_spec hg q hq.1 hq.2
      have hlen1 : (aheadI u (l.take i) (Uf.hd u q : Nat)).length ≤ n := by rw [aheadI_len]; have := ahead_len u (l.take i) ((Uf.hd u q : Nat) : Int).toNat; rw [List.length_take] at this; omega
      generalize hv : (look ((Uf.hd u q : Nat) : Int) m).getD nilRow = v at hrow
      generalize hb0 : (aheadI u (l.take i) (Uf.hd u q : Nat)).contains ((Uf.hd u a : Nat) : Int) = b0
      cases b0 with
      | true =>
        refine sim_run 5 [] (hRE.cast (by kernel_rfl)) (by kernel_rfl) trivial (fun ρ200 w200 hm200 hR200 => ?_)
        have hj := hj.moved (hm200.castL (by kernel_rfl))
        have hM := hM.moved (hm200.castL (by kernel_rfl))
        have hrw := hrw.moved (hm200.castL (by kernel_rfl))
        have hag0 := hag0.moved (hm200.castL (by kernel_rfl))
        have hag := hag.moved (hm200.castL (by kernel_rfl))
        have hrow := hrow.moved (hm200.castL (by kernel_rfl))
        refine sim_know 14 (decide ((↑(i, m, ck).fst : Int) < (↑n : Int))) true (by kernel_rfl) (decide_eq_true (by omega)) ?_
        refine sim_run 6 [] (hR200.cast (by kernel_rfl)) (by kernel_rfl) trivial (fun ρ201 w201 hm201 hR201 => ?_)
        have hj := hj.moved (hm201.castL (by kernel_rfl))
        have hM := hM.moved (hm201.castL (by kernel_rfl))
        have hrw := hrw.moved (hm201.castL (by kernel_rfl))
        have hag0 := hag0.moved (hm201.castL (by kernel_rfl))
        have hag := hag.moved (hm201.castL (by kernel_rfl))
        have hrow := hrow.moved (hm201.castL (by kernel_rfl))
        refine sim_place (.v (.slice (some ⟨ga, oa, none⟩) n cp)) n 3 i 0 0 (by kernel_rfl) (by omega) (by omega) rfl (by simp only [Nm.at_, hag.at_ 0 (by omega), eE, Nat.add_zero, Int.toNat_natCast]) ?_
        refine sim_run 14 [] (hR201.cast (by kernel_rfl)) (by kernel_rfl) trivial (fun ρ203 w203 hm203 hR203 => ?_)
        have hj := hj.moved (hm203.castL (by kernel_rfl))
        have hM := hM.moved (hm203.castL (by kernel_rfl))
        have hrw := hrw.moved (hm203.castL (by kernel_rfl))
        have hag0 := hag0.moved (hm203.castL (by kernel_rfl))
        have hag := hag.moved (hm203.castL (by kernel_rfl))
        have hrow := hrow.moved (hm203.castL (by kernel_rfl))
        refine sim_draw [] (by kernel_rfl) (by kernel_rfl) hR203 (fun hR204 => ?_)
        have hj := hj.drew
        have hM := hM.drew
        have hrw := hrw.drew
        have hrow := hrow.drew
        refine sim_ordN 6 [] hR204 (by kernel_rfl) trivial (fun ρ205 w205 hm205 hR205 => ?_)
        have hag0 := hag0.moved (hm205.castL (by kernel_rfl))
        have hag := hag.moved (hm205.castL (by kernel_rfl))
        have hj := hj.moved (hm205.castL (by kernel_rfl))
        have hM := hM.moved (hm205.castL (by kernel_rfl))
        have hrw := hrw.moved (hm205.castL (by kernel_rfl))
        have hrow := hrow.moved (hm205.castL (by kernel_rfl))
        refine sim_ord_call (T := []) (w0 := w) 30 [.v (Value.pointer (some (Addr.mk b 0 none))), LI ((Lk.mk 2 (↑a : Int) (↑q : Int)).src)] (by kernel_rfl) ?_
        refine Calls.mono (ufHead_n _ hj.is (by assumption) (by assumption) (by assumption)) ?_
        rintro e206 w206 ⟨rfl, hb206⟩
        have hR206 := hR205.call hb206 (LI ((↑(Uf.hd u a) : Int)))
        have hj := hj.below hb206
        have hM := hM.below hb206
        have hrw := hrw.below hb206
        have hrow := hrow.below hb206
        refine BackO.of (LI ((↑(Uf.hd u a) : Int))) hR206 rfl ?_
        refine sim_ord_call (T := []) (w0 := w) 30 [.v (Value.pointer (some (Addr.mk b 0 none))), LI ((Lk.mk 2 (↑a : Int) (↑q : Int)).dst)] (by kernel_rfl) ?_
        refine Calls.mono (ufHead_n _ hj.is (by assumption) (by assumption) (by assumption)) ?_
        rintro e207 w207 ⟨rfl, hb207⟩
        have hR207 := hR206.call hb207 (LI ((↑(Uf.hd u q) : Int)))
        have hj := hj.below hb207
        have hM := hM.below hb207
        have hrw := hrw.below hb207
        have hrow := hrow.below hb207
        refine BackO.of (LI ((↑(Uf.hd u q) : Int))) hR207 rfl ?_
        refine sim_ordN 2 [] hR207 (by kernel_rfl) trivial (fun ρ208 w208 hm208 hR208 => ?_)
        have hag0 := hag0.moved (hm208.castL (by kernel_rfl))
        have hag := hag.moved (hm208.castL (by kernel_rfl))
        have hj := hj.moved (hm208.castL (by kernel_rfl))
        have hM := hM.moved (hm208.castL (by kernel_rfl))
        have hrw := hrw.moved (hm208.castL (by kernel_rfl))
        have hrow := hrow.moved (hm208.castL (by kernel_rfl))
        refine sim_ord_endR hR208 (by kernel_rfl) (fun hR209 => ?_)
        refine sim_run 4 [] (hR209.cast (by kernel_rfl)) (by kernel_rfl) trivial (fun ρ210 w210 hm210 hR210 => ?_)
        have hag0 := hag0.moved (hm210.castL (by kernel_rfl))
        have hag := hag.moved (hm210.castL (by kernel_rfl))
        have hj := hj.moved (hm210.castL (by kernel_rfl))
        have hM := hM.moved (hm210.castL (by kernel_rfl))
        have hrw := hrw.moved (hm210.castL (by kernel_rfl))
        have hrow := hrow.moved (hm210.castL (by kernel_rfl))
        refine sim_look (enc := encZ) (encV := id) (mx := .v (Value.map (some gm))) (kx := LI ((↑(Uf.hd u q) : Int))) (ok := false) ((Uf.hd u q : Nat) : Int) (.v v) (by kernel_rfl) mii_ty kt_int zero_row hM rfl rfl (by show v = _; exact hv.symm) ?_
        refine sim_run 1 [] (hR210.cast (by kernel_rfl)) (by kernel_rfl) trivial (fun ρ212 w212 hm212 hR212 => ?_)
        have hag0 := hag0.moved (hm212.castL (by kernel_rfl))
        have hag := hag.moved (hm212.castL (by kernel_rfl))
        have hj := hj.moved (hm212.castL (by kernel_rfl))
        have hM := hM.moved (hm212.castL (by kernel_rfl))
        have hrw := hrw.moved (hm212.castL (by kernel_rfl))
        have hrow := hrow.moved (hm212.castL (by kernel_rfl))
        refine sim_call 33 [.v v, LI ((↑(Uf.hd u a) : Int))] (by kernel_rfl) ?_
        refine Calls.mono (containsI_row (w.heap.size) (v) (aheadI u (l.take i) (Uf.hd u q : Nat)) ((Uf.hd u a : Nat)) _ _ (hrow.own) (hb0) ((by omega))) ?_
        rintro e213 w213 ⟨rfl, hb213⟩
        have hR213 := hR212.below hb213
        have hj := hj.below hb213
        have hM := hM.below hb213
        have hrw := hrw.below hb213
        have hrow := hrow.below hb213
        refine Back.of (LB true) hR213 rfl ?_
        refine sim_run 9 [⟨9, 0, LI (IntKind.i64.wrap ((↑(i, m, ck).fst : Int) + 1)), LI ((↑(i, m, ck).fst : Int) + 1)⟩] (hR213.cast (by kernel_rfl)) (by kernel_rfl) ⟨eqi (IntWalk.i64_in _ (by omega)), trivial⟩ (fun ρ214 w214 hm214 hR214 => ?_)
        have hag0 := hag0.moved (hm214.castL (by kernel_rfl))
        have hag := hag.moved (hm214.castL (by kernel_rfl))
        have hj := hj.moved (hm214.castL (by kernel_rfl))
        have hM := hM.moved (hm214.castL (by kernel_rfl))
        have hrw := hrw.moved (hm214.castL (by kernel_rfl))
        have hrow := hrow.moved (hm214.castL (by kernel_rfl))
        
        have hsame : aheadI u (l.take (i + 1)) = aheadI u (l.take i) := by rw [htk]; exact aheadI_seen hb0
        exact sim_again (i + 1, m, ck) (by kernel_rfl) (by show n - (i + 1) < n - i; omega) (by kernel_rfl) (by kernel_rfl) (by kernel_rfl) Agree.zero (Rel.cast (by assumption) (by kernel_rfl)) (by kernel_rfl) (by kernel_rfl) ⟨hlt, hj.cut hag0 rfl (by kernel_rfl), hM.cut hag0 rfl (by kernel_rfl), by dsimp only; rw [hsame]; exact hrw.cut hag0 rfl (by kernel_rfl), fun z hz => by dsimp only at hz ⊢; rw [hsame]; exact hH.none z hz, hH.key⟩
      | false =>
        refine sim_run 5 [] (hRE.cast (by kernel_rfl)) (by kernel_rfl) trivial (fun ρ500 w500 hm500 hR500 => ?_)
        have hj := hj.moved (hm500.castL (by kernel_rfl))
        have hM := hM.moved (hm500.castL (by kernel_rfl))
        have hrw := hrw.moved (hm500.castL (by kernel_rfl))
        have hag0 := hag0.moved (hm500.castL (by kernel_rfl))
        have hag := hag.moved (hm500.castL (by kernel_rfl))
        have hrow := hrow.moved (hm500.castL (by kernel_rfl))
        refine sim_know 14 (decide ((↑(i, m, ck).fst : Int) < (↑n : Int))) true (by kernel_rfl) (decide_eq_true (by omega)) ?_
        refine sim_run 6 [] (hR500.cast (by kernel_rfl)) (by kernel_rfl) trivial (fun ρ501 w501 hm501 hR501 => ?_)
        have hj := hj.moved (hm501.castL (by kernel_rfl))
        have hM := hM.moved (hm501.castL (by kernel_rfl))
        have hrw := hrw.moved (hm501.castL (by kernel_rfl))
        have hag0 := hag0.moved (hm501.castL (by kernel_rfl))
        have hag := hag.moved (hm501.castL (by kernel_rfl))
        have hrow := hrow.moved (hm501.castL (by kernel_rfl))
        refine sim_place (.v (.slice (some ⟨ga, oa, none⟩) n cp)) n 3 i 0 0 (by kernel_rfl) (by omega) (by omega) rfl (by simp only [Nm.at_, hag.at_ 0 (by omega), eE, Nat.add_zero, Int.toNat_natCast]) ?_
        refine sim_run 14 [] (hR501.cast (by kernel_rfl)) (by kernel_rfl) trivial (fun ρ503 w503 hm503 hR503 => ?_)
        have hj := hj.moved (hm503.castL (by kernel_rfl))
        have hM := hM.moved (hm503.castL (by kernel_rfl))
        have hrw := hrw.moved (hm503.castL (by kernel_rfl))
        have hag0 := hag0.moved (hm503.castL (by kernel_rfl))
        have hag := hag.moved (hm503.castL (by kernel_rfl))
        have hrow := hrow.moved (hm503.castL (by kernel_rfl))
        refine sim_draw [] (by kernel_rfl) (by kernel_rfl) hR503 (fun hR504 => ?_)
        have hj := hj.drew
        have hM := hM.drew
        have hrw := hrw.drew
        have hrow := hrow.drew
        refine sim_ordN 6 [] hR504 (by kernel_rfl) trivial (fun ρ505 w505 hm505 hR505 => ?_)
        have hag0 := hag0.moved (hm505.castL (by kernel_rfl))
        have hag := hag.moved (hm505.castL (by kernel_rfl))
        have hj := hj.moved (hm505.castL (by kernel_rfl))
        have hM := hM.moved (hm505.castL (by kernel_rfl))
        have hrw := hrw.moved (hm505.castL (by kernel_rfl))
        have hrow := hrow.moved (hm505.castL (by kernel_rfl))
        refine sim_ord_call (T := []) (w0 := w) 30 [.v (Value.pointer (some (Addr.mk b 0 none))), LI ((Lk.mk 2 (↑a : Int) (↑q : Int)).src)] (by kernel_rfl) ?_
        refine Calls.mono (ufHead_n _ hj.is (by assumption) (by assumption) (by assumption)) ?_
        rintro e506 w506 ⟨rfl, hb506⟩
        have hR506 := hR505.call hb506 (LI ((↑(Uf.hd u a) : Int)))
        have hj := hj.below hb506
        have hM := hM.below hb506
        have hrw := hrw.below hb506
        have hrow := hrow.below hb506
        refine BackO.of (LI ((↑(Uf.hd u a) : Int))) hR506 rfl ?_
        refine sim_ord_call (T := []) (w0 := w) 30 [.v (Value.pointer (some (Addr.mk b 0 none))), LI ((Lk.mk 2 (↑a : Int) (↑q : Int)).dst)] (by kernel_rfl) ?_
        refine Calls.mono (ufHead_n _ hj.is (by assumption) (by assumption) (by assumption)) ?_
        rintro e507 w507 ⟨rfl, hb507⟩
        have hR507 := hR506.call hb507 (LI ((↑(Uf.hd u q) : Int)))
        have hj := hj.below hb507
        have hM := hM.below hb507
        have hrw := hrw.below hb507
        have hrow := hrow.below hb507
        refine BackO.of (LI ((↑(Uf.hd u q) : Int))) hR507 rfl ?_
        refine sim_ordN 2 [] hR507 (by kernel_rfl) trivial (fun ρ508 w508 hm508 hR508 => ?_)
        have hag0 := hag0.moved (hm508.castL (by kernel_rfl))
        have hag := hag.moved (hm508.castL (by kernel_rfl))
        have hj := hj.moved (hm508.castL (by kernel_rfl))
        have hM := hM.moved (hm508.castL (by kernel_rfl))
        have hrw := hrw.moved (hm508.castL (by kernel_rfl))
        have hrow := hrow.moved (hm508.castL (by kernel_rfl))
        refine sim_ord_endR hR508 (by kernel_rfl) (fun hR509 => ?_)
        refine sim_run 4 [] (hR509.cast (by kernel_rfl)) (by kernel_rfl) trivial (fun ρ510 w510 hm510 hR510 => ?_)
        have hag0 := hag0.moved (hm510.castL (by kernel_rfl))
        have hag := hag.moved (hm510.castL (by kernel_rfl))
        have hj := hj.moved (hm510.castL (by kernel_rfl))
        have hM := hM.moved (hm510.castL (by kernel_rfl))
        have hrw := hrw.moved (hm510.castL (by kernel_rfl))
        have hrow := hrow.moved (hm510.castL (by kernel_rfl))
        refine sim_look (enc := encZ) (encV := id) (mx := .v (Value.map (some gm))) (kx := LI ((↑(Uf.hd u q) : Int))) (ok := false) ((Uf.hd u q : Nat) : Int) (.v v) (by kernel_rfl) mii_ty kt_int zero_row hM rfl rfl (by show v = _; exact hv.symm) ?_
        refine sim_run 1 [] (hR510.cast (by kernel_rfl)) (by kernel_rfl) trivial (fun ρ512 w512 hm512 hR512 => ?_)
        have hag0 := hag0.moved (hm512.castL (by kernel_rfl))
        have hag := hag.moved (hm512.castL (by kernel_rfl))
        have hj := hj.moved (hm512.castL (by kernel_rfl))
        have hM := hM.moved (hm512.castL (by kernel_rfl))
        have hrw := hrw.moved (hm512.castL (by kernel_rfl))
        have hrow := hrow.moved (hm512.castL (by kernel_rfl))
        refine sim_call 33 [.v v, LI ((↑(Uf.hd u a) : Int))] (by kernel_rfl) ?_
        refine Calls.mono (containsI_row (w.heap.size) (v) (aheadI u (l.take i) (Uf.hd u q : Nat)) ((Uf.hd u a : Nat)) _ _ (hrow.own) (hb0) ((by omega))) ?_
        rintro e513 w513 ⟨rfl, hb513⟩
        have hR513 := hR512.below hb513
        have hj := hj.below hb513
        have hM := hM.below hb513
        have hrw := hrw.below hb513
        have hrow := hrow.below hb513
        refine Back.of (LB false) hR513 rfl ?_
        refine sim_run 8 [] (hR513.cast (by kernel_rfl)) (by kernel_rfl) trivial (fun ρ514 w514 hm514 hR514 => ?_)
        have hag0 := hag0.moved (hm514.castL (by kernel_rfl))
        have hag := hag.moved (hm514.castL (by kernel_rfl))
        have hj := hj.moved (hm514.castL (by kernel_rfl))
        have hM := hM.moved (hm514.castL (by kernel_rfl))
        have hrw := hrw.moved (hm514.castL (by kernel_rfl))
        have hrow := hrow.moved (hm514.castL (by kernel_rfl))
        refine sim_look (enc := encZ) (encV := id) (mx := .v (Value.map (some gm))) (kx := LI ((↑(Uf.hd u q) : Int))) (ok := false) ((Uf.hd u q : Nat) : Int) (.v v) (by kernel_rfl) mii_ty kt_int zero_row hM rfl rfl (by show v = _; exact hv.symm) ?_
        refine sim_run 2 [] (hR514.cast (by kernel_rfl)) (by kernel_rfl) trivial (fun ρ516 w516 hm516 hR516 => ?_)
        have hag0 := hag0.moved (hm516.castL (by kernel_rfl))
        have hag := hag.moved (hm516.castL (by kernel_rfl))
        have hj := hj.moved (hm516.castL (by kernel_rfl))
        have hM := hM.moved (hm516.castL (by kernel_rfl))
        have hrw := hrw.moved (hm516.castL (by kernel_rfl))
        have hrow := hrow.moved (hm516.castL (by kernel_rfl))
        
        refine sim_appendP 31 v (.slc 2 0 1 1) (by kernel_rfl) (by assumption : Rel _ _ _ _ _) int_ty hrow 2 1 1 rfl [LI ((Uf.hd u a : Nat) : Int)] (by kernel_rfl) rfl (by kernel_rfl) (by unfold maxLen; omega) (by omega) ((by assumption : Rel _ _ _ _ _)).keeps.size (fun g' hg' => .inr (own_ge hrow.own hg')) [0] (by kernel_rfl) (fun k0 hk0 g' hg' => by
          simp only [List.mem_singleton] at hk0
          subst hk0
          rw [hag.at_ 0 (by omega), eE]
          have := own_ge hrow.own hg'
          show ga ≠ g'
          omega) (fun v' w4 hvo hgr hat hR4 => ?_)
        have hM := hM.grownO hrow.own hgr
        have hbl := h.lt
        have hj := hj.grown hgr (fun x hx e => by
          have := own_ge hrow.own e
          rcases hx with rfl | rfl
          · omega
          · omega)
        have hput := hrw.put (f' := aheadI u (l.take (i + 1))) hM.fine (k := ((Uf.hd u q : Nat) : Int)) (v' := v') (fun z hz => by rw [htk]; exact aheadI_ne hqb.1 hz) (by rw [hv]; exact hgr) (by rw [htk, aheadI_new hb0, List.length_append]; unfold ints at hvo ⊢; rw [List.map_append]; exact hvo) (by rw [hv]; exact hat.imp id (fun e => ⟨_, Nat.le_refl _, e⟩)) ck
        clear hrow hrw hvo
        have hmf := hM.fine
        refine sim_upd (enc := encZ) (encV := id) (mx := .v (Value.map (some gm))) (kx := LI ((↑(Uf.hd u q) : Int))) (vx := .v v') ((Uf.hd u q : Nat) : Int) v' (by kernel_rfl) mii_ty kt_int hM rfl rfl rfl (.inr hgm) hR4 (fun w600 ht600 hM2 hR600 => ?_)
        have hM := hM2
        clear hM2
        have hput := hput.turnM ht600
        have hj := hj.turnM ht600 (fun e => by rcases e with e | e <;> omega)
        refine sim_run 6 [⟨9, 0, LI (IntKind.i64.wrap ((↑(i, m, ck).fst : Int) + 1)), LI ((↑(i, m, ck).fst : Int) + 1)⟩] (hR600.cast (by kernel_rfl)) (by kernel_rfl) ⟨eqi (IntWalk.i64_in _ (by omega)), trivial⟩ (fun ρ601 w601 hm601 hR601 => ?_)
        have hag0 := hag0.moved (hm601.castL (by kernel_rfl))
        have hag := hag.moved (hm601.castL (by kernel_rfl))
        have hM := hM.moved (hm601.castL (by kernel_rfl))
        have hput := hput.moved (hm601.castL (by kernel_rfl))
        have hj := hj.moved (hm601.castL (by kernel_rfl))
        
        exact sim_again (i + 1, ins ((Uf.hd u q : Nat) : Int) v' ck m, clockAfter ((Uf.hd u q : Nat) : Int) m ck) (by kernel_rfl) (by show n - (i + 1) < n - i; omega) (by kernel_rfl) (by kernel_rfl) (by kernel_rfl) Agree.zero (Rel.cast (by assumption) (by kernel_rfl)) (by kernel_rfl) (by kernel_rfl) ⟨hlt, hj.cut hag0 rfl (by kernel_rfl), hM.cut hag0 rfl (by kernel_rfl), hput.cut hag0 rfl (by kernel_rfl), fun z hz => by
          dsimp only at hz ⊢
          rw [look_ins] at hz
          split at hz
          · cases hz
          · rename_i hne
            rw [htk, aheadI_ne hqb.1 hne]
            exact hH.none z hz, fun e he => by
          rcases ins_mem2 hmf.keys he with ⟨h1, _⟩ | ⟨h1, _⟩
          · exact hH.key e h1
          · exact ⟨_, h1, hhq⟩⟩
    · refine sim_run 5 [] (hRE.cast (by kernel_rfl)) (by kernel_rfl) trivial (fun ρ300 w300 hm300 hR300 => ?_)
      have hj := hj.moved (hm300.castL (by kernel_rfl))
      have hM := hM.moved (hm300.castL (by kernel_rfl))
      have hrw := hrw.moved (hm300.castL (by kernel_rfl))
      have hag0 := hag0.moved (hm300.castL (by kernel_rfl))
      have hag := hag.moved (hm300.castL (by kernel_rfl))
      refine sim_know 14 (decide ((↑(i, m, ck).fst : Int) < (↑n : Int))) true (by kernel_rfl) (decide_eq_true (by omega)) ?_
      refine sim_run 6 [] (hR300.cast (by kernel_rfl)) (by kernel_rfl) trivial (fun ρ301 w301 hm301 hR301 => ?_)
      have hj := hj.moved (hm301.castL (by kernel_rfl))
      have hM := hM.moved (hm301.castL (by kernel_rfl))
      have hrw := hrw.moved (hm301.castL (by kernel_rfl))
      have hag0 := hag0.moved (hm301.castL (by kernel_rfl))
      have hag := hag.moved (hm301.castL (by kernel_rfl))
      refine sim_place (.v (.slice (some ⟨ga, oa, none⟩) n cp)) n 3 i 0 0 (by kernel_rfl) (by omega) (by omega) rfl (by simp only [Nm.at_, hag.at_ 0 (by omega), eE, Nat.add_zero, Int.toNat_natCast]) ?_
      refine sim_run 11 [] (hR301.cast (by kernel_rfl)) (by kernel_rfl) trivial (fun ρ303 w303 hm303 hR303 => ?_)
      have hj := hj.moved (hm303.castL (by kernel_rfl))
      have hM := hM.moved (hm303.castL (by kernel_rfl))
      have hrw := hrw.moved (hm303.castL (by kernel_rfl))
      have hag0 := hag0.moved (hm303.castL (by kernel_rfl))
      have hag := hag.moved (hm303.castL (by kernel_rfl))
      refine sim_know 19 ((Lk.mk kd (↑a : Int) (↑q : Int)).kind != 2) true (by kernel_rfl) (bne_iff_ne.2 hk) ?_
      refine sim_run 6 [⟨9, 0, LI (IntKind.i64.wrap ((↑(i, m, ck).fst : Int) + 1)), LI ((↑(i, m, ck).fst : Int) + 1)⟩] (hR303.cast (by kernel_rfl)) (by kernel_rfl) ⟨eqi (IntWalk.i64_in _ (by omega)), trivial⟩ (fun ρ304 w304 hm304 hR304 => ?_)
      have hj := hj.moved (hm304.castL (by kernel_rfl))
      have hM := hM.moved (hm304.castL (by kernel_rfl))
      have hrw := hrw.moved (hm304.castL (by kernel_rfl))
      have hag0 := hag0.moved (hm304.castL (by kernel_rfl))
      have hag := hag.moved (hm304.castL (by kernel_rfl))
      
      have hsame : aheadI u (l.take (i + 1)) = aheadI u (l.take i) := funext fun z => by rw [htk]; exact aheadI_other (fun h => hk h.1)
      exact sim_again (i + 1, m, ck) (by kernel_rfl) (by show n - (i + 1) < n - i; omega) (by kernel_rfl) (by kernel_rfl) (by kernel_rfl) Agree.zero (Rel.cast (by assumption) (by kernel_rfl)) (by kernel_rfl) (by kernel_rfl) ⟨hlt, hj.cut hag0 rfl (by kernel_rfl), hM.cut hag0 rfl (by kernel_rfl), by dsimp only; rw [hsame]; exact hrw.cut hag0 rfl (by kernel_rfl), fun z hz => by dsimp only at hz ⊢; rw [hsame]; exact hH.none z hz, hH.key⟩
  · refine sim_run 5 [] (hR2.cast (by kernel_rfl)) (by kernel_rfl) trivial (fun ρ400 w400 hm400 hR400 => ?_)
    have hj := hj.moved (hm400.castL (by kernel_rfl))
    have hM := hM.moved (hm400.castL (by kernel_rfl))
    have hrw := hrw.moved (hm400.castL (by kernel_rfl))
    have hag0 := hag0.moved (hm400.castL (by kernel_rfl))
    refine sim_know 14 (decide ((↑(i, m, ck).fst : Int) < (↑n : Int))) false (by kernel_rfl) (decide_eq_false (by omega)) ?_
    refine sim_run 1 [] (hR400.cast (by kernel_rfl)) (by kernel_rfl) trivial (fun ρ401 w401 hm401 hR401 => ?_)
    have hj := hj.moved (hm401.castL (by kernel_rfl))
    have hM := hM.moved (hm401.castL (by kernel_rfl))
    have hrw := hrw.moved (hm401.castL (by kernel_rfl))
    have hag0 := hag0.moved (hm401.castL (by kernel_rfl))
    refine sim_leave (by kernel_rfl) ?_
    refine sim_run 5 [] (hR401.cast (by kernel_rfl)) (by kernel_rfl) trivial (fun ρ402 w402 hm402 hR402 => ?_)
    have hj := hj.moved (hm402.castL (by kernel_rfl))
    have hM := hM.moved (hm402.castL (by kernel_rfl))
    have hrw := hrw.moved (hm402.castL (by kernel_rfl))
    have hag0 := hag0.moved (hm402.castL (by kernel_rfl))
    refine sim_ret (.v (Value.map (some gm))) hR402 (by kernel_rfl) (by kernel_rfl) ?_
    
    obtain rfl : i = n := by omega
    rw [show l.take i = l from by rw [← hll]; exact List.take_length] at hrw hH
    exact ⟨gm, m, ck, rfl, hgm, ⟨fun g0 h0 => ⟨(hM.is g0 h0).1, fun h => noW0 h⟩, hM.nil⟩, hrw.cut ⟨Agree.zero, Nat.zero_le _⟩ rfl (by kernel_rfl), hH, (by assumption : Rel _ _ _ _ _).toBelow⟩
end

section
open Go Go.RowKit
def encU (_ : Unit) : Value := .agg #[]
theorem mis_ty : Try.prog.underlying 93 = some (.map 3 94) := Try.underlying93
theorem zero_unit (w : World) : (zeroValue 94).run Try.prog w = .ok (encU ()) w := by kernel_rfl
/-- the order in the midst, in memory -/
structure OrV (u : List Nat) (l : List Lk) (pd od pa oq gd gm : Nat) (D : List (Ent Int Unit)) (ck : Nat) (m : List (Ent Int Value)) (cm B0 : Nat) (done : List Nat) (w : World) : Prop where
  cd : w.cell? ⟨pd, od, none⟩ = some (.map (some gd))
  ca : w.cell? ⟨pa, oq, none⟩ = some (.map (some gm))
  md : Mp encZ encU w gd D ck
  ma : Mp encZ id w gm m cm
  rw : Rws ρ0 [] w B0 m (aheadI u l)
  hm : HdM u l m
  hd : ∀ t : Nat, hasK (t : Int) D = done.contains t
theorem OrV.below {u : List Nat} {l : List Lk} {pd od pa oq gd gm : Nat} {D : List (Ent Int Unit)} {ck : Nat} {m : List (Ent Int Value)} {cm B0 : Nat} {done : List Nat} {w w' : World} (h : OrV u l pd od pa oq gd gm D ck m cm B0 done w) (hb : Below w.heap.size w w') : OrV u l pd od pa oq gd gm D ck m cm B0 done w' :=
  ⟨(hb.cell (p := ⟨pd, od, none⟩) (World.block_lt_of_cell? _ _ h.cd)).trans h.cd, (hb.cell (p := ⟨pa, oq, none⟩) (World.block_lt_of_cell? _ _ h.ca)).trans h.ca, h.md.same (hb.block _ h.md.size), h.ma.same (hb.block _ h.ma.size), h.rw.below hb, h.hm, h.hd⟩
theorem mpo_in {K V : Type} {enc : K → Value} {encV : V → Value} {w : World} {g : Nat} {l : List (Ent K V)} {clock : Nat} (h : Mp enc encV w g l clock) {ρ : Nm} {rs : List Reg} (hro : allRo rs = true) : MpO enc encV ρ rs w (some g) l clock := ⟨fun q hq => by injection hq with hq; subst hq; exact ⟨h, fun hw => wrS_allRo hro hw⟩, fun e => by cases e⟩
theorem open_cell {T : List Nat} {w0 w : World} {ρ : Nm} {rs : List Reg} (hR : Rel T w0 ρ rs w) (hu : undR rs.length rs = true) (hro : allRo rs = true) (g o : Nat) (v : Value) (hc : w.cell? ⟨g, o, none⟩ = some v) : ∃ ρ', Agree rs.length ρ ρ' ∧ ρ' rs.length = (g, o) ∧ Rel T w0 ρ' (rs ++ [⟨[.v v], false⟩]) w :=
  hR.open_ hu g o [.v v] rfl false (World.block_lt_of_cell? _ _ hc) (fun j x hx => by
    match j, hx with
    | 0, hx => simp only [List.getElem?_cons_zero, Option.some.injEq] at hx; subst hx; exact hc
    | j + 1, hx => simp at hx) (fun h => by cases h) (fun n r hn hw he => by
    rcases hw with hw | hw
    · cases hw
    · exact (wrS_allRo (ρ := ρ) (g := g) hro ⟨n, r, hn, hw, he⟩).elim)
theorem inner_enters : Enters Try.prog 57 := ⟨_, Try.func57, by kernel_rfl, by kernel_rfl⟩
theorem ready_enters : Enters Try.prog 56 := ⟨_, Try.func56, by kernel_rfl, by kernel_rfl⟩
theorem containsFI_row (f : FuncId) (hf : Enters Try.prog f) (caps : Array Value) (p : Int → Bool) (base : Nat) (v : Value) (l : List Int) (b0 : Bool) (w : World) (hO : w.ownsRow base 3 1 v l.length (ints l)) (hb0 : l.any p = b0) (hl : l.length ≤ 100000) (hp : PredZ w f caps p l) : Calls Try.prog 52 #[v, .func (.func f) #[] caps] w fun e w2 => e = .returned (.bool b0) ∧ Below w.heap.size w w2 := by
  obtain ⟨Av, cv, hve⟩ := own_row hO
  rw [hve] at hO ⊢
  rw [← hb0]
  exact containsFI_any f hf caps p Av _ cv w.heap.size l w (Reads.of_own hO) (Nat.le_refl _) hl hp
attribute [local irreducible] run goO leaveK someK nextK nextT nextOT nextOD loopBody loopRest loopK fillJ tmplOf tmplJ mergeT At AtO drawOk ordOf gateOf callC callO topOp topO idxOf appOf storeOf clearOf sliceOf calleeOf calleeO topQ idxQ newRowOf resL stepOp seek
set_option maxRecDepth 100000 in
set_option maxHeartbeats 4000000 in
theorem inner_any (pd od gd : Nat) (D : List (Ent Int Unit)) (ck : Nat) (z : Int) (w : World) (hc : w.cell? ⟨pd, od, none⟩ = some (.map (some gd))) (hM : Mp encZ encU w gd D ck) : Calls Try.prog 57 #[.int .i64 z, .pointer (some ⟨pd, od + 0, none⟩)] w fun e w' => e = .returned (.bool (!hasK z D)) ∧ Below w.heap.size w w' := by
  obtain ⟨ρ, _, e0, hR⟩ := open_cell (Rel.start [] w ρ0) rfl (by kernel_rfl) pd od _ hc
  have e0 : ρ 0 = (pd, od) := e0
  have hM := mpo_in hM (ρ := ρ) (rs := [⟨[.v (.map (some gd))], false⟩]) (by kernel_rfl)
  refine sim_enter Try.func57 ρ [LI z, .ptr 0 0] [⟨[.v (.map (some gd))], false⟩] (by kernel_rfl) (by simp only [denL, LV.den, Nm.at_, e0]) ?_
  have hR := hR.cast rfl
  refine sim_run 8 [] (hR.cast (by kernel_rfl)) (by kernel_rfl) trivial (fun ρ100 w100 hm100 hR100 => ?_)
  have hM := hM.moved (hm100.castL (by kernel_rfl))
  refine sim_look (enc := encZ) (encV := encU) (mx := .v (Value.map (some gd))) (kx := LI z) (ok := true) z (.tup [.v (encU ()), LB (hasK z D)]) (by kernel_rfl) mis_ty kt_int zero_unit hM rfl rfl (by rfl) ?_
  refine sim_run 13 [] (hR100.cast (by kernel_rfl)) (by kernel_rfl) trivial (fun ρ102 w102 hm102 hR102 => ?_)
  have hM := hM.moved (hm102.castL (by kernel_rfl))
  refine sim_ret (LB (!hasK z D)) hR102 (by kernel_rfl) (by kernel_rfl) ?_
  exact ⟨rfl, hR102.toBelow⟩
  
theorem rdy_done {ah : Nat → List Nat} {done : List Nat} {p : Nat} (h : done.contains p = true) : Uf.rdy ah done p = false := by
  unfold Uf.rdy
  rw [h]
  rfl
theorem rdy_not {u : List Nat} {l : List Lk} {done : List Nat} {D : List (Ent Int Unit)} {p : Nat} {b0 : Bool} (hd : ∀ t : Nat, hasK (t : Int) D = done.contains t) (h : done.contains p = false) (hb : ((aheadI u l (p : Int)).any fun z => !hasK z D) = b0) : Uf.rdy (Uf.aheadM u l) done p = !b0 := by
  unfold Uf.rdy
  rw [h, ← hb]
  unfold aheadI
  rw [Int.toNat_natCast, List.any_map, List.not_any_eq_all_not]
  simp only [Bool.not_false, Bool.true_and]
  congr 1
  funext x
  show done.contains x = !!hasK (x : Int) D
  rw [hd, Bool.not_not]
theorem inner_pred {u : List Nat} {l : List Lk} {pd od pa oq gd gm : Nat} {D : List (Ent Int Unit)} {ck : Nat} {m : List (Ent Int Value)} {cm B0 : Nat} {done : List Nat} {w w2 : World} (h : OrV u l pd od pa oq gd gm D ck m cm B0 done w) (hb : Below w.heap.size w w2) (zs : List Int) : PredZ w2 57 #[.pointer (some ⟨pd, od + 0, none⟩)] (fun z => !hasK z D) zs := by
  intro x w3 _ hb3
  have h3 := (h.below hb).below hb3
  exact inner_any pd od gd D ck x w3 h3.cd h3.md
set_option maxRecDepth 100000 in
set_option maxHeartbeats 4000000 in
theorem ready_any {u : List Nat} {l : List Lk} {pd od pa oq gd gm : Nat} {D : List (Ent Int Unit)} {ck : Nat} {m : List (Ent Int Value)} {cm B0 : Nat} {done : List Nat} {w : World} (h : OrV u l pd od pa oq gd gm D ck m cm B0 done w) (hg : Uf.Good u) (hl : l.length ≤ 100000) (base B : Nat) :
    PredR w 56 #[.pointer (some ⟨pd, od + 0, none⟩), .pointer (some ⟨pa, oq + 0, none⟩)] (fun c => Uf.rdy (Uf.aheadM u l) done (c.headD 0)) base B (Uf.classes u) := by
  intro xs A cap w1 hx hb0 hrd hA
  obtain ⟨k, hk, hke⟩ := List.getElem_of_mem hx
  obtain ⟨p, r, hpr, hpin⟩ := class_get hg (k := k) (c := xs) (by rw [List.getElem?_eq_getElem hk, hke])
  have hO := h.below hb0
  clear h
  obtain ⟨ga, oa, rfl, hgB, hcs⟩ := hrd.spot (by rw [hpr, List.length_cons]; omega) (by omega)
  have hcp := hcs 0 (.int .i64 (p : Int)) (by rw [hpr]; rfl)
  dsimp only
  rw [show xs.headD 0 = p from by rw [hpr]; rfl]
  obtain ⟨ρ1, _, e0, hR1⟩ := open_cell (Rel.start [] w1 ρ0) rfl (by kernel_rfl) pd od _ hO.cd
  have e0 : ρ1 0 = (pd, od) := e0
  obtain ⟨ρ2, a2, e1, hR2⟩ := open_cell hR1 rfl (by kernel_rfl) pa oq _ hO.ca
  have e1 : ρ2 1 = (pa, oq) := e1
  have e0 := (a2 0 (by show 0 < 1; omega)).trans e0
  obtain ⟨ρ3, a3, e2, hR3⟩ := open_cell hR2 rfl (by kernel_rfl) ga (oa + 0) _ hcp
  have e2 : ρ3 2 = (ga, oa + 0) := e2
  have e1 := (a3 1 (by show 1 < 2; omega)).trans e1
  have e0 := (a3 0 (by show 0 < 2; omega)).trans e0
  have hR := hR3.cast (rs' := [⟨[.v (.map (some gd))], false⟩, ⟨[.v (.map (some gm))], false⟩, ⟨[LI (p : Int)], false⟩]) rfl
  have hM := mpo_in hO.md (ρ := ρ3) (rs := [⟨[.v (.map (some gd))], false⟩, ⟨[.v (.map (some gm))], false⟩, ⟨[LI (p : Int)], false⟩]) (by kernel_rfl)
  have hMa := mpo_in hO.ma (ρ := ρ3) (rs := [⟨[.v (.map (some gd))], false⟩, ⟨[.v (.map (some gm))], false⟩, ⟨[LI (p : Int)], false⟩]) (by kernel_rfl)
  have hrw : Rws ρ3 [⟨[.v (.map (some gd))], false⟩, ⟨[.v (.map (some gm))], false⟩, ⟨[LI (p : Int)], false⟩] w1 B0 m (aheadI u l) := hO.rw.map fun e _ ho => ⟨ho.own, fun g _ hw => wrS_allRo (by kernel_rfl) hw⟩
  have hrow := hrw.at_ (hO.hm.none (p : Int))
  have hag := hR.ag_ 3 (by kernel_rfl)
  refine sim_enter Try.func56 ρ3 [.v (.slice (some ⟨ga, oa, none⟩) xs.length cap), .ptr 0 0, .ptr 1 0] [⟨[.v (.map (some gd))], false⟩, ⟨[.v (.map (some gm))], false⟩, ⟨[LI (p : Int)], false⟩] (by kernel_rfl) (by simp only [denL, LV.den, Nm.at_, e0, e1]; rfl) ?_
  have hdp := hO.hd p
  have hxl : 0 < xs.length := by rw [hpr, List.length_cons]; omega
  generalize hv : (look (p : Int) m).getD nilRow = v at hrow
  have hIX : True := trivial
  cases hdn : done.contains p with
  | true =>
    rw [hdn] at hdp
    refine sim_run 6 [] (hR.cast (by kernel_rfl)) (by kernel_rfl) trivial (fun ρ200 w200 hm200 hR200 => ?_)
    have hM := hM.moved (hm200.castL (by kernel_rfl))
    have hMa := hMa.moved (hm200.castL (by kernel_rfl))
    have hrw := hrw.moved (hm200.castL (by kernel_rfl))
    have hag := hag.moved (hm200.castL (by kernel_rfl))
    have hrow := hrow.moved (hm200.castL (by kernel_rfl))
    refine sim_drawF2 [(0, false), (1, false), (2, false), (3, false)] (4, [(5, false), (6, false), (7, false), (8, true), (9, true), (10, false)]) (8, [(4, true), (5, false), (6, false), (7, false), (9, true), (10, false)]) (some 9) (by kernel_rfl) (by kernel_rfl) hR200 (fun hR201 => ?_) (fun hR201 => ?_)
    have hM := hM.drew
    have hMa := hMa.drew
    have hrw := hrw.drew
    have hrow := hrow.drew
    refine sim_ordN 2 [] hR201 (by kernel_rfl) trivial (fun ρ202 w202 hm202 hR202 => ?_)
    have hag := hag.moved (hm202.castL (by kernel_rfl))
    have hM := hM.moved (hm202.castL (by kernel_rfl))
    have hMa := hMa.moved (hm202.castL (by kernel_rfl))
    have hrw := hrw.moved (hm202.castL (by kernel_rfl))
    have hrow := hrow.moved (hm202.castL (by kernel_rfl))
    refine sim_ord_index (.v (.slice (some ⟨ga, oa, none⟩) xs.length cap)) xs.length 1 0 2 0 (by kernel_rfl) (by omega) (by omega) rfl hR202 (by simp only [Nm.at_, hag.at_ 2 (by omega), e2]; rfl) (fun hR203 => ?_)
    refine sim_ordN 1 [] hR203 (by kernel_rfl) trivial (fun ρ204 w204 hm204 hR204 => ?_)
    have hag := hag.moved (hm204.castL (by kernel_rfl))
    have hM := hM.moved (hm204.castL (by kernel_rfl))
    have hMa := hMa.moved (hm204.castL (by kernel_rfl))
    have hrw := hrw.moved (hm204.castL (by kernel_rfl))
    have hrow := hrow.moved (hm204.castL (by kernel_rfl))
    refine sim_ord_look (enc := encZ) (encV := encU) (mx := .v (Value.map (some gd))) (kx := LI ((↑p : Int))) (ok := true) (p : Int) (.tup [.v (encU ()), LB true]) (by kernel_rfl) mis_ty kt_int zero_unit hM rfl rfl hR204 (by rw [hdp]; rfl) (fun hR205 => ?_)
    refine sim_ordN 6 [] hR205 (by kernel_rfl) trivial (fun ρ206 w206 hm206 hR206 => ?_)
    have hag := hag.moved (hm206.castL (by kernel_rfl))
    have hM := hM.moved (hm206.castL (by kernel_rfl))
    have hMa := hMa.moved (hm206.castL (by kernel_rfl))
    have hrw := hrw.moved (hm206.castL (by kernel_rfl))
    have hrow := hrow.moved (hm206.castL (by kernel_rfl))
    refine sim_ord_endR hR206 (by kernel_rfl) (fun hR207 => ?_)
    refine sim_run 9 [] (hR207.cast (by kernel_rfl)) (by kernel_rfl) trivial (fun ρ208 w208 hm208 hR208 => ?_)
    have hag := hag.moved (hm208.castL (by kernel_rfl))
    have hM := hM.moved (hm208.castL (by kernel_rfl))
    have hMa := hMa.moved (hm208.castL (by kernel_rfl))
    have hrw := hrw.moved (hm208.castL (by kernel_rfl))
    have hrow := hrow.moved (hm208.castL (by kernel_rfl))
    refine sim_ret (LB false) hR208 (by kernel_rfl) (by kernel_rfl) ?_
    rotate_left
    have hM := hM.drew
    have hMa := hMa.drew
    have hrw := hrw.drew
    have hrow := hrow.drew
    refine sim_ordN 2 [] hR201 (by kernel_rfl) trivial (fun ρ209 w209 hm209 hR209 => ?_)
    have hag := hag.moved (hm209.castL (by kernel_rfl))
    have hM := hM.moved (hm209.castL (by kernel_rfl))
    have hMa := hMa.moved (hm209.castL (by kernel_rfl))
    have hrw := hrw.moved (hm209.castL (by kernel_rfl))
    have hrow := hrow.moved (hm209.castL (by kernel_rfl))
    refine sim_ord_index (.v (.slice (some ⟨ga, oa, none⟩) xs.length cap)) xs.length 1 0 2 0 (by kernel_rfl) (by omega) (by omega) rfl hR209 (by simp only [Nm.at_, hag.at_ 2 (by omega), e2]; rfl) (fun hR210 => ?_)
    refine sim_ordN 2 [] hR210 (by kernel_rfl) trivial (fun ρ211 w211 hm211 hR211 => ?_)
    have hag := hag.moved (hm211.castL (by kernel_rfl))
    have hM := hM.moved (hm211.castL (by kernel_rfl))
    have hMa := hMa.moved (hm211.castL (by kernel_rfl))
    have hrw := hrw.moved (hm211.castL (by kernel_rfl))
    have hrow := hrow.moved (hm211.castL (by kernel_rfl))
    refine sim_ord_look (enc := encZ) (encV := encU) (mx := .v (Value.map (some gd))) (kx := LI ((↑p : Int))) (ok := true) (p : Int) (.tup [.v (encU ()), LB true]) (by kernel_rfl) mis_ty kt_int zero_unit hM rfl rfl hR211 (by rw [hdp]; rfl) (fun hR212 => ?_)
    refine sim_ordN 5 [] hR212 (by kernel_rfl) trivial (fun ρ213 w213 hm213 hR213 => ?_)
    have hag := hag.moved (hm213.castL (by kernel_rfl))
    have hM := hM.moved (hm213.castL (by kernel_rfl))
    have hMa := hMa.moved (hm213.castL (by kernel_rfl))
    have hrw := hrw.moved (hm213.castL (by kernel_rfl))
    have hrow := hrow.moved (hm213.castL (by kernel_rfl))
    refine sim_ord_endR hR213 (by kernel_rfl) (fun hR214 => ?_)
    refine sim_run 9 [] (hR214.cast (by kernel_rfl)) (by kernel_rfl) trivial (fun ρ215 w215 hm215 hR215 => ?_)
    have hag := hag.moved (hm215.castL (by kernel_rfl))
    have hM := hM.moved (hm215.castL (by kernel_rfl))
    have hMa := hMa.moved (hm215.castL (by kernel_rfl))
    have hrw := hrw.moved (hm215.castL (by kernel_rfl))
    have hrow := hrow.moved (hm215.castL (by kernel_rfl))
    refine sim_ret (LB false) hR215 (by kernel_rfl) (by kernel_rfl) ?_
    rotate_left
    
    all_goals
      rw [rdy_done hdn]
      exact ⟨rfl, (by assumption : Rel _ _ _ _ _).toBelow⟩
  | false =>
    rw [hdn] at hdp
    have hal : (aheadI u l (p : Int)).length ≤ 100000 := by rw [aheadI_len]; exact Nat.le_trans (ahead_len u l _) hl
    generalize hb0 : ((aheadI u l (p : Int)).any fun z => !hasK z D) = b0
    rw [rdy_not hO.hd hdn hb0]
    refine sim_run 6 [] (hR.cast (by kernel_rfl)) (by kernel_rfl) trivial (fun ρ300 w300 hm300 hR300 => ?_)
    have hM := hM.moved (hm300.castL (by kernel_rfl))
    have hMa := hMa.moved (hm300.castL (by kernel_rfl))
    have hrw := hrw.moved (hm300.castL (by kernel_rfl))
    have hag := hag.moved (hm300.castL (by kernel_rfl))
    have hrow := hrow.moved (hm300.castL (by kernel_rfl))
    refine sim_drawF2 [(0, false), (1, false), (2, false), (3, false)] (4, [(5, false), (6, false), (7, false), (8, true), (9, true), (10, false)]) (8, [(4, true), (5, false), (6, false), (7, false), (9, true), (10, false)]) (some 9) (by kernel_rfl) (by kernel_rfl) hR300 (fun hR301 => ?_) (fun hR301 => ?_)
    have hM := hM.drew
    have hMa := hMa.drew
    have hrw := hrw.drew
    have hrow := hrow.drew
    refine sim_ordN 2 [] hR301 (by kernel_rfl) trivial (fun ρ302 w302 hm302 hR302 => ?_)
    have hag := hag.moved (hm302.castL (by kernel_rfl))
    have hM := hM.moved (hm302.castL (by kernel_rfl))
    have hMa := hMa.moved (hm302.castL (by kernel_rfl))
    have hrw := hrw.moved (hm302.castL (by kernel_rfl))
    have hrow := hrow.moved (hm302.castL (by kernel_rfl))
    refine sim_ord_index (.v (.slice (some ⟨ga, oa, none⟩) xs.length cap)) xs.length 1 0 2 0 (by kernel_rfl) (by omega) (by omega) rfl hR302 (by simp only [Nm.at_, hag.at_ 2 (by omega), e2]; rfl) (fun hR303 => ?_)
    refine sim_ordN 1 [] hR303 (by kernel_rfl) trivial (fun ρ304 w304 hm304 hR304 => ?_)
    have hag := hag.moved (hm304.castL (by kernel_rfl))
    have hM := hM.moved (hm304.castL (by kernel_rfl))
    have hMa := hMa.moved (hm304.castL (by kernel_rfl))
    have hrw := hrw.moved (hm304.castL (by kernel_rfl))
    have hrow := hrow.moved (hm304.castL (by kernel_rfl))
    refine sim_ord_look (enc := encZ) (encV := encU) (mx := .v (Value.map (some gd))) (kx := LI ((↑p : Int))) (ok := true) (p : Int) (.tup [.v (encU ()), LB false]) (by kernel_rfl) mis_ty kt_int zero_unit hM rfl rfl hR304 (by rw [hdp]; rfl) (fun hR305 => ?_)
    refine sim_ordN 6 [] hR305 (by kernel_rfl) trivial (fun ρ306 w306 hm306 hR306 => ?_)
    have hag := hag.moved (hm306.castL (by kernel_rfl))
    have hM := hM.moved (hm306.castL (by kernel_rfl))
    have hMa := hMa.moved (hm306.castL (by kernel_rfl))
    have hrw := hrw.moved (hm306.castL (by kernel_rfl))
    have hrow := hrow.moved (hm306.castL (by kernel_rfl))
    refine sim_ord_endR hR306 (by kernel_rfl) (fun hR307 => ?_)
    refine sim_run 7 [] (hR307.cast (by kernel_rfl)) (by kernel_rfl) trivial (fun ρ308 w308 hm308 hR308 => ?_)
    have hag := hag.moved (hm308.castL (by kernel_rfl))
    have hM := hM.moved (hm308.castL (by kernel_rfl))
    have hMa := hMa.moved (hm308.castL (by kernel_rfl))
    have hrw := hrw.moved (hm308.castL (by kernel_rfl))
    have hrow := hrow.moved (hm308.castL (by kernel_rfl))
    refine sim_draw [] (by kernel_rfl) (by kernel_rfl) hR308 (fun hR309 => ?_)
    have hM := hM.drew
    have hMa := hMa.drew
    have hrw := hrw.drew
    have hrow := hrow.drew
    refine sim_ordN 2 [] hR309 (by kernel_rfl) trivial (fun ρ310 w310 hm310 hR310 => ?_)
    have hag := hag.moved (hm310.castL (by kernel_rfl))
    have hM := hM.moved (hm310.castL (by kernel_rfl))
    have hMa := hMa.moved (hm310.castL (by kernel_rfl))
    have hrw := hrw.moved (hm310.castL (by kernel_rfl))
    have hrow := hrow.moved (hm310.castL (by kernel_rfl))
    refine sim_ord_index (.v (.slice (some ⟨ga, oa, none⟩) xs.length cap)) xs.length 1 0 2 0 (by kernel_rfl) (by omega) (by omega) rfl hR310 (by simp only [Nm.at_, hag.at_ 2 (by omega), e2]; rfl) (fun hR311 => ?_)
    refine sim_ordN 2 [] hR311 (by kernel_rfl) trivial (fun ρ312 w312 hm312 hR312 => ?_)
    have hag := hag.moved (hm312.castL (by kernel_rfl))
    have hM := hM.moved (hm312.castL (by kernel_rfl))
    have hMa := hMa.moved (hm312.castL (by kernel_rfl))
    have hrw := hrw.moved (hm312.castL (by kernel_rfl))
    have hrow := hrow.moved (hm312.castL (by kernel_rfl))
    refine sim_ord_look (enc := encZ) (encV := id) (mx := .v (Value.map (some gm))) (kx := LI ((↑p : Int))) (ok := false) (p : Int) (.v v) (by kernel_rfl) mii_ty kt_int zero_row hMa rfl rfl hR312 (by show v = _; exact hv.symm) (fun hR314 => ?_)
    refine sim_ord_call (T := []) (w0 := w1) 52 [.v v, .fnv (Fn.func 57) [] [.ptr 0 0]] (by kernel_rfl) ?_
    have ez0_315 := (hag.at_ 0 (by omega)).trans e0
    simp only [denL, LV.den, Nm.at_, ez0_315, Nat.add_zero]
    refine Calls.mono (containsFI_row _ (inner_enters) _ ((fun z => !hasK z D)) (B0) (v) (aheadI u l (p : Int)) (b0) _ (hrow.own) (hb0) (hal) (inner_pred hO (hR314).rel.toBelow _)) ?_
    rintro e315 w315 ⟨rfl, hb315⟩
    have hR315 := hR314.call hb315 (LB b0)
    have hM := hM.below hb315
    have hMa := hMa.below hb315
    have hrw := hrw.below hb315
    have hrow := hrow.below hb315
    refine BackO.of (LB b0) hR315 rfl ?_
    refine sim_ordN 2 [] hR315 (by kernel_rfl) trivial (fun ρ316 w316 hm316 hR316 => ?_)
    have hag := hag.moved (hm316.castL (by kernel_rfl))
    have hM := hM.moved (hm316.castL (by kernel_rfl))
    have hMa := hMa.moved (hm316.castL (by kernel_rfl))
    have hrw := hrw.moved (hm316.castL (by kernel_rfl))
    have hrow := hrow.moved (hm316.castL (by kernel_rfl))
    refine sim_ord_endR hR316 (by kernel_rfl) (fun hR317 => ?_)
    refine sim_ret (LB !b0) (hR317.cast (by kernel_rfl)) (by kernel_rfl) (by kernel_rfl) ?_
    exact ⟨rfl, hR317.toBelow⟩
    have hM := hM.drew
    have hMa := hMa.drew
    have hrw := hrw.drew
    have hrow := hrow.drew
    refine sim_ordN 2 [] hR301 (by kernel_rfl) trivial (fun ρ318 w318 hm318 hR318 => ?_)
    have hag := hag.moved (hm318.castL (by kernel_rfl))
    have hM := hM.moved (hm318.castL (by kernel_rfl))
    have hMa := hMa.moved (hm318.castL (by kernel_rfl))
    have hrw := hrw.moved (hm318.castL (by kernel_rfl))
    have hrow := hrow.moved (hm318.castL (by kernel_rfl))
    refine sim_ord_index (.v (.slice (some ⟨ga, oa, none⟩) xs.length cap)) xs.length 1 0 2 0 (by kernel_rfl) (by omega) (by omega) rfl hR318 (by simp only [Nm.at_, hag.at_ 2 (by omega), e2]; rfl) (fun hR319 => ?_)
    refine sim_ordN 2 [] hR319 (by kernel_rfl) trivial (fun ρ320 w320 hm320 hR320 => ?_)
    have hag := hag.moved (hm320.castL (by kernel_rfl))
    have hM := hM.moved (hm320.castL (by kernel_rfl))
    have hMa := hMa.moved (hm320.castL (by kernel_rfl))
    have hrw := hrw.moved (hm320.castL (by kernel_rfl))
    have hrow := hrow.moved (hm320.castL (by kernel_rfl))
    refine sim_ord_look (enc := encZ) (encV := encU) (mx := .v (Value.map (some gd))) (kx := LI ((↑p : Int))) (ok := true) (p : Int) (.tup [.v (encU ()), LB false]) (by kernel_rfl) mis_ty kt_int zero_unit hM rfl rfl hR320 (by rw [hdp]; rfl) (fun hR321 => ?_)
    refine sim_ordN 5 [] hR321 (by kernel_rfl) trivial (fun ρ322 w322 hm322 hR322 => ?_)
    have hag := hag.moved (hm322.castL (by kernel_rfl))
    have hM := hM.moved (hm322.castL (by kernel_rfl))
    have hMa := hMa.moved (hm322.castL (by kernel_rfl))
    have hrw := hrw.moved (hm322.castL (by kernel_rfl))
    have hrow := hrow.moved (hm322.castL (by kernel_rfl))
    refine sim_ord_endR hR322 (by kernel_rfl) (fun hR323 => ?_)
    refine sim_run 7 [] (hR323.cast (by kernel_rfl)) (by kernel_rfl) trivial (fun ρ324 w324 hm324 hR324 => ?_)
    have hag := hag.moved (hm324.castL (by kernel_rfl))
    have hM := hM.moved (hm324.castL (by kernel_rfl))
    have hMa := hMa.moved (hm324.castL (by kernel_rfl))
    have hrw := hrw.moved (hm324.castL (by kernel_rfl))
    have hrow := hrow.moved (hm324.castL (by kernel_rfl))
    refine sim_draw [] (by kernel_rfl) (by kernel_rfl) hR324 (fun hR325 => ?_)
    have hM := hM.drew
    have hMa := hMa.drew
    have hrw := hrw.drew
    have hrow := hrow.drew
    refine sim_ordN 2 [] hR325 (by kernel_rfl) trivial (fun ρ326 w326 hm326 hR326 => ?_)
    have hag := hag.moved (hm326.castL (by kernel_rfl))
    have hM := hM.moved (hm326.castL (by kernel_rfl))
    have hMa := hMa.moved (hm326.castL (by kernel_rfl))
    have hrw := hrw.moved (hm326.castL (by kernel_rfl))
    have hrow := hrow.moved (hm326.castL (by kernel_rfl))
    refine sim_ord_index (.v (.slice (some ⟨ga, oa, none⟩) xs.length cap)) xs.length 1 0 2 0 (by kernel_rfl) (by omega) (by omega) rfl hR326 (by simp only [Nm.at_, hag.at_ 2 (by omega), e2]; rfl) (fun hR327 => ?_)
    refine sim_ordN 2 [] hR327 (by kernel_rfl) trivial (fun ρ328 w328 hm328 hR328 => ?_)
    have hag := hag.moved (hm328.castL (by kernel_rfl))
    have hM := hM.moved (hm328.castL (by kernel_rfl))
    have hMa := hMa.moved (hm328.castL (by kernel_rfl))
    have hrw := hrw.moved (hm328.castL (by kernel_rfl))
    have hrow := hrow.moved (hm328.castL (by kernel_rfl))
    refine sim_ord_look (enc := encZ) (encV := id) (mx := .v (Value.map (some gm))) (kx := LI ((↑p : Int))) (ok := false) (p : Int) (.v v) (by kernel_rfl) mii_ty kt_int zero_row hMa rfl rfl hR328 (by show v = _; exact hv.symm) (fun hR330 => ?_)
    refine sim_ord_call (T := []) (w0 := w1) 52 [.v v, .fnv (Fn.func 57) [] [.ptr 0 0]] (by kernel_rfl) ?_
    have ez0_331 := (hag.at_ 0 (by omega)).trans e0
    simp only [denL, LV.den, Nm.at_, ez0_331, Nat.add_zero]
    refine Calls.mono (containsFI_row _ (inner_enters) _ ((fun z => !hasK z D)) (B0) (v) (aheadI u l (p : Int)) (b0) _ (hrow.own) (hb0) (hal) (inner_pred hO (hR330).rel.toBelow _)) ?_
    rintro e331 w331 ⟨rfl, hb331⟩
    have hR331 := hR330.call hb331 (LB b0)
    have hM := hM.below hb331
    have hMa := hMa.below hb331
    have hrw := hrw.below hb331
    have hrow := hrow.below hb331
    refine BackO.of (LB b0) hR331 rfl ?_
    refine sim_ordN 2 [] hR331 (by kernel_rfl) trivial (fun ρ332 w332 hm332 hR332 => ?_)
    have hag := hag.moved (hm332.castL (by kernel_rfl))
    have hM := hM.moved (hm332.castL (by kernel_rfl))
    have hMa := hMa.moved (hm332.castL (by kernel_rfl))
    have hrw := hrw.moved (hm332.castL (by kernel_rfl))
    have hrow := hrow.moved (hm332.castL (by kernel_rfl))
    refine sim_ord_endR hR332 (by kernel_rfl) (fun hR333 => ?_)
    refine sim_ret (LB !b0) (hR333.cast (by kernel_rfl)) (by kernel_rfl) (by kernel_rfl) ?_
    exact ⟨rfl, hR333.toBelow⟩
    
end

section
open Go Go.RowKit
section
variable {P : Program} {Q : Exit → Act → World → Prop} {T : List Nat} {w0 w : World} {ρ : Nm} {c : Cfg}
/-- a number of a row comes into view -/
theorem sim_seeNat {B n : Nat} {A : Option Addr} {xs : List Nat} {p : Nat} (k N : Nat) (hN : c.rs.length = N) (hk : xs[k]? = some p) (hs : Sta (readS A B) (ReadW B 1 A n (nats xs)) ρ c.rs w) (hR : Rel T w0 ρ c.rs w) (hu : (undR N c.rs && undL N c.tmps) = true)
    (next : ∀ g o ρ', A = some ⟨g, o, none⟩ → readS A B g → Moved ρ c.rs w ρ' (c.rs ++ [⟨[LI (p : Int)], false⟩]) w → ρ' N = (g, o + k) → Rel T w0 ρ' (c.rs ++ [⟨[LI (p : Int)], false⟩]) w → At P Q ⟨c.k, c.tmps, c.rs ++ [⟨[LI (p : Int)], false⟩]⟩ ρ' w) : At P Q c ρ w := by
  have hr : Reads w B 1 A n (nats xs) := hs.is
  have hkl := (List.getElem?_eq_some_iff.1 hk).1
  have hn : xs.length = n := by have := hr.1; rw [nats_length] at this; omega
  obtain ⟨g, o, rfl, hg, hc⟩ := hr.spot (by omega) (by omega)
  have hgS : readS (some ⟨g, o, none⟩) B g := ⟨_, rfl, rfl, hg⟩
  simp only [Bool.and_eq_true] at hu
  subst hN
  refine sim_open c.rs.length rfl hR g (o + k) [LI (p : Int)] (by rw [hu.1, hu.2]; rfl) (hs.lt g hgS) (fun j v hj => ?_) (fun m r hm hw he => ?_) (fun ρ' ha hn hR' => next g o ρ' rfl hgS (Moved.ext_ro ha rfl) hn hR')
  · match j, hj with
    | 0, hj =>
      simp only [List.getElem?_cons_zero, Option.some.injEq] at hj
      subst hj
      exact hc k _ (by unfold nats; rw [List.getElem?_map, hk]; rfl)
    | j + 1, hj => simp at hj
  · exact hs.far g hgS ⟨m, r, hm, hw, he⟩
end
/-- values that are rows -/
def OutW (B base : Nat) (vs : List Value) (xss : List (List Nat)) : World → Prop := fun w => vs.length = xss.length ∧ ∀ (i : Nat) (xs : List Nat), xss[i]? = some xs → ∃ (A : Option Addr) (cap : Nat), vs[i]? = some (Value.slice A xs.length cap) ∧ xs.length ≤ cap ∧ cap ≤ maxLen ∧ Reads w B 1 A xs.length (nats xs) ∧ ∀ ad, A = some ad → base ≤ ad.block
theorem OutW.same {B base : Nat} {vs : List Value} {xss : List (List Nat)} : ∀ (w1 w2 : World) (S' : Nat → Prop), OutW B base vs xss w1 → (∀ x, btw base B x → x < w1.heap.size) → Kept S' w1 w2 → (∀ x, btw base B x → ¬ S' x) → OutW B base vs xss w2 := by
  rintro w1 w2 S' ⟨hl, hrow⟩ hlt hk hn
  refine ⟨hl, fun i xs hx => ?_⟩
  obtain ⟨A, cap, h1, h2, h3, h4, h5⟩ := hrow i xs hx
  exact ⟨A, cap, h1, h2, h3, h4.keptFar hk (fun ad e h6 => ⟨hlt _ ⟨h5 ad e, h6⟩, hn _ ⟨h5 ad e, h6⟩⟩), h5⟩
theorem Sta.outNil {B base : Nat} {V : World → Prop} {ρ : Nm} {rs : List Reg} {w : World} (h : Sta (btw base B) V ρ rs w) : Sta (btw base B) (OutW B base [] []) ρ rs w := ⟨⟨rfl, fun i xs h => by simp at h⟩, h.far, h.lt, OutW.same⟩
theorem Sta.outSnoc {B base : Nat} {vs : List Value} {xss : List (List Nat)} {xs : List Nat} {A : Option Addr} {cap : Nat} {ρ : Nm} {rs : List Reg} {w : World} (h : Sta (btw base B) (OutW B base vs xss) ρ rs w) (hr : Sta (readS A B) (ReadW B 1 A xs.length (nats xs)) ρ rs w) (h1 : xs.length ≤ cap) (h2 : cap ≤ maxLen) (hA : ∀ ad, A = some ad → base ≤ ad.block) : Sta (btw base B) (OutW B base (vs ++ [.slice A xs.length cap]) (xss ++ [xs])) ρ rs w := by
  refine ⟨⟨by rw [List.length_append, List.length_append, h.is.1]; rfl, fun i ys hy => ?_⟩, h.far, h.lt, OutW.same⟩
  rcases Nat.lt_or_ge i xss.length with hl | hl
  · rw [List.getElem?_append_left hl] at hy
    obtain ⟨A', c', k1, k2⟩ := h.is.2 i ys hy
    exact ⟨A', c', by rw [List.getElem?_append_left (by rw [h.is.1]; exact hl)]; exact k1, k2⟩
  · rw [List.getElem?_append_right hl] at hy
    have hi : i - xss.length = 0 := by
      rcases Nat.eq_zero_or_pos (i - xss.length) with h0 | h0
      · exact h0
      · rw [List.getElem?_eq_none (by simp; omega)] at hy; cases hy
    rw [hi] at hy
    simp only [List.getElem?_cons_zero, Option.some.injEq] at hy
    subst hy
    exact ⟨A, cap, by rw [List.getElem?_append_right (by rw [h.is.1]; exact hl), h.is.1, hi]; rfl, h1, h2, hr.is, hA⟩
theorem rows_out {w : World} {B base b1 : Nat} {L : Option Addr} {cap : Nat} {vs : List Value} {xss : List (List Nat)} (ho : w.ownsRow b1 31 1 (.slice L xss.length cap) xss.length vs) (h : OutW B base vs xss w) (hB : B ≤ w.heap.size) (hb : base ≤ b1) (b0 : Nat) (h0 : b0 ≤ base) : RowsR w w.heap.size b0 L xss := by
  refine ⟨vs, Reads.of_own ho, fun ad e => ?_, fun i xs hx => ?_⟩
  · subst e
    have := own_ge ho rfl
    omega
  · obtain ⟨A, c, k1, k2, k3, k4, k5⟩ := h.2 i xs hx
    exact ⟨A, c, k1, k2, k3, k4.more hB, fun ad e => by have := k5 ad e; omega⟩
/-- the first ready class -/
theorem cls_head {u : List Nat} (g : Uf.Good u) {h : Nat} (hh : h ∈ Uf.heads u) : (Uf.cls u h).headD 0 = h := by
  have h1 := Uf.mem_heads hh
  have h2 := Uf.hd_of_heads hh
  obtain ⟨r, e⟩ := Uf.cls_first g h1.1 h1.2
  rw [h2] at e
  rw [e]
  rfl
theorem idxF_map {u : List Nat} (g : Uf.Good u) (p : Nat → Bool) : ∀ (hs : List Nat), (∀ h ∈ hs, h ∈ Uf.heads u) → ∀ i : Nat, (hs.find? p = none → idxF (fun c => p (c.headD 0)) (hs.map (Uf.cls u)) i = -1) ∧ ∀ h, hs.find? p = some h → ∃ k, hs[k]? = some h ∧ idxF (fun c => p (c.headD 0)) (hs.map (Uf.cls u)) i = ((i + k : Nat) : Int)
  | [], _, _ => ⟨fun _ => rfl, fun h hh => by cases hh⟩
  | x :: hs, hm, i => by
    have ih := idxF_map g p hs (fun h hh => hm h (by simp [hh])) (i + 1)
    have hx := cls_head g (hm x (by simp))
    have he : idxF (fun c => p (c.headD 0)) ((x :: hs).map (Uf.cls u)) i = if p x = true then (i : Int) else idxF (fun c => p (c.headD 0)) (hs.map (Uf.cls u)) (i + 1) := by
      rw [List.map_cons]
      show (if p ((Uf.cls u x).headD 0) = true then _ else _) = _
      rw [hx]
    rw [he, List.find?_cons]
    cases hp : p x with
    | true =>
      refine ⟨fun h => by simp at h, fun h hh => ⟨0, ?_, by simp⟩⟩
      simp only [Option.some.injEq] at hh
      rw [hh]
      rfl
    | false =>
      refine ⟨fun h => by simpa using ih.1 h, fun h hh => ?_⟩
      obtain ⟨k, k1, k2⟩ := ih.2 h hh
      refine ⟨k + 1, k1, ?_⟩
      simp only [Bool.false_eq_true, if_false]
      rw [k2]
      congr 1
      omega
theorem row_ty : RowTy Try.prog 38 31 1 24 := RowTy.of Try.underlying38 (by kernel_rfl) (by kernel_rfl)
theorem hasK_ins {K V : Type} [DecidableEq K] (k k' : K) (v : V) (n : Nat) (l : List (Ent K V)) : hasK k' (ins k v n l) = (decide (k' = k) || hasK k' l) := by
  unfold hasK
  rw [look_ins]
  by_cases h : k' = k
  · simp [h]
  · simp [h]
theorem Rws.over {K : Type} {T : List Nat} {w0 w1 w : World} {ρ ρ' : Nm} {rs rs' : List Reg} {B : Nat} {l : List (Ent K Value)} {f : K → List Int} (h : Rws ρ rs w B l f) (_ : Rel T w0 ρ' rs' w1) (hro : allRo rs' = true) : Rws ρ' rs' w B l f := h.map fun _ _ ho => ⟨ho.own, fun _ _ hw => wrS_allRo hro hw⟩
theorem MpO.over {K V : Type} {enc : K → Value} {encV : V → Value} {T : List Nat} {w0 w1 w : World} {ρ ρ' : Nm} {rs rs' : List Reg} {g : Nat} {l : List (Ent K V)} {ck : Nat} (h : MpO enc encV ρ rs w (some g) l ck) (_ : Rel T w0 ρ' rs' w1) (hro : allRo rs' = true) : MpO enc encV ρ' rs' w (some g) l ck := mpo_in (h.is g rfl).1 hro
theorem Rws.grownO {K : Type} {ρ : Nm} {rs : List Reg} {w w' : World} {B : Nat} {l : List (Ent K Value)} {f : K → List Int} (h : Rws ρ rs w B l f) {b n s : Nat} {e : TypeId} {v : Value} {xs : List Value} (ho : w.ownsRow b e s v n xs) (he : 3 ≠ e) (hg : w.grownBy w' v.ownBlock) : Rws ρ rs w' B l f :=
  h.map fun _ _ h' => h'.grown hg fun _ hg' e' => own_ne h'.own ho he _ hg' e'
theorem cont_snoc (t h0 : Nat) (done : List Nat) : (decide ((t : Int) = (h0 : Int)) || done.contains t) = (done ++ [h0]).contains t := by
  rw [Bool.eq_iff_iff, Bool.or_eq_true, decide_eq_true_iff, List.contains_iff_mem, List.contains_iff_mem, List.mem_append, List.mem_singleton]
  constructor
  · rintro (h | h)
    · exact .inr (by omega)
    · exact .inl h
  · rintro (h | h)
    · exact .inr h
    · exact .inl (by omega)
theorem orV_of {T : List Nat} {w0 w : World} {ρ : Nm} {rs : List Reg} {u : List Nat} {l : List Lk} {gd gm : Nat} {D : List (Ent Int Unit)} {ck : Nat} {m : List (Ent Int Value)} {cm B0 : Nat} {done : List Nat} (hR : Rel T w0 ρ rs w) {i j : Nat} {bi bj : Bool} (hi : rs[i]? = some ⟨[.v (.map (some gd))], bi⟩) (hj : rs[j]? = some ⟨[.v (.map (some gm))], bj⟩) (hD : MpO encZ encU ρ rs w (some gd) D ck) (hM : MpO encZ id ρ rs w (some gm) m cm) (hrw : Rws ρ rs w B0 m (aheadI u l)) (hH : HdM u l m) (hd : ∀ t : Nat, hasK (t : Int) D = done.contains t) : OrV u l (ρ i).1 (ρ i).2 (ρ j).1 (ρ j).2 gd gm D ck m cm B0 done w := by
  refine ⟨?_, ?_, (hD.is gd rfl).1, (hM.is gm rfl).1, hrw.map fun e _ ho => ⟨ho.own, fun g _ hw => noW0 hw⟩, hH, hd⟩
  · exact hR.cell i _ hi 0 _ rfl
  · exact hR.cell j _ hj 0 _ rfl
attribute [local irreducible] run goO leaveK someK nextK nextT nextOT nextOD loopBody loopRest loopK fillJ tmplOf tmplJ mergeT At AtO drawOk ordOf gateOf callC callO topOp topO idxOf appOf storeOf clearOf sliceOf calleeOf calleeO topQ idxQ newRowOf resL stepOp seek
set_option maxRecDepth 100000 in
set_option maxHeartbeats 4000000 in
theorem order_any (b g c : Nat) (Au : Option Addr) (u : List Nat) (A : Option Addr) (n cp B : Nat) (l : List Lk) (w : World) (h : UfAt w b g u Au c) (hg : Uf.Good u) (hu : u.length ≤ 1000) (hl : Reads w B 3 A n (lkV l)) (hB : B ≤ w.heap.size) (hn : n ≤ 100000) (hin : Uf.InL u.length l) :
    Calls Try.prog 35 #[.pointer (some ⟨b, 0, none⟩), .slice A n cp] w fun e w' => ∃ L cap, e = .returned (.slice L (Uf.orderM u l).length cap) ∧ RowsR w' w'.heap.size w.heap.size L ((Uf.orderM u l).map (Uf.cls u)) ∧ Below w.heap.size w w' := by
  have hll := lkV_num hl
  have hR := Rel.start [] w ρ0
  have hj : Sta (ufS b g) (UfW b g u Au c) ρ0 [] w := Sta.ro_ h (by kernel_rfl) (fun x hx => hx.elim (fun e => e ▸ h.lt.1) (fun e => e ▸ h.lt.2)) UfW.same
  refine sim_enter Try.func35 ρ0 [.v (.pointer (some ⟨b, 0, none⟩)), .v (.slice A n cp)] [] (by kernel_rfl) rfl ?_
  refine sim_run 12 [] (hR.cast (by kernel_rfl)) (by kernel_rfl) trivial (fun ρ100 w100 hm100 hR100 => ?_)
  have hj := hj.moved (hm100.castL (by kernel_rfl))
  refine sim_call 32 [.v (Value.pointer (some (Addr.mk b 0 none))), .v (Value.slice A n cp)] (by kernel_rfl) ?_
  refine Calls.mono (heads_any _ _ _ _ _ (A) (n) (cp) (B) (l) _ hj.is (by assumption) (by assumption) (hl.belowW (hR100).toBelow hB) (Nat.le_trans hB (hR100).keeps.size) (by assumption) (by assumption)) ?_
  rintro e101 w101 ⟨gm, m, cm, rfl, hgm, hM101, hrw, hH, hb101⟩
  have hMa := hM101.over (hR100) (by kernel_rfl)
  have hrw := hrw.over (hR100) (by kernel_rfl)
  have hR101 := (hR100).below hb101
  have hj := hj.below hb101
  refine Back.of (.v (.map (some gm))) hR101 rfl ?_
  refine sim_run 5 [] (hR101.cast (by kernel_rfl)) (by kernel_rfl) trivial (fun ρ102 w102 hm102 hR102 => ?_)
  have hMa := hMa.moved (hm102.castL (by kernel_rfl))
  have hrw := hrw.moved (hm102.castL (by kernel_rfl))
  have hj := hj.moved (hm102.castL (by kernel_rfl))
  refine sim_make encZ encU (t := 93) (by kernel_rfl) hR102 (fun w103 gd egd hb103 hD hR103 => ?_)
  have hgmd := (hMa.is _ rfl).1.size
  have hMa := hMa.below hb103
  have hrw := hrw.below hb103
  have hj := hj.below hb103
  refine sim_run 11 [] (hR103.cast (by kernel_rfl)) (by kernel_rfl) trivial (fun ρ104 w104 hm104 hR104 => ?_)
  have hD := hD.moved (hm104.castL (by kernel_rfl))
  have hMa := hMa.moved (hm104.castL (by kernel_rfl))
  have hrw := hrw.moved (hm104.castL (by kernel_rfl))
  have hj := hj.moved (hm104.castL (by kernel_rfl))
  refine sim_call 58 [.v (Value.pointer (some (Addr.mk b 0 none)))] (by kernel_rfl) ?_
  refine Calls.mono (ufClasses_b hj.is (by assumption) (by assumption)) ?_
  rintro e105 w105 ⟨L, cL, rfl, hr105, hb105⟩
  have hrow := Sta.rows (hR104) hr105
  have hgdl := (hD.is _ rfl).1.size
  have hgml := (hMa.is _ rfl).1.size
  have hBsz := hb105.size
  have hR105 := (hR104).below hb105
  have hD := hD.below hb105
  have hMa := hMa.below hb105
  have hrw := hrw.below hb105
  have hj := hj.below hb105
  refine Back.of (.v (.slice L (Uf.classes u).length cL)) hR105 rfl ?_
  refine sim_run 3 [] (hR105.cast (by kernel_rfl)) (by kernel_rfl) trivial (fun ρ106 w106 hm106 hR106 => ?_)
  have hrow := hrow.moved (hm106.castL (by kernel_rfl))
  have hD := hD.moved (hm106.castL (by kernel_rfl))
  have hMa := hMa.moved (hm106.castL (by kernel_rfl))
  have hrw := hrw.moved (hm106.castL (by kernel_rfl))
  have hj := hj.moved (hm106.castL (by kernel_rfl))
  
  have hub := classes_le u
  have hcl := Uf.classes_length u
  refine sim_loop (ι := List Nat × List (Ent Int Unit) × Nat × Value × List Value) (T := []) (w0 := w) ([], [], 0, nilRow, []) [6, 7, 8, 9] (fun x => [(5, .v x.2.2.2.1)]) (fun _ => [⟨[.v (.map (some gm))], true⟩, ⟨[.v (.map (some gd))], true⟩]) (fun x w1 => Uf.OrdI (Uf.aheadM u l) (Uf.heads u) x.1 ∧ Uf.orderM u l = Uf.ordM (Uf.aheadM u l) (Uf.heads u) ((Uf.heads u).length - x.1.length) x.1 ∧ MpO encZ encU ρ106 [⟨[.v (.map (some gm))], true⟩, ⟨[.v (.map (some gd))], true⟩] w1 (some gd) x.2.1 x.2.2.1 ∧ MpO encZ id ρ106 [⟨[.v (.map (some gm))], true⟩, ⟨[.v (.map (some gd))], true⟩] w1 (some gm) m cm ∧ Rws ρ106 [⟨[.v (.map (some gm))], true⟩, ⟨[.v (.map (some gd))], true⟩] w1 w100.heap.size m (aheadI u l) ∧ (∀ t : Nat, hasK (t : Int) x.2.1 = x.1.contains t) ∧ Sta (btw w104.heap.size w105.heap.size) (RowW w105.heap.size w104.heap.size L (Uf.classes u)) ρ106 [⟨[.v (.map (some gm))], true⟩, ⟨[.v (.map (some gd))], true⟩] w1 ∧ Sta (btw w104.heap.size w105.heap.size) (OutW w105.heap.size w104.heap.size x.2.2.2.2 (x.1.map (Uf.cls u))) ρ106 [⟨[.v (.map (some gm))], true⟩, ⟨[.v (.map (some gd))], true⟩] w1 ∧ Own ρ106 [⟨[.v (.map (some gm))], true⟩, ⟨[.v (.map (some gd))], true⟩] w1 w105.heap.size 31 1 x.2.2.2.1 x.1.length x.2.2.2.2 ∧ w105.heap.size ≤ w1.heap.size) (fun x => (Uf.heads u).length - x.1.length) (by kernel_rfl) (by kernel_rfl) ((by assumption : Rel _ _ _ _ _).cast (by kernel_rfl)) ⟨.nil _ _, rfl, hD.castR (by kernel_rfl), hMa.castR (by kernel_rfl), hrw.castR (by kernel_rfl), fun _ => rfl, hrow.castR (by kernel_rfl), (hrow.castR (by kernel_rfl)).outNil, ⟨⟨rfl, .inl ⟨rfl, rfl⟩⟩, fun g hg => by cases hg⟩, hm106.kept.size⟩ ?_
  have hB0 := hR100.keeps.size
  have hB1 := hR104.keeps.size
  have hgd : w.heap.size ≤ gd := by rw [egd]; exact hR102.keeps.size
  generalize w100.heap.size = B0 at *
  generalize w104.heap.size = B1 at *
  generalize w105.heap.size = B2 at *
  iterate 8 (try clear hD)
  iterate 8 (try clear hMa)
  iterate 8 (try clear hrw)
  iterate 8 (try clear hrow)
  iterate 8 (try clear hj)
  rintro ⟨done, D, ck, v, vs⟩ d w2 hR2 ⟨hI, hO, hD, hMa, hrw, hd, hrow, hout, hown, hB2⟩
  dsimp only at hI hO hD hMa hrw hd hrow hout hown hB2
  have hag := hR2.ag_ 2 (by kernel_rfl)
  have hold : OldR 0 B2 ρ106 [⟨[.v (.map (some gm))], true⟩, ⟨[.v (.map (some gd))], true⟩] w2 := ⟨fun _ h => absurd h (Nat.not_lt_zero _), Nat.zero_le _, hB2⟩
  have hll2 : l.length ≤ 100000 := by omega
  cases hn0 : Uf.nxt (Uf.aheadM u l) (Uf.heads u) done with
  | none =>
    have hidx : idxF (fun c => Uf.rdy (Uf.aheadM u l) done (c.headD 0)) (Uf.classes u) 0 = -1 := (idxF_map hg (Uf.rdy (Uf.aheadM u l) done) (Uf.heads u) (fun _ h => h) 0).1 hn0
    have hfin : Uf.orderM u l = done := by rw [hO]; exact Uf.ordM_end hn0 _
    refine sim_run 5 [] (hR2.cast (by kernel_rfl)) (by kernel_rfl) trivial (fun ρ200 w200 hm200 hR200 => ?_)
    have hD := hD.moved (hm200.castL (by kernel_rfl))
    have hMa := hMa.moved (hm200.castL (by kernel_rfl))
    have hrw := hrw.moved (hm200.castL (by kernel_rfl))
    have hrow := hrow.moved (hm200.castL (by kernel_rfl))
    have hout := hout.moved (hm200.castL (by kernel_rfl))
    have hown := hown.moved (hm200.castL (by kernel_rfl))
    have hag := hag.moved (hm200.castL (by kernel_rfl))
    have hold := hold.moved (hm200.castL (by kernel_rfl))
    refine sim_call 59 [.v (Value.slice L (Uf.classes u).length cL), .fnv (Fn.func 56) [] [.ptr 1 0, .ptr 0 0]] (by kernel_rfl) ?_
    refine Calls.mono (indexFR_any _ (ready_enters) _ ((fun c => Uf.rdy (Uf.aheadM u l) done (c.headD 0))) (L) (cL) (B1) (B2) (Uf.classes u) _ (hrow.is) hold.sz (by omega) (ready_any (orV_of (hR200) (i := 1) (j := 0) (bi := true) (bj := true) (by kernel_rfl) (by kernel_rfl) hD hMa hrw hH hd) hg hll2 B1 B2)) ?_
    rw [hidx]
    rintro e201 w201 ⟨rfl, hb201⟩
    have hR201 := (hR200).below hb201
    have hD := hD.below hb201
    have hMa := hMa.below hb201
    have hrw := hrw.below hb201
    have hrow := hrow.below hb201
    have hout := hout.below hb201
    have hown := hown.below hb201
    have hold := hold.below hb201
    refine Back.of (LI (-1)) hR201 rfl ?_
    refine sim_run 14 [] (hR201.cast (by kernel_rfl)) (by kernel_rfl) trivial (fun ρ202 w202 hm202 hR202 => ?_)
    have hag := hag.moved (hm202.castL (by kernel_rfl))
    have hD := hD.moved (hm202.castL (by kernel_rfl))
    have hMa := hMa.moved (hm202.castL (by kernel_rfl))
    have hrw := hrw.moved (hm202.castL (by kernel_rfl))
    have hrow := hrow.moved (hm202.castL (by kernel_rfl))
    have hout := hout.moved (hm202.castL (by kernel_rfl))
    have hown := hown.moved (hm202.castL (by kernel_rfl))
    have hold := hold.moved (hm202.castL (by kernel_rfl))
    refine sim_ret (.v ((done, D, ck, v, vs).snd.snd.snd.fst)) hR202 (by kernel_rfl) (by kernel_rfl) ?_
    
    obtain ⟨Av, cv, hve⟩ := own_row hown.own
    have ho2 := hown.own
    rw [hve] at ho2
    rw [hfin]
    refine ⟨Av, cv, by rw [← hve]; rfl, rows_out (vs := vs) (by rw [List.length_map]; exact ho2) hout.is hold.sz (by omega) _ (by omega), (by assumption : Rel _ _ _ _ _).toBelow⟩
  | some h0 =>
    obtain ⟨k, hk0, hkx⟩ := (idxF_map hg (Uf.rdy (Uf.aheadM u l) done) (Uf.heads u) (fun _ h => h) 0).2 h0 hn0
    have hidx : idxF (fun c => Uf.rdy (Uf.aheadM u l) done (c.headD 0)) (Uf.classes u) 0 = (k : Int) := by rw [show Uf.classes u = (Uf.heads u).map (Uf.cls u) from rfl, hkx, Nat.zero_add]
    have hkl := (List.getElem?_eq_some_iff.1 hk0).1
    have hck : (Uf.classes u)[k]? = some (Uf.cls u h0) := by rw [show Uf.classes u = (Uf.heads u).map (Uf.cls u) from rfl, List.getElem?_map, hk0]; rfl
    have hhm := List.mem_of_getElem? hk0
    obtain ⟨r0, hcr⟩ : ∃ r, Uf.cls u h0 = h0 :: r := by
      obtain ⟨p, r, hpr, _⟩ := class_get hg hck
      have := cls_head hg hhm
      rw [hpr] at this ⊢
      exact ⟨r, by rw [← this]; rfl⟩
    have hcl0 := class_len hck
    have hl0 : 0 < (Uf.cls u h0).length := by rw [hcr, List.length_cons]; omega
    refine sim_seeRow k 2 (by kernel_rfl) hck hrow hR2 (by kernel_rfl) (fun ga oa Ac cc ρE eA hgb hrd hcc hcm hAc hmE eE hRE => ?_)
    subst eA
    have hD := hD.moved hmE
    have hMa := hMa.moved hmE
    have hrw := hrw.moved hmE
    have hrow := hrow.moved hmE
    have hout := hout.moved hmE
    have hown := hown.moved hmE
    have hrd := hrd.moved hmE
    have hold := hold.moved hmE
    have hag := hag.moved hmE
    have hag3 := hRE.ag_ 3 (by kernel_rfl)
    refine sim_seeNat (p := h0) 0 3 (by kernel_rfl) (by rw [hcr]; rfl) hrd hRE (by kernel_rfl) (fun gc oc ρF eC hgc hmF eF hRF => ?_)
    subst eC
    have hD := hD.moved hmF
    have hMa := hMa.moved hmF
    have hrw := hrw.moved hmF
    have hrow := hrow.moved hmF
    have hout := hout.moved hmF
    have hown := hown.moved hmF
    have hrd := hrd.moved hmF
    have hold := hold.moved hmF
    have hag := hag.moved hmF
    have e2 := (hmF.agree 2 (by show 2 < 3; omega)).trans eE
    have hag4 := hRF.ag_ 4 (by kernel_rfl)
    have hgcB := hAc _ rfl
    have hgne : some gm ≠ some gd := fun e => by
      injection e with e
      omega
    have hgnb : ¬ btw B1 B2 gd := fun h => by have := h.1; omega
    have hgnc : ¬ readS (some (⟨gc, oc, none⟩ : Addr)) B2 gd := fun ⟨ad, e, h1, _⟩ => by have := hAc ad e; omega
    refine sim_run 5 [] (hRF.cast (by kernel_rfl)) (by kernel_rfl) trivial (fun ρ300 w300 hm300 hR300 => ?_)
    have hD := hD.moved (hm300.castL (by kernel_rfl))
    have hMa := hMa.moved (hm300.castL (by kernel_rfl))
    have hrw := hrw.moved (hm300.castL (by kernel_rfl))
    have hrow := hrow.moved (hm300.castL (by kernel_rfl))
    have hout := hout.moved (hm300.castL (by kernel_rfl))
    have hown := hown.moved (hm300.castL (by kernel_rfl))
    have hrd := hrd.moved (hm300.castL (by kernel_rfl))
    have hold := hold.moved (hm300.castL (by kernel_rfl))
    have hag := hag.moved (hm300.castL (by kernel_rfl))
    have hag4 := hag4.moved (hm300.castL (by kernel_rfl))
    refine sim_call 59 [.v (Value.slice (some (Addr.mk ga oa none)) (Uf.classes u).length cL), .fnv (Fn.func 56) [] [.ptr 1 0, .ptr 0 0]] (by kernel_rfl) ?_
    refine Calls.mono (indexFR_any _ (ready_enters) _ ((fun c => Uf.rdy (Uf.aheadM u l) done (c.headD 0))) _ (cL) (B1) (B2) (Uf.classes u) _ (hrow.is) hold.sz (by omega) (ready_any (orV_of (hR300) (i := 1) (j := 0) (bi := true) (bj := true) (by kernel_rfl) (by kernel_rfl) hD hMa hrw hH hd) hg hll2 B1 B2)) ?_
    rw [hidx]
    rintro e301 w301 ⟨rfl, hb301⟩
    have hR301 := (hR300).below hb301
    have hD := hD.below hb301
    have hMa := hMa.below hb301
    have hrw := hrw.below hb301
    have hrow := hrow.below hb301
    have hout := hout.below hb301
    have hown := hown.below hb301
    have hrd := hrd.below hb301
    have hold := hold.below hb301
    refine Back.of (LI (k : Int)) hR301 rfl ?_
    refine sim_run 11 [] (hR301.cast (by kernel_rfl)) (by kernel_rfl) trivial (fun ρ302 w302 hm302 hR302 => ?_)
    have hag := hag.moved (hm302.castL (by kernel_rfl))
    have hag4 := hag4.moved (hm302.castL (by kernel_rfl))
    have hD := hD.moved (hm302.castL (by kernel_rfl))
    have hMa := hMa.moved (hm302.castL (by kernel_rfl))
    have hrw := hrw.moved (hm302.castL (by kernel_rfl))
    have hrow := hrow.moved (hm302.castL (by kernel_rfl))
    have hout := hout.moved (hm302.castL (by kernel_rfl))
    have hown := hown.moved (hm302.castL (by kernel_rfl))
    have hrd := hrd.moved (hm302.castL (by kernel_rfl))
    have hold := hold.moved (hm302.castL (by kernel_rfl))
    refine sim_draw [] (by kernel_rfl) (by kernel_rfl) hR302 (fun hR303 => ?_)
    have hD := hD.drew
    have hMa := hMa.drew
    have hrw := hrw.drew
    have hrow := hrow.drew
    have hout := hout.drew
    have hown := hown.drew
    have hrd := hrd.drew
    have hold := hold.drew
    refine sim_ordN 3 [] hR303 (by kernel_rfl) trivial (fun ρ304 w304 hm304 hR304 => ?_)
    have hag := hag.moved (hm304.castL (by kernel_rfl))
    have hag4 := hag4.moved (hm304.castL (by kernel_rfl))
    have hD := hD.moved (hm304.castL (by kernel_rfl))
    have hMa := hMa.moved (hm304.castL (by kernel_rfl))
    have hrw := hrw.moved (hm304.castL (by kernel_rfl))
    have hrow := hrow.moved (hm304.castL (by kernel_rfl))
    have hout := hout.moved (hm304.castL (by kernel_rfl))
    have hown := hown.moved (hm304.castL (by kernel_rfl))
    have hrd := hrd.moved (hm304.castL (by kernel_rfl))
    have hold := hold.moved (hm304.castL (by kernel_rfl))
    refine sim_ord_index (.v (.slice (some ⟨ga, oa, none⟩) (Uf.classes u).length cL)) (Uf.classes u).length 1 (k : Int) 2 0 (by kernel_rfl) (by omega) (by omega) rfl hR304 (by simp only [Nm.at_, hag4.at_ 2 (by omega), e2, Nat.add_zero, Int.toNat_natCast, Nat.mul_one]) (fun hR305 => ?_)
    refine sim_ordN 1 [] hR305 (by kernel_rfl) trivial (fun ρ306 w306 hm306 hR306 => ?_)
    have hag := hag.moved (hm306.castL (by kernel_rfl))
    have hag4 := hag4.moved (hm306.castL (by kernel_rfl))
    have hD := hD.moved (hm306.castL (by kernel_rfl))
    have hMa := hMa.moved (hm306.castL (by kernel_rfl))
    have hrw := hrw.moved (hm306.castL (by kernel_rfl))
    have hrow := hrow.moved (hm306.castL (by kernel_rfl))
    have hout := hout.moved (hm306.castL (by kernel_rfl))
    have hown := hown.moved (hm306.castL (by kernel_rfl))
    have hrd := hrd.moved (hm306.castL (by kernel_rfl))
    have hold := hold.moved (hm306.castL (by kernel_rfl))
    refine sim_ord_index (.v (.slice (some ⟨gc, oc, none⟩) (Uf.cls u h0).length cc)) (Uf.cls u h0).length 1 0 3 0 (by kernel_rfl) (by omega) (by omega) rfl hR306 (by simp only [Nm.at_, hag4.at_ 3 (by omega), eF]; rfl) (fun hR307 => ?_)
    refine sim_ordN 2 [] hR307 (by kernel_rfl) trivial (fun ρ308 w308 hm308 hR308 => ?_)
    have hag := hag.moved (hm308.castL (by kernel_rfl))
    have hag4 := hag4.moved (hm308.castL (by kernel_rfl))
    have hD := hD.moved (hm308.castL (by kernel_rfl))
    have hMa := hMa.moved (hm308.castL (by kernel_rfl))
    have hrw := hrw.moved (hm308.castL (by kernel_rfl))
    have hrow := hrow.moved (hm308.castL (by kernel_rfl))
    have hout := hout.moved (hm308.castL (by kernel_rfl))
    have hown := hown.moved (hm308.castL (by kernel_rfl))
    have hrd := hrd.moved (hm308.castL (by kernel_rfl))
    have hold := hold.moved (hm308.castL (by kernel_rfl))
    refine sim_ord_upd (enc := encZ) (encV := encU) (mx := .v (Value.map (some gd))) (kx := LI ((↑h0 : Int))) (vx := .agg []) (h0 : Int) () (by kernel_rfl) mis_ty kt_int hD rfl rfl rfl (.inr hgd) hR308 (fun w309 ht309 hD2 hR309 => ?_)
    have hD := hD2
    clear hD2
    have hMa := hMa.turnNe ht309 hgne
    have hrw := hrw.turnM ht309
    have hrow := hrow.turnM ht309 hgnb
    have hout := hout.turnM ht309 hgnb
    have hown := hown.turnM ht309
    have hrd := hrd.turnM ht309 hgnc
    have hold := hold.turnM ht309
    refine sim_ord_endR hR309 (by kernel_rfl) (fun hR310 => ?_)
    refine sim_run 4 [] (hR310.cast (by kernel_rfl)) (by kernel_rfl) trivial (fun ρ311 w311 hm311 hR311 => ?_)
    have hag := hag.moved (hm311.castL (by kernel_rfl))
    have hag4 := hag4.moved (hm311.castL (by kernel_rfl))
    have hD := hD.moved (hm311.castL (by kernel_rfl))
    have hMa := hMa.moved (hm311.castL (by kernel_rfl))
    have hrw := hrw.moved (hm311.castL (by kernel_rfl))
    have hrow := hrow.moved (hm311.castL (by kernel_rfl))
    have hout := hout.moved (hm311.castL (by kernel_rfl))
    have hown := hown.moved (hm311.castL (by kernel_rfl))
    have hrd := hrd.moved (hm311.castL (by kernel_rfl))
    have hold := hold.moved (hm311.castL (by kernel_rfl))
    refine sim_place (.v (.slice (some ⟨ga, oa, none⟩) (Uf.classes u).length cL)) (Uf.classes u).length 1 k 2 0 (by kernel_rfl) (by omega) (by omega) rfl (by simp only [Nm.at_, hag4.at_ 2 (by omega), e2, Nat.add_zero, Int.toNat_natCast, Nat.mul_one]) ?_
    refine sim_run 2 [] (hR311.cast (by kernel_rfl)) (by kernel_rfl) trivial (fun ρ313 w313 hm313 hR313 => ?_)
    have hag := hag.moved (hm313.castL (by kernel_rfl))
    have hag4 := hag4.moved (hm313.castL (by kernel_rfl))
    have hD := hD.moved (hm313.castL (by kernel_rfl))
    have hMa := hMa.moved (hm313.castL (by kernel_rfl))
    have hrw := hrw.moved (hm313.castL (by kernel_rfl))
    have hrow := hrow.moved (hm313.castL (by kernel_rfl))
    have hout := hout.moved (hm313.castL (by kernel_rfl))
    have hown := hown.moved (hm313.castL (by kernel_rfl))
    have hrd := hrd.moved (hm313.castL (by kernel_rfl))
    have hold := hold.moved (hm313.castL (by kernel_rfl))
    
    have hdl : done.length + 1 ≤ (Uf.heads u).length := by
      have := (hI.snoc hn0).le
      rw [List.length_append] at this
      exact this
    refine sim_appendO 38 v (.slc 4 0 1 1) (by kernel_rfl) (by assumption : Rel _ _ _ _ _) row_ty hown 4 1 1 rfl [.v (.slice (some ⟨gc, oc, none⟩) (Uf.cls u h0).length cc)] (by kernel_rfl) rfl (by kernel_rfl) (by unfold maxLen; omega) (by omega) hold.sz (fun g' hg' => .inr (by have := own_ge hown.own hg'; omega)) [2, 3] (by kernel_rfl) (fun k0 hk1 g' hg' => by
      have hgo := own_ge hown.own hg'
      simp only [List.mem_cons, List.not_mem_nil, or_false] at hk1
      rcases hk1 with rfl | rfl
      · rw [hag4.at_ 2 (by omega), e2]
        have := hgb.2
        show ga ≠ g'
        omega
      · rw [hag4.at_ 3 (by omega), eF]
        obtain ⟨_, _, _, h4⟩ := hgc
        show gc ≠ g'
        omega) (fun v' w4 hvo hgr hR4 => ?_)
    have hD := hD.grownO hown.own hgr
    have hMa := hMa.grownO hown.own hgr
    have hrw := hrw.grownO hown.own (by decide) hgr
    have hnb : ∀ x, btw B1 B2 x → v.ownBlock ≠ some x := fun x hx e => by
      have := own_ge hown.own e
      have := hx.2
      omega
    have hrow := hrow.grown hgr hnb
    have hout := (hout.outSnoc hrd hcc hcm hAc).grown hgr hnb
    have hB4 := Nat.le_trans hold.sz hgr.size
    have hold4 : OldR 0 B2 _ _ w4 := ⟨hold.lt, hold.le, hB4⟩
    clear hold hown hrd
    refine sim_run 3 [] (hR4.cast (by kernel_rfl)) (by kernel_rfl) trivial (fun ρ400 w400 hm400 hR400 => ?_)
    have hag := hag.moved (hm400.castL (by kernel_rfl))
    have hag4 := hag4.moved (hm400.castL (by kernel_rfl))
    have hvo := hvo.moved (hm400.castL (by kernel_rfl))
    have hD := hD.moved (hm400.castL (by kernel_rfl))
    have hMa := hMa.moved (hm400.castL (by kernel_rfl))
    have hrw := hrw.moved (hm400.castL (by kernel_rfl))
    have hrow := hrow.moved (hm400.castL (by kernel_rfl))
    have hout := hout.moved (hm400.castL (by kernel_rfl))
    have hold4 := hold4.moved (hm400.castL (by kernel_rfl))
    
    exact sim_again (done ++ [h0], ins (h0 : Int) () ck D, clockAfter (h0 : Int) D ck, v', vs ++ [.slice (some ⟨gc, oc, none⟩) (Uf.cls u h0).length cc]) (by kernel_rfl) (by show (Uf.heads u).length - (done ++ [h0]).length < (Uf.heads u).length - done.length; rw [List.length_append, List.length_singleton]; omega) (by kernel_rfl) (by kernel_rfl) (by kernel_rfl) hag.ag (Rel.cast (by assumption) (by kernel_rfl)) (by kernel_rfl) (by kernel_rfl) ⟨hI.snoc hn0, by dsimp only; rw [hO, List.length_append, List.length_singleton, ← Uf.ordM_step hn0]; congr 1; omega, hD.cut hag rfl (by kernel_rfl), hMa.cut hag rfl (by kernel_rfl), hrw.cut hag rfl (by kernel_rfl), fun t => by dsimp only; rw [hasK_ins, hd]; exact cont_snoc t h0 done, hrow.cut hag rfl (by kernel_rfl), by dsimp only; rw [List.map_append]; exact hout.cut hag rfl (by kernel_rfl), by dsimp only; rw [List.length_append]; exact hvo.cut hag rfl (by kernel_rfl), hold4.sz⟩
end
end Go.Proofs.Ytnfgndapalkbcaa
