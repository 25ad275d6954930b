/-
  A graph of links in memory: where it lies, and what stands there.
-/
import Derived.Test.YtnfgndapalkbcaaLkP
import Derived.Test.YtnfgndapalkbcaaSta
import Derived.Test.YtnfgndapalkbcaaRwsI
import Derived.Test.YtnfgndapalkbcaaTree
import Derived.Test.YtnfgndapalkbcaaDrawG
namespace Go.Proofs.Ytnfgndapalkbcaa
open Go Go.RowKit
/-- where a graph lies -/
structure GrP where
  b : Nat
  pb : Nat
  pg : Nat
  A : Option Addr
  c : Nat
  L : Option Addr
  cl : Nat
def GrP.has (q : GrP) (x : Nat) : Prop := x = q.b ∨ x = q.pb ∨ x = q.pg ∨ ∃ a, q.L = some a ∧ a.block = x
def GrP.ge (q : GrP) (B : Nat) : Prop := ∀ x, q.has x → B ≤ x
structure GrV (q : GrP) (u : List Nat) (ls : List Lk) (w : World) : Prop where
  blk : Blk w q.b 36 #[.pointer (some ⟨q.pb, 0, none⟩), .slice q.L ls.length q.cl]
  uf : UfAt w q.pb q.pg u q.A q.c
  own : w.ownsRow 0 30 3 (.slice q.L ls.length q.cl) ls.length (lkV ls)
theorem UfAt.kept {S : Nat → Prop} {w w' : World} {b g : Nat} {u : List Nat} {A : Option Addr} {c : Nat} (h : UfAt w b g u A c) (hk : Kept S w w') (hb : ¬ S b) (hg : ¬ S g) : UfAt w' b g u A c := by
  refine ⟨h.blk.kept hk hb, own_kept h.own hk (fun x hx hs => ?_), h.at_⟩
  rcases h.at_ with ⟨e, _⟩ | ⟨e, _⟩
  · rw [e] at hx; cases hx
  · rw [e] at hx
    simp only [Value.ownBlock, Option.some.injEq] at hx
    exact hg (hx ▸ hs)
theorem GrV.kept {q : GrP} {u : List Nat} {ls : List Lk} {w w' : World} {S : Nat → Prop} (h : GrV q u ls w) (hk : Kept S w w') (hn : ∀ x, q.has x → ¬ S x) : GrV q u ls w' := by
  refine ⟨h.blk.kept hk (hn _ (.inl rfl)), h.uf.kept hk (hn _ (.inr (.inl rfl))) (hn _ (.inr (.inr (.inl rfl)))), own_kept h.own hk (fun x hx => hn x ?_)⟩
  cases hL : q.L with
  | none => rw [hL] at hx; cases hx
  | some a =>
    rw [hL] at hx
    simp only [Value.ownBlock, Option.some.injEq] at hx
    exact .inr (.inr (.inr ⟨a, hL, hx⟩))
theorem GrV.lt {q : GrP} {u : List Nat} {ls : List Lk} {w : World} (h : GrV q u ls w) : ∀ x, q.has x → x < w.heap.size := by
  rintro x (rfl | rfl | rfl | ⟨a, ha, rfl⟩)
  · exact h.blk.lt
  · exact h.uf.lt.1
  · exact h.uf.lt.2
  · exact own_lt h.own (by rw [ha]; rfl)
theorem GrV.same {q : GrP} {u : List Nat} {ls : List Lk} : ∀ (w1 w2 : World) (S' : Nat → Prop), GrV q u ls w1 → (∀ x, q.has x → x < w1.heap.size) → Kept S' w1 w2 → (∀ x, q.has x → ¬ S' x) → GrV q u ls w2 := fun _ _ _ h _ hk hn => h.kept hk hn
theorem GrV.below {q : GrP} {u : List Nat} {ls : List Lk} {w w' : World} (h : GrV q u ls w) (hb : Below w.heap.size w w') : GrV q u ls w' := h.kept (Kept.of_below (fun _ => False) hb) (fun _ _ h => h)
theorem GrV.belowN {q : GrP} {u : List Nat} {ls : List Lk} {w w' : World} {N : Nat} (h : GrV q u ls w) (hb : Below N w w') (hN : w.heap.size ≤ N) : GrV q u ls w' := h.below ⟨hb.os, hb.tape, hb.output, hb.size, fun k hk => hb.block k (by omega)⟩
abbrev GrS (q : GrP) (u : List Nat) (ls : List Lk) := Sta q.has (GrV q u ls)
/-- classes in memory as something that stands -/
def UfW (b g : Nat) (u : List Nat) (A : Option Addr) (c : Nat) : World → Prop := fun w => UfAt w b g u A c
def ufS (b g : Nat) (x : Nat) : Prop := x = b ∨ x = g
theorem UfW.same {b g : Nat} {u : List Nat} {A : Option Addr} {c : Nat} : ∀ (w1 w2 : World) (S' : Nat → Prop), UfW b g u A c w1 → (∀ x, ufS b g x → x < w1.heap.size) → Kept S' w1 w2 → (∀ x, ufS b g x → ¬ S' x) → UfW b g u A c w2 := fun _ _ _ h _ hk hn => UfAt.kept h hk (hn _ (.inl rfl)) (hn _ (.inr rfl))
theorem Rel.reads {T : List Nat} {w0 w : World} {ρ : Nm} {rs : List Reg} (hR : Rel T w0 ρ rs w) {n size m : Nat} {vs : List Value} {b : Bool} (hn : rs[n]? = some ⟨vs.map .v, b⟩) (hl : vs.length = m * size) : Reads w w.heap.size size (some ⟨(ρ n).1, (ρ n).2 + 0, none⟩) m vs := by
  refine ⟨hl, fun _ => ⟨_, rfl, hR.lt n _ hn, fun j u hu => ?_⟩⟩
  have := hR.cell n _ hn j (.v u) (by simp only [List.getElem?_map, hu, Option.map_some])
  have e : (⟨(ρ n).1, (ρ n).2 + 0, none⟩ : Addr).add j = ρ.at_ n j := by
    show (ρ.at_ n 0).add j = _
    rw [at_add, Nat.zero_add]
  rw [e]
  exact this
def GrP.cells (q : GrP) (n : Nat) : List Value := [.pointer (some ⟨q.pb, 0, none⟩), .slice q.L n q.cl]
/-- the cells of a graph in view, to be read -/
theorem GrV.open_ {q : GrP} {u : List Nat} {ls : List Lk} {w : World} (h : GrV q u ls w) (b : Bool) (T : List Nat) (hT : b = true → q.b ∈ T) : ∃ ρ : Nm, ρ 0 = (q.b, 0) ∧ Rel T w ρ [⟨(q.cells ls.length).map .v, b⟩] w := by
  obtain ⟨ρ, _, e0, hR⟩ := (Rel.start T w ρ0).open_ rfl q.b 0 ((q.cells ls.length).map .v) rfl b h.blk.lt (fun j v hv => by
    rw [Nat.zero_add, h.blk.cell j]
    match j, hv with
    | 0, hv => simp only [GrP.cells, List.map_cons, List.getElem?_cons_zero, Option.some.injEq] at hv; subst hv; rfl
    | 1, hv => simp only [GrP.cells, List.map_cons, List.getElem?_cons_succ, List.getElem?_cons_zero, Option.some.injEq] at hv; subst hv; rfl
    | j + 2, hv => simp [GrP.cells] at hv) (fun hb => ⟨.inl (hT hb), fun i _ => by rw [Nat.zero_add]; exact h.blk.frozen i⟩) (fun n r hn => by simp at hn)
  exact ⟨ρ, e0, hR⟩
theorem noW1 {ρ : Nm} {cs : List LV} {g : Nat} (h : wrS ρ [⟨cs, false⟩] g) : False := by
  obtain ⟨n, r, hn, hw, _⟩ := h
  cases n with
  | zero =>
    simp only [List.getElem?_cons_zero, Option.some.injEq] at hn
    subst hn
    cases hw
  | succ n => simp at hn
theorem GrV.sta {q : GrP} {u : List Nat} {ls : List Lk} {w : World} (h : GrV q u ls w) {ρ : Nm} {rs : List Reg} (hro : allRo rs = true) : Sta q.has (GrV q u ls) ρ rs w := Sta.ro_ h hro h.lt GrV.same
theorem Reads.belowW {w w' : World} {B N size n : Nat} {A : Option Addr} {xs : List Value} (h : Reads w B size A n xs) (hb : Below N w w') (hB : B ≤ N) : Reads w' B size A n xs := h.below ⟨hb.os, hb.tape, hb.output, hb.size, fun k hk => hb.block k (by omega)⟩
/-- what stands of a Uf behind a call that has written it -/
theorem Sta.ufNew {b g : Nat} {u u' : List Nat} {A A' : Option Addr} {c c' : Nat} {ρ : Nm} {rs : List Reg} {w w' : World} (h : Sta (ufS b g) (UfW b g u A c) ρ rs w) (hn : UfAt w' b g u' A' c') : Sta (ufS b g) (UfW b g u' A' c') ρ rs w' :=
  ⟨hn, h.far, fun _ hx => hx.elim (fun e => e ▸ hn.lt.1) (fun e => e ▸ hn.lt.2), UfW.same⟩
theorem Rel.ufNew {T : List Nat} {w0 : World} {b g : Nat} {V : World → Prop} {ρ : Nm} {rs : List Reg} {w w' : World} (hR : Rel T w0 ρ rs w) (h : Sta (ufS b g) V ρ rs w) (hk : Keeps [b, g] w w') (hB : w0.heap.size ≤ b) (hG : w0.heap.size ≤ g) (l : List Nat) (hl : roIdx rs 0 = l) (hidx : ∀ k ∈ l, (ρ k).1 ≠ b ∧ (ρ k).1 ≠ g) : Rel T w0 ρ rs w' := by
  refine hR.kept hk.kept (fun n r hn hne hs => ?_) (fun x hx => ?_)
  · simp only [List.mem_cons, List.not_mem_nil, or_false] at hs
    cases hw : r.wr with
    | true => exact h.far _ hs ⟨n, r, hn, hw, rfl⟩
    | false =>
      have hm := roIdx_mem rs 0 n r hn hw hne
      rw [hl, Nat.zero_add] at hm
      have := hidx n hm
      exact hs.elim this.1 this.2
  · simp only [List.mem_cons, List.not_mem_nil, or_false] at hx
    rcases hx with rfl | rfl
    · exact .inr hB
    · exact .inr hG
theorem Sta.farW {S : Nat → Prop} {V : World → Prop} {ρ : Nm} {rs : List Reg} {w : World} (h : Sta S V ρ rs w) {n : Nat} {r : Reg} (hn : rs[n]? = some r) (hw : r.wr = true) {x : Nat} (hx : S x) : (ρ n).1 ≠ x := fun e => h.far x hx ⟨n, r, hn, hw, e⟩
theorem Sta.farB {b g : Nat} {V : World → Prop} {ρ : Nm} {rs : List Reg} {w : World} (h : Sta (ufS b g) V ρ rs w) {n o : Nat} {r : Reg} (hn : rs[n]? = some r) (hw : r.wr = true) : ∀ (B : Nat) (ad : Addr), some (⟨(ρ n).1, o, none⟩ : Addr) = some ad → ad.block < B → ad.block ≠ b ∧ ad.block ≠ g := by
  intro B ad e _
  injection e with e
  subst e
  exact ⟨h.farW hn hw (.inl rfl), h.farW hn hw (.inr rfl)⟩
/-! ### the contracts of classes once more -/
theorem ufLen_b {b g c : Nat} {A : Option Addr} {u : List Nat} {w : World} (h : UfAt w b g u A c) : Calls Try.prog 38 #[.pointer (some ⟨b, 0, none⟩)] w fun e w' => e = .returned (.int .i64 (u.length : Int)) ∧ Below w.heap.size w w' :=
  (len_any b A c u w h.rd).mono fun _ _ h => ⟨h.1, h.2 ▸ Below.refl _ _⟩
theorem ufHead_b {b g c : Nat} {A : Option Addr} {u : List Nat} {w : World} (i : Int) (h : UfAt w b g u A c) (hg : Uf.Good u) (hu : u.length ≤ 1000) : Calls Try.prog 30 #[.pointer (some ⟨b, 0, none⟩), .int .i64 i] w fun e w' => e = .returned (.int .i64 (headI u i)) ∧ Below w.heap.size w w' :=
  (head_any b A c u i w h.rd hg (by omega)).mono fun _ _ h => ⟨h.1, h.2 ▸ Below.refl _ _⟩
theorem below_drewN0 (w : World) (n : Nat) : Below w.heap.size w (w.drewN n) := ⟨rfl, rfl, rfl, Nat.le_refl _, fun _ _ => rfl⟩
theorem ufSame_b {b g c : Nat} {A : Option Addr} {u : List Nat} {w : World} (L : Option Addr) (n cl B : Nat) (xs : List Int) (h : UfAt w b g u A c) (hg : Uf.Good u) (hu : u.length ≤ 1000) (hr : Reads w B 1 L n (ints xs)) (hn : n ≤ 1000000) : Calls Try.prog 14 #[.pointer (some ⟨b, 0, none⟩), .slice L n cl] w fun e w' => e = .returned (.bool (sameI u xs)) ∧ Below w.heap.size w w' :=
  (same_any b A c u L n cl B xs w h.rd hg (by omega) hr hn).mono fun _ _ ⟨h1, m, h2⟩ => ⟨h1, h2 ▸ below_drewN0 _ _⟩
theorem ufClasses_b {b g c : Nat} {A : Option Addr} {u : List Nat} {w : World} (h : UfAt w b g u A c) (hg : Uf.Good u) (hu : u.length ≤ 1000) : Calls Try.prog 58 #[.pointer (some ⟨b, 0, none⟩)] w fun e w' => ∃ L cap, e = .returned (.slice L (Uf.classes u).length cap) ∧ RowsR w' w'.heap.size w.heap.size L (Uf.classes u) ∧ Below w.heap.size w w' :=
  (classes_in b A c u w h.rd h.lt.1 hg hu).mono fun _ _ h => h
theorem GrV.toUf {q : GrP} {u : List Nat} {ls : List Lk} {w : World} (h : GrV q u ls w) : UfW q.pb q.pg u q.A q.c w := h.uf
theorem Sta.uf {q : GrP} {u : List Nat} {ls : List Lk} {ρ : Nm} {rs : List Reg} {w : World} (h : Sta q.has (GrV q u ls) ρ rs w) : Sta (ufS q.pb q.pg) (UfW q.pb q.pg u q.A q.c) ρ rs w :=
  ⟨h.is.uf, fun x hx => h.far x (hx.elim (fun e => .inr (.inl e)) (fun e => .inr (.inr (.inl e)))), fun x hx => h.lt x (hx.elim (fun e => .inr (.inl e)) (fun e => .inr (.inr (.inl e)))), UfW.same⟩
/-- lists of numbers that lie between two numbers of blocks -/
def RowW (B base : Nat) (L : Option Addr) (xss : List (List Nat)) : World → Prop := fun w => RowsR w B base L xss
def btw (base B : Nat) (x : Nat) : Prop := base ≤ x ∧ x < B
theorem Reads.keptFar {S : Nat → Prop} {w w' : World} {B size n : Nat} {A : Option Addr} {xs : List Value} (h : Reads w B size A n xs) (hk : Kept S w w') (hA : ∀ ad, A = some ad → ad.block < B → ad.block < w.heap.size ∧ ¬ S ad.block) : Reads w' B size A n xs := by
  refine ⟨h.1, fun hn => ?_⟩
  obtain ⟨ad, e, hb, hc⟩ := h.2 hn
  obtain ⟨h1, h2⟩ := hA ad e hb
  refine ⟨ad, e, hb, fun j v hj => ?_⟩
  rw [hk.cell (p := ad.add j) (by rw [block_of_add]; exact h1) (by rw [block_of_add]; exact h2)]
  exact hc j v hj
theorem RowW.same {B base : Nat} {L : Option Addr} {xss : List (List Nat)} : ∀ (w1 w2 : World) (S' : Nat → Prop), RowW B base L xss w1 → (∀ x, btw base B x → x < w1.heap.size) → Kept S' w1 w2 → (∀ x, btw base B x → ¬ S' x) → RowW B base L xss w2 := by
  rintro w1 w2 S' ⟨vs, hr, hb, hrow⟩ hlt hk hn
  refine ⟨vs, hr.keptFar hk (fun ad e h1 => ⟨hlt _ ⟨hb ad e, h1⟩, hn _ ⟨hb ad e, h1⟩⟩), hb, fun i xs hx => ?_⟩
  obtain ⟨A, cap, h1, h2, h3, h4, h5⟩ := hrow i xs hx
  exact ⟨A, cap, h1, h2, h3, h4.keptFar hk (fun ad e h6 => ⟨hlt _ ⟨h5 ad e, h6⟩, hn _ ⟨h5 ad e, h6⟩⟩), h5⟩
theorem Reads.size_ {w : World} {B size n : Nat} {A : Option Addr} {xs : List Value} (h : Reads w B size A n xs) (hs : 0 < size) : Reads w w.heap.size size A n xs := by
  refine ⟨h.1, fun hn => ?_⟩
  obtain ⟨ad, e, _, hc⟩ := h.2 hn
  have hl : 0 < xs.length := by rw [h.1]; exact Nat.mul_pos hn hs
  have := World.block_lt_of_cell? _ _ (hc 0 _ (List.getElem?_eq_getElem hl))
  rw [block_of_add] at this
  exact ⟨ad, e, this, hc⟩
/-- a row that is read -/
def ReadW (B size : Nat) (A : Option Addr) (n : Nat) (xs : List Value) : World → Prop := fun w => Reads w B size A n xs
def readS (A : Option Addr) (B x : Nat) : Prop := ∃ ad, A = some ad ∧ ad.block = x ∧ x < B
theorem ReadW.same {B size n : Nat} {A : Option Addr} {xs : List Value} : ∀ (w1 w2 : World) (S' : Nat → Prop), ReadW B size A n xs w1 → (∀ x, readS A B x → x < w1.heap.size) → Kept S' w1 w2 → (∀ x, readS A B x → ¬ S' x) → ReadW B size A n xs w2 :=
  fun _ _ _ h hlt hk hn => Reads.keptFar h hk (fun ad e hb => ⟨hlt _ ⟨ad, e, rfl, hb⟩, hn _ ⟨ad, e, rfl, hb⟩⟩)
section
variable {P : Program} {Q : Exit → Act → World → Prop} {T : List Nat} {w0 w : World} {ρ : Nm} {c : Cfg}
/-- one of a list of rows comes into view -/
theorem sim_seeRow {B base : Nat} {L : Option Addr} {xss : List (List Nat)} {xs : List Nat} (k N : Nat) (hN : c.rs.length = N) (hk : xss[k]? = some xs) (hs : Sta (btw base B) (RowW B base L xss) ρ c.rs w) (hR : Rel T w0 ρ c.rs w) (hu : (undR N c.rs && undL N c.tmps) = true)
    (next : ∀ g o A cap ρ', L = some ⟨g, o, none⟩ → btw base B g → Sta (readS A B) (ReadW B 1 A xs.length (nats xs)) ρ c.rs w → xs.length ≤ cap → cap ≤ maxLen → (∀ ad, A = some ad → base ≤ ad.block) → Moved ρ c.rs w ρ' (c.rs ++ [⟨[.v (.slice A xs.length cap)], false⟩]) w → ρ' N = (g, o + k) → Rel T w0 ρ' (c.rs ++ [⟨[.v (.slice A xs.length cap)], false⟩]) w → At P Q ⟨c.k, c.tmps, c.rs ++ [⟨[.v (.slice A xs.length cap)], false⟩]⟩ ρ' w) : At P Q c ρ w := by
  obtain ⟨vs, hr, hb, hrow⟩ := hs.is
  obtain ⟨A, cap, hv, hc1, hc2, hrd, hA⟩ := hrow k xs hk
  have hkl := (List.getElem?_eq_some_iff.1 hk).1
  obtain ⟨g, o, rfl, hg, hc⟩ := hr.spot (by omega) (by omega)
  have hgb := hb _ rfl
  have hlt := hs.lt g ⟨hgb, hg⟩
  simp only [Bool.and_eq_true] at hu
  subst hN
  refine sim_open c.rs.length rfl hR g (o + k) [.v (.slice A xs.length cap)] (by rw [hu.1, hu.2]; rfl) hlt (fun j v hj => ?_) (fun m r hm hw he => ?_) (fun ρ' ha hn hR' => next g o A cap ρ' rfl ⟨hgb, hg⟩ ⟨hrd, fun x ⟨ad, e, h1, h2⟩ => hs.far x ⟨h1 ▸ hA ad e, h2⟩, fun x ⟨ad, e, h1, h2⟩ => hs.lt x ⟨h1 ▸ hA ad e, h2⟩, ReadW.same⟩ hc1 hc2 hA (Moved.ext_ro ha rfl) hn hR')
  · match j, hj with
    | 0, hj =>
      simp only [List.getElem?_cons_zero, Option.some.injEq] at hj
      subst hj
      exact hc k _ hv
    | j + 1, hj => simp at hj
  · exact hs.far g ⟨hgb, hg⟩ ⟨m, r, hm, hw, he⟩
end
/-- what a call answers stands behind it -/
theorem Sta.rows {T : List Nat} {w0 : World} {ρ : Nm} {rs : List Reg} {w w' : World} {L : Option Addr} {xss : List (List Nat)} (hR : Rel T w0 ρ rs w) (h : RowsR w' w'.heap.size w.heap.size L xss) : Sta (btw w.heap.size w'.heap.size) (RowW w'.heap.size w.heap.size L xss) ρ rs w' :=
  Sta.new hR h (fun _ hx => hx.1) (fun _ hx => hx.2) RowW.same
end Go.Proofs.Ytnfgndapalkbcaa
