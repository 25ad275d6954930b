/-
  The executor: an element of a row of structs that a caller handed in comes into view. Over any program.
-/
import Derived.Test.YtioehmngkoffaaaSimHN
namespace Go.Proofs.Ytioehmngkoffaaa
open Go Go.RowKit
attribute [local irreducible] run goO goN ordGoN eqlOf eqlOper eqlOfO cellL leaveK someK nextK nextT nextOT nextOD loopBody loopRest loopK fillJ tmplOf tmplJ mergeT At AtO drawOk ordOf gateOf callC callO topOp topO idxOf appOf storeOf clearOf sliceOf calleeOf calleeO topQ idxQ newRowOf resL stepOp seek

theorem flat_get {α : Type} {sz : Nat} : ∀ (xss : List (List α)) (k : Nat) (x : List α), (∀ y ∈ xss, y.length = sz) → xss[k]? = some x → ∀ (j : Nat) (v : α), x[j]? = some v → xss.flatten[k * sz + j]? = some v
  | [], _, _, _, h, _, _, _ => by simp at h
  | y :: ys, 0, x, hl, h, j, v, hv => by
    simp only [List.getElem?_cons_zero, Option.some.injEq] at h
    subst h
    have hj := (List.getElem?_eq_some_iff.1 hv).1
    rw [List.flatten_cons, Nat.zero_mul, Nat.zero_add, List.getElem?_append_left hj]
    exact hv
  | y :: ys, k + 1, x, hl, h, j, v, hv => by
    simp only [List.getElem?_cons_succ] at h
    have := flat_get ys k x (fun z hz => hl z (by simp [hz])) h j v hv
    have h0 := hl y (by simp)
    rw [List.flatten_cons, List.getElem?_append_right (by rw [h0, Nat.succ_mul]; omega), h0, ← this]
    congr 1
    rw [Nat.succ_mul]
    omega
section
variable {P : Program} {Q : Exit → Act → World → Prop} {w : World} {ρ : Nm} {c : Cfg}
/-- a division whose divisor is not known: (quotient?, the numbers) -/
def divOf (c : Cfg) : Option (Bool × IntKind × Int × Int) := match topOp c with
  | some o => match o.op with
    | .binOp .rem _ x y _ => match evalL c.tmps x, evalL c.tmps y with
      | .v (.int k a), .v (.int .i64 b) => match k with
        | .i64 => some (false, k, a, b)
        | _ => none
      | _, _ => none
    | .binOp .quo _ x y _ => match evalL c.tmps x, evalL c.tmps y with
      | .v (.int k a), .v (.int .i64 b) => match k with
        | .i64 => some (true, k, a, b)
        | _ => none
      | _, _ => none
    | _ => none
  | none => none
theorem sim_rem (a b : Int) (h : divOf c = some (false, .i64, a, b)) (hb : b ≠ 0) (z : Int) (hz : a.tmod b = z) (next : At P Q (nextC c (LI z) c.rs) ρ w) : At P Q c ρ w := by
  unfold divOf at h
  split at h
  · rename_i o ho
    split at h
    · rename_i t x y z' hop
      split at h
      · rename_i k a' b' hx hy
        split at h
        · injection h with h
          injection h with _ h
          injection h with _ h
          injection h with h1 h2
          subst h1 h2
          refine sim_op o ho (LI z) c.rs ρ w ?_ rfl next
          unfold execOp
          simp only [hop, act_eval, hx, hy]
          simp [eqGuard, binOp, LV.den, Op.intDiv, hb, hz]
        · cases h
      · cases h
    · split at h
      · split at h <;> cases h
      · cases h
    · cases h
  · cases h
end
section
variable {P : Program} {Q : Exit → Act → World → Prop} {T : List Nat} {w0 w : World} {ρ : Nm} {c : Cfg}
/-- an element of a row of structs is met -/
theorem sim_elem {A : Option Addr} {n B sz : Nat} {xss : List (List Value)} (x : List Value) (cp k N : Nat) (h : idxOf P c = some (.v (.slice A n cp), n, (k : Int), sz)) (hN : c.rs.length = N) (hx : xss[k]? = some x) (hrd : Reads w0 B sz A n xss.flatten) (hl : ∀ y ∈ xss, y.length = sz) (hs : 0 < sz) (hk : k < n) (hB : B ≤ w0.heap.size) (hT : ∀ a, A = some a → a.block ∉ T) (hR : Rel T w0 ρ c.rs w)
    (hu : (undR N c.rs && undL N c.tmps) = true) (next : ∀ ρ', Moved ρ c.rs w ρ' (c.rs ++ [⟨x.map .v, false⟩]) w → (∀ t ∈ T, (ρ' N).1 ≠ t) → (ρ' N).1 < w0.heap.size → Rel T w0 ρ' (c.rs ++ [⟨x.map .v, false⟩]) w → At P Q (nextC c (.ptr N 0) (c.rs ++ [⟨x.map .v, false⟩])) ρ' w) : At P Q c ρ w := by
  obtain ⟨g, o, rfl, hg, hc⟩ := hrd.spot (by omega) hs
  simp only [Bool.and_eq_true] at hu
  have hgT := hT _ rfl
  have hblk : w.heap[g]? = w0.heap[g]? := hR.keeps.block g (by omega) hgT
  subst hN
  refine sim_index (.v (.slice (some ⟨g, o, none⟩) n cp)) n sz k c.rs.length h rfl (by omega) (by omega) rfl hR (x.map .v) (by rw [hu.1, hu.2, denV_und]; rfl) (by have := hR.keeps.size; omega) (fun j v hv => ?_) (fun m r hm hw he => ?_) (fun ρ' ha hn hR' => next ρ' (Moved.ext_ro ha rfl) (fun t ht e => by rw [hn] at e; have e2 : g = t := e; exact hgT (by rw [show (⟨g, o, none⟩ : Addr).block = t from e2]; exact ht)) (by rw [hn]; exact Nat.lt_of_lt_of_le hg hB) hR')
  · rw [List.getElem?_map, Option.map_eq_some_iff] at hv
    obtain ⟨u, hu1, rfl⟩ := hv
    have := hc _ u (flat_get xss k x hl hx j u hu1)
    rw [Int.toNat_natCast, Nat.add_assoc]
    exact (World.cell?_of_block (a := ⟨g, o + (k * sz + j), none⟩) hblk).trans this
  · rcases (hR.wr m r hm hw).1 with h1 | h1
    · exact hgT (he ▸ h1)
    · omega
/-- an element of a row of structs comes into view -/
theorem sim_see {A : Option Addr} {n B sz : Nat} {xss : List (List Value)} (x : List Value) (k N : Nat) (hN : c.rs.length = N) (hx : xss[k]? = some x) (hrd : Reads w0 B sz A n xss.flatten) (hl : ∀ y ∈ xss, y.length = sz) (hs : 0 < sz) (hk : k < n) (hB : B ≤ w0.heap.size) (hT : ∀ a, A = some a → a.block ∉ T) (hR : Rel T w0 ρ c.rs w)
    (hu : (undR N c.rs && undL N c.tmps) = true) (next : ∀ g o ρ', A = some ⟨g, o, none⟩ → g ∉ T → g < w0.heap.size → Moved ρ c.rs w ρ' (c.rs ++ [⟨x.map .v, false⟩]) w → ρ' N = (g, o + k * sz) → Rel T w0 ρ' (c.rs ++ [⟨x.map .v, false⟩]) w → At P Q ⟨c.k, c.tmps, c.rs ++ [⟨x.map .v, false⟩]⟩ ρ' w) : At P Q c ρ w := by
  obtain ⟨g, o, rfl, hg, hc⟩ := hrd.spot (by omega) hs
  simp only [Bool.and_eq_true] at hu
  have hgT := hT _ rfl
  have hblk : w.heap[g]? = w0.heap[g]? := hR.keeps.block g (by omega) hgT
  subst hN
  refine sim_open c.rs.length rfl hR g (o + k * sz) (x.map .v) (by rw [hu.1, hu.2, denV_und]; rfl) (by have := hR.keeps.size; omega) (fun j v hv => ?_) (fun m r hm hw he => ?_) (fun ρ' ha hn hR' => next g o ρ' rfl hgT (by omega) (Moved.ext_ro ha rfl) hn hR')
  · rw [List.getElem?_map, Option.map_eq_some_iff] at hv
    obtain ⟨u, hu1, rfl⟩ := hv
    have := hc _ u (flat_get xss k x hl hx j u hu1)
    rw [Nat.add_assoc]
    exact (World.cell?_of_block (a := ⟨g, o + (k * sz + j), none⟩) hblk).trans this
  · rcases (hR.wr m r hm hw).1 with h1 | h1
    · exact hgT (he ▸ h1)
    · omega
/-- an element of a row of one's own is met -/
theorem sim_elemO {A : Option Addr} {n B sz : Nat} {e : TypeId} {xss : List (List Value)} (x : List Value) (cp k N : Nat) (h : idxOf P c = some (.v (.slice A n cp), n, (k : Int), sz)) (hN : c.rs.length = N) (hx : xss[k]? = some x) (hown : Own ρ c.rs w B e sz (.slice A n cp) n xss.flatten) (hl : ∀ y ∈ xss, y.length = sz) (hs : 0 < sz) (hk : k < n) (hR : Rel T w0 ρ c.rs w)
    (hu : (undR N c.rs && undL N c.tmps) = true) (next : ∀ ρ', Moved ρ c.rs w ρ' (c.rs ++ [⟨x.map .v, false⟩]) w → Rel T w0 ρ' (c.rs ++ [⟨x.map .v, false⟩]) w → At P Q (nextC c (.ptr N 0) (c.rs ++ [⟨x.map .v, false⟩])) ρ' w) : At P Q c ρ w := by
  obtain ⟨g, o, rfl, hg, hc⟩ := (Reads.of_own hown.own).spot (by omega) hs
  simp only [Bool.and_eq_true] at hu
  subst hN
  refine sim_index (.v (.slice (some ⟨g, o, none⟩) n cp)) n sz k c.rs.length h rfl (by omega) (by omega) rfl hR (x.map .v) (by rw [hu.1, hu.2, denV_und]; rfl) hg (fun j v hv => ?_) (fun m r hm hw he => ?_) (fun ρ' ha hn hR' => next ρ' (Moved.ext_ro ha rfl) hR')
  · rw [List.getElem?_map, Option.map_eq_some_iff] at hv
    obtain ⟨u, hu1, rfl⟩ := hv
    have := hc _ u (flat_get xss k x hl hx j u hu1)
    rw [Int.toNat_natCast, Nat.add_assoc]
    exact this
  · exact hown.far g rfl ⟨m, r, hm, hw, he⟩
theorem Own.cut {ρ ρ' : Nm} {rs rs' : List Reg} {w : World} {B N sz n : Nat} {e : TypeId} {v : Value} {xs : List Value} (h : Own ρ' rs' w B e sz v n xs) (hag : Ag N ρ ρ' rs') (hN : rs.length = N) (e0 : rs'.take N = rs) : Own ρ rs w B e sz v n xs := by
  refine ⟨h.own, fun g hg hw => h.far g hg ?_⟩
  obtain ⟨m, r, hn, hr, hk⟩ := hw
  have hlt : m < N := by rw [← hN]; exact (List.getElem?_eq_some_iff.1 hn).1
  refine ⟨m, r, ?_, hr, by rw [hag.at_ m hlt]; exact hk⟩
  rw [← e0, List.getElem?_take, if_pos hlt] at hn
  exact hn
theorem Own.castR {ρ : Nm} {rs rs' : List Reg} {w : World} {B sz n : Nat} {e : TypeId} {v : Value} {xs : List Value} (h : Own ρ rs w B e sz v n xs) (e0 : rs = rs') : Own ρ rs' w B e sz v n xs := e0 ▸ h
theorem shr_lit (x d : Int) (n : Nat) (h : d = n) : x.fdiv d = x / n := by rw [h, Int.fdiv_eq_ediv_of_nonneg _ (by omega)]
/-- ways that meet: what is known there is proved once -/
theorem sim_meet {ι : Type} (k : List It) (tm : ι → List (Option LV)) (rs : List Reg) (E : ι → Nm → World → Prop) (key : ∀ x ρ' w' d, Rel T w0 ρ' rs w' → E x ρ' w' → At P Q ⟨k, fillJ (tm x) d 0, rs⟩ ρ' w')
    (next : (∀ (c' : Cfg) (x : ι) (ρ' : Nm) (w' : World), c'.k = k → mergeT (tm x) c'.tmps = c'.tmps → (tm x).length = c'.tmps.length → Rel T w0 ρ' rs w' → E x ρ' w' → At P Q c' ρ' w') → At P Q c ρ w) : At P Q c ρ w :=
  next fun _ x ρ' w' hk hm hl hR hE => sim_to k (tm x) rs hk hm hl (fun d => key x ρ' w' d hR hE)
/-- what is still to be done at a region's head (in the round that it lies in) -/
def seekR : Code → Nat → List It → Option (List It)
  | .loop b, r, _ => seekR b r []
  | .seq a b, r, k => match seekR a r (.code b :: k) with
    | some l => some l
    | none => seekR b r k
  | .block id c, r, k => seekR c r (.blk id :: k)
  | .cond _ a b, r, k => match seekR a r k with
    | some l => some l
    | none => seekR b r k
  | .region id ops q, r, k => if Nat.beq id r then (if q then some (.code (.region id ops q) :: k) else some (.ops id ops 0 ops.toList :: k)) else none
  | _, _, _ => none
def regK (fn : Func) (r : Nat) : List It := match seekR (bodyOf fn) r [] with
  | some k => k
  | none => []
end
end Go.Proofs.Ytioehmngkoffaaa
