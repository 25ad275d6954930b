/-
  UfPlays: what stands in the round: the classes, the document's classes, the box of lists.
-/
import Derived.Test.YtedfbdeklepekaaGreatUfM
import Derived.Test.YtedfbdeklepekaaGreatBkP
import Derived.Test.YtedfbdeklepekaaGreatUfGa
import Derived.Test.YtedfbdeklepekaaGreatOpU
namespace Go.Proofs.YtedfbdeklepekaaGreat
open Go Go.RowKit
def bkS (b : Nat) (s : KSt) (y : Nat) : Prop := y = b ∨ s.has y
def wS (b : Nat) (s : KSt) (y : Nat) : Prop := y = b ∨ s.vL.ownBlock = some y ∨ s.vW.ownBlock = some y
theorem wS_bk {b : Nat} {s : KSt} {y : Nat} (h : wS b s y) : bkS b s y := h.imp id fun h => h.elim .inl fun h => .inr (.inl h)
theorem BookI.lt {b : Nat} {s : KSt} {w : World} (h : BookI b s w) (y : Nat) (hy : bkS b s y) : y < w.heap.size := by
  rcases hy with rfl | hy
  · exact h.blk.lt
  · exact h.ki.lt y hy
theorem BookI.same {b : Nat} {s : KSt} : ∀ (w1 w2 : World) (S' : Nat → Prop), BookI b s w1 → (∀ x, bkS b s x → x < w1.heap.size) → Kept S' w1 w2 → (∀ x, bkS b s x → ¬ S' x) → BookI b s w2 := fun _ _ _ h _ hk hn => h.kept hk (hn b (.inl rfl)) (fun y hy => hn y (.inr hy))
/-- what stands, each apart from the others -/
structure LvS (n0 : Nat) (qU : UfQ) (qR : RfP) (b : Nat) (s : KSt) (u v : List Nat) (ρ : Nm) (rs : List Reg) (w : World) : Prop where
  uf : Sta qU.has (UfV qU u) ρ rs w
  rf : Sta qR.has (RfV qR v) ρ rs w
  bk : Sta (bkS b s) (BookI b s) ρ rs w
  kg : KG IRw s
  good : Uf.Good u
  goodv : Uf.Good v
  big : u.length ≤ 1000
  bigv : v.length ≤ 1000
  ur : ∀ y, qU.has y → ¬ qR.has y
  ub : ∀ y, qU.has y → ¬ bkS b s y
  rb : ∀ y, qR.has y → ¬ bkS b s y
  ge : ∀ y, qU.has y ∨ qR.has y ∨ bkS b s y → n0 ≤ y
section
variable {n0 : Nat} {qU qU' : UfQ} {qR qR' : RfP} {b : Nat} {s s' : KSt} {u v u' v' : List Nat} {ρ ρ' : Nm} {rs rs' : List Reg} {w w' : World}
theorem LvS.map (h : LvS n0 qU qR b s u v ρ rs w) (h1 : Sta qU.has (UfV qU u) ρ' rs' w') (h2 : Sta qR.has (RfV qR v) ρ' rs' w') (h3 : Sta (bkS b s) (BookI b s) ρ' rs' w') : LvS n0 qU qR b s u v ρ' rs' w' := ⟨h1, h2, h3, h.kg, h.good, h.goodv, h.big, h.bigv, h.ur, h.ub, h.rb, h.ge⟩
theorem LvS.moved (h : LvS n0 qU qR b s u v ρ rs w) (hm : Moved ρ rs w ρ' rs' w') : LvS n0 qU qR b s u v ρ' rs' w' := h.map (h.uf.moved hm) (h.rf.moved hm) (h.bk.moved hm)
theorem LvS.below (h : LvS n0 qU qR b s u v ρ rs w) (hb : Below w.heap.size w w') : LvS n0 qU qR b s u v ρ rs w' := h.map (h.uf.below hb) (h.rf.below hb) (h.bk.below hb)
theorem LvS.drew (h : LvS n0 qU qR b s u v ρ rs w) : LvS n0 qU qR b s u v ρ rs w.drew := h.map h.uf.drew h.rf.drew h.bk.drew
theorem LvS.castR (h : LvS n0 qU qR b s u v ρ rs w) (e : rs = rs') : LvS n0 qU qR b s u v ρ rs' w := e ▸ h
theorem LvS.cut {N : Nat} (h : LvS n0 qU qR b s u v ρ' rs' w) (hag : Ag N ρ ρ' rs') (hN : rs.length = N) (e0 : rs'.take N = rs) : LvS n0 qU qR b s u v ρ rs w := h.map (h.uf.cut hag hN e0) (h.rf.cut hag hN e0) (h.bk.cut hag hN e0)
theorem LvS.far (h : LvS n0 qU qR b s u v ρ rs w) (y : Nat) (hy : qU.has y ∨ qR.has y ∨ bkS b s y) : ¬ wrS ρ rs y := by
  rcases hy with hy | hy | hy
  · exact h.uf.far y hy
  · exact h.rf.far y hy
  · exact h.bk.far y hy
theorem LvS.lt (h : LvS n0 qU qR b s u v ρ rs w) (y : Nat) (hy : qU.has y ∨ qR.has y ∨ bkS b s y) : y < w.heap.size := by
  rcases hy with hy | hy | hy
  · exact h.uf.lt y hy
  · exact h.rf.lt y hy
  · exact h.bk.lt y hy
variable {T : List Nat} {w0 : World}
theorem LvS.setU (h : LvS w0.heap.size qU qR b s u v ρ rs w) (hR : Rel T w0 ρ rs w) (hV : UfV qU' u' w') (hk : Kept qU.has w w') (hq : ∀ y, qU'.has y → qU.has y ∨ w.heap.size ≤ y) (hg : Uf.Good u') (hu : u'.length ≤ 1000) : LvS w0.heap.size qU' qR b s u' v ρ rs w' := by
  have h1 := hR.keeps.size
  refine ⟨⟨hV, fun y hy hw => ?_, UfV.lt hV, UfV.same⟩, h.rf.kept hk (fun y hy hS => h.ur y hS hy), h.bk.kept hk (fun y hy hS => h.ub y hS hy), h.kg, hg, h.goodv, hu, h.bigv, fun y hy hr => ?_, fun y hy hr => ?_, h.rb, fun y hy => ?_⟩
  · rcases hq y hy with h2 | h2
    · exact h.uf.far y h2 hw
    · have := hR.wr_lt hw; omega
  · rcases hq y hy with h2 | h2
    · exact h.ur y h2 hr
    · have := h.rf.lt y hr; omega
  · rcases hq y hy with h2 | h2
    · exact h.ub y h2 hr
    · have := h.bk.lt y hr; omega
  · rcases hy with hy | hy
    · rcases hq y hy with h2 | h2
      · exact h.ge y (.inl h2)
      · omega
    · exact h.ge y (.inr hy)
theorem LvS.setR (h : LvS w0.heap.size qU qR b s u v ρ rs w) (hR : Rel T w0 ρ rs w) (hV : RfV qR' v' w') (hk : Kept (fun y => y = qR.b) w w') (hq : ∀ y, qR'.has y → qR.has y ∨ w.heap.size ≤ y) (hg : Uf.Good v') (hu : v'.length ≤ 1000) : LvS w0.heap.size qU qR' b s u v' ρ rs w' := by
  have h1 := hR.keeps.size
  have hk : Kept qR.has w w' := hk.mono fun y hy => .inl (.inl hy)
  refine ⟨h.uf.kept hk (fun y hy hS => h.ur y hy hS), ⟨hV, fun y hy hw => ?_, hV.lt, RfV.same⟩, h.bk.kept hk (fun y hy hS => h.rb y hS hy), h.kg, h.good, hg, h.big, hu, fun y hy hr => ?_, h.ub, fun y hy hr => ?_, fun y hy => ?_⟩
  · rcases hq y hy with h2 | h2
    · exact h.rf.far y h2 hw
    · have := hR.wr_lt hw; omega
  · rcases hq y hr with h2 | h2
    · exact h.ur y hy h2
    · have := h.uf.lt y hy; omega
  · rcases hq y hy with h2 | h2
    · exact h.rb y h2 hr
    · have := h.bk.lt y hr; omega
  · rcases hy with hy | hy | hy
    · exact h.ge y (.inl hy)
    · rcases hq y hy with h2 | h2
      · exact h.ge y (.inr (.inl h2))
      · omega
    · exact h.ge y (.inr (.inr hy))
theorem LvS.setB (h : LvS w0.heap.size qU qR b s u v ρ rs w) (hR : Rel T w0 ρ rs w) {x : Value} (hV : BookI b s' w') (hkg : KG IRw s') (hk : Kept (wS b s) w w') (hq : ∀ y, s'.has y → s.has y ∨ x.ownBlock = some y ∨ w.heap.size ≤ y) (hx : ∀ y, x.ownBlock = some y → ¬ qU.has y ∧ ¬ qR.has y ∧ w0.heap.size ≤ y ∧ ¬ wrS ρ rs y) : LvS w0.heap.size qU qR b s' u v ρ rs w' := by
  have h1 := hR.keeps.size
  have hq2 : ∀ y, bkS b s' y → bkS b s y ∨ x.ownBlock = some y ∨ w.heap.size ≤ y := fun y hy => hy.elim (fun e => .inl (.inl e)) (fun e => (hq y e).imp .inr id)
  have hk2 : Kept (bkS b s) w w' := hk.mono fun y hy => .inl (wS_bk hy)
  refine ⟨h.uf.kept hk2 (fun y hy hS => h.ub y hy hS), h.rf.kept hk2 (fun y hy hS => h.rb y hy hS), ⟨hV, fun y hy hw => ?_, hV.lt, BookI.same⟩, hkg, h.good, h.goodv, h.big, h.bigv, h.ur, fun y hy hr => ?_, fun y hy hr => ?_, fun y hy => ?_⟩
  · rcases hq2 y hy with h2 | h2 | h2
    · exact h.bk.far y h2 hw
    · exact (hx y h2).2.2.2 hw
    · have := hR.wr_lt hw; omega
  · rcases hq2 y hr with h2 | h2 | h2
    · exact h.ub y hy h2
    · exact (hx y h2).1 hy
    · have := h.uf.lt y hy; omega
  · rcases hq2 y hr with h2 | h2 | h2
    · exact h.rb y hy h2
    · exact (hx y h2).2.1 hy
    · have := h.rf.lt y hy; omega
  · rcases hy with hy | hy | hy
    · exact h.ge y (.inl hy)
    · exact h.ge y (.inr (.inl hy))
    · rcases hq2 y hy with h2 | h2 | h2
      · exact h.ge y (.inr (.inr h2))
      · exact (hx y h2).2.2.1
      · omega
end
theorem Rel.keptW {T : List Nat} {w0 w w' : World} {ρ : Nm} {rs : List Reg} {S : Nat → Prop} (hR : Rel T w0 ρ rs w) (hk : Kept S w w') (l : List Nat) (hro : roIdx rs 0 = l) (hidx : ∀ k ∈ l, ¬ S (ρ k).1) (hfar : ∀ y, S y → ¬ wrS ρ rs y) (hge : ∀ y, S y → w0.heap.size ≤ y) : Rel T w0 ρ rs w' :=
  hR.kept hk (fun k r hn hne hS => by
    cases hw : r.wr with
    | true => exact hfar _ hS ⟨k, r, hn, hw, rfl⟩
    | false =>
      have := roIdx_mem rs 0 k r hn hw hne
      rw [hro, Nat.zero_add] at this
      exact hidx k this hS) (fun y hy => .inr (hge y hy))
/-- one more row is kept -/
theorem addI_book {x : Nat → Value} {b : Nat} {s : KSt} {v : Value} {n : Nat} {xs : List Value} {w w' : World} {e : Ending} (hx : ∀ i, i ≠ 2 → i ≠ 3 → x i = nilS) (h : AddI x b s v n xs w e w') : e = .returned (.tuple #[]) ∧ ∃ s', BookI b s' w' ∧ KG IRw s' ∧ (s'.rows = s.rows ∨ s'.rows = s.rows ++ [⟨v, n, xs⟩]) ∧ Kept (wS b s) w w' ∧ (∀ y, s'.has y → s.has y ∨ v.ownBlock = some y ∨ w.heap.size ≤ y) := by
  obtain ⟨rfl, x', s', h1, h2, h3, h4, h5, h6, h7, h8, h9⟩ := h
  refine ⟨rfl, s', ⟨?_, h5⟩, h6, h7, h8, h9⟩
  have e1 : x' = bxI s' := by
    funext i
    unfold bxI setI
    by_cases i2 : i = 2
    · subst i2; rw [if_pos rfl]; exact h2
    · rw [if_neg i2]
      by_cases i3 : i = 3
      · subst i3; rw [if_pos rfl]; exact h3
      · rw [if_neg i3, h4 i i2 i3, hx i i2 i3]
  rw [← e1]
  exact h1
theorem bxI_ne (s : KSt) (i : Nat) (h2 : i ≠ 2) (h3 : i ≠ 3) : bxI s i = nilS := setI_ne h2 h3
theorem intsB_any (b : Nat) (s : KSt) (w : World) (h : BookI b s w) (hg : KG IRw s) (A : Option Addr) (n cp : Nat) (l : List Int) (hA : w.ownsRow 0 3 1 (.slice A n cp) n (ints l)) (hln : n = l.length) (hn : n ≤ 100000) (hap : ∀ r ∈ s.rows, ∀ g, r.v.ownBlock = some g → (Value.slice A n cp).ownBlock ≠ some g) :
    Calls Tryz.prog 17 #[.pointer (some ⟨b, 0, none⟩), .slice A n cp] w fun e w' => e = .returned (.tuple #[]) ∧ ∃ s', BookI b s' w' ∧ KG IRw s' ∧ (s'.rows = s.rows ∨ s'.rows = s.rows ++ [⟨.slice A n cp, n, ints l⟩]) ∧ Kept (wS b s) w w' ∧ (∀ y, s'.has y → s.has y ∨ (Value.slice A n cp).ownBlock = some y ∨ w.heap.size ≤ y) :=
  (ints_any (bxI s) b s w h.blk rfl rfl h.ki hg A n cp l hA hln hn hap).mono fun _ _ h => addI_book (bxI_ne s) h
/-- rows that a call told -/
structure RL where
  v : Value
  rows : List BRow
def RL.has (q : RL) (y : Nat) : Prop := q.v.ownBlock = some y ∨ ∃ r ∈ q.rows, r.v.ownBlock = some y
structure RLV (q : RL) (w : World) : Prop where
  list : w.ownsRow 0 31 1 q.v q.rows.length (q.rows.map BRow.v)
  rows : ∀ r ∈ q.rows, w.ownsRow 0 3 1 r.v r.n r.xs
theorem RLV.same {q : RL} : ∀ (w1 w2 : World) (S' : Nat → Prop), RLV q w1 → (∀ x, q.has x → x < w1.heap.size) → Kept S' w1 w2 → (∀ x, q.has x → ¬ S' x) → RLV q w2 := fun _ _ _ h _ hk hn => ⟨own_kept h.list hk fun g hg => hn g (.inl hg), fun r hr => own_kept (h.rows r hr) hk fun g hg => hn g (.inr ⟨r, hr, hg⟩)⟩
theorem RLV.lt {q : RL} {w : World} (h : RLV q w) (y : Nat) (hy : q.has y) : y < w.heap.size := by
  rcases hy with h1 | ⟨r, h1, h2⟩
  · exact own_lt h.list h1
  · exact own_lt (h.rows r h1) h2
/-- the rows that were told, behind the call -/
theorem clsR_sta {T : List Nat} {w0 w w' : World} {ρ : Nm} {rs : List Reg} {xss : List (List Nat)} {e : Ending} (hR : Rel T w0 ρ rs w) (h : ClsR w xss e w') : ∃ (A : Option Addr) (cp : Nat) (rows : List BRow), e = .returned (.slice A xss.length cp) ∧ rows.length = xss.length ∧ rows.map (fun r => (r.n, r.xs)) = xss.map (fun l => (l.length, nats l)) ∧ Sta (RL.mk (.slice A xss.length cp) rows).has (RLV ⟨.slice A xss.length cp, rows⟩) ρ rs w' ∧ (rows.Pairwise fun a b => ∀ g, a.v.ownBlock = some g → b.v.ownBlock ≠ some g) ∧ (∀ y, (RL.mk (.slice A xss.length cp) rows).has y → w.heap.size ≤ y) ∧ Below w.heap.size w w' := by
  obtain ⟨A, cp, rows, rfl, h1, h2, h3, h4, h5⟩ := h
  have hl : rows.length = xss.length := by have := congrArg List.length h1; simpa using this
  have hV : RLV ⟨.slice A xss.length cp, rows⟩ w' := ⟨by rw [hl]; exact own_base0 h2 (Nat.zero_le _), fun r hr => own_base0 (h3 r hr) (Nat.zero_le _)⟩
  have hge : ∀ y, (RL.mk (.slice A xss.length cp) rows).has y → w.heap.size ≤ y := fun y hy => by
    rcases hy with h6 | ⟨r, h6, h7⟩
    · exact own_ge h2 h6
    · exact own_ge (h3 r h6) h7
  exact ⟨A, cp, rows, rfl, hl, h1, Sta.new hR hV hge hV.lt RLV.same, h4, hge, h5⟩
/-- rows alike -/
theorem shape_at {rows : List BRow} {xss : List (List Nat)} (h : rows.map (fun r => (r.n, r.xs)) = xss.map (fun l => (l.length, nats l))) {j : Nat} {l : List Nat} (hl : xss[j]? = some l) : ∃ v, rows[j]? = some ⟨v, l.length, nats l⟩ := by
  have h1 := congrArg (·[j]?) h
  simp only [List.getElem?_map, hl, Option.map_some] at h1
  cases hq : rows[j]? with
  | none => rw [hq] at h1; cases h1
  | some q =>
    rw [hq] at h1
    simp only [Option.map_some, Option.some.injEq, Prod.mk.injEq] at h1
    obtain ⟨v, n, xs⟩ := q
    obtain ⟨rfl, rfl⟩ := h1
    exact ⟨v, rfl⟩
attribute [local irreducible] run goO leaveK someK nextK nextT nextOT nextOD loopBody loopRest loopK fillJ tmplOf tmplJ mergeT At AtO drawOk ordOf gateOf callC callO topOp topO idxOf appOf storeOf clearOf sliceOf calleeOf calleeO topQ idxQ newRowOf resL stepOp seek
set_option maxRecDepth 100000 in
set_option maxHeartbeats 4000000 in
theorem newQ_out (n : Int) (w : World) (hn : n < 0 ∨ 1000 < n) :
    Calls Tryz.prog 7 #[.int .i64 n] w fun e w' => e = .returned (.tuple #[.pointer none, .int .i64 1]) ∧ Below w.heap.size w w' := by
  refine sim_enter Tryz.func7 ρ0 [LI n] [] (by kernel_rfl) rfl ?_
  have hR := Rel.start [] w ρ0
  refine sim_run 8 [] (hR.cast (by kernel_rfl)) (by kernel_rfl) trivial (fun ρ100 w100 hm100 hR100 => ?_)
  
  refine sim_box (e := 33) (x := .agg [.v (.slice none 0 0)]) 0 (by kernel_rfl) (by kernel_rfl) (by assumption : Rel _ _ _ _ _) (by kernel_rfl) (fun ρ2 w2 hm2 e2 hR2 hb2 => ?_)
  generalize w100.heap.size = g0 at *
  have hRz : Rel [] w ρ2 [⟨[], false⟩] w2 := (hR2.forget fun _ => true).cast (by kernel_rfl)
  refine sim_rs [⟨[], false⟩] ?_
  have hV : Sta (UfQ.mk g0 g0 none 0).has (UfV (UfQ.mk g0 g0 none 0) []) ρ2 [⟨[], false⟩] w2 := by
    have h1 : UfV (UfQ.mk g0 g0 none 0) [] w2 := ⟨hb2, World.ownsRow_nil _ _ _ _, .inl ⟨rfl, rfl⟩⟩
    exact ⟨h1, fun _ _ hw => wrS_allRo (rs := [⟨[], false⟩]) rfl hw, UfV.lt h1, UfV.same⟩
  have hag := hRz.ag_ 1 (by kernel_rfl)
  have hn2 : n < (([] : List Nat).length : Int) ∨ 1000 < n := hn
  clear hR2 hm2 hb2
  refine sim_run 7 [] (hRz.cast (by kernel_rfl)) (by kernel_rfl) trivial (fun ρ200 w200 hm200 hR200 => ?_)
  have hV := hV.moved (hm200.castL (by kernel_rfl))
  have hag := hag.moved (hm200.castL (by kernel_rfl))
  refine sim_call 13 [.ptr 0 0, LI n] (by kernel_rfl) ?_
  have ez0_201 := (hag.at_ 0 (by omega)).trans e2
  simp only [denL, LV.den, Nm.at_, ez0_201, Nat.add_zero]
  refine Calls.mono (growQ_out ((UfQ.mk g0 g0 none 0)) ([]) (n) _ hV.is (by assumption)) ?_
  rintro e201 w201 ⟨rfl, hb201⟩
  have hR201 := hR200.below hb201
  have hV := hV.below hb201
  refine Back.of (LI 1) hR201 rfl ?_
  refine sim_run 14 [] (hR201.cast (by kernel_rfl)) (by kernel_rfl) trivial (fun ρ202 w202 hm202 hR202 => ?_)
  have hag := hag.moved (hm202.castL (by kernel_rfl))
  have hV := hV.moved (hm202.castL (by kernel_rfl))
  refine sim_ret (.tup [.v (Value.pointer none), LI 1]) hR202 (by kernel_rfl) (by kernel_rfl) ?_
  exact ⟨rfl, hR202.toBelow⟩
  
end Go.Proofs.YtedfbdeklepekaaGreat
