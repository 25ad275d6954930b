/-
  Lines: where they lie; a loan; rows of loans; credit.own.
  credit.Lines.Loans: what is done with one loan.
  credit.Lines.Loans: the loans of some parties, or of all, in the order of their purses.
  credit.Lines.Used: how much credit a party has.
-/
import Derived.Test.YtioehmngkoffaaaCrIL
import Derived.Test.YtioehmngkoffaaaCrO
import Derived.Test.YtioehmngkoffaaaSlPl
import Derived.Test.YtioehmngkoffaaaClone
import Derived.Test.YtioehmngkoffaaaBkR
import Derived.Test.YtioehmngkoffaaaContS
import Derived.Test.YtioehmngkoffaaaTree
namespace Go.Proofs.Ytioehmngkoffaaa
section
open Go Go.RowKit
/-- where lines lie, and what is in them; f: what is pledged for a loan -/
structure LnP where
  b : Nat
  m : Option Nat
  l : List (Ent Key LoC)
  ck : Nat
  f : Key → List Pl
def LnP.has (q : LnP) (x : Nat) : Prop := x = q.b ∨ q.m = some x ∨ ∃ e ∈ q.l, e.val.pv.ownBlock = some x
structure LnV (q : LnP) (w : World) : Prop where
  blk : Blk w q.b 52 #[.map q.m]
  mp : MpO encK encLo ρ0 [] w q.m q.l q.ck
  row : ∀ e ∈ q.l, w.ownsRow 0 49 2 e.val.pv (q.f e.key).length (plV (q.f e.key))
theorem LnV.lt {q : LnP} {w : World} (h : LnV q w) : ∀ x, q.has x → x < w.heap.size := by
  rintro x (rfl | hx | ⟨e, he, hx⟩)
  · exact h.blk.lt
  · exact (h.mp.is x hx).1.size
  · exact (World.ownsRow.lt (h.row e he) x hx).2
theorem LnV.kept {q : LnP} {w w' : World} {S : Nat → Prop} (h : LnV q w) (hk : Kept S w w') (hn : ∀ x, q.has x → ¬ S x) : LnV q w' :=
  ⟨h.blk.kept hk (hn _ (.inl rfl)), h.mp.keptS hk (fun g hg => hn g (.inr (.inl hg))), fun e he => own_kept (h.row e he) hk (fun x hx => hn x (.inr (.inr ⟨e, he, hx⟩)))⟩
theorem LnV.same {q : LnP} (w1 w2 : World) (S' : Nat → Prop) (h : LnV q w1) (_ : ∀ x, q.has x → x < w1.heap.size) (hk : Kept S' w1 w2) (hn : ∀ x, q.has x → ¬ S' x) : LnV q w2 := h.kept hk hn
theorem LnV.fine {q : LnP} {w : World} (h : LnV q w) : Fine q.l q.ck := h.mp.fine
/-- over what is in view -/
theorem LnV.over {q : LnP} {w : World} {ρ : Nm} {rs : List Reg} (h : Sta q.has (LnV q) ρ rs w) : MpO encK encLo ρ rs w q.m q.l q.ck := ⟨fun g hg => ⟨(h.is.mp.is g hg).1, h.far g (.inr (.inl hg))⟩, h.is.mp.nil⟩
theorem LnV.rowAt {q : LnP} {w : World} {ρ : Nm} {rs : List Reg} (h : Sta q.has (LnV q) ρ rs w) {e : Ent Key LoC} (he : e ∈ q.l) : Own ρ rs w 0 49 2 e.val.pv (q.f e.key).length (plV (q.f e.key)) := ⟨h.is.row e he, fun g hg => h.far g (.inr (.inr ⟨e, he, hg⟩))⟩
theorem LnV.open_ {q : LnP} {w : World} (h : LnV q w) (b : Bool) (T : List Nat) (hT : b = true → q.b ∈ T) : ∃ ρ : Nm, ρ 0 = (q.b, 0) ∧ Rel T w ρ [⟨[.v (.map q.m)], b⟩] w := by
  obtain ⟨ρ, _, e0, hR⟩ := (Rel.start T w ρ0).open_ rfl q.b 0 [.v (.map q.m)] rfl b h.blk.lt (fun j v hv => by
    match j, hv with
    | 0, hv => simp only [List.getElem?_cons_zero, Option.some.injEq] at hv; subst hv; exact h.blk.cell 0
    | j + 1, hv => simp at hv) (fun hb => ⟨.inl (hT hb), fun i _ => by rw [Nat.zero_add]; exact h.blk.frozen i⟩) (fun n r hn => by simp at hn)
  exact ⟨ρ, e0, hR⟩
theorem LnV.sta {q : LnP} {w : World} (h : LnV q w) {ρ : Nm} {rs : List Reg} (hro : allRo rs = true) : Sta q.has (LnV q) ρ rs w := Sta.ro_ h hro h.lt LnV.same
/-- what is known of what is in them: how many loans, how many pledges for each; the numbers -/
structure LnOk (n k : Nat) (q : LnP) : Prop where
  len : q.l.length ≤ n
  pls : ∀ e ∈ q.l, (q.f e.key).length ≤ k
  key : ∀ e ∈ q.l, e.val.acc = e.key.1 ∧ e.val.ccy = e.key.2
  amt : ∀ e ∈ q.l, 0 ≤ e.val.amt ∧ e.val.amt ≤ 1152921504606846976
  qty : ∀ e ∈ q.l, ∀ p ∈ q.f e.key, IsI64 p.qty ∧ p.asset.size ≤ 281474976710656
/-- a loan, told -/
structure Lo where
  party : ByteArray
  acc : ByteArray
  ccy : ByteArray
  amt : Int
  pl : List Pl
def LoC.of (x : LoC) (ps : List Pl) : Lo := ⟨x.party, x.acc, x.ccy, x.amt, ps⟩
/-- the loan of a purse -/
def LnP.at_ (q : LnP) (k : Key) : LoC := (look k q.l).getD noLo
def LnP.lo (q : LnP) (k : Key) : Lo := (q.at_ k).of (q.f k)
theorem look_of_key {K V : Type} [DecidableEq K] {l : List (Ent K V)} {k : K} (h : k ∈ l.map (·.key)) : ∃ e ∈ l, e.key = k ∧ look k l = some e.val := by
  have h1 := hasK_iff.2 h
  unfold hasK at h1
  obtain ⟨v, hv⟩ := Option.isSome_iff_exists.1 h1
  obtain ⟨e, he, hk, hev⟩ := look_mem hv
  exact ⟨e, he, hk, by rw [hv, hev]⟩
/-- a row of loans that was answered -/
structure LsP where
  A : Option Addr
  cp : Nat
  vs : List (LoC × List Pl)
def LsP.val (s : LsP) : Value := .slice s.A s.vs.length s.cp
def loV (vs : List (LoC × List Pl)) : List Value := (vs.map fun v => v.1.cells).flatten
theorem loV_append (a b : List (LoC × List Pl)) : loV (a ++ b) = loV a ++ loV b := by unfold loV; rw [List.map_append, List.flatten_append]
theorem loV_one (x : LoC × List Pl) : loV [x] = x.1.cells := by simp [loV]
theorem lo_in (vs : List (LoC × List Pl)) : ∀ x ∈ vs.map (fun v => v.1.cells), x.length = 5 := fun x hx => by
  obtain ⟨c, _, rfl⟩ := List.mem_map.1 hx
  rfl
def told (vs : List (LoC × List Pl)) : List Lo := vs.map fun v => v.1.of v.2
/-- the row and the rows of its loans' pledges -/
structure LsO (ρ : Nm) (rs : List Reg) (w : World) (B : Nat) (v : Value) (vs : List (LoC × List Pl)) : Prop where
  row : Own ρ rs w B 40 5 v vs.length (loV vs)
  pls : ∀ x ∈ vs, Own ρ rs w B 49 2 x.1.pv x.2.length (plV x.2)
section
variable {ρ ρ' : Nm} {rs rs' : List Reg} {w w' : World} {B : Nat} {v : Value} {vs : List (LoC × List Pl)}
theorem LsO.map (h : LsO ρ rs w B v vs) (hf : ∀ (e : TypeId) (z : Nat) (u : Value) (n : Nat) (xs : List Value), Own ρ rs w B e z u n xs → Own ρ' rs' w' B e z u n xs) : LsO ρ' rs' w' B v vs := ⟨hf _ _ _ _ _ h.row, fun x hx => hf _ _ _ _ _ (h.pls x hx)⟩
theorem LsO.moved (h : LsO ρ rs w B v vs) (hm : Moved ρ rs w ρ' rs' w') : LsO ρ' rs' w' B v vs := h.map fun _ _ _ _ _ h => h.moved hm
theorem LsO.below (h : LsO ρ rs w B v vs) (hb : Below w.heap.size w w') : LsO ρ rs w' B v vs := h.map fun _ _ _ _ _ h => h.below hb
theorem LsO.drew (h : LsO ρ rs w B v vs) : LsO ρ rs w.drew B v vs := h.map fun _ _ _ _ _ h => h.drew
theorem LsO.castR (h : LsO ρ rs w B v vs) (e : rs = rs') : LsO ρ rs' w B v vs := e ▸ h
theorem LsO.cut {N : Nat} (h : LsO ρ' rs' w B v vs) (hag : Ag N ρ ρ' rs') (hN : rs.length = N) (e0 : rs'.take N = rs) : LsO ρ rs w B v vs := h.map fun _ _ _ _ _ h => h.cut hag hN e0
theorem LsO.start {T : List Nat} {w0 wb : World} (h : LsO ρ0 [] w' wb.heap.size v vs) (hR : Rel T w0 ρ rs wb) (hB : B ≤ wb.heap.size) : LsO ρ rs w' B v vs := ⟨⟨own_base h.row.own hB, fun g hg hw => by have h1 := own_ge h.row.own hg; have h2 := hR.wr_lt hw; omega⟩, fun x hx => ⟨own_base (h.pls x hx).own hB, fun g hg hw => by have h1 := own_ge (h.pls x hx).own hg; have h2 := hR.wr_lt hw; omega⟩⟩
theorem LsO.nil : LsO ρ rs w B (.slice none 0 0) [] := ⟨⟨World.ownsRow_nil _ _ _ _, fun _ h => by cases h⟩, fun _ h => absurd h List.not_mem_nil⟩
theorem LsO.turnM (h : LsO ρ rs w B v vs) {g : Nat} (ht : TurnM g w w') : LsO ρ rs w' B v vs := h.map fun _ _ _ _ _ h => h.turnM ht
end
attribute [local irreducible] run goO leaveK someK nextK nextT nextOT nextOD loopBody loopRest loopK fillJ tmplOf tmplJ mergeT At AtO drawOk ordOf gateOf callC callO topOp topO idxOf appOf storeOf clearOf sliceOf calleeOf calleeO topQ idxQ newRowOf resL stepOp seek
set_option maxRecDepth 100000 in
set_option maxHeartbeats 4000000 in
theorem ownL_any (x : LoC) (ps : List Pl) (B : Nat) (w : World) (h : w.ownsRow B 49 2 x.pv ps.length (plV ps)) (_ : B ≤ w.heap.size) (hn : ps.length ≤ 1000000) :
    Calls Try.prog 21 #[encLo x] w fun e w' => ∃ pv', e = .returned (encLo { x with pv := pv' }) ∧ w'.ownsRow w.heap.size 49 2 pv' ps.length (plV ps) ∧ Below w.heap.size w w' := by
  obtain ⟨p, a, c, n, pv⟩ := x
  obtain ⟨A, cp, rfl⟩ := own_row h
  have hA : A = none → ps.length = 0 ∧ cp = 0 := by
    rintro rfl
    rcases h.2 with ⟨e, h0⟩ | ⟨g, cap, cur, e, _⟩
    · injection e with _ _ e
      exact ⟨h0, e⟩
    · injection e with e
      cases e
  refine sim_enter Try.func21 ρ0 [.agg [LS p, LS a, LS c, LI n, .v (.slice A ps.length cp)]] [] (by kernel_rfl) rfl ?_
  have hR := Rel.start [] w ρ0
  refine sim_run 9 [] (hR.cast (by kernel_rfl)) (by kernel_rfl) trivial (fun ρ100 w100 hm100 hR100 => ?_)
  
  refine sim_call 36 [.v (.slice A ps.length cp)] (by kernel_rfl) ?_
  refine (clonePl_any A ps.length cp _ (plV ps) _ ((Reads.of_own h).belowW ((by assumption : Rel _ _ _ _ _)).toBelow (Nat.le_refl _)) ((by assumption : Rel _ _ _ _ _)).keeps.size hn hA (plV_oneC ps)).mono ?_
  rintro e w2 ⟨A2, c2, rfl, ho2, hb2⟩
  have hR2 := ((by assumption : Rel _ _ _ _ _)).below hb2
  have hO := Own.start ((by assumption : Rel _ _ _ _ _)) ho2
  refine Back.of (.v (.slice A2 ps.length c2)) hR2 rfl ?_
  refine sim_run 8 [] (hR2.cast (by kernel_rfl)) (by kernel_rfl) trivial (fun ρ200 w200 hm200 hR200 => ?_)
  have hO := hO.moved (hm200.castL (by kernel_rfl))
  refine sim_ret (.agg [LS p, LS a, LS c, LI n, .v (Value.slice A2 ps.length c2)]) hR200 (by kernel_rfl) (by kernel_rfl) ?_
  
  exact ⟨.slice A2 ps.length c2, rfl, own_base hO.own (hR100).keeps.size, ((by assumption : Rel _ _ _ _ _)).toBelow⟩
end

section
open Go Go.RowKit
attribute [local irreducible] run goO leaveK someK nextK nextT nextOT nextOD loopBody loopRest loopK fillJ tmplOf tmplJ mergeT At AtO drawOk ordOf gateOf callC callO topOp topO idxOf appOf storeOf clearOf sliceOf calleeOf calleeO topQ idxQ newRowOf resL stepOp seek
theorem tyLo : RowTy Try.prog 29 40 5 80 := RowTy.of Try.underlying29 (by kernel_rfl) (by kernel_rfl)
set_option maxRecDepth 100000 in
set_option maxHeartbeats 4000000 in
theorem loans_8 {Q : Exit → Act → World → Prop} {R : Ending → World → Prop} [hB : Body Try.prog Q Try.f8 R] {ρ : Nm} {w0 w : World} {q : LnP} {A Ax : Option Addr} {n cp B cx gk nk ck i : Nat} {ps : List ByteArray} {k1 k2 xp xa xc : ByteArray} {xn : Int} {pl : List Pl} {vo : Value} {vs : List (LoC × List Pl)} {kx : List Value} (b : Bool)
    (hR : Rel [] w0 ρ [⟨[.v (.map q.m)], false⟩, ⟨[LS k1, LS k2], false⟩, ⟨[LS k1, LS k2], true⟩, ⟨[LS xp, LS xa, LS xc, LI xn, .v (.slice Ax pl.length cx)], true⟩] w) (e0 : ρ 0 = (q.b, 0)) (e1 : (ρ 1).1 = gk) (hlt0 : ∀ x, q.has x → x < w0.heap.size)
    (hV : Sta q.has (LnV q) ρ [⟨[.v (.map q.m)], false⟩, ⟨[LS k1, LS k2], false⟩, ⟨[LS k1, LS k2], true⟩, ⟨[LS xp, LS xa, LS xc, LI xn, .v (.slice Ax pl.length cx)], true⟩] w) (hko : Own ρ [⟨[.v (.map q.m)], false⟩, ⟨[LS k1, LS k2], false⟩, ⟨[LS k1, LS k2], true⟩, ⟨[LS xp, LS xa, LS xc, LI xn, .v (.slice Ax pl.length cx)], true⟩] w w0.heap.size 57 2 (.slice (some ⟨gk, 0, none⟩) nk ck) nk kx) (hvo : LsO ρ [⟨[.v (.map q.m)], false⟩, ⟨[LS k1, LS k2], false⟩, ⟨[LS k1, LS k2], true⟩, ⟨[LS xp, LS xa, LS xc, LI xn, .v (.slice Ax pl.length cx)], true⟩] w w0.heap.size vo vs) (hrow : Own ρ [⟨[.v (.map q.m)], false⟩, ⟨[LS k1, LS k2], false⟩, ⟨[LS k1, LS k2], true⟩, ⟨[LS xp, LS xa, LS xc, LI xn, .v (.slice Ax pl.length cx)], true⟩] w 0 49 2 (.slice Ax pl.length cx) pl.length (plV pl))
    (hrd : Reads w0 B 1 A n (txtsV ps)) (hlen : ps.length = n) (hBB : B ≤ w0.heap.size) (hn : n ≤ 1000) (hi : i < nk) (hnk : nk ≤ 100000) (hvl : vs.length ≤ i) (hpl : pl.length ≤ 100000) (hb : (decide (ps.length = 0) || ps.any fun a => xp.toList == a.toList) = b) (d : Nat → Value)
    (hfin : ∀ (c' : Cfg) (ρ' : Nm) (w' : World) (vo' : Value) (vs' : List (LoC × List Pl)), c'.k = [] → mergeT (tmplJ Try.f8.ntmps 0 [(0, .ptr 0 0), (1, .v (.slice A n cp)), (5, .v vo'), (16, .v (.slice (some ⟨gk, 0, none⟩) nk ck)), (17, LI nk), (18, LI ((i : Int) + 1))]) c'.tmps = c'.tmps → (tmplJ Try.f8.ntmps 0 [(0, .ptr 0 0), (1, .v (.slice A n cp)), (5, .v vo'), (16, .v (.slice (some ⟨gk, 0, none⟩) nk ck)), (17, LI nk), (18, LI ((i : Int) + 1))]).length = c'.tmps.length → Ag 1 ρ ρ' c'.rs → Rel [] w0 ρ' c'.rs w' → c'.rs.take 1 = [⟨[.v (.map q.m)], false⟩] → Sta q.has (LnV q) ρ' c'.rs w' → Own ρ' c'.rs w' w0.heap.size 57 2 (.slice (some ⟨gk, 0, none⟩) nk ck) nk kx → LsO ρ' c'.rs w' w0.heap.size vo' vs' → told vs' = told vs ++ (if b = true then [⟨xp, xa, xc, xn, pl⟩] else []) → At Try.prog Q c' ρ' w') :
    At Try.prog Q ⟨regK Try.f8 8, fillJ (tmplJ Try.f8.ntmps 0 [(0, .ptr 0 0), (1, .v (.slice A n cp)), (5, .v vo), (8, .ptr 3 0), (16, .v (.slice (some ⟨gk, 0, none⟩) nk ck)), (17, LI nk), (18, LI i)]) d 0, [⟨[.v (.map q.m)], false⟩, ⟨[LS k1, LS k2], false⟩, ⟨[LS k1, LS k2], true⟩, ⟨[LS xp, LS xa, LS xc, LI xn, .v (.slice Ax pl.length cx)], true⟩]⟩ ρ w := by
  have hag := hR.ag_ 4 (by kernel_rfl)
  rcases Nat.eq_zero_or_pos n with h0 | h0
  · subst h0
    have hbt : b = true := by rw [← hb, hlen]; rfl
    subst hbt
    refine sim_run 14 [] (hR.cast (by kernel_rfl)) (by kernel_rfl) trivial (fun ρ1100 w1100 hm1100 hR1100 => ?_)
    have hV := hV.moved (hm1100.castL (by kernel_rfl))
    have hko := hko.moved (hm1100.castL (by kernel_rfl))
    have hvo := hvo.moved (hm1100.castL (by kernel_rfl))
    have hrow := hrow.moved (hm1100.castL (by kernel_rfl))
    have hag := hag.moved (hm1100.castL (by kernel_rfl))
    refine sim_call 21 [.agg [LS xp, LS xa, LS xc, LI xn, .v (Value.slice Ax pl.length cx)]] (by kernel_rfl) ?_
    refine Calls.mono (ownL_any (⟨xp, xa, xc, xn, .slice Ax pl.length cx⟩) (pl) (0) _ (hrow.own) ((Nat.zero_le _)) ((by omega))) ?_
    rintro e1101 w1101 ⟨pv, rfl, hpo, hb1101⟩
    obtain ⟨Ap, cq, rfl⟩ := own_row hpo
    have hsz := (hR1100).keeps.size
    have hpo := Own.start hR1100 hpo
    have hR1101 := (hR1100).below hb1101
    have hV := hV.below hb1101
    have hko := hko.below hb1101
    have hvo := hvo.below hb1101
    have hrow := hrow.below hb1101
    refine Back.of (.agg [LS xp, LS xa, LS xc, LI xn, .v (.slice Ap pl.length cq)]) hR1101 rfl ?_
    refine sim_run 1 [] (hR1101.cast (by kernel_rfl)) (by kernel_rfl) trivial (fun ρ1102 w1102 hm1102 hR1102 => ?_)
    have hag := hag.moved (hm1102.castL (by kernel_rfl))
    have hpo := hpo.moved (hm1102.castL (by kernel_rfl))
    have hV := hV.moved (hm1102.castL (by kernel_rfl))
    have hko := hko.moved (hm1102.castL (by kernel_rfl))
    have hvo := hvo.moved (hm1102.castL (by kernel_rfl))
    have hrow := hrow.moved (hm1102.castL (by kernel_rfl))
    
    refine sim_appendO 29 vo (.slc 4 0 1 1) (by kernel_rfl) (((by assumption : Rel _ _ _ _ _)).cast (by kernel_rfl)) tyLo (hvo.row.castR (by kernel_rfl)) 4 1 1 rfl [LS xp, LS xa, LS xc, LI xn, .v (.slice Ap pl.length cq)] (by kernel_rfl) rfl (by kernel_rfl) (by unfold maxLen; omega) (by omega) ((by assumption : Rel _ _ _ _ _)).keeps.size (fun g' hg' => .inr (own_ge hvo.row.own hg')) [0, 1] (by kernel_rfl) (fun k0 hk0 g' hg' => by
        have hgl := own_ge hvo.row.own hg'
        simp only [List.mem_cons, List.not_mem_nil, or_false] at hk0
        rcases hk0 with rfl | rfl
        · rw [hag.at_ 0 (by omega), e0]
          have := hlt0 q.b (.inl rfl)
          show q.b ≠ g'
          omega
        · rw [hag.at_ 1 (by omega), e1]
          rintro rfl
          exact own_ne hko.own hvo.row.own (by decide) gk rfl hg') (fun v' w12 hvo' hgr hR12 => ?_)
    have hV := hV.grown hgr (fun x hx e => by
      have h1 := own_ge hvo.row.own e
      exact absurd (hlt0 x hx) (by omega))
    have hko := hko.grown hgr fun g hg1 hg2 => own_ne hvo.row.own hko.own (by decide) g hg2 hg1
    have hpo := hpo.grown hgr fun g hg1 hg2 => own_ne hvo.row.own hpo.own (by decide) g hg2 hg1
    have hpv : ∀ x ∈ vs, Own _ _ w12 w0.heap.size 49 2 x.1.pv x.2.length (plV x.2) := fun x hx => (hvo.pls x hx).grown hgr fun g hg1 hg2 => own_ne hvo.row.own (hvo.pls x hx).own (by decide) g hg2 hg1
    have hpo2 : Own _ _ w12 w0.heap.size 49 2 (.slice Ap pl.length cq) pl.length (plV pl) := ⟨own_base hpo.own hsz, hpo.far⟩
    have hvo2 : LsO _ _ w12 w0.heap.size v' (vs ++ [(⟨xp, xa, xc, xn, .slice Ap pl.length cq⟩, pl)]) := ⟨by rw [List.length_append, loV_append, loV_one]; exact hvo', fun x hx => (List.mem_append.1 hx).elim (hpv x) (fun h => by rw [List.mem_singleton.1 h]; exact hpo2)⟩
    clear hvo hvo' hpo hpv
    refine sim_run 7 [⟨10, 0, LI (IntKind.i64.wrap ((↑i : Int) + 1)), LI ((↑i : Int) + 1)⟩] (hR12.cast (by kernel_rfl)) (by kernel_rfl) ⟨eqi (IntWalk.i64_in _ (by omega)), trivial⟩ (fun ρ1200 w1200 hm1200 hR1200 => ?_)
    have hag := hag.moved (hm1200.castL (by kernel_rfl))
    have hV := hV.moved (hm1200.castL (by kernel_rfl))
    have hko := hko.moved (hm1200.castL (by kernel_rfl))
    have hpo2 := hpo2.moved (hm1200.castL (by kernel_rfl))
    have hvo2 := hvo2.moved (hm1200.castL (by kernel_rfl))
    
    exact hfin _ _ _ v' _ (by kernel_rfl) (by kernel_rfl) (by kernel_rfl) ⟨hag.ag.mono (by omega), Nat.le_of_ble_eq_true (by kernel_rfl)⟩ ((by assumption : Rel _ _ _ _ _)) (by kernel_rfl) hV hko hvo2 (by unfold told; rw [List.map_append]; rfl)
  · have hdl : decide (ps.length = 0) = false := decide_eq_false (by omega)
    rw [hdl, Bool.false_or] at hb
    cases b with
    | false =>
      refine sim_run 4 [] (hR.cast (by kernel_rfl)) (by kernel_rfl) trivial (fun ρ1300 w1300 hm1300 hR1300 => ?_)
      have hV := hV.moved (hm1300.castL (by kernel_rfl))
      have hko := hko.moved (hm1300.castL (by kernel_rfl))
      have hvo := hvo.moved (hm1300.castL (by kernel_rfl))
      have hrow := hrow.moved (hm1300.castL (by kernel_rfl))
      have hag := hag.moved (hm1300.castL (by kernel_rfl))
      refine sim_know 31 ((↑n : Int) == 0) false (by kernel_rfl) (decide_eq_false (by omega)) ?_
      refine sim_run 3 [] (hR1300.cast (by kernel_rfl)) (by kernel_rfl) trivial (fun ρ1301 w1301 hm1301 hR1301 => ?_)
      have hV := hV.moved (hm1301.castL (by kernel_rfl))
      have hko := hko.moved (hm1301.castL (by kernel_rfl))
      have hvo := hvo.moved (hm1301.castL (by kernel_rfl))
      have hrow := hrow.moved (hm1301.castL (by kernel_rfl))
      have hag := hag.moved (hm1301.castL (by kernel_rfl))
      refine sim_call 20 [.v (Value.slice A n cp), LS xp] (by kernel_rfl) ?_
      refine Calls.mono (containsS_any (A) (n) (cp) (B) (ps) (xp) _ (hrd.belowW (hR1301).toBelow hBB) (Nat.le_trans hBB (hR1301).keeps.size) (by omega)) ?_
      rintro e1302 w1302 ⟨rfl, hb1302⟩
      have hR1302 := hR1301.below hb1302
      have hV := hV.below hb1302
      have hko := hko.below hb1302
      have hvo := hvo.below hb1302
      have hrow := hrow.below hb1302
      refine Back.of (LB (ps.any fun a => xp.toList == a.toList)) hR1302 rfl ?_
      refine sim_run 2 [] (hR1302.cast (by kernel_rfl)) (by kernel_rfl) trivial (fun ρ1303 w1303 hm1303 hR1303 => ?_)
      have hag := hag.moved (hm1303.castL (by kernel_rfl))
      have hV := hV.moved (hm1303.castL (by kernel_rfl))
      have hko := hko.moved (hm1303.castL (by kernel_rfl))
      have hvo := hvo.moved (hm1303.castL (by kernel_rfl))
      have hrow := hrow.moved (hm1303.castL (by kernel_rfl))
      refine sim_know 36 (ps.any fun a => xp.toList == a.toList) false (by kernel_rfl) (by assumption) ?_
      refine sim_run 7 [⟨10, 0, LI (IntKind.i64.wrap ((↑i : Int) + 1)), LI ((↑i : Int) + 1)⟩] (hR1303.cast (by kernel_rfl)) (by kernel_rfl) ⟨eqi (IntWalk.i64_in _ (by omega)), trivial⟩ (fun ρ1304 w1304 hm1304 hR1304 => ?_)
      have hag := hag.moved (hm1304.castL (by kernel_rfl))
      have hV := hV.moved (hm1304.castL (by kernel_rfl))
      have hko := hko.moved (hm1304.castL (by kernel_rfl))
      have hvo := hvo.moved (hm1304.castL (by kernel_rfl))
      have hrow := hrow.moved (hm1304.castL (by kernel_rfl))
      
      exact hfin _ _ _ vo vs (by kernel_rfl) (by kernel_rfl) (by kernel_rfl) ⟨hag.ag.mono (by omega), Nat.le_of_ble_eq_true (by kernel_rfl)⟩ ((by assumption : Rel _ _ _ _ _)) (by kernel_rfl) hV hko hvo (by simp)
    | true =>
      refine sim_run 4 [] (hR.cast (by kernel_rfl)) (by kernel_rfl) trivial (fun ρ1400 w1400 hm1400 hR1400 => ?_)
      have hV := hV.moved (hm1400.castL (by kernel_rfl))
      have hko := hko.moved (hm1400.castL (by kernel_rfl))
      have hvo := hvo.moved (hm1400.castL (by kernel_rfl))
      have hrow := hrow.moved (hm1400.castL (by kernel_rfl))
      have hag := hag.moved (hm1400.castL (by kernel_rfl))
      refine sim_know 31 ((↑n : Int) == 0) false (by kernel_rfl) (decide_eq_false (by omega)) ?_
      refine sim_run 3 [] (hR1400.cast (by kernel_rfl)) (by kernel_rfl) trivial (fun ρ1401 w1401 hm1401 hR1401 => ?_)
      have hV := hV.moved (hm1401.castL (by kernel_rfl))
      have hko := hko.moved (hm1401.castL (by kernel_rfl))
      have hvo := hvo.moved (hm1401.castL (by kernel_rfl))
      have hrow := hrow.moved (hm1401.castL (by kernel_rfl))
      have hag := hag.moved (hm1401.castL (by kernel_rfl))
      refine sim_call 20 [.v (Value.slice A n cp), LS xp] (by kernel_rfl) ?_
      refine Calls.mono (containsS_any (A) (n) (cp) (B) (ps) (xp) _ (hrd.belowW (hR1401).toBelow hBB) (Nat.le_trans hBB (hR1401).keeps.size) (by omega)) ?_
      rintro e1402 w1402 ⟨rfl, hb1402⟩
      have hR1402 := hR1401.below hb1402
      have hV := hV.below hb1402
      have hko := hko.below hb1402
      have hvo := hvo.below hb1402
      have hrow := hrow.below hb1402
      refine Back.of (LB (ps.any fun a => xp.toList == a.toList)) hR1402 rfl ?_
      refine sim_run 2 [] (hR1402.cast (by kernel_rfl)) (by kernel_rfl) trivial (fun ρ1403 w1403 hm1403 hR1403 => ?_)
      have hag := hag.moved (hm1403.castL (by kernel_rfl))
      have hV := hV.moved (hm1403.castL (by kernel_rfl))
      have hko := hko.moved (hm1403.castL (by kernel_rfl))
      have hvo := hvo.moved (hm1403.castL (by kernel_rfl))
      have hrow := hrow.moved (hm1403.castL (by kernel_rfl))
      refine sim_know 36 (ps.any fun a => xp.toList == a.toList) true (by kernel_rfl) (by assumption) ?_
      refine sim_run 4 [] (hR1403.cast (by kernel_rfl)) (by kernel_rfl) trivial (fun ρ1404 w1404 hm1404 hR1404 => ?_)
      have hag := hag.moved (hm1404.castL (by kernel_rfl))
      have hV := hV.moved (hm1404.castL (by kernel_rfl))
      have hko := hko.moved (hm1404.castL (by kernel_rfl))
      have hvo := hvo.moved (hm1404.castL (by kernel_rfl))
      have hrow := hrow.moved (hm1404.castL (by kernel_rfl))
      refine sim_call 21 [.agg [LS xp, LS xa, LS xc, LI xn, .v (Value.slice Ax pl.length cx)]] (by kernel_rfl) ?_
      refine Calls.mono (ownL_any (⟨xp, xa, xc, xn, .slice Ax pl.length cx⟩) (pl) (0) _ (hrow.own) ((Nat.zero_le _)) ((by omega))) ?_
      rintro e1405 w1405 ⟨pv, rfl, hpo, hb1405⟩
      obtain ⟨Ap, cq, rfl⟩ := own_row hpo
      have hsz := (hR1404).keeps.size
      have hpo := Own.start hR1404 hpo
      have hR1405 := (hR1404).below hb1405
      have hV := hV.below hb1405
      have hko := hko.below hb1405
      have hvo := hvo.below hb1405
      have hrow := hrow.below hb1405
      refine Back.of (.agg [LS xp, LS xa, LS xc, LI xn, .v (.slice Ap pl.length cq)]) hR1405 rfl ?_
      refine sim_run 1 [] (hR1405.cast (by kernel_rfl)) (by kernel_rfl) trivial (fun ρ1406 w1406 hm1406 hR1406 => ?_)
      have hag := hag.moved (hm1406.castL (by kernel_rfl))
      have hpo := hpo.moved (hm1406.castL (by kernel_rfl))
      have hV := hV.moved (hm1406.castL (by kernel_rfl))
      have hko := hko.moved (hm1406.castL (by kernel_rfl))
      have hvo := hvo.moved (hm1406.castL (by kernel_rfl))
      have hrow := hrow.moved (hm1406.castL (by kernel_rfl))
      
      refine sim_appendO 29 vo (.slc 4 0 1 1) (by kernel_rfl) (((by assumption : Rel _ _ _ _ _)).cast (by kernel_rfl)) tyLo (hvo.row.castR (by kernel_rfl)) 4 1 1 rfl [LS xp, LS xa, LS xc, LI xn, .v (.slice Ap pl.length cq)] (by kernel_rfl) rfl (by kernel_rfl) (by unfold maxLen; omega) (by omega) ((by assumption : Rel _ _ _ _ _)).keeps.size (fun g' hg' => .inr (own_ge hvo.row.own hg')) [0, 1] (by kernel_rfl) (fun k0 hk0 g' hg' => by
          have hgl := own_ge hvo.row.own hg'
          simp only [List.mem_cons, List.not_mem_nil, or_false] at hk0
          rcases hk0 with rfl | rfl
          · rw [hag.at_ 0 (by omega), e0]
            have := hlt0 q.b (.inl rfl)
            show q.b ≠ g'
            omega
          · rw [hag.at_ 1 (by omega), e1]
            rintro rfl
            exact own_ne hko.own hvo.row.own (by decide) gk rfl hg') (fun v' w12 hvo' hgr hR12 => ?_)
      have hV := hV.grown hgr (fun x hx e => by
        have h1 := own_ge hvo.row.own e
        exact absurd (hlt0 x hx) (by omega))
      have hko := hko.grown hgr fun g hg1 hg2 => own_ne hvo.row.own hko.own (by decide) g hg2 hg1
      have hpo := hpo.grown hgr fun g hg1 hg2 => own_ne hvo.row.own hpo.own (by decide) g hg2 hg1
      have hpv : ∀ x ∈ vs, Own _ _ w12 w0.heap.size 49 2 x.1.pv x.2.length (plV x.2) := fun x hx => (hvo.pls x hx).grown hgr fun g hg1 hg2 => own_ne hvo.row.own (hvo.pls x hx).own (by decide) g hg2 hg1
      have hpo2 : Own _ _ w12 w0.heap.size 49 2 (.slice Ap pl.length cq) pl.length (plV pl) := ⟨own_base hpo.own hsz, hpo.far⟩
      have hvo2 : LsO _ _ w12 w0.heap.size v' (vs ++ [(⟨xp, xa, xc, xn, .slice Ap pl.length cq⟩, pl)]) := ⟨by rw [List.length_append, loV_append, loV_one]; exact hvo', fun x hx => (List.mem_append.1 hx).elim (hpv x) (fun h => by rw [List.mem_singleton.1 h]; exact hpo2)⟩
      clear hvo hvo' hpo hpv
      refine sim_run 7 [⟨10, 0, LI (IntKind.i64.wrap ((↑i : Int) + 1)), LI ((↑i : Int) + 1)⟩] (hR12.cast (by kernel_rfl)) (by kernel_rfl) ⟨eqi (IntWalk.i64_in _ (by omega)), trivial⟩ (fun ρ1500 w1500 hm1500 hR1500 => ?_)
      have hag := hag.moved (hm1500.castL (by kernel_rfl))
      have hV := hV.moved (hm1500.castL (by kernel_rfl))
      have hko := hko.moved (hm1500.castL (by kernel_rfl))
      have hpo2 := hpo2.moved (hm1500.castL (by kernel_rfl))
      have hvo2 := hvo2.moved (hm1500.castL (by kernel_rfl))
      
      exact hfin _ _ _ v' _ (by kernel_rfl) (by kernel_rfl) (by kernel_rfl) ⟨hag.ag.mono (by omega), Nat.le_of_ble_eq_true (by kernel_rfl)⟩ ((by assumption : Rel _ _ _ _ _)) (by kernel_rfl) hV hko hvo2 (by unfold told; rw [List.map_append]; rfl)
end

section
open Go Go.RowKit
/-- whether a purse's loan is one of those asked for -/
def LnP.ask (q : LnP) (ps : List ByteArray) (k : Key) : Bool := decide (ps.length = 0) || ps.any fun a => (q.at_ k).party.toList == a.toList
/-- the loans of some parties -/
def LnP.loans (q : LnP) (ps : List ByteArray) : List Lo := ((sortKs (q.l.map (·.key))).filter (q.ask ps)).map q.lo
attribute [local irreducible] run goO leaveK someK nextK nextT nextOT nextOD loopBody loopRest loopK fillJ tmplOf tmplJ mergeT At AtO drawOk ordOf gateOf callC callO topOp topO idxOf appOf storeOf clearOf sliceOf calleeOf calleeO topQ idxQ newRowOf resL stepOp seek
set_option maxRecDepth 100000 in
set_option maxHeartbeats 4000000 in
theorem loans_any (q : LnP) (A : Option Addr) (n cp B : Nat) (ps : List ByteArray) (w : World) (h : LnV q w) (hok : LnOk 100000 100000 q) (hrd : Reads w B 1 A n (txtsV ps)) (hlen : ps.length = n) (hB : B ≤ w.heap.size) (hn : n ≤ 1000) :
    Calls Try.prog 8 #[.pointer (some ⟨q.b, 0, none⟩), .slice A n cp] w fun e w' => ∃ s : LsP, e = .returned s.val ∧ LsO ρ0 [] w' w.heap.size s.val s.vs ∧ told s.vs = q.loans ps ∧ Below w.heap.size w w' := by
  obtain ⟨ρ, e0, hR⟩ := h.open_ false [] (fun h => by cases h)
  have hV : Sta q.has (LnV q) ρ [⟨[.v (.map q.m)], false⟩] w := h.sta (by kernel_rfl)
  refine sim_enter Try.func8 ρ [.ptr 0 0, .v (.slice A n cp)] [⟨[.v (.map q.m)], false⟩] (by kernel_rfl) (by simp only [denL, LV.den, Nm.at_, e0]) ?_
  have hag := hR.ag_ 1 (by kernel_rfl)
  refine sim_run 23 [] (hR.cast (by kernel_rfl)) (by kernel_rfl) trivial (fun ρ100 w100 hm100 hR100 => ?_)
  have hV := hV.moved (hm100.castL (by kernel_rfl))
  have hag := hag.moved (hm100.castL (by kernel_rfl))
  
  refine sim_call 18 [.v (.map q.m)] (by kernel_rfl) ?_
  refine (keysP_any q.m _).mono ?_
  rintro e1 w2 ⟨g2, rfl, hm2, hg2, hb2⟩
  have hR2 := ((by assumption : Rel _ _ _ _ _)).below hb2
  have hV := hV.below hb2
  refine Back.of (.v (.func (.func 32) #[] #[.pointer (some ⟨g2, 0, none⟩)])) hR2 rfl ?_
  refine sim_call 17 [.v (.func (.func 32) #[] #[.pointer (some ⟨g2, 0, none⟩)]), .v (.func (.func 19) #[] #[])] (by kernel_rfl) ?_
  refine (sortedP_any g2 q.m q.l q.ck _ hm2 hV.is.mp (by have := hok.len; omega)).mono ?_
  rintro e3 w3 ⟨Ak, ck, rfl, hko, hb3⟩
  have hR3 := hR2.below hb3
  have hV := hV.below hb3
  have hko : Own ρ100 _ w3 w.heap.size 57 2 (.slice Ak q.l.length ck) q.l.length ((sortKs (q.l.map (·.key))).flatMap encL) := Own.ro hR3 (own_base hko (Rel.keeps hR2).size) (by kernel_rfl)
  refine Back.of (.v (.slice Ak q.l.length ck)) hR3 rfl ?_
  have hkl : (sortKs (q.l.map (·.key))).length = q.l.length := by rw [sortKs_len, List.length_map]
  have hkm : ∀ k ∈ sortKs (q.l.map (·.key)), k ∈ q.l.map (·.key) := fun k hk => (List.mergeSort_perm _ _).mem_iff.1 hk
  unfold LnP.loans
  generalize sortKs (q.l.map (·.key)) = ks at *
  refine sim_run 4 [] (hR3.cast (by kernel_rfl)) (by kernel_rfl) trivial (fun ρ200 w200 hm200 hR200 => ?_)
  have hag := hag.moved (hm200.castL (by kernel_rfl))
  have hV := hV.moved (hm200.castL (by kernel_rfl))
  have hko := hko.moved (hm200.castL (by kernel_rfl))
  
  refine sim_loop (ι := Nat × Value × List (LoC × List Pl)) (T := []) (w0 := w) (0, .slice none 0 0, []) [0, 1, 16, 17] (fun x => [(18, LI x.1), (5, .v x.2.1)]) (fun _ => [⟨[.v (.map q.m)], false⟩]) (fun x w1 => x.1 ≤ q.l.length ∧ Sta q.has (LnV q) ρ200 [⟨[.v (.map q.m)], false⟩] w1 ∧ Own ρ200 [⟨[.v (.map q.m)], false⟩] w1 w.heap.size 57 2 (.slice Ak q.l.length ck) q.l.length (ks.flatMap encL) ∧ LsO ρ200 [⟨[.v (.map q.m)], false⟩] w1 w.heap.size x.2.1 x.2.2 ∧ told x.2.2 = ((ks.take x.1).filter (q.ask ps)).map q.lo) (fun x => q.l.length - x.1) (by kernel_rfl) (by kernel_rfl) (hR200.cast (by kernel_rfl)) ⟨Nat.zero_le _, hV.castR (by kernel_rfl), hko.castR (by kernel_rfl), LsO.nil, rfl⟩ ?_
  iterate 6 (try clear hV)
  iterate 6 (try clear hko)
  have e0 := (hag.at_ 0 (by omega)).trans e0
  iterate 6 (try clear hag)
  rintro ⟨i, vo, vs⟩ d w5 hR5 ⟨hi, hV, hko, hvo, htold⟩
  dsimp only at hi hV hko hvo htold
  have hag0 := hR5.ag_ 1 (by kernel_rfl)
  have hvl : vs.length ≤ i := by
    have h1 := congrArg List.length htold
    unfold told at h1
    rw [List.length_map, List.length_map] at h1
    have h2 := List.length_filter_le (q.ask ps) (ks.take i)
    rw [List.length_take] at h2
    omega
  by_cases hlt : i < q.l.length
  · obtain ⟨k, hk⟩ : ∃ k, ks[i]? = some k := ⟨_, List.getElem?_eq_getElem (by omega)⟩
    obtain ⟨e, he, hek, hlook⟩ := look_of_key (hkm k (List.mem_of_getElem? hk))
    have htk : ks.take (i + 1) = ks.take i ++ [k] := by rw [List.take_add_one, hk]; rfl
    have hat : q.at_ k = e.val := by unfold LnP.at_; rw [hlook]; rfl
    have hrow := LnV.rowAt hV he
    have hpl := hok.pls e he
    rw [hek] at hrow hpl
    have hask : q.ask ps k = (decide (ps.length = 0) || ps.any fun a => e.val.party.toList == a.toList) := by unfold LnP.ask; rw [hat]
    have hlo : q.lo k = e.val.of (q.f k) := by unfold LnP.lo; rw [hat]
    generalize e.val = x at *
    obtain ⟨xp, xa, xc, xn, xv⟩ := x
    obtain ⟨Ax, cx, hxv⟩ := own_row hrow.own
    have hxv : xv = .slice Ax (q.f k).length cx := hxv
    subst hxv
    obtain ⟨gk, rfl⟩ := own_spot hko.own (by omega)
    obtain ⟨k1, k2⟩ := k
    refine sim_seeO (xss := ks.map encL) (sz := 2) [.string k1, .string k2] i 1 (by kernel_rfl) (by rw [List.getElem?_map, hk]; rfl) hko (by intro y hy; obtain ⟨o, _, rfl⟩ := List.mem_map.1 hy; rfl) (by omega) hlt hR5 (by kernel_rfl) (fun ρE hmE eE hRE => ?_)
    have hV := hV.moved hmE
    have hko := hko.moved hmE
    have hvo := hvo.moved hmE
    have hrow := hrow.moved hmE
    have hag0 := hag0.moved hmE
    have hag := hRE.ag_ 2 (by kernel_rfl)
    refine sim_run 5 [] (hRE.cast (by kernel_rfl)) (by kernel_rfl) trivial (fun ρ300 w300 hm300 hR300 => ?_)
    have hV := hV.moved (hm300.castL (by kernel_rfl))
    have hko := hko.moved (hm300.castL (by kernel_rfl))
    have hvo := hvo.moved (hm300.castL (by kernel_rfl))
    have hrow := hrow.moved (hm300.castL (by kernel_rfl))
    have hag0 := hag0.moved (hm300.castL (by kernel_rfl))
    have hag := hag.moved (hm300.castL (by kernel_rfl))
    refine sim_know 19 (decide ((↑(i, vo, vs).fst : Int) < (↑q.l.length : Int))) true (by kernel_rfl) (decide_eq_true (by omega)) ?_
    refine sim_run 6 [] (hR300.cast (by kernel_rfl)) (by kernel_rfl) trivial (fun ρ301 w301 hm301 hR301 => ?_)
    have hV := hV.moved (hm301.castL (by kernel_rfl))
    have hko := hko.moved (hm301.castL (by kernel_rfl))
    have hvo := hvo.moved (hm301.castL (by kernel_rfl))
    have hrow := hrow.moved (hm301.castL (by kernel_rfl))
    have hag0 := hag0.moved (hm301.castL (by kernel_rfl))
    have hag := hag.moved (hm301.castL (by kernel_rfl))
    refine sim_place (.v (.slice (some ⟨gk, 0, none⟩) q.l.length ck)) q.l.length 2 i 1 0 (by kernel_rfl) (by omega) (by omega) rfl (by simp only [Nm.at_, hag.at_ 1 (by omega), eE, Nat.zero_add, Nat.add_zero, Int.toNat_natCast]) ?_
    refine sim_run 5 [] (hR301.cast (by kernel_rfl)) (by kernel_rfl) trivial (fun ρ303 w303 hm303 hR303 => ?_)
    have hV := hV.moved (hm303.castL (by kernel_rfl))
    have hko := hko.moved (hm303.castL (by kernel_rfl))
    have hvo := hvo.moved (hm303.castL (by kernel_rfl))
    have hrow := hrow.moved (hm303.castL (by kernel_rfl))
    have hag0 := hag0.moved (hm303.castL (by kernel_rfl))
    have hag := hag.moved (hm303.castL (by kernel_rfl))
    refine sim_drawF2 [(0, false), (1, false), (2, false), (3, false), (4, false)] (5, [(6, true), (7, true)]) (6, [(5, true), (7, true)]) (some 7) (by kernel_rfl) (by kernel_rfl) hR303 (fun hR304 => ?_) (fun hR304 => ?_)
    have hV := hV.drew
    have hko := hko.drew
    have hvo := hvo.drew
    have hrow := hrow.drew
    refine sim_ordN 5 [] hR304 (by kernel_rfl) trivial (fun ρ305 w305 hm305 hR305 => ?_)
    have hag0 := hag0.moved (hm305.castL (by kernel_rfl))
    have hag := hag.moved (hm305.castL (by kernel_rfl))
    have hV := hV.moved (hm305.castL (by kernel_rfl))
    have hko := hko.moved (hm305.castL (by kernel_rfl))
    have hvo := hvo.moved (hm305.castL (by kernel_rfl))
    have hrow := hrow.moved (hm305.castL (by kernel_rfl))
    refine sim_ord_look (enc := encK) (encV := encLo) (mx := .v (Value.map q.m)) (kx := .agg [LS k1, LS k2]) (ok := false) (k1, k2) (.agg [LS xp, LS xa, LS xc, LI xn, .v (.slice Ax (q.f (k1, k2)).length cx)]) (by kernel_rfl) ml_ty kt_key zero_lo (LnV.over hV) rfl rfl hR305 (by rw [hlook]; rfl) (fun hR306 => ?_)
    refine sim_ordN 2 [] hR306 (by kernel_rfl) trivial (fun ρ307 w307 hm307 hR307 => ?_)
    have hag0 := hag0.moved (hm307.castL (by kernel_rfl))
    have hag := hag.moved (hm307.castL (by kernel_rfl))
    have hV := hV.moved (hm307.castL (by kernel_rfl))
    have hko := hko.moved (hm307.castL (by kernel_rfl))
    have hvo := hvo.moved (hm307.castL (by kernel_rfl))
    have hrow := hrow.moved (hm307.castL (by kernel_rfl))
    refine sim_ord_endR hR307 (by kernel_rfl) (fun hR308 => ?_)
    refine sim_run 2 [] (hR308.cast (by kernel_rfl)) (by kernel_rfl) trivial (fun ρ309 w309 hm309 hR309 => ?_)
    have hag0 := hag0.moved (hm309.castL (by kernel_rfl))
    have hag := hag.moved (hm309.castL (by kernel_rfl))
    have hV := hV.moved (hm309.castL (by kernel_rfl))
    have hko := hko.moved (hm309.castL (by kernel_rfl))
    have hvo := hvo.moved (hm309.castL (by kernel_rfl))
    have hrow := hrow.moved (hm309.castL (by kernel_rfl))
    rotate_left
    have hV := hV.drew
    have hko := hko.drew
    have hvo := hvo.drew
    have hrow := hrow.drew
    refine sim_ordN 6 [] hR304 (by kernel_rfl) trivial (fun ρ310 w310 hm310 hR310 => ?_)
    have hag0 := hag0.moved (hm310.castL (by kernel_rfl))
    have hag := hag.moved (hm310.castL (by kernel_rfl))
    have hV := hV.moved (hm310.castL (by kernel_rfl))
    have hko := hko.moved (hm310.castL (by kernel_rfl))
    have hvo := hvo.moved (hm310.castL (by kernel_rfl))
    have hrow := hrow.moved (hm310.castL (by kernel_rfl))
    refine sim_ord_look (enc := encK) (encV := encLo) (mx := .v (Value.map q.m)) (kx := .agg [LS k1, LS k2]) (ok := false) (k1, k2) (.agg [LS xp, LS xa, LS xc, LI xn, .v (.slice Ax (q.f (k1, k2)).length cx)]) (by kernel_rfl) ml_ty kt_key zero_lo (LnV.over hV) rfl rfl hR310 (by rw [hlook]; rfl) (fun hR311 => ?_)
    refine sim_ordN 1 [] hR311 (by kernel_rfl) trivial (fun ρ312 w312 hm312 hR312 => ?_)
    have hag0 := hag0.moved (hm312.castL (by kernel_rfl))
    have hag := hag.moved (hm312.castL (by kernel_rfl))
    have hV := hV.moved (hm312.castL (by kernel_rfl))
    have hko := hko.moved (hm312.castL (by kernel_rfl))
    have hvo := hvo.moved (hm312.castL (by kernel_rfl))
    have hrow := hrow.moved (hm312.castL (by kernel_rfl))
    refine sim_ord_endR hR312 (by kernel_rfl) (fun hR313 => ?_)
    refine sim_run 2 [] (hR313.cast (by kernel_rfl)) (by kernel_rfl) trivial (fun ρ314 w314 hm314 hR314 => ?_)
    have hag0 := hag0.moved (hm314.castL (by kernel_rfl))
    have hag := hag.moved (hm314.castL (by kernel_rfl))
    have hV := hV.moved (hm314.castL (by kernel_rfl))
    have hko := hko.moved (hm314.castL (by kernel_rfl))
    have hvo := hvo.moved (hm314.castL (by kernel_rfl))
    have hrow := hrow.moved (hm314.castL (by kernel_rfl))
    rotate_left
    
    · have hRz := ((by assumption : Rel _ _ _ _ _)).cast (rs' := [⟨[.v (.map q.m)], false⟩, ⟨[LS k1, LS k2], false⟩, ⟨[LS k1, LS k2], true⟩, ⟨[LS xp, LS xa, LS xc, LI xn, .v (.slice Ax (q.f (k1, k2)).length cx)], true⟩]) (by kernel_rfl)
      refine sim_to (regK Try.f8 8) (tmplJ Try.f8.ntmps 0 [(0, .ptr 0 0), (1, .v (.slice A n cp)), (5, .v vo), (8, .ptr 3 0), (16, .v (.slice (some ⟨gk, 0, none⟩) q.l.length ck)), (17, LI q.l.length), (18, LI i)]) [⟨[.v (.map q.m)], false⟩, ⟨[LS k1, LS k2], false⟩, ⟨[LS k1, LS k2], true⟩, ⟨[LS xp, LS xa, LS xc, LI xn, .v (.slice Ax (q.f (k1, k2)).length cx)], true⟩] (by kernel_rfl) (by kernel_rfl) (by kernel_rfl) (fun dd => ?_)
      refine loans_8 (q.ask ps (k1, k2)) hRz ((hag0.at_ 0 (by omega)).trans e0) (by rw [hag.at_ 1 (by omega), eE]) h.lt (hV.castR (by kernel_rfl)) (hko.castR (by kernel_rfl)) (hvo.castR (by kernel_rfl)) (hrow.castR (by kernel_rfl)) hrd hlen hB hn hlt (by have := hok.len; omega) hvl hpl hask.symm dd (fun c9 ρ9 w9 vo9 vs9 hk9 hm9 hl9 hag9 hR9 hrs9 hV9 hko9 hvo9 htold9 => ?_)
      exact sim_again (i + 1, vo9, vs9) hk9 (by show q.l.length - (i + 1) < q.l.length - i; omega) ((congrArg (mergeT · c9.tmps) (by kernel_rfl)).trans hm9) ((congrArg List.length (by kernel_rfl)).trans hl9) (by kernel_rfl) ((hag0.ag).tr hag9.ag) hR9 hrs9 (by kernel_rfl) ⟨hlt, hV9.cut ⟨(hag0.ag).tr hag9.ag, hag9.le⟩ rfl hrs9, hko9.cut ⟨(hag0.ag).tr hag9.ag, hag9.le⟩ rfl hrs9, hvo9.cut ⟨(hag0.ag).tr hag9.ag, hag9.le⟩ rfl hrs9, by
        dsimp only
        rw [htold9, htk, List.filter_append, List.map_append, htold]
        congr 1
        cases hbb : q.ask ps (k1, k2) with
        | true => rw [if_pos rfl, List.filter_cons, if_pos hbb]; show _ = [q.lo (k1, k2)]; rw [hlo]; rfl
        | false => rw [if_neg (by simp), List.filter_cons, hbb]; rfl⟩
    · have hRz := ((by assumption : Rel _ _ _ _ _)).cast (rs' := [⟨[.v (.map q.m)], false⟩, ⟨[LS k1, LS k2], false⟩, ⟨[LS k1, LS k2], true⟩, ⟨[LS xp, LS xa, LS xc, LI xn, .v (.slice Ax (q.f (k1, k2)).length cx)], true⟩]) (by kernel_rfl)
      refine sim_to (regK Try.f8 8) (tmplJ Try.f8.ntmps 0 [(0, .ptr 0 0), (1, .v (.slice A n cp)), (5, .v vo), (8, .ptr 3 0), (16, .v (.slice (some ⟨gk, 0, none⟩) q.l.length ck)), (17, LI q.l.length), (18, LI i)]) [⟨[.v (.map q.m)], false⟩, ⟨[LS k1, LS k2], false⟩, ⟨[LS k1, LS k2], true⟩, ⟨[LS xp, LS xa, LS xc, LI xn, .v (.slice Ax (q.f (k1, k2)).length cx)], true⟩] (by kernel_rfl) (by kernel_rfl) (by kernel_rfl) (fun dd => ?_)
      refine loans_8 (q.ask ps (k1, k2)) hRz ((hag0.at_ 0 (by omega)).trans e0) (by rw [hag.at_ 1 (by omega), eE]) h.lt (hV.castR (by kernel_rfl)) (hko.castR (by kernel_rfl)) (hvo.castR (by kernel_rfl)) (hrow.castR (by kernel_rfl)) hrd hlen hB hn hlt (by have := hok.len; omega) hvl hpl hask.symm dd (fun c9 ρ9 w9 vo9 vs9 hk9 hm9 hl9 hag9 hR9 hrs9 hV9 hko9 hvo9 htold9 => ?_)
      exact sim_again (i + 1, vo9, vs9) hk9 (by show q.l.length - (i + 1) < q.l.length - i; omega) ((congrArg (mergeT · c9.tmps) (by kernel_rfl)).trans hm9) ((congrArg List.length (by kernel_rfl)).trans hl9) (by kernel_rfl) ((hag0.ag).tr hag9.ag) hR9 hrs9 (by kernel_rfl) ⟨hlt, hV9.cut ⟨(hag0.ag).tr hag9.ag, hag9.le⟩ rfl hrs9, hko9.cut ⟨(hag0.ag).tr hag9.ag, hag9.le⟩ rfl hrs9, hvo9.cut ⟨(hag0.ag).tr hag9.ag, hag9.le⟩ rfl hrs9, by
        dsimp only
        rw [htold9, htk, List.filter_append, List.map_append, htold]
        congr 1
        cases hbb : q.ask ps (k1, k2) with
        | true => rw [if_pos rfl, List.filter_cons, if_pos hbb]; show _ = [q.lo (k1, k2)]; rw [hlo]; rfl
        | false => rw [if_neg (by simp), List.filter_cons, hbb]; rfl⟩
  · have hie : i = q.l.length := by omega
    subst hie
    rw [show ks.take q.l.length = ks from by rw [← hkl]; exact List.take_length] at htold
    obtain ⟨Av, cv, rfl⟩ := own_row hvo.row.own
    refine sim_run 5 [] (hR5.cast (by kernel_rfl)) (by kernel_rfl) trivial (fun ρ400 w400 hm400 hR400 => ?_)
    have hV := hV.moved (hm400.castL (by kernel_rfl))
    have hko := hko.moved (hm400.castL (by kernel_rfl))
    have hag0 := hag0.moved (hm400.castL (by kernel_rfl))
    have hvo := hvo.moved (hm400.castL (by kernel_rfl))
    refine sim_know 19 (decide ((↑(q.l.length, Value.slice Av vs.length cv, vs).fst : Int) < (↑q.l.length : Int))) false (by kernel_rfl) (decide_eq_false (by omega)) ?_
    refine sim_run 1 [] (hR400.cast (by kernel_rfl)) (by kernel_rfl) trivial (fun ρ401 w401 hm401 hR401 => ?_)
    have hV := hV.moved (hm401.castL (by kernel_rfl))
    have hko := hko.moved (hm401.castL (by kernel_rfl))
    have hag0 := hag0.moved (hm401.castL (by kernel_rfl))
    have hvo := hvo.moved (hm401.castL (by kernel_rfl))
    refine sim_leave (by kernel_rfl) ?_
    refine sim_run 5 [] (hR401.cast (by kernel_rfl)) (by kernel_rfl) trivial (fun ρ402 w402 hm402 hR402 => ?_)
    have hV := hV.moved (hm402.castL (by kernel_rfl))
    have hko := hko.moved (hm402.castL (by kernel_rfl))
    have hag0 := hag0.moved (hm402.castL (by kernel_rfl))
    have hvo := hvo.moved (hm402.castL (by kernel_rfl))
    refine sim_ret (.v (Value.slice Av vs.length cv)) hR402 (by kernel_rfl) (by kernel_rfl) ?_
    
    exact ⟨⟨Av, cv, vs⟩, rfl, hvo.map (fun _ _ _ _ _ h => ⟨h.own, fun _ _ hw => noW0 hw⟩), htold, ((by assumption : Rel _ _ _ _ _)).toBelow⟩
end

section
open Go Go.RowKit
theorem sumI_nonneg : ∀ {l : List Int}, (∀ x ∈ l, 0 ≤ x) → 0 ≤ sumI l
  | [], _ => by simp [sumI]
  | x :: l, h => by
    have h1 := h x (by simp)
    have h2 := sumI_nonneg (l := l) fun y hy => h y (List.mem_cons_of_mem _ hy)
    simp only [sumI]
    omega
theorem sumI_take {l : List Int} (h : ∀ x ∈ l, 0 ≤ x) (i : Nat) : 0 ≤ sumI (l.take i) ∧ sumI (l.take i) ≤ sumI l := by
  have h1 : sumI l = sumI (l.take i) + sumI (l.drop i) := by rw [← sumI_append, List.take_append_drop]
  have h2 := sumI_nonneg (l := l.take i) fun x hx => h x (List.mem_of_mem_take hx)
  have h3 := sumI_nonneg (l := l.drop i) fun x hx => h x (List.mem_of_mem_drop hx)
  omega
theorem clampO_in {v : Int} (h : -1152921504606846976 ≤ v) (h' : v ≤ 1152921504606846976) : clampO v = false ∧ clampV v = v := by
  unfold clampO clampV
  rw [if_neg (by omega), if_neg (by omega), decide_eq_false (by omega), decide_eq_false (by omega)]
  exact ⟨rfl, rfl⟩
/-- each loan that is told lies in the lines -/
theorem LnP.loans_in {q : LnP} {ps : List ByteArray} {x : Lo} (h : x ∈ q.loans ps) : ∃ e ∈ q.l, x = e.val.of (q.f e.key) := by
  unfold LnP.loans at h
  obtain ⟨k, hk, rfl⟩ := List.mem_map.1 h
  have hk2 := (List.mergeSort_perm _ _).mem_iff.1 (List.mem_filter.1 hk).1
  obtain ⟨e, he, hek, hl⟩ := look_of_key hk2
  refine ⟨e, he, ?_⟩
  unfold LnP.lo LnP.at_
  rw [hl, hek]
  rfl
theorem LnOk.amts {n k : Nat} {q : LnP} (h : LnOk n k q) (ps : List ByteArray) : ∀ x ∈ (q.loans ps).map (·.amt), 0 ≤ x := fun x hx => by
  obtain ⟨y, hy, rfl⟩ := List.mem_map.1 hx
  obtain ⟨e, he, rfl⟩ := q.loans_in hy
  exact (h.amt e he).1
theorem LnP.loans_len (q : LnP) (ps : List ByteArray) : (q.loans ps).length ≤ q.l.length := by
  unfold LnP.loans
  rw [List.length_map]
  refine Nat.le_trans (List.length_filter_le _ _) ?_
  rw [sortKs_len, List.length_map]
  exact Nat.le_refl _
/-- how much credit a party has -/
def LnP.used (q : LnP) (p : ByteArray) : Int := sumI ((q.loans [p]).map (·.amt))
attribute [local irreducible] run goO leaveK someK nextK nextT nextOT nextOD loopBody loopRest loopK fillJ tmplOf tmplJ mergeT At AtO drawOk ordOf gateOf callC callO topOp topO idxOf appOf storeOf clearOf sliceOf calleeOf calleeO topQ idxQ newRowOf resL stepOp seek
set_option maxRecDepth 100000 in
set_option maxHeartbeats 4000000 in
theorem used_any (q : LnP) (p : ByteArray) (w : World) (h : LnV q w) (hok : LnOk 100000 100000 q) (hs : q.used p ≤ 1152921504606846976) :
    Calls Try.prog 14 #[.pointer (some ⟨q.b, 0, none⟩), .string p] w fun e w' => e = .returned (.int .i64 (q.used p)) ∧ Below w.heap.size w w' := by
  have hV : Sta q.has (LnV q) ρ0 [] w := h.sta (by kernel_rfl)
  refine sim_enter Try.func14 ρ0 [.v (.pointer (some ⟨q.b, 0, none⟩)), LS p] [] (by kernel_rfl) rfl ?_
  have hR := Rel.start [] w ρ0
  refine sim_run 18 [] (hR.cast (by kernel_rfl)) (by kernel_rfl) trivial (fun ρ100 w100 hm100 hR100 => ?_)
  have hV := hV.moved (hm100.castL (by kernel_rfl))
  
  refine sim_call 8 [.v (.pointer (some ⟨q.b, 0, none⟩)), .slc 1 0 1 1] (by kernel_rfl) ?_
  refine (loans_any q _ 1 1 _ [p] _ hV.is hok (((by assumption : Rel _ _ _ _ _)).readsP (n := 1) (size := 1) (m := 1) (vs := [.string p]) (b := true) (by kernel_rfl) rfl) rfl (Nat.le_refl _) (by omega)).mono ?_
  rintro e2 w2 ⟨s, rfl, hL, htold, hb2⟩
  have hsz := ((by assumption : Rel _ _ _ _ _)).keeps.size
  have hL : LsO ρ100 _ w2 w.heap.size s.val s.vs := hL.start ((by assumption : Rel _ _ _ _ _)) hsz
  have hR2 := ((by assumption : Rel _ _ _ _ _)).below hb2
  refine Back.of (.v s.val) hR2 rfl ?_
  obtain ⟨As, cs, vs⟩ := s
  dsimp only [LsP.val] at hL htold ⊢
  have hvl : vs.length ≤ 100000 := by
    have h1 := congrArg List.length htold
    unfold told at h1
    rw [List.length_map] at h1
    have := q.loans_len [p]
    have := hok.len
    omega
  have ham : (q.loans [p]).map (·.amt) = vs.map (·.1.amt) := by rw [← htold]; unfold told; rw [List.map_map]; rfl
  have hpos := hok.amts [p]
  unfold LnP.used at *
  rw [ham] at hs hpos ⊢
  refine sim_run 4 [] (hR2.cast (by kernel_rfl)) (by kernel_rfl) trivial (fun ρ200 w200 hm200 hR200 => ?_)
  have hL := hL.moved (hm200.castL (by kernel_rfl))
  
  have hagz := hR200.ag_ 1 (by kernel_rfl)
  have hRz := hR200.cut (rs := [⟨[LB false], true⟩]) (by kernel_rfl) hagz.ag (by kernel_rfl)
  have hLz := hL.cut (rs := [⟨[LB false], true⟩]) hagz rfl (by kernel_rfl)
  refine sim_rs [⟨[LB false], true⟩] ?_
  refine sim_loop (ι := Nat) (T := []) (w0 := w) 0 [5, 12, 13] (fun i => [(14, LI i), (6, LI (sumI ((vs.map (·.1.amt)).take i)))]) (fun _ => [⟨[LB false], true⟩]) (fun i w1 => i ≤ vs.length ∧ LsO ρ200 [⟨[LB false], true⟩] w1 w.heap.size (.slice As vs.length cs) vs) (fun i => vs.length - i) (by kernel_rfl) (by kernel_rfl) hRz ⟨Nat.zero_le _, hLz⟩ ?_
  clear hL hLz hRz hagz hR200 hm200 hV
  rintro i d w3 hR3 ⟨hi, hL⟩
  have hag0 := hR3.ag_ 1 (by kernel_rfl)
  by_cases hlt : i < vs.length
  · obtain ⟨⟨x, pl⟩, hx⟩ : ∃ x, vs[i]? = some x := ⟨_, List.getElem?_eq_getElem hlt⟩
    have hpl := hL.pls _ (List.mem_of_getElem? hx)
    obtain ⟨xp, xa, xc, xn, xv⟩ := x
    obtain ⟨Ax, cx, hxv⟩ := own_row hpl.own
    have hxv : xv = .slice Ax pl.length cx := hxv
    subst hxv
    obtain ⟨gs, rfl⟩ := own_spot hL.row.own (by omega)
    have hsn : sumI ((vs.map (·.1.amt)).take (i + 1)) = sumI [sumI ((vs.map (·.1.amt)).take i), xn] := by
      have h1 : (vs.map (·.1.amt))[i]? = some xn := by rw [List.getElem?_map, hx]; rfl
      rw [List.take_add_one, h1, sumI_append]
      rfl
    have hb0 := sumI_take hpos i
    have hb1 := sumI_take hpos (i + 1)
    have hxn : 0 ≤ xn := hpos xn (List.mem_map.2 ⟨_, List.mem_of_getElem? hx, rfl⟩)
    have hcl := clampO_in (v := sumI ((vs.map (·.1.amt)).take (i + 1))) (by omega) (by omega)
    rw [hsn] at hcl hb1
    generalize hS : sumI ((vs.map (·.1.amt)).take i) = S at *
    have hb2 : S + (xn + 0) ≤ sumI (vs.map (·.1.amt)) := hb1.2
    refine sim_seeO (xss := vs.map fun v => v.1.cells) (sz := 5) [.string xp, .string xa, .string xc, .int .i64 xn, .slice Ax pl.length cx] i 1 (by kernel_rfl) (by rw [List.getElem?_map, hx]; rfl) hL.row (lo_in vs) (by omega) hlt hR3 (by kernel_rfl) (fun ρE hmE eE hRE => ?_)
    have hL := hL.moved hmE
    have hag0 := hag0.moved hmE
    have hag := hRE.ag_ 2 (by kernel_rfl)
    refine sim_run 5 [] (hRE.cast (by kernel_rfl)) (by kernel_rfl) trivial (fun ρ300 w300 hm300 hR300 => ?_)
    have hL := hL.moved (hm300.castL (by kernel_rfl))
    have hag0 := hag0.moved (hm300.castL (by kernel_rfl))
    have hag := hag.moved (hm300.castL (by kernel_rfl))
    refine sim_know 15 (decide ((↑i : Int) < (↑vs.length : Int))) true (by kernel_rfl) (decide_eq_true (by omega)) ?_
    refine sim_run 6 [] (hR300.cast (by kernel_rfl)) (by kernel_rfl) trivial (fun ρ301 w301 hm301 hR301 => ?_)
    have hL := hL.moved (hm301.castL (by kernel_rfl))
    have hag0 := hag0.moved (hm301.castL (by kernel_rfl))
    have hag := hag.moved (hm301.castL (by kernel_rfl))
    refine sim_place (.v (.slice (some ⟨gs, 0, none⟩) vs.length cs)) vs.length 5 i 1 0 (by kernel_rfl) (by omega) (by omega) rfl (by simp only [Nm.at_, hag.at_ 1 (by omega), eE, Nat.zero_add, Nat.add_zero, Int.toNat_natCast]) ?_
    refine sim_run 9 [] (hR301.cast (by kernel_rfl)) (by kernel_rfl) trivial (fun ρ303 w303 hm303 hR303 => ?_)
    have hL := hL.moved (hm303.castL (by kernel_rfl))
    have hag0 := hag0.moved (hm303.castL (by kernel_rfl))
    have hag := hag.moved (hm303.castL (by kernel_rfl))
    
    refine sim_call 25 [.ptr 0 0, .slc 3 0 2 2] (by kernel_rfl) ?_
    refine (accAdd_any _ _ false _ 2 2 [S, xn] _ (((by assumption : Rel _ _ _ _ _)).at_cell 0 0 (LB false) (by kernel_rfl)) (((by assumption : Rel _ _ _ _ _)).unfrozen (q := 0) (r := ⟨[LB false], true⟩) (by kernel_rfl) rfl (by show 0 < 1; omega)) _ (((by assumption : Rel _ _ _ _ _)).readsP (n := 3) (size := 1) (m := 2) (vs := [.int .i64 S, .int .i64 xn]) (b := true) (by kernel_rfl) rfl) (by intro x hx; simp only [List.mem_cons, List.not_mem_nil, or_false] at hx; unfold IsI64; rcases hx with rfl | rfl <;> omega) (by omega)).mono ?_
    rintro e7 w7 ⟨rfl, ho⟩
    rw [hcl.1] at ho
    obtain rfl : _ = w7 := (ho.elim (fun h => h.2) (fun h => by cases h.1))
    rw [hcl.2]
    refine Back.of (LI (sumI [S, xn])) ((by assumption : Rel _ _ _ _ _)) rfl ?_
    refine sim_run 7 [⟨7, 0, LI (IntKind.i64.wrap ((↑i : Int) + 1)), LI ((↑i : Int) + 1)⟩] (hR303.cast (by kernel_rfl)) (by kernel_rfl) ⟨eqi (IntWalk.i64_in _ (by omega)), trivial⟩ (fun ρ500 w500 hm500 hR500 => ?_)
    have hL := hL.moved (hm500.castL (by kernel_rfl))
    have hag0 := hag0.moved (hm500.castL (by kernel_rfl))
    have hag := hag.moved (hm500.castL (by kernel_rfl))
    
    exact sim_again (i + 1) (by kernel_rfl) (by show vs.length - (i + 1) < vs.length - i; omega) (by rw [hsn]; kernel_rfl) (by kernel_rfl) (by kernel_rfl) (hag0.ag) (Rel.cast (by assumption) (by kernel_rfl)) (by kernel_rfl) (by kernel_rfl) ⟨hlt, hL.cut hag0 rfl (by kernel_rfl)⟩
  · have hie : i = vs.length := by omega
    subst hie
    refine sim_run 5 [] (hR3.cast (by kernel_rfl)) (by kernel_rfl) trivial (fun ρ400 w400 hm400 hR400 => ?_)
    have hL := hL.moved (hm400.castL (by kernel_rfl))
    have hag0 := hag0.moved (hm400.castL (by kernel_rfl))
    refine sim_know 15 (decide ((↑vs.length : Int) < (↑vs.length : Int))) false (by kernel_rfl) (decide_eq_false (by omega)) ?_
    refine sim_run 1 [] (hR400.cast (by kernel_rfl)) (by kernel_rfl) trivial (fun ρ401 w401 hm401 hR401 => ?_)
    have hL := hL.moved (hm401.castL (by kernel_rfl))
    have hag0 := hag0.moved (hm401.castL (by kernel_rfl))
    refine sim_leave (by kernel_rfl) ?_
    refine sim_run 5 [] (hR401.cast (by kernel_rfl)) (by kernel_rfl) trivial (fun ρ402 w402 hm402 hR402 => ?_)
    have hL := hL.moved (hm402.castL (by kernel_rfl))
    have hag0 := hag0.moved (hm402.castL (by kernel_rfl))
    refine sim_ret (LI (sumI (List.take vs.length (List.map (fun x => x.fst.amt) vs)))) hR402 (by kernel_rfl) (by kernel_rfl) ?_
    
    exact ⟨by rw [← List.length_map (f := (·.1.amt)), List.take_length]; rfl, ((by assumption : Rel _ _ _ _ _)).toBelow⟩
end
end Go.Proofs.Ytioehmngkoffaaa
