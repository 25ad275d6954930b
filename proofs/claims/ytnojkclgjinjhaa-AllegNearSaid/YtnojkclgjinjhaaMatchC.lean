/-
  The contract of match.Differ: the names of what does not fit.
-/
import Derived.Test.YtnojkclgjinjhaaMatchA
import Derived.Test.YtnojkclgjinjhaaSimHN
namespace Go.Proofs.Ytnojkclgjinjhaa
open Go Go.RowKit
attribute [local irreducible] run goO goN ordGoN eqlOf eqlOper eqlOfO cellL leaveK someK nextK nextT nextOT nextOD loopBody loopRest loopK fillJ tmplOf tmplJ mergeT At AtO drawOk ordOf gateOf callC callO topOp topO idxOf appOf storeOf clearOf sliceOf calleeOf calleeO topQ idxQ newRowOf resL stepOp seek

def nmsD : List ByteArray := [⟨#[115, 116, 97, 116, 101]⟩, ⟨#[115, 105, 100, 101]⟩, ⟨#[112, 97, 114, 116, 121]⟩, ⟨#[97, 115, 115, 101, 116]⟩, ⟨#[113, 116, 121]⟩, ⟨#[99, 99, 121]⟩, ⟨#[100, 97, 121]⟩, ⟨#[116, 114, 97, 100, 101]⟩, ⟨#[97, 109, 111, 117, 110, 116]⟩, ⟨#[114, 101, 102]⟩]
def sne (a b : ByteArray) : Bool := !(a.toList == b.toList)
def farI (a b : Int) : Int := ((a - b).natAbs : Int)
/-- what does not fit, check by check -/
def bsD (x y : In) (c : Int) : List Bool := [x.state != 0 || y.state != 0, x.term.deliver == y.term.deliver, sne x.term.party y.term.other || sne y.term.party x.term.other, sne x.term.asset y.term.asset, x.term.qty != y.term.qty,
  sne x.term.ccy y.term.ccy, x.term.day != y.term.day, x.term.trade != y.term.trade, decide (c < 0) || decide (farI x.term.amount y.term.amount > max c 0), sne x.term.ref y.term.ref && sne x.term.ref ⟨#[]⟩ && sne y.term.ref ⟨#[]⟩]
def pickN : List ByteArray → List Bool → List ByteArray
  | n :: ns, b :: bs => if b then n :: pickN ns bs else pickN ns bs
  | _, _ => []
def differ (x y : In) (c : Int) : List ByteArray := pickN nmsD (bsD x y c)
def txts (l : List ByteArray) : List Value := l.map .string
/-- a new list of texts -/
def TextsN (w : World) (l : List ByteArray) (e : Ending) (w' : World) : Prop := ∃ A cap, e = .returned (.slice A l.length cap) ∧ w'.ownsRow w.heap.size 9 1 (.slice A l.length cap) l.length (txts l) ∧ Below w.heap.size w w'

def noText : ByteArray := ⟨#[]⟩
noncomputable def diffK : List It := loopK Try.f8 0
def setsD (k : Nat) (v : Value) : List (Nat × LV) := [(7, .v v), (122, LI k)]
/-- at the loop's head -/
noncomputable def diffC (b0 b1 b2 b3 b4 b5 b6 b7 b8 b9 : Bool) (d : Nat → Value) : Cfg := ⟨diffK, fillJ (tmplJ Try.f8.ntmps 0 [(7, .v (.slice none 0 0)), (120, .slc 2 0 10 10), (121, LI 10), (122, LI 0)]) d 0,
  [⟨[], false⟩, ⟨[], false⟩, ⟨[LS (nmsD.getD 0 noText), LB b0, LS (nmsD.getD 1 noText), LB b1, LS (nmsD.getD 2 noText), LB b2, LS (nmsD.getD 3 noText), LB b3, LS (nmsD.getD 4 noText), LB b4, LS (nmsD.getD 5 noText), LB b5, LS (nmsD.getD 6 noText), LB b6, LS (nmsD.getD 7 noText), LB b7, LS (nmsD.getD 8 noText), LB b8, LS (nmsD.getD 9 noText), LB b9], false⟩]⟩
noncomputable def cells2 (b0 b1 b2 b3 b4 b5 b6 b7 b8 b9 : Bool) : List LV := [LS (nmsD.getD 0 noText), LB b0, LS (nmsD.getD 1 noText), LB b1, LS (nmsD.getD 2 noText), LB b2, LS (nmsD.getD 3 noText), LB b3, LS (nmsD.getD 4 noText), LB b4, LS (nmsD.getD 5 noText), LB b5, LS (nmsD.getD 6 noText), LB b6, LS (nmsD.getD 7 noText), LB b7, LS (nmsD.getD 8 noText), LB b8, LS (nmsD.getD 9 noText), LB b9]
theorem diffC_loop (b0 b1 b2 b3 b4 b5 b6 b7 b8 b9 : Bool) (d : Nat → Value) : isLoop (diffC b0 b1 b2 b3 b4 b5 b6 b7 b8 b9 d) = true := by kernel_rfl

theorem pickN_take (ns : List ByteArray) (bs : List Bool) (k : Nat) (n : ByteArray) (b : Bool) (hn : ns[k]? = some n) (hb : bs[k]? = some b) : pickN (ns.take (k + 1)) (bs.take (k + 1)) = pickN (ns.take k) (bs.take k) ++ if b then [n] else [] := by
  induction k generalizing ns bs with
  | zero =>
    cases ns with
    | nil => simp at hn
    | cons a ns =>
      cases bs with
      | nil => simp at hb
      | cons c bs =>
        simp at hn hb
        subst hn hb
        simp [pickN]
  | succ k ih =>
    cases ns with
    | nil => simp at hn
    | cons a ns =>
      cases bs with
      | nil => simp at hb
      | cons c bs =>
        simp at hn hb
        have := ih ns bs hn hb
        simp only [List.take_succ_cons, pickN]
        rw [this]
        cases c <;> rfl
theorem txts_append (a b : List ByteArray) : txts (a ++ b) = txts a ++ txts b := by simp [txts]
theorem txts_length (a : List ByteArray) : (txts a).length = a.length := by simp [txts]
theorem pickN_length (ns : List ByteArray) (bs : List Bool) : (pickN ns bs).length ≤ ns.length := by
  induction ns generalizing bs with
  | nil => simp [pickN]
  | cons n ns ih =>
    cases bs with
    | nil => simp [pickN]
    | cons b bs =>
      have := ih bs
      cases b <;> simp [pickN] <;> omega
theorem textsN_of {w0 w' : World} {base : Nat} {v : Value} {l : List ByteArray} (h : w'.ownsRow base 9 1 v l.length (txts l)) (hb : w0.heap.size ≤ base) (hw : Below w0.heap.size w0 w') : TextsN w0 l (.returned v) w' := by
  have h2 : w'.ownsRow w0.heap.size 9 1 v l.length (txts l) := by
    refine ⟨h.1, ?_⟩
    rcases h.2 with h2 | ⟨g, cap, cur, e, hg, r⟩
    · exact .inl h2
    · exact .inr ⟨g, cap, cur, e, Nat.le_trans hb hg, r⟩
  rcases h.2 with ⟨rfl, h0⟩ | ⟨g, cap, cur, rfl, r⟩
  · refine ⟨none, 0, by rw [h0], ?_, hw⟩
    rw [h0] at h2 ⊢
    exact h2
  · exact ⟨_, cap, rfl, h2, hw⟩
theorem text_info : (Try.prog.info? 9).map (fun i => (i.zero, i.size, i.bytes)) = some (some (.string ⟨#[]⟩), 1, 16) := by kernel_rfl

theorem cellsD (bs : List Bool) (k : Nat) (hk : k < 10) (cells : List LV) (hc : ∀ j, j < 10 → cells[2 * j]? = some (LS (nmsD.getD j noText)) ∧ cells[2 * j + 1]? = some (LB (bs.getD j false))) :
    ∀ (j : Nat) (v : LV), [LS (nmsD.getD k noText), LB (bs.getD k false)][j]? = some v → cells[k * 2 + j]? = some v := by
  intro j v hv
  obtain ⟨h1, h2⟩ := hc k hk
  match j, hv with
  | 0, hv =>
    have e : v = LS (nmsD.getD k noText) := by injection hv with hv; exact hv.symm
    rw [e, ← h1]
    congr 1; omega
  | 1, hv =>
    have e : v = LB (bs.getD k false) := by injection hv with hv; exact hv.symm
    rw [e, ← h2]
    congr 1; omega

set_option maxRecDepth 100000 in
set_option maxHeartbeats 1000000 in
theorem differ_loop (b0 b1 b2 b3 b4 b5 b6 b7 b8 b9 : Bool) (d : Nat → Value) (w0 w : World) (ρ : Nm) (hR : Rel [] w0 ρ (diffC b0 b1 b2 b3 b4 b5 b6 b7 b8 b9 d).rs w) :
    At Try.prog (bodyPost Try.prog Try.f8 (TextsN w0 (pickN nmsD [b0, b1, b2, b3, b4, b5, b6, b7, b8, b9]))) (diffC b0 b1 b2 b3 b4 b5 b6 b7 b8 b9 d) ρ w := by
  obtain ⟨i0, hi0, hz0, hz1, hz2⟩ := info_parts text_info
  have hcl : ∀ (j : Nat), j < 10 → (cells2 b0 b1 b2 b3 b4 b5 b6 b7 b8 b9)[2 * j]? = some (LS (nmsD.getD j noText)) ∧ (cells2 b0 b1 b2 b3 b4 b5 b6 b7 b8 b9)[2 * j + 1]? = some (LB ([b0, b1, b2, b3, b4, b5, b6, b7, b8, b9].getD j false)) := fun j hj => match j, hj with
    | 0, _ => ⟨rfl, rfl⟩ | 1, _ => ⟨rfl, rfl⟩ | 2, _ => ⟨rfl, rfl⟩ | 3, _ => ⟨rfl, rfl⟩ | 4, _ => ⟨rfl, rfl⟩ | 5, _ => ⟨rfl, rfl⟩ | 6, _ => ⟨rfl, rfl⟩ | 7, _ => ⟨rfl, rfl⟩ | 8, _ => ⟨rfl, rfl⟩ | 9, _ => ⟨rfl, rfl⟩
  have hlen : nmsD.length = 10 := rfl
  refine sim_loop (ι := Nat × Value) (T := []) (w0 := w0) (0, .slice none 0 0) [120, 121] (fun x => setsD x.1 x.2)
    (fun _ => (diffC b0 b1 b2 b3 b4 b5 b6 b7 b8 b9 d).rs)
    (fun x w' => x.1 ≤ 10 ∧ w'.ownsRow w.heap.size 9 1 x.2 (pickN (nmsD.take x.1) ([b0, b1, b2, b3, b4, b5, b6, b7, b8, b9].take x.1)).length (txts (pickN (nmsD.take x.1) ([b0, b1, b2, b3, b4, b5, b6, b7, b8, b9].take x.1))) ∧ w.heap.size ≤ w'.heap.size)
    (fun x => 10 - x.1) (diffC_loop ..) (by kernel_rfl) hR ⟨Nat.zero_le _, World.ownsRow_nil _ _ _ _, Nat.le_refl _⟩ ?_
  rintro ⟨k, v⟩ d' w' hR' ⟨hk, hown, hsz⟩
  by_cases hlt : k < 10
  · refine sim_run 1000 [⟨3, 0, LB (decide ((k : Int) < (10 : Int))), LB true⟩] hR' (by kernel_rfl) ⟨eqb (by simp; omega), trivial⟩ (fun ρ1 w1 hm1 hR1 => ?_)
    have hl1 := hR1.lt 2 ⟨cells2 b0 b1 b2 b3 b4 b5 b6 b7 b8 b9, false⟩ (by kernel_rfl)
    have hc1 := hR1.cell 2 ⟨cells2 b0 b1 b2 b3 b4 b5 b6 b7 b8 b9, false⟩ (by kernel_rfl)
    generalize hnk : nmsD.getD k noText = nk at *
    generalize hbk : [b0, b1, b2, b3, b4, b5, b6, b7, b8, b9].getD k false = bk at *
    refine sim_index (.slc 2 0 10 10) 10 2 k 3 (by kernel_rfl) (by kernel_rfl) (by omega) (by omega) rfl hR1 [LS nk, LB bk] (by kernel_rfl) hl1 (fun j v hv => ?_) (fun n r hn hw _ => ?_) (fun ρ2 ha2 hn2 hR2 => ?_)
    · subst hnk hbk
      have := hc1 (k * 2 + j) v (cellsD _ k hlt _ hcl j v hv)
      unfold Nm.at_ at this
      rw [← this]
      congr 2
      simp only [Int.toNat_natCast]
      omega
    · exact wrS_allRo (ρ := ρ1) (g := (ρ1 n).1) (by kernel_rfl) ⟨n, r, hn, hw, rfl⟩
    · cases bk with
      | true =>
        refine sim_run 1000 [] hR2 (by kernel_rfl) trivial (fun ρ3 w3 hm3 hR3 => ?_)
        have hg : ∀ g, v.ownBlock = some g → w.heap.size ≤ g ∧ g < w'.heap.size := fun g hg => hown.lt g hg
        have hown3 := (own_kept hown hm1.kept (fun g _ h => wrS_allRo (by kernel_rfl) h))
        have hown4 := (own_kept hown3 hm3.kept (fun g _ h => wrS_allRo (by kernel_rfl) h))
        have hc5 := hR3.cell 5 ⟨[LS nk], true⟩ (by kernel_rfl)
        have hpk := pickN_take nmsD [b0, b1, b2, b3, b4, b5, b6, b7, b8, b9] k nk true (by rw [← hnk, List.getD_eq_getElem?_getD, List.getElem?_eq_getElem (by rw [hlen]; omega)]; rfl) (by rw [← hbk, List.getD_eq_getElem?_getD, List.getElem?_eq_getElem (by simp; omega)]; rfl)
        have hpl := pickN_length (nmsD.take k) ([b0, b1, b2, b3, b4, b5, b6, b7, b8, b9].take k)
        have hpl2 : (pickN (nmsD.take k) ([b0, b1, b2, b3, b4, b5, b6, b7, b8, b9].take k)).length ≤ 10 := Nat.le_trans hpl (by rw [List.length_take, hlen]; omega)
        have hfar := fun g (hg' : v.ownBlock = some g) => reg_far ((hm1.trans (Moved.ext_ro ha2 (by kernel_rfl))).trans hm3) (by kernel_rfl) [2, 3] (by kernel_rfl) (hg g hg').2 (fun q hq => by
          have e2 : (ρ3 2).1 = (ρ 2).1 := by rw [hm3.at_ 2 (by kernel_rfl), ha2 2 (by decide), hm1.at_ 2 (by kernel_rfl)]
          have e3 : (ρ3 3).1 = (ρ 2).1 := by rw [hm3.at_ 3 (by kernel_rfl), hn2, hm1.at_ 2 (by kernel_rfl)]
          have hlt0 := hR.lt 2 _ rfl
          have := (hg g hg').1
          rcases List.mem_cons.1 hq with rfl | hq
          · rw [e2]; omega
          · rw [List.mem_singleton.1 hq, e3]; omega)
        refine sim_append 30 (.v v) (.slc 5 0 1 1) (by kernel_rfl) hR3 Try.underlying30 hi0 hz0 hz1 hz2 rfl (by omega) rfl hown4 rfl [LS nk] rfl (fun j u hu => ?_) rfl ?_ ?_ ?_ ?_ (fun g hg' => hfar g hg') (fun v' w4 hown' hgr hat hR4 => ?_)
        · show w3.cell? ((ρ3.at_ 5 0).add j) = _
          rw [at_add, Nat.zero_add]
          exact hc5 j u hu
        · exact Nat.le_trans (Nat.add_le_add_right hpl2 1) (by decide)
        · exact Nat.le_trans (Nat.mul_le_mul_right 16 (Nat.add_le_add_right hpl2 1)) (by decide)
        · exact Nat.le_trans hsz (Nat.le_trans hm1.kept.size hm3.kept.size)
        · exact hR.keeps.size
        · refine sim_run 1000 [⟨7, 0, LI (IntKind.i64.wrap ((k : Int) + 1)), LI ((k + 1 : Nat) : Int)⟩] hR4 (by kernel_rfl) ⟨eqi (by rw [IntWalk.i64_in _ (by omega)]; omega), trivial⟩ (fun ρ5 w5 hm5 hR5 => ?_)
          have hag := (((hm1.agN 3 (by kernel_rfl)).tr ha2).tr (hm3.agN 3 (by kernel_rfl))).tr (hm5.agN 3 (by kernel_rfl))
          refine sim_again (k + 1, v') (by kernel_rfl) (show 10 - (k + 1) < 10 - k by omega) (by kernel_rfl) (by kernel_rfl) (by kernel_rfl) hag hR5 (by kernel_rfl) (by kernel_rfl) ⟨hlt, ?_, ?_⟩
          · have h6 := own_kept hown' hm5.kept (fun g hg5 h => ?_)
            · simp only [hpk, if_true, txts_append, List.length_append]
              exact h6
            · rcases hat with e | e
              · rw [e] at hg5
                have := (hg g hg5).2
                rcases ((hm1.trans (Moved.ext_ro ha2 (by kernel_rfl))).trans hm3).wrs g h with h | h
                · exact wrS_allRo (by kernel_rfl) h
                · omega
              · rw [e] at hg5
                injection hg5 with hg5
                obtain ⟨n, r, hn, _, hng⟩ := h
                have := hR3.lt n r hn
                omega
          · exact Nat.le_trans (Nat.le_trans hsz (Nat.le_trans hm1.kept.size hm3.kept.size)) (Nat.le_trans hgr.size hm5.kept.size)
      | false =>
        refine sim_run 1000 [⟨7, 0, LI (IntKind.i64.wrap ((k : Int) + 1)), LI ((k + 1 : Nat) : Int)⟩] hR2 (by kernel_rfl) ⟨eqi (by rw [IntWalk.i64_in _ (by omega)]; omega), trivial⟩ (fun ρ3 w3 hm3 hR3 => ?_)
        have hpk := pickN_take nmsD [b0, b1, b2, b3, b4, b5, b6, b7, b8, b9] k nk false (by rw [← hnk, List.getD_eq_getElem?_getD, List.getElem?_eq_getElem (by rw [hlen]; omega)]; rfl) (by rw [← hbk, List.getD_eq_getElem?_getD, List.getElem?_eq_getElem (by simp; omega)]; rfl)
        have hown3 := (own_kept hown hm1.kept (fun g _ h => wrS_allRo (by kernel_rfl) h))
        have hown4 := (own_kept hown3 hm3.kept (fun g _ h => wrS_allRo (by kernel_rfl) h))
        have hag := ((hm1.agN 3 (by kernel_rfl)).tr ha2).tr (hm3.agN 3 (by kernel_rfl))
        refine sim_again (k + 1, v) (by kernel_rfl) (show 10 - (k + 1) < 10 - k by omega) (by kernel_rfl) (by kernel_rfl) (by kernel_rfl) hag hR3 (by kernel_rfl) (by kernel_rfl) ⟨hlt, ?_, Nat.le_trans hsz (Nat.le_trans hm1.kept.size hm3.kept.size)⟩
        have e : pickN (nmsD.take (k + 1)) ([b0, b1, b2, b3, b4, b5, b6, b7, b8, b9].take (k + 1)) = pickN (nmsD.take k) ([b0, b1, b2, b3, b4, b5, b6, b7, b8, b9].take k) := by rw [hpk]; simp
        simp only [e]
        exact hown4
  · have hk10 : k = 10 := by have : k ≤ 10 := hk; omega
    subst hk10
    refine sim_run 1000 [⟨3, 0, LB (decide (((10 : Nat) : Int) < (10 : Int))), LB false⟩] hR' (by kernel_rfl) ⟨eqb (by decide), trivial⟩ (fun ρ1 w1 hm1 hR1 => ?_)
    refine sim_leave (by kernel_rfl) ?_
    refine sim_run 1000 [] hR1 (by kernel_rfl) trivial (fun ρ2 w2 hm2 hR2 => ?_)
    refine sim_ret (.v v) hR2 (by kernel_rfl) (by kernel_rfl) ?_
    have hown3 := (own_kept hown hm1.kept (fun g _ h => wrS_allRo (by kernel_rfl) h))
    have hown4 := (own_kept hown3 hm2.kept (fun g _ h => wrS_allRo (by kernel_rfl) h))
    rw [show nmsD.take 10 = nmsD from rfl, show [b0, b1, b2, b3, b4, b5, b6, b7, b8, b9].take 10 = [b0, b1, b2, b3, b4, b5, b6, b7, b8, b9] from rfl] at hown4
    exact textsN_of hown4 hR.keeps.size hR2.toBelow

theorem amount_test {a b c : Int} (hc : Is64 c) (h : 0 ≤ c) : decide (farI a b > IntKind.u64.wrap (if 0 > c then 0 else c)) = decide (farI a b > max c 0) := by
  obtain ⟨_, h2⟩ := hc
  have e : IntKind.u64.wrap (if 0 > c then 0 else c) = max c 0 := by
    rw [if_neg (by omega), IntKind.wrap_u64]
    omega
  rw [e]
theorem bsD_yes {x y : In} {c : Int} {b1 b2 b4 b5 : Bool} (h1 : (x.state != 0) = b1) (h2 : sne x.term.party y.term.other = b2) (h3 : decide (c < 0) = true) (h4 : sne x.term.ref y.term.ref = b4) (h5 : sne x.term.ref noText = b5) :
    bsD x y c = [b1 || (y.state != 0), x.term.deliver == y.term.deliver, b2 || sne y.term.party x.term.other, sne x.term.asset y.term.asset, x.term.qty != y.term.qty, sne x.term.ccy y.term.ccy, x.term.day != y.term.day, x.term.trade != y.term.trade, true, (b4 && b5) && sne y.term.ref noText] := by
  unfold bsD
  rw [h1, h2, h3, h4, show (⟨#[]⟩ : ByteArray) = noText from rfl, h5]
  rfl
theorem bsD_no {x y : In} {c : Int} {b1 b2 b4 b5 : Bool} (hc : Is64 c) (h1 : (x.state != 0) = b1) (h2 : sne x.term.party y.term.other = b2) (h3 : decide (c < 0) = false) (h4 : sne x.term.ref y.term.ref = b4) (h5 : sne x.term.ref noText = b5) :
    bsD x y c = [b1 || (y.state != 0), x.term.deliver == y.term.deliver, b2 || sne y.term.party x.term.other, sne x.term.asset y.term.asset, x.term.qty != y.term.qty, sne x.term.ccy y.term.ccy, x.term.day != y.term.day, x.term.trade != y.term.trade,
      decide (farI x.term.amount y.term.amount > IntKind.u64.wrap (if 0 > c then 0 else c)), (b4 && b5) && sne y.term.ref noText] := by
  unfold bsD
  rw [amount_test hc (by simpa using h3), h1, h2, h3, h4, show (⟨#[]⟩ : ByteArray) = noText from rfl, h5]
  rfl
abbrev hintsD (x y : In) (c : Int) (b1 b2 b3 b4 : Bool) : List Hint := [⟨2, 2, LB (x.state != 0), LB b1⟩, ⟨2, 23, LB (sne x.term.party y.term.other), LB b2⟩, ⟨2, 75, LB (decide (c < 0)), LB b3⟩, ⟨2, 96, LB (sne x.term.ref y.term.ref), LB b4⟩]
abbrev hintE (x : In) (b4 b5 : Bool) : Hint := ⟨2, 102, LB (bif b4 then sne x.term.ref noText else false), LB (b4 && b5)⟩
noncomputable abbrev caseC (x y : In) (b1 b2 b4 b5 b8 : Bool) (d : Nat → Value) : Cfg := diffC (b1 || (y.state != 0)) (x.term.deliver == y.term.deliver) (b2 || sne y.term.party x.term.other) (sne x.term.asset y.term.asset) (x.term.qty != y.term.qty) (sne x.term.ccy y.term.ccy) (x.term.day != y.term.day) (x.term.trade != y.term.trade) b8 ((b4 && b5) && sne y.term.ref noText) d
noncomputable abbrev tmplD : List (Option LV) := tmplJ Try.f8.ntmps 0 [(7, .v (.slice none 0 0)), (120, .slc 2 0 10 10), (121, LI 10), (122, LI 0)]
set_option maxRecDepth 100000 in
set_option maxHeartbeats 1000000 in
theorem differ_any (x y : In) (hx : x.ok) (hy : y.ok) (c : Int) (hc : Is64 c) (w : World) : Calls Try.prog 8 #[x.val, y.val, .int .i64 c] w (TextsN w (differ x y c)) := by
  obtain ⟨b1, h1⟩ : ∃ b, (x.state != 0) = b := ⟨_, rfl⟩
  obtain ⟨b2, h2⟩ : ∃ b, sne x.term.party y.term.other = b := ⟨_, rfl⟩
  obtain ⟨b4, h4⟩ : ∃ b, sne x.term.ref y.term.ref = b := ⟨_, rfl⟩
  obtain ⟨b5, h5⟩ : ∃ b, sne x.term.ref noText = b := ⟨_, rfl⟩
  have hE : (bif b4 then sne x.term.ref noText else false) = (b4 && b5) := by rw [← h5]; cases b4 <;> rfl
  refine sim_enter Try.func8 ρ0 [.v x.val, .v y.val, LI c] [] (by kernel_rfl) rfl ?_
  refine sim_run 12 [] (Rel.start [] w ρ0) (by kernel_rfl) trivial (fun ρ1 w1 hm1 hR1 => ?_)
  refine sim_draw [] (by kernel_rfl) (by kernel_rfl) hR1 (fun hO => ?_)
  cases h3 : decide (c < 0) with
  | true =>
    refine sim_ord (hintsD x y c b1 b2 true b4 ++ [hintE x b4 b5]) hO (by cases b1 <;> cases b2 <;> cases b4 <;> cases b5 <;> kernel_rfl) ⟨eqb h1, eqb h2, eqb h3, eqb h4, eqb hE, trivial⟩ (fun ρ2 w2 hm2 hR2 => ?_)
    refine sim_ord_end (by cases b1 <;> cases b2 <;> cases b4 <;> cases b5 <;> kernel_rfl) ?_
    refine sim_run 1000 [] hR2.rel (by cases b1 <;> cases b2 <;> cases b4 <;> cases b5 <;> kernel_rfl) trivial (fun ρ3 w3 hm3 hR3 => ?_)
    refine sim_to diffK tmplD (caseC x y b1 b2 b4 b5 true (fun _ => undef)).rs (by cases b1 <;> cases b2 <;> cases b4 <;> cases b5 <;> kernel_rfl) (by cases b1 <;> cases b2 <;> cases b4 <;> cases b5 <;> kernel_rfl) (by cases b1 <;> cases b2 <;> cases b4 <;> cases b5 <;> kernel_rfl) (fun d => ?_)
    have := differ_loop _ _ _ _ _ _ _ _ _ _ d w w3 ρ3 ((hR3.forget (fun i => Nat.blt i 2)).ro.cast (rs' := (caseC x y b1 b2 b4 b5 true d).rs) (by cases b1 <;> cases b2 <;> cases b4 <;> cases b5 <;> kernel_rfl))
    unfold differ
    rw [bsD_yes h1 h2 h3 h4 h5]
    exact this
  | false =>
    refine sim_ord (hintsD x y c b1 b2 false b4) hO (by cases b1 <;> cases b2 <;> cases b4 <;> cases b5 <;> kernel_rfl) ⟨eqb h1, eqb h2, eqb h3, eqb h4, trivial⟩ (fun ρ2 w2 hm2 hR2 => ?_)
    refine sim_ord_call (T := []) (w0 := w) 19 [LI x.term.amount, LI y.term.amount] (by cases b1 <;> cases b2 <;> cases b4 <;> cases b5 <;> kernel_rfl) ?_
    refine (far_any x.term.amount y.term.amount hx.term.amount hy.term.amount w2).mono ?_
    rintro e w2' ⟨rfl, rfl⟩
    have hR2' : RelO [] w (nextO (goO Try.prog (hintsD x y c b1 b2 false b4) (ordC (run Try.prog [] 12 (startC Try.f8 [.v x.val, .v y.val, LI c] [])).1 [])).1 (.v (.int .u64 (farI x.term.amount y.term.amount))) (goO Try.prog (hintsD x y c b1 b2 false b4) (ordC (run Try.prog [] 12 (startC Try.f8 [.v x.val, .v y.val, LI c] [])).1 [])).1.rs) ρ1 ρ2 w2 := ⟨hR2.rel, hR2.agree, hR2.und, hR2.len, fun _ => hR2.pre (by cases b1 <;> cases b2 <;> cases b4 <;> cases b5 <;> kernel_rfl)⟩
    refine ⟨.v (.int .u64 (farI x.term.amount y.term.amount)), _, ρ2, rfl, rfl, hR2', ?_⟩
    refine sim_ord [hintE x b4 b5] hR2' (by cases b1 <;> cases b2 <;> cases b4 <;> cases b5 <;> kernel_rfl) ⟨eqb hE, trivial⟩ (fun ρ3 w3 hm3 hR3 => ?_)
    refine sim_ord_end (by cases b1 <;> cases b2 <;> cases b4 <;> cases b5 <;> kernel_rfl) ?_
    refine sim_run 1000 [] hR3.rel (by cases b1 <;> cases b2 <;> cases b4 <;> cases b5 <;> kernel_rfl) trivial (fun ρ4 w4 hm4 hR4 => ?_)
    refine sim_to diffK tmplD (caseC x y b1 b2 b4 b5 (decide (farI x.term.amount y.term.amount > IntKind.u64.wrap (if 0 > c then 0 else c))) (fun _ => undef)).rs (by cases b1 <;> cases b2 <;> cases b4 <;> cases b5 <;> kernel_rfl) (by cases b1 <;> cases b2 <;> cases b4 <;> cases b5 <;> kernel_rfl) (by cases b1 <;> cases b2 <;> cases b4 <;> cases b5 <;> kernel_rfl) (fun d => ?_)
    have := differ_loop _ _ _ _ _ _ _ _ _ _ d w w4 ρ4 ((hR4.forget (fun i => Nat.blt i 2)).ro.cast (rs' := (caseC x y b1 b2 b4 b5 (decide (farI x.term.amount y.term.amount > IntKind.u64.wrap (if 0 > c then 0 else c))) d).rs) (by cases b1 <;> cases b2 <;> cases b4 <;> cases b5 <;> kernel_rfl))
    unfold differ
    rw [bsD_no hc h1 h2 h3 h4 h5]
    exact this
end Go.Proofs.Ytnojkclgjinjhaa
