/-
  life.Next; book.may; elements of the book's row come into view and are written.
-/
import Derived.Test.YtodjhkmbgennaaaBookC
namespace Go.Proofs.Ytodjhkmbgennaaa
open Go Go.RowKit
attribute [local irreducible] run goO goN ordGoN eqlOf eqlOper eqlOfO cellL leaveK someK nextK nextT nextOT nextOD loopBody loopRest loopK fillJ tmplOf tmplJ mergeT At AtO drawOk ordOf gateOf callC callO topOp topO idxOf appOf storeOf clearOf sliceOf calleeOf calleeO topQ idxQ newRowOf resL stepOp seek

/-- the state that follows (events: 0 match, 1 part, 2 settle, 3 cancel, 4 expire), and whether there is one -/
def nextM (s e : Int) : Int × Bool :=
  if openB s = false then (s, false) else if e = 0 ∧ s = 0 then (1, true) else if e = 1 ∧ s ≠ 0 then (2, true) else if e = 2 ∧ s ≠ 0 then (3, true) else if e = 3 then (4, true) else if e = 4 then (5, true) else (s, false)
theorem openB_iff (s : Int) : openB s = true ↔ 0 ≤ s ∧ s ≤ 2 := by unfold openB; simp
set_option maxRecDepth 100000 in
theorem next_any (s ev : Int) (w : World) : Calls Try.prog 63 #[.int .i64 s, .int .i64 ev] w fun e w' => e = .returned (.tuple #[.int .i64 (nextM s ev).1, .bool (nextM s ev).2]) ∧ Below w.heap.size w w' := by
  refine sim_enter Try.func63 ρ0 [LI s, LI ev] [] (by kernel_rfl) rfl ?_
  have hR := Rel.start [] w ρ0
  have hs := openB_iff s
  refine sim_run 16 [] hR (by kernel_rfl) trivial (fun ρ200 w200 hm200 hR200 => ?_)
  refine sim_call 31 [.slc 0 0 1 1] (by kernel_rfl) ?_
  refine Calls.mono (open_any _ _ _ _ (hR200.at_cell 0 0 (LI s) (by kernel_rfl))) ?_
  rintro e201 w201 ⟨rfl, hb201⟩
  have hR201 := hR200.below hb201
  refine Back.of (LB (openB s)) hR201 rfl ?_
  refine sim_run 3 [] hR201 (by kernel_rfl) trivial (fun ρ202 w202 hm202 hR202 => ?_)
  refine sim_fork 8 (!openB s) (by kernel_rfl) (fun hq203 => ?_) (fun hq203 => ?_)
  have hq203 := nb_t hq203
  have hq203 := nb_f hq203
  refine sim_run 12 [] hR202 (by kernel_rfl) trivial (fun ρ204 w204 hm204 hR204 => ?_)
  refine sim_ret (.tup [LI s, LB (s != s)]) hR204 (by kernel_rfl) (by kernel_rfl) ?_
  exact ⟨retv_tup2 (val_int (by clear hR204 hm204 hR202 hm202 hR201 hb201 hR200 hm200 hR; grind [openB, nextM])) (val_bool (by clear hR204 hm204 hR202 hm202 hR201 hb201 hR200 hm200 hR; grind [openB, nextM])), hR204.toBelow⟩
  have hq203 := nb_f hq203
  have hq203 := nb_t hq203
  refine sim_run 6 [] hR202 (by kernel_rfl) trivial (fun ρ205 w205 hm205 hR205 => ?_)
  refine sim_fork 16 (ev == 0) (by kernel_rfl) (fun hq206 => ?_) (fun hq206 => ?_)
  have hq206 := of_decide_eq_true hq206
  refine sim_run 5 [] hR205 (by kernel_rfl) trivial (fun ρ207 w207 hm207 hR207 => ?_)
  refine sim_fork 13 (s == 0) (by kernel_rfl) (fun hq208 => ?_) (fun hq208 => ?_)
  have hq208 := of_decide_eq_true hq208
  refine sim_run 14 [] hR207 (by kernel_rfl) trivial (fun ρ209 w209 hm209 hR209 => ?_)
  refine sim_ret (.tup [LI 1, LB (1 != s)]) hR209 (by kernel_rfl) (by kernel_rfl) ?_
  exact ⟨retv_tup2 (val_int (by clear hR209 hm209 hR207 hm207 hR205 hm205 hR202 hm202 hR201 hb201 hR200 hm200 hR; grind [openB, nextM])) (val_bool (by clear hR209 hm209 hR207 hm207 hR205 hm205 hR202 hm202 hR201 hb201 hR200 hm200 hR; grind [openB, nextM])), hR209.toBelow⟩
  have hq208 := of_decide_eq_false hq208
  refine sim_run 6 [] hR207 (by kernel_rfl) trivial (fun ρ210 w210 hm210 hR210 => ?_)
  refine sim_know 23 (ev == 1) false (by kernel_rfl) (decide_eq_false (by omega)) ?_
  refine sim_run 11 [] hR210 (by kernel_rfl) trivial (fun ρ211 w211 hm211 hR211 => ?_)
  refine sim_know 30 (ev == 2) false (by kernel_rfl) (decide_eq_false (by omega)) ?_
  refine sim_run 12 [] hR211 (by kernel_rfl) trivial (fun ρ212 w212 hm212 hR212 => ?_)
  refine sim_know 34 (ev == 3) false (by kernel_rfl) (decide_eq_false (by omega)) ?_
  refine sim_run 7 [] hR212 (by kernel_rfl) trivial (fun ρ213 w213 hm213 hR213 => ?_)
  refine sim_know 37 (ev == 4) false (by kernel_rfl) (decide_eq_false (by omega)) ?_
  refine sim_run 12 [] hR213 (by kernel_rfl) trivial (fun ρ214 w214 hm214 hR214 => ?_)
  refine sim_ret (.tup [LI s, LB (s != s)]) hR214 (by kernel_rfl) (by kernel_rfl) ?_
  exact ⟨retv_tup2 (val_int (by clear hR214 hm214 hR213 hm213 hR212 hm212 hR211 hm211 hR210 hm210 hR207 hm207 hR205 hm205 hR202 hm202 hR201 hb201 hR200 hm200 hR; grind [openB, nextM])) (val_bool (by clear hR214 hm214 hR213 hm213 hR212 hm212 hR211 hm211 hR210 hm210 hR207 hm207 hR205 hm205 hR202 hm202 hR201 hb201 hR200 hm200 hR; grind [openB, nextM])), hR214.toBelow⟩
  have hq206 := of_decide_eq_false hq206
  refine sim_run 11 [] hR205 (by kernel_rfl) trivial (fun ρ215 w215 hm215 hR215 => ?_)
  refine sim_fork 23 (ev == 1) (by kernel_rfl) (fun hq216 => ?_) (fun hq216 => ?_)
  have hq216 := of_decide_eq_true hq216
  refine sim_run 5 [] hR215 (by kernel_rfl) trivial (fun ρ217 w217 hm217 hR217 => ?_)
  refine sim_fork 20 (s != 0) (by kernel_rfl) (fun hq218 => ?_) (fun hq218 => ?_)
  have hq218 := nb_t hq218
  have hq218 := of_decide_eq_false hq218
  refine sim_run 6 [] hR217 (by kernel_rfl) trivial (fun ρ219 w219 hm219 hR219 => ?_)
  refine sim_ret (.tup [LI 2, LB true]) hR219 (by kernel_rfl) (by kernel_rfl) ?_
  exact ⟨retv_tup2 (val_int (by clear hR219 hm219 hR217 hm217 hR215 hm215 hR205 hm205 hR202 hm202 hR201 hb201 hR200 hm200 hR; grind [openB, nextM])) (val_bool (by clear hR219 hm219 hR217 hm217 hR215 hm215 hR205 hm205 hR202 hm202 hR201 hb201 hR200 hm200 hR; grind [openB, nextM])), hR219.toBelow⟩
  have hq218 := nb_f hq218
  have hq218 := of_decide_eq_true hq218
  refine sim_run 6 [] hR217 (by kernel_rfl) trivial (fun ρ220 w220 hm220 hR220 => ?_)
  refine sim_know 30 (ev == 2) false (by kernel_rfl) (decide_eq_false (by omega)) ?_
  refine sim_run 12 [] hR220 (by kernel_rfl) trivial (fun ρ221 w221 hm221 hR221 => ?_)
  refine sim_know 34 (ev == 3) false (by kernel_rfl) (decide_eq_false (by omega)) ?_
  refine sim_run 7 [] hR221 (by kernel_rfl) trivial (fun ρ222 w222 hm222 hR222 => ?_)
  refine sim_know 37 (ev == 4) false (by kernel_rfl) (decide_eq_false (by omega)) ?_
  refine sim_run 12 [] hR222 (by kernel_rfl) trivial (fun ρ223 w223 hm223 hR223 => ?_)
  refine sim_ret (.tup [LI s, LB (s != s)]) hR223 (by kernel_rfl) (by kernel_rfl) ?_
  exact ⟨retv_tup2 (val_int (by clear hR223 hm223 hR222 hm222 hR221 hm221 hR220 hm220 hR217 hm217 hR215 hm215 hR205 hm205 hR202 hm202 hR201 hb201 hR200 hm200 hR; grind [openB, nextM])) (val_bool (by clear hR223 hm223 hR222 hm222 hR221 hm221 hR220 hm220 hR217 hm217 hR215 hm215 hR205 hm205 hR202 hm202 hR201 hb201 hR200 hm200 hR; grind [openB, nextM])), hR223.toBelow⟩
  have hq216 := of_decide_eq_false hq216
  refine sim_run 11 [] hR215 (by kernel_rfl) trivial (fun ρ224 w224 hm224 hR224 => ?_)
  refine sim_fork 30 (ev == 2) (by kernel_rfl) (fun hq225 => ?_) (fun hq225 => ?_)
  have hq225 := of_decide_eq_true hq225
  refine sim_run 5 [] hR224 (by kernel_rfl) trivial (fun ρ226 w226 hm226 hR226 => ?_)
  refine sim_fork 27 (s != 0) (by kernel_rfl) (fun hq227 => ?_) (fun hq227 => ?_)
  have hq227 := nb_t hq227
  have hq227 := of_decide_eq_false hq227
  refine sim_run 14 [] hR226 (by kernel_rfl) trivial (fun ρ228 w228 hm228 hR228 => ?_)
  refine sim_ret (.tup [LI 3, LB (3 != s)]) hR228 (by kernel_rfl) (by kernel_rfl) ?_
  exact ⟨retv_tup2 (val_int (by clear hR228 hm228 hR226 hm226 hR224 hm224 hR215 hm215 hR205 hm205 hR202 hm202 hR201 hb201 hR200 hm200 hR; grind [openB, nextM])) (val_bool (by clear hR228 hm228 hR226 hm226 hR224 hm224 hR215 hm215 hR205 hm205 hR202 hm202 hR201 hb201 hR200 hm200 hR; grind [openB, nextM])), hR228.toBelow⟩
  have hq227 := nb_f hq227
  have hq227 := of_decide_eq_true hq227
  refine sim_run 7 [] hR226 (by kernel_rfl) trivial (fun ρ229 w229 hm229 hR229 => ?_)
  refine sim_know 34 (ev == 3) false (by kernel_rfl) (decide_eq_false (by omega)) ?_
  refine sim_run 7 [] hR229 (by kernel_rfl) trivial (fun ρ230 w230 hm230 hR230 => ?_)
  refine sim_know 37 (ev == 4) false (by kernel_rfl) (decide_eq_false (by omega)) ?_
  refine sim_run 12 [] hR230 (by kernel_rfl) trivial (fun ρ231 w231 hm231 hR231 => ?_)
  refine sim_ret (.tup [LI s, LB (s != s)]) hR231 (by kernel_rfl) (by kernel_rfl) ?_
  exact ⟨retv_tup2 (val_int (by clear hR231 hm231 hR230 hm230 hR229 hm229 hR226 hm226 hR224 hm224 hR215 hm215 hR205 hm205 hR202 hm202 hR201 hb201 hR200 hm200 hR; grind [openB, nextM])) (val_bool (by clear hR231 hm231 hR230 hm230 hR229 hm229 hR226 hm226 hR224 hm224 hR215 hm215 hR205 hm205 hR202 hm202 hR201 hb201 hR200 hm200 hR; grind [openB, nextM])), hR231.toBelow⟩
  have hq225 := of_decide_eq_false hq225
  refine sim_run 12 [] hR224 (by kernel_rfl) trivial (fun ρ232 w232 hm232 hR232 => ?_)
  refine sim_fork 34 (ev == 3) (by kernel_rfl) (fun hq233 => ?_) (fun hq233 => ?_)
  have hq233 := of_decide_eq_true hq233
  refine sim_run 14 [] hR232 (by kernel_rfl) trivial (fun ρ234 w234 hm234 hR234 => ?_)
  refine sim_ret (.tup [LI 4, LB (4 != s)]) hR234 (by kernel_rfl) (by kernel_rfl) ?_
  exact ⟨retv_tup2 (val_int (by clear hR234 hm234 hR232 hm232 hR224 hm224 hR215 hm215 hR205 hm205 hR202 hm202 hR201 hb201 hR200 hm200 hR; grind [openB, nextM])) (val_bool (by clear hR234 hm234 hR232 hm232 hR224 hm224 hR215 hm215 hR205 hm205 hR202 hm202 hR201 hb201 hR200 hm200 hR; grind [openB, nextM])), hR234.toBelow⟩
  have hq233 := of_decide_eq_false hq233
  refine sim_run 7 [] hR232 (by kernel_rfl) trivial (fun ρ235 w235 hm235 hR235 => ?_)
  refine sim_fork 37 (ev == 4) (by kernel_rfl) (fun hq236 => ?_) (fun hq236 => ?_)
  have hq236 := of_decide_eq_true hq236
  refine sim_run 14 [] hR235 (by kernel_rfl) trivial (fun ρ237 w237 hm237 hR237 => ?_)
  refine sim_ret (.tup [LI 5, LB (5 != s)]) hR237 (by kernel_rfl) (by kernel_rfl) ?_
  exact ⟨retv_tup2 (val_int (by clear hR237 hm237 hR235 hm235 hR232 hm232 hR224 hm224 hR215 hm215 hR205 hm205 hR202 hm202 hR201 hb201 hR200 hm200 hR; grind [openB, nextM])) (val_bool (by clear hR237 hm237 hR235 hm235 hR232 hm232 hR224 hm224 hR215 hm215 hR205 hm205 hR202 hm202 hR201 hb201 hR200 hm200 hR; grind [openB, nextM])), hR237.toBelow⟩
  have hq236 := of_decide_eq_false hq236
  refine sim_run 12 [] hR235 (by kernel_rfl) trivial (fun ρ238 w238 hm238 hR238 => ?_)
  refine sim_ret (.tup [LI s, LB (s != s)]) hR238 (by kernel_rfl) (by kernel_rfl) ?_
  exact ⟨retv_tup2 (val_int (by clear hR238 hm238 hR235 hm235 hR232 hm232 hR224 hm224 hR215 hm215 hR205 hm205 hR202 hm202 hR201 hb201 hR200 hm200 hR; grind [openB, nextM])) (val_bool (by clear hR238 hm238 hR235 hm235 hR232 hm232 hR224 hm224 hR215 hm215 hR205 hm205 hR202 hm202 hR201 hb201 hR200 hm200 hR; grind [openB, nextM])), hR238.toBelow⟩
  

theorem at_out (A : Option Addr) (len cap : Nat) (id : Int) (hid : Is64 id) (w : World) (g o : Nat) (ho : id < 1 ∨ id > len) (hg : w.cell? ⟨g, o, none⟩ = some (.slice A len cap)) (hA : 0 < len → ∃ h, A = some ⟨h, 0, none⟩) :
    Calls Try.prog 49 #[.pointer (some ⟨g, o, none⟩), .int .i64 id] w fun e w' => e = .returned (.pointer none) ∧ Below w.heap.size w w' := by
  have h := at_slc A len cap id hid w g o hg hA
  unfold atV at h
  rw [if_pos ho] at h
  exact h
theorem at_in (h len cap : Nat) (id : Int) (hid : Is64 id) (w : World) (g o : Nat) (ho : ¬(id < 1 ∨ id > len)) (hg : w.cell? ⟨g, o, none⟩ = some (.slice (some ⟨h, 0, none⟩) len cap)) :
    Calls Try.prog 49 #[.pointer (some ⟨g, o, none⟩), .int .i64 id] w fun e w' => e = .returned (.pointer (some ⟨h, (id - 1).toNat * 21, none⟩)) ∧ Below w.heap.size w w' := by
  have h := at_slc _ len cap id hid w g o hg (fun _ => ⟨h, rfl⟩)
  unfold atV at h
  rw [if_neg ho] at h
  exact h
section
variable {P : Program} {Q : Exit → Act → World → Prop} {c : Cfg} {ρ : Nm} {w0 w : World}
/-- an element of a given row of instructions comes into view behind a call that tells its place -/
theorem Back.view {A : Option Addr} {n B : Nat} {l : List In} (k N : Nat) (hN : c.rs.length = N) (hk : k < n) (hrd : Reads w0 B 21 A n (insts l)) (hB : B ≤ w0.heap.size) (hR : Rel [] w0 ρ c.rs w) (hu : (undR N c.rs && undL N c.tmps) = true) {v : Value}
    (hv : ∀ g o, A = some ⟨g, o, none⟩ → v = .pointer (some ⟨g, o + k * 21, none⟩))
    (next : ∀ x ρ', l[k]? = some x → Moved ρ c.rs w ρ' (c.rs ++ [⟨x.cells.map .v, false⟩]) w → Rel [] w0 ρ' (c.rs ++ [⟨x.cells.map .v, false⟩]) w → At P Q (nextC c (.ptr N 0) (c.rs ++ [⟨x.cells.map .v, false⟩])) ρ' w) : Back P Q c ρ (.returned v) w := by
  have hb : Below w0.heap.size w0 w := hR.toBelow
  obtain ⟨g, o, x, rfl, hg, hx, hc⟩ := (hrd.belowN hb hB).inst hk
  simp only [Bool.and_eq_true] at hu
  subst hN
  obtain ⟨ρ', ha, hn, hR'⟩ := hR.open_ hu.1 g (o + k * 21) (x.cells.map .v) (denV_und _ _) false (by have := hb.size; omega) (fun j v hv => InAt.lv hc ρ j v hv) (fun h => by cases h) (fun n r hn hw he => by
    rcases hw with hw | hw
    · cases hw
    · exact (old_not hR (by omega) n r hn hw he).elim)
  refine ⟨.ptr c.rs.length 0, _, ρ', ?_, act_ext ha hu.2, next x ρ' hx (Moved.ext_ro ha rfl) hR'⟩
  rw [hv g o rfl]
  simp only [LV.den, Nm.at_, hn, Nat.add_zero]
end

def atI (xs : List In) (id : Int) : In := xs.getD (id - 1).toNat zeroIn
theorem atI_of {xs : List In} {id : Int} {x : In} (h : xs[(id - 1).toNat]? = some x) : atI xs id = x := by unfold atI; rw [List.getD_eq_getElem?_getD, h]; rfl
def outB (xs : List In) (id : Int) : Prop := id < 1 ∨ id > xs.length
instance (xs : List In) (id : Int) : Decidable (outB xs id) := by unfold outB; infer_instance
/-- what a party may do with an instruction -/
def mayM (xs : List In) (party : ByteArray) (id : Int) : Int := if outB xs id then 3 else if (atI xs id).term.party ≠ party then 22 else if openB (atI xs id).state = false then 20 else 0
set_option maxRecDepth 100000 in
theorem may_any (A : Option Addr) (len cap B : Nat) (xs : List In) (party : ByteArray) (id : Int) (hid : Is64 id) (w : World) (g : Nat) (hg : w.cell? ⟨g, 0, none⟩ = some (.slice A len cap)) (hA : 0 < len → ∃ h, A = some ⟨h, 0, none⟩) (hr : Reads w B 21 A len (insts xs)) (hB : B ≤ w.heap.size) :
    Calls Try.prog 51 #[.pointer (some ⟨g, 0, none⟩), .string party, .int .i64 id] w fun e w' => e = .returned (.int .i64 (mayM xs party id)) ∧ Below w.heap.size w w' := by
  have hl := hr.insts_len
  obtain ⟨ρ, _, e0, hR⟩ := (Rel.start [] w ρ0).open_ rfl g 0 [.v (.slice A len cap)] rfl false (World.block_lt_of_cell? _ _ hg) (fun j v hv => by
    match j, hv with
    | 0, hv => injection hv with hv; rw [← hv]; exact hg) (fun h => by cases h) (fun n r hn => by simp at hn)
  have e0 : ρ 0 = (g, 0) := e0
  refine sim_enter Try.func51 ρ [.ptr 0 0, LS party, LI id] [⟨[.v (.slice A len cap)], false⟩] (by kernel_rfl) (by simp only [denL, LV.den, Nm.at_, e0]) ?_
  have hR := hR.cast rfl
  unfold mayM
  by_cases ho : outB xs id
  · rw [if_pos ho]
    have ho' : id < 1 ∨ id > len := by rw [← hl]; exact ho
    refine sim_run 16 [] hR (by kernel_rfl) trivial (fun ρ300 w300 hm300 hR300 => ?_)
    refine sim_call 49 [.ptr 0 0, LI id] (by kernel_rfl) ?_
    refine Calls.mono (at_out _ _ _ _ (by assumption) _ _ _ (by assumption) (hR300.at_cell 0 0 (.v (Value.slice A len cap)) (by kernel_rfl)) (by assumption)) ?_
    rintro e301 w301 ⟨rfl, hb301⟩
    have hR301 := hR300.below hb301
    refine Back.of (.v (Value.pointer none)) hR301 rfl ?_
    refine sim_run 15 [] hR301 (by kernel_rfl) trivial (fun ρ302 w302 hm302 hR302 => ?_)
    refine sim_ret (LI 3) hR302 (by kernel_rfl) (by kernel_rfl) ?_
    exact ⟨rfl, hR302.toBelow⟩
    
  · rw [if_neg ho]
    have ho' : ¬(id < 1 ∨ id > len) := by rw [← hl]; exact ho
    obtain ⟨h, rfl⟩ := hA (by omega)
    refine sim_run 16 [] hR (by kernel_rfl) trivial (fun ρ400 w400 hm400 hR400 => ?_)
    refine sim_call 49 [.ptr 0 0, LI id] (by kernel_rfl) ?_
    refine Calls.mono (at_in _ _ _ _ (by assumption) _ _ _ (by assumption) (hR400.at_cell 0 0 (.v (Value.slice (some (Addr.mk h 0 none)) len cap)) (by kernel_rfl))) ?_
    rintro e401 w401 ⟨rfl, hb401⟩
    have hQ401 := hR400.below hb401
    refine Back.view (id - 1).toNat 1 (by kernel_rfl) (by omega) hr hB hQ401 (by kernel_rfl) (fun g o hA => by injection hA with hA; injection hA with h1 h2; rw [← h1, ← h2, Nat.zero_add]) (fun x401 ρ401 hx401 hm401 hR401 => ?_)
    obtain rfl := atI_of hx401
    refine sim_run 22 [] hR401 (by kernel_rfl) trivial (fun ρ402 w402 hm402 hR402 => ?_)
    refine sim_fork 16 (!(atI xs id).term.party.toList == party.toList) (by kernel_rfl) (fun hq403 => ?_) (fun hq403 => ?_)
    have hq403 := nb_t hq403
    have hq403 := ba_ne hq403
    refine sim_run 5 [] hR402 (by kernel_rfl) trivial (fun ρ404 w404 hm404 hR404 => ?_)
    refine sim_ret (LI 22) hR404 (by kernel_rfl) (by kernel_rfl) ?_
    exact ⟨retv_int (by clear hR404 hm404 hR402 hm402 hR401 hm401 hQ401 hb401 hR400 hm400 hR e0; grind [openB]), hR404.toBelow⟩
    have hq403 := nb_f hq403
    have hq403 := ba_eq hq403
    refine sim_run 8 [] hR402 (by kernel_rfl) trivial (fun ρ405 w405 hm405 hR405 => ?_)
    refine sim_call 31 [.slc 2 0 1 1] (by kernel_rfl) ?_
    refine Calls.mono (open_any _ _ _ _ (hR405.at_cell 2 0 (LI ((atI xs id).state)) (by kernel_rfl))) ?_
    rintro e406 w406 ⟨rfl, hb406⟩
    have hR406 := hR405.below hb406
    refine Back.of (LB (openB (atI xs id).state)) hR406 rfl ?_
    refine sim_run 3 [] hR406 (by kernel_rfl) trivial (fun ρ407 w407 hm407 hR407 => ?_)
    refine sim_fork 24 (!openB (atI xs id).state) (by kernel_rfl) (fun hq408 => ?_) (fun hq408 => ?_)
    have hq408 := nb_t hq408
    have hq408 := nb_f hq408
    refine sim_run 5 [] hR407 (by kernel_rfl) trivial (fun ρ409 w409 hm409 hR409 => ?_)
    refine sim_ret (LI 20) hR409 (by kernel_rfl) (by kernel_rfl) ?_
    exact ⟨retv_int (by clear hR409 hm409 hR407 hm407 hR406 hb406 hR405 hm405 hR402 hm402 hR401 hm401 hQ401 hb401 hR400 hm400 hR e0; grind [openB]), hR409.toBelow⟩
    have hq408 := nb_f hq408
    have hq408 := nb_t hq408
    refine sim_run 7 [] hR407 (by kernel_rfl) trivial (fun ρ410 w410 hm410 hR410 => ?_)
    refine sim_ret (LI 0) hR410 (by kernel_rfl) (by kernel_rfl) ?_
    exact ⟨retv_int (by clear hR410 hm410 hR407 hm407 hR406 hb406 hR405 hm405 hR402 hm402 hR401 hm401 hQ401 hb401 hR400 hm400 hR e0; grind [openB]), hR410.toBelow⟩
    

/-! ### The book's row, some elements of which are places in view that may be written -/
def outE (ks : List Nat) (i : Nat) : Prop := ∀ k ∈ ks, i < k * 21 ∨ k * 21 + 21 ≤ i
structure RowI (ρ : Nm) (rs : List Reg) (w : World) (h : Nat) (xs : List In) (rest : List Value) (ks : List Nat) : Prop where
  row : RowV ρ rs w h 25 (insts xs ++ rest)
  free : ∀ i, outE ks i → OutR ρ rs h i
  wfar : ∀ (n : Nat) (r : Reg), rs[n]? = some r → r.wr = true → (ρ n).1 = h → ∃ m ∈ ks, (ρ n).2 = m * 21 ∧ r.cells.length = 21
theorem RowI.moved {ρ ρ' : Nm} {rs rs' : List Reg} {w w' : World} {h : Nat} {xs : List In} {rest : List Value} {ks : List Nat} (hr : RowI ρ rs w h xs rest ks) (hm : Moved ρ rs w ρ' rs' w') : RowI ρ' rs' w' h xs rest ks :=
  ⟨hr.row.moved hm, fun i hi => hm.out h i hr.row.lt (hr.free i hi), fun n r hn hw he => by
    rcases hm.shape n r hn hw with ⟨q, h1, h2, h3⟩ | h4
    · have hl := (List.getElem?_eq_some_iff.1 h1).1
      rw [hm.agree n hl] at he ⊢
      obtain ⟨m, h5, h6, h7⟩ := hr.wfar n q h1 h2 he
      exact ⟨m, h5, h6, h3.symm.trans h7⟩
    · rw [he] at h4
      have := hr.row.lt
      omega⟩
theorem RowI.below {ρ : Nm} {rs : List Reg} {w w' : World} {h : Nat} {xs : List In} {rest : List Value} {ks : List Nat} (hr : RowI ρ rs w h xs rest ks) (hb : Below w.heap.size w w') : RowI ρ rs w' h xs rest ks := ⟨hr.row.below hb, hr.free, hr.wfar⟩
theorem RowI.drew {ρ : Nm} {rs : List Reg} {w : World} {h : Nat} {xs : List In} {rest : List Value} {ks : List Nat} (hr : RowI ρ rs w h xs rest ks) : RowI ρ rs w.drew h xs rest ks := ⟨⟨hr.row.is⟩, hr.free, hr.wfar⟩
theorem RowI.start {w : World} {h : Nat} {xs : List In} {rest : List Value} (hb : Blk w h 25 (insts xs ++ rest).toArray) (ρ : Nm) (rs : List Reg) (hro : allRo rs = true) : RowI ρ rs w h xs rest [] :=
  have hf : ∀ (n : Nat) (r : Reg), rs[n]? = some r → r.wr = true → False := fun n r hn hw => wrS_allRo hro ⟨n, r, hn, hw, rfl⟩ (ρ := ρ)
  ⟨RowV.start hb ρ rs, fun _ _ n r hn hw _ => (hf n r hn hw).elim, fun n r hn hw _ => (hf n r hn hw).elim⟩
def roAll : List Reg → Nat → List Nat
  | [], _ => []
  | r :: rs, i => if r.wr then roAll rs (i + 1) else i :: roAll rs (i + 1)
theorem roAll_mem : ∀ (rs : List Reg) (i k : Nat) (r : Reg), rs[k]? = some r → r.wr = false → i + k ∈ roAll rs i
  | [], _, _, _, h, _ => by simp at h
  | q :: rs, _, 0, r, h, hw => by
    simp only [List.getElem?_cons_zero, Option.some.injEq] at h
    subst h
    simp [roAll, hw]
  | q :: rs, i, k + 1, r, h, hw => by
    simp only [List.getElem?_cons_succ] at h
    have ih := roAll_mem rs (i + 1) k r h hw
    rw [show i + 1 + k = i + (k + 1) by omega] at ih
    simp only [roAll]
    split
    · exact ih
    · exact List.mem_cons_of_mem _ ih
/-- an element that is not in view is as it was -/
theorem RowI.cell {ρ : Nm} {rs : List Reg} {w : World} {h : Nat} {xs : List In} {rest : List Value} {ks : List Nat} (hr : RowI ρ rs w h xs rest ks) {k : Nat} {x : In} (hx : xs[k]? = some x) (hk : k ∉ ks) (j : Nat) (v : Value) (hv : x.cells[j]? = some v) : w.cell? ⟨h, k * 21 + j, none⟩ = some v ∧ w.frozen? ⟨h, k * 21 + j, none⟩ = false ∧ h < w.heap.size := by
  obtain ⟨arr, h1, _, h3⟩ := hr.row.is
  have hj : j < 21 := by
    have := (List.getElem?_eq_some_iff.1 hv).1
    rw [In.cells_length] at this
    exact this
  refine ⟨?_, ?_, hr.row.lt⟩
  · rw [cell_of_row w h (k * 21 + j) arr _ (0, 0) h1, h3 _ (hr.free _ (fun m hm => by
      have hne : m ≠ k := fun e => hk (e ▸ hm)
      rcases Nat.lt_or_ge m k with hl | hl
      · right; have : m * 21 + 21 ≤ k * 21 := by omega
        omega
      · left; have : k * 21 + 21 ≤ m * 21 := by omega
        omega))]
    have := insts_at xs k x hx j v hv
    rw [List.getElem?_append_left (by exact (List.getElem?_eq_some_iff.1 this).1)]
    exact this
  · exact Blk.frozen (t := 25) (cs := arr) h1 _
section
variable {P : Program} {Q : Exit → Act → World → Prop} {T : List Nat} {c : Cfg} {ρ : Nm} {w0 w : World}
/-- an element comes into view behind a call that tells its place, to be written -/
theorem Back.elem {h : Nat} {xs : List In} {rest : List Value} {ks : List Nat} (k N : Nat) (hr : RowI ρ c.rs w h xs rest ks) {N0 : Nat} {ρb : Nm} (hag : Ag N0 ρb ρ c.rs) (hN : c.rs.length = N) (hk : k < xs.length) (hks : k ∉ ks) (hT : h ∈ T ∨ w0.heap.size ≤ h) (hR : Rel T w0 ρ c.rs w) (hu : (undR N c.rs && undL N c.tmps) = true)
    (l : List Nat) (hl : roAll c.rs 0 = l) (hidx : ∀ k ∈ l, k < N0 ∧ (ρb k).1 ≠ h) {v : Value} (hv : v = .pointer (some ⟨h, k * 21, none⟩))
    (next : ∀ x ρ', xs[k]? = some x → (∀ n, n < N0 → ρ' n = ρb n) → ρ' N = (h, k * 21) → Ag (N + 1) ρ' ρ' (c.rs ++ [⟨x.cells.map .v, true⟩]) → Rel T w0 ρ' (c.rs ++ [⟨x.cells.map .v, true⟩]) w → RowI ρ' (c.rs ++ [⟨x.cells.map .v, true⟩]) w h xs rest (k :: ks) → At P Q (nextC c (.ptr N 0) (c.rs ++ [⟨x.cells.map .v, true⟩])) ρ' w) : Back P Q c ρ (.returned v) w := by
  subst hN
  have hro : ∀ (n : Nat) (r : Reg), c.rs[n]? = some r → (ρ n).1 = h → ∃ m ∈ ks, (ρ n).2 = m * 21 ∧ r.cells.length = 21 := fun n r hn he => by
    cases hw : r.wr with
    | true => exact hr.wfar n r hn hw he
    | false =>
      have := roAll_mem c.rs 0 n r hn hw
      rw [hl, Nat.zero_add] at this
      obtain ⟨h1, h2⟩ := hidx n this
      rw [hag.at_ n h1] at he
      exact (h2 he).elim
  have hx : xs[k]? = some xs[k] := List.getElem?_eq_getElem hk
  simp only [Bool.and_eq_true] at hu
  have hap : ∀ m ∈ ks, k * 21 + 21 ≤ m * 21 ∨ m * 21 + 21 ≤ k * 21 := fun m hm => by
    have hne : m ≠ k := fun e => hks (e ▸ hm)
    omega
  have hlen : (List.map LV.v xs[k].cells).length = 21 := by rw [List.length_map, In.cells_length]
  obtain ⟨ρ', ha, hn, hR'⟩ := hR.open_ hu.1 h (k * 21) (xs[k].cells.map .v) (denV_und _ _) true hr.row.lt (fun j v hv => by
      rw [List.getElem?_map] at hv
      cases hj : xs[k].cells[j]? with
      | none => rw [hj] at hv; cases hv
      | some u =>
        rw [hj] at hv
        injection hv with hv
        rw [← hv]
        exact (hr.cell hx hks j u hj).1)
    (fun _ => ⟨hT, fun i hi => by
      rw [hlen] at hi
      exact (hr.cell hx hks i _ (List.getElem?_eq_getElem (by rw [In.cells_length]; exact hi))).2.1⟩)
    (fun n r hn hw he => by
      obtain ⟨m, hm, e1, e2⟩ := hro n r hn he
      rw [e1, e2, hlen]
      rcases hap m hm with h1 | h1 <;> omega)
  refine ⟨.ptr c.rs.length 0, _, ρ', ?_, act_ext ha hu.2, next xs[k] ρ' hx (fun n hn0 => (ha n (Nat.lt_of_lt_of_le hn0 hag.le)).trans (hag.at_ n hn0)) hn ⟨Agree.refl _ _, by simp⟩ hR' ⟨hr.row.open_ ha _, fun i hi => ?_, fun n r hr' hw he => ?_⟩⟩
  · rw [hv]
    simp only [LV.den, Nm.at_, hn, Nat.add_zero]
  · intro n r hr' hw he
    rcases Nat.lt_or_ge n c.rs.length with hl | hl
    · rw [List.getElem?_append_left hl] at hr'
      rw [ha n hl] at he ⊢
      exact hr.free i (fun m hm => hi m (List.mem_cons_of_mem _ hm)) n r hr' hw he
    · have : n = c.rs.length := by
        rcases Nat.lt_or_ge n (c.rs.length + 1) with h0 | h0
        · omega
        · rw [List.getElem?_eq_none (by simp; omega)] at hr'; cases hr'
      subst this
      simp only [List.getElem?_append_right (Nat.le_refl _), Nat.sub_self, List.getElem?_cons_zero, Option.some.injEq] at hr'
      rw [← hr', hn]
      simp only [hlen]
      exact hi k (List.mem_cons_self ..)
  · rcases Nat.lt_or_ge n c.rs.length with hl | hl
    · rw [List.getElem?_append_left hl] at hr'
      rw [ha n hl] at he ⊢
      obtain ⟨m, h5, h6⟩ := hr.wfar n r hr' hw he
      exact ⟨m, List.mem_cons_of_mem _ h5, h6⟩
    · have : n = c.rs.length := by
        rcases Nat.lt_or_ge n (c.rs.length + 1) with h0 | h0
        · omega
        · rw [List.getElem?_eq_none (by simp; omega)] at hr'; cases hr'
      subst this
      simp only [List.getElem?_append_right (Nat.le_refl _), Nat.sub_self, List.getElem?_cons_zero, Option.some.injEq] at hr'
      exact ⟨k, List.mem_cons_self .., by rw [hn], by rw [← hr']; exact hlen⟩
end
/-- the row when no element is in view any more: what stands in view is written into the list -/
theorem RowI.close0 {ρ : Nm} {rs : List Reg} {w : World} {h : Nat} {xs : List In} {rest : List Value} (hr : RowI ρ rs w h xs rest []) : Blk w h 25 (insts xs ++ rest).toArray := by
  obtain ⟨arr, h1, _, h3⟩ := hr.row.is
  have : arr = (insts xs ++ rest).toArray := by
    apply Array.ext_getElem?
    intro i
    rw [h3 i (hr.free i (fun m hm => by cases hm))]
    simp
  rw [← this]
  exact h1
theorem blk_in {w : World} {h : Nat} {arr : Array Value} (h1 : w.heap[h]? = some (.cells arr 25 (0, 0))) {xs : List In} {rest : List Value} {k : Nat} (hk : k < xs.length) {y : In} (hy : ∀ (j : Nat) (v : Value), y.cells[j]? = some v → w.cell? ⟨h, k * 21 + j, none⟩ = some v) (i : Nat) (hi : k * 21 ≤ i) (hi' : i < k * 21 + 21) : arr[i]? = (insts (xs.set k y) ++ rest)[i]? := by
  have hj : i - k * 21 < y.cells.length := by rw [In.cells_length]; omega
  have h4 := hy (i - k * 21) _ (List.getElem?_eq_getElem hj)
  rw [cell_of_row w h _ arr _ (0, 0) h1, show k * 21 + (i - k * 21) = i by omega] at h4
  have h5 := insts_at (xs.set k y) k y (by rw [List.getElem?_set]; simp [hk]) (i - k * 21) _ (List.getElem?_eq_getElem hj)
  rw [show k * 21 + (i - k * 21) = i by omega] at h5
  rw [h4, List.getElem?_append_left (by exact (List.getElem?_eq_some_iff.1 h5).1), h5]
theorem insts_set_other (xs : List In) (rest : List Value) (k : Nat) (y : In) (i : Nat) (hk : k < xs.length) (hi : i < k * 21 ∨ k * 21 + 21 ≤ i) : (insts (xs.set k y) ++ rest)[i]? = (insts xs ++ rest)[i]? := by
  rw [← insts_overlay xs k y rest hk]
  unfold overlay
  rw [In.cells_length]
  rcases hi with hi | hi
  · rw [List.getElem?_append_left (by rw [List.length_append, List.length_take, In.cells_length]; have := insts_length xs; rw [List.length_append]; omega)]
    rw [List.getElem?_append_left (by rw [List.length_take]; have := insts_length xs; rw [List.length_append]; omega), List.getElem?_take]
    simp [hi]
  · have hl : (List.take (k * 21) (insts xs ++ rest)).length = k * 21 := by rw [List.length_take]; have := insts_length xs; rw [List.length_append]; omega
    rw [List.getElem?_append_right (by rw [List.length_append, hl, In.cells_length]; omega), List.length_append, hl, In.cells_length, List.getElem?_drop]
    congr 1
    omega
theorem RowI.close1 {ρ : Nm} {rs : List Reg} {w : World} {h : Nat} {xs : List In} {rest : List Value} {k : Nat} (hr : RowI ρ rs w h xs rest [k]) (hk : k < xs.length) (y : In) (hy : ∀ (j : Nat) (v : Value), y.cells[j]? = some v → w.cell? ⟨h, k * 21 + j, none⟩ = some v) : Blk w h 25 (insts (xs.set k y) ++ rest).toArray := by
  obtain ⟨arr, h1, _, h3⟩ := hr.row.is
  have : arr = (insts (xs.set k y) ++ rest).toArray := by
    apply Array.ext_getElem?
    intro i
    simp only [List.getElem?_toArray]
    by_cases hi : k * 21 ≤ i ∧ i < k * 21 + 21
    · exact blk_in h1 hk hy i hi.1 hi.2
    · rw [h3 i (hr.free i (fun m hm => by simp only [List.mem_singleton] at hm; subst hm; omega)), insts_set_other xs rest k y i hk (by omega)]
  rw [← this]
  exact h1
theorem RowI.close2 {ρ : Nm} {rs : List Reg} {w : World} {h : Nat} {xs : List In} {rest : List Value} {k m : Nat} (hr : RowI ρ rs w h xs rest [m, k]) (hk : k < xs.length) (hm : m < xs.length) (hne : k ≠ m) (y z : In) (hy : ∀ (j : Nat) (v : Value), y.cells[j]? = some v → w.cell? ⟨h, k * 21 + j, none⟩ = some v)
    (hz : ∀ (j : Nat) (v : Value), z.cells[j]? = some v → w.cell? ⟨h, m * 21 + j, none⟩ = some v) : Blk w h 25 (insts ((xs.set k y).set m z) ++ rest).toArray := by
  obtain ⟨arr, h1, _, h3⟩ := hr.row.is
  have : arr = (insts ((xs.set k y).set m z) ++ rest).toArray := by
    apply Array.ext_getElem?
    intro i
    simp only [List.getElem?_toArray]
    by_cases hi : m * 21 ≤ i ∧ i < m * 21 + 21
    · exact blk_in h1 (xs := xs.set k y) (rest := rest) (by rw [List.length_set]; exact hm) hz i hi.1 hi.2
    · rw [insts_set_other (xs.set k y) rest m z i (by rw [List.length_set]; exact hm) (by omega)]
      by_cases hi2 : k * 21 ≤ i ∧ i < k * 21 + 21
      · exact blk_in h1 hk hy i hi2.1 hi2.2
      · rw [h3 i (hr.free i (fun q hq => by simp only [List.mem_cons, List.not_mem_nil, or_false] at hq; rcases hq with rfl | rfl <;> omega)), insts_set_other xs rest k y i hk (by omega)]
  rw [← this]
  exact h1
end Go.Proofs.Ytodjhkmbgennaaa
