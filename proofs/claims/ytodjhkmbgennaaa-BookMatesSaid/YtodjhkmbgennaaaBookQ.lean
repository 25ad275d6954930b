/-
  book: Hold over a book at large.
-/
import Derived.Test.YtodjhkmbgennaaaBookP
namespace Go.Proofs.Ytodjhkmbgennaaa
open Go Go.RowKit
attribute [local irreducible] run goO goN ordGoN eqlOf eqlOper eqlOfO cellL leaveK someK nextK nextT nextOT nextOD loopBody loopRest loopK fillJ tmplOf tmplJ mergeT At AtO drawOk ordOf gateOf callC callO topOp topO idxOf appOf storeOf clearOf sliceOf calleeOf calleeO topQ idxQ newRowOf resL stepOp seek

def holdM (xs : List In) (party : ByteArray) (on : Bool) (ids : List Int) : List In := if holdE xs party ids = 0 then holdAll xs on ids else xs
theorem hold_len (xs : List In) (party : ByteArray) (on : Bool) (ids : List Int) : (holdM xs party on ids).length = xs.length := by
  unfold holdM
  split
  · exact holdAll_len ..
  · rfl
theorem holdE_nil (party : ByteArray) (id : Int) (ids : List Int) : holdE [] party (id :: ids) = 3 := by
  simp only [holdE]
  rw [may_nilM, if_pos (by decide)]
set_option maxRecDepth 100000 in
theorem hold_nil (party : ByteArray) (on : Bool) (A : Option Addr) (n cp Bn : Nat) (ids : List Int) (hids : ∀ i ∈ ids, Is64 i) (w : World) (g : Nat) (hb : Blk w g 85 #[.slice none 0 0]) (hrd : Reads w Bn 1 A n (ints ids)) (hBn : Bn ≤ w.heap.size) (hn : n ≤ 1000000) :
    Calls Try.prog 28 #[.pointer (some ⟨g, 0, none⟩), .string party, .bool on, .slice A n cp] w fun e w' => e = .returned (.int .i64 (holdE [] party ids)) ∧ Below w.heap.size w w' := by
  have hnl := hrd.int_len
  obtain ⟨ρ, e0, hag, hR⟩ := book_nil hb
  refine sim_enter Try.func28 ρ [.ptr 0 0, LS party, LB on, .v (.slice A n cp)] [⟨[.v (.slice none 0 0)], false⟩] (by kernel_rfl) (by simp only [denL, LV.den, Nm.at_, e0]) ?_
  refine sim_run 20 [] hR (by kernel_rfl) trivial (fun ρ100 w100 hm100 hR100 => ?_)
  have hag := hag.moved hm100
  
  have e0 := (hag.at_ 0 (by omega)).trans e0
  refine sim_loop (ι := Nat) (T := []) (w0 := w) 0 [0, 1, 2, 3, 16, 17] (fun k => [(18, LI k)]) (fun _ => [⟨[.v (.slice none 0 0)], false⟩]) (fun k w1 => k = 0) (fun k => n - k) (by kernel_rfl) (by kernel_rfl) (hR100.cast (by kernel_rfl)) rfl ?_
  iterate 6 (try clear hag)
  clear hm100 hR100 hR
  rintro k d w2 hR2 rfl
  have hag := hR2.ag_ 1 (by kernel_rfl)
  by_cases hlt : 0 < n
  · obtain ⟨ga, oa, rfl, _, _⟩ := hrd.spot (by omega) (by omega)
    match ids, hnl with
    | [], hnl => simp at hnl; omega
    | id :: ids, hnl =>
      have hid : Is64 id := hids _ (by simp)
      rw [holdE_nil]
      refine sim_run 5 [] hR2 (by kernel_rfl) trivial (fun ρ200 w200 hm200 hR200 => ?_)
      have hag := hag.moved hm200
      refine sim_know 19 (decide ((↑0 : Int) < (↑n : Int))) true (by kernel_rfl) (decide_eq_true (by omega)) ?_
      refine sim_run 6 [] hR200 (by kernel_rfl) trivial (fun ρ201 w201 hm201 hR201 => ?_)
      have hag := hag.moved hm201
      refine sim_cell cp 0 1 (.int .i64 id) (by kernel_rfl) (by kernel_rfl) hlt hrd rfl hBn (by simp) hR201 (by kernel_rfl) (fun ρ202 hm202 hf202 hR202 => ?_)
      have hag := hag.moved hm202
      refine sim_run 8 [] hR202 (by kernel_rfl) trivial (fun ρ203 w203 hm203 hR203 => ?_)
      have hag := hag.moved hm203
      refine sim_call 51 [.ptr 0 0, LS party, LI id] (by kernel_rfl) ?_
      have ez0_204 := (hag.at_ 0 (by omega)).trans e0
      simp only [denL, LV.den, Nm.at_, ez0_204, Nat.add_zero]
      refine Calls.mono (may_nil _ _ (by assumption) _ _ (by have h := (hR203.at_cell 0 0 (.v (Value.slice none 0 0)) (by kernel_rfl)); simp only [Nm.at_, ez0_204] at h; exact h)) ?_
      rintro e204 w204 ⟨rfl, hb204⟩
      have hR204 := hR203.below hb204
      refine Back.of (LI 3) hR204 rfl ?_
      refine sim_run 13 [] hR204 (by kernel_rfl) trivial (fun ρ205 w205 hm205 hR205 => ?_)
      have hag := hag.moved hm205
      refine sim_ret (LI 3) hR205 (by kernel_rfl) (by kernel_rfl) ?_
      exact ⟨rfl, hR205.toBelow⟩
      
  · match ids, hnl with
    | [], hnl =>
      refine sim_run 5 [] hR2 (by kernel_rfl) trivial (fun ρ300 w300 hm300 hR300 => ?_)
      have hag := hag.moved hm300
      refine sim_know 19 (decide ((↑0 : Int) < (↑n : Int))) false (by kernel_rfl) (decide_eq_false (by omega)) ?_
      refine sim_run 1 [] hR300 (by kernel_rfl) trivial (fun ρ301 w301 hm301 hR301 => ?_)
      have hag := hag.moved hm301
      refine sim_leave (by kernel_rfl) ?_
      refine sim_run 8 [] hR301 (by kernel_rfl) trivial (fun ρ302 w302 hm302 hR302 => ?_)
      have hag := hag.moved hm302
      
      refine sim_loop (ι := Nat) (T := []) (w0 := w) 0 [0, 1, 2, 3, 30, 31] (fun k => [(32, LI k)]) (fun _ => [⟨[.v (.slice none 0 0)], false⟩]) (fun k w1 => k = 0) (fun k => n - k) (by kernel_rfl) (by kernel_rfl) (hR302.cast (by kernel_rfl)) rfl ?_
      rintro k d w6 hR6 rfl
      refine sim_run 5 [] hR6 (by kernel_rfl) trivial (fun ρ400 w400 hm400 hR400 => ?_)
      refine sim_know 33 (decide ((↑0 : Int) < (↑n : Int))) false (by kernel_rfl) (decide_eq_false (by omega)) ?_
      refine sim_run 1 [] hR400 (by kernel_rfl) trivial (fun ρ401 w401 hm401 hR401 => ?_)
      refine sim_leave (by kernel_rfl) ?_
      refine sim_run 4 [] hR401 (by kernel_rfl) trivial (fun ρ402 w402 hm402 hR402 => ?_)
      refine sim_ret (LI 0) hR402 (by kernel_rfl) (by kernel_rfl) ?_
      exact ⟨rfl, hR402.toBelow⟩
      
    | _ :: _, hnl => simp at hnl; omega
theorem hold_bk (B g : Nat) (v : Value) (xs : List In) (party : ByteArray) (on : Bool) (A : Option Addr) (n cp Bn : Nat) (ids : List Int) (w : World) (h : BkV w B g v xs) (hids : ∀ i ∈ ids, Is64 i) (hrd : Reads w Bn 1 A n (ints ids)) (hBn : Bn ≤ w.heap.size) (hA : 0 < n → ∀ a, A = some a → v.ownBlock ≠ some a.block) (hn : n ≤ 1000000) :
    Calls Try.prog 28 #[.pointer (some ⟨g, 0, none⟩), .string party, .bool on, .slice A n cp] w (BkQ w B g v (holdM xs party on ids) (.int .i64 (holdE xs party ids))) := by
  rcases h.form with ⟨rfl, rfl⟩ | ⟨hb, cap, rest, rfl, hs, h1, _, h3, h4⟩
  · have e1 : holdM [] party on ids = [] := List.eq_nil_of_length_eq_zero (hold_len ..)
    rw [e1]
    exact (hold_nil party on A n cp Bn ids hids w g h.cell hrd hBn hn).mono (fun e w' hp => bkq_nil h hp)
  · exact (hold_slc g hb xs.length cap xs rest party on A n cp Bn ids hids w hs hrd hBn (fun h0 a ha => by have := hA h0 a ha; simp only [Value.ownBlock, ne_eq, Option.some.injEq] at this; simp; exact fun e => this e.symm) hn).mono (fun e w' hp => hp.q hs h1 h.ge h3 h4 (hold_len ..))
end Go.Proofs.Ytodjhkmbgennaaa
