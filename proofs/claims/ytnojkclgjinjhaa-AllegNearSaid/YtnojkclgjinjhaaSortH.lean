/-
  slices.SortStableFunc at instructions.
-/
import Derived.Test.YtnojkclgjinjhaaSortG
namespace Go.Proofs.Ytnojkclgjinjhaa
open Go Go.RowKit
attribute [local irreducible] run goO leaveK someK nextK nextT nextOT nextOD loopBody loopRest loopK fillJ tmplOf tmplJ mergeT At AtO drawOk ordOf gateOf callC callO topOp topO idxOf appOf storeOf clearOf sliceOf calleeOf calleeO topQ idxQ newRowOf resL stepOp seek

/-- the row in its place, sorted -/
def SrtN (base : Nat) (w : World) (A : Option Addr) (cp : Nat) (ys : List In) (e : Ending) (w' : World) : Prop :=
  e = .returned (.tuple #[]) ∧ w'.ownsRow base 27 21 (.slice A ys.length cp) ys.length (insts ys) ∧ Kept (fun x => ∃ a, A = some a ∧ a.block = x) w w'
theorem own_len {w : World} {base n cp : Nat} {A : Option Addr} {xs : List In} (h : w.ownsRow base 27 21 (.slice A n cp) n (insts xs)) : xs.length = n := by
  have := h.1
  rw [insts_length] at this
  omega
section
variable (g : FuncId) (hg : Enters Try.prog g) (caps : Array Value) (cmp : In → In → Int) (hcmp : CmpAll g caps cmp) (hw : Weak (ltC cmp))
include hg hcmp hw
set_option maxHeartbeats 4000000 in
set_option maxRecDepth 100000 in
theorem sortStable_any (A : Option Addr) (n cp base : Nat) (xs : List In) (w : World) (h : w.ownsRow base 27 21 (.slice A n cp) n (insts xs)) (hok : ∀ x ∈ xs, x.ok) (hn : n ≤ 1000000) :
    Calls Try.prog 32 #[.slice A n cp, .func (.func g) #[] caps] w (SrtN base w A cp (ssort (ltC cmp) xs)) := by
  have hl := own_len h
  rcases h.2 with ⟨e, hn0⟩ | ⟨b, cap, cur, e, hb, hh, h1, h2, h3, h4⟩
  · injection e with e1 e2 e3
    subst e1 e2 e3
    obtain rfl := List.eq_nil_of_length_eq_zero hl
    refine sim_enter Try.func32 ρ0 [.v (.slice none 0 0), .v (.func (.func g) #[] caps)] [] (by kernel_rfl) rfl ?_
    have hR := Rel.start [] w ρ0
    refine sim_run 5 [] (hR.cast (by kernel_rfl)) (by kernel_rfl) trivial (fun ρ100 w100 hm100 hR100 => ?_)
    refine sim_into Try.func70 [.v (Value.slice none 0 0), LI 0, .v (Value.func (Fn.func g) (Array.mk []) caps)] (by kernel_rfl) (by kernel_rfl) ?_
    have hag101 := hR100.ag_ 0 (by kernel_rfl)
    refine sim_run 12 [] (hR100.cast (by kernel_rfl)) (by kernel_rfl) trivial (fun ρ102 w102 hm102 hR102 => ?_)
    have hag101 := hag101.moved (hm102.castL (by kernel_rfl))
    refine sim_unroll 3 (by kernel_rfl) ?_
    refine sim_run 16 [] (hR102.cast (by kernel_rfl)) (by kernel_rfl) trivial (fun ρ103 w103 hm103 hR103 => ?_)
    have hag101 := hag101.moved (hm103.castL (by kernel_rfl))
    refine sim_into Try.func85 [.v (Value.slice none 0 0), LI 0, LI 0, .v (Value.func (Fn.func g) (Array.mk []) caps)] (by kernel_rfl) (by kernel_rfl) ?_
    have hag104 := hR103.ag_ 0 (by kernel_rfl)
    refine sim_run 7 [] (hR103.cast (by kernel_rfl)) (by kernel_rfl) trivial (fun ρ105 w105 hm105 hR105 => ?_)
    have hag101 := hag101.moved (hm105.castL (by kernel_rfl))
    have hag104 := hag104.moved (hm105.castL (by kernel_rfl))
    refine sim_unroll 3 (by kernel_rfl) ?_
    refine sim_run 10 [] (hR105.cast (by kernel_rfl)) (by kernel_rfl) trivial (fun ρ106 w106 hm106 hR106 => ?_)
    have hag101 := hag101.moved (hm106.castL (by kernel_rfl))
    have hag104 := hag104.moved (hm106.castL (by kernel_rfl))
    refine sim_outE 0 (.tup []) hR106 (by kernel_rfl) (by kernel_rfl) hag104.ag (by kernel_rfl) ?_
    refine sim_run 2 [] (hR106.cast (by kernel_rfl)) (by kernel_rfl) trivial (fun ρ107 w107 hm107 hR107 => ?_)
    have hag101 := hag101.moved (hm107.castL (by kernel_rfl))
    have hag104 := hag104.moved (hm107.castL (by kernel_rfl))
    refine sim_unroll 3 (by kernel_rfl) ?_
    refine sim_run 10 [] (hR107.cast (by kernel_rfl)) (by kernel_rfl) trivial (fun ρ108 w108 hm108 hR108 => ?_)
    have hag101 := hag101.moved (hm108.castL (by kernel_rfl))
    have hag104 := hag104.moved (hm108.castL (by kernel_rfl))
    refine sim_outE 0 (.tup []) hR108 (by kernel_rfl) (by kernel_rfl) hag101.ag (by kernel_rfl) ?_
    refine sim_run 1 [] (hR108.cast (by kernel_rfl)) (by kernel_rfl) trivial (fun ρ109 w109 hm109 hR109 => ?_)
    have hag101 := hag101.moved (hm109.castL (by kernel_rfl))
    have hag104 := hag104.moved (hm109.castL (by kernel_rfl))
    refine sim_end (.tup []) hR109 (by kernel_rfl) (by kernel_rfl) ?_
    
    exact ⟨rfl, World.ownsRow_nil _ _ _ _, (by assumption : Rel _ _ _ _ _).keeps.kept.mono (fun x hx => by simp at hx)⟩
  · injection e with e1 e2 e3
    subst e1 e3
    have hcl : cur.toList = insts xs ++ cur.toList.drop (n * 21) := by rw [← h4, List.take_append_drop]
    have hblk : Blk w b 27 (insts xs ++ cur.toList.drop (n * 21)).toArray := by rw [← hcl]; exact hh
    have hlen2 : (insts xs ++ cur.toList.drop (n * 21)).length = cp * 21 := by rw [← hcl, Array.length_toList, h3]
    generalize cur.toList.drop (n * 21) = rest at hblk hlen2 hcl
    refine sim_enter Try.func32 ρ0 [.v (.slice (some ⟨b, 0, none⟩) n cp), .v (.func (.func g) #[] caps)] [] (by kernel_rfl) rfl ?_
    have hR := Rel.start [b] w ρ0
    have hrow : RowI ρ0 [] w b xs rest [] := .start hblk _ _ rfl
    refine sim_run 5 [] (hR.cast (by kernel_rfl)) (by kernel_rfl) trivial (fun ρ200 w200 hm200 hR200 => ?_)
    have hrow := hrow.moved (hm200.castL (by kernel_rfl))
    refine sim_call 70 [.v (Value.slice (some (Addr.mk b 0 none)) n cp), LI ((↑n : Int)), .v (Value.func (Fn.func g) (Array.mk []) caps)] (by kernel_rfl) ?_
    refine Calls.mono (stable_any (g) (hg) (caps) (cmp) (hcmp) (hw) (b) (n) (cp) (rest) (hn) (xs) _ (hl) (hok) (hrow.close0)) ?_
    rintro e201 w201 ⟨rfl, hblk201, hk201⟩
    have hR201 := hR200.kept hk201 (fun n r hn => (noReg (by kernel_rfl) hn).elim) (fun x hx => .inl hx)
    have hrow := RowI.at_ hR201 hblk201 (by kernel_rfl)
    refine Back.of (.tup []) hR201 rfl ?_
    refine sim_run 1 [] (hR201.cast (by kernel_rfl)) (by kernel_rfl) trivial (fun ρ202 w202 hm202 hR202 => ?_)
    have hrow := hrow.moved (hm202.castL (by kernel_rfl))
    refine sim_end (.tup []) hR202 (by kernel_rfl) (by kernel_rfl) ?_
    
    have hr := hrow.close0
    refine ⟨rfl, ?_, (by assumption : Rel _ _ _ _ _).keeps.kept.mono (fun x hx => ?_)⟩
    · rw [ssort_len, hl]
      refine own_of_blk (cur := insts (ssort (ltC cmp) xs) ++ rest) hr hb h1 h2 ?_ ?_ (by rw [ssort_len, hl])
      · rw [← hlen2, List.length_append, List.length_append, insts_length, insts_length, ssort_len]
      · rw [List.take_append_of_le_length (by rw [insts_length, ssort_len, hl]; exact Nat.le_refl _), List.take_of_length_le (by rw [insts_length, ssort_len, hl]; exact Nat.le_refl _)]
    · simp only [List.mem_singleton] at hx
      exact .inl ⟨_, rfl, hx.symm⟩
end
end Go.Proofs.Ytnojkclgjinjhaa
