/-
  book: List (of all states), Expire.
-/
import Derived.Test.YtodjhkmbgennaaaBookR
import Derived.Test.YtodjhkmbgennaaaSimO
namespace Go.Proofs.Ytodjhkmbgennaaa
open Go Go.RowKit
attribute [local irreducible] run goO goN ordGoN eqlOf eqlOper eqlOfO cellL leaveK someK nextK nextT nextOT nextOD loopBody loopRest loopK fillJ tmplOf tmplJ mergeT At AtO drawOk ordOf gateOf callC callO topOp topO idxOf appOf storeOf clearOf sliceOf calleeOf calleeO topQ idxQ newRowOf resL stepOp seek

theorem insts_flat (xs : List In) : insts xs = (xs.map In.cells).flatten := by
  unfold insts
  rw [List.flatMap_def]
theorem in_len (xs : List In) : ∀ y ∈ xs.map In.cells, y.length = 21 := by
  intro y hy
  obtain ⟨o, _, rfl⟩ := List.mem_map.1 hy
  rfl
set_option maxRecDepth 100000 in
theorem list_slc (A : Option Addr) (len cap B : Nat) (xs : List In) (w : World) (g : Nat) (hg : w.cell? ⟨g, 0, none⟩ = some (.slice A len cap)) (hr : Reads w B 21 A len (insts xs)) (hB : B ≤ w.heap.size) (hl : len ≤ 1000) :
    Calls Try.prog 34 #[.pointer (some ⟨g, 0, none⟩), .slice none 0 0] w fun e w' => ∃ u, e = .returned u ∧ w'.ownsRow w.heap.size 25 21 u len (insts xs) ∧ Below w.heap.size w w' := by
  have hlen := hr.insts_len
  obtain ⟨ρ, _, hn0, hR⟩ := (Rel.start [] w ρ0).open_ rfl g 0 [.v (.slice A len cap)] rfl false (World.block_lt_of_cell? _ _ hg) (fun j v hv => by
    match j, hv with
    | 0, hv => injection hv with hv; rw [← hv]; exact hg) (fun h => by cases h) (fun n r hn => by simp at hn)
  have e0 : ρ 0 = (g, 0) := hn0
  have hR := hR.cast (rs' := [⟨[.v (.slice A len cap)], false⟩]) rfl
  refine sim_enter Try.func34 ρ [.ptr 0 0, .v (.slice none 0 0)] [⟨[.v (.slice A len cap)], false⟩] (by kernel_rfl) (by simp only [denL, LV.den, Nm.at_, e0, Nat.add_zero]) ?_
  have hag := hR.ag_ 1 (by kernel_rfl)
  refine sim_run 27 [] hR (by kernel_rfl) trivial (fun ρ100 w100 hm100 hR100 => ?_)
  have hag := hag.moved hm100
  
  have e0 := (hag.at_ 0 (by omega)).trans e0
  iterate 6 (try clear hag)
  refine sim_loop (ι := Nat × Value) (T := []) (w0 := w) (0, .slice none 0 0) [0, 1, 13, 14] (fun x => [(5, .v x.2), (15, LI x.1)]) (fun _ => [⟨[.v (.slice A len cap)], false⟩]) (fun x w1 => x.1 ≤ len ∧ w1.ownsRow w.heap.size 25 21 x.2 x.1 (insts (xs.take x.1))) (fun x => len - x.1) (by kernel_rfl) (by kernel_rfl) (hR100.cast (by kernel_rfl)) ⟨Nat.zero_le _, ⟨rfl, .inl ⟨rfl, rfl⟩⟩⟩ ?_
  clear hm100 hR100
  rintro ⟨k, u⟩ d w2 hR2 ⟨hk, hown⟩
  have hk : k ≤ len := hk
  have hown : w2.ownsRow w.heap.size 25 21 u k (insts (xs.take k)) := hown
  by_cases hlt : k < len
  · obtain ⟨ga, oa, x, rfl, _, hx, _⟩ := hr.inst hlt
    have hg0 : g < w.heap.size := World.block_lt_of_cell? _ _ hg
    have hr2 : Reads w B 21 (some ⟨ga, oa, none⟩) len (xs.map In.cells).flatten := by rw [← insts_flat]; exact hr
    have hxc : (xs.map In.cells)[k]? = some x.cells := by rw [List.getElem?_map, hx]; rfl
    have hown : Own ρ100 [⟨[.v (.slice (some ⟨ga, oa, none⟩) len cap)], false⟩] w2 w.heap.size 25 21 u k (insts (xs.take k)) := ⟨hown, fun g' hg' ⟨n, r, hn, hw, _⟩ => by
      match n, hn with
      | 0, hn => injection hn with hn; rw [← hn] at hw; cases hw⟩
    have hagO := hR2.ag_ 1 (by kernel_rfl)
    refine sim_run 5 [] hR2 (by kernel_rfl) trivial (fun ρ200 w200 hm200 hR200 => ?_)
    have hown := hown.moved hm200
    have hagO := hagO.moved hm200
    refine sim_know 16 (decide ((↑(k, u).fst : Int) < (↑len : Int))) true (by kernel_rfl) (decide_eq_true (by omega)) ?_
    refine sim_run 6 [] hR200 (by kernel_rfl) trivial (fun ρ201 w201 hm201 hR201 => ?_)
    have hown := hown.moved hm201
    have hagO := hagO.moved hm201
    refine sim_elem x.cells cap k 1 (by kernel_rfl) (by kernel_rfl) hxc hr2 (in_len xs) (by omega) hlt hB (by simp) hR201 (by kernel_rfl) (fun ρ202 hm202 hf202 eG hR202 => ?_)
    have hown := hown.moved hm202
    have hagO := hagO.moved hm202
    have hagE := hR202.ag_ 2 (by kernel_rfl)
    refine sim_run 21 [] hR202 (by kernel_rfl) trivial (fun ρ203 w203 hm203 hR203 => ?_)
    have hown := hown.moved hm203
    have hagO := hagO.moved hm203
    have hagE := hagE.moved hm203
    
    obtain ⟨i0, hi0, hz0, hz1, hz2⟩ := info_parts inst_info
    have hBw : w.heap.size ≤ w203.heap.size := hR203.keeps.size
    refine sim_append 33 (.v u) (.slc 3 0 1 1) (by kernel_rfl) hR203 Try.underlying33 hi0 hz0 hz1 hz2 rfl (by omega) rfl hown.own rfl (x.cells.map .v) rfl (fun j v hv => by rw [at_add, Nat.zero_add]; exact hR203.cell 3 ⟨x.cells.map .v, true⟩ (by kernel_rfl) j v hv) (by kernel_rfl) (by unfold maxLen; omega) (by omega) hBw (Nat.le_refl _) (fun g' hg' m r hm _ he => ?_) (fun v' w4 hown' hgr hat hR4 => ?_)
    · have hge := own_ge hown.own hg'
      cases hw : r.wr with
      | true => exact hown.far g' hg' ⟨m, r, hm, hw, he⟩
      | false =>
        have hmem := roAll_mem _ 0 m r hm hw
        rw [show roAll _ 0 = [0, 1] from by kernel_rfl, Nat.zero_add] at hmem
        simp only [List.mem_cons, List.not_mem_nil, or_false] at hmem
        rcases hmem with rfl | rfl
        · rw [hagO.at_ 0 (by omega)] at he
          rw [e0] at he
          have he : g = g' := he
          omega
        · rw [hagE.at_ 1 (by omega)] at he
          omega
    · have hcells : insts (xs.take k) ++ denL ρ203 (x.cells.map .v) = insts (xs.take (k + 1)) := by
        rw [denL_v, List.take_add_one, hx, insts_append]
        simp [insts]
      rw [hcells] at hown'
      have hfar : ∀ g', v'.ownBlock = some g' → ¬ wrS ρ203 _ g' := fun g' hg' hw => by
        rcases hat with h1 | h1
        · exact hown.far g' (h1 ▸ hg') hw
        · rw [h1] at hg'
          injection hg' with hg'
          have := hR203.wr_lt hw
          omega
      have hown : Own ρ203 _ w4 w.heap.size 25 21 v' (k + 1) (insts (xs.take (k + 1))) := ⟨hown', hfar⟩
      refine sim_run 7 [⟨9, 0, LI (IntKind.i64.wrap ((↑(k, u).fst : Int) + 1)), LI ((↑(k, u).fst : Int) + 1)⟩] hR4 (by kernel_rfl) ⟨eqi (IntWalk.i64_in _ (by omega)), trivial⟩ (fun ρ300 w300 hm300 hR300 => ?_)
      have hagO := hagO.moved hm300
      have hagE := hagE.moved hm300
      have hown := hown.moved hm300
      
      refine sim_again (k + 1, v') (by kernel_rfl) (by show len - (k + 1) < len - k; omega) (by kernel_rfl) (by kernel_rfl) (by kernel_rfl) hagO.ag hR300 (by kernel_rfl) (by kernel_rfl) ⟨hlt, hown.own⟩
  · have hown : Own ρ100 [⟨[.v (.slice A len cap)], false⟩] w2 w.heap.size 25 21 u k (insts (xs.take k)) := ⟨hown, fun g' hg' ⟨n, r, hn, hw, _⟩ => by
      match n, hn with
      | 0, hn => injection hn with hn; rw [← hn] at hw; cases hw⟩
    obtain rfl : k = len := by omega
    refine sim_run 5 [] hR2 (by kernel_rfl) trivial (fun ρ400 w400 hm400 hR400 => ?_)
    have hown := hown.moved hm400
    refine sim_know 16 (decide ((↑(k, u).fst : Int) < (↑k : Int))) false (by kernel_rfl) (decide_eq_false (by omega)) ?_
    refine sim_run 1 [] hR400 (by kernel_rfl) trivial (fun ρ401 w401 hm401 hR401 => ?_)
    have hown := hown.moved hm401
    refine sim_leave (by kernel_rfl) ?_
    refine sim_run 5 [] hR401 (by kernel_rfl) trivial (fun ρ402 w402 hm402 hR402 => ?_)
    have hown := hown.moved hm402
    refine sim_ret (.v ((k, u).snd)) hR402 (by kernel_rfl) (by kernel_rfl) ?_
    exact ⟨u, rfl, by have h := hown.own; rw [List.take_of_length_le (by omega)] at h; exact h, hR402.toBelow⟩
    
theorem list_bk (B g : Nat) (v : Value) (xs : List In) (w : World) (h : BkV w B g v xs) (hl : xs.length ≤ 1000) :
    Calls Try.prog 34 #[.pointer (some ⟨g, 0, none⟩), .slice none 0 0] w fun e w' => ∃ u, e = .returned u ∧ w'.ownsRow w.heap.size 25 21 u xs.length (insts xs) ∧ Below w.heap.size w w' := by
  obtain ⟨A, cap, rfl, hr⟩ : ∃ A cap, v = .slice A xs.length cap ∧ Reads w w.heap.size 21 A xs.length (insts xs) := by
    rcases h.form with ⟨rfl, rfl⟩ | ⟨hb, cap, rest, rfl, _⟩
    · exact ⟨none, 0, rfl, .of_own h.row⟩
    · exact ⟨_, cap, rfl, .of_own h.row⟩
  exact list_slc A xs.length cap w.heap.size xs w g (h.cell.cell 0) hr (Nat.le_refl _) hl
end Go.Proofs.Ytodjhkmbgennaaa
