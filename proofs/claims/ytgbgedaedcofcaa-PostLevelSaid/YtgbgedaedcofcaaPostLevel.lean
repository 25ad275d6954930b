/-
  A transaction whose sums are not level is refused, whatever is there; with the rest added it is not for that: for every number issued, moved, and off.
-/
import Derived.Test.YtgbgedaedcofcaaPstP
import Derived.Test.YtgbgedaedcofcaaBuildP
namespace Go.Proofs.Ytgbgedaedcofcaa
open Go Go.RowKit
attribute [local irreducible] run goO leaveK someK nextK nextT nextOT nextOD loopBody loopRest loopK fillJ tmplOf tmplJ mergeT At AtO drawOk ordOf gateOf callC callO topOp topO idxOf appOf storeOf clearOf sliceOf calleeOf calleeO topQ idxQ newRowOf resL stepOp seek
def lvA (y z : Int) : List OpP := [⟨⟨#[65]⟩, ⟨#[88]⟩, 0, 0 - y⟩, ⟨⟨#[66]⟩, ⟨#[88]⟩, 0, z⟩]
def lvB (y z o : Int) : List OpP := [⟨⟨#[65]⟩, ⟨#[88]⟩, 0, 0 - y⟩, ⟨⟨#[66]⟩, ⟨#[88]⟩, 0, z⟩, ⟨⟨#[66]⟩, ⟨#[88]⟩, 0, o⟩]
theorem lvA_ok {y z : Int} (hy : Is64 (0 - y)) (hz : Is64 z) : ∀ o ∈ lvA y z, o.ok := by
  intro o ho
  simp only [lvA, List.mem_cons, List.not_mem_nil, or_false] at ho
  rcases ho with rfl | rfl
  · exact ⟨by unfold Is64; dsimp only; omega, hy, by show 1 ≤ _; decide, by show 1 ≤ _; decide⟩
  · exact ⟨by unfold Is64; dsimp only; omega, hz, by show 1 ≤ _; decide, by show 1 ≤ _; decide⟩
theorem lvB_ok {y z q : Int} (hy : Is64 (0 - y)) (hz : Is64 z) (hq : Is64 q) : ∀ o ∈ lvB y z q, o.ok := by
  intro o ho
  simp only [lvB, List.mem_cons, List.not_mem_nil, or_false] at ho
  rcases ho with rfl | rfl | rfl
  · exact ⟨by unfold Is64; dsimp only; omega, hy, by show 1 ≤ _; decide, by show 1 ≤ _; decide⟩
  · exact ⟨by unfold Is64; dsimp only; omega, hz, by show 1 ≤ _; decide, by show 1 ≤ _; decide⟩
  · exact ⟨by unfold Is64; dsimp only; omega, hq, by show 1 ≤ _; decide, by show 1 ≤ _; decide⟩
theorem lvA_look {s : LSt} {y o : Int} (ho : o ≠ 0) : lookC s (lvA y (y + o)) = 1 := by
  have he : evenB (lvA y (y + o)) = false := by
    have h1 : asL ⟨#[88]⟩ (lvA y (y + o)) = [0 - y, y + o] := by simp [asL, lvA]
    refine List.all_eq_false.2 ⟨⟨⟨#[65]⟩, ⟨#[88]⟩, 0, 0 - y⟩, by simp [lvA], ?_⟩
    rw [show asL (⟨⟨#[65]⟩, ⟨#[88]⟩, 0, 0 - y⟩ : OpP).asset (lvA y (y + o)) = [0 - y, y + o] from h1]
    simp [sumI]
    omega
  unfold lookC
  rw [if_neg (by simp [lvA]), he, if_pos (by simp)]
theorem lvB_look {s : LSt} {n y o : Int} (hs : ∀ e ∈ s.l, okB e.val) (hlb : s.lb = []) (hg : ∀ k, getM s.l k = if k = (⟨#[65]⟩, ⟨#[88]⟩) then (n, 0, 0) else (0, 0, 0)) (hn : n ≤ 1099511627776) (hy : 0 ≤ y ∧ y ≤ n) (ho : -1099511627776 ≤ o ∧ o ≤ 1099511627776) : lookC s (lvB y (y + o) (0 - o)) = 0 := by
  have hneK : ¬ ((⟨#[66]⟩, ⟨#[88]⟩) : Key) = (⟨#[65]⟩, ⟨#[88]⟩) := by decide
  have hneP : ¬ (((⟨#[66]⟩, ⟨#[88]⟩), 0) : Part) = ((⟨#[65]⟩, ⟨#[88]⟩), 0) := by decide
  have hneP2 : ¬ (((⟨#[65]⟩, ⟨#[88]⟩), 0) : Part) = ((⟨#[66]⟩, ⟨#[88]⟩), 0) := by decide
  refine (look_ok hs).2 ⟨by simp [lvB], ?_, ?_, fun k hk => ?_⟩
  · simp only [rightsB, lvB, List.all_cons, List.all_nil, rightB, okBy, Bool.and_true, Bool.and_eq_true, decide_eq_true_eq]
    omega
  · have h1 : asL ⟨#[88]⟩ (lvB y (y + o) (0 - o)) = [0 - y, y + o, 0 - o] := by simp [asL, lvB]
    have h2 : decide (sumI (asL ⟨#[88]⟩ (lvB y (y + o) (0 - o))) = 0) = true := by
      rw [h1]
      refine decide_eq_true ?_
      simp [sumI]
      omega
    simp only [evenB]
    refine List.all_eq_true.2 fun p hp => ?_
    simp only [lvB, List.mem_cons, List.not_mem_nil, or_false] at hp
    rcases hp with rfl | rfl | rfl <;> exact h2
  · obtain ⟨p, hp, rfl⟩ := nets_mem.1 hk
    have hA : (⟨⟨#[65]⟩, ⟨#[88]⟩, 0, 0 - y⟩ : OpP).part = ((⟨#[65]⟩, ⟨#[88]⟩), 0) := rfl
    have hB : ∀ z, (⟨⟨#[66]⟩, ⟨#[88]⟩, 0, z⟩ : OpP).part = ((⟨#[66]⟩, ⟨#[88]⟩), 0) := fun _ => rfl
    have pA : ptL ((⟨#[65]⟩, ⟨#[88]⟩), 0) (lvB y (y + o) (0 - o)) = [0 - y] := by simp only [ptL, lvB]; rw [List.filter_cons_of_pos (by rw [hA]; decide), List.filter_cons_of_neg (by rw [hB]; decide), List.filter_cons_of_neg (by rw [hB]; decide)]; rfl
    have pB : ptL ((⟨#[66]⟩, ⟨#[88]⟩), 0) (lvB y (y + o) (0 - o)) = [y + o, 0 - o] := by simp only [ptL, lvB]; rw [List.filter_cons_of_neg (by rw [hA]; decide), List.filter_cons_of_pos (by rw [hB]; decide), List.filter_cons_of_pos (by rw [hB]; decide)]; rfl
    have gA : partM (getM s.l (⟨#[65]⟩, ⟨#[88]⟩)) 0 = n := by rw [hg, if_pos rfl]; rfl
    have gB : partM (getM s.l (⟨#[66]⟩, ⟨#[88]⟩)) 0 = 0 := by rw [hg, if_neg hneK]; rfl
    have sA : sumI [0 - y] = 0 - y := by simp [sumI]
    have sB : sumI [y + o, 0 - o] = y := by simp [sumI]; omega
    simp only [lvB, List.mem_cons, List.not_mem_nil, or_false] at hp
    rcases hp with rfl | rfl | rfl
    · exact ⟨fun h => (by have h2 := h.2.2; rw [hlb] at h2; cases h2), by rw [hA, pA, sA]; dsimp only; omega, by rw [hA, pA, sA]; dsimp only; omega⟩
    · exact ⟨fun h => (by have h2 := h.2.2; rw [hlb] at h2; cases h2), by rw [hB, pB, sB]; dsimp only; omega, by rw [hB, pB, sB]; dsimp only; omega⟩
    · exact ⟨fun h => (by have h2 := h.2.2; rw [hlb] at h2; cases h2), by rw [hB, pB, sB]; dsimp only; omega, by rw [hB, pB, sB]; dsimp only; omega⟩
set_option maxRecDepth 100000 in
set_option maxHeartbeats 4000000 in
theorem postLevel_walk (w : World) (n y o : Int) (hn : Is64 n) (hy : Is64 y) (ho : Is64 o) : Calls Try.prog 7 #[.int .i64 n, .int .i64 y, .int .i64 o] w fun e w' => e = .returned (.bool true) ∧ Below w.heap.size w w' := by
  unfold Is64 at hn hy ho
  refine sim_enter Try.func7 ρ0 [LI n, LI y, LI o] [] (by kernel_rfl) rfl ?_
  have hR := Rel.start [] w ρ0
  refine sim_run 10 [] (hR.cast (by kernel_rfl)) (by kernel_rfl) trivial (fun ρ100 w100 hm100 hR100 => ?_)
  refine sim_fork 11 (decide (n < 0)) (by kernel_rfl) (fun hq101 => ?_) (fun hq101 => ?_)
  have hq101 := of_decide_eq_true hq101
  refine sim_run 28 [] (hR100.cast (by kernel_rfl)) (by kernel_rfl) trivial (fun ρ102 w102 hm102 hR102 => ?_)
  refine sim_call 23 [] (by kernel_rfl) ?_
  refine Calls.mono (alive11_any _) ?_
  rintro e103 w103 ⟨rfl, hb103⟩
  have hR103 := hR102.below hb103
  refine Back.of (LB true) hR103 rfl ?_
  refine sim_run 2 [] (hR103.cast (by kernel_rfl)) (by kernel_rfl) trivial (fun ρ104 w104 hm104 hR104 => ?_)
  refine sim_ret (LB true) hR104 (by kernel_rfl) (by kernel_rfl) ?_
  exact ⟨rfl, hR104.toBelow⟩
  have hq101 := of_decide_eq_false hq101
  refine sim_run 4 [] (hR100.cast (by kernel_rfl)) (by kernel_rfl) trivial (fun ρ105 w105 hm105 hR105 => ?_)
  refine sim_fork 15 (decide (n > 1099511627776)) (by kernel_rfl) (fun hq106 => ?_) (fun hq106 => ?_)
  have hq106 := of_decide_eq_true hq106
  refine sim_run 24 [] (hR105.cast (by kernel_rfl)) (by kernel_rfl) trivial (fun ρ107 w107 hm107 hR107 => ?_)
  refine sim_call 23 [] (by kernel_rfl) ?_
  refine Calls.mono (alive11_any _) ?_
  rintro e108 w108 ⟨rfl, hb108⟩
  have hR108 := hR107.below hb108
  refine Back.of (LB true) hR108 rfl ?_
  refine sim_run 2 [] (hR108.cast (by kernel_rfl)) (by kernel_rfl) trivial (fun ρ109 w109 hm109 hR109 => ?_)
  refine sim_ret (LB true) hR109 (by kernel_rfl) (by kernel_rfl) ?_
  exact ⟨rfl, hR109.toBelow⟩
  have hq106 := of_decide_eq_false hq106
  refine sim_run 4 [] (hR105.cast (by kernel_rfl)) (by kernel_rfl) trivial (fun ρ110 w110 hm110 hR110 => ?_)
  refine sim_fork 19 (decide (y < 0)) (by kernel_rfl) (fun hq111 => ?_) (fun hq111 => ?_)
  have hq111 := of_decide_eq_true hq111
  refine sim_run 20 [] (hR110.cast (by kernel_rfl)) (by kernel_rfl) trivial (fun ρ112 w112 hm112 hR112 => ?_)
  refine sim_call 23 [] (by kernel_rfl) ?_
  refine Calls.mono (alive11_any _) ?_
  rintro e113 w113 ⟨rfl, hb113⟩
  have hR113 := hR112.below hb113
  refine Back.of (LB true) hR113 rfl ?_
  refine sim_run 2 [] (hR113.cast (by kernel_rfl)) (by kernel_rfl) trivial (fun ρ114 w114 hm114 hR114 => ?_)
  refine sim_ret (LB true) hR114 (by kernel_rfl) (by kernel_rfl) ?_
  exact ⟨rfl, hR114.toBelow⟩
  have hq111 := of_decide_eq_false hq111
  refine sim_run 5 [] (hR110.cast (by kernel_rfl)) (by kernel_rfl) trivial (fun ρ115 w115 hm115 hR115 => ?_)
  refine sim_fork 24 (decide (y > n)) (by kernel_rfl) (fun hq116 => ?_) (fun hq116 => ?_)
  have hq116 := of_decide_eq_true hq116
  refine sim_run 15 [] (hR115.cast (by kernel_rfl)) (by kernel_rfl) trivial (fun ρ117 w117 hm117 hR117 => ?_)
  refine sim_call 23 [] (by kernel_rfl) ?_
  refine Calls.mono (alive11_any _) ?_
  rintro e118 w118 ⟨rfl, hb118⟩
  have hR118 := hR117.below hb118
  refine Back.of (LB true) hR118 rfl ?_
  refine sim_run 2 [] (hR118.cast (by kernel_rfl)) (by kernel_rfl) trivial (fun ρ119 w119 hm119 hR119 => ?_)
  refine sim_ret (LB true) hR119 (by kernel_rfl) (by kernel_rfl) ?_
  exact ⟨rfl, hR119.toBelow⟩
  have hq116 := of_decide_eq_false hq116
  refine sim_run 4 [] (hR115.cast (by kernel_rfl)) (by kernel_rfl) trivial (fun ρ120 w120 hm120 hR120 => ?_)
  refine sim_fork 28 (o == 0) (by kernel_rfl) (fun hq121 => ?_) (fun hq121 => ?_)
  have hq121 := of_decide_eq_true hq121
  refine sim_run 11 [] (hR120.cast (by kernel_rfl)) (by kernel_rfl) trivial (fun ρ122 w122 hm122 hR122 => ?_)
  refine sim_call 23 [] (by kernel_rfl) ?_
  refine Calls.mono (alive11_any _) ?_
  rintro e123 w123 ⟨rfl, hb123⟩
  have hR123 := hR122.below hb123
  refine Back.of (LB true) hR123 rfl ?_
  refine sim_run 2 [] (hR123.cast (by kernel_rfl)) (by kernel_rfl) trivial (fun ρ124 w124 hm124 hR124 => ?_)
  refine sim_ret (LB true) hR124 (by kernel_rfl) (by kernel_rfl) ?_
  exact ⟨rfl, hR124.toBelow⟩
  have hq121 := of_decide_eq_false hq121
  refine sim_run 4 [] (hR120.cast (by kernel_rfl)) (by kernel_rfl) trivial (fun ρ125 w125 hm125 hR125 => ?_)
  refine sim_fork 32 (decide (o > 1099511627776)) (by kernel_rfl) (fun hq126 => ?_) (fun hq126 => ?_)
  have hq126 := of_decide_eq_true hq126
  refine sim_run 7 [] (hR125.cast (by kernel_rfl)) (by kernel_rfl) trivial (fun ρ127 w127 hm127 hR127 => ?_)
  refine sim_call 23 [] (by kernel_rfl) ?_
  refine Calls.mono (alive11_any _) ?_
  rintro e128 w128 ⟨rfl, hb128⟩
  have hR128 := hR127.below hb128
  refine Back.of (LB true) hR128 rfl ?_
  refine sim_run 2 [] (hR128.cast (by kernel_rfl)) (by kernel_rfl) trivial (fun ρ129 w129 hm129 hR129 => ?_)
  refine sim_ret (LB true) hR129 (by kernel_rfl) (by kernel_rfl) ?_
  exact ⟨rfl, hR129.toBelow⟩
  have hq126 := of_decide_eq_false hq126
  refine sim_run 4 [] (hR125.cast (by kernel_rfl)) (by kernel_rfl) trivial (fun ρ130 w130 hm130 hR130 => ?_)
  refine sim_fork 35 (decide (o < -1099511627776)) (by kernel_rfl) (fun hq131 => ?_) (fun hq131 => ?_)
  have hq131 := of_decide_eq_true hq131
  refine sim_run 3 [] (hR130.cast (by kernel_rfl)) (by kernel_rfl) trivial (fun ρ132 w132 hm132 hR132 => ?_)
  refine sim_call 23 [] (by kernel_rfl) ?_
  refine Calls.mono (alive11_any _) ?_
  rintro e133 w133 ⟨rfl, hb133⟩
  have hR133 := hR132.below hb133
  refine Back.of (LB true) hR133 rfl ?_
  refine sim_run 2 [] (hR133.cast (by kernel_rfl)) (by kernel_rfl) trivial (fun ρ134 w134 hm134 hR134 => ?_)
  refine sim_ret (LB true) hR134 (by kernel_rfl) (by kernel_rfl) ?_
  exact ⟨rfl, hR134.toBelow⟩
  have hq131 := of_decide_eq_false hq131
  refine sim_run 4 [] (hR130.cast (by kernel_rfl)) (by kernel_rfl) trivial (fun ρ135 w135 hm135 hR135 => ?_)
  refine sim_call 24 [] (by kernel_rfl) ?_
  refine Calls.mono (newLd_any _) ?_
  rintro e136 w136 ⟨gl, g, rfl, hl136, hb136⟩
  have hBw := (hR135).keeps.size
  have hRr136 := (hR135).below hb136
  refine Back.view hl136 (hRr136.cast (by kernel_rfl)) (by kernel_rfl) (fun ρv e0 hR136 hld => ?_)
  have hag := hR136.ag_ 1 (by kernel_rfl)
  refine sim_run 5 [] (hR136.cast (by kernel_rfl)) (by kernel_rfl) trivial (fun ρ137 w137 hm137 hR137 => ?_)
  have hld := hld.moved (hm137.castL (by kernel_rfl))
  have hag := hag.moved (hm137.castL (by kernel_rfl))
  
  obtain ⟨hcI, hget0⟩ := new_iss (g := g) (a := ⟨#[65]⟩) (c := ⟨#[88]⟩) (n := n) (by omega)
  refine sim_run 6 [] hR137 (by kernel_rfl) trivial (fun ρ200 w200 hm200 hR200 => ?_)
  have hld := hld.moved hm200
  have hag := hag.moved hm200
  refine sim_call 25 [.ptr 0 0, .agg [LS (ByteArray.mk #[65]), LS (ByteArray.mk #[88])], LI n] (by kernel_rfl) ?_
  have ez0_201 := (hag.at_ 0 (by omega)).trans e0
  simp only [denL, LV.den, Nm.at_, ez0_201, Nat.add_zero]
  refine Calls.mono (issue_any _ (gl) (newS g) _ _ (n) _ hld.ld (by assumption) ((by decide)) ((by decide)) (new_iss64 g _)) ?_
  rintro e201 w201 ⟨rfl, s1, hl201, his, hk201, hh201⟩
  obtain ⟨hld2, hR201⟩ := hld.afterL hR200 hBw hl201 his.g hk201 hh201 (by kernel_rfl) [] (by kernel_rfl) (by simp)
  clear hld
  have hld := hld2
  clear hld2
  refine Back.of (LI 0) hR201 (by rw [hcI]; rfl) ?_
  refine sim_run 7 [] (hR201.cast (by kernel_rfl)) (by kernel_rfl) trivial (fun ρ202 w202 hm202 hR202 => ?_)
  have hag := hag.moved (hm202.castL (by kernel_rfl))
  have hld := hld.moved (hm202.castL (by kernel_rfl))
  
  have hg1 : ∀ k, getM s1.l k = if k = (⟨#[65]⟩, ⟨#[88]⟩) then (n, 0, 0) else (0, 0, 0) := fun k => by
    rw [his.get k, if_pos hcI]
    exact hget0 k
  have hlb1 : s1.lb = [] := his.lb
  have hpA1 : partM (getM s1.l (⟨#[65]⟩, ⟨#[88]⟩)) 0 = n := by rw [hg1, if_pos rfl]; rfl
  refine sim_run 1 [] hR202 (by kernel_rfl) trivial (fun ρ300 w300 hm300 hR300 => ?_)
  have hag := hag.moved hm300
  have hld := hld.moved hm300
  refine sim_into Try.func26 [LS (ByteArray.mk #[65]), LS (ByteArray.mk #[66]), LS (ByteArray.mk #[88]), LI y] (by kernel_rfl) (by kernel_rfl) ?_
  have hag301 := hR300.ag_ 1 (by kernel_rfl)
  refine sim_run 17 [⟨1, 4, LI (IntKind.i64.wrap (0 - y)), LI (0 - y)⟩] (hR300.cast (by kernel_rfl)) (by kernel_rfl) ⟨eqi (IntWalk.i64_in _ (by omega)), trivial⟩ (fun ρ302 w302 hm302 hR302 => ?_)
  have hag := hag.moved (hm302.castL (by kernel_rfl))
  have hld := hld.moved (hm302.castL (by kernel_rfl))
  have hag301 := hag301.moved (hm302.castL (by kernel_rfl))
  
  refine sim_buildP (e := 51) (len := 2) (r := [LS ⟨#[65]⟩, LS ⟨#[88]⟩, LI 0, LI (0 - y), LS ⟨#[66]⟩, LS ⟨#[88]⟩, LI 0, LI y]) 1 (by kernel_rfl) (by kernel_rfl) (Rel.cast (by assumption) (by kernel_rfl)) (by kernel_rfl) (fun ρ5 w5 hm5 e1 hR5 hbl => ?_)
  have hgp := hR302.keeps.size
  have hgl3 := hld.ld.cell.lt
  have hhas3 : ∀ x, (x = gl ∨ s1.has x) → x < w302.heap.size := fun x hx => hld.ld.has_lt hx
  have hag := hag.moved (hm5.castL (by kernel_rfl))
  have hag301 := hag301.moved (hm5.castL (by kernel_rfl))
  have hld := hld.moved (hm5.castL (by kernel_rfl))
  have hag2 := hR5.ag_ 2 (by kernel_rfl)
  have hrowv := hR5.rowW (cur := [.string ⟨#[65]⟩, .string ⟨#[88]⟩, .int .i64 0, .int .i64 (0 - y), .string ⟨#[66]⟩, .string ⟨#[88]⟩, .int .i64 0, .int .i64 y]) hbl
  refine sim_run 2 [] (hR5.cast (by kernel_rfl)) (by kernel_rfl) trivial (fun ρ400 w400 hm400 hR400 => ?_)
  have hag := hag.moved (hm400.castL (by kernel_rfl))
  have hag301 := hag301.moved (hm400.castL (by kernel_rfl))
  have hld := hld.moved (hm400.castL (by kernel_rfl))
  have hag2 := hag2.moved (hm400.castL (by kernel_rfl))
  have hrowv := hrowv.moved (hm400.castL (by kernel_rfl))
  refine sim_out 1 (.slc 1 0 2 2) hR400 (by kernel_rfl) (by kernel_rfl) hag301.ag (by kernel_rfl) ?_
  refine sim_run 14 [] (hR400.cast (by kernel_rfl)) (by kernel_rfl) trivial (fun ρ401 w401 hm401 hR401 => ?_)
  have hag := hag.moved (hm401.castL (by kernel_rfl))
  have hag301 := hag301.moved (hm401.castL (by kernel_rfl))
  have hld := hld.moved (hm401.castL (by kernel_rfl))
  have hag2 := hag2.moved (hm401.castL (by kernel_rfl))
  have hrowv := hrowv.moved (hm401.castL (by kernel_rfl))
  refine sim_idx 1 0 2 2 1 4 (by kernel_rfl) (by omega) ?_
  refine sim_run 4 [⟨9, 5, LI (IntKind.i64.wrap (y + o)), LI (y + o)⟩] (hR401.cast (by kernel_rfl)) (by kernel_rfl) ⟨eqi (IntWalk.i64_in _ (by omega)), trivial⟩ (fun ρ402 w402 hm402 hR402 => ?_)
  have hag := hag.moved (hm402.castL (by kernel_rfl))
  have hag301 := hag301.moved (hm402.castL (by kernel_rfl))
  have hld := hld.moved (hm402.castL (by kernel_rfl))
  have hag2 := hag2.moved (hm402.castL (by kernel_rfl))
  have hrowv := hrowv.moved (hm402.castL (by kernel_rfl))
  refine sim_idx 1 0 2 2 1 4 (by kernel_rfl) (by omega) ?_
  refine sim_run 5 [] (hR402.cast (by kernel_rfl)) (by kernel_rfl) trivial (fun ρ403 w403 hm403 hR403 => ?_)
  have hag := hag.moved (hm403.castL (by kernel_rfl))
  have hag301 := hag301.moved (hm403.castL (by kernel_rfl))
  have hld := hld.moved (hm403.castL (by kernel_rfl))
  have hag2 := hag2.moved (hm403.castL (by kernel_rfl))
  have hrowv := hrowv.moved (hm403.castL (by kernel_rfl))
  
  have he1 : True ∧ ρ5 1 = (w302.heap.size, 0) := ⟨trivial, e1⟩
  clear e1
  have hpok1 := lvA_ok (y := y) (z := y + o) (by unfold Is64; omega) (by unfold Is64; omega)
  have hl1 := lvA_look (s := s1) (y := y) (o := o) (by omega)
  refine sim_call 23 [] (by kernel_rfl) ?_
  refine Calls.mono (alive11_any _) ?_
  rintro e500 w500 ⟨rfl, hb500⟩
  have hR500 := hR403.below hb500
  have hld := hld.below hb500
  have hrowv := hrowv.below hb500
  refine Back.of (LB true) hR500 rfl ?_
  refine sim_run 3 [] (hR500.cast (by kernel_rfl)) (by kernel_rfl) trivial (fun ρ501 w501 hm501 hR501 => ?_)
  have hag := hag.moved (hm501.castL (by kernel_rfl))
  have hag301 := hag301.moved (hm501.castL (by kernel_rfl))
  have hag2 := hag2.moved (hm501.castL (by kernel_rfl))
  have hld := hld.moved (hm501.castL (by kernel_rfl))
  have hrowv := hrowv.moved (hm501.castL (by kernel_rfl))
  
  have hpp := ((by assumption : Rel _ _ _ _ _).cast (by kernel_rfl)).posts (rs := [⟨ptrG g, false⟩, ⟨[LS ⟨#[65]⟩, LS ⟨#[88]⟩, LI 0, LI (0 - y), LS ⟨#[66]⟩, LS ⟨#[88]⟩, LI 0, LI (y + o)], true⟩]) (n := 1) (ps := lvA y (y + o)) (by rfl) hpok1
  refine sim_call 27 [.ptr 0 0, .slc 1 0 2 2] (by kernel_rfl) ?_
  have ez0_600 := (hag.at_ 0 (by omega)).trans e0
  simp only [denL, LV.den, Nm.at_, ez0_600, Nat.add_zero]
  refine Calls.mono (try_any _ (gl) _ (s1) _ _ _ (lvA y (y + o)) _ (hld.ld) (hpp) (Nat.le_refl _) ((by decide))) ?_
  rw [hl1]
  rintro e600 w600 ⟨rfl, hb600⟩
  have hR600 := (hR501).below hb600
  have hld := hld.below hb600
  have hrowv := hrowv.below hb600
  refine Back.of (LI 1) hR600 rfl ?_
  refine sim_run 10 [⟨10, 12, LI (IntKind.i64.wrap (0 - o)), LI (0 - o)⟩] (hR600.cast (by kernel_rfl)) (by kernel_rfl) ⟨eqi (IntWalk.i64_in _ (by omega)), trivial⟩ (fun ρ601 w601 hm601 hR601 => ?_)
  have hag := hag.moved (hm601.castL (by kernel_rfl))
  have hag301 := hag301.moved (hm601.castL (by kernel_rfl))
  have hag2 := hag2.moved (hm601.castL (by kernel_rfl))
  have hld := hld.moved (hm601.castL (by kernel_rfl))
  have hrowv := hrowv.moved (hm601.castL (by kernel_rfl))
  
  have hbf := hrowv.full (n := 1) (cells := [LS ⟨#[65]⟩, LS ⟨#[88]⟩, LI 0, LI (0 - y), LS ⟨#[66]⟩, LS ⟨#[88]⟩, LI 0, LI (y + o)]) (wr := true) (by assumption : Rel _ _ _ _ _) hag2 (by kernel_rfl) he1.2 rfl
  have hown := own_full (B := w.heap.size) (n := 2) (size := 4) (xs := ((lvA y (y + o)).map OpP.cells).flatten) hbf hgp rfl (by unfold maxLen; omega)
  have e1 := (hag2.at_ 1 (by omega)).trans he1.2
  have hRx := (by assumption : Rel _ _ _ _ _).cast (rs' := [⟨ptrG g, false⟩, ⟨[LS ⟨#[65]⟩, LS ⟨#[88]⟩, LI 0, LI (0 - y), LS ⟨#[66]⟩, LS ⟨#[88]⟩, LI 0, LI (y + o)], true⟩, ⟨[LS ⟨#[66]⟩, LS ⟨#[88]⟩, LI 0, LI (0 - o)], true⟩]) (by kernel_rfl)
  have hRf := (hRx.forget (fun i => Nat.beq i 1)).cast (rs' := [⟨ptrG g, false⟩, ⟨[], false⟩, ⟨[LS ⟨#[66]⟩, LS ⟨#[88]⟩, LI 0, LI (0 - o)], true⟩]) (by kernel_rfl)
  refine sim_rs [⟨ptrG g, false⟩, ⟨[], false⟩, ⟨[LS ⟨#[66]⟩, LS ⟨#[88]⟩, LI 0, LI (0 - o)], true⟩] ?_
  have hne2 : (ρ601 2).1 ≠ w302.heap.size := fun e => by
    have ha := hRx.apart 1 2 _ _ rfl rfl (by decide) rfl (by rw [e1]; exact e.symm)
    have hc := hRx.cell 2 _ rfl 0 _ rfl
    rw [e1] at ha
    simp only [Nm.at_, e, hbf.cell] at hc
    rw [List.getElem?_toArray, List.getElem?_eq_none] at hc
    · cases hc
    · show 8 ≤ (ρ601 2).2 + 0
      rcases ha with h | h
      · have h : 0 + 8 ≤ (ρ601 2).2 := h
        omega
      · have h : (ρ601 2).2 + 4 ≤ 0 := h
        omega
  have hldf : LdO ρ601 [⟨ptrG g, false⟩, ⟨[], false⟩, ⟨[LS ⟨#[66]⟩, LS ⟨#[88]⟩, LI 0, LI (0 - o)], true⟩] w601 _ gl s1 := ⟨hld.ld, hld.at_, by simp, fun x hx ⟨n, r, hn, hw, he⟩ => by
    have hld' := hld.castR (rs' := [⟨ptrG g, false⟩, ⟨[LS ⟨#[65]⟩, LS ⟨#[88]⟩, LI 0, LI (0 - y), LS ⟨#[66]⟩, LS ⟨#[88]⟩, LI 0, LI (y + o)], true⟩, ⟨[LS ⟨#[66]⟩, LS ⟨#[88]⟩, LI 0, LI (0 - o)], true⟩]) (by kernel_rfl)
    match n, hn with
    | 0, hn => simp only [List.getElem?_cons_zero, Option.some.injEq] at hn; subst hn; cases hw
    | 1, hn => simp only [List.getElem?_cons_succ, List.getElem?_cons_zero, Option.some.injEq] at hn; subst hn; cases hw
    | n + 2, hn => exact hld'.far x hx ⟨n + 2, r, hn, hw, he⟩⟩
  have hagf := hRf.ag_ 3 (by kernel_rfl)
  have hrow : Own ρ601 [⟨ptrG g, false⟩, ⟨[], false⟩, ⟨[LS ⟨#[66]⟩, LS ⟨#[88]⟩, LI 0, LI (0 - o)], true⟩] w601 w.heap.size 51 4 (.slice (some ⟨w302.heap.size, 0, none⟩) 2 2) 2 ((lvA y (y + o)).map OpP.cells).flatten := ⟨hown, fun g' hg' ⟨n, r, hn, hw, he⟩ => by
    have hg2 : some w302.heap.size = some g' := hg'
    injection hg2 with hg2
    match n, hn with
    | 0, hn => simp only [List.getElem?_cons_zero, Option.some.injEq] at hn; subst hn; cases hw
    | 1, hn => simp only [List.getElem?_cons_succ, List.getElem?_cons_zero, Option.some.injEq] at hn; subst hn; cases hw
    | 2, hn => exact hne2 (he.trans hg2.symm)
    | n + 3, hn => simp at hn⟩
  refine sim_set 69 (.v (.slice (some ⟨w302.heap.size, 0, none⟩) 2 2)) (by rw [show evalL _ _ = LV.slc 1 0 2 2 by kernel_rfl]; simp only [LV.den, Nm.at_, e1]) ?_
  refine sim_appendP 48 _ (.slc 2 0 1 1) (by kernel_rfl) (hRf.cast (by kernel_rfl)) (RowTy.of (size := 4) (bytes := 48) Try.underlying48 (by kernel_rfl) rfl) (hrow.castR (by kernel_rfl)) 2 1 1 rfl [LS ⟨#[66]⟩, LS ⟨#[88]⟩, LI 0, LI (0 - o)] (by kernel_rfl) rfl (by kernel_rfl) (by unfold maxLen; omega) (by omega) hRf.keeps.size (fun g' hg' => .inr (own_ge hrow.own hg')) [0] (by kernel_rfl) (fun k0 hk0 g' hg' => by
    rw [List.mem_singleton.1 hk0, hldf.at_]
    have hg2 : some w302.heap.size = some g' := hg'
    injection hg2 with hg2
    intro e
    have e : gl = g' := e
    omega) (fun v' w7 hrow7 hgr hat hR7 => ?_)
  obtain ⟨A7, cp7, rfl⟩ := own_row hrow7.own
  have hld7 := hldf.ld.same (w' := w7) (fun x hx => hgr.block x (hldf.ld.has_lt hx) (fun e => by
    have e2 : some x = some w302.heap.size := e
    injection e2 with e2
    have := hhas3 x hx
    omega))
  have hld : LdO ρ601 _ w7 _ gl s1 := ⟨hld7, hldf.at_, hldf.lt, hldf.far⟩
  have hag := hagf
  have e0 := hldf.at_
  have hpok2 := lvB_ok (y := y) (z := y + o) (q := 0 - o) (by unfold Is64; omega) (by unfold Is64; omega) (by unfold Is64; omega)
  have hl2 := lvB_look (s := s1) (n := n) (y := y) (o := o) hld7.pos.ok hlb1 hg1 (by omega) (by omega) (by omega)
  clear e1 hldf hagf hag2
  
  have hpp2 : Posts _ _ A7 3 (lvB y (y + o) (0 - o)) := ⟨Reads.of_own hrow7.own, rfl, hpok2⟩
  refine sim_call 27 [.ptr 0 0, .v (Value.slice A7 3 cp7)] (by kernel_rfl) ?_
  simp only [denL, LV.den, Nm.at_, e0, Nat.add_zero]
  refine Calls.mono (try_any _ (gl) _ (s1) _ _ _ (lvB y (y + o) (0 - o)) _ (hld.ld) (hpp2) (Nat.le_refl _) ((by decide))) ?_
  rw [hl2]
  rintro e800 w800 ⟨rfl, hb800⟩
  have hR800 := (hR7).below hb800
  have hld := hld.below hb800
  refine Back.of (LI 0) hR800 rfl ?_
  refine sim_run 8 [] (hR800.cast (by kernel_rfl)) (by kernel_rfl) trivial (fun ρ801 w801 hm801 hR801 => ?_)
  have hag := hag.moved (hm801.castL (by kernel_rfl))
  have hld := hld.moved (hm801.castL (by kernel_rfl))
  refine sim_call 19 [.v (Value.pointer (some (Addr.mk g 0 none))), .agg [LS (ByteArray.mk #[65]), LS (ByteArray.mk #[88])], LI 0] (by kernel_rfl) ?_
  refine Calls.mono (part_po _ _ _ _ _ _ _ _ _ (pos_g hld.ld his.g)) ?_
  rw [hpA1]
  rintro e802 w802 ⟨rfl, hb802⟩
  have hR802 := (hR801).below hb802
  have hld := hld.below hb802
  refine Back.of (LI n) hR802 rfl ?_
  refine sim_run 5 [] (hR802.cast (by kernel_rfl)) (by kernel_rfl) trivial (fun ρ803 w803 hm803 hR803 => ?_)
  have hag := hag.moved (hm803.castL (by kernel_rfl))
  have hld := hld.moved (hm803.castL (by kernel_rfl))
  refine sim_ret (LB (n == n)) hR803 (by kernel_rfl) (by kernel_rfl) ?_
  exact ⟨retv_bool (by clear hR803 hm803 hR802 hb802 hR801 hm801 hR800 hb800 hR7 hRf hRx hR601 hm601 hR600 hb600 hR501 hm501 hR500 hb500 hR403 hm403 hR402 hm402 hR401 hm401 hR400 hm400 hag2 hR5 hm5 hR302 hm302 hag301 hR300 hm300 hR202 hm202 hR201 hR200 hm200 hR137 hm137 hag hR136 hRr136 hb136 hR135 hm135 hR130 hm130 hR125 hm125 hR120 hm120 hR115 hm115 hR110 hm110 hR105 hm105 hR100 hm100 hR; grind []), hR803.toBelow⟩
  
end Go.Proofs.Ytgbgedaedcofcaa
