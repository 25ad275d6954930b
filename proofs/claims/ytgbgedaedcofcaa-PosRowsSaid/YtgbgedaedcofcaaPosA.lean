/-
  pos: keys, what a map of positions holds; Get, Part.
-/
import Derived.Test.YtgbgedaedcofcaaMapB
import Derived.Test.YtgbgedaedcofcaaFork
import Derived.Test.YtgbgedaedcofcaaProg
namespace Go.Proofs.Ytgbgedaedcofcaa
open Go Go.RowKit
attribute [local irreducible] run goO leaveK someK nextK nextT nextOT nextOD loopBody loopRest loopK fillJ tmplOf tmplJ mergeT At AtO drawOk ordOf gateOf callC callO topOp topO idxOf appOf storeOf clearOf sliceOf calleeOf calleeO topQ idxQ newRowOf resL stepOp seek

abbrev Key := ByteArray × ByteArray
def encK (k : Key) : Value := .agg #[.string k.1, .string k.2]
abbrev B3 := Int × Int × Int
def encB (b : B3) : Value := .agg #[.int .i64 b.1, .int .i64 b.2.1, .int .i64 b.2.2]
theorem ba_dec (a b : ByteArray) : (a == b) = decide (a = b) := by
  cases h : (a == b) with
  | true =>
    symm
    rw [decide_eq_true_iff]
    have h2 : (a.data == b.data) = true := h
    have h3 := eq_of_beq h2
    cases a; cases b; simp_all
  | false =>
    symm
    rw [decide_eq_false_iff_not]
    rintro rfl
    have : (a == a) = true := by
      obtain ⟨d⟩ := a
      show (d == d) = true
      simp
    rw [this] at h
    cases h
theorem key_eqIn (a b : Key) : eqIn Try.prog Op.maxDepth 24 (encK a) (encK b) = some (a.1 == b.1 && (a.2 == b.2 && true)) := by kernel_rfl
theorem kt_key : KT Try.prog 24 encK := by
  refine ⟨fun a b w => ?_, fun d hd a b x h => ?_, ⟨_, Try.underlying24⟩, fun b a w => by kernel_rfl, fun a => ?_⟩
  · have h := eqIn_run _ _ _ _ _ w (key_eqIn a b)
    have e : (a.1 == b.1 && (a.2 == b.2 && true)) = decide (a = b) := by
      rw [ba_dec, ba_dec, Bool.and_true]
      obtain ⟨a1, a2⟩ := a
      obtain ⟨b1, b2⟩ := b
      simp only [Prod.mk.injEq, Bool.decide_and]
    rw [e] at h
    exact h
  · simp [Instr.sameNow, encK] at h
  · unfold encK
    simp [Instr.sameBits, ba_dec]
theorem mp_ty : Try.prog.underlying 72 = some (.map 24 76) := Try.underlying72
theorem zero_b3 (w : World) : (zeroValue 76).run Try.prog w = .ok (encB (0, 0, 0)) w := by kernel_rfl

abbrev getM (l : List (Ent Key B3)) (k : Key) : B3 := (look k l).getD (0, 0, 0)
theorem isPart_any (sub : Int) (w : World) : Calls Try.prog 36 #[.int .i64 sub] w fun e w' => e = .returned (.bool (decide (0 ≤ sub) && decide (sub < 3))) ∧ Below w.heap.size w w' := by
  refine sim_enter Try.func36 ρ0 [LI sub] [] (by kernel_rfl) rfl ?_
  have hR := Rel.start [] w ρ0
  refine sim_run 9 [] (hR.cast (by kernel_rfl)) (by kernel_rfl) trivial (fun ρ100 w100 hm100 hR100 => ?_)
  refine sim_fork 5 (decide (sub ≥ 0)) (by kernel_rfl) (fun hq101 => ?_) (fun hq101 => ?_)
  have hq101 := of_decide_eq_true hq101
  refine sim_run 5 [] (hR100.cast (by kernel_rfl)) (by kernel_rfl) trivial (fun ρ102 w102 hm102 hR102 => ?_)
  refine sim_ret (LB (decide (sub < 3))) hR102 (by kernel_rfl) (by kernel_rfl) ?_
  exact ⟨retv_bool (by clear hR102 hm102 hR100 hm100 hR; grind []), hR102.toBelow⟩
  have hq101 := of_decide_eq_false hq101
  refine sim_run 5 [] (hR100.cast (by kernel_rfl)) (by kernel_rfl) trivial (fun ρ103 w103 hm103 hR103 => ?_)
  refine sim_ret (LB false) hR103 (by kernel_rfl) (by kernel_rfl) ?_
  exact ⟨retv_bool (by clear hR103 hm103 hR100 hm100 hR; grind []), hR103.toBelow⟩
  
set_option maxRecDepth 100000 in
theorem get_any (g : Nat) (m : Option Nat) (l : List (Ent Key B3)) (clock : Nat) (k : Key) (w : World) (hb : Blk w g 74 #[.map m]) (hM : MpO encK encB ρ0 [] w m l clock) :
    Calls Try.prog 17 #[.pointer (some ⟨g, 0, none⟩), .agg #[.string k.1, .string k.2]] w fun e w' => e = .returned (encB (getM l k)) ∧ Below w.heap.size w w' := by
  have hg : w.cell? ⟨g, 0, none⟩ = some (.map m) := hb.cell 0
  obtain ⟨ρ, _, e0, hR⟩ := (Rel.start [] w ρ0).open_ rfl g 0 [.v (.map m)] rfl false (World.block_lt_of_cell? _ _ hg) (fun j v hv => by
    match j, hv with
    | 0, hv => injection hv with hv; rw [← hv]; exact hg) (fun h => by cases h) (fun n r hn => by simp at hn)
  have e0 : ρ 0 = (g, 0) := e0
  refine sim_enter Try.func17 ρ [.ptr 0 0, .agg [LS k.1, LS k.2]] [⟨[.v (.map m)], false⟩] (by kernel_rfl) (by simp only [denL, LV.den, Nm.at_, e0]) ?_
  have hR := hR.cast rfl
  have hag := hR.ag_ 1 (by kernel_rfl)
  obtain ⟨a, b, c, hv⟩ : ∃ a b c, getM l k = (a, b, c) := ⟨_, _, _, rfl⟩
  rw [hv]
  have hM : MpO encK encB ρ [⟨[.v (.map m)], false⟩] w m l clock := ⟨fun g' hg' => ⟨(hM.is g' hg').1, fun hw => by
    obtain ⟨n, r, hn, hr, _⟩ := hw
    match n, hn with
    | 0, hn => injection hn with hn; rw [← hn] at hr; cases hr⟩, hM.nil⟩
  refine sim_run 14 [] (hR.cast (by kernel_rfl)) (by kernel_rfl) trivial (fun ρ200 w200 hm200 hR200 => ?_)
  have hag := hag.moved (hm200.castL (by kernel_rfl))
  have hM := hM.moved (hm200.castL (by kernel_rfl))
  refine sim_drawF2 [(0, false), (1, false), (2, false), (3, false), (4, false)] (5, [(6, true), (7, true)]) (6, [(5, true), (7, true)]) (some 7) (by kernel_rfl) (by kernel_rfl) hR200 (fun hR201 => ?_) (fun hR201 => ?_)
  have hM := hM.drew
  refine sim_ordN 5 [] hR201 (by kernel_rfl) trivial (fun ρ202 w202 hm202 hR202 => ?_)
  have hag := hag.moved (hm202.castL (by kernel_rfl))
  have hM := hM.moved (hm202.castL (by kernel_rfl))
  refine sim_ord_look (enc := encK) (encV := encB) (mx := .v (Value.map m)) (kx := .agg [LS k.fst, LS k.snd]) (ok := false) k (.agg [LI a, LI b, LI c]) (by kernel_rfl) mp_ty kt_key zero_b3 hM rfl rfl hR202 (by rw [show (look k l).getD (0, 0, 0) = (a, b, c) from hv]; rfl) (fun hR203 => ?_)
  refine sim_ordN 2 [] hR203 (by kernel_rfl) trivial (fun ρ204 w204 hm204 hR204 => ?_)
  have hag := hag.moved (hm204.castL (by kernel_rfl))
  have hM := hM.moved (hm204.castL (by kernel_rfl))
  refine sim_ord_endR hR204 (by kernel_rfl) (fun hR205 => ?_)
  refine sim_run 11 [] hR205 (by kernel_rfl) trivial (fun ρ206 w206 hm206 hR206 => ?_)
  have hag := hag.moved (hm206.castL (by kernel_rfl))
  have hM := hM.moved (hm206.castL (by kernel_rfl))
  refine sim_ret (.agg [LI a, LI b, LI c]) hR206 (by kernel_rfl) (by kernel_rfl) ?_
  exact ⟨rfl, hR206.toBelow⟩
  have hM := hM.drew
  refine sim_ordN 6 [] hR201 (by kernel_rfl) trivial (fun ρ207 w207 hm207 hR207 => ?_)
  have hag := hag.moved (hm207.castL (by kernel_rfl))
  have hM := hM.moved (hm207.castL (by kernel_rfl))
  refine sim_ord_look (enc := encK) (encV := encB) (mx := .v (Value.map m)) (kx := .agg [LS k.fst, LS k.snd]) (ok := false) k (.agg [LI a, LI b, LI c]) (by kernel_rfl) mp_ty kt_key zero_b3 hM rfl rfl hR207 (by rw [show (look k l).getD (0, 0, 0) = (a, b, c) from hv]; rfl) (fun hR208 => ?_)
  refine sim_ordN 1 [] hR208 (by kernel_rfl) trivial (fun ρ209 w209 hm209 hR209 => ?_)
  have hag := hag.moved (hm209.castL (by kernel_rfl))
  have hM := hM.moved (hm209.castL (by kernel_rfl))
  refine sim_ord_endR hR209 (by kernel_rfl) (fun hR210 => ?_)
  refine sim_run 11 [] hR210 (by kernel_rfl) trivial (fun ρ211 w211 hm211 hR211 => ?_)
  have hag := hag.moved (hm211.castL (by kernel_rfl))
  have hM := hM.moved (hm211.castL (by kernel_rfl))
  refine sim_ret (.agg [LI a, LI b, LI c]) hR211 (by kernel_rfl) (by kernel_rfl) ?_
  exact ⟨rfl, hR211.toBelow⟩
  
end Go.Proofs.Ytgbgedaedcofcaa
